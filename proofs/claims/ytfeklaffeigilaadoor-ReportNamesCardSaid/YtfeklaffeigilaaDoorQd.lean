/- The library's table of powers of 10 stands when a call begins, where the listed variables read as listed; such a world. No condition. -/
import Derived.Test.YtfeklaffeigilaaDoorRows
import Derived.Test.YtfeklaffeigilaaDoorTM
import Derived.ProofKit
import Derived.LaidMore
import Derived.OpenShut
import Derived.Stop.Joined
import Derived.ChangeArms
namespace Go.Proofs.YtfeklaffeigilaaDoor
open Go.ChangeShapes Go.WideShapes Go.ChangeAt Go.RowKit
set_option linter.unusedVariables false
set_option maxRecDepth 100000
def laidL : List (String × DataW Unit) := [("math/bits.deBruijn32tab", Rows.laid_math_bits_deBruijn32tab), ("math/bits.deBruijn64tab", Rows.laid_math_bits_deBruijn64tab), ("internal/strconv.uint64pow10", Rows.laid_internal_strconv_uint64pow10)]
theorem arr_cells{P:Program}{w:World}{fuel n:Nat}{t e:TypeId}{cs:List Value}{p:List MemPlace}(ht:P.underlying t=some (.array n e))(he:P.underlying e=some (.int .u64))(hc:P.cellsOf e=1)(hct:P.cellsOf t=n)(L:List Int)(hL:L.length=n)
  (h:DataW.trod (fun _=>()) P w 0 (fun _=>true) false fuel t cs=some (.agg (L.map fun k=>.lit (.int .u64 k)),p)):cs=L.map fun k=>Value.int .u64 k:=by
 obtain ⟨xs,m,rfl,hx,hlen,hn,hel⟩:=DataW.trod_array ht h;simp only [Prod.mk.injEq,DataW.agg.injEq] at hx;refine List.ext_getElem (by rw [hlen,hct,List.length_map,hL]) fun i h1 h2=>?_;have hi:i<n:=by rw [←hct,←hlen]; exact h1
 have hx1:i<xs.length:=by omega
 have e0:=hel i hi;rw [hc,Nat.mul_one,List.drop_eq_getElem_cons h1,List.getElem?_eq_getElem hx1] at e0;obtain ⟨k,e1,e2,_⟩:=DataW.trod_int he e0;have e3:=congrArg (fun l=>l[i]?) hx.1;have hl:i<L.length:=by omega
 simp only [List.getElem?_map,List.getElem?_eq_getElem hl,List.getElem?_eq_getElem hx1,Option.map_some,e2,Option.some.injEq,DataW.lit.injEq,Lit.int.injEq,true_and] at e3;simp only [List.take_succ_cons,List.take_zero,List.cons.injEq,and_true] at e1;rw [List.getElem_map,e1,e3]
theorem tab_of_laid{W:World}(h:laidMetH Tryd.prog laidL W):TabOK Qco W:=by
 rw [MakeChecks.laidMetH_plain _ _ _ (by kernel_rfl)] at h;obtain ⟨ps,⟨g0,t0,cs0,f0,p0,q0,hg0,ht0,hv0,hd0,⟨g1,t1,cs1,f1,p1,q1,hg1,ht1,hv1,hd1,⟨g2,t2,cs2,f2,p2,q2,hg2,ht2,hv2,hd2,_,_⟩,_⟩,_⟩,_,_⟩:=h
 have hg : Tryd.prog.globalNamed "internal/strconv.uint64pow10" = some 0 := by kernel_rfl
 obtain rfl:=Option.some.inj (hg.symm.trans hg2);have ht:(Tryd.prog.globals[0]?).map (·.type)=some 162:=by kernel_rfl
 obtain rfl:=Option.some.inj (ht.symm.trans ht2);have hc:=arr_cells (n:=20) (e:=143) (by kernel_rfl) (by kernel_rfl) (by kernel_rfl) (by kernel_rfl) [1,10,100,1000,10000,100000,1000000,10000000,100000000,1000000000,10000000000,100000000000,1000000000000,10000000000000,100000000000000,1000000000000000,10000000000000000,100000000000000000,1000000000000000000,10000000000000000000] rfl hd2;intro x hx;rw [List.mem_singleton.1 hx];refine ⟨noBlk _,?_⟩;unfold World.var? at hv2;rw [hg] at hv2;simp only [Option.bind_some] at hv2
 split at hv2
 ·rename_i cs t fr hh;obtain rfl:=Option.some.inj hv2;refine ⟨t,fr,hh.trans ?_⟩;have:cs=(cs.toList).toArray:=by simp
  rw [this,hc]; rfl
 ·cases hv2
theorem door_met(os:Os)(args:Array Value):laidMetH Tryd.prog laidL ((World.doorLaid Tryd.prog 400 os).forCall (fun _ _=>0) ⟨#[],args,[]⟩).memory :=
 laidMetH_of_parts3 (fuel:=8) (laidMet_of_run' 8 (by kernel_rfl) (by kernel_rfl)) (by kernel_rfl) (by kernel_rfl)
end Go.Proofs.YtfeklaffeigilaaDoor
