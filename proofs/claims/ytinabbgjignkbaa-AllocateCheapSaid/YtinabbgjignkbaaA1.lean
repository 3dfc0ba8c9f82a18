/- Several texts in one. No condition. -/
import Derived.Test.YtinabbgjignkbaaProg
import Derived.Test.YtinabbgjignkbaaTU
import Derived.Test.YtinabbgjignkbaaTy
import Derived.Test.YtinabbgjignkbaaTV
namespace Go.Proofs.Ytinabbgjignkbaa
open Go.Shelf
def so_ren:Go.Shelf.Ren:=⟨fun | 6=>26 | 14=>46 | 15=>47 | 20=>55 | 21=>56 | 22=>57 | 23=>58 | 24=>59 | 25=>60 | 26=>61 | 27=>62 | 28=>63 | 29=>64 | 46=>69 | 47=>70 | 48=>71 | 49=>72 | 50=>73 | 57=>75 | n=>n,fun | 22=>26 | 24=>45 | 25=>63 | 39=>67 | 45=>93 | 46=>94 | 50=>98 | 53=>101 | 55=>103 | 66=>107 | 70=>111 | 76=>113 | 77=>114 | n=>n,fun n=>n⟩
theorem so_lays:SlLaysF0.n6 Try.prog so_ren:={
 mixed:=by kernel_rfl,
 f6:=⟨Try.f26.name,by kernel_rfl,Try.func26.trans (congrArg some (by kernel_rfl))⟩,
 f14:=⟨Try.f46.name,by kernel_rfl,Try.func46.trans (congrArg some (by kernel_rfl))⟩,
 f15:=Try.func47.trans (congrArg some (by kernel_rfl)),
 f20:=⟨Try.f55.name,by kernel_rfl,Try.func55.trans (congrArg some (by kernel_rfl))⟩,
 f21:=⟨Try.f56.name,by kernel_rfl,Try.func56.trans (congrArg some (by kernel_rfl))⟩,
 f22:=⟨Try.f57.name,by kernel_rfl,Try.func57.trans (congrArg some (by kernel_rfl))⟩,
 f23:=⟨Try.f58.name,by kernel_rfl,Try.func58.trans (congrArg some (by kernel_rfl))⟩,
 f24:=⟨Try.f59.name,by kernel_rfl,Try.func59.trans (congrArg some (by kernel_rfl))⟩,
 f25:=⟨Try.f60.name,by kernel_rfl,Try.func60.trans (congrArg some (by kernel_rfl))⟩,
 f26:=⟨Try.f61.name,by kernel_rfl,Try.func61.trans (congrArg some (by kernel_rfl))⟩,
 f27:=⟨Try.f62.name,by kernel_rfl,Try.func62.trans (congrArg some (by kernel_rfl))⟩,
 f28:=Try.func63.trans (congrArg some (by kernel_rfl)),
 f29:=Try.func64.trans (congrArg some (by kernel_rfl)),
 f46:=⟨Try.f69.name,by kernel_rfl,Try.func69.trans (congrArg some (by kernel_rfl))⟩,
 f47:=Try.func70.trans (congrArg some (by kernel_rfl)),
 f48:=Try.func71.trans (congrArg some (by kernel_rfl)),
 f49:=⟨Try.f72.name,by kernel_rfl,Try.func72.trans (congrArg some (by kernel_rfl))⟩,
 f50:=⟨Try.f73.name,by kernel_rfl,Try.func73.trans (congrArg some (by kernel_rfl))⟩,
 f57:=⟨Try.f75.name,by kernel_rfl,Try.func75.trans (congrArg some (by kernel_rfl))⟩,
 t0:=Try.underlying0,
 a0:=Try.isAgg0,
 z0:=Try.sizeOf0,
 v0:=Try.zeroValue0,
 t3:=Try.underlying3,
 a3:=Try.isAgg3,
 z3:=Try.sizeOf3,
 v3:=Try.zeroValue3,
 t4:=Try.underlying4,
 a4:=Try.isAgg4,
 z4:=Try.sizeOf4,
 v4:=Try.zeroValue4,
 t5:=Try.underlying5,
 a5:=Try.isAgg5,
 z5:=Try.sizeOf5,
 v5:=Try.zeroValue5,
 t9:=Try.underlying9,
 a9:=Try.isAgg9,
 z9:=Try.sizeOf9,
 v9:=Try.zeroValue9,
 t22:=Try.underlying26,
 a22:=Try.isAgg26,
 z22:=Try.sizeOf26,
 v22:=Try.zeroValue26,
 t25:=Try.underlying63,
 a25:=Try.isAgg63,
 z25:=Try.sizeOf63,
 v25:=Try.zeroValue63,
 t39:=Try.underlying67,
 a39:=Try.isAgg67,
 z39:=Try.sizeOf67,
 v39:=Try.zeroValue67,
 t45:=Try.underlying93,
 a45:=Try.isAgg93,
 z45:=Try.sizeOf93,
 v45:=Try.zeroValue93,
 t46:=Try.underlying94,
 a46:=Try.isAgg94,
 z46:=Try.sizeOf94,
 v46:=Try.zeroValue94,
 t50:=Try.underlying98,
 a50:=Try.isAgg98,
 z50:=Try.sizeOf98,
 v50:=Try.zeroValue98,
 t53:=Try.underlying101,
 a53:=Try.isAgg101,
 z53:=Try.sizeOf101,
 v53:=Try.zeroValue101,
 t55:=Try.underlying103,
 a55:=Try.isAgg103,
 z55:=Try.sizeOf103,
 v55:=Try.zeroValue103,
 t66:=Try.underlying107,
 a66:=Try.isAgg107,
 z66:=Try.sizeOf107,
 v66:=Try.zeroValue107,
 t70:=Try.underlying111,
 a70:=Try.isAgg111,
 z70:=Try.sizeOf111,
 v70:=Try.zeroValue111,
 t76:=Try.underlying113,
 a76:=Try.isAgg113,
 z76:=Try.sizeOf113,
 v76:=Try.zeroValue113,
 t77:=Try.underlying114,
 a77:=Try.isAgg114,
 z77:=Try.sizeOf114,
 v77:=Try.zeroValue114 }
theorem so_agg:∀w,(isAgg (so_ren.t 24)).run Try.prog w = .ok true w:=Try.isAgg45
theorem so_size:∀w,(Go.sizeOf (so_ren.t 24)).run Try.prog w = .ok 3 w:=Try.sizeOf45
end Go.Proofs.Ytinabbgjignkbaa
namespace Go.Proofs.Ytinabbgjignkbaa
set_option linter.unusedVariables false
set_option linter.unusedSimpArgs false
set_option maxRecDepth 100000
open Go.RowKit
structure Qa where
 Name:ByteArray
 Amount:Int
 Cost:Int
 For:List ByteArray
def Qa.cells(x:Qa):List PV:=[.str x.Name,.int .i64 x.Amount,.int .i64 x.Cost,.sl .any 1 (x.For.map cStr)]
structure Qb where
 Name:ByteArray
 Need:Int
def Qb.cells(x:Qb):List PV:=[.str x.Name,.int .i64 x.Need]
theorem Qb.cells_eq(x y:Qb):(Qb.cells x=Qb.cells y)=(x=y):=propext ⟨fun h=>by
 cases x; cases y
 simp_all [Qb.cells],fun h=>by rw [h]⟩
theorem Qb.map_eq(x y:List Qb):(x.map Qb.cells=y.map Qb.cells)=(x=y):=map_eq_of fun a b h=>by rwa [Qb.cells_eq] at h
structure Qd where
 Asset:ByteArray
 Call:ByteArray
 Amount:Int
def Qd.cells(x:Qd):List PV:=[.str x.Asset,.str x.Call,.int .i64 x.Amount]
theorem Qd.cells_eq(x y:Qd):(Qd.cells x=Qd.cells y)=(x=y):=propext ⟨fun h=>by
 cases x; cases y
 simp_all [Qd.cells],fun h=>by rw [h]⟩
theorem Qd.map_eq(x y:List Qd):(x.map Qd.cells=y.map Qd.cells)=(x=y):=map_eq_of fun a b h=>by rwa [Qd.cells_eq] at h
structure Qbd where
 e0:Int
 e1:Int
 e2:Int
 e3:Int
 e4:Int
 e5:Int
 e6:Int
 e7:Int
def Qbd.cells(x:Qbd):List PV:=[.int .i64 x.e0,.int .i64 x.e1,.int .i64 x.e2,.int .i64 x.e3,.int .i64 x.e4,.int .i64 x.e5,.int .i64 x.e6,.int .i64 x.e7]
theorem Qbd.cells_eq(x y:Qbd):(Qbd.cells x=Qbd.cells y)=(x=y):=propext ⟨fun h=>by
 cases x; cases y
 simp_all [Qbd.cells],fun h=>by rw [h]⟩
theorem Qbd.map_eq(x y:List Qbd):(x.map Qbd.cells=y.map Qbd.cells)=(x=y):=map_eq_of fun a b h=>by rwa [Qbd.cells_eq] at h
structure Arr81 where
 e0:Qbd
 e1:Qbd
 e2:Qbd
 e3:Qbd
 e4:Qbd
 e5:Qbd
 e6:Qbd
 e7:Qbd
 e8:Qbd
 e9:Qbd
def Arr81.cells(x:Arr81):List PV:=[.int .i64 x.e0.e0,.int .i64 x.e0.e1,.int .i64 x.e0.e2,.int .i64 x.e0.e3,.int .i64 x.e0.e4,.int .i64 x.e0.e5,.int .i64 x.e0.e6,.int .i64 x.e0.e7,.int .i64 x.e1.e0,.int .i64 x.e1.e1,.int .i64 x.e1.e2,.int .i64 x.e1.e3,.int .i64 x.e1.e4,.int .i64 x.e1.e5,.int .i64 x.e1.e6,.int .i64 x.e1.e7,.int .i64 x.e2.e0,.int .i64 x.e2.e1,.int .i64 x.e2.e2,.int .i64 x.e2.e3,.int .i64 x.e2.e4,.int .i64 x.e2.e5,.int .i64 x.e2.e6,.int .i64 x.e2.e7,.int .i64 x.e3.e0,.int .i64 x.e3.e1,.int .i64 x.e3.e2,.int .i64 x.e3.e3,.int .i64 x.e3.e4,.int .i64 x.e3.e5,.int .i64 x.e3.e6,.int .i64 x.e3.e7,.int .i64 x.e4.e0,.int .i64 x.e4.e1,.int .i64 x.e4.e2,.int .i64 x.e4.e3,.int .i64 x.e4.e4,.int .i64 x.e4.e5,.int .i64 x.e4.e6,.int .i64 x.e4.e7,.int .i64 x.e5.e0,.int .i64 x.e5.e1,.int .i64 x.e5.e2,.int .i64 x.e5.e3,.int .i64 x.e5.e4,.int .i64 x.e5.e5,.int .i64 x.e5.e6,.int .i64 x.e5.e7,.int .i64 x.e6.e0,.int .i64 x.e6.e1,.int .i64 x.e6.e2,.int .i64 x.e6.e3,.int .i64 x.e6.e4,.int .i64 x.e6.e5,.int .i64 x.e6.e6,.int .i64 x.e6.e7,.int .i64 x.e7.e0,.int .i64 x.e7.e1,.int .i64 x.e7.e2,.int .i64 x.e7.e3,.int .i64 x.e7.e4,.int .i64 x.e7.e5,.int .i64 x.e7.e6,.int .i64 x.e7.e7,.int .i64 x.e8.e0,.int .i64 x.e8.e1,.int .i64 x.e8.e2,.int .i64 x.e8.e3,.int .i64 x.e8.e4,.int .i64 x.e8.e5,.int .i64 x.e8.e6,.int .i64 x.e8.e7,.int .i64 x.e9.e0,.int .i64 x.e9.e1,.int .i64 x.e9.e2,.int .i64 x.e9.e3,.int .i64 x.e9.e4,.int .i64 x.e9.e5,.int .i64 x.e9.e6,.int .i64 x.e9.e7]
structure Arr83 where
 e0:Int
 e1:Int
 e2:Int
 e3:Int
 e4:Int
 e5:Int
 e6:Int
 e7:Int
 e8:Int
 e9:Int
def Arr83.cells(x:Arr83):List PV:=[.int .i64 x.e0,.int .i64 x.e1,.int .i64 x.e2,.int .i64 x.e3,.int .i64 x.e4,.int .i64 x.e5,.int .i64 x.e6,.int .i64 x.e7,.int .i64 x.e8,.int .i64 x.e9]
theorem Arr83.cells_eq(x y:Arr83):(Arr83.cells x=Arr83.cells y)=(x=y):=propext ⟨fun h=>by
 cases x; cases y
 simp_all [Arr83.cells],fun h=>by rw [h]⟩
theorem Arr83.map_eq(x y:List Arr83):(x.map Arr83.cells=y.map Arr83.cells)=(x=y):=map_eq_of fun a b h=>by rwa [Arr83.cells_eq] at h
def str_x:ByteArray:=⟨#[]⟩
def ti36:TI:=⟨.struct [(9,0),(3,1),(3,2),(34,3)],4,56,[.str ByteArray.empty,.int .i64 0,.int .i64 0,.sl .nil 0 []]⟩
def ti9:TI:=⟨.str,1,16,[.str ByteArray.empty]⟩
def ti3:TI:=⟨.int .i64,1,8,[.int .i64 0]⟩
def ti45:TI:=⟨.struct [(9,0),(9,1),(3,2)],3,40,[.str ByteArray.empty,.str ByteArray.empty,.int .i64 0]⟩
def ti43:TI:=⟨.struct [(9,0),(3,1)],2,24,[.str ByteArray.empty,.int .i64 0]⟩
def ti34:TI:=⟨.sl 9,1,24,[.sl .nil 0 []]⟩
def ti22:TI:=⟨.sl 36,1,24,[.sl .nil 0 []]⟩
def Qa.ok(x:Qa):Prop:=(fun s:ByteArray=>s.size≤maxLen) x.Name∧(okInt .i64) x.Amount∧(okInt .i64) x.Cost∧(fun l:List ByteArray=>l.length≤maxLen∧∀x∈l,(fun s:ByteArray=>s.size≤maxLen) x) x.For∧True
def Qb.ok(x:Qb):Prop:=(fun s:ByteArray=>s.size≤maxLen) x.Name∧(okInt .i64) x.Need∧True
def Qd.ok(x:Qd):Prop:=(fun s:ByteArray=>s.size≤maxLen) x.Asset∧(fun s:ByteArray=>s.size≤maxLen) x.Call∧(okInt .i64) x.Amount∧True
def Qbd.ok(x:Qbd):Prop:=(okInt .i64) x.e0∧(okInt .i64) x.e1∧(okInt .i64) x.e2∧(okInt .i64) x.e3∧(okInt .i64) x.e4∧(okInt .i64) x.e5∧(okInt .i64) x.e6∧(okInt .i64) x.e7∧True
def Arr81.ok(x:Arr81):Prop:=Qbd.ok x.e0∧Qbd.ok x.e1∧Qbd.ok x.e2∧Qbd.ok x.e3∧Qbd.ok x.e4∧Qbd.ok x.e5∧Qbd.ok x.e6∧Qbd.ok x.e7∧Qbd.ok x.e8∧Qbd.ok x.e9∧True
def Arr83.ok(x:Arr83):Prop:=(okInt .i64) x.e0∧(okInt .i64) x.e1∧(okInt .i64) x.e2∧(okInt .i64) x.e3∧(okInt .i64) x.e4∧(okInt .i64) x.e5∧(okInt .i64) x.e6∧(okInt .i64) x.e7∧(okInt .i64) x.e8∧(okInt .i64) x.e9∧True
theorem of_9{d:Nat}{ps:List PV}(h:WT cfg.ty (d+1) 9 ps):∃x:ByteArray,ps=cStr x∧(fun s:ByteArray=>s.size≤maxLen) x:=by
 obtain ⟨n,rfl,k⟩:=wt_str (ti:=ti9) (by kernel_rfl) rfl h;exact ⟨n,rfl,k⟩
theorem of_3{d:Nat}{ps:List PV}(h:WT cfg.ty (d+1) 3 ps):∃x:Int,ps=(cInt .i64) x∧(okInt .i64) x:=by
 obtain ⟨n,rfl,k⟩:=wt_int (ti:=ti3) (by kernel_rfl) rfl h;exact ⟨n,rfl,k⟩
theorem of_34{d:Nat}{ps:List PV}(h:WT cfg.ty (d+2) 34 ps):∃x:List ByteArray,ps=(cLst 1 cStr) x∧(fun l:List ByteArray=>l.length≤maxLen∧∀x∈l,(fun s:ByteArray=>s.size≤maxLen) x) x:=by
 obtain ⟨te,es,e1,rfl,hl,hh⟩:=wt_sl (ti:=ti34) (by kernel_rfl) rfl h;obtain rfl:te=ti9:=Qf (e1.symm.trans (by kernel_rfl:cfg.ty 9=some ti9));obtain ⟨xs,rfl,hx⟩:=list_of (c:=cStr) (ok:=(fun s:ByteArray=>s.size≤maxLen)) (fun ps h=>of_9 h) es (fun c hc=>(hh c hc).2);exact ⟨xs,rfl,by simpa using hl,hx⟩
theorem of_36{d:Nat}{ps:List PV}(h:WT cfg.ty (d+3) 36 ps):∃x:Qa,ps=Qa.cells x∧Qa.ok x:=by
 have g:=wt_struct (ti:=ti36) (by kernel_rfl) rfl h
 clear h
 obtain ⟨_,_,_,rfl,_,_,h0,g0⟩:=g;obtain ⟨x0,rfl,k0⟩:=of_9 h0;obtain ⟨_,_,_,rfl,_,_,h1,g1⟩:=g0;obtain ⟨x1,rfl,k1⟩:=of_3 h1;obtain ⟨_,_,_,rfl,_,_,h2,g2⟩:=g1;obtain ⟨x2,rfl,k2⟩:=of_3 h2;obtain ⟨_,_,_,rfl,_,_,h3,g3⟩:=g2;obtain ⟨x3,rfl,k3⟩:=of_34 h3;have e:_=[]:=g3;subst e;exact ⟨⟨x0,x1,x2,x3⟩,rfl,k0,k1,k2,k3,trivial⟩
theorem of_22{d:Nat}{ps:List PV}(h:WT cfg.ty (d+4) 22 ps):∃x:List Qa,ps=(cLst 4 Qa.cells) x∧(fun l:List Qa=>l.length≤maxLen∧∀x∈l,Qa.ok x) x:=by
 obtain ⟨te,es,e1,rfl,hl,hh⟩:=wt_sl (ti:=ti22) (by kernel_rfl) rfl h;obtain rfl:te=ti36:=Qf (e1.symm.trans (by kernel_rfl:cfg.ty 36=some ti36));obtain ⟨xs,rfl,hx⟩:=list_of (c:=Qa.cells) (ok:=Qa.ok) (fun ps h=>of_36 h) es (fun c hc=>(hh c hc).2);exact ⟨xs,rfl,by simpa using hl,hx⟩
theorem arg_22{p:PV}(h:WV cfg.ty 4 22 p):∃x:List Qa,p=(.sl .any 4 (x.map Qa.cells))∧(fun l:List Qa=>l.length≤maxLen∧∀x∈l,Qa.ok x) x:=by
 obtain ⟨_,g⟩:=wv_one (ti:=ti22) (by kernel_rfl) rfl h;obtain ⟨x,e,k⟩:=of_22 (d:=0) g;exact ⟨x,(List.cons.inj e).1,k⟩
theorem of_43{d:Nat}{ps:List PV}(h:WT cfg.ty (d+2) 43 ps):∃x:Qb,ps=Qb.cells x∧Qb.ok x:=by
 have g:=wt_struct (ti:=ti43) (by kernel_rfl) rfl h
 clear h
 obtain ⟨_,_,_,rfl,_,_,h0,g0⟩:=g;obtain ⟨x0,rfl,k0⟩:=of_9 h0;obtain ⟨_,_,_,rfl,_,_,h1,g1⟩:=g0;obtain ⟨x1,rfl,k1⟩:=of_3 h1;have e:_=[]:=g1;subst e;exact ⟨⟨x0,x1⟩,rfl,k0,k1,trivial⟩
theorem arg_43{p:PV}(h:WV cfg.ty 2 43 p):∃x:Qb,p = .agg (Qb.cells x)∧Qb.ok x:=by
 obtain ⟨cs,rfl,g⟩:=wv_row (ti:=ti43) (by kernel_rfl) rfl h;obtain ⟨x,rfl,k⟩:=of_43 (d:=0) g;exact ⟨x,rfl,k⟩
end Go.Proofs.Ytinabbgjignkbaa
namespace Go.Proofs.Ytinabbgjignkbaa
set_option linter.unusedVariables false
set_option linter.unusedSimpArgs false
set_option maxRecDepth 100000
open Go.RowKit
def f9:Option Bool:=some true
theorem f9_ok{r:Bool}(h:f9=some r):Qr Try.prog false 9 [] [] (jB r) []:=by
 obtain rfl:=Qf h;exact Qr.eval Qg (N:=500) (by kernel_rfl)

noncomputable def c10:Code:=Try.f10.body.getD .skip
inductive f10n2O where
 | exit0
 | ret
def f10n2E(ba1:List Qa)(bb2:List Qb)(bc3:List Qd):f10n2O→Ex×Tr×Hp
 | .exit0=>((.exit 0),mkS [(0,(jL 4 Qa.cells ba1)),(1,(jL 2 Qb.cells bb2)),(2,(jL 3 Qd.cells bc3))],[])
 | .ret=>(.ret,mkS [(6,(jB true))],[])
def f10n2S(ba1:List Qa)(bb2:List Qb)(bc3:List Qd)(v23:Int):Tr×Hp:=(mkS [(0,(jL 4 Qa.cells ba1)),(1,(jL 2 Qb.cells bb2)),(2,(jL 3 Qd.cells bc3)),(7,(jI v23))],[])
noncomputable def f10n2:Nat→List Qa→List Qb→List Qd→Int→Option f10n2O
 | 0,_,_,_,_=>none
 | f+1,ba1,bb2,bc3,v23 =>
  bif decide (v23<(ba1.length:Int)) then
   bif decide (v23≤15) then
    (at? ba1 v23).bind fun x31 =>
    bif decide (15<(x31.For.length:Int)) then
     some .ret
    else
     (f10n2 f ba1 bb2 bc3 (wr64 (v23+1)))
   else
    some .exit0
  else
   some .exit0
theorem f10n2_ok:∀(f:Nat)(ba1:List Qa)(bb2:List Qb)(bc3:List Qd)(v23:Int){o:f10n2O},f10n2 f ba1 bb2 bc3 v23=some o→TL Try.prog Try.f10.ntmps 0 f (cL (cL (Qh 1 (cL (Qh 1 c10))))) (f10n2S ba1 bb2 bc3 v23) (·=f10n2E ba1 bb2 bc3 o)
 | 0,_,_,_,_,o,h=>by rw [f10n2] at h; cases h
 | f+1,ba1,bb2,bc3,v23,o,h=>by
  rw [f10n2] at h;refine TL.body (K:=fun s=>∃v23:Int,s=(f10n2S ba1 bb2 bc3 v23)∧f10n2 f ba1 bb2 bc3 v23=some o) ?_ (by rintro _ ⟨v23,rfl,hk⟩; exact f10n2_ok f _ _ _ _ hk);rcases Qi h with ⟨h26,h⟩|⟨h26,h⟩
  ·rcases Qi h with ⟨h27,h⟩|⟨h27,h⟩
   ·obtain ⟨x31,h32,h⟩:=Qc h;rcases Qi h with ⟨h33,h⟩|⟨h33,h⟩
    ·obtain rfl:=Qf h;exact rK Qg 2 [([(5,true),(6,true)],[(7,.bool true)],[(2,.val (jI (ba1.length:Int)))]),([],[(2,.idx (Int.toNat v23) (Qa.cells x31))],[(5,.val (jI (x31.For.length:Int)))]),j3] [some true,some true] [] [] [6] .ret ((f10n2E ba1 bb2 bc3 .ret).2) (ap (Qu (xs:=ba1) (c:=Qa.cells)) (ap3 h26 (ap h27 (ap (Qe h32).1 (ap (Ql Qa.cells (Qe h32).2) (ap (Qu (xs:=x31.For) (c:=cStr)) (ap h33 an))))))) (Qn.out rfl rfl)
    ·exact rE Qg [([(5,true),(6,true)],[(7,.bool true)],[(2,.val (jI (ba1.length:Int)))]),([],[(2,.idx (Int.toNat v23) (Qa.cells x31))],[(5,.val (jI (x31.For.length:Int)))]),j3] [some true,some false] [] [] [0,1,2,7] (.norm,(f10n2S ba1 bb2 bc3 (wr64 (v23+1)))) (ap (Qu (xs:=ba1) (c:=Qa.cells)) (ap3 h26 (ap h27 (ap (Qe h32).1 (ap (Ql Qa.cells (Qe h32).2) (ap (Qu (xs:=x31.For) (c:=cStr)) (ap h33 an))))))) (Qn.norm ⟨(wr64 (v23+1)),rfl,h⟩)
   ·obtain rfl:=Qf h;exact rK Qg 1 [([(5,true),(6,true)],[(7,.bool true)],[(2,.val (jI (ba1.length:Int)))])] [some false] [] [] [0,1,2] (.exit 0) ((f10n2E ba1 bb2 bc3 .exit0).2) (ap (Qu (xs:=ba1) (c:=Qa.cells)) (ap3 h26 (ap h27 an))) (Qn.out rfl rfl)
  ·obtain rfl:=Qf h;exact rK Qg 1 [([(5,false),(6,false)],[(7,.bool false)],[(2,.val (jI (ba1.length:Int)))])] [none] [] [] [0,1,2] (.exit 0) ((f10n2E ba1 bb2 bc3 .exit0).2) (ap (Qu (xs:=ba1) (c:=Qa.cells)) (ap3 h26 an)) (Qn.out rfl rfl)
noncomputable def f10n2L(ba1:List Qa)(bb2:List Qb)(bc3:List Qd):List Qa→Int→Option f10n2O
 | [],v23 =>
  some .exit0
 | x0::rest,v23 =>
  bif decide (v23≤15) then
   bif decide (15<(x0.For.length:Int)) then
    some .ret
   else
    (f10n2L ba1 bb2 bc3 rest (v23+1))
  else
   some .exit0
theorem f10n2L_eq(ba1:List Qa)(bb2:List Qb)(bc3:List Qd):∀(rest:List Qa)(f k:Nat),ba1.drop k=rest→ba1.length≤maxLen→rest.length<f→f10n2 f ba1 bb2 bc3 (k:Int)=f10n2L ba1 bb2 bc3 rest (k:Int)
 | _,0,_,_,_,hf=>absurd hf (Nat.not_lt_zero _)
 | [],f+1,k,hd,hm,hf=>by
  have hk:¬((k:Int)<(ba1.length:Int)):=by have:=Qbj hd; omega
  rw [f10n2,f10n2L];simp only [decide_eq_false hk,cond_false]
 | x0::rest,f+1,k,hd,hm,hf=>by
  obtain ⟨hx,hlt,hd'⟩:=Qbk hd;have hk:(k:Int)<(ba1.length:Int):=by omega
  have hw:wr64 ((k:Int)+1)=(k:Int)+1:=wr64_of (by omega) (by unfold maxLen at hm; omega);have ih:f10n2 f ba1 bb2 bc3 ((k:Int)+1)=f10n2L ba1 bb2 bc3 rest ((k:Int)+1):=f10n2L_eq ba1 bb2 bc3 rest f (k+1) hd' hm (by simpa using hf);rw [f10n2,f10n2L];simp only [decide_eq_true hk,cond_true,at_nat,hx,Option.bind_some,hw,ih]
theorem f10n2_run(ba1:List Qa)(bb2:List Qb)(bc3:List Qd)(hm:ba1.length≤maxLen):f10n2 FUEL ba1 bb2 bc3 0=f10n2L ba1 bb2 bc3 ba1 0:=f10n2L_eq ba1 bb2 bc3 ba1 FUEL 0 List.drop_zero hm (lt_FUEL hm)
inductive f10n1O where
 | norm
 | ret
def f10n1E(ba1:List Qa)(bb2:List Qb)(bc3:List Qd):f10n1O→Ex×Tr×Hp
 | .norm=>(.norm,mkS [(0,(jL 4 Qa.cells ba1)),(1,(jL 2 Qb.cells bb2)),(2,(jL 3 Qd.cells bc3))],[])
 | .ret=>(.ret,mkS [(6,(jB true))],[])
def f10n1S(ba1:List Qa)(bb2:List Qb)(bc3:List Qd):Tr×Hp:=(mkS [(0,(jL 4 Qa.cells ba1)),(1,(jL 2 Qb.cells bb2)),(2,(jL 3 Qd.cells bc3))],[])
noncomputable def f10n1(ba1:List Qa)(bb2:List Qb)(bc3:List Qd):Option f10n1O :=
 (f10n2 FUEL ba1 bb2 bc3 0).bind fun o34=>match o34 with
 | .exit0=>some .norm
 | .ret=>some .ret
theorem f10n1_ok(ba1:List Qa)(bb2:List Qb)(bc3:List Qd){o:f10n1O}(h:f10n1 ba1 bb2 bc3=some o):T Try.prog Try.f10.ntmps 0 (cL (Qh 1 c10)) (f10n1S ba1 bb2 bc3) (·=f10n1E ba1 bb2 bc3 o):=by
 unfold f10n1 at h;refine rN Qg 1 [j3] [] [] [] [0,1,2,7] (f10n2S ba1 bb2 bc3 0) an ?_;obtain ⟨o34,h35,h⟩:=Qc h;cases o34 with
 | exit0 =>
  obtain rfl:=Qf h;exact T.last' (T.bl (i:=0) (by kernel_rfl) (by kernel_rfl) (f10n2_ok FUEL ba1 bb2 bc3 0 h35)) (tds:=[]) (m:=[]) (keep:=[0,1,2]) (st2:=(f10n1E ba1 bb2 bc3 .norm).2) (by kernel_rfl) an rfl
 | ret =>
  obtain rfl:=Qf h;exact T.last' (T.bl (i:=0) (by kernel_rfl) (by kernel_rfl) (f10n2_ok FUEL ba1 bb2 bc3 0 h35)) (tds:=[]) (m:=[]) (keep:=[6]) (st2:=(f10n1E ba1 bb2 bc3 .ret).2) (by kernel_rfl) an rfl
inductive f10n0O where
 | ret (v42:Bool)
def f10n0E(a1:List Qa)(a2:List Qb)(a3:List Qd):f10n0O→Ex×Tr×Hp
 | .ret v42=>(.ret,mkS [(6,(jB v42))],[])
def f10n0S(a1:List Qa)(a2:List Qb)(a3:List Qd):Tr×Hp:=(Qaz [(jL 4 Qa.cells a1),(jL 2 Qb.cells a2),(jL 3 Qd.cells a3)] 0 .leaf,[])
noncomputable def f10n0(a1:List Qa)(a2:List Qb)(a3:List Qd):Option f10n0O :=
 (f10n1 a1 a2 a3).bind fun o36=>match o36 with
 | .norm=>bif decide (15<(a1.length:Int)) then
   some (.ret true)
  else
   bif decide (15<(a2.length:Int)) then
    some (.ret true)
   else
    some (.ret (decide (100<(a3.length:Int))))
 | .ret=>some (.ret true)
theorem f10n0_ok(a1:List Qa)(a2:List Qb)(a3:List Qd){o:f10n0O}(h:f10n0 a1 a2 a3=some o):T Try.prog Try.f10.ntmps 0 c10 (f10n0S a1 a2 a3) (·=f10n0E a1 a2 a3 o):=by
 unfold f10n0 at h;refine rN Qg 1 [j3] [] [] [] [0,1,2] (f10n1S a1 a2 a3) an ?_;obtain ⟨o36,h37,h⟩:=Qc h;cases o36 with
 | norm =>
  refine T.oneN (by kernel_rfl) (f10n1_ok a1 a2 a3 h37) (st2:=(f10n1E a1 a2 a3 .norm).2) rfl ?_;rcases Qi h with ⟨h40,h⟩|⟨h40,h⟩
  ·obtain rfl:=Qf h;exact rE Qg [(jT [4,5,6],[(7,.bool true)],[(1,.val (jI (a1.length:Int)))])] [] [] [] [6] (.ret,(f10n0E a1 a2 a3 (.ret true)).2) (ap (Qu (xs:=a1) (c:=Qa.cells)) (ap4 h40 an)) rfl
  ·rcases Qi h with ⟨h41,h⟩|⟨h41,h⟩
   ·obtain rfl:=Qf h;exact rE Qg [(jF [4,5,6]++jT [9,10,11],[(7,.bool false),(12,.bool true)],[(1,.val (jI (a1.length:Int))),(5,.val (jI (a2.length:Int)))])] [] [] [] [6] (.ret,(f10n0E a1 a2 a3 (.ret true)).2) (ap (Qu (xs:=a1) (c:=Qa.cells)) (ap2 h40 (ap (Qu (xs:=a2) (c:=Qb.cells)) (ap2 h40 (ap4 h41 an))))) rfl
   ·obtain rfl:=Qf h;exact rE Qg [(jF [4,5,6,9,10,11],[(7,.bool false),(12,.bool false)],[(1,.val (jI (a1.length:Int))),(5,.val (jI (a2.length:Int))),(10,.val (jI (a3.length:Int)))])] [] [] [] [6] (.ret,(f10n0E a1 a2 a3 (.ret (decide (100<(a3.length:Int))))).2) (ap (Qu (xs:=a1) (c:=Qa.cells)) (ap2 h40 (ap (Qu (xs:=a2) (c:=Qb.cells)) (ap2 h40 (ap2 h41 (ap (Qu (xs:=a3) (c:=Qd.cells)) (ap2 h41 an))))))) rfl
 | ret =>
  obtain rfl:=Qf h;exact T.oneX' (by kernel_rfl) (f10n1_ok a1 a2 a3 h37) (tds:=[]) (m:=[]) (keep:=[6]) (st2:=(f10n0E a1 a2 a3 (.ret true)).2) (by kernel_rfl) an rfl rfl
noncomputable def f10(a1:List Qa)(a2:List Qb)(a3:List Qd):Option Bool:=(f10n0 a1 a2 a3).bind fun o=>match o with
 | .ret v42=>some v42
theorem f10_ok(a1:List Qa)(a2:List Qb)(a3:List Qd){r:Bool}(h:f10 a1 a2 a3=some r):Qr Try.prog false 10 [(jL 4 Qa.cells a1),(jL 2 Qb.cells a2),(jL 3 Qd.cells a3)] [] (jB r) []:=by
 unfold f10 at h;obtain ⟨o,ho,h⟩:=Qc h;cases o with
 | ret v42 =>
  obtain rfl:=Qf h;exact Qr.plain Qg (f:=Try.f10) (c:=c10) (by kernel_rfl) (by kernel_rfl) (by kernel_rfl) (by kernel_rfl) ((f10n0_ok a1 a2 a3 ho).mono fun r e=>by subst e; exact ⟨.inl rfl,(jB v42),(jB v42),by kernel_rfl,by kernel_rfl,((Wk.refl _):Wk (jB v42) (jB v42))⟩)

noncomputable def c12:Code:=Try.f12.body.getD .skip
inductive f12r1n2O where
 | exit0 (v44:List Qa)
def f12r1n2E(ba1:List Qa):f12r1n2O→Ex×Tr×Hp
 | .exit0 v44=>((.exit 0),mkS [(3,(.own 0))],[jR 4 Qa.cells v44])
def f12r1n2S(ba1:List Qa)(v28:Int)(v29:List Qa):Tr×Hp:=(mkS [(0,(jL 4 Qa.cells ba1)),(3,(.own 0)),(4,(jI v28))],[jR 4 Qa.cells v29])
noncomputable def f12r1n2:Nat→List Qa→Int→List Qa→Option f12r1n2O
 | 0,_,_,_=>none
 | f+1,ba1,v28,v29 =>
  bif decide (v28<(ba1.length:Int)) then
   (at? ba1 v28).bind fun x38 =>
   bif (x38.For.isEmpty) then
    req (fit (v29.length+1) 56) <|
    (f12r1n2 f ba1 (wr64 (v28+1)) (v29++[(Qa.mk x38.Name x38.Amount x38.Cost [])]))
   else
    req (fit x38.For.length 16) <|
    req (fit (v29.length+1) 56) <|
    (f12r1n2 f ba1 (wr64 (v28+1)) (v29++[x38]))
  else
   some (.exit0 v29)
theorem f12r1n2_ok:∀(f:Nat)(ba1:List Qa)(v28:Int)(v29:List Qa){o:f12r1n2O},f12r1n2 f ba1 v28 v29=some o→TL Try.prog Try.f12.ntmps 0 f (cL (cL (Qh 1 (cL (Qh 2 c12))))) (f12r1n2S ba1 v28 v29) (·=f12r1n2E ba1 o)
 | 0,_,_,_,o,h=>by rw [f12r1n2] at h; cases h
 | f+1,ba1,v28,v29,o,h=>by
  rw [f12r1n2] at h;refine TL.body (K:=fun s=>∃v28:Int,∃v29:List Qa,s=(f12r1n2S ba1 v28 v29)∧f12r1n2 f ba1 v28 v29=some o) ?_ (by rintro _ ⟨v28,v29,rfl,hk⟩; exact f12r1n2_ok f _ _ _ hk);rcases Qi h with ⟨h31,h⟩|⟨h31,h⟩
  ·obtain ⟨x38,h39,h⟩:=Qc h;rcases Qi h with ⟨h40,h⟩|⟨h40,h⟩
   ·obtain ⟨h41,h⟩:=Qk h;exact rE Qg [([],[],[(2,.val (jI (ba1.length:Int)))]),([],[(2,.idx (Int.toNat v28) (Qa.cells x38))],[]),([],[(3,.app false)],[]),([],[(3,.fits)],[(3,.row 4 ((v29++[(Qa.mk x38.Name x38.Amount x38.Cost [])]).map Qa.cells))]),j3] [some true] [] [4] [0,3,4] (.norm,(f12r1n2S ba1 (wr64 (v28+1)) (v29++[(Qa.mk x38.Name x38.Amount x38.Cost [])]))) (ap (Qu (xs:=ba1) (c:=Qa.cells)) (ap h31 (ap (Qe h39).1 (ap (Ql Qa.cells (Qe h39).2) (ap (nil_map (c:=cStr) h40) (ap (fit_map (te:=ti36) (xs:=v29) (n:=1) (c:=Qa.cells) h41 rfl) (ap (app_cv (xs:=v29) (ys:=[(Qa.mk x38.Name x38.Amount x38.Cost [])]) (c:=Qa.cells)) an))))))) (Qn.norm ⟨(wr64 (v28+1)),(v29++[(Qa.mk x38.Name x38.Amount x38.Cost [])]),rfl,h⟩)
   ·obtain ⟨h42,h⟩:=Qk h;obtain ⟨h43,h⟩:=Qk h;exact rE Qg [([],[],[(2,.val (jI (ba1.length:Int)))]),([],[(2,.idx (Int.toNat v28) (Qa.cells x38))],[]),([],[(3,.app true)],[]),([],[(3,.fits)],[(3,.row 5 ((v29++[x38]).map Qa.cells))]),j3] [some true] [] [5] [0,3,4] (.norm,(f12r1n2S ba1 (wr64 (v28+1)) (v29++[x38]))) (ap (Qu (xs:=ba1) (c:=Qa.cells)) (ap h31 (ap (Qe h39).1 (ap (Ql Qa.cells (Qe h39).2) (ap (fit_map0z (te:=ti9) (xs:=x38.For) (c:=cStr) h42 rfl) (ap (ne_map (c:=cStr) h40) (ap (len_all (c:=cStr) (xs:=x38.For) (n:=1) (fun _=>rfl)) (ap (fit_map (te:=ti36) (xs:=v29) (n:=1) (c:=Qa.cells) h43 rfl) (ap (app_cv (xs:=v29) (ys:=[x38]) (c:=Qa.cells)) an))))))))) (Qn.norm ⟨(wr64 (v28+1)),(v29++[x38]),rfl,h⟩)
  ·obtain rfl:=Qf h;exact rK Qg 1 [([],[],[(2,.val (jI (ba1.length:Int)))])] [some false] [] [0] [3] (.exit 0) ((f12r1n2E ba1 (.exit0 v29)).2) (ap (Qu (xs:=ba1) (c:=Qa.cells)) (ap h31 an)) (Qn.out rfl rfl)
noncomputable def f12r1n2L(ba1:List Qa):List Qa→Int→(List Qa)→Option f12r1n2O
 | [],v28,v29 =>
  some (.exit0 v29)
 | x0::rest,v28,v29 =>
  bif (x0.For.isEmpty) then
   req (fit (v29.length+1) 56) <|
   (f12r1n2L ba1 rest (v28+1) (v29++[(Qa.mk x0.Name x0.Amount x0.Cost [])]))
  else
   req (fit x0.For.length 16) <|
   req (fit (v29.length+1) 56) <|
   (f12r1n2L ba1 rest (v28+1) (v29++[x0]))
theorem f12r1n2L_eq(ba1:List Qa):∀(rest:List Qa)(f k:Nat)(v29:List Qa),ba1.drop k=rest→ba1.length≤maxLen→rest.length<f→f12r1n2 f ba1 (k:Int) v29=f12r1n2L ba1 rest (k:Int) v29
 | _,0,_,_,_,_,hf=>absurd hf (Nat.not_lt_zero _)
 | [],f+1,k,v29,hd,hm,hf=>by
  have hk:¬((k:Int)<(ba1.length:Int)):=by have:=Qbj hd; omega
  rw [f12r1n2,f12r1n2L];simp only [decide_eq_false hk,cond_false]
 | x0::rest,f+1,k,v29,hd,hm,hf=>by
  obtain ⟨hx,hlt,hd'⟩:=Qbk hd;have hk:(k:Int)<(ba1.length:Int):=by omega
  have hw:wr64 ((k:Int)+1)=(k:Int)+1:=wr64_of (by omega) (by unfold maxLen at hm; omega);have ih:∀(v29:List Qa),f12r1n2 f ba1 ((k:Int)+1) v29=f12r1n2L ba1 rest ((k:Int)+1) v29:=fun v29=>f12r1n2L_eq ba1 rest f (k+1) v29 hd' hm (by simpa using hf);rw [f12r1n2,f12r1n2L];simp only [decide_eq_true hk,cond_true,at_nat,hx,Option.bind_some,hw,ih]
theorem f12r1n2_run(ba1 v29:List Qa)(hm:ba1.length≤maxLen):f12r1n2 FUEL ba1 0 v29=f12r1n2L ba1 ba1 0 v29:=f12r1n2L_eq ba1 ba1 FUEL 0 v29 List.drop_zero hm (lt_FUEL hm)
inductive f12r1n1O where
 | norm (v48:List Qa)
def f12r1n1E(ba1:List Qa):f12r1n1O→Ex×Tr×Hp
 | .norm v48=>(.norm,mkS [(3,(.own 0))],[jR 4 Qa.cells v48])
def f12r1n1S(ba1:List Qa):Tr×Hp:=(mkS [(0,(jL 4 Qa.cells ba1)),(3,(.pl (.sl .nil 0 [])))],[])
noncomputable def f12r1n1(ba1:List Qa):Option f12r1n1O :=
 (f12r1n2 FUEL ba1 0 []).bind fun o45=>match o45 with
 | .exit0 v47=>some (.norm v47)
theorem f12r1n1_ok(ba1:List Qa){o:f12r1n1O}(h:f12r1n1 ba1=some o):T Try.prog Try.f12.ntmps 0 (cL (Qh 2 c12)) (f12r1n1S ba1) (·=f12r1n1E ba1 o):=by
 unfold f12r1n1 at h;refine rN Qg 1 [j3] [] [.mat 3 4] [0] [0,3,4] (f12r1n2S ba1 0 []) an ?_;obtain ⟨o45,h46,h⟩:=Qc h;cases o45 with
 | exit0 v47 =>
  obtain rfl:=Qf h;exact T.last' (T.bl (i:=0) (by kernel_rfl) (by kernel_rfl) (f12r1n2_ok FUEL ba1 0 [] h46)) (tds:=[]) (m:=[0]) (keep:=[3]) (st2:=(f12r1n1E ba1 (.norm v47)).2) (by kernel_rfl) an rfl
inductive f12r1n0O where
 | ret (v52:List Qa)
def f12r1n0E(a1:List Qa):f12r1n0O→Ex×Tr×Hp
 | .ret v52=>(.ret,mkS [(2,(.own 0))],[jR 4 Qa.cells v52])
def f12r1n0S(a1:List Qa):Tr×Hp:=(Qaz [(jL 4 Qa.cells a1)] 0 .leaf,[])
noncomputable def f12r1n0(a1:List Qa):Option f12r1n0O :=
 (f12r1n1 a1).bind fun o49=>match o49 with
 | .norm v51=>some (.ret v51)
theorem f12r1n0_ok(a1:List Qa){o:f12r1n0O}(h:f12r1n0 a1=some o):T Try.prog Try.f12.ntmps 0 c12 (f12r1n0S a1) (·=f12r1n0E a1 o):=by
 unfold f12r1n0 at h;refine rN Qg 2 [j3,j3] [] [] [] [0,3] (f12r1n1S a1) an ?_;obtain ⟨o49,h50,h⟩:=Qc h;cases o49 with
 | norm v51 =>
  refine T.oneN (by kernel_rfl) (f12r1n1_ok a1 h50) (st2:=(f12r1n1E a1 (.norm v51)).2) rfl ?_;obtain rfl:=Qf h;exact rE Qg [j3] [] [] [0] [2] (.ret,(f12r1n0E a1 (.ret v51)).2) an rfl
noncomputable def f12r1(a1:List Qa):Option (List Qa):=(f12r1n0 a1).bind fun o=>match o with
 | .ret v52=>some v52
theorem f12r1_ok(a1:List Qa){r:List Qa}(h:f12r1 a1=some r):Qr Try.prog true 12 [(jL 4 Qa.cells a1)] [] (.own 0) [jR 4 Qa.cells r]:=by
 unfold f12r1 at h;obtain ⟨o,ho,h⟩:=Qc h;cases o with
 | ret v52 =>
  obtain rfl:=Qf h;exact Qr.shared Qg (f:=Try.f12) (c:=c12) (by kernel_rfl) (by kernel_rfl) (by kernel_rfl) ((f12r1n0_ok a1 ho).mono fun r e=>by subst e; exact ⟨.inl rfl,by kernel_rfl,by kernel_rfl⟩)

noncomputable def c29:Code:=Try.f29.body.getD .skip
inductive f29n0O where
 | ret (v6:Bool)
def f29n0E(a1 a2 a3:Int):f29n0O→Ex×Tr×Hp
 | .ret v6=>(.ret,mkS [(6,(jB v6))],[])
def f29n0S(a1 a2 a3:Int):Tr×Hp:=(Qaz [(jI a1),(jI a2),(jI a3)] 0 .leaf,[])
noncomputable def f29n0(a1 a2 a3:Int):Option f29n0O :=
 bif decide (a2≤a1) then
  some (.ret (decide (a1≤a3)))
 else
  some (.ret false)
theorem f29n0_ok(a1 a2 a3:Int){o:f29n0O}(h:f29n0 a1 a2 a3=some o):T Try.prog Try.f29.ntmps 0 c29 (f29n0S a1 a2 a3) (·=f29n0E a1 a2 a3 o):=by
 unfold f29n0 at h;rcases Qi h with ⟨h5,h⟩|⟨h5,h⟩
 ·obtain rfl:=Qf h;exact rE Qg [j3,(jT [4,5,6],[(7,.bool true)],[])] [] [] [] [6] (.ret,(f29n0E a1 a2 a3 (.ret (decide (a1≤a3)))).2) (ap4 h5 an) rfl
 ·obtain rfl:=Qf h;exact rE Qg [j3,(jF [4,5,6],[(7,.bool false)],[])] [] [] [] [6] (.ret,(f29n0E a1 a2 a3 (.ret false)).2) (ap4 h5 an) rfl
noncomputable def f29(a1 a2 a3:Int):Option Bool:=(f29n0 a1 a2 a3).bind fun o=>match o with
 | .ret v6=>some v6
theorem f29_ok(a1 a2 a3:Int){r:Bool}(h:f29 a1 a2 a3=some r):Qr Try.prog false 29 [(jI a1),(jI a2),(jI a3)] [] (jB r) []:=by
 unfold f29 at h;obtain ⟨o,ho,h⟩:=Qc h;cases o with
 | ret v6 =>
  obtain rfl:=Qf h;exact Qr.plain Qg (f:=Try.f29) (c:=c29) (by kernel_rfl) (by kernel_rfl) (by kernel_rfl) (by kernel_rfl) ((f29n0_ok a1 a2 a3 ho).mono fun r e=>by subst e; exact ⟨.inl rfl,(jB v6),(jB v6),by kernel_rfl,by kernel_rfl,((Wk.refl _):Wk (jB v6) (jB v6))⟩)

noncomputable def c66:Code:=Try.f66.body.getD .skip
inductive f66n0O where
 | ret (v10:Bool)
def f66n0E(a1:Int):f66n0O→Ex×Tr×Hp
 | .ret v10=>(.ret,mkS [(2,(jB v10))],[])
def f66n0S(a1:Int):Tr×Hp:=(Qaz [(.pl (.int .u8 a1))] 0 .leaf,[])
noncomputable def f66n0(a1:Int):Option f66n0O :=
 bif decide (97≤a1) then
  bif decide (a1≤122) then
   some (.ret true)
  else
   bif decide (65≤a1) then
    some (.ret (decide (a1≤90)))
   else
    some (.ret false)
 else
  bif decide (65≤a1) then
   some (.ret (decide (a1≤90)))
  else
   some (.ret false)
theorem f66n0_ok(a1:Int){o:f66n0O}(h:f66n0 a1=some o):T Try.prog Try.f66.ntmps 0 c66 (f66n0S a1) (·=f66n0E a1 o):=by
 unfold f66n0 at h;rcases Qi h with ⟨h6,h⟩|⟨h6,h⟩
 ·rcases Qi h with ⟨h7,h⟩|⟨h7,h⟩
  ·obtain rfl:=Qf h;exact rE Qg [j3,(jT [3,4,7,8,9,12],[(5,.bool true),(13,.bool true)],[])] [] [] [] [2] (.ret,(f66n0E a1 (.ret true)).2) (ap3 h6 (ap h7 (ap4 h7 an))) rfl
  ·rcases Qi h with ⟨h8,h⟩|⟨h8,h⟩
   ·obtain rfl:=Qf h;exact rE Qg [j3,(jF [7,8,9,12]++jT [3,4,10,11],[(5,.bool true),(12,.bool true),(13,.bool false)],[])] [] [] [] [2] (.ret,(f66n0E a1 (.ret (decide (a1≤90)))).2) (ap3 h6 (ap3 h7 (ap2 h8 (ap h7 (ap h8 (ap h7 an)))))) rfl
   ·obtain rfl:=Qf h;exact rE Qg [j3,(jF [7,8,9,10,11,12]++jT [3,4],[(5,.bool true),(12,.bool false),(13,.bool false)],[])] [] [] [] [2] (.ret,(f66n0E a1 (.ret false)).2) (ap3 h6 (ap3 h7 (ap2 h8 (ap h7 (ap h8 (ap h7 an)))))) rfl
 ·rcases Qi h with ⟨h9,h⟩|⟨h9,h⟩
  ·obtain rfl:=Qf h;exact rE Qg [j3,(jF [3,4]++jT [10,11],[(5,.bool false),(12,.bool true)],[])] [] [] [] [2] (.ret,(f66n0E a1 (.ret (decide (a1≤90)))).2) (ap3 h6 (ap3 h9 an)) rfl
  ·obtain rfl:=Qf h;exact rE Qg [j3,(jF [3,4,10,11],[(5,.bool false),(12,.bool false)],[])] [] [] [] [2] (.ret,(f66n0E a1 (.ret false)).2) (ap3 h6 (ap3 h9 an)) rfl
noncomputable def f66(a1:Int):Option Bool:=(f66n0 a1).bind fun o=>match o with
 | .ret v10=>some v10
theorem f66_ok(a1:Int){r:Bool}(h:f66 a1=some r):Qr Try.prog false 66 [(.pl (.int .u8 a1))] [] (jB r) []:=by
 unfold f66 at h;obtain ⟨o,ho,h⟩:=Qc h;cases o with
 | ret v10 =>
  obtain rfl:=Qf h;exact Qr.plain Qg (f:=Try.f66) (c:=c66) (by kernel_rfl) (by kernel_rfl) (by kernel_rfl) (by kernel_rfl) ((f66n0_ok a1 ho).mono fun r e=>by subst e; exact ⟨.inl rfl,(jB v10),(jB v10),by kernel_rfl,by kernel_rfl,((Wk.refl _):Wk (jB v10) (jB v10))⟩)

noncomputable def c50:Code:=Try.f50.body.getD .skip
inductive f50n3O where
 | norm (v148:Bool)
def f50n3E(be1:ByteArray)(bf2:UInt8)(bg3:Int):f50n3O→Ex×Tr×Hp
 | .norm v148=>(.norm,mkS [(0,(jS be1)),(20,(jI (be1.size:Int))),(21,(jI bg3)),(45,(jB v148))],[])
def f50n3S(be1:ByteArray)(bf2:UInt8)(bg3:Int):Tr×Hp:=(mkS [(0,(jS be1)),(4,(.pl (.int .u8 (bf2.toNat:Int)))),(20,(jI (be1.size:Int))),(21,(jI bg3))],[])
noncomputable def f50n3(be1:ByteArray)(bf2:UInt8)(bg3:Int):Option f50n3O :=
 (f66 (bf2.toNat:Int)).bind fun x141 =>
 bif x141 then
  some (.norm false)
 else
  bif decide ((bf2.toNat:Int)<48) then
   bif decide ((bf2.toNat:Int)=95) then
    some (.norm false)
   else
    some (.norm (!(decide ((bf2.toNat:Int)=45))))
  else
   bif decide (57<(bf2.toNat:Int)) then
    bif decide ((bf2.toNat:Int)=95) then
     some (.norm false)
    else
     some (.norm (!(decide ((bf2.toNat:Int)=45))))
   else
    some (.norm false)
theorem f50n3_ok(be1:ByteArray)(bf2:UInt8)(bg3:Int){o:f50n3O}(h:f50n3 be1 bf2 bg3=some o):T Try.prog Try.f50.ntmps 0 (cL (Qh 2 (cL (cL (Qh 2 (cL (cL (Qh 1 (cL (Qh 2 c50)))))))))) (f50n3S be1 bf2 bg3) (·=f50n3E be1 bf2 bg3 o):=by
 unfold f50n3 at h;obtain ⟨x141,h142,h⟩:=Qc h;rcases Qi h with ⟨h143,h⟩|⟨h143,h⟩
 ·obtain rfl:=Qf h;exact rE Qg [(jF [4,5,6,9],[jH 1 (jB x141),(10,.bool false)],[])] [] [] [] [0,20,21,45] (.norm,(f50n3E be1 bf2 bg3 (.norm false)).2) (ap (Qab h143) (ap4 (Qab h143) (ap (f66_ok (bf2.toNat:Int) h142) an))) rfl
 ·rcases Qi h with ⟨h144,h⟩|⟨h144,h⟩
  ·rcases Qi h with ⟨h145,h⟩|⟨h145,h⟩
   ·obtain rfl:=Qf h;exact rE Qg [(jF [16,17]++jT [4,5,6,7,8,9],[jH 1 (jB x141),(9,.bool true),(10,.bool true),(18,.bool false)],[])] [] [] [] [0,20,21,45] (.norm,(f50n3E be1 bf2 bg3 (.norm false)).2) (ap3 (Qak h143) (ap2 h144 (ap (Qak h143) (ap h144 (ap (Qak h143) (ap3 (Qab h145) (ap (f66_ok (bf2.toNat:Int) h142) an))))))) rfl
   ·obtain rfl:=Qf h;exact rE Qg [(jT [4,5,6,7,8,9,16,17],[jH 1 (jB x141),(9,.bool true),(10,.bool true),(18,.bool true)],[])] [] [] [] [0,20,21,45] (.norm,(f50n3E be1 bf2 bg3 (.norm (!(decide ((bf2.toNat:Int)=45))))).2) (ap3 (Qak h143) (ap2 h144 (ap (Qak h143) (ap h144 (ap (Qak h143) (ap3 (Qak h145) (ap (f66_ok (bf2.toNat:Int) h142) an))))))) rfl
  ·rcases Qi h with ⟨h146,h⟩|⟨h146,h⟩
   ·rcases Qi h with ⟨h147,h⟩|⟨h147,h⟩
    ·obtain rfl:=Qf h;exact rE Qg [(jF [7,8,16,17]++jT [4,5,6,9,12,13],[jH 1 (jB x141),(9,.bool false),(10,.bool true),(14,.bool true),(18,.bool false)],[])] [] [] [] [0,20,21,45] (.norm,(f50n3E be1 bf2 bg3 (.norm false)).2) (ap3 (Qak h143) (ap2 h144 (ap (Qak h143) (ap h144 (ap (Qak h143) (ap3 h146 (ap3 (Qab h147) (ap (f66_ok (bf2.toNat:Int) h142) an)))))))) rfl
    ·obtain rfl:=Qf h;exact rE Qg [(jF [7,8]++jT [4,5,6,9,12,13,16,17],[jH 1 (jB x141),(9,.bool false),(10,.bool true),(14,.bool true),(18,.bool true)],[])] [] [] [] [0,20,21,45] (.norm,(f50n3E be1 bf2 bg3 (.norm (!(decide ((bf2.toNat:Int)=45))))).2) (ap3 (Qak h143) (ap2 h144 (ap (Qak h143) (ap h144 (ap (Qak h143) (ap3 h146 (ap3 (Qak h147) (ap (f66_ok (bf2.toNat:Int) h142) an)))))))) rfl
   ·obtain rfl:=Qf h;exact rE Qg [(jF [7,8,12,13]++jT [4,5,6,9],[jH 1 (jB x141),(9,.bool false),(10,.bool true),(14,.bool false)],[])] [] [] [] [0,20,21,45] (.norm,(f50n3E be1 bf2 bg3 (.norm false)).2) (ap3 (Qak h143) (ap2 h144 (ap (Qak h143) (ap h144 (ap (Qak h143) (ap3 h146 (ap (f66_ok (bf2.toNat:Int) h142) an))))))) rfl
inductive f50n2O where
 | norm
 | ret
def f50n2E(be1:ByteArray)(bg2:Int):f50n2O→Ex×Tr×Hp
 | .norm=>(.norm,mkS [(0,(jS be1)),(20,(jI (be1.size:Int))),(21,(jI bg2))],[])
 | .ret=>(.ret,mkS [(2,(jB false))],[])
def f50n2S(be1:ByteArray)(bg2:Int):Tr×Hp:=(mkS [(0,(jS be1)),(20,(jI (be1.size:Int))),(21,(jI bg2))],[])
noncomputable def f50n2(be1:ByteArray)(bg2:Int):Option f50n2O :=
 (at? be1.data.toList bg2).bind fun x125 =>
 (f50n3 be1 x125 bg2).bind fun o149=>match o149 with
 | .norm v151=>bif v151 then
   some .ret
  else
   some .norm
theorem f50n2_ok(be1:ByteArray)(bg2:Int){o:f50n2O}(h:f50n2 be1 bg2=some o):T Try.prog Try.f50.ntmps 0 (cL (Qh 2 (cL (cL (Qh 1 (cL (Qh 2 c50))))))) (f50n2S be1 bg2) (·=f50n2E be1 bg2 o):=by
 unfold f50n2 at h;refine T.block' (i:=1) (by kernel_rfl) ?_;obtain ⟨x125,h126,h⟩:=Qc h;refine rN Qg 2 [j3,([],[(2,.byte (Int.toNat bg2) x125)],[])] [] [] [] [0,4,20,21] (f50n3S be1 x125 bg2) (ap (Qe h126).1 (ap (Qe h126).2 an)) ?_;obtain ⟨o149,h150,h⟩:=Qc h;cases o149 with
 | norm v151 =>
  refine T.oneN (by kernel_rfl) (f50n3_ok be1 x125 bg2 h150) (st2:=(f50n3E be1 x125 bg2 (.norm v151)).2) rfl ?_;rcases Qi h with ⟨h153,h⟩|⟨h153,h⟩
  ·obtain rfl:=Qf h;exact rE Qg [j3] [some true] [] [] [2] (.ret,(f50n2E be1 bg2 .ret).2) (ap h153 an) rfl
  ·obtain rfl:=Qf h;exact rE Qg [] [some false] [] [] [0,20,21] (.norm,(f50n2E be1 bg2 .norm).2) (ap h153 an) rfl
inductive f50n4O where
 | exit0
 | ret
def f50n4E(be1:ByteArray):f50n4O→Ex×Tr×Hp
 | .exit0=>((.exit 0),mkS [],[])
 | .ret=>(.ret,mkS [(2,(jB false))],[])
def f50n4S(be1:ByteArray)(v109:Int):Tr×Hp:=(mkS [(0,(jS be1)),(20,(jI (be1.size:Int))),(21,(jI v109))],[])
noncomputable def f50n4:Nat→ByteArray→Int→Option f50n4O
 | 0,_,_=>none
 | f+1,be1,v109 =>
  bif decide (v109<(be1.size:Int)) then
   (f50n2 be1 v109).bind fun o154=>match o154 with
   | .norm=>(f50n4 f be1 (wr64 (v109+1)))
   | .ret=>some .ret
  else
   some .exit0
theorem f50n4_ok:∀(f:Nat)(be1:ByteArray)(v109:Int){o:f50n4O},f50n4 f be1 v109=some o→TL Try.prog Try.f50.ntmps 0 f (cL (cL (Qh 1 (cL (Qh 2 c50))))) (f50n4S be1 v109) (·=f50n4E be1 o)
 | 0,_,_,o,h=>by rw [f50n4] at h; cases h
 | f+1,be1,v109,o,h=>by
  rw [f50n4] at h;refine TL.body (K:=fun s=>∃v109:Int,s=(f50n4S be1 v109)∧f50n4 f be1 v109=some o) ?_ (by rintro _ ⟨v109,rfl,hk⟩; exact f50n4_ok f _ _ hk);rcases Qi h with ⟨h111,h⟩|⟨h111,h⟩
  ·refine rN Qg 2 [j3] [some true] [] [] [0,20,21] (f50n2S be1 v109) (ap h111 an) ?_;obtain ⟨o154,h155,h⟩:=Qc h;cases o154 with
   | norm =>
    refine T.oneN (by kernel_rfl) (f50n2_ok be1 v109 h155) (st2:=(f50n2E be1 v109 .norm).2) rfl ?_;exact rE Qg [j3] [] [] [] [0,20,21] (.norm,(f50n4S be1 (wr64 (v109+1)))) an (Qn.norm ⟨(wr64 (v109+1)),rfl,h⟩)
   | ret =>
    obtain rfl:=Qf h;exact T.oneX' (by kernel_rfl) (f50n2_ok be1 v109 h155) (tds:=[]) (m:=[]) (keep:=[2]) (st2:=(f50n4E be1 .ret).2) (by kernel_rfl) an rfl (Qn.out rfl rfl)
  ·obtain rfl:=Qf h;exact rK Qg 2 [j3] [some false] [] [] [] (.exit 0) ((f50n4E be1 .exit0).2) (ap h111 an) (Qn.out rfl rfl)
inductive f50n1O where
 | norm
 | ret
def f50n1E(be1:ByteArray):f50n1O→Ex×Tr×Hp
 | .norm=>(.norm,mkS [],[])
 | .ret=>(.ret,mkS [(2,(jB false))],[])
def f50n1S(be1:ByteArray):Tr×Hp:=(mkS [(0,(jS be1))],[])
noncomputable def f50n1(be1:ByteArray):Option f50n1O :=
 (f50n4 FUEL be1 0).bind fun o156=>match o156 with
 | .exit0=>some .norm
 | .ret=>some .ret
theorem f50n1_ok(be1:ByteArray){o:f50n1O}(h:f50n1 be1=some o):T Try.prog Try.f50.ntmps 0 (cL (Qh 2 c50)) (f50n1S be1) (·=f50n1E be1 o):=by
 unfold f50n1 at h;refine rN Qg 1 [j3] [] [] [] [0,20,21] (f50n4S be1 0) an ?_;obtain ⟨o156,h157,h⟩:=Qc h;cases o156 with
 | exit0 =>
  obtain rfl:=Qf h;exact T.last' (T.bl (i:=0) (by kernel_rfl) (by kernel_rfl) (f50n4_ok FUEL be1 0 h157)) (tds:=[]) (m:=[]) (keep:=[]) (st2:=(f50n1E be1 .norm).2) (by kernel_rfl) an rfl
 | ret =>
  obtain rfl:=Qf h;exact T.last' (T.bl (i:=0) (by kernel_rfl) (by kernel_rfl) (f50n4_ok FUEL be1 0 h157)) (tds:=[]) (m:=[]) (keep:=[2]) (st2:=(f50n1E be1 .ret).2) (by kernel_rfl) an rfl
inductive f50n0O where
 | ret (v160:Bool)
def f50n0E(a1:ByteArray):f50n0O→Ex×Tr×Hp
 | .ret v160=>(.ret,mkS [(2,(jB v160))],[])
def f50n0S(a1:ByteArray):Tr×Hp:=(Qaz [(jS a1)] 0 .leaf,[])
noncomputable def f50n0(a1:ByteArray):Option f50n0O :=
 bif decide ((a1.size:Int)<1) then
  some (.ret false)
 else
  bif decide (40<(a1.size:Int)) then
   some (.ret false)
  else
   (at? a1.data.toList 0).bind fun x11 =>
   (f66 (x11.toNat:Int)).bind fun x13 =>
   bif x13 then
    (f50n1 a1).bind fun o158=>match o158 with
    | .norm=>some (.ret true)
    | .ret=>some (.ret false)
   else
    some (.ret false)
theorem f50n0_ok(a1:ByteArray){o:f50n0O}(h:f50n0 a1=some o):T Try.prog Try.f50.ntmps 0 c50 (f50n0S a1) (·=f50n0E a1 o):=by
 unfold f50n0 at h;rcases Qi h with ⟨h9,h⟩|⟨h9,h⟩
 ·obtain rfl:=Qf h;exact rK Qg 2 [j3,(jT [4,5,6],[(7,.bool true)],[]),j3] [none] [] [] [2] .ret ((f50n0E a1 (.ret false)).2) (ap4 h9 an) rfl
 ·rcases Qi h with ⟨h10,h⟩|⟨h10,h⟩
  ·obtain rfl:=Qf h;exact rK Qg 2 [j3,(jF [4,5,6]++jT [9,10,11,12],[(7,.bool false),(13,.bool true)],[]),j3] [none] [] [] [2] .ret ((f50n0E a1 (.ret false)).2) (ap4 h9 (ap h10 (ap4 h10 an))) rfl
  ·obtain ⟨x11,h12,h⟩:=Qc h;obtain ⟨x13,h14,h⟩:=Qc h;rcases Qi h with ⟨h15,h⟩|⟨h15,h⟩
   ·refine rN Qg 2 [j3,(jF [4,5,6,9,10,11,12],[(7,.bool false),(10,.byte (Int.toNat 0) x11),jH 11 (jB x13),(13,.bool false)],[])] [some false] [] [] [0] (f50n1S a1) (ap4 h9 (ap2 h10 (ap (Qe h12).1 (ap (Qe h12).2 (ap3 h10 (ap (f66_ok (x11.toNat:Int) h14) (ap (Qab h15) an))))))) ?_;obtain ⟨o158,h159,h⟩:=Qc h;cases o158 with
    | norm =>
     refine T.oneN (by kernel_rfl) (f50n1_ok a1 h159) (st2:=(f50n1E a1 .norm).2) rfl ?_;obtain rfl:=Qf h;exact rE Qg [j3] [] [] [] [2] (.ret,(f50n0E a1 (.ret true)).2) an rfl
    | ret =>
     obtain rfl:=Qf h;exact T.oneX' (by kernel_rfl) (f50n1_ok a1 h159) (tds:=[]) (m:=[]) (keep:=[2]) (st2:=(f50n0E a1 (.ret false)).2) (by kernel_rfl) an rfl rfl
   ·obtain rfl:=Qf h;exact rK Qg 2 [j3,(jF [4,5,6,9,10,11,12],[(7,.bool false),(10,.byte (Int.toNat 0) x11),jH 11 (jB x13),(13,.bool false)],[]),j3] [some true] [] [] [2] .ret ((f50n0E a1 (.ret false)).2) (ap4 h9 (ap2 h10 (ap (Qe h12).1 (ap (Qe h12).2 (ap3 h10 (ap (f66_ok (x11.toNat:Int) h14) (ap (Qak h15) an))))))) rfl
noncomputable def f50(a1:ByteArray):Option Bool:=(f50n0 a1).bind fun o=>match o with
 | .ret v160=>some v160
theorem f50_ok(a1:ByteArray){r:Bool}(h:f50 a1=some r):Qr Try.prog false 50 [(jS a1)] [] (jB r) []:=by
 unfold f50 at h;obtain ⟨o,ho,h⟩:=Qc h;cases o with
 | ret v160 =>
  obtain rfl:=Qf h;exact Qr.plain Qg (f:=Try.f50) (c:=c50) (by kernel_rfl) (by kernel_rfl) (by kernel_rfl) (by kernel_rfl) ((f50n0_ok a1 ho).mono fun r e=>by subst e; exact ⟨.inl rfl,(jB v160),(jB v160),by kernel_rfl,by kernel_rfl,((Wk.refl _):Wk (jB v160) (jB v160))⟩)

noncomputable def c30:Code:=Try.f30.body.getD .skip
inductive f30n2O where
 | exit0
 | ret
def f30n2E(bd1:List ByteArray):f30n2O→Ex×Tr×Hp
 | .exit0=>((.exit 0),mkS [],[])
 | .ret=>(.ret,mkS [(2,(jB false))],[])
def f30n2S(bd1:List ByteArray)(v35:Int):Tr×Hp:=(mkS [(0,(jL 1 cStr bd1)),(5,(jL 1 cStr bd1)),(6,(jI (bd1.length:Int))),(7,(jI v35))],[])
noncomputable def f30n2:Nat→List ByteArray→Int→Option f30n2O
 | 0,_,_=>none
 | f+1,bd1,v35 =>
  bif decide (v35<(bd1.length:Int)) then
   (at? bd1 v35).bind fun x47 =>
   (f50 x47).bind fun x49 =>
   bif x49 then
    bif decide (0<v35) then
     (at? bd1 (wr64 (v35-1))).bind fun x53 =>
     bif (slt x53 x47) then
      (f30n2 f bd1 (wr64 (v35+1)))
     else
      some .ret
    else
     (f30n2 f bd1 (wr64 (v35+1)))
   else
    some .ret
  else
   some .exit0
theorem f30n2_ok:∀(f:Nat)(bd1:List ByteArray)(v35:Int){o:f30n2O},f30n2 f bd1 v35=some o→TL Try.prog Try.f30.ntmps 0 f (cL (cL (Qh 1 (cL (Qh 1 c30))))) (f30n2S bd1 v35) (·=f30n2E bd1 o)
 | 0,_,_,o,h=>by rw [f30n2] at h; cases h
 | f+1,bd1,v35,o,h=>by
  rw [f30n2] at h;refine TL.body (K:=fun s=>∃v35:Int,s=(f30n2S bd1 v35)∧f30n2 f bd1 v35=some o) ?_ (by rintro _ ⟨v35,rfl,hk⟩; exact f30n2_ok f _ _ hk);rcases Qi h with ⟨h37,h⟩|⟨h37,h⟩
  ·obtain ⟨x47,h48,h⟩:=Qc h;obtain ⟨x49,h50,h⟩:=Qc h;rcases Qi h with ⟨h51,h⟩|⟨h51,h⟩
   ·rcases Qi h with ⟨h52,h⟩|⟨h52,h⟩
    ·obtain ⟨x53,h54,h⟩:=Qc h;rcases Qi h with ⟨h55,h⟩|⟨h55,h⟩
     ·exact rE Qg [j3,([],[(1,.idx (Int.toNat v35) (cStr x47))],[]),(jF [4,5,6,14]++jT [7,8,9,10,11,12,13],[jH 1 (jB x49),(10,.idx (Int.toNat (wr64 (v35-1))) (cStr x53)),(14,.bool true),(15,.bool false)],[]),j3] [some true,some false] [] [] [0,5,6,7] (.norm,(f30n2S bd1 (wr64 (v35+1)))) (ap h37 (ap (Qe h48).1 (ap (Ql cStr (Qe h48).2) (ap3 (Qab h51) (ap4 h52 (ap (Qe h54).1 (ap (Ql cStr (Qe h54).2) (ap3 h52 (ap (Qab h51) (ap h52 (ap (Qab h51) (ap (f50_ok x47 h50) (ap (Qab h55) an))))))))))))) (Qn.norm ⟨(wr64 (v35+1)),rfl,h⟩)
     ·obtain rfl:=Qf h;exact rK Qg 3 [j3,([],[(1,.idx (Int.toNat v35) (cStr x47))],[]),(jF [4,5,6,14]++jT [7,8,9,10,11,12,13],[jH 1 (jB x49),(10,.idx (Int.toNat (wr64 (v35-1))) (cStr x53)),(14,.bool true),(15,.bool false)],[]),j3] [some true,some true] [] [] [2] .ret ((f30n2E bd1 .ret).2) (ap h37 (ap (Qe h48).1 (ap (Ql cStr (Qe h48).2) (ap3 (Qab h51) (ap4 h52 (ap (Qe h54).1 (ap (Ql cStr (Qe h54).2) (ap3 h52 (ap (Qab h51) (ap h52 (ap (Qab h51) (ap (f50_ok x47 h50) (ap (Qak h55) an))))))))))))) (Qn.out rfl rfl)
    ·exact rE Qg [j3,([],[(1,.idx (Int.toNat v35) (cStr x47))],[]),(jF [4,5,6,7,8,9,10,11,12,13,14],[jH 1 (jB x49),(14,.bool false),(15,.bool false)],[]),j3] [some true,none] [] [] [0,5,6,7] (.norm,(f30n2S bd1 (wr64 (v35+1)))) (ap h37 (ap (Qe h48).1 (ap (Ql cStr (Qe h48).2) (ap3 (Qab h51) (ap3 h52 (ap4 h52 (ap (Qab h51) (ap h52 (ap (Qab h51) (ap (f50_ok x47 h50) an)))))))))) (Qn.norm ⟨(wr64 (v35+1)),rfl,h⟩)
   ·obtain rfl:=Qf h;exact rK Qg 3 [j3,([],[(1,.idx (Int.toNat v35) (cStr x47))],[]),(jT [4,5,6,14],[jH 1 (jB x49),(15,.bool true)],[]),j3] [some true,none] [] [] [2] .ret ((f30n2E bd1 .ret).2) (ap h37 (ap (Qe h48).1 (ap (Ql cStr (Qe h48).2) (ap (Qak h51) (ap4 (Qak h51) (ap (f50_ok x47 h50) an)))))) (Qn.out rfl rfl)
  ·obtain rfl:=Qf h;exact rK Qg 2 [j3] [some false] [] [] [] (.exit 0) ((f30n2E bd1 .exit0).2) (ap h37 an) (Qn.out rfl rfl)
inductive f30n1O where
 | norm
 | ret
def f30n1E(bd1:List ByteArray):f30n1O→Ex×Tr×Hp
 | .norm=>(.norm,mkS [],[])
 | .ret=>(.ret,mkS [(2,(jB false))],[])
def f30n1S(bd1:List ByteArray):Tr×Hp:=(mkS [(0,(jL 1 cStr bd1))],[])
noncomputable def f30n1(bd1:List ByteArray):Option f30n1O :=
 (f30n2 FUEL bd1 0).bind fun o56=>match o56 with
 | .exit0=>some .norm
 | .ret=>some .ret
theorem f30n1_ok(bd1:List ByteArray){o:f30n1O}(h:f30n1 bd1=some o):T Try.prog Try.f30.ntmps 0 (cL (Qh 1 c30)) (f30n1S bd1) (·=f30n1E bd1 o):=by
 unfold f30n1 at h;refine rN Qg 1 [([],[],[(1,.val (jI (bd1.length:Int)))])] [] [] [] [0,5,6,7] (f30n2S bd1 0) (ap (Qu (xs:=bd1) (c:=cStr)) an) ?_;obtain ⟨o56,h57,h⟩:=Qc h;cases o56 with
 | exit0 =>
  obtain rfl:=Qf h;exact T.last' (T.bl (i:=0) (by kernel_rfl) (by kernel_rfl) (f30n2_ok FUEL bd1 0 h57)) (tds:=[]) (m:=[]) (keep:=[]) (st2:=(f30n1E bd1 .norm).2) (by kernel_rfl) an rfl
 | ret =>
  obtain rfl:=Qf h;exact T.last' (T.bl (i:=0) (by kernel_rfl) (by kernel_rfl) (f30n2_ok FUEL bd1 0 h57)) (tds:=[]) (m:=[]) (keep:=[2]) (st2:=(f30n1E bd1 .ret).2) (by kernel_rfl) an rfl
inductive f30n0O where
 | ret (v60:Bool)
def f30n0E(a1:List ByteArray):f30n0O→Ex×Tr×Hp
 | .ret v60=>(.ret,mkS [(2,(jB v60))],[])
def f30n0S(a1:List ByteArray):Tr×Hp:=(Qaz [(jL 1 cStr a1)] 0 .leaf,[])
noncomputable def f30n0(a1:List ByteArray):Option f30n0O :=
 (f30n1 a1).bind fun o58=>match o58 with
 | .norm=>some (.ret true)
 | .ret=>some (.ret false)
theorem f30n0_ok(a1:List ByteArray){o:f30n0O}(h:f30n0 a1=some o):T Try.prog Try.f30.ntmps 0 c30 (f30n0S a1) (·=f30n0E a1 o):=by
 unfold f30n0 at h;refine rN Qg 1 [j3] [] [] [] [0] (f30n1S a1) an ?_;obtain ⟨o58,h59,h⟩:=Qc h;cases o58 with
 | norm =>
  refine T.oneN (by kernel_rfl) (f30n1_ok a1 h59) (st2:=(f30n1E a1 .norm).2) rfl ?_;obtain rfl:=Qf h;exact rE Qg [j3] [] [] [] [2] (.ret,(f30n0E a1 (.ret true)).2) an rfl
 | ret =>
  obtain rfl:=Qf h;exact T.oneX' (by kernel_rfl) (f30n1_ok a1 h59) (tds:=[]) (m:=[]) (keep:=[2]) (st2:=(f30n0E a1 (.ret false)).2) (by kernel_rfl) an rfl rfl
noncomputable def f30(a1:List ByteArray):Option Bool:=(f30n0 a1).bind fun o=>match o with
 | .ret v60=>some v60
theorem f30_ok(a1:List ByteArray){r:Bool}(h:f30 a1=some r):Qr Try.prog false 30 [(jL 1 cStr a1)] [] (jB r) []:=by
 unfold f30 at h;obtain ⟨o,ho,h⟩:=Qc h;cases o with
 | ret v60 =>
  obtain rfl:=Qf h;exact Qr.plain Qg (f:=Try.f30) (c:=c30) (by kernel_rfl) (by kernel_rfl) (by kernel_rfl) (by kernel_rfl) ((f30n0_ok a1 ho).mono fun r e=>by subst e; exact ⟨.inl rfl,(jB v60),(jB v60),by kernel_rfl,by kernel_rfl,((Wk.refl _):Wk (jB v60) (jB v60))⟩)

noncomputable def c28:Code:=Try.f28.body.getD .skip
inductive f28n2O where
 | exit0 (v90:List ByteArray)
 | ret
def f28n2E(ba1:List Qa):f28n2O→Ex×Tr×Hp
 | .exit0 v90=>((.exit 0),mkS [(3,(.own 0))],[jR 1 cStr v90])
 | .ret=>(.ret,mkS [(2,(jB false))],[])
def f28n2S(ba1:List Qa)(v60:Int)(v61:List ByteArray):Tr×Hp:=(mkS [(3,(.own 0)),(9,(jL 4 Qa.cells ba1)),(10,(jI (ba1.length:Int))),(11,(jI v60))],[jR 1 cStr v61])
noncomputable def f28n2:Nat→List Qa→Int→List ByteArray→Option f28n2O
 | 0,_,_,_=>none
 | f+1,ba1,v60,v61 =>
  bif decide (v60<(ba1.length:Int)) then
   (at? ba1 v60).bind fun x77 =>
   (f29 x77.Amount 0 68719476736).bind fun x79 =>
   bif x79 then
    (f29 x77.Cost 0 1000).bind fun x82 =>
    bif x82 then
     bif decide (8<(x77.For.length:Int)) then
      some .ret
     else
      (f30 x77.For).bind fun x86 =>
      bif x86 then
       req (fit (v61.length+1) 16) <|
       (f28n2 f ba1 (wr64 (v60+1)) (v61++[x77.Name]))
      else
       some .ret
    else
     some .ret
   else
    some .ret
  else
   some (.exit0 v61)
theorem f28n2_ok:∀(f:Nat)(ba1:List Qa)(v60:Int)(v61:List ByteArray){o:f28n2O},f28n2 f ba1 v60 v61=some o→TL Try.prog Try.f28.ntmps 0 f (cL (cL (Qh 1 (cL (Qh 3 c28))))) (f28n2S ba1 v60 v61) (·=f28n2E ba1 o)
 | 0,_,_,_,o,h=>by rw [f28n2] at h; cases h
 | f+1,ba1,v60,v61,o,h=>by
  rw [f28n2] at h;refine TL.body (K:=fun s=>∃v60:Int,∃v61:List ByteArray,s=(f28n2S ba1 v60 v61)∧f28n2 f ba1 v60 v61=some o) ?_ (by rintro _ ⟨v60,v61,rfl,hk⟩; exact f28n2_ok f _ _ _ hk);rcases Qi h with ⟨h63,h⟩|⟨h63,h⟩
  ·obtain ⟨x77,h78,h⟩:=Qc h;obtain ⟨x79,h80,h⟩:=Qc h;rcases Qi h with ⟨h81,h⟩|⟨h81,h⟩
   ·obtain ⟨x82,h83,h⟩:=Qc h;rcases Qi h with ⟨h84,h⟩|⟨h84,h⟩
    ·rcases Qi h with ⟨h85,h⟩|⟨h85,h⟩
     ·obtain rfl:=Qf h;exact rK Qg 3 [j3,([],[(0,.idx (Int.toNat v60) (Qa.cells x77))],[]),(jF [5,6,7,8,11,12,13,14]++jT [17,18,19,20],[jH 2 (jB x79),jH 7 (jB x82),(9,.bool false),(15,.bool false),(21,.bool true)],[(13,.val (jI (x77.For.length:Int)))]),j3] [some true,none] [] [] [2] .ret ((f28n2E ba1 .ret).2) (ap h63 (ap (Qe h78).1 (ap (Ql Qa.cells (Qe h78).2) (ap (Qab h81) (ap4 (Qab h81) (ap3 (Qab h84) (ap (Qu (xs:=x77.For) (c:=cStr)) (ap2 (Qab h84) (ap h85 (ap4 h85 (ap (f29_ok x77.Amount 0 68719476736 h80) (ap (f29_ok x77.Cost 0 1000 h83) an)))))))))))) (Qn.out rfl rfl)
     ·obtain ⟨x86,h87,h⟩:=Qc h;rcases Qi h with ⟨h88,h⟩|⟨h88,h⟩
      ·obtain ⟨h89,h⟩:=Qk h
       exact rE Qg [j3,([],[(0,.idx (Int.toNat v60) (Qa.cells x77))],[]),(jF [5,6,7,8,11,12,13,14,17,18,19,20],[jH 2 (jB x79),jH 7 (jB x82),(9,.bool false),(15,.bool false),jH 19 (jB x86),(21,.bool false)],[(13,.val (jI (x77.For.length:Int)))]),([],[(4,.fits)],[(4,.row 3 ((v61++[x77.Name]).map cStr))]),j3] [some true,some false] [] [3] [3,9,10,11] (.norm,(f28n2S ba1 (wr64 (v60+1)) (v61++[x77.Name]))) (ap h63 (ap (Qe h78).1 (ap (Ql Qa.cells (Qe h78).2) (ap (Qab h81) (ap4 (Qab h81) (ap3 (Qab h84) (ap (Qu (xs:=x77.For) (c:=cStr)) (ap2 (Qab h84) (ap h85 (ap4 h85 (ap (f29_ok x77.Amount 0 68719476736 h80) (ap (f29_ok x77.Cost 0 1000 h83) (ap (f30_ok x77.For h87) (ap (Qab h88) (ap (fit_map (te:=ti9) (xs:=v61) (n:=1) (c:=cStr) h89 rfl) (ap (app_cv (xs:=v61) (ys:=[x77.Name]) (c:=cStr)) an)))))))))))))))) (Qn.norm ⟨(wr64 (v60+1)),(v61++[x77.Name]),rfl,h⟩)
      ·obtain rfl:=Qf h;exact rK Qg 3 [j3,([],[(0,.idx (Int.toNat v60) (Qa.cells x77))],[]),(jF [5,6,7,8,11,12,13,14,17,18,19,20],[jH 2 (jB x79),jH 7 (jB x82),(9,.bool false),(15,.bool false),jH 19 (jB x86),(21,.bool false)],[(13,.val (jI (x77.For.length:Int)))]),j3] [some true,some true] [] [] [2] .ret ((f28n2E ba1 .ret).2) (ap h63 (ap (Qe h78).1 (ap (Ql Qa.cells (Qe h78).2) (ap (Qab h81) (ap4 (Qab h81) (ap3 (Qab h84) (ap (Qu (xs:=x77.For) (c:=cStr)) (ap2 (Qab h84) (ap h85 (ap4 h85 (ap (f29_ok x77.Amount 0 68719476736 h80) (ap (f29_ok x77.Cost 0 1000 h83) (ap (f30_ok x77.For h87) (ap (Qak h88) an)))))))))))))) (Qn.out rfl rfl)
    ·obtain rfl:=Qf h;exact rK Qg 3 [j3,([],[(0,.idx (Int.toNat v60) (Qa.cells x77))],[]),(jF [5,6,7,8]++jT [11,12,13,14],[jH 2 (jB x79),jH 7 (jB x82),(9,.bool false),(15,.bool true)],[]),j3] [some true,none] [] [] [2] .ret ((f28n2E ba1 .ret).2) (ap h63 (ap (Qe h78).1 (ap (Ql Qa.cells (Qe h78).2) (ap (Qab h81) (ap4 (Qab h81) (ap (Qak h84) (ap4 (Qak h84) (ap (f29_ok x77.Amount 0 68719476736 h80) (ap (f29_ok x77.Cost 0 1000 h83) an))))))))) (Qn.out rfl rfl)
   ·obtain rfl:=Qf h;exact rK Qg 3 [j3,([],[(0,.idx (Int.toNat v60) (Qa.cells x77))],[]),(jT [5,6,7,8],[jH 2 (jB x79),(9,.bool true)],[]),j3] [some true,none] [] [] [2] .ret ((f28n2E ba1 .ret).2) (ap h63 (ap (Qe h78).1 (ap (Ql Qa.cells (Qe h78).2) (ap (Qak h81) (ap4 (Qak h81) (ap (f29_ok x77.Amount 0 68719476736 h80) an)))))) (Qn.out rfl rfl)
  ·obtain rfl:=Qf h;exact rK Qg 2 [j3] [some false] [] [0] [3] (.exit 0) ((f28n2E ba1 (.exit0 v61)).2) (ap h63 an) (Qn.out rfl rfl)
noncomputable def f28n2L(ba1:List Qa):List Qa→Int→(List ByteArray)→Option f28n2O
 | [],v60,v61 =>
  some (.exit0 v61)
 | x0::rest,v60,v61 =>
  (f29 x0.Amount 0 68719476736).bind fun x79 =>
  bif x79 then
   (f29 x0.Cost 0 1000).bind fun x82 =>
   bif x82 then
    bif decide (8<(x0.For.length:Int)) then
     some .ret
    else
     (f30 x0.For).bind fun x86 =>
     bif x86 then
      req (fit (v61.length+1) 16) <|
      (f28n2L ba1 rest (v60+1) (v61++[x0.Name]))
     else
      some .ret
   else
    some .ret
  else
   some .ret
theorem f28n2L_eq(ba1:List Qa):∀(rest:List Qa)(f k:Nat)(v61:List ByteArray),ba1.drop k=rest→ba1.length≤maxLen→rest.length<f→f28n2 f ba1 (k:Int) v61=f28n2L ba1 rest (k:Int) v61
 | _,0,_,_,_,_,hf=>absurd hf (Nat.not_lt_zero _)
 | [],f+1,k,v61,hd,hm,hf=>by
  have hk:¬((k:Int)<(ba1.length:Int)):=by have:=Qbj hd; omega
  rw [f28n2,f28n2L];simp only [decide_eq_false hk,cond_false]
 | x0::rest,f+1,k,v61,hd,hm,hf=>by
  obtain ⟨hx,hlt,hd'⟩:=Qbk hd;have hk:(k:Int)<(ba1.length:Int):=by omega
  have hw:wr64 ((k:Int)+1)=(k:Int)+1:=wr64_of (by omega) (by unfold maxLen at hm; omega);have ih:∀(v61:List ByteArray),f28n2 f ba1 ((k:Int)+1) v61=f28n2L ba1 rest ((k:Int)+1) v61:=fun v61=>f28n2L_eq ba1 rest f (k+1) v61 hd' hm (by simpa using hf);rw [f28n2,f28n2L];simp only [decide_eq_true hk,cond_true,at_nat,hx,Option.bind_some,hw,ih]
theorem f28n2_run(ba1:List Qa)(v61:List ByteArray)(hm:ba1.length≤maxLen):f28n2 FUEL ba1 0 v61=f28n2L ba1 ba1 0 v61:=f28n2L_eq ba1 ba1 FUEL 0 v61 List.drop_zero hm (lt_FUEL hm)
inductive f28n1O where
 | norm (v94:List ByteArray)
 | ret
def f28n1E(ba1:List Qa):f28n1O→Ex×Tr×Hp
 | .norm v94=>(.norm,mkS [(3,(.own 0))],[jR 1 cStr v94])
 | .ret=>(.ret,mkS [(2,(jB false))],[])
def f28n1S(ba1:List Qa):Tr×Hp:=(mkS [(0,(jL 4 Qa.cells ba1)),(3,(.pl (.sl .nil 0 [])))],[])
noncomputable def f28n1(ba1:List Qa):Option f28n1O :=
 (f28n2 FUEL ba1 0 []).bind fun o91=>match o91 with
 | .exit0 v93=>some (.norm v93)
 | .ret=>some .ret
theorem f28n1_ok(ba1:List Qa){o:f28n1O}(h:f28n1 ba1=some o):T Try.prog Try.f28.ntmps 0 (cL (Qh 3 c28)) (f28n1S ba1) (·=f28n1E ba1 o):=by
 unfold f28n1 at h;refine rN Qg 1 [([],[],[(1,.val (jI (ba1.length:Int)))])] [] [.mat 3 1] [0] [3,9,10,11] (f28n2S ba1 0 []) (ap (Qu (xs:=ba1) (c:=Qa.cells)) an) ?_;obtain ⟨o91,h92,h⟩:=Qc h;cases o91 with
 | exit0 v93 =>
  obtain rfl:=Qf h;exact T.last' (T.bl (i:=0) (by kernel_rfl) (by kernel_rfl) (f28n2_ok FUEL ba1 0 [] h92)) (tds:=[]) (m:=[0]) (keep:=[3]) (st2:=(f28n1E ba1 (.norm v93)).2) (by kernel_rfl) an rfl
 | ret =>
  obtain rfl:=Qf h;exact T.last' (T.bl (i:=0) (by kernel_rfl) (by kernel_rfl) (f28n2_ok FUEL ba1 0 [] h92)) (tds:=[]) (m:=[]) (keep:=[2]) (st2:=(f28n1E ba1 .ret).2) (by kernel_rfl) an rfl
inductive f28n0O where
 | ret (v102:Bool)
def f28n0E(a1:List Qa):f28n0O→Ex×Tr×Hp
 | .ret v102=>(.ret,mkS [(2,(jB v102))],[])
def f28n0S(a1:List Qa):Tr×Hp:=(Qaz [(jL 4 Qa.cells a1)] 0 .leaf,[])
noncomputable def f28n0(a1:List Qa):Option f28n0O :=
 bif decide (10<(a1.length:Int)) then
  some (.ret false)
 else
  (f28n1 a1).bind fun o95=>match o95 with
  | .norm v97=>(f30 v97).bind fun x100 =>
   some (.ret x100)
  | .ret=>some (.ret false)
theorem f28n0_ok(a1:List Qa){o:f28n0O}(h:f28n0 a1=some o):T Try.prog Try.f28.ntmps 0 c28 (f28n0S a1) (·=f28n0E a1 o):=by
 unfold f28n0 at h;rcases Qi h with ⟨h3,h⟩|⟨h3,h⟩
 ·obtain rfl:=Qf h;exact rK Qg 3 [j3,j3,([],[],[(1,.val (jI (a1.length:Int)))]),j3] [some true] [] [] [2] .ret ((f28n0E a1 (.ret false)).2) (ap (Qu (xs:=a1) (c:=Qa.cells)) (ap h3 an)) rfl
 ·refine rN Qg 3 [j3,j3,([],[],[(1,.val (jI (a1.length:Int)))])] [some false] [] [] [0,3] (f28n1S a1) (ap (Qu (xs:=a1) (c:=Qa.cells)) (ap h3 an)) ?_;obtain ⟨o95,h96,h⟩:=Qc h;cases o95 with
  | norm v97 =>
   refine T.oneN (by kernel_rfl) (f28n1_ok a1 h96) (st2:=(f28n1E a1 (.norm v97)).2) rfl ?_;obtain ⟨x100,h101,h⟩:=Qc h;obtain rfl:=Qf h;exact rE Qg [([],[jH 1 (jB x100)],[])] [] [] [] [2] (.ret,(f28n0E a1 (.ret x100)).2) (ap (f30_ok v97 h101) an) rfl
  | ret =>
   obtain rfl:=Qf h;exact T.oneX' (by kernel_rfl) (f28n1_ok a1 h96) (tds:=[]) (m:=[]) (keep:=[2]) (st2:=(f28n0E a1 (.ret false)).2) (by kernel_rfl) an rfl rfl
noncomputable def f28(a1:List Qa):Option Bool:=(f28n0 a1).bind fun o=>match o with
 | .ret v102=>some v102
theorem f28_ok(a1:List Qa){r:Bool}(h:f28 a1=some r):Qr Try.prog false 28 [(jL 4 Qa.cells a1)] [] (jB r) []:=by
 unfold f28 at h;obtain ⟨o,ho,h⟩:=Qc h;cases o with
 | ret v102 =>
  obtain rfl:=Qf h;exact Qr.plain Qg (f:=Try.f28) (c:=c28) (by kernel_rfl) (by kernel_rfl) (by kernel_rfl) (by kernel_rfl) ((f28n0_ok a1 ho).mono fun r e=>by subst e; exact ⟨.inl rfl,(jB v102),(jB v102),by kernel_rfl,by kernel_rfl,((Wk.refl _):Wk (jB v102) (jB v102))⟩)

noncomputable def c13:Code:=Try.f13.body.getD .skip
inductive f13n2O where
 | exit0 (v55:List ByteArray)
 | ret
def f13n2E(bb1:List Qb):f13n2O→Ex×Tr×Hp
 | .exit0 v55=>((.exit 0),mkS [(5,(.own 0))],[jR 1 cStr v55])
 | .ret=>(.ret,mkS [(4,(jI 8))],[])
def f13n2S(bb1:List Qb)(v39:Int)(v40:List ByteArray):Tr×Hp:=(mkS [(5,(.own 0)),(16,(jL 2 Qb.cells bb1)),(17,(jI (bb1.length:Int))),(18,(jI v39))],[jR 1 cStr v40])
noncomputable def f13n2:Nat→List Qb→Int→List ByteArray→Option f13n2O
 | 0,_,_,_=>none
 | f+1,bb1,v39,v40 =>
  bif decide (v39<(bb1.length:Int)) then
   (at? bb1 v39).bind fun x49 =>
   (f29 x49.Need 1 68719476736).bind fun x51 =>
   bif x51 then
    req (fit (v40.length+1) 16) <|
    (f13n2 f bb1 (wr64 (v39+1)) (v40++[x49.Name]))
   else
    some .ret
  else
   some (.exit0 v40)
theorem f13n2_ok:∀(f:Nat)(bb1:List Qb)(v39:Int)(v40:List ByteArray){o:f13n2O},f13n2 f bb1 v39 v40=some o→TL Try.prog Try.f13.ntmps 0 f (cL (cL (Qh 1 (cL (Qh 3 c13))))) (f13n2S bb1 v39 v40) (·=f13n2E bb1 o)
 | 0,_,_,_,o,h=>by rw [f13n2] at h; cases h
 | f+1,bb1,v39,v40,o,h=>by
  rw [f13n2] at h;refine TL.body (K:=fun s=>∃v39:Int,∃v40:List ByteArray,s=(f13n2S bb1 v39 v40)∧f13n2 f bb1 v39 v40=some o) ?_ (by rintro _ ⟨v39,v40,rfl,hk⟩; exact f13n2_ok f _ _ _ hk);rcases Qi h with ⟨h42,h⟩|⟨h42,h⟩
  ·obtain ⟨x49,h50,h⟩:=Qc h;obtain ⟨x51,h52,h⟩:=Qc h;rcases Qi h with ⟨h53,h⟩|⟨h53,h⟩
   ·obtain ⟨h54,h⟩:=Qk h;exact rE Qg [j3,([],[(0,.idx (Int.toNat v39) (Qb.cells x49))],[]),([],[jH 2 (jB x51)],[]),([],[(4,.fits)],[(4,.row 3 ((v40++[x49.Name]).map cStr))]),j3] [some true,some false] [] [3] [5,16,17,18] (.norm,(f13n2S bb1 (wr64 (v39+1)) (v40++[x49.Name]))) (ap h42 (ap (Qe h50).1 (ap (Ql Qb.cells (Qe h50).2) (ap (f29_ok x49.Need 1 68719476736 h52) (ap (Qab h53) (ap (fit_map (te:=ti9) (xs:=v40) (n:=1) (c:=cStr) h54 rfl) (ap (app_cv (xs:=v40) (ys:=[x49.Name]) (c:=cStr)) an))))))) (Qn.norm ⟨(wr64 (v39+1)),(v40++[x49.Name]),rfl,h⟩)
   ·obtain rfl:=Qf h;exact rK Qg 3 [j3,([],[(0,.idx (Int.toNat v39) (Qb.cells x49))],[]),([],[jH 2 (jB x51)],[]),j3] [some true,some true] [] [] [4] .ret ((f13n2E bb1 .ret).2) (ap h42 (ap (Qe h50).1 (ap (Ql Qb.cells (Qe h50).2) (ap (f29_ok x49.Need 1 68719476736 h52) (ap (Qak h53) an))))) (Qn.out rfl rfl)
  ·obtain rfl:=Qf h;exact rK Qg 2 [j3] [some false] [] [0] [5] (.exit 0) ((f13n2E bb1 (.exit0 v40)).2) (ap h42 an) (Qn.out rfl rfl)
noncomputable def f13n2L(bb1:List Qb):List Qb→Int→(List ByteArray)→Option f13n2O
 | [],v39,v40 =>
  some (.exit0 v40)
 | x0::rest,v39,v40 =>
  (f29 x0.Need 1 68719476736).bind fun x51 =>
  bif x51 then
   req (fit (v40.length+1) 16) <|
   (f13n2L bb1 rest (v39+1) (v40++[x0.Name]))
  else
   some .ret
theorem f13n2L_eq(bb1:List Qb):∀(rest:List Qb)(f k:Nat)(v40:List ByteArray),bb1.drop k=rest→bb1.length≤maxLen→rest.length<f→f13n2 f bb1 (k:Int) v40=f13n2L bb1 rest (k:Int) v40
 | _,0,_,_,_,_,hf=>absurd hf (Nat.not_lt_zero _)
 | [],f+1,k,v40,hd,hm,hf=>by
  have hk:¬((k:Int)<(bb1.length:Int)):=by have:=Qbj hd; omega
  rw [f13n2,f13n2L];simp only [decide_eq_false hk,cond_false]
 | x0::rest,f+1,k,v40,hd,hm,hf=>by
  obtain ⟨hx,hlt,hd'⟩:=Qbk hd;have hk:(k:Int)<(bb1.length:Int):=by omega
  have hw:wr64 ((k:Int)+1)=(k:Int)+1:=wr64_of (by omega) (by unfold maxLen at hm; omega);have ih:∀(v40:List ByteArray),f13n2 f bb1 ((k:Int)+1) v40=f13n2L bb1 rest ((k:Int)+1) v40:=fun v40=>f13n2L_eq bb1 rest f (k+1) v40 hd' hm (by simpa using hf);rw [f13n2,f13n2L];simp only [decide_eq_true hk,cond_true,at_nat,hx,Option.bind_some,hw,ih]
theorem f13n2_run(bb1:List Qb)(v40:List ByteArray)(hm:bb1.length≤maxLen):f13n2 FUEL bb1 0 v40=f13n2L bb1 bb1 0 v40:=f13n2L_eq bb1 bb1 FUEL 0 v40 List.drop_zero hm (lt_FUEL hm)
inductive f13n1O where
 | norm (v59:List ByteArray)
 | ret
def f13n1E(bb1:List Qb):f13n1O→Ex×Tr×Hp
 | .norm v59=>(.norm,mkS [(5,(.own 0))],[jR 1 cStr v59])
 | .ret=>(.ret,mkS [(4,(jI 8))],[])
def f13n1S(bb1:List Qb):Tr×Hp:=(mkS [(1,(jL 2 Qb.cells bb1)),(5,(.pl (.sl .nil 0 [])))],[])
noncomputable def f13n1(bb1:List Qb):Option f13n1O :=
 (f13n2 FUEL bb1 0 []).bind fun o56=>match o56 with
 | .exit0 v58=>some (.norm v58)
 | .ret=>some .ret
theorem f13n1_ok(bb1:List Qb){o:f13n1O}(h:f13n1 bb1=some o):T Try.prog Try.f13.ntmps 0 (cL (Qh 3 c13)) (f13n1S bb1) (·=f13n1E bb1 o):=by
 unfold f13n1 at h;refine rN Qg 1 [([],[],[(1,.val (jI (bb1.length:Int)))])] [] [.mat 5 1] [0] [5,16,17,18] (f13n2S bb1 0 []) (ap (Qu (xs:=bb1) (c:=Qb.cells)) an) ?_;obtain ⟨o56,h57,h⟩:=Qc h;cases o56 with
 | exit0 v58 =>
  obtain rfl:=Qf h;exact T.last' (T.bl (i:=0) (by kernel_rfl) (by kernel_rfl) (f13n2_ok FUEL bb1 0 [] h57)) (tds:=[]) (m:=[0]) (keep:=[5]) (st2:=(f13n1E bb1 (.norm v58)).2) (by kernel_rfl) an rfl
 | ret =>
  obtain rfl:=Qf h;exact T.last' (T.bl (i:=0) (by kernel_rfl) (by kernel_rfl) (f13n2_ok FUEL bb1 0 [] h57)) (tds:=[]) (m:=[]) (keep:=[4]) (st2:=(f13n1E bb1 .ret).2) (by kernel_rfl) an rfl
inductive f13n0O where
 | ret (v69:Int)
def f13n0E(a1:List Qa)(a2:List Qb):f13n0O→Ex×Tr×Hp
 | .ret v69=>(.ret,mkS [(4,(jI v69))],[])
def f13n0S(a1:List Qa)(a2:List Qb):Tr×Hp:=(Qaz [(jL 4 Qa.cells a1),(jL 2 Qb.cells a2)] 0 .leaf,[])
noncomputable def f13n0(a1:List Qa)(a2:List Qb):Option f13n0O :=
 bif decide (8<(a2.length:Int)) then
  some (.ret 8)
 else
  (f28 a1).bind fun x8 =>
  bif x8 then
   (f13n1 a2).bind fun o60=>match o60 with
   | .norm v62=>(f30 v62).bind fun x66 =>
    bif x66 then
     some (.ret 0)
    else
     some (.ret 8)
   | .ret=>some (.ret 8)
  else
   some (.ret 8)
theorem f13n0_ok(a1:List Qa)(a2:List Qb){o:f13n0O}(h:f13n0 a1 a2=some o):T Try.prog Try.f13.ntmps 0 c13 (f13n0S a1 a2) (·=f13n0E a1 a2 o):=by
 unfold f13n0 at h;rcases Qi h with ⟨h7,h⟩|⟨h7,h⟩
 ·obtain rfl:=Qf h;exact rK Qg 3 [j3,j3,(jT [4,5,6],[(7,.bool true)],[(1,.val (jI (a2.length:Int)))]),j3] [none] [] [] [4] .ret ((f13n0E a1 a2 (.ret 8)).2) (ap (Qu (xs:=a2) (c:=Qb.cells)) (ap4 h7 an)) rfl
 ·obtain ⟨x8,h9,h⟩:=Qc h;rcases Qi h with ⟨h10,h⟩|⟨h10,h⟩
  ·refine rN Qg 3 [j3,j3,(jF [4,5,6],[jH 5 (jB x8),(7,.bool false)],[(1,.val (jI (a2.length:Int)))])] [some false] [] [] [1,5] (f13n1S a2) (ap (Qu (xs:=a2) (c:=Qb.cells)) (ap4 h7 (ap (f28_ok a1 h9) (ap (Qab h10) an)))) ?_;obtain ⟨o60,h61,h⟩:=Qc h;cases o60 with
   | norm v62 =>
    refine T.oneN (by kernel_rfl) (f13n1_ok a2 h61) (st2:=(f13n1E a2 (.norm v62)).2) rfl ?_;obtain ⟨x66,h67,h⟩:=Qc h;rcases Qi h with ⟨h68,h⟩|⟨h68,h⟩
    ·obtain rfl:=Qf h;exact rE Qg [([],[jH 1 (jB x66)],[]),j3] [some false] [] [] [4] (.ret,(f13n0E a1 a2 (.ret 0)).2) (ap (f30_ok v62 h67) (ap (Qab h68) an)) rfl
    ·obtain rfl:=Qf h;exact rK Qg 1 [([],[jH 1 (jB x66)],[]),j3] [some true] [] [] [4] .ret ((f13n0E a1 a2 (.ret 8)).2) (ap (f30_ok v62 h67) (ap (Qak h68) an)) rfl
   | ret =>
    obtain rfl:=Qf h;exact T.oneX' (by kernel_rfl) (f13n1_ok a2 h61) (tds:=[]) (m:=[]) (keep:=[4]) (st2:=(f13n0E a1 a2 (.ret 8)).2) (by kernel_rfl) an rfl rfl
  ·obtain rfl:=Qf h;exact rK Qg 3 [j3,j3,(jF [4,5,6],[jH 5 (jB x8),(7,.bool false)],[(1,.val (jI (a2.length:Int)))]),j3] [some true] [] [] [4] .ret ((f13n0E a1 a2 (.ret 8)).2) (ap (Qu (xs:=a2) (c:=Qb.cells)) (ap4 h7 (ap (f28_ok a1 h9) (ap (Qak h10) an)))) rfl
noncomputable def f13(a1:List Qa)(a2:List Qb):Option Int:=(f13n0 a1 a2).bind fun o=>match o with
 | .ret v69=>some v69
theorem f13_ok(a1:List Qa)(a2:List Qb){r:Int}(h:f13 a1 a2=some r):Qr Try.prog false 13 [(jL 4 Qa.cells a1),(jL 2 Qb.cells a2)] [] (jI r) []:=by
 unfold f13 at h;obtain ⟨o,ho,h⟩:=Qc h;cases o with
 | ret v69 =>
  obtain rfl:=Qf h;exact Qr.plain Qg (f:=Try.f13) (c:=c13) (by kernel_rfl) (by kernel_rfl) (by kernel_rfl) (by kernel_rfl) ((f13n0_ok a1 a2 ho).mono fun r e=>by subst e; exact ⟨.inl rfl,(jI v69),(jI v69),by kernel_rfl,by kernel_rfl,((Wk.refl _):Wk (jI v69) (jI v69))⟩)

noncomputable def c40:Code:=Try.f40.body.getD .skip
inductive f40r1n0O where
 | ret (v5:List Qa)
def f40r1n0E(a1:List Qa):f40r1n0O→Ex×Tr×Hp
 | .ret v5=>(.ret,mkS [(2,(.own 0))],[jR 4 Qa.cells v5])
def f40r1n0S(a1:List Qa):Tr×Hp:=(Qaz [(jL 4 Qa.cells a1)] 0 .leaf,[])
noncomputable def f40r1n0(a1:List Qa):Option f40r1n0O :=
 bif (a1.isEmpty) then
  some (.ret [])
 else
  req (fit a1.length 56) <|
  some (.ret a1)
theorem f40r1n0_ok(a1:List Qa){o:f40r1n0O}(h:f40r1n0 a1=some o):T Try.prog Try.f40.ntmps 0 c40 (f40r1n0S a1) (·=f40r1n0E a1 o):=by
 unfold f40r1n0 at h;refine rN Qg 1 [j3] [] [] [] [0] (mkS [(0,(jL 4 Qa.cells a1))],[]) an ?_;refine T.nest (by kernel_rfl) ?_;rcases Qi h with ⟨h2,h⟩|⟨h2,h⟩
 ·refine rN Qg 0 [] [] [] [] [0] (mkS [(0,(jL 4 Qa.cells a1))],[]) an ?_;refine T.oneNil Qg (x:=.tmp 0) (t:=22) (t3:=3) (t4:=4) (sz:=4) (es:=(a1.map Qa.cells)) (by kernel_rfl) (by kernel_rfl) (by kernel_rfl) (by kernel_rfl) (by kernel_rfl) (fun b hb=>?_);cases b
  ·refine rE Qg [] [none] [] [] [0] (.norm,(mkS [(0,(jL 4 Qa.cells a1))],[])) an (ThenQ.norm ?_);obtain rfl:=Qf h;exact rE Qg [([],[(2,.app false)],[])] [] [] [0] [2] (.ret,(f40r1n0E a1 (.ret [])).2) (ap (nil_map (c:=Qa.cells) h2) an) rfl
  ·obtain rfl:=Qf h;exact rE Qg [j3] [none] [.mat 2 4] [0] [2] (.ret,(f40r1n0E a1 (.ret [])).2) an (ThenQ.out rfl rfl)
 ·refine rN Qg 0 [] [] [] [] [0] (mkS [(0,(jL 4 Qa.cells a1))],[]) an ?_;refine T.oneNil Qg (x:=.tmp 0) (t:=22) (t3:=3) (t4:=4) (sz:=4) (es:=(a1.map Qa.cells)) (by kernel_rfl) (by kernel_rfl) (by kernel_rfl) (by kernel_rfl) (by kernel_rfl) (fun b hb=>?_);cases b
  ·refine rE Qg [] [none] [] [] [0] (.norm,(mkS [(0,(jL 4 Qa.cells a1))],[])) an (ThenQ.norm ?_);obtain ⟨h4,h⟩:=Qk h;obtain rfl:=Qf h;exact rE Qg [([],[(2,.app true)],[])] [] [] [1] [2] (.ret,(f40r1n0E a1 (.ret a1)).2) (ap (fit_map0z (te:=ti36) (xs:=a1) (c:=Qa.cells) h4 rfl) (ap (ne_map (c:=Qa.cells) h2) (ap (len_all (c:=Qa.cells) (xs:=a1) (n:=4) (fun _=>rfl)) an))) rfl
  ·exact absurd (hb rfl) (ne_map (c:=Qa.cells) h2)
noncomputable def f40r1(a1:List Qa):Option (List Qa):=(f40r1n0 a1).bind fun o=>match o with
 | .ret v5=>some v5
theorem f40r1_ok(a1:List Qa){r:List Qa}(h:f40r1 a1=some r):Qr Try.prog true 40 [(jL 4 Qa.cells a1)] [] (.own 0) [jR 4 Qa.cells r]:=by
 unfold f40r1 at h;obtain ⟨o,ho,h⟩:=Qc h;cases o with
 | ret v5 =>
  obtain rfl:=Qf h;exact Qr.shared Qg (f:=Try.f40) (c:=c40) (by kernel_rfl) (by kernel_rfl) (by kernel_rfl) ((f40r1n0_ok a1 ho).mono fun r e=>by subst e; exact ⟨.inl rfl,by kernel_rfl,by kernel_rfl⟩)

noncomputable def c53:Code:=Try.f53.body.getD .skip
inductive f53n0O where
 | ret
def f53n0E(a1:Int):f53n0O→Ex×Tr×Hp
 | .ret=>(.ret,mkS [(2,(.pl (.bool (!(decide (a1=a1))))))],[])
def f53n0S(a1:Int):Tr×Hp:=(Qaz [(jI a1)] 0 .leaf,[])
noncomputable def f53n0(a1:Int):Option f53n0O :=
 some .ret
theorem f53n0_ok(a1:Int){o:f53n0O}(h:f53n0 a1=some o):T Try.prog Try.f53.ntmps 0 c53 (f53n0S a1) (·=f53n0E a1 o):=by
 unfold f53n0 at h;obtain rfl:=Qf h;exact rE Qg [j3,j3] [] [] [] [2] (.ret,(f53n0E a1 .ret).2) an rfl
noncomputable def f53(a1:Int):Option Bool:=(f53n0 a1).bind fun o=>match o with
 | .ret=>some (!(decide (a1=a1)))
theorem f53_ok(a1:Int){r:Bool}(h:f53 a1=some r):Qr Try.prog false 53 [(jI a1)] [] (jB r) []:=by
 unfold f53 at h;obtain ⟨o,ho,h⟩:=Qc h;cases o with
 | ret =>
  obtain rfl:=Qf h;exact Qr.plain Qg (f:=Try.f53) (c:=c53) (by kernel_rfl) (by kernel_rfl) (by kernel_rfl) (by kernel_rfl) ((f53n0_ok a1 ho).mono fun r e=>by subst e; exact ⟨.inl rfl,(.pl (.bool (!(decide (a1=a1))))),(.pl (.bool (!(decide (a1=a1))))),by kernel_rfl,by kernel_rfl,((Wk.refl _):Wk (.pl (.bool (!(decide (a1=a1))))) (.pl (.bool (!(decide (a1=a1))))))⟩)

noncomputable def c43:Code:=Try.f43.body.getD .skip
inductive f43n0O where
 | ret (v21:Int)
def f43n0E(a1 a2:Int):f43n0O→Ex×Tr×Hp
 | .ret v21=>(.ret,mkS [(4,(jI v21))],[])
def f43n0S(a1 a2:Int):Tr×Hp:=(Qaz [(jI a1),(jI a2)] 0 .leaf,[])
noncomputable def f43n0(a1 a2:Int):Option f43n0O :=
 (f53 a1).bind fun x5 =>
 (f53 a2).bind fun x9 =>
 bif x5 then
  bif x9 then
   some (.ret 0)
  else
   some (.ret (-1))
 else
  bif x9 then
   some (.ret 1)
  else
   bif decide (a1<a2) then
    some (.ret (-1))
   else
    bif decide (a2<a1) then
     some (.ret 1)
    else
     some (.ret 0)
theorem f43n0_ok(a1 a2:Int){o:f43n0O}(h:f43n0 a1 a2=some o):T Try.prog Try.f43.ntmps 0 c43 (f43n0S a1 a2) (·=f43n0E a1 a2 o):=by
 unfold f43n0 at h;obtain ⟨x5,h6,h⟩:=Qc h;obtain ⟨x9,h10,h⟩:=Qc h;rcases Qi h with ⟨h13,h⟩|⟨h13,h⟩
 ·rcases Qi h with ⟨h14,h⟩|⟨h14,h⟩
  ·obtain rfl:=Qf h;exact rK Qg 4 [j3,([],[jH 1 (jB x5)],[]),([],[jH 1 (jB x9)],[]),j3,j3,j3] [some true,some true] [] [] [4] .ret ((f43n0E a1 a2 (.ret 0)).2) (ap (f53_ok a1 h6) (ap (f53_ok a2 h10) (ap h13 (ap h14 an)))) rfl
  ·obtain rfl:=Qf h;exact rK Qg 4 [j3,([],[jH 1 (jB x5)],[]),([],[jH 1 (jB x9)],[]),j3,j3,j3] [some true,some false] [] [] [4] .ret ((f43n0E a1 a2 (.ret (-1))).2) (ap (f53_ok a1 h6) (ap (f53_ok a2 h10) (ap h13 (ap h14 an)))) rfl
 ·rcases Qi h with ⟨h16,h⟩|⟨h16,h⟩
  ·obtain rfl:=Qf h;exact rK Qg 5 [j3,([],[jH 1 (jB x5)],[]),([],[jH 1 (jB x9)],[]),j3,j3,j3] [some false,some true] [] [] [4] .ret ((f43n0E a1 a2 (.ret 1)).2) (ap (f53_ok a1 h6) (ap (f53_ok a2 h10) (ap h13 (ap h16 an)))) rfl
  ·rcases Qi h with ⟨h18,h⟩|⟨h18,h⟩
   ·obtain rfl:=Qf h;exact rK Qg 6 [j3,([],[jH 1 (jB x5)],[]),([],[jH 1 (jB x9)],[]),j3,j3,j3,j3] [some false,some false,some true] [] [] [4] .ret ((f43n0E a1 a2 (.ret (-1))).2) (ap (f53_ok a1 h6) (ap (f53_ok a2 h10) (ap h13 (ap h16 (ap h18 an))))) rfl
   ·rcases Qi h with ⟨h20,h⟩|⟨h20,h⟩
    ·obtain rfl:=Qf h;exact rK Qg 7 [j3,([],[jH 1 (jB x5)],[]),([],[jH 1 (jB x9)],[]),j3,j3,j3,j3,j3] [some false,some false,some false,some true] [] [] [4] .ret ((f43n0E a1 a2 (.ret 1)).2) (ap (f53_ok a1 h6) (ap (f53_ok a2 h10) (ap h13 (ap h16 (ap h18 (ap h20 an)))))) rfl
    ·obtain rfl:=Qf h;exact rE Qg [j3,([],[jH 1 (jB x5)],[]),([],[jH 1 (jB x9)],[]),j3,j3,j3,j3,j3] [some false,some false,some false,some false] [] [] [4] (.ret,(f43n0E a1 a2 (.ret 0)).2) (ap (f53_ok a1 h6) (ap (f53_ok a2 h10) (ap h13 (ap h16 (ap h18 (ap h20 an)))))) rfl
noncomputable def f43(a1 a2:Int):Option Int:=(f43n0 a1 a2).bind fun o=>match o with
 | .ret v21=>some v21
theorem f43_ok(a1 a2:Int){r:Int}(h:f43 a1 a2=some r):Qr Try.prog false 43 [(jI a1),(jI a2)] [] (jI r) []:=by
 unfold f43 at h;obtain ⟨o,ho,h⟩:=Qc h;cases o with
 | ret v21 =>
  obtain rfl:=Qf h;exact Qr.plain Qg (f:=Try.f43) (c:=c43) (by kernel_rfl) (by kernel_rfl) (by kernel_rfl) (by kernel_rfl) ((f43n0_ok a1 a2 ho).mono fun r e=>by subst e; exact ⟨.inl rfl,(jI v21),(jI v21),by kernel_rfl,by kernel_rfl,((Wk.refl _):Wk (jI v21) (jI v21))⟩)

noncomputable def c42:Code:=Try.f42.body.getD .skip
inductive f42n0O where
 | ret (v7:Int)
def f42n0E(a1 a2:Qa):f42n0O→Ex×Tr×Hp
 | .ret v7=>(.ret,mkS [(4,(jI v7))],[])
def f42n0S(a1 a2:Qa):Tr×Hp:=(Qaz [(jA Qa.cells a1),(jA Qa.cells a2)] 0 .leaf,[])
noncomputable def f42n0(a1 a2:Qa):Option f42n0O :=
 (f43 a1.Cost a2.Cost).bind fun x5 =>
 some (.ret x5)
theorem f42n0_ok(a1 a2:Qa){o:f42n0O}(h:f42n0 a1 a2=some o):T Try.prog Try.f42.ntmps 0 c42 (f42n0S a1 a2) (·=f42n0E a1 a2 o):=by
 unfold f42n0 at h;obtain ⟨x5,h6,h⟩:=Qc h;obtain rfl:=Qf h;exact rE Qg [j3,([],[jH 4 (jI x5)],[])] [] [] [] [4] (.ret,(f42n0E a1 a2 (.ret x5)).2) (ap (f43_ok a1.Cost a2.Cost h6) an) rfl
noncomputable def f42(a1 a2:Qa):Option Int:=(f42n0 a1 a2).bind fun o=>match o with
 | .ret v7=>some v7
theorem f42_ok(a1 a2:Qa){r:Int}(h:f42 a1 a2=some r):Qr Try.prog false 42 [(jA Qa.cells a1),(jA Qa.cells a2)] [] (jI r) []:=by
 unfold f42 at h;obtain ⟨o,ho,h⟩:=Qc h;cases o with
 | ret v7 =>
  obtain rfl:=Qf h;exact Qr.plain Qg (f:=Try.f42) (c:=c42) (by kernel_rfl) (by kernel_rfl) (by kernel_rfl) (by kernel_rfl) ((f42n0_ok a1 a2 ho).mono fun r e=>by subst e; exact ⟨.inl rfl,(jI v7),(jI v7),by kernel_rfl,by kernel_rfl,((Wk.refl _):Wk (jI v7) (jI v7))⟩)

noncomputable def c67:Code:=Try.f67.body.getD .skip
inductive f67r1n2O where
 | exit2 (v222:List Qa)
def f67r1n2E(bg1 bg2 bg3:Int):f67r1n2O→Ex×Tr×Hp
 | .exit2 v222=>((.exit 2),mkS [(0,(.own 0)),(1,(jI bg1)),(2,(jI bg2)),(3,(.pl (.fn 42))),(8,(jI bg3))],[jR 4 Qa.cells v222])
def f67r1n2S(bg1 bg2 bg3 v200:Int)(v201:List Qa):Tr×Hp:=(mkS [(0,(.own 0)),(1,(jI bg1)),(2,(jI bg2)),(3,(.pl (.fn 42))),(8,(jI bg3)),(9,(jI v200))],[jR 4 Qa.cells v201])
noncomputable def f67r1n2:Nat→Int→Int→Int→Int→List Qa→Option f67r1n2O
 | 0,_,_,_,_,_=>none
 | f+1,bg1,bg2,bg3,v200,v201 =>
  bif decide (bg1<v200) then
   (at? v201 v200).bind fun x211 =>
   (at? v201 (wr64 (v200-1))).bind fun x213 =>
   (f42 x211 x213).bind fun x215 =>
   bif decide (x215<0) then
    (at? (v201.set (Int.toNat v200) x213) (wr64 (v200-1))).bind fun x220 =>
    (f67r1n2 f bg1 bg2 bg3 (wr64 (v200-1)) ((v201.set (Int.toNat v200) x213).set (Int.toNat (wr64 (v200-1))) x211))
   else
    some (.exit2 v201)
  else
   some (.exit2 v201)
theorem f67r1n2_ok:∀(f:Nat)(bg1 bg2 bg3 v200:Int)(v201:List Qa){o:f67r1n2O},f67r1n2 f bg1 bg2 bg3 v200 v201=some o→TL Try.prog Try.f67.ntmps 1 f (cL (cL (Qh 1 (cL (cL (Qh 1 (cL (cL (Qh 1 c67))))))))) (f67r1n2S bg1 bg2 bg3 v200 v201) (·=f67r1n2E bg1 bg2 bg3 o)
 | 0,_,_,_,_,_,o,h=>by rw [f67r1n2] at h; cases h
 | f+1,bg1,bg2,bg3,v200,v201,o,h=>by
  rw [f67r1n2] at h;refine TL.body (K:=fun s=>∃v200:Int,∃v201:List Qa,s=(f67r1n2S bg1 bg2 bg3 v200 v201)∧f67r1n2 f bg1 bg2 bg3 v200 v201=some o) ?_ (by rintro _ ⟨v200,v201,rfl,hk⟩; exact f67r1n2_ok f _ _ _ _ _ hk);rcases Qi h with ⟨h210,h⟩|⟨h210,h⟩
  ·obtain ⟨x211,h212,h⟩:=Qc h;obtain ⟨x213,h214,h⟩:=Qc h;obtain ⟨x215,h216,h⟩:=Qc h;rcases Qi h with ⟨h217,h⟩|⟨h217,h⟩
   ·obtain ⟨x220,h221,h⟩:=Qc h
    exact rE Qg [(jT [4,5,6,7,8,9,10,11,12,13,14,15],[(7,.at_ (Int.toNat v200)),(8,.idx 0 (Qa.cells x211)),(12,.at_ (Int.toNat (wr64 (v200-1)))),(13,.idx 0 (Qa.cells x213)),jH 14 (jI x215),(16,.bool true)],[]),([],[(8,.at_ (Int.toNat (wr64 (v200-1)))),(9,.idx 0 (Qa.cells x213)),(12,.at_ (Int.toNat v200)),(13,.idx 0 (Qa.cells x211)),(14,.at_ (Int.toNat v200)),(15,.idx 0 (Qa.cells x211)),(16,.at_ (Int.toNat (wr64 (v200-1)))),(17,.idx 0 (Qa.cells x220))],[(15,.row 0 ((v201.set (Int.toNat v200) x213).map Qa.cells)),(17,.row 0 (((v201.set (Int.toNat v200) x213).set (Int.toNat (wr64 (v200-1))) x211).map Qa.cells))]),j3] [some true] [] [] [0,1,2,3,8,9] (.norm,(f67r1n2S bg1 bg2 bg3 (wr64 (v200-1)) ((v201.set (Int.toNat v200) x213).set (Int.toNat (wr64 (v200-1))) x211))) (ap4 h210 (ap (Qe h212).1 (ap (Qp Qa.cells (Qe h212).2) (ap h210 (ap (Ql Qa.cells (Qe h212).2) (ap4 h210 (ap (Qe h214).1 (ap (Qp Qa.cells (Qe h214).2) (ap h210 (ap (Ql Qa.cells (Qe h214).2) (ap3 h210 (ap (f42_ok x211 x213 h216) (ap h217 (ap (Qe h214).1 (ap (Qp Qa.cells (Qe h214).2) (ap (Ql Qa.cells (Qe h214).2) (ap (Qe h212).1 (ap (Qp Qa.cells (Qe h212).2) (ap (Ql Qa.cells (Qe h212).2) (ap (Qe h212).1 (ap (Qp Qa.cells (Qe h212).2) (ap (Ql Qa.cells (Qe h212).2) (ap (Qcj (xs:=v201) (c:=Qa.cells) (k:=(Int.toNat v200)) (x:=x213)) (ap (Qe h221).1 (ap (Qp Qa.cells (Qe h221).2) (ap (Ql Qa.cells (Qe h221).2) (ap (Qcj (xs:=(v201.set (Int.toNat v200) x213)) (c:=Qa.cells) (k:=(Int.toNat (wr64 (v200-1)))) (x:=x211)) an))))))))))))))))))))))))))) (Qn.norm ⟨(wr64 (v200-1)),((v201.set (Int.toNat v200) x213).set (Int.toNat (wr64 (v200-1))) x211),rfl,h⟩)
   ·obtain rfl:=Qf h;exact rK Qg 1 [(jT [4,5,6,7,8,9,10,11,12,13,14,15],[(7,.at_ (Int.toNat v200)),(8,.idx 0 (Qa.cells x211)),(12,.at_ (Int.toNat (wr64 (v200-1)))),(13,.idx 0 (Qa.cells x213)),jH 14 (jI x215),(16,.bool true)],[])] [some false] [] [] [0,1,2,3,8] (.exit 2) ((f67r1n2E bg1 bg2 bg3 (.exit2 v201)).2) (ap4 h210 (ap (Qe h212).1 (ap (Qp Qa.cells (Qe h212).2) (ap h210 (ap (Ql Qa.cells (Qe h212).2) (ap4 h210 (ap (Qe h214).1 (ap (Qp Qa.cells (Qe h214).2) (ap h210 (ap (Ql Qa.cells (Qe h214).2) (ap3 h210 (ap (f42_ok x211 x213 h216) (ap h217 an))))))))))))) (Qn.out rfl rfl)
  ·obtain rfl:=Qf h;exact rK Qg 1 [(jF [4,5,6,7,8,9,10,11,12,13,14,15],[(16,.bool false)],[])] [none] [] [] [0,1,2,3,8] (.exit 2) ((f67r1n2E bg1 bg2 bg3 (.exit2 v201)).2) (ap h210 (ap4 h210 (ap4 h210 (ap4 h210 an)))) (Qn.out rfl rfl)
inductive f67r1n1O where
 | norm (v226:List Qa)
def f67r1n1E(bg1 bg2 bg3:Int)(ba4:List Qa):f67r1n1O→Ex×Tr×Hp
 | .norm v226=>(.norm,mkS [(0,(.own 0)),(1,(jI bg1)),(2,(jI bg2)),(3,(.pl (.fn 42))),(8,(jI bg3))],[jR 4 Qa.cells v226])
def f67r1n1S(bg1 bg2 bg3:Int)(ba4:List Qa):Tr×Hp:=(mkS [(0,(.own 0)),(1,(jI bg1)),(2,(jI bg2)),(3,(.pl (.fn 42))),(8,(jI bg3))],[jR 4 Qa.cells ba4])
noncomputable def f67r1n1(bg1 bg2 bg3:Int)(ba4:List Qa):Option f67r1n1O :=
 (f67r1n2 FUEL bg1 bg2 bg3 bg3 ba4).bind fun o223=>match o223 with
 | .exit2 v225=>some (.norm v225)
theorem f67r1n1_ok(bg1 bg2 bg3:Int)(ba4:List Qa){o:f67r1n1O}(h:f67r1n1 bg1 bg2 bg3 ba4=some o):T Try.prog Try.f67.ntmps 1 (cL (Qh 1 (cL (cL (Qh 1 c67))))) (f67r1n1S bg1 bg2 bg3 ba4) (·=f67r1n1E bg1 bg2 bg3 ba4 o):=by
 unfold f67r1n1 at h;refine T.block' (i:=1) (by kernel_rfl) ?_;refine rN Qg 1 [j3] [] [] [] [0,1,2,3,8,9] (f67r1n2S bg1 bg2 bg3 bg3 ba4) an ?_;obtain ⟨o223,h224,h⟩:=Qc h;cases o223 with
 | exit2 v225 =>
  obtain rfl:=Qf h;exact T.last' (T.bl (i:=2) (by kernel_rfl) (by kernel_rfl) (f67r1n2_ok FUEL bg1 bg2 bg3 bg3 ba4 h224)) (tds:=[]) (m:=[]) (keep:=[0,1,2,3,8]) (st2:=(f67r1n1E bg1 bg2 bg3 ba4 (.norm v225)).2) (by kernel_rfl) an rfl
inductive f67r1n3O where
 | exit0 (v230:List Qa)
def f67r1n3E(a1 a2:Int):f67r1n3O→Ex×Tr×Hp
 | .exit0 v230=>((.exit 0),mkS [],[jR 4 Qa.cells v230])
def f67r1n3S(a1 a2 v154:Int)(v155:List Qa):Tr×Hp:=(mkS [(0,(.own 0)),(1,(jI a1)),(2,(jI a2)),(3,(.pl (.fn 42))),(8,(jI v154))],[jR 4 Qa.cells v155])
noncomputable def f67r1n3:Nat→Int→Int→Int→List Qa→Option f67r1n3O
 | 0,_,_,_,_=>none
 | f+1,a1,a2,v154,v155 =>
  bif decide (v154<a2) then
   (f67r1n1 a1 a2 v154 v155).bind fun o227=>match o227 with
   | .norm v229=>(f67r1n3 f a1 a2 (wr64 (v154+1)) v229)
  else
   some (.exit0 v155)
theorem f67r1n3_ok:∀(f:Nat)(a1 a2 v154:Int)(v155:List Qa){o:f67r1n3O},f67r1n3 f a1 a2 v154 v155=some o→TL Try.prog Try.f67.ntmps 1 f (cL (cL (Qh 1 c67))) (f67r1n3S a1 a2 v154 v155) (·=f67r1n3E a1 a2 o)
 | 0,_,_,_,_,o,h=>by rw [f67r1n3] at h; cases h
 | f+1,a1,a2,v154,v155,o,h=>by
  rw [f67r1n3] at h;refine TL.body (K:=fun s=>∃v154:Int,∃v155:List Qa,s=(f67r1n3S a1 a2 v154 v155)∧f67r1n3 f a1 a2 v154 v155=some o) ?_ (by rintro _ ⟨v154,v155,rfl,hk⟩; exact f67r1n3_ok f _ _ _ _ hk);rcases Qi h with ⟨h157,h⟩|⟨h157,h⟩
  ·refine rN Qg 1 [j3] [some true] [] [] [0,1,2,3,8] (f67r1n1S a1 a2 v154 v155) (ap h157 an) ?_;obtain ⟨o227,h228,h⟩:=Qc h;cases o227 with
   | norm v229 =>
    refine T.oneN (by kernel_rfl) (f67r1n1_ok a1 a2 v154 v155 h228) (st2:=(f67r1n1E a1 a2 v154 v155 (.norm v229)).2) rfl ?_;exact rE Qg [j3] [] [] [] [0,1,2,3,8] (.norm,(f67r1n3S a1 a2 (wr64 (v154+1)) v229)) an (Qn.norm ⟨(wr64 (v154+1)),v229,rfl,h⟩)
  ·obtain rfl:=Qf h;exact rK Qg 1 [j3] [some false] [] [] [] (.exit 0) ((f67r1n3E a1 a2 (.exit0 v155)).2) (ap h157 an) (Qn.out rfl rfl)
inductive f67r1n0O where
 | norm (v234:List Qa)
def f67r1n0E(a1 a2:Int)(a3:List Qa):f67r1n0O→Ex×Tr×Hp
 | .norm v234=>(.norm,mkS [],[jR 4 Qa.cells v234])
def f67r1n0S(a1 a2:Int)(a3:List Qa):Tr×Hp:=(Qaz [(.own 0),(jI a1),(jI a2),(.pl (.fn 42))] 0 .leaf,[jR 4 Qa.cells a3])
noncomputable def f67r1n0(a1 a2:Int)(a3:List Qa):Option f67r1n0O :=
 (f67r1n3 FUEL a1 a2 (wr64 (a1+1)) a3).bind fun o231=>match o231 with
 | .exit0 v233=>some (.norm v233)
theorem f67r1n0_ok(a1 a2:Int)(a3:List Qa){o:f67r1n0O}(h:f67r1n0 a1 a2 a3=some o):T Try.prog Try.f67.ntmps 1 c67 (f67r1n0S a1 a2 a3) (·=f67r1n0E a1 a2 a3 o):=by
 unfold f67r1n0 at h;refine rN Qg 1 [j3] [] [] [] [0,1,2,3,8] (f67r1n3S a1 a2 (wr64 (a1+1)) a3) an ?_;obtain ⟨o231,h232,h⟩:=Qc h;cases o231 with
 | exit0 v233 =>
  obtain rfl:=Qf h;exact T.last' (T.bl (i:=0) (by kernel_rfl) (by kernel_rfl) (f67r1n3_ok FUEL a1 a2 (wr64 (a1+1)) a3 h232)) (tds:=[]) (m:=[]) (keep:=[]) (st2:=(f67r1n0E a1 a2 a3 (.norm v233)).2) (by kernel_rfl) an rfl
noncomputable def f67r1(a1 a2:Int)(a3:List Qa):Option (List Qa):=(f67r1n0 a1 a2 a3).bind fun o=>match o with
 | .norm v234=>some v234
theorem f67r1_ok(a1 a2:Int)(a3:List Qa){r:List Qa}(h:f67r1 a1 a2 a3=some r):Qr Try.prog true 67 [(.own 0),(jI a1),(jI a2),(.pl (.fn 42))] [jR 4 Qa.cells a3] (.tup []) [jR 4 Qa.cells r]:=by
 unfold f67r1 at h;obtain ⟨o,ho,h⟩:=Qc h;cases o with
 | norm v234 =>
  obtain rfl:=Qf h;exact Qr.shared Qg (f:=Try.f67) (c:=c67) (by kernel_rfl) (by kernel_rfl) (by kernel_rfl) ((f67r1n0_ok a1 a2 a3 ho).mono fun r e=>by subst e; exact ⟨.inr rfl,by kernel_rfl,by kernel_rfl⟩)

noncomputable def c76:Code:=Try.f76.body.getD .skip
inductive f76r1n1O where
 | exit0 (v51:List Qa)
def f76r1n1E(a1 a2 a3:Int):f76r1n1O→Ex×Tr×Hp
 | .exit0 v51=>((.exit 0),mkS [],[jR 4 Qa.cells v51])
def f76r1n1S(a1 a2 a3 v35:Int)(v36:List Qa):Tr×Hp:=(mkS [(0,(.own 0)),(1,(jI a1)),(2,(jI a2)),(3,(jI a3)),(10,(jI v35))],[jR 4 Qa.cells v36])
noncomputable def f76r1n1:Nat→Int→Int→Int→Int→List Qa→Option f76r1n1O
 | 0,_,_,_,_,_=>none
 | f+1,a1,a2,a3,v35,v36 =>
  bif decide (v35<a3) then
   (at? v36 (wr64 (a2+v35))).bind fun x45 =>
   (at? v36 (wr64 (a1+v35))).bind fun x47 =>
   (at? (v36.set (Int.toNat (wr64 (a1+v35))) x45) (wr64 (a2+v35))).bind fun x49 =>
   (f76r1n1 f a1 a2 a3 (wr64 (v35+1)) ((v36.set (Int.toNat (wr64 (a1+v35))) x45).set (Int.toNat (wr64 (a2+v35))) x47))
  else
   some (.exit0 v36)
theorem f76r1n1_ok:∀(f:Nat)(a1 a2 a3 v35:Int)(v36:List Qa){o:f76r1n1O},f76r1n1 f a1 a2 a3 v35 v36=some o→TL Try.prog Try.f76.ntmps 1 f (cL (cL (Qh 1 c76))) (f76r1n1S a1 a2 a3 v35 v36) (·=f76r1n1E a1 a2 a3 o)
 | 0,_,_,_,_,_,o,h=>by rw [f76r1n1] at h; cases h
 | f+1,a1,a2,a3,v35,v36,o,h=>by
  rw [f76r1n1] at h;refine TL.body (K:=fun s=>∃v35:Int,∃v36:List Qa,s=(f76r1n1S a1 a2 a3 v35 v36)∧f76r1n1 f a1 a2 a3 v35 v36=some o) ?_ (by rintro _ ⟨v35,v36,rfl,hk⟩; exact f76r1n1_ok f _ _ _ _ _ hk);rcases Qi h with ⟨h38,h⟩|⟨h38,h⟩
  ·obtain ⟨x45,h46,h⟩:=Qc h;obtain ⟨x47,h48,h⟩:=Qc h;obtain ⟨x49,h50,h⟩:=Qc h
   exact rE Qg [j3,([],[(12,.at_ (Int.toNat (wr64 (a2+v35)))),(13,.idx 0 (Qa.cells x45)),(18,.at_ (Int.toNat (wr64 (a1+v35)))),(19,.idx 0 (Qa.cells x47)),(20,.at_ (Int.toNat (wr64 (a1+v35)))),(21,.idx 0 (Qa.cells x47)),(22,.at_ (Int.toNat (wr64 (a2+v35)))),(23,.idx 0 (Qa.cells x49))],[(21,.row 0 ((v36.set (Int.toNat (wr64 (a1+v35))) x45).map Qa.cells)),(23,.row 0 (((v36.set (Int.toNat (wr64 (a1+v35))) x45).set (Int.toNat (wr64 (a2+v35))) x47).map Qa.cells))]),j3] [some true] [] [] [0,1,2,3,10] (.norm,(f76r1n1S a1 a2 a3 (wr64 (v35+1)) ((v36.set (Int.toNat (wr64 (a1+v35))) x45).set (Int.toNat (wr64 (a2+v35))) x47))) (ap h38 (ap (Qe h46).1 (ap (Qp Qa.cells (Qe h46).2) (ap (Ql Qa.cells (Qe h46).2) (ap (Qe h48).1 (ap (Qp Qa.cells (Qe h48).2) (ap (Ql Qa.cells (Qe h48).2) (ap (Qe h48).1 (ap (Qp Qa.cells (Qe h48).2) (ap (Ql Qa.cells (Qe h48).2) (ap (Qcj (xs:=v36) (c:=Qa.cells) (k:=(Int.toNat (wr64 (a1+v35)))) (x:=x45)) (ap (Qe h50).1 (ap (Qp Qa.cells (Qe h50).2) (ap (Ql Qa.cells (Qe h50).2) (ap (Qcj (xs:=(v36.set (Int.toNat (wr64 (a1+v35))) x45)) (c:=Qa.cells) (k:=(Int.toNat (wr64 (a2+v35)))) (x:=x47)) an))))))))))))))) (Qn.norm ⟨(wr64 (v35+1)),((v36.set (Int.toNat (wr64 (a1+v35))) x45).set (Int.toNat (wr64 (a2+v35))) x47),rfl,h⟩)
  ·obtain rfl:=Qf h;exact rK Qg 1 [j3] [some false] [] [] [] (.exit 0) ((f76r1n1E a1 a2 a3 (.exit0 v36)).2) (ap h38 an) (Qn.out rfl rfl)
inductive f76r1n0O where
 | norm (v55:List Qa)
def f76r1n0E(a1 a2 a3:Int)(a4:List Qa):f76r1n0O→Ex×Tr×Hp
 | .norm v55=>(.norm,mkS [],[jR 4 Qa.cells v55])
def f76r1n0S(a1 a2 a3:Int)(a4:List Qa):Tr×Hp:=(Qaz [(.own 0),(jI a1),(jI a2),(jI a3),(.pl (.fn 42))] 0 .leaf,[jR 4 Qa.cells a4])
noncomputable def f76r1n0(a1 a2 a3:Int)(a4:List Qa):Option f76r1n0O :=
 (f76r1n1 FUEL a1 a2 a3 0 a4).bind fun o52=>match o52 with
 | .exit0 v54=>some (.norm v54)
theorem f76r1n0_ok(a1 a2 a3:Int)(a4:List Qa){o:f76r1n0O}(h:f76r1n0 a1 a2 a3 a4=some o):T Try.prog Try.f76.ntmps 1 c76 (f76r1n0S a1 a2 a3 a4) (·=f76r1n0E a1 a2 a3 a4 o):=by
 unfold f76r1n0 at h;refine rN Qg 1 [j3] [] [] [] [0,1,2,3,10] (f76r1n1S a1 a2 a3 0 a4) an ?_;obtain ⟨o52,h53,h⟩:=Qc h;cases o52 with
 | exit0 v54 =>
  obtain rfl:=Qf h;exact T.last' (T.bl (i:=0) (by kernel_rfl) (by kernel_rfl) (f76r1n1_ok FUEL a1 a2 a3 0 a4 h53)) (tds:=[]) (m:=[]) (keep:=[]) (st2:=(f76r1n0E a1 a2 a3 a4 (.norm v54)).2) (by kernel_rfl) an rfl
noncomputable def f76r1(a1 a2 a3:Int)(a4:List Qa):Option (List Qa):=(f76r1n0 a1 a2 a3 a4).bind fun o=>match o with
 | .norm v55=>some v55
theorem f76r1_ok(a1 a2 a3:Int)(a4:List Qa){r:List Qa}(h:f76r1 a1 a2 a3 a4=some r):Qr Try.prog true 76 [(.own 0),(jI a1),(jI a2),(jI a3),(.pl (.fn 42))] [jR 4 Qa.cells a4] (.tup []) [jR 4 Qa.cells r]:=by
 unfold f76r1 at h;obtain ⟨o,ho,h⟩:=Qc h;cases o with
 | norm v55 =>
  obtain rfl:=Qf h;exact Qr.shared Qg (f:=Try.f76) (c:=c76) (by kernel_rfl) (by kernel_rfl) (by kernel_rfl) ((f76r1n0_ok a1 a2 a3 a4 ho).mono fun r e=>by subst e; exact ⟨.inr rfl,by kernel_rfl,by kernel_rfl⟩)

noncomputable def c74:Code:=Try.f74.body.getD .skip
inductive f74r1n1O where
 | exit0 (v47:Int) (v48:List Qa)
def f74r1n1E(a2:Int):f74r1n1O→Ex×Tr×Hp
 | .exit0 v47 v48=>((.exit 0),mkS [(0,(.own 0)),(2,(jI a2)),(4,(.pl (.fn 42))),(10,(jI v47))],[jR 4 Qa.cells v48])
def f74r1n1S(a2 v32 v33:Int)(v34:List Qa):Tr×Hp:=(mkS [(0,(.own 0)),(2,(jI a2)),(4,(.pl (.fn 42))),(10,(jI v32)),(11,(jI v33))],[jR 4 Qa.cells v34])
noncomputable def f74r1n1:Nat→Int→Int→Int→List Qa→Option f74r1n1O
 | 0,_,_,_,_=>none
 | f+1,a2,v32,v33,v34 =>
  bif decide (v32=v33) then
   some (.exit0 v32 v34)
  else
   bif decide (v33<v32) then
    (f76r1 (wr64 (a2-v32)) a2 v33 v34).bind fun x43 =>
    (f74r1n1 f a2 (wr64 (v32-v33)) v33 x43)
   else
    (f76r1 (wr64 (a2-v32)) (wr64 ((wr64 (a2+v33))-v32)) v32 v34).bind fun x45 =>
    (f74r1n1 f a2 v32 (wr64 (v33-v32)) x45)
theorem f74r1n1_ok:∀(f:Nat)(a2 v32 v33:Int)(v34:List Qa){o:f74r1n1O},f74r1n1 f a2 v32 v33 v34=some o→TL Try.prog Try.f74.ntmps 1 f (cL (cL (cL (Qh 2 c74)))) (f74r1n1S a2 v32 v33 v34) (·=f74r1n1E a2 o)
 | 0,_,_,_,_,o,h=>by rw [f74r1n1] at h; cases h
 | f+1,a2,v32,v33,v34,o,h=>by
  rw [f74r1n1] at h;refine TL.body (K:=fun s=>∃v32:Int,∃v33:Int,∃v34:List Qa,s=(f74r1n1S a2 v32 v33 v34)∧f74r1n1 f a2 v32 v33 v34=some o) ?_ (by rintro _ ⟨v32,v33,v34,rfl,hk⟩; exact f74r1n1_ok f _ _ _ _ hk);rcases Qi h with ⟨h36,h⟩|⟨h36,h⟩
  ·obtain rfl:=Qf h;exact rK Qg 1 [j3] [some false] [] [] [0,2,4,10] (.exit 0) ((f74r1n1E a2 (.exit0 v32 v34)).2) (ap (Qab h36) an) (Qn.out rfl rfl)
  ·rcases Qi h with ⟨h42,h⟩|⟨h42,h⟩
   ·obtain ⟨x43,h44,h⟩:=Qc h;exact rE Qg [j3,j3,([],[(7,.call (.tup []) [jR 4 Qa.cells x43])],[]),j3] [some true,some true] [] [] [0,2,4,10,11] (.norm,(f74r1n1S a2 (wr64 (v32-v33)) v33 x43)) (ap (Qak h36) (ap h42 (ap (f76r1_ok (wr64 (a2-v32)) a2 v33 v34 h44) an))) (Qn.norm ⟨(wr64 (v32-v33)),v33,x43,rfl,h⟩)
   ·obtain ⟨x45,h46,h⟩:=Qc h;exact rE Qg [j3,j3,([],[(11,.call (.tup []) [jR 4 Qa.cells x45])],[]),j3] [some true,some false] [] [] [0,2,4,10,11] (.norm,(f74r1n1S a2 v32 (wr64 (v33-v32)) x45)) (ap (Qak h36) (ap h42 (ap (f76r1_ok (wr64 (a2-v32)) (wr64 ((wr64 (a2+v33))-v32)) v32 v34 h46) an))) (Qn.norm ⟨v32,(wr64 (v33-v32)),x45,rfl,h⟩)
inductive f74r1n0O where
 | norm (v57:List Qa)
def f74r1n0E(a1 a2 a3:Int)(a4:List Qa):f74r1n0O→Ex×Tr×Hp
 | .norm v57=>(.norm,mkS [],[jR 4 Qa.cells v57])
def f74r1n0S(a1 a2 a3:Int)(a4:List Qa):Tr×Hp:=(Qaz [(.own 0),(jI a1),(jI a2),(jI a3),(.pl (.fn 42))] 0 .leaf,[jR 4 Qa.cells a4])
noncomputable def f74r1n0(a1 a2 a3:Int)(a4:List Qa):Option f74r1n0O :=
 (f74r1n1 FUEL a2 (wr64 (a2-a1)) (wr64 (a3-a2)) a4).bind fun o49=>match o49 with
 | .exit0 v51 v52=>(f76r1 (wr64 (a2-v51)) a2 v51 v52).bind fun x55 =>
  some (.norm x55)
theorem f74r1n0_ok(a1 a2 a3:Int)(a4:List Qa){o:f74r1n0O}(h:f74r1n0 a1 a2 a3 a4=some o):T Try.prog Try.f74.ntmps 1 c74 (f74r1n0S a1 a2 a3 a4) (·=f74r1n0E a1 a2 a3 a4 o):=by
 unfold f74r1n0 at h;refine rN Qg 2 [j3,j3] [] [] [] [0,2,4,10,11] (f74r1n1S a2 (wr64 (a2-a1)) (wr64 (a3-a2)) a4) an ?_;obtain ⟨o49,h50,h⟩:=Qc h;cases o49 with
 | exit0 v51 v52 =>
  refine T.oneN (by kernel_rfl) (T.bl (i:=0) (by kernel_rfl) (by kernel_rfl) (f74r1n1_ok FUEL a2 (wr64 (a2-a1)) (wr64 (a3-a2)) a4 h50)) (st2:=(f74r1n1E a2 (.exit0 v51 v52)).2) rfl ?_;obtain ⟨x55,h56,h⟩:=Qc h;obtain rfl:=Qf h;exact rE Qg [([],[(7,.call (.tup []) [jR 4 Qa.cells x55])],[])] [] [] [] [] (.norm,(f74r1n0E a1 a2 a3 a4 (.norm x55)).2) (ap (f76r1_ok (wr64 (a2-v51)) a2 v51 v52 h56) an) rfl
noncomputable def f74r1(a1 a2 a3:Int)(a4:List Qa):Option (List Qa):=(f74r1n0 a1 a2 a3 a4).bind fun o=>match o with
 | .norm v57=>some v57
theorem f74r1_ok(a1 a2 a3:Int)(a4:List Qa){r:List Qa}(h:f74r1 a1 a2 a3 a4=some r):Qr Try.prog true 74 [(.own 0),(jI a1),(jI a2),(jI a3),(.pl (.fn 42))] [jR 4 Qa.cells a4] (.tup []) [jR 4 Qa.cells r]:=by
 unfold f74r1 at h;obtain ⟨o,ho,h⟩:=Qc h;cases o with
 | norm v57 =>
  obtain rfl:=Qf h;exact Qr.shared Qg (f:=Try.f74) (c:=c74) (by kernel_rfl) (by kernel_rfl) (by kernel_rfl) ((f74r1n0_ok a1 a2 a3 a4 ho).mono fun r e=>by subst e; exact ⟨.inr rfl,by kernel_rfl,by kernel_rfl⟩)

noncomputable def c68:Code:=Try.f68.body.getD .skip
inductive f68r1n3O where
 | exit0 (v58:Int)
def f68r1n3E(bg1:Int)(ba4:List Qa):f68r1n3O→Ex×Tr×Hp
 | .exit0 v58=>((.exit 0),mkS [(0,(.own 0)),(1,(jI bg1)),(10,(jI v58))],[jR 4 Qa.cells ba4])
def f68r1n3S(bg1:Int)(ba4:List Qa)(v40 v41:Int):Tr×Hp:=(mkS [(0,(.own 0)),(1,(jI bg1)),(4,(.pl (.fn 42))),(10,(jI v40)),(11,(jI v41))],[jR 4 Qa.cells ba4])
noncomputable def f68r1n3 (self:(Int→Int→Int→List Qa→Option (List Qa))):Nat→Int→List Qa→Int→Int→Option f68r1n3O
 | 0,_,_,_,_=>none
 | f+1,bg1,ba4,v40,v41 =>
  bif decide (v40<v41) then
   (at? ba4 (wr64 (shrK .u64 (Qy (wr64 (v40+v41))) 1))).bind fun x51 =>
   (at? ba4 bg1).bind fun x53 =>
   (f42 x51 x53).bind fun x55 =>
   bif decide (x55<0) then
    (f68r1n3 self f bg1 ba4 (wr64 ((wr64 (shrK .u64 (Qy (wr64 (v40+v41))) 1))+1)) v41)
   else
    (f68r1n3 self f bg1 ba4 v40 (wr64 (shrK .u64 (Qy (wr64 (v40+v41))) 1)))
  else
   some (.exit0 v40)
theorem f68r1n3_ok {self:(Int→Int→Int→List Qa→Option (List Qa))} (self_ok:(∀(a1 a2 a3:Int)(a4:List Qa){r:List Qa},self a1 a2 a3 a4=some r→Qr Try.prog true 68 [(.own 0),(jI a1),(jI a2),(jI a3),(.pl (.fn 42))] [jR 4 Qa.cells a4] (.tup []) [jR 4 Qa.cells r])):∀(f:Nat)(bg1:Int)(ba4:List Qa)(v40 v41:Int){o:f68r1n3O},f68r1n3 self f bg1 ba4 v40 v41=some o→TL Try.prog Try.f68.ntmps 1 f (cL (cL (cL (Qh 2 (cL (Qh 1 (cL (Qh 0 c68)))))))) (f68r1n3S bg1 ba4 v40 v41) (·=f68r1n3E bg1 ba4 o)
 | 0,_,_,_,_,o,h=>by rw [f68r1n3] at h; cases h
 | f+1,bg1,ba4,v40,v41,o,h=>by
  rw [f68r1n3] at h;refine TL.body (K:=fun s=>∃v40:Int,∃v41:Int,s=(f68r1n3S bg1 ba4 v40 v41)∧f68r1n3 self f bg1 ba4 v40 v41=some o) ?_ (by rintro _ ⟨v40,v41,rfl,hk⟩; exact f68r1n3_ok self_ok f _ _ _ _ hk);rcases Qi h with ⟨h43,h⟩|⟨h43,h⟩
  ·obtain ⟨x51,h52,h⟩:=Qc h;obtain ⟨x53,h54,h⟩:=Qc h;obtain ⟨x55,h56,h⟩:=Qc h;rcases Qi h with ⟨h57,h⟩|⟨h57,h⟩
   ·exact rE Qg [j3,j3,([],[(3,.at_ (Int.toNat (wr64 (shrK .u64 (Qy (wr64 (v40+v41))) 1)))),(4,.idx 0 (Qa.cells x51)),(7,.at_ (Int.toNat bg1)),(8,.idx 0 (Qa.cells x53)),jH 9 (jI x55)],[]),j3] [some true,some true] [] [] [0,1,4,10,11] (.norm,(f68r1n3S bg1 ba4 (wr64 ((wr64 (shrK .u64 (Qy (wr64 (v40+v41))) 1))+1)) v41)) (ap h43 (ap (Qe h52).1 (ap (Qp Qa.cells (Qe h52).2) (ap (Ql Qa.cells (Qe h52).2) (ap (Qe h54).1 (ap (Qp Qa.cells (Qe h54).2) (ap (Ql Qa.cells (Qe h54).2) (ap (f42_ok x51 x53 h56) (ap h57 an))))))))) (Qn.norm ⟨(wr64 ((wr64 (shrK .u64 (Qy (wr64 (v40+v41))) 1))+1)),v41,rfl,h⟩)
   ·exact rE Qg [j3,j3,([],[(3,.at_ (Int.toNat (wr64 (shrK .u64 (Qy (wr64 (v40+v41))) 1)))),(4,.idx 0 (Qa.cells x51)),(7,.at_ (Int.toNat bg1)),(8,.idx 0 (Qa.cells x53)),jH 9 (jI x55)],[]),j3] [some true,some false] [] [] [0,1,4,10,11] (.norm,(f68r1n3S bg1 ba4 v40 (wr64 (shrK .u64 (Qy (wr64 (v40+v41))) 1)))) (ap h43 (ap (Qe h52).1 (ap (Qp Qa.cells (Qe h52).2) (ap (Ql Qa.cells (Qe h52).2) (ap (Qe h54).1 (ap (Qp Qa.cells (Qe h54).2) (ap (Ql Qa.cells (Qe h54).2) (ap (f42_ok x51 x53 h56) (ap h57 an))))))))) (Qn.norm ⟨v40,(wr64 (shrK .u64 (Qy (wr64 (v40+v41))) 1)),rfl,h⟩)
  ·obtain rfl:=Qf h;exact rK Qg 1 [j3] [some false] [] [] [0,1,10] (.exit 0) ((f68r1n3E bg1 ba4 (.exit0 v40)).2) (ap h43 an) (Qn.out rfl rfl)
inductive f68r1n5O where
 | exit2 (v108:List Qa)
def f68r1n5E(bg2:Int):f68r1n5O→Ex×Tr×Hp
 | .exit2 v108=>((.exit 2),mkS [],[jR 4 Qa.cells v108])
def f68r1n5S(bg2 v92:Int)(v93:List Qa):Tr×Hp:=(mkS [(0,(.own 0)),(10,(jI bg2)),(13,(jI v92))],[jR 4 Qa.cells v93])
noncomputable def f68r1n5 (self:(Int→Int→Int→List Qa→Option (List Qa))):Nat→Int→Int→List Qa→Option f68r1n5O
 | 0,_,_,_=>none
 | f+1,bg2,v92,v93 =>
  bif (decide (v92<(wr64 (bg2-1)))) then
   (at? v93 (wr64 (v92+1))).bind fun x102 =>
   (at? v93 v92).bind fun x104 =>
   (at? (v93.set (Int.toNat v92) x102) (wr64 (v92+1))).bind fun x106 =>
   (f68r1n5 self f bg2 (wr64 (v92+1)) ((v93.set (Int.toNat v92) x102).set (Int.toNat (wr64 (v92+1))) x104))
  else
   some (.exit2 v93)
theorem f68r1n5_ok {self:(Int→Int→Int→List Qa→Option (List Qa))} (self_ok:(∀(a1 a2 a3:Int)(a4:List Qa){r:List Qa},self a1 a2 a3 a4=some r→Qr Try.prog true 68 [(.own 0),(jI a1),(jI a2),(jI a3),(.pl (.fn 42))] [jR 4 Qa.cells a4] (.tup []) [jR 4 Qa.cells r])):∀(f:Nat)(bg2 v92:Int)(v93:List Qa){o:f68r1n5O},f68r1n5 self f bg2 v92 v93=some o→TL Try.prog Try.f68.ntmps 1 f (cL (cL (Qh 1 (cL (Qh 0 (Qh 1 (Qh 2 (cL (Qh 1 (cL (Qh 0 c68))))))))))) (f68r1n5S bg2 v92 v93) (·=f68r1n5E bg2 o)
 | 0,_,_,_,o,h=>by rw [f68r1n5] at h; cases h
 | f+1,bg2,v92,v93,o,h=>by
  rw [f68r1n5] at h;refine TL.body (K:=fun s=>∃v92:Int,∃v93:List Qa,s=(f68r1n5S bg2 v92 v93)∧f68r1n5 self f bg2 v92 v93=some o) ?_ (by rintro _ ⟨v92,v93,rfl,hk⟩; exact f68r1n5_ok self_ok f _ _ _ hk);rcases Qi h with ⟨h95,h⟩|⟨h95,h⟩
  ·obtain ⟨x102,h103,h⟩:=Qc h;obtain ⟨x104,h105,h⟩:=Qc h;obtain ⟨x106,h107,h⟩:=Qc h
   exact rE Qg [j3,([],[(8,.at_ (Int.toNat (wr64 (v92+1)))),(9,.idx 0 (Qa.cells x102)),(12,.at_ (Int.toNat v92)),(13,.idx 0 (Qa.cells x104)),(14,.at_ (Int.toNat v92)),(15,.idx 0 (Qa.cells x104)),(16,.at_ (Int.toNat (wr64 (v92+1)))),(17,.idx 0 (Qa.cells x106))],[(15,.row 0 ((v93.set (Int.toNat v92) x102).map Qa.cells)),(17,.row 0 (((v93.set (Int.toNat v92) x102).set (Int.toNat (wr64 (v92+1))) x104).map Qa.cells))]),j3] [some true] [] [] [0,10,13] (.norm,(f68r1n5S bg2 (wr64 (v92+1)) ((v93.set (Int.toNat v92) x102).set (Int.toNat (wr64 (v92+1))) x104))) (ap h95 (ap (Qe h103).1 (ap (Qp Qa.cells (Qe h103).2) (ap (Ql Qa.cells (Qe h103).2) (ap (Qe h105).1 (ap (Qp Qa.cells (Qe h105).2) (ap (Ql Qa.cells (Qe h105).2) (ap (Qe h105).1 (ap (Qp Qa.cells (Qe h105).2) (ap (Ql Qa.cells (Qe h105).2) (ap (Qcj (xs:=v93) (c:=Qa.cells) (k:=(Int.toNat v92)) (x:=x102)) (ap (Qe h107).1 (ap (Qp Qa.cells (Qe h107).2) (ap (Ql Qa.cells (Qe h107).2) (ap (Qcj (xs:=(v93.set (Int.toNat v92) x102)) (c:=Qa.cells) (k:=(Int.toNat (wr64 (v92+1)))) (x:=x104)) an))))))))))))))) (Qn.norm ⟨(wr64 (v92+1)),((v93.set (Int.toNat v92) x102).set (Int.toNat (wr64 (v92+1))) x104),rfl,h⟩)
  ·obtain rfl:=Qf h;exact rK Qg 1 [j3] [some false] [] [] [] (.exit 2) ((f68r1n5E bg2 (.exit2 v93)).2) (ap h95 an) (Qn.out rfl rfl)
inductive f68r1n4O where
 | norm (v112:List Qa)
def f68r1n4E(bg1 bg2:Int)(ba3:List Qa):f68r1n4O→Ex×Tr×Hp
 | .norm v112=>(.norm,mkS [],[jR 4 Qa.cells v112])
def f68r1n4S(bg1 bg2:Int)(ba3:List Qa):Tr×Hp:=(mkS [(0,(.own 0)),(1,(jI bg1)),(10,(jI bg2))],[jR 4 Qa.cells ba3])
noncomputable def f68r1n4 (self:(Int→Int→Int→List Qa→Option (List Qa))) (bg1:Int) (bg2:Int) (ba3:List Qa):Option f68r1n4O :=
 (f68r1n5 self FUEL bg2 bg1 ba3).bind fun o109=>match o109 with
 | .exit2 v111=>some (.norm v111)
theorem f68r1n4_ok {self:(Int→Int→Int→List Qa→Option (List Qa))} (self_ok:(∀(a1 a2 a3:Int)(a4:List Qa){r:List Qa},self a1 a2 a3 a4=some r→Qr Try.prog true 68 [(.own 0),(jI a1),(jI a2),(jI a3),(.pl (.fn 42))] [jR 4 Qa.cells a4] (.tup []) [jR 4 Qa.cells r])) (bg1:Int) (bg2:Int) (ba3:List Qa) {o:f68r1n4O} (h:f68r1n4 self bg1 bg2 ba3=some o):T Try.prog Try.f68.ntmps 1 (cL (Qh 0 (Qh 1 (Qh 2 (cL (Qh 1 (cL (Qh 0 c68)))))))) (f68r1n4S bg1 bg2 ba3) (·=f68r1n4E bg1 bg2 ba3 o):=by
 unfold f68r1n4 at h;refine rN Qg 1 [j3] [] [] [] [0,10,13] (f68r1n5S bg2 bg1 ba3) an ?_;obtain ⟨o109,h110,h⟩:=Qc h;cases o109 with
 | exit2 v111 =>
  obtain rfl:=Qf h;exact T.last' (T.bl (i:=2) (by kernel_rfl) (by kernel_rfl) (f68r1n5_ok self_ok FUEL bg2 bg1 ba3 h110)) (tds:=[]) (m:=[]) (keep:=[]) (st2:=(f68r1n4E bg1 bg2 ba3 (.norm v111)).2) (by kernel_rfl) an rfl
inductive f68r1n2O where
 | norm
 | ret (v116:List Qa)
def f68r1n2E(bg1 bg2 bg3:Int)(ba4:List Qa):f68r1n2O→Ex×Tr×Hp
 | .norm=>(.norm,mkS [(0,(.own 0)),(1,(jI bg1)),(2,(jI bg2)),(3,(jI bg3)),(4,(.pl (.fn 42)))],[jR 4 Qa.cells ba4])
 | .ret v116=>(.ret,mkS [],[jR 4 Qa.cells v116])
def f68r1n2S(bg1 bg2 bg3:Int)(ba4:List Qa):Tr×Hp:=(mkS [(0,(.own 0)),(1,(jI bg1)),(2,(jI bg2)),(3,(jI bg3)),(4,(.pl (.fn 42))),(28,(.pl (.bool (decide ((wr64 (bg2-bg1))=1)))))],[jR 4 Qa.cells ba4])
noncomputable def f68r1n2 (self:(Int→Int→Int→List Qa→Option (List Qa))) (bg1:Int) (bg2:Int) (bg3:Int) (ba4:List Qa):Option f68r1n2O :=
 bif (decide ((wr64 (bg2-bg1))=1)) then
  (f68r1n3 self FUEL bg1 ba4 bg2 bg3).bind fun o59=>match o59 with
  | .exit0 v61=>(f68r1n4 self bg1 v61 ba4).bind fun o113=>match o113 with
   | .norm v115=>some (.ret v115)
 else
  some .norm
theorem f68r1n2_ok {self:(Int→Int→Int→List Qa→Option (List Qa))} (self_ok:(∀(a1 a2 a3:Int)(a4:List Qa){r:List Qa},self a1 a2 a3 a4=some r→Qr Try.prog true 68 [(.own 0),(jI a1),(jI a2),(jI a3),(.pl (.fn 42))] [jR 4 Qa.cells a4] (.tup []) [jR 4 Qa.cells r])) (bg1:Int) (bg2:Int) (bg3:Int) (ba4:List Qa) {o:f68r1n2O} (h:f68r1n2 self bg1 bg2 bg3 ba4=some o):T Try.prog Try.f68.ntmps 1 (Qh 1 (cL (Qh 0 c68))) (f68r1n2S bg1 bg2 bg3 ba4) (·=f68r1n2E bg1 bg2 bg3 ba4 o):=by
 unfold f68r1n2 at h;rcases Qi h with ⟨h5,h⟩|⟨h5,h⟩
 ·refine T.condT (o:=.tmp 28) (b:=(decide ((wr64 (bg2-bg1))=1))) (by kernel_rfl) (by kernel_rfl) h5 ?_;refine rN Qg 2 [j3,j3] [] [] [] [0,1,4,10,11] (f68r1n3S bg1 ba4 bg2 bg3) an ?_;obtain ⟨o59,h60,h⟩:=Qc h;cases o59 with
  | exit0 v61 =>
   refine T.oneN (by kernel_rfl) (T.bl (i:=0) (by kernel_rfl) (by kernel_rfl) (f68r1n3_ok self_ok FUEL bg1 ba4 bg2 bg3 h60)) (st2:=(f68r1n3E bg1 ba4 (.exit0 v61)).2) rfl ?_;refine rN Qg 0 [] [] [] [] [0,1,10] (f68r1n4S bg1 v61 ba4) an ?_;obtain ⟨o113,h114,h⟩:=Qc h;cases o113 with
   | norm v115 =>
    refine T.oneN (by kernel_rfl) (f68r1n4_ok self_ok bg1 v61 ba4 h114) (st2:=(f68r1n4E bg1 v61 ba4 (.norm v115)).2) rfl ?_;obtain rfl:=Qf h;exact rE Qg [] [] [] [] [] (.ret,(f68r1n2E bg1 bg2 bg3 ba4 (.ret v115)).2) an rfl
 ·refine T.condF (o:=.tmp 28) (b:=(decide ((wr64 (bg2-bg1))=1))) (by kernel_rfl) (by kernel_rfl) h5 ?_;obtain rfl:=Qf h;exact rE Qg [] [] [] [] [0,1,2,3,4] (.norm,(f68r1n2E bg1 bg2 bg3 ba4 .norm).2) an rfl
inductive f68r1n1O where
 | norm
 | ret (v120:List Qa)
def f68r1n1E(bg1 bg2 bg3:Int)(ba4:List Qa):f68r1n1O→Ex×Tr×Hp
 | .norm=>(.norm,mkS [(0,(.own 0)),(1,(jI bg1)),(2,(jI bg2)),(3,(jI bg3)),(4,(.pl (.fn 42)))],[jR 4 Qa.cells ba4])
 | .ret v120=>(.ret,mkS [],[jR 4 Qa.cells v120])
def f68r1n1S(bg1 bg2 bg3:Int)(ba4:List Qa):Tr×Hp:=(mkS [(0,(.own 0)),(1,(jI bg1)),(2,(jI bg2)),(3,(jI bg3)),(4,(.pl (.fn 42)))],[jR 4 Qa.cells ba4])
noncomputable def f68r1n1 (self:(Int→Int→Int→List Qa→Option (List Qa))) (bg1:Int) (bg2:Int) (bg3:Int) (ba4:List Qa):Option f68r1n1O :=
 (f68r1n2 self bg1 bg2 bg3 ba4).bind fun o117=>match o117 with
 | .norm=>some .norm
 | .ret v119=>some (.ret v119)
theorem f68r1n1_ok {self:(Int→Int→Int→List Qa→Option (List Qa))} (self_ok:(∀(a1 a2 a3:Int)(a4:List Qa){r:List Qa},self a1 a2 a3 a4=some r→Qr Try.prog true 68 [(.own 0),(jI a1),(jI a2),(jI a3),(.pl (.fn 42))] [jR 4 Qa.cells a4] (.tup []) [jR 4 Qa.cells r])) (bg1:Int) (bg2:Int) (bg3:Int) (ba4:List Qa) {o:f68r1n1O} (h:f68r1n1 self bg1 bg2 bg3 ba4=some o):T Try.prog Try.f68.ntmps 1 (cL (Qh 0 c68)) (f68r1n1S bg1 bg2 bg3 ba4) (·=f68r1n1E bg1 bg2 bg3 ba4 o):=by
 unfold f68r1n1 at h;refine rN Qg 1 [j3] [] [] [] [0,1,2,3,4,28] (f68r1n2S bg1 bg2 bg3 ba4) an ?_;obtain ⟨o117,h118,h⟩:=Qc h;cases o117 with
 | norm =>
  obtain rfl:=Qf h;exact T.last' (f68r1n2_ok self_ok bg1 bg2 bg3 ba4 h118) (tds:=[]) (m:=[]) (keep:=[0,1,2,3,4]) (st2:=(f68r1n1E bg1 bg2 bg3 ba4 .norm).2) (by kernel_rfl) an rfl
 | ret v119 =>
  obtain rfl:=Qf h;exact T.last' (f68r1n2_ok self_ok bg1 bg2 bg3 ba4 h118) (tds:=[]) (m:=[]) (keep:=[]) (st2:=(f68r1n1E bg1 bg2 bg3 ba4 (.ret v119)).2) (by kernel_rfl) an rfl
inductive f68r1n8O where
 | exit4 (v176:Int)
def f68r1n8E(bg2:Int)(ba4:List Qa):f68r1n8O→Ex×Tr×Hp
 | .exit4 v176=>((.exit 4),mkS [(0,(.own 0)),(2,(jI bg2)),(14,(jI v176))],[jR 4 Qa.cells ba4])
def f68r1n8S(bg2:Int)(ba4:List Qa)(v158 v159:Int):Tr×Hp:=(mkS [(0,(.own 0)),(2,(jI bg2)),(4,(.pl (.fn 42))),(14,(jI v158)),(15,(jI v159))],[jR 4 Qa.cells ba4])
noncomputable def f68r1n8 (self:(Int→Int→Int→List Qa→Option (List Qa))):Nat→Int→List Qa→Int→Int→Option f68r1n8O
 | 0,_,_,_,_=>none
 | f+1,bg2,ba4,v158,v159 =>
  bif decide (v158<v159) then
   (at? ba4 bg2).bind fun x169 =>
   (at? ba4 (wr64 (shrK .u64 (Qy (wr64 (v158+v159))) 1))).bind fun x171 =>
   (f42 x169 x171).bind fun x173 =>
   bif decide (x173<0) then
    (f68r1n8 self f bg2 ba4 v158 (wr64 (shrK .u64 (Qy (wr64 (v158+v159))) 1)))
   else
    (f68r1n8 self f bg2 ba4 (wr64 ((wr64 (shrK .u64 (Qy (wr64 (v158+v159))) 1))+1)) v159)
  else
   some (.exit4 v158)
theorem f68r1n8_ok {self:(Int→Int→Int→List Qa→Option (List Qa))} (self_ok:(∀(a1 a2 a3:Int)(a4:List Qa){r:List Qa},self a1 a2 a3 a4=some r→Qr Try.prog true 68 [(.own 0),(jI a1),(jI a2),(jI a3),(.pl (.fn 42))] [jR 4 Qa.cells a4] (.tup []) [jR 4 Qa.cells r])):∀(f:Nat)(bg2:Int)(ba4:List Qa)(v158 v159:Int){o:f68r1n8O},f68r1n8 self f bg2 ba4 v158 v159=some o→TL Try.prog Try.f68.ntmps 1 f (cL (cL (cL (Qh 2 (cL (Qh 1 (cL (Qh 0 (Qh 1 (Qh 0 c68)))))))))) (f68r1n8S bg2 ba4 v158 v159) (·=f68r1n8E bg2 ba4 o)
 | 0,_,_,_,_,o,h=>by rw [f68r1n8] at h; cases h
 | f+1,bg2,ba4,v158,v159,o,h=>by
  rw [f68r1n8] at h;refine TL.body (K:=fun s=>∃v158:Int,∃v159:Int,s=(f68r1n8S bg2 ba4 v158 v159)∧f68r1n8 self f bg2 ba4 v158 v159=some o) ?_ (by rintro _ ⟨v158,v159,rfl,hk⟩; exact f68r1n8_ok self_ok f _ _ _ _ hk);rcases Qi h with ⟨h161,h⟩|⟨h161,h⟩
  ·obtain ⟨x169,h170,h⟩:=Qc h;obtain ⟨x171,h172,h⟩:=Qc h;obtain ⟨x173,h174,h⟩:=Qc h;rcases Qi h with ⟨h175,h⟩|⟨h175,h⟩
   ·exact rE Qg [j3,j3,([],[(3,.at_ (Int.toNat bg2)),(4,.idx 0 (Qa.cells x169)),(7,.at_ (Int.toNat (wr64 (shrK .u64 (Qy (wr64 (v158+v159))) 1)))),(8,.idx 0 (Qa.cells x171)),jH 9 (jI x173)],[]),j3] [some true,some false] [] [] [0,2,4,14,15] (.norm,(f68r1n8S bg2 ba4 v158 (wr64 (shrK .u64 (Qy (wr64 (v158+v159))) 1)))) (ap h161 (ap (Qe h170).1 (ap (Qp Qa.cells (Qe h170).2) (ap (Ql Qa.cells (Qe h170).2) (ap (Qe h172).1 (ap (Qp Qa.cells (Qe h172).2) (ap (Ql Qa.cells (Qe h172).2) (ap (f42_ok x169 x171 h174) (ap (Qab h175) an))))))))) (Qn.norm ⟨v158,(wr64 (shrK .u64 (Qy (wr64 (v158+v159))) 1)),rfl,h⟩)
   ·exact rE Qg [j3,j3,([],[(3,.at_ (Int.toNat bg2)),(4,.idx 0 (Qa.cells x169)),(7,.at_ (Int.toNat (wr64 (shrK .u64 (Qy (wr64 (v158+v159))) 1)))),(8,.idx 0 (Qa.cells x171)),jH 9 (jI x173)],[]),j3] [some true,some true] [] [] [0,2,4,14,15] (.norm,(f68r1n8S bg2 ba4 (wr64 ((wr64 (shrK .u64 (Qy (wr64 (v158+v159))) 1))+1)) v159)) (ap h161 (ap (Qe h170).1 (ap (Qp Qa.cells (Qe h170).2) (ap (Ql Qa.cells (Qe h170).2) (ap (Qe h172).1 (ap (Qp Qa.cells (Qe h172).2) (ap (Ql Qa.cells (Qe h172).2) (ap (f42_ok x169 x171 h174) (ap (Qak h175) an))))))))) (Qn.norm ⟨(wr64 ((wr64 (shrK .u64 (Qy (wr64 (v158+v159))) 1))+1)),v159,rfl,h⟩)
  ·obtain rfl:=Qf h;exact rK Qg 1 [j3] [some false] [] [] [0,2,14] (.exit 4) ((f68r1n8E bg2 ba4 (.exit4 v158)).2) (ap h161 an) (Qn.out rfl rfl)
inductive f68r1n10O where
 | exit6 (v226:List Qa)
def f68r1n10E(bg2:Int):f68r1n10O→Ex×Tr×Hp
 | .exit6 v226=>((.exit 6),mkS [],[jR 4 Qa.cells v226])
def f68r1n10S(bg2 v210:Int)(v211:List Qa):Tr×Hp:=(mkS [(0,(.own 0)),(14,(jI bg2)),(17,(jI v210))],[jR 4 Qa.cells v211])
noncomputable def f68r1n10 (self:(Int→Int→Int→List Qa→Option (List Qa))):Nat→Int→Int→List Qa→Option f68r1n10O
 | 0,_,_,_=>none
 | f+1,bg2,v210,v211 =>
  bif decide (bg2<v210) then
   (at? v211 (wr64 (v210-1))).bind fun x220 =>
   (at? v211 v210).bind fun x222 =>
   (at? (v211.set (Int.toNat v210) x220) (wr64 (v210-1))).bind fun x224 =>
   (f68r1n10 self f bg2 (wr64 (v210-1)) ((v211.set (Int.toNat v210) x220).set (Int.toNat (wr64 (v210-1))) x222))
  else
   some (.exit6 v211)
theorem f68r1n10_ok {self:(Int→Int→Int→List Qa→Option (List Qa))} (self_ok:(∀(a1 a2 a3:Int)(a4:List Qa){r:List Qa},self a1 a2 a3 a4=some r→Qr Try.prog true 68 [(.own 0),(jI a1),(jI a2),(jI a3),(.pl (.fn 42))] [jR 4 Qa.cells a4] (.tup []) [jR 4 Qa.cells r])):∀(f:Nat)(bg2 v210:Int)(v211:List Qa){o:f68r1n10O},f68r1n10 self f bg2 v210 v211=some o→TL Try.prog Try.f68.ntmps 1 f (cL (cL (Qh 1 (cL (Qh 0 (Qh 1 (Qh 2 (cL (Qh 1 (cL (Qh 0 (Qh 1 (Qh 0 c68))))))))))))) (f68r1n10S bg2 v210 v211) (·=f68r1n10E bg2 o)
 | 0,_,_,_,o,h=>by rw [f68r1n10] at h; cases h
 | f+1,bg2,v210,v211,o,h=>by
  rw [f68r1n10] at h;refine TL.body (K:=fun s=>∃v210:Int,∃v211:List Qa,s=(f68r1n10S bg2 v210 v211)∧f68r1n10 self f bg2 v210 v211=some o) ?_ (by rintro _ ⟨v210,v211,rfl,hk⟩; exact f68r1n10_ok self_ok f _ _ _ hk);rcases Qi h with ⟨h213,h⟩|⟨h213,h⟩
  ·obtain ⟨x220,h221,h⟩:=Qc h;obtain ⟨x222,h223,h⟩:=Qc h;obtain ⟨x224,h225,h⟩:=Qc h
   exact rE Qg [j3,([],[(8,.at_ (Int.toNat (wr64 (v210-1)))),(9,.idx 0 (Qa.cells x220)),(12,.at_ (Int.toNat v210)),(13,.idx 0 (Qa.cells x222)),(14,.at_ (Int.toNat v210)),(15,.idx 0 (Qa.cells x222)),(16,.at_ (Int.toNat (wr64 (v210-1)))),(17,.idx 0 (Qa.cells x224))],[(15,.row 0 ((v211.set (Int.toNat v210) x220).map Qa.cells)),(17,.row 0 (((v211.set (Int.toNat v210) x220).set (Int.toNat (wr64 (v210-1))) x222).map Qa.cells))]),j3] [some true] [] [] [0,14,17] (.norm,(f68r1n10S bg2 (wr64 (v210-1)) ((v211.set (Int.toNat v210) x220).set (Int.toNat (wr64 (v210-1))) x222))) (ap h213 (ap (Qe h221).1 (ap (Qp Qa.cells (Qe h221).2) (ap (Ql Qa.cells (Qe h221).2) (ap (Qe h223).1 (ap (Qp Qa.cells (Qe h223).2) (ap (Ql Qa.cells (Qe h223).2) (ap (Qe h223).1 (ap (Qp Qa.cells (Qe h223).2) (ap (Ql Qa.cells (Qe h223).2) (ap (Qcj (xs:=v211) (c:=Qa.cells) (k:=(Int.toNat v210)) (x:=x220)) (ap (Qe h225).1 (ap (Qp Qa.cells (Qe h225).2) (ap (Ql Qa.cells (Qe h225).2) (ap (Qcj (xs:=(v211.set (Int.toNat v210) x220)) (c:=Qa.cells) (k:=(Int.toNat (wr64 (v210-1)))) (x:=x222)) an))))))))))))))) (Qn.norm ⟨(wr64 (v210-1)),((v211.set (Int.toNat v210) x220).set (Int.toNat (wr64 (v210-1))) x222),rfl,h⟩)
  ·obtain rfl:=Qf h;exact rK Qg 1 [j3] [some false] [] [] [] (.exit 6) ((f68r1n10E bg2 (.exit6 v211)).2) (ap h213 an) (Qn.out rfl rfl)
inductive f68r1n9O where
 | norm (v230:List Qa)
def f68r1n9E(bg1 bg2:Int)(ba3:List Qa):f68r1n9O→Ex×Tr×Hp
 | .norm v230=>(.norm,mkS [],[jR 4 Qa.cells v230])
def f68r1n9S(bg1 bg2:Int)(ba3:List Qa):Tr×Hp:=(mkS [(0,(.own 0)),(2,(jI bg1)),(14,(jI bg2))],[jR 4 Qa.cells ba3])
noncomputable def f68r1n9 (self:(Int→Int→Int→List Qa→Option (List Qa))) (bg1:Int) (bg2:Int) (ba3:List Qa):Option f68r1n9O :=
 (f68r1n10 self FUEL bg2 bg1 ba3).bind fun o227=>match o227 with
 | .exit6 v229=>some (.norm v229)
theorem f68r1n9_ok {self:(Int→Int→Int→List Qa→Option (List Qa))} (self_ok:(∀(a1 a2 a3:Int)(a4:List Qa){r:List Qa},self a1 a2 a3 a4=some r→Qr Try.prog true 68 [(.own 0),(jI a1),(jI a2),(jI a3),(.pl (.fn 42))] [jR 4 Qa.cells a4] (.tup []) [jR 4 Qa.cells r])) (bg1:Int) (bg2:Int) (ba3:List Qa) {o:f68r1n9O} (h:f68r1n9 self bg1 bg2 ba3=some o):T Try.prog Try.f68.ntmps 1 (cL (Qh 0 (Qh 1 (Qh 2 (cL (Qh 1 (cL (Qh 0 (Qh 1 (Qh 0 c68)))))))))) (f68r1n9S bg1 bg2 ba3) (·=f68r1n9E bg1 bg2 ba3 o):=by
 unfold f68r1n9 at h;refine rN Qg 1 [j3] [] [] [] [0,14,17] (f68r1n10S bg2 bg1 ba3) an ?_;obtain ⟨o227,h228,h⟩:=Qc h;cases o227 with
 | exit6 v229 =>
  obtain rfl:=Qf h;exact T.last' (T.bl (i:=6) (by kernel_rfl) (by kernel_rfl) (f68r1n10_ok self_ok FUEL bg2 bg1 ba3 h228)) (tds:=[]) (m:=[]) (keep:=[]) (st2:=(f68r1n9E bg1 bg2 ba3 (.norm v229)).2) (by kernel_rfl) an rfl
inductive f68r1n7O where
 | norm
 | ret (v234:List Qa)
def f68r1n7E(bg1 bg2 bg3:Int)(ba4:List Qa):f68r1n7O→Ex×Tr×Hp
 | .norm=>(.norm,mkS [(0,(.own 0)),(1,(jI bg1)),(2,(jI bg2)),(3,(jI bg3)),(4,(.pl (.fn 42)))],[jR 4 Qa.cells ba4])
 | .ret v234=>(.ret,mkS [],[jR 4 Qa.cells v234])
def f68r1n7S(bg1 bg2 bg3:Int)(ba4:List Qa):Tr×Hp:=(mkS [(0,(.own 0)),(1,(jI bg1)),(2,(jI bg2)),(3,(jI bg3)),(4,(.pl (.fn 42))),(80,(.pl (.bool (decide ((wr64 (bg3-bg2))=1)))))],[jR 4 Qa.cells ba4])
noncomputable def f68r1n7 (self:(Int→Int→Int→List Qa→Option (List Qa))) (bg1:Int) (bg2:Int) (bg3:Int) (ba4:List Qa):Option f68r1n7O :=
 bif (decide ((wr64 (bg3-bg2))=1)) then
  (f68r1n8 self FUEL bg2 ba4 bg1 bg2).bind fun o177=>match o177 with
  | .exit4 v179=>(f68r1n9 self bg2 v179 ba4).bind fun o231=>match o231 with
   | .norm v233=>some (.ret v233)
 else
  some .norm
theorem f68r1n7_ok {self:(Int→Int→Int→List Qa→Option (List Qa))} (self_ok:(∀(a1 a2 a3:Int)(a4:List Qa){r:List Qa},self a1 a2 a3 a4=some r→Qr Try.prog true 68 [(.own 0),(jI a1),(jI a2),(jI a3),(.pl (.fn 42))] [jR 4 Qa.cells a4] (.tup []) [jR 4 Qa.cells r])) (bg1:Int) (bg2:Int) (bg3:Int) (ba4:List Qa) {o:f68r1n7O} (h:f68r1n7 self bg1 bg2 bg3 ba4=some o):T Try.prog Try.f68.ntmps 1 (Qh 1 (cL (Qh 0 (Qh 1 (Qh 0 c68))))) (f68r1n7S bg1 bg2 bg3 ba4) (·=f68r1n7E bg1 bg2 bg3 ba4 o):=by
 unfold f68r1n7 at h;rcases Qi h with ⟨h123,h⟩|⟨h123,h⟩
 ·refine T.condT (o:=.tmp 80) (b:=(decide ((wr64 (bg3-bg2))=1))) (by kernel_rfl) (by kernel_rfl) h123 ?_;refine rN Qg 2 [j3,j3] [] [] [] [0,2,4,14,15] (f68r1n8S bg2 ba4 bg1 bg2) an ?_;obtain ⟨o177,h178,h⟩:=Qc h;cases o177 with
  | exit4 v179 =>
   refine T.oneN (by kernel_rfl) (T.bl (i:=4) (by kernel_rfl) (by kernel_rfl) (f68r1n8_ok self_ok FUEL bg2 ba4 bg1 bg2 h178)) (st2:=(f68r1n8E bg2 ba4 (.exit4 v179)).2) rfl ?_;refine rN Qg 0 [] [] [] [] [0,2,14] (f68r1n9S bg2 v179 ba4) an ?_;obtain ⟨o231,h232,h⟩:=Qc h;cases o231 with
   | norm v233 =>
    refine T.oneN (by kernel_rfl) (f68r1n9_ok self_ok bg2 v179 ba4 h232) (st2:=(f68r1n9E bg2 v179 ba4 (.norm v233)).2) rfl ?_;obtain rfl:=Qf h;exact rE Qg [] [] [] [] [] (.ret,(f68r1n7E bg1 bg2 bg3 ba4 (.ret v233)).2) an rfl
 ·refine T.condF (o:=.tmp 80) (b:=(decide ((wr64 (bg3-bg2))=1))) (by kernel_rfl) (by kernel_rfl) h123 ?_;obtain rfl:=Qf h;exact rE Qg [] [] [] [] [0,1,2,3,4] (.norm,(f68r1n7E bg1 bg2 bg3 ba4 .norm).2) an rfl
inductive f68r1n6O where
 | norm
 | ret (v238:List Qa)
def f68r1n6E(bg1 bg2 bg3:Int)(ba4:List Qa):f68r1n6O→Ex×Tr×Hp
 | .norm=>(.norm,mkS [(0,(.own 0)),(1,(jI bg1)),(2,(jI bg2)),(3,(jI bg3)),(4,(.pl (.fn 42)))],[jR 4 Qa.cells ba4])
 | .ret v238=>(.ret,mkS [],[jR 4 Qa.cells v238])
def f68r1n6S(bg1 bg2 bg3:Int)(ba4:List Qa):Tr×Hp:=(mkS [(0,(.own 0)),(1,(jI bg1)),(2,(jI bg2)),(3,(jI bg3)),(4,(.pl (.fn 42)))],[jR 4 Qa.cells ba4])
noncomputable def f68r1n6 (self:(Int→Int→Int→List Qa→Option (List Qa))) (bg1:Int) (bg2:Int) (bg3:Int) (ba4:List Qa):Option f68r1n6O :=
 (f68r1n7 self bg1 bg2 bg3 ba4).bind fun o235=>match o235 with
 | .norm=>some .norm
 | .ret v237=>some (.ret v237)
theorem f68r1n6_ok {self:(Int→Int→Int→List Qa→Option (List Qa))} (self_ok:(∀(a1 a2 a3:Int)(a4:List Qa){r:List Qa},self a1 a2 a3 a4=some r→Qr Try.prog true 68 [(.own 0),(jI a1),(jI a2),(jI a3),(.pl (.fn 42))] [jR 4 Qa.cells a4] (.tup []) [jR 4 Qa.cells r])) (bg1:Int) (bg2:Int) (bg3:Int) (ba4:List Qa) {o:f68r1n6O} (h:f68r1n6 self bg1 bg2 bg3 ba4=some o):T Try.prog Try.f68.ntmps 1 (cL (Qh 0 (Qh 1 (Qh 0 c68)))) (f68r1n6S bg1 bg2 bg3 ba4) (·=f68r1n6E bg1 bg2 bg3 ba4 o):=by
 unfold f68r1n6 at h;refine rN Qg 1 [j3] [] [] [] [0,1,2,3,4,80] (f68r1n7S bg1 bg2 bg3 ba4) an ?_;obtain ⟨o235,h236,h⟩:=Qc h;cases o235 with
 | norm =>
  obtain rfl:=Qf h;exact T.last' (f68r1n7_ok self_ok bg1 bg2 bg3 ba4 h236) (tds:=[]) (m:=[]) (keep:=[0,1,2,3,4]) (st2:=(f68r1n6E bg1 bg2 bg3 ba4 .norm).2) (by kernel_rfl) an rfl
 | ret v237 =>
  obtain rfl:=Qf h;exact T.last' (f68r1n7_ok self_ok bg1 bg2 bg3 ba4 h236) (tds:=[]) (m:=[]) (keep:=[]) (st2:=(f68r1n6E bg1 bg2 bg3 ba4 (.ret v237)).2) (by kernel_rfl) an rfl
inductive f68r1n11O where
 | norm (v244:Int) (v245:Int)
def f68r1n11E(bg1 bg2 bg3:Int)(ba4:List Qa):f68r1n11O→Ex×Tr×Hp
 | .norm v244 v245=>(.norm,mkS [(0,(.own 0)),(1,(jI bg1)),(2,(jI bg2)),(3,(jI bg3)),(4,(.pl (.fn 42))),(18,(.pl (.int .i64 (wr64 (shrK .u64 (Qy (wr64 (bg1+bg3))) 1))))),(19,(.pl (.int .i64 (wr64 ((wr64 (shrK .u64 (Qy (wr64 (bg1+bg3))) 1))+bg2))))),(20,(jI v244)),(21,(jI v245))],[jR 4 Qa.cells ba4])
def f68r1n11S(bg1 bg2 bg3:Int)(ba4:List Qa):Tr×Hp:=(mkS [(0,(.own 0)),(1,(jI bg1)),(2,(jI bg2)),(3,(jI bg3)),(4,(.pl (.fn 42))),(18,(.pl (.int .i64 (wr64 (shrK .u64 (Qy (wr64 (bg1+bg3))) 1))))),(19,(.pl (.int .i64 (wr64 ((wr64 (shrK .u64 (Qy (wr64 (bg1+bg3))) 1))+bg2)))))],[jR 4 Qa.cells ba4])
noncomputable def f68r1n11 (self:(Int→Int→Int→List Qa→Option (List Qa))) (bg1:Int) (bg2:Int) (bg3:Int) (ba4:List Qa):Option f68r1n11O :=
 bif (decide ((wr64 (shrK .u64 (Qy (wr64 (bg1+bg3))) 1))<bg2)) then
  some (.norm (wr64 ((wr64 ((wr64 (shrK .u64 (Qy (wr64 (bg1+bg3))) 1))+bg2))-bg3)) (wr64 (shrK .u64 (Qy (wr64 (bg1+bg3))) 1)))
 else
  some (.norm bg1 bg2)
theorem f68r1n11_ok {self:(Int→Int→Int→List Qa→Option (List Qa))} (self_ok:(∀(a1 a2 a3:Int)(a4:List Qa){r:List Qa},self a1 a2 a3 a4=some r→Qr Try.prog true 68 [(.own 0),(jI a1),(jI a2),(jI a3),(.pl (.fn 42))] [jR 4 Qa.cells a4] (.tup []) [jR 4 Qa.cells r])) (bg1:Int) (bg2:Int) (bg3:Int) (ba4:List Qa) {o:f68r1n11O} (h:f68r1n11 self bg1 bg2 bg3 ba4=some o):T Try.prog Try.f68.ntmps 1 (cL (Qh 3 (Qh 1 (Qh 0 (Qh 1 (Qh 0 c68)))))) (f68r1n11S bg1 bg2 bg3 ba4) (·=f68r1n11E bg1 bg2 bg3 ba4 o):=by
 unfold f68r1n11 at h;rcases Qi h with ⟨h243,h⟩|⟨h243,h⟩
 ·obtain rfl:=Qf h;exact rE Qg [j3,j3,j3] [some true] [] [] [0,1,2,3,4,18,19,20,21] (.norm,(f68r1n11E bg1 bg2 bg3 ba4 (.norm (wr64 ((wr64 ((wr64 (shrK .u64 (Qy (wr64 (bg1+bg3))) 1))+bg2))-bg3)) (wr64 (shrK .u64 (Qy (wr64 (bg1+bg3))) 1)))).2) (ap h243 an) rfl
 ·obtain rfl:=Qf h;exact rE Qg [j3,j3,j3] [some false] [] [] [0,1,2,3,4,18,19,20,21] (.norm,(f68r1n11E bg1 bg2 bg3 ba4 (.norm bg1 bg2)).2) (ap h243 an) rfl
inductive f68r1n12O where
 | exit8 (v302:Int)
def f68r1n12E(a1 a2 a3:Int)(a4:List Qa):f68r1n12O→Ex×Tr×Hp
 | .exit8 v302=>((.exit 8),mkS [(0,(.own 0)),(1,(jI a1)),(2,(jI a2)),(3,(jI a3)),(4,(.pl (.fn 42))),(18,(.pl (.int .i64 (wr64 (shrK .u64 (Qy (wr64 (a1+a3))) 1))))),(19,(.pl (.int .i64 (wr64 ((wr64 (shrK .u64 (Qy (wr64 (a1+a3))) 1))+a2))))),(20,(jI v302))],[jR 4 Qa.cells a4])
def f68r1n12S(a1 a2 a3:Int)(a4:List Qa)(v284 v285:Int):Tr×Hp:=(mkS [(0,(.own 0)),(1,(jI a1)),(2,(jI a2)),(3,(jI a3)),(4,(.pl (.fn 42))),(18,(.pl (.int .i64 (wr64 (shrK .u64 (Qy (wr64 (a1+a3))) 1))))),(19,(.pl (.int .i64 (wr64 ((wr64 (shrK .u64 (Qy (wr64 (a1+a3))) 1))+a2))))),(20,(jI v284)),(21,(jI v285)),(22,(.pl (.int .i64 (wr64 ((wr64 ((wr64 (shrK .u64 (Qy (wr64 (a1+a3))) 1))+a2))-1)))))],[jR 4 Qa.cells a4])
noncomputable def f68r1n12 (self:(Int→Int→Int→List Qa→Option (List Qa))):Nat→Int→Int→Int→List Qa→Int→Int→Option f68r1n12O
 | 0,_,_,_,_,_,_=>none
 | f+1,a1,a2,a3,a4,v284,v285 =>
  bif decide (v284<v285) then
   (at? a4 (wr64 ((wr64 ((wr64 ((wr64 (shrK .u64 (Qy (wr64 (a1+a3))) 1))+a2))-1))-(wr64 (shrK .u64 (Qy (wr64 (v284+v285))) 1))))).bind fun x295 =>
   (at? a4 (wr64 (shrK .u64 (Qy (wr64 (v284+v285))) 1))).bind fun x297 =>
   (f42 x295 x297).bind fun x299 =>
   bif decide (x299<0) then
    (f68r1n12 self f a1 a2 a3 a4 v284 (wr64 (shrK .u64 (Qy (wr64 (v284+v285))) 1)))
   else
    (f68r1n12 self f a1 a2 a3 a4 (wr64 ((wr64 (shrK .u64 (Qy (wr64 (v284+v285))) 1))+1)) v285)
  else
   some (.exit8 v284)
theorem f68r1n12_ok {self:(Int→Int→Int→List Qa→Option (List Qa))} (self_ok:(∀(a1 a2 a3:Int)(a4:List Qa){r:List Qa},self a1 a2 a3 a4=some r→Qr Try.prog true 68 [(.own 0),(jI a1),(jI a2),(jI a3),(.pl (.fn 42))] [jR 4 Qa.cells a4] (.tup []) [jR 4 Qa.cells r])):∀(f:Nat)(a1 a2 a3:Int)(a4:List Qa)(v284 v285:Int){o:f68r1n12O},f68r1n12 self f a1 a2 a3 a4 v284 v285=some o→TL Try.prog Try.f68.ntmps 1 f (cL (cL (cL (Qh 1 (Qh 1 (Qh 3 (Qh 1 (Qh 0 (Qh 1 (Qh 0 c68)))))))))) (f68r1n12S a1 a2 a3 a4 v284 v285) (·=f68r1n12E a1 a2 a3 a4 o)
 | 0,_,_,_,_,_,_,o,h=>by rw [f68r1n12] at h; cases h
 | f+1,a1,a2,a3,a4,v284,v285,o,h=>by
  rw [f68r1n12] at h;refine TL.body (K:=fun s=>∃v284:Int,∃v285:Int,s=(f68r1n12S a1 a2 a3 a4 v284 v285)∧f68r1n12 self f a1 a2 a3 a4 v284 v285=some o) ?_ (by rintro _ ⟨v284,v285,rfl,hk⟩; exact f68r1n12_ok self_ok f _ _ _ _ _ _ hk);rcases Qi h with ⟨h287,h⟩|⟨h287,h⟩
  ·obtain ⟨x295,h296,h⟩:=Qc h;obtain ⟨x297,h298,h⟩:=Qc h;obtain ⟨x299,h300,h⟩:=Qc h;rcases Qi h with ⟨h301,h⟩|⟨h301,h⟩
   ·exact rE Qg [j3,j3,([],[(5,.at_ (Int.toNat (wr64 ((wr64 ((wr64 ((wr64 (shrK .u64 (Qy (wr64 (a1+a3))) 1))+a2))-1))-(wr64 (shrK .u64 (Qy (wr64 (v284+v285))) 1)))))),(6,.idx 0 (Qa.cells x295)),(9,.at_ (Int.toNat (wr64 (shrK .u64 (Qy (wr64 (v284+v285))) 1)))),(10,.idx 0 (Qa.cells x297)),jH 11 (jI x299)],[]),j3] [some true,some false] [] [] [0,1,2,3,4,18,19,20,21,22] (.norm,(f68r1n12S a1 a2 a3 a4 v284 (wr64 (shrK .u64 (Qy (wr64 (v284+v285))) 1)))) (ap h287 (ap (Qe h296).1 (ap (Qp Qa.cells (Qe h296).2) (ap (Ql Qa.cells (Qe h296).2) (ap (Qe h298).1 (ap (Qp Qa.cells (Qe h298).2) (ap (Ql Qa.cells (Qe h298).2) (ap (f42_ok x295 x297 h300) (ap (Qab h301) an))))))))) (Qn.norm ⟨v284,(wr64 (shrK .u64 (Qy (wr64 (v284+v285))) 1)),rfl,h⟩)
   ·exact rE Qg [j3,j3,([],[(5,.at_ (Int.toNat (wr64 ((wr64 ((wr64 ((wr64 (shrK .u64 (Qy (wr64 (a1+a3))) 1))+a2))-1))-(wr64 (shrK .u64 (Qy (wr64 (v284+v285))) 1)))))),(6,.idx 0 (Qa.cells x295)),(9,.at_ (Int.toNat (wr64 (shrK .u64 (Qy (wr64 (v284+v285))) 1)))),(10,.idx 0 (Qa.cells x297)),jH 11 (jI x299)],[]),j3] [some true,some true] [] [] [0,1,2,3,4,18,19,20,21,22] (.norm,(f68r1n12S a1 a2 a3 a4 (wr64 ((wr64 (shrK .u64 (Qy (wr64 (v284+v285))) 1))+1)) v285)) (ap h287 (ap (Qe h296).1 (ap (Qp Qa.cells (Qe h296).2) (ap (Ql Qa.cells (Qe h296).2) (ap (Qe h298).1 (ap (Qp Qa.cells (Qe h298).2) (ap (Ql Qa.cells (Qe h298).2) (ap (f42_ok x295 x297 h300) (ap (Qak h301) an))))))))) (Qn.norm ⟨(wr64 ((wr64 (shrK .u64 (Qy (wr64 (v284+v285))) 1))+1)),v285,rfl,h⟩)
  ·obtain rfl:=Qf h;exact rK Qg 1 [j3] [some false] [] [] [0,1,2,3,4,18,19,20] (.exit 8) ((f68r1n12E a1 a2 a3 a4 (.exit8 v284)).2) (ap h287 an) (Qn.out rfl rfl)
inductive f68r1n14O where
 | norm (v313:Bool)
def f68r1n14E(bg1 bg2 bg3 bg4:Int)(ba5:List Qa):f68r1n14O→Ex×Tr×Hp
 | .norm v313=>(.norm,mkS [(0,(.own 0)),(1,(jI bg1)),(2,(jI bg2)),(3,(jI bg3)),(4,(.pl (.fn 42))),(18,(.pl (.int .i64 (wr64 (shrK .u64 (Qy (wr64 (bg1+bg3))) 1))))),(20,(jI bg4)),(24,(.pl (.int .i64 (wr64 ((wr64 ((wr64 (shrK .u64 (Qy (wr64 (bg1+bg3))) 1))+bg2))-bg4))))),(185,(jB v313))],[jR 4 Qa.cells ba5])
def f68r1n14S(bg1 bg2 bg3 bg4:Int)(ba5:List Qa):Tr×Hp:=(mkS [(0,(.own 0)),(1,(jI bg1)),(2,(jI bg2)),(3,(jI bg3)),(4,(.pl (.fn 42))),(18,(.pl (.int .i64 (wr64 (shrK .u64 (Qy (wr64 (bg1+bg3))) 1))))),(20,(jI bg4)),(24,(.pl (.int .i64 (wr64 ((wr64 ((wr64 (shrK .u64 (Qy (wr64 (bg1+bg3))) 1))+bg2))-bg4)))))],[jR 4 Qa.cells ba5])
noncomputable def f68r1n14 (self:(Int→Int→Int→List Qa→Option (List Qa))) (bg1:Int) (bg2:Int) (bg3:Int) (bg4:Int) (ba5:List Qa):Option f68r1n14O :=
 bif decide (bg4<bg2) then
  some (.norm (decide (bg2<(wr64 ((wr64 ((wr64 (shrK .u64 (Qy (wr64 (bg1+bg3))) 1))+bg2))-bg4)))))
 else
  some (.norm false)
theorem f68r1n14_ok {self:(Int→Int→Int→List Qa→Option (List Qa))} (self_ok:(∀(a1 a2 a3:Int)(a4:List Qa){r:List Qa},self a1 a2 a3 a4=some r→Qr Try.prog true 68 [(.own 0),(jI a1),(jI a2),(jI a3),(.pl (.fn 42))] [jR 4 Qa.cells a4] (.tup []) [jR 4 Qa.cells r])) (bg1:Int) (bg2:Int) (bg3:Int) (bg4:Int) (ba5:List Qa) {o:f68r1n14O} (h:f68r1n14 self bg1 bg2 bg3 bg4 ba5=some o):T Try.prog Try.f68.ntmps 1 (cL (Qh 0 (cL (Qh 1 (Qh 1 (Qh 1 (Qh 1 (Qh 3 (Qh 1 (Qh 0 (Qh 1 (Qh 0 c68)))))))))))) (f68r1n14S bg1 bg2 bg3 bg4 ba5) (·=f68r1n14E bg1 bg2 bg3 bg4 ba5 o):=by
 unfold f68r1n14 at h;rcases Qi h with ⟨h312,h⟩|⟨h312,h⟩
 ·obtain rfl:=Qf h;exact rE Qg [(jT [4,5,6],[(7,.bool true)],[])] [] [] [] [0,1,2,3,4,18,20,24,185] (.norm,(f68r1n14E bg1 bg2 bg3 bg4 ba5 (.norm (decide (bg2<(wr64 ((wr64 ((wr64 (shrK .u64 (Qy (wr64 (bg1+bg3))) 1))+bg2))-bg4)))))).2) (ap4 h312 an) rfl
 ·obtain rfl:=Qf h;exact rE Qg [(jF [4,5,6],[(7,.bool false)],[])] [] [] [] [0,1,2,3,4,18,20,24,185] (.norm,(f68r1n14E bg1 bg2 bg3 bg4 ba5 (.norm false)).2) (ap4 h312 an) rfl
inductive f68r1n13O where
 | norm (v323:List Qa)
def f68r1n13E(bg1 bg2 bg3 bg4:Int)(ba5:List Qa):f68r1n13O→Ex×Tr×Hp
 | .norm v323=>(.norm,mkS [(0,(.own 0)),(1,(jI bg1)),(3,(jI bg3)),(4,(.pl (.fn 42))),(18,(.pl (.int .i64 (wr64 (shrK .u64 (Qy (wr64 (bg1+bg3))) 1))))),(20,(jI bg4)),(24,(.pl (.int .i64 (wr64 ((wr64 ((wr64 (shrK .u64 (Qy (wr64 (bg1+bg3))) 1))+bg2))-bg4)))))],[jR 4 Qa.cells v323])
def f68r1n13S(bg1 bg2 bg3 bg4:Int)(ba5:List Qa):Tr×Hp:=(mkS [(0,(.own 0)),(1,(jI bg1)),(2,(jI bg2)),(3,(jI bg3)),(4,(.pl (.fn 42))),(18,(.pl (.int .i64 (wr64 (shrK .u64 (Qy (wr64 (bg1+bg3))) 1))))),(20,(jI bg4)),(24,(.pl (.int .i64 (wr64 ((wr64 ((wr64 (shrK .u64 (Qy (wr64 (bg1+bg3))) 1))+bg2))-bg4)))))],[jR 4 Qa.cells ba5])
noncomputable def f68r1n13 (self:(Int→Int→Int→List Qa→Option (List Qa))) (bg1:Int) (bg2:Int) (bg3:Int) (bg4:Int) (ba5:List Qa):Option f68r1n13O :=
 (f68r1n14 self bg1 bg2 bg3 bg4 ba5).bind fun o314=>match o314 with
 | .norm v316=>bif v316 then
   (f74r1 bg4 bg2 (wr64 ((wr64 ((wr64 (shrK .u64 (Qy (wr64 (bg1+bg3))) 1))+bg2))-bg4)) ba5).bind fun x321 =>
   some (.norm x321)
  else
   some (.norm ba5)
theorem f68r1n13_ok {self:(Int→Int→Int→List Qa→Option (List Qa))} (self_ok:(∀(a1 a2 a3:Int)(a4:List Qa){r:List Qa},self a1 a2 a3 a4=some r→Qr Try.prog true 68 [(.own 0),(jI a1),(jI a2),(jI a3),(.pl (.fn 42))] [jR 4 Qa.cells a4] (.tup []) [jR 4 Qa.cells r])) (bg1:Int) (bg2:Int) (bg3:Int) (bg4:Int) (ba5:List Qa) {o:f68r1n13O} (h:f68r1n13 self bg1 bg2 bg3 bg4 ba5=some o):T Try.prog Try.f68.ntmps 1 (cL (Qh 1 (Qh 1 (Qh 1 (Qh 1 (Qh 3 (Qh 1 (Qh 0 (Qh 1 (Qh 0 c68)))))))))) (f68r1n13S bg1 bg2 bg3 bg4 ba5) (·=f68r1n13E bg1 bg2 bg3 bg4 ba5 o):=by
 unfold f68r1n13 at h;refine rN Qg 0 [] [] [] [] [0,1,2,3,4,18,20,24] (f68r1n14S bg1 bg2 bg3 bg4 ba5) an ?_;obtain ⟨o314,h315,h⟩:=Qc h;cases o314 with
 | norm v316 =>
  refine T.oneN (by kernel_rfl) (f68r1n14_ok self_ok bg1 bg2 bg3 bg4 ba5 h315) (st2:=(f68r1n14E bg1 bg2 bg3 bg4 ba5 (.norm v316)).2) rfl ?_;rcases Qi h with ⟨h320,h⟩|⟨h320,h⟩
  ·obtain ⟨x321,h322,h⟩:=Qc h;obtain rfl:=Qf h;exact rE Qg [([],[(5,.call (.tup []) [jR 4 Qa.cells x321])],[])] [some true] [] [] [0,1,3,4,18,20,24] (.norm,(f68r1n13E bg1 bg2 bg3 bg4 ba5 (.norm x321)).2) (ap h320 (ap (f74r1_ok bg4 bg2 (wr64 ((wr64 ((wr64 (shrK .u64 (Qy (wr64 (bg1+bg3))) 1))+bg2))-bg4)) ba5 h322) an)) rfl
  ·obtain rfl:=Qf h;exact rE Qg [] [some false] [] [] [0,1,3,4,18,20,24] (.norm,(f68r1n13E bg1 bg2 bg3 bg4 ba5 (.norm ba5)).2) (ap h320 an) rfl
inductive f68r1n16O where
 | norm (v334:Bool)
def f68r1n16E(bg1 bg2 bg3 bg4:Int)(ba5:List Qa):f68r1n16O→Ex×Tr×Hp
 | .norm v334=>(.norm,mkS [(0,(.own 0)),(1,(jI bg1)),(3,(jI bg2)),(4,(.pl (.fn 42))),(18,(.pl (.int .i64 (wr64 (shrK .u64 (Qy (wr64 (bg1+bg2))) 1))))),(20,(jI bg3)),(24,(.pl (.int .i64 (wr64 ((wr64 ((wr64 (shrK .u64 (Qy (wr64 (bg1+bg2))) 1))+bg4))-bg3))))),(199,(jB v334))],[jR 4 Qa.cells ba5])
def f68r1n16S(bg1 bg2 bg3 bg4:Int)(ba5:List Qa):Tr×Hp:=(mkS [(0,(.own 0)),(1,(jI bg1)),(3,(jI bg2)),(4,(.pl (.fn 42))),(18,(.pl (.int .i64 (wr64 (shrK .u64 (Qy (wr64 (bg1+bg2))) 1))))),(20,(jI bg3)),(24,(.pl (.int .i64 (wr64 ((wr64 ((wr64 (shrK .u64 (Qy (wr64 (bg1+bg2))) 1))+bg4))-bg3)))))],[jR 4 Qa.cells ba5])
noncomputable def f68r1n16 (self:(Int→Int→Int→List Qa→Option (List Qa))) (bg1:Int) (bg2:Int) (bg3:Int) (bg4:Int) (ba5:List Qa):Option f68r1n16O :=
 bif decide (bg1<bg3) then
  some (.norm (decide (bg3<(wr64 (shrK .u64 (Qy (wr64 (bg1+bg2))) 1)))))
 else
  some (.norm false)
theorem f68r1n16_ok {self:(Int→Int→Int→List Qa→Option (List Qa))} (self_ok:(∀(a1 a2 a3:Int)(a4:List Qa){r:List Qa},self a1 a2 a3 a4=some r→Qr Try.prog true 68 [(.own 0),(jI a1),(jI a2),(jI a3),(.pl (.fn 42))] [jR 4 Qa.cells a4] (.tup []) [jR 4 Qa.cells r])) (bg1:Int) (bg2:Int) (bg3:Int) (bg4:Int) (ba5:List Qa) {o:f68r1n16O} (h:f68r1n16 self bg1 bg2 bg3 bg4 ba5=some o):T Try.prog Try.f68.ntmps 1 (cL (Qh 0 (cL (Qh 0 (Qh 1 (Qh 1 (Qh 1 (Qh 1 (Qh 1 (Qh 3 (Qh 1 (Qh 0 (Qh 1 (Qh 0 c68)))))))))))))) (f68r1n16S bg1 bg2 bg3 bg4 ba5) (·=f68r1n16E bg1 bg2 bg3 bg4 ba5 o):=by
 unfold f68r1n16 at h;rcases Qi h with ⟨h333,h⟩|⟨h333,h⟩
 ·obtain rfl:=Qf h;exact rE Qg [(jT [4,5,6],[(7,.bool true)],[])] [] [] [] [0,1,3,4,18,20,24,199] (.norm,(f68r1n16E bg1 bg2 bg3 bg4 ba5 (.norm (decide (bg3<(wr64 (shrK .u64 (Qy (wr64 (bg1+bg2))) 1)))))).2) (ap4 h333 an) rfl
 ·obtain rfl:=Qf h;exact rE Qg [(jF [4,5,6],[(7,.bool false)],[])] [] [] [] [0,1,3,4,18,20,24,199] (.norm,(f68r1n16E bg1 bg2 bg3 bg4 ba5 (.norm false)).2) (ap4 h333 an) rfl
inductive f68r1n15O where
 | norm (v344:List Qa)
def f68r1n15E(bg1 bg2 bg3 bg4:Int)(ba5:List Qa):f68r1n15O→Ex×Tr×Hp
 | .norm v344=>(.norm,mkS [(0,(.own 0)),(3,(jI bg2)),(4,(.pl (.fn 42))),(18,(.pl (.int .i64 (wr64 (shrK .u64 (Qy (wr64 (bg1+bg2))) 1))))),(24,(.pl (.int .i64 (wr64 ((wr64 ((wr64 (shrK .u64 (Qy (wr64 (bg1+bg2))) 1))+bg4))-bg3)))))],[jR 4 Qa.cells v344])
def f68r1n15S(bg1 bg2 bg3 bg4:Int)(ba5:List Qa):Tr×Hp:=(mkS [(0,(.own 0)),(1,(jI bg1)),(3,(jI bg2)),(4,(.pl (.fn 42))),(18,(.pl (.int .i64 (wr64 (shrK .u64 (Qy (wr64 (bg1+bg2))) 1))))),(20,(jI bg3)),(24,(.pl (.int .i64 (wr64 ((wr64 ((wr64 (shrK .u64 (Qy (wr64 (bg1+bg2))) 1))+bg4))-bg3)))))],[jR 4 Qa.cells ba5])
noncomputable def f68r1n15 (self:(Int→Int→Int→List Qa→Option (List Qa))) (bg1:Int) (bg2:Int) (bg3:Int) (bg4:Int) (ba5:List Qa):Option f68r1n15O :=
 (f68r1n16 self bg1 bg2 bg3 bg4 ba5).bind fun o335=>match o335 with
 | .norm v337=>bif v337 then
   (self bg1 bg3 (wr64 (shrK .u64 (Qy (wr64 (bg1+bg2))) 1)) ba5).bind fun x342 =>
   some (.norm x342)
  else
   some (.norm ba5)
theorem f68r1n15_ok {self:(Int→Int→Int→List Qa→Option (List Qa))} (self_ok:(∀(a1 a2 a3:Int)(a4:List Qa){r:List Qa},self a1 a2 a3 a4=some r→Qr Try.prog true 68 [(.own 0),(jI a1),(jI a2),(jI a3),(.pl (.fn 42))] [jR 4 Qa.cells a4] (.tup []) [jR 4 Qa.cells r])) (bg1:Int) (bg2:Int) (bg3:Int) (bg4:Int) (ba5:List Qa) {o:f68r1n15O} (h:f68r1n15 self bg1 bg2 bg3 bg4 ba5=some o):T Try.prog Try.f68.ntmps 1 (cL (Qh 0 (Qh 1 (Qh 1 (Qh 1 (Qh 1 (Qh 1 (Qh 3 (Qh 1 (Qh 0 (Qh 1 (Qh 0 c68)))))))))))) (f68r1n15S bg1 bg2 bg3 bg4 ba5) (·=f68r1n15E bg1 bg2 bg3 bg4 ba5 o):=by
 unfold f68r1n15 at h;refine rN Qg 0 [] [] [] [] [0,1,3,4,18,20,24] (f68r1n16S bg1 bg2 bg3 bg4 ba5) an ?_;obtain ⟨o335,h336,h⟩:=Qc h;cases o335 with
 | norm v337 =>
  refine T.oneN (by kernel_rfl) (f68r1n16_ok self_ok bg1 bg2 bg3 bg4 ba5 h336) (st2:=(f68r1n16E bg1 bg2 bg3 bg4 ba5 (.norm v337)).2) rfl ?_;rcases Qi h with ⟨h341,h⟩|⟨h341,h⟩
  ·obtain ⟨x342,h343,h⟩:=Qc h;obtain rfl:=Qf h;exact rE Qg [([],[(5,.call (.tup []) [jR 4 Qa.cells x342])],[])] [some true] [] [] [0,3,4,18,24] (.norm,(f68r1n15E bg1 bg2 bg3 bg4 ba5 (.norm x342)).2) (ap h341 (ap (self_ok bg1 bg3 (wr64 (shrK .u64 (Qy (wr64 (bg1+bg2))) 1)) ba5 h343) an)) rfl
  ·obtain rfl:=Qf h;exact rE Qg [] [some false] [] [] [0,3,4,18,24] (.norm,(f68r1n15E bg1 bg2 bg3 bg4 ba5 (.norm ba5)).2) (ap h341 an) rfl
inductive f68r1n17O where
 | norm (v351:Bool)
def f68r1n17E(bg1 bg2 bg3 bg4:Int)(ba5:List Qa):f68r1n17O→Ex×Tr×Hp
 | .norm v351=>(.norm,mkS [(0,(.own 0)),(3,(jI bg1)),(4,(.pl (.fn 42))),(18,(.pl (.int .i64 (wr64 (shrK .u64 (Qy (wr64 (bg2+bg1))) 1))))),(24,(.pl (.int .i64 (wr64 ((wr64 ((wr64 (shrK .u64 (Qy (wr64 (bg2+bg1))) 1))+bg3))-bg4))))),(213,(jB v351))],[jR 4 Qa.cells ba5])
def f68r1n17S(bg1 bg2 bg3 bg4:Int)(ba5:List Qa):Tr×Hp:=(mkS [(0,(.own 0)),(3,(jI bg1)),(4,(.pl (.fn 42))),(18,(.pl (.int .i64 (wr64 (shrK .u64 (Qy (wr64 (bg2+bg1))) 1))))),(24,(.pl (.int .i64 (wr64 ((wr64 ((wr64 (shrK .u64 (Qy (wr64 (bg2+bg1))) 1))+bg3))-bg4)))))],[jR 4 Qa.cells ba5])
noncomputable def f68r1n17 (self:(Int→Int→Int→List Qa→Option (List Qa))) (bg1:Int) (bg2:Int) (bg3:Int) (bg4:Int) (ba5:List Qa):Option f68r1n17O :=
 bif (decide ((wr64 (shrK .u64 (Qy (wr64 (bg2+bg1))) 1))<(wr64 ((wr64 ((wr64 (shrK .u64 (Qy (wr64 (bg2+bg1))) 1))+bg3))-bg4)))) then
  some (.norm (decide ((wr64 ((wr64 ((wr64 (shrK .u64 (Qy (wr64 (bg2+bg1))) 1))+bg3))-bg4))<bg1)))
 else
  some (.norm false)
theorem f68r1n17_ok {self:(Int→Int→Int→List Qa→Option (List Qa))} (self_ok:(∀(a1 a2 a3:Int)(a4:List Qa){r:List Qa},self a1 a2 a3 a4=some r→Qr Try.prog true 68 [(.own 0),(jI a1),(jI a2),(jI a3),(.pl (.fn 42))] [jR 4 Qa.cells a4] (.tup []) [jR 4 Qa.cells r])) (bg1:Int) (bg2:Int) (bg3:Int) (bg4:Int) (ba5:List Qa) {o:f68r1n17O} (h:f68r1n17 self bg1 bg2 bg3 bg4 ba5=some o):T Try.prog Try.f68.ntmps 1 (cL (Qh 0 (Qh 1 (Qh 0 (Qh 1 (Qh 1 (Qh 1 (Qh 1 (Qh 1 (Qh 3 (Qh 1 (Qh 0 (Qh 1 (Qh 0 c68)))))))))))))) (f68r1n17S bg1 bg2 bg3 bg4 ba5) (·=f68r1n17E bg1 bg2 bg3 bg4 ba5 o):=by
 unfold f68r1n17 at h;rcases Qi h with ⟨h350,h⟩|⟨h350,h⟩
 ·obtain rfl:=Qf h;exact rE Qg [(jT [4,5,6],[(7,.bool true)],[])] [] [] [] [0,3,4,18,24,213] (.norm,(f68r1n17E bg1 bg2 bg3 bg4 ba5 (.norm (decide ((wr64 ((wr64 ((wr64 (shrK .u64 (Qy (wr64 (bg2+bg1))) 1))+bg3))-bg4))<bg1)))).2) (ap4 h350 an) rfl
 ·obtain rfl:=Qf h;exact rE Qg [(jF [4,5,6],[(7,.bool false)],[])] [] [] [] [0,3,4,18,24,213] (.norm,(f68r1n17E bg1 bg2 bg3 bg4 ba5 (.norm false)).2) (ap4 h350 an) rfl
inductive f68r1n0O where
 | norm (v363:List Qa)
 | ret (v364:List Qa)
def f68r1n0E(a1 a2 a3:Int)(a4:List Qa):f68r1n0O→Ex×Tr×Hp
 | .norm v363=>(.norm,mkS [],[jR 4 Qa.cells v363])
 | .ret v364=>(.ret,mkS [],[jR 4 Qa.cells v364])
def f68r1n0S(a1 a2 a3:Int)(a4:List Qa):Tr×Hp:=(Qaz [(.own 0),(jI a1),(jI a2),(jI a3),(.pl (.fn 42))] 0 .leaf,[jR 4 Qa.cells a4])
noncomputable def f68r1n0 (self:(Int→Int→Int→List Qa→Option (List Qa))) (a1:Int) (a2:Int) (a3:Int) (a4:List Qa):Option f68r1n0O :=
 (f68r1n1 self a1 a2 a3 a4).bind fun o121=>match o121 with
 | .norm=>(f68r1n6 self a1 a2 a3 a4).bind fun o239=>match o239 with
  | .norm=>(f68r1n11 self a1 a2 a3 a4).bind fun o246=>match o246 with
   | .norm v248 v249=>(f68r1n12 self FUEL a1 a2 a3 a4 v248 v249).bind fun o303=>match o303 with
    | .exit8 v305=>(f68r1n13 self a1 a2 a3 v305 a4).bind fun o324=>match o324 with
     | .norm v326=>(f68r1n15 self a1 a3 v305 a2 v326).bind fun o345=>match o345 with
      | .norm v347=>(f68r1n17 self a3 a1 a2 v305 v347).bind fun o352=>match o352 with
       | .norm v354=>bif v354 then
         (self (wr64 (shrK .u64 (Qy (wr64 (a1+a3))) 1)) (wr64 ((wr64 ((wr64 (shrK .u64 (Qy (wr64 (a1+a3))) 1))+a2))-v305)) a3 v347).bind fun x359 =>
         some (.norm x359)
        else
         some (.norm v347)
  | .ret v361=>some (.ret v361)
 | .ret v362=>some (.ret v362)
theorem f68r1n0_ok {self:(Int→Int→Int→List Qa→Option (List Qa))} (self_ok:(∀(a1 a2 a3:Int)(a4:List Qa){r:List Qa},self a1 a2 a3 a4=some r→Qr Try.prog true 68 [(.own 0),(jI a1),(jI a2),(jI a3),(.pl (.fn 42))] [jR 4 Qa.cells a4] (.tup []) [jR 4 Qa.cells r])) (a1:Int) (a2:Int) (a3:Int) (a4:List Qa) {o:f68r1n0O} (h:f68r1n0 self a1 a2 a3 a4=some o):T Try.prog Try.f68.ntmps 1 c68 (f68r1n0S a1 a2 a3 a4) (·=f68r1n0E a1 a2 a3 a4 o):=by
 unfold f68r1n0 at h;refine rN Qg 0 [] [] [] [] [0,1,2,3,4] (f68r1n1S a1 a2 a3 a4) an ?_;obtain ⟨o121,h122,h⟩:=Qc h;cases o121 with
 | norm =>
  refine T.oneN (by kernel_rfl) (f68r1n1_ok self_ok a1 a2 a3 a4 h122) (st2:=(f68r1n1E a1 a2 a3 a4 .norm).2) rfl ?_;refine rN Qg 0 [] [] [] [] [0,1,2,3,4] (f68r1n6S a1 a2 a3 a4) an ?_;obtain ⟨o239,h240,h⟩:=Qc h;cases o239 with
  | norm =>
   refine T.oneN (by kernel_rfl) (f68r1n6_ok self_ok a1 a2 a3 a4 h240) (st2:=(f68r1n6E a1 a2 a3 a4 .norm).2) rfl ?_;refine rN Qg 3 [j3,j3,j3] [] [] [] [0,1,2,3,4,18,19] (f68r1n11S a1 a2 a3 a4) an ?_;obtain ⟨o246,h247,h⟩:=Qc h;cases o246 with
   | norm v248 v249 =>
    refine T.oneN (by kernel_rfl) (f68r1n11_ok self_ok a1 a2 a3 a4 h247) (st2:=(f68r1n11E a1 a2 a3 a4 (.norm v248 v249)).2) rfl ?_;refine rN Qg 1 [j3] [] [] [] [0,1,2,3,4,18,19,20,21,22] (f68r1n12S a1 a2 a3 a4 v248 v249) an ?_;obtain ⟨o303,h304,h⟩:=Qc h;cases o303 with
    | exit8 v305 =>
     refine T.oneN (by kernel_rfl) (T.bl (i:=8) (by kernel_rfl) (by kernel_rfl) (f68r1n12_ok self_ok FUEL a1 a2 a3 a4 v248 v249 h304)) (st2:=(f68r1n12E a1 a2 a3 a4 (.exit8 v305)).2) rfl ?_;refine rN Qg 1 [j3] [] [] [] [0,1,2,3,4,18,20,24] (f68r1n13S a1 a2 a3 v305 a4) an ?_;obtain ⟨o324,h325,h⟩:=Qc h;cases o324 with
     | norm v326 =>
      refine T.oneN (by kernel_rfl) (f68r1n13_ok self_ok a1 a2 a3 v305 a4 h325) (st2:=(f68r1n13E a1 a2 a3 v305 a4 (.norm v326)).2) rfl ?_;refine rN Qg 0 [] [] [] [] [0,1,3,4,18,20,24] (f68r1n15S a1 a3 v305 a2 v326) an ?_;obtain ⟨o345,h346,h⟩:=Qc h;cases o345 with
      | norm v347 =>
       refine T.oneN (by kernel_rfl) (f68r1n15_ok self_ok a1 a3 v305 a2 v326 h346) (st2:=(f68r1n15E a1 a3 v305 a2 v326 (.norm v347)).2) rfl ?_;refine rN Qg 0 [] [] [] [] [0,3,4,18,24] (f68r1n17S a3 a1 a2 v305 v347) an ?_;obtain ⟨o352,h353,h⟩:=Qc h;cases o352 with
       | norm v354 =>
        refine T.oneN (by kernel_rfl) (f68r1n17_ok self_ok a3 a1 a2 v305 v347 h353) (st2:=(f68r1n17E a3 a1 a2 v305 v347 (.norm v354)).2) rfl ?_;rcases Qi h with ⟨h358,h⟩|⟨h358,h⟩
        ·obtain ⟨x359,h360,h⟩:=Qc h;obtain rfl:=Qf h;exact rE Qg [([],[(5,.call (.tup []) [jR 4 Qa.cells x359])],[])] [some true] [] [] [] (.norm,(f68r1n0E a1 a2 a3 a4 (.norm x359)).2) (ap h358 (ap (self_ok (wr64 (shrK .u64 (Qy (wr64 (a1+a3))) 1)) (wr64 ((wr64 ((wr64 (shrK .u64 (Qy (wr64 (a1+a3))) 1))+a2))-v305)) a3 v347 h360) an)) rfl
        ·obtain rfl:=Qf h;exact rE Qg [] [some false] [] [] [] (.norm,(f68r1n0E a1 a2 a3 a4 (.norm v347)).2) (ap h358 an) rfl
  | ret v361 =>
   obtain rfl:=Qf h;exact T.oneX' (by kernel_rfl) (f68r1n6_ok self_ok a1 a2 a3 a4 h240) (tds:=[]) (m:=[]) (keep:=[]) (st2:=(f68r1n0E a1 a2 a3 a4 (.ret v361)).2) (by kernel_rfl) an rfl rfl
 | ret v362 =>
  obtain rfl:=Qf h;exact T.oneX' (by kernel_rfl) (f68r1n1_ok self_ok a1 a2 a3 a4 h122) (tds:=[]) (m:=[]) (keep:=[]) (st2:=(f68r1n0E a1 a2 a3 a4 (.ret v362)).2) (by kernel_rfl) an rfl rfl
noncomputable def f68r1F:Nat→Int→Int→Int→List Qa→Option (List Qa)
 | 0,_,_,_,_=>none
 | k+1,a1,a2,a3,a4=>(f68r1n0 (f68r1F k) a1 a2 a3 a4).bind fun o=>match o with
  | .norm v363=>some v363
  | .ret v364=>some v364
theorem f68r1F_ok:∀(k:Nat)(a1 a2 a3:Int)(a4:List Qa){r:List Qa},f68r1F k a1 a2 a3 a4=some r→Qr Try.prog true 68 [(.own 0),(jI a1),(jI a2),(jI a3),(.pl (.fn 42))] [jR 4 Qa.cells a4] (.tup []) [jR 4 Qa.cells r]
 | 0,_,_,_,_,_,h=>nomatch h
 | k+1,a1,a2,a3,a4,r,h=>by
  unfold f68r1F at h;obtain ⟨o,ho,h⟩:=Qc h;cases o with
  | norm v363 =>
   obtain rfl:=Qf h;exact Qr.shared Qg (f:=Try.f68) (c:=c68) (by kernel_rfl) (by kernel_rfl) (by kernel_rfl) ((f68r1n0_ok (fun _ _ _ _ {_} h=>f68r1F_ok k _ _ _ _ h) a1 a2 a3 a4 ho).mono fun r e=>by subst e; exact ⟨.inr rfl,by kernel_rfl,by kernel_rfl⟩)
  | ret v364 =>
   obtain rfl:=Qf h;exact Qr.shared Qg (f:=Try.f68) (c:=c68) (by kernel_rfl) (by kernel_rfl) (by kernel_rfl) ((f68r1n0_ok (fun _ _ _ _ {_} h=>f68r1F_ok k _ _ _ _ h) a1 a2 a3 a4 ho).mono fun r e=>by subst e; exact ⟨.inl rfl,by kernel_rfl,by kernel_rfl⟩)
noncomputable def f68r1(a1 a2 a3:Int)(a4:List Qa):Option (List Qa):=f68r1F 200 a1 a2 a3 a4
theorem f68r1_ok(a1 a2 a3:Int)(a4:List Qa){r:List Qa}(h:f68r1 a1 a2 a3 a4=some r):Qr Try.prog true 68 [(.own 0),(jI a1),(jI a2),(jI a3),(.pl (.fn 42))] [jR 4 Qa.cells a4] (.tup []) [jR 4 Qa.cells r]:=f68r1F_ok 200 a1 a2 a3 a4 h
end Go.Proofs.Ytinabbgjignkbaa
