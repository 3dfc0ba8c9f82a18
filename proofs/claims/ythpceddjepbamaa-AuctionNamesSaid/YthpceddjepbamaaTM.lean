/- Several texts in one. No condition. -/
import Derived.Test.YthpceddjepbamaaTG
import Derived.Deep.Slices
import Derived.Deep.Fields
import Derived.ProofKit
import Derived.ChangeSame
import Derived.IntWalk
namespace Go.Proofs.Ythpceddjepbamaa
set_option linter.unusedSimpArgs false
set_option linter.unusedVariables false
open Go.RowKit Go.ChangeShapes Go.WideShapes Go.Deep
theorem wr64_of{n:Int}(h1:-9223372036854775808≤n)(h2:n≤9223372036854775807):wr64 n=n:=Go.IntWalk.i64_in n ⟨h1,h2⟩
theorem Qcb{α:Type}{xs rest:List α}{x:α}{k:Nat}(h:xs.drop k=x::rest):xs[k]?=some x∧k<xs.length∧xs.drop (k+1)=rest:=by
 have hk:k<xs.length:=by
  rcases Nat.lt_or_ge k xs.length with h1 | h1
  ·exact h1
  ·rw [List.drop_eq_nil_of_le h1] at h; cases h
 rw [List.drop_eq_getElem_cons hk] at h;simp only [List.cons.injEq] at h;exact ⟨by rw [List.getElem?_eq_getElem hk,h.1],hk,h.2⟩
theorem Qay{α:Type}{xs:List α}{k:Nat}(h:xs.drop k=[]):xs.length≤k:=List.drop_eq_nil_iff.1 h
theorem Qba{n:Nat}(h:n≤maxLen):n<FUEL:=by
 have:maxLen<FUEL:=by unfold maxLen FUEL; decide
 omega

section
variable {P:Program} {C:Cfg} {H:Type} {enc:TypeId×Value→H} {w:World} {base:Nat} {spare:Nat→Bool} {held:Bool} {Y:Nat→Prop}
def okInt(k:IntKind)(n:Int):Prop:=(Lit.int k n).wf=true
theorem law_call{k:Nat}{ps:List PV}{vs:List Value}{b:Bool} (h:Qn P false k (ps.map .pl) [] (.pl (.bool b)) []) (hv:VRT w (fun _=>False) noPhi (ps.map .pl) vs):Calls P k vs.toArray w fun e w'=>e = .returned (.bool b)∧Below w.heap.size w w':=by
 obtain ⟨_,_,hc⟩:=h;have hY:YOf (fun _=>False) noPhi=fun _=>False:=funext fun b=>propext ⟨fun h=>h.elim id fun h=>(noBlk b h).elim,fun h=>h.elim⟩;refine (hc (fun _=>rfl) (fun _=>False) noPhi w vs (HR.empty fun _ h=>h.elim) (by rw [hY]; exact hv)).mono fun e w' hr=>?_;obtain ⟨r,hm,v',φ',he,h1,h2,h3,_⟩:=hr;rw [List.mem_singleton] at hm; subst hm;simp only [VR,PR] at h1;subst h1;exact ⟨he,h3.os,h3.tape,h3.output.1,h3.size,fun b hb=>h3.heap b hb (noBlk b)⟩
theorem vrt_nil:VRT w (fun _=>False) noPhi [] []:=by simp only [VRT]
end
end Go.Proofs.Ythpceddjepbamaa
namespace Go.Proofs.Ythpceddjepbamaa
set_option linter.unusedSimpArgs false
set_option linter.unusedVariables false
open Go.RowKit
def pInt(k:IntKind)(n:Int):PV:=.int k n
def mkv{K V:Type}(kp:K→PV)(vp:V→PV)(p:K×V):PV×PV:=(kp p.1,vp p.2)
section
variable {K V:Type}
def mIdx(keq:K→K→Bool)(k:K):List (K×V)→Nat
 | []=>0
 | (q,_)::r=>bif keq k q then 0 else mIdx keq k r+1
def mHas(keq:K→K→Bool)(k:K):List (K×V)→Bool
 | []=>false
 | (q,_)::r=>keq k q||mHas keq k r
def mGet(keq:K→K→Bool)(z:V)(k:K):List (K×V)→V
 | []=>z
 | (q,v)::r=>bif keq k q then v else mGet keq z k r
def mPut(keq:K→K→Bool)(k:K)(v:V):List (K×V)→List (K×V)
 | []=>[(k,v)]
 | (q,w)::r=>bif keq k q then (q,v)::r else (q,w)::mPut keq k v r
def mEns(keq:K→K→Bool)(z:V)(k:K):List (K×V)→List (K×V)
 | []=>[(k,z)]
 | (q,w)::r=>bif keq k q then (q,w)::r else (q,w)::mEns keq z k r
structure KeyOK (C:Cfg) (kt:Nat) (kp:K→PV) (keq:K→K→Bool):Prop where
 eq:∀a b,eqV C.ty kt (kp a) (kp b)=some (keq a b)
 key:∀a,keyV C.ty kt (kp a)=true
 same:∀a b,keq a b=true→a=b
 eqc:∀a,eqC (kp a) (kp a)=true
variable {C:Cfg} {kt e:Nat} {kp:K→PV} {keq:K→K→Bool} {vp:V→PV}
theorem mfind_map(h:KeyOK C kt kp keq)(k:K):∀(E:List (K×V))(i:Nat),mfind C.ty kt (kp k) (E.map (mkv kp vp)) i=some (bif mHas keq k E then (E[mIdx keq k E]?).map fun p=>(i+mIdx keq k E,vp p.2) else none)
 | [],i=>rfl
 | (q,v)::r,i=>by
  simp only [List.map_cons,mkv,mfind,h.eq,mHas,mIdx];cases hk:keq k q with
  | true=>simp [hk]
  | false =>
   have:=mfind_map h k r (i+1);simp only [this,Bool.false_or,cond_false,List.getElem?_cons_succ];cases mHas keq k r with
   | false=>rfl
   | true=>simp only [cond_true]; congr 2; funext p; congr 1; omega
theorem mGet_at(keq:K→K→Bool)(z:V)(k:K)(hs:∀a b,keq a b=true→a=b):∀(E:List (K×V)),mHas keq k E=true→E[mIdx keq k E]?=some (k,mGet keq z k E)
 | [],h=>by cases h
 | (q,v)::r,h=>by
  simp only [mHas,Bool.or_eq_true] at h;simp only [mIdx,mGet];cases hk:keq k q with
  | true=>simp [hs k q hk]
  | false =>
   rw [hk] at h;simpa using mGet_at keq z k hs r (h.resolve_left (by simp))
theorem mGet_none(keq:K→K→Bool)(z:V)(k:K):∀(E:List (K×V)),mHas keq k E=false→mGet keq z k E=z∧mIdx keq k E=E.length∧mEns keq z k E=E++[(k,z)]∧∀v,mPut keq k v E=E++[(k,v)]
 | [],h=>⟨rfl,rfl,rfl,fun _=>rfl⟩
 | (q,v)::r,h=>by
  simp only [mHas,Bool.or_eq_false_iff] at h;obtain ⟨h1,h2,h3,h4⟩:=mGet_none keq z k r h.2;simp [mGet,mIdx,mEns,mPut,h.1,h1,h2,h3,h4]
theorem look_map(h:KeyOK C kt kp keq)(z:V)(hz:zeroOf C e=some (vp z))(k:K)(E:List (K×V)):look C kt e (kp k) (E.map (mkv kp vp))=some (vp (mGet keq z k E),mHas keq k E):=by
 unfold look;rw [mfind_map h,h.key];simp only [cond_true];cases hh:mHas keq k E with
 | true=>simp [mGet_at keq z k h.same E hh]
 | false=>simp [hz,(mGet_none keq z k E hh).1]
theorem look_lit(h:KeyOK C kt kp keq){z:PV}(hz:zeroOf C e=some z)(k:K)(E:List (K×PV)){v:PV}{b:Bool}(hv:mGet keq z k E=v)(hb:mHas keq k E=b):look C kt e (kp k) (E.map (mkv kp id))=some (v,b):=by
 rw [look_map (vp:=id) h z hz k E,hv,hb];rfl
theorem key_int{C:Cfg}{kt:Nat}{k:IntKind} (h1:∀a b,eqV C.ty kt (pInt k a) (pInt k b)=some (decide (a=b))) (h2:∀a,keyV C.ty kt (pInt k a)=true):KeyOK C kt (pInt k) (fun a b=>decide (a=b)):=⟨h1,h2,fun a b h=>of_decide_eq_true h,fun a=>by simp [pInt,eqC,eqC1,kindEq_refl]⟩
end
abbrev shrK(k:IntKind)(a b:Int):Int:=a.fdiv (2 ^ (min b.toNat k.bits))
abbrev mnI(a b:Int):Int:=bif decide (b<a) then b else a
end Go.Proofs.Ythpceddjepbamaa
namespace Go.Proofs.Ythpceddjepbamaa
set_option linter.unusedSimpArgs false
set_option linter.unusedVariables false
open Go.RowKit
end Go.Proofs.Ythpceddjepbamaa
namespace Go.Proofs.Ythpceddjepbamaa
set_option linter.unusedSimpArgs false
set_option linter.unusedVariables false
open Go.RowKit





end Go.Proofs.Ythpceddjepbamaa
