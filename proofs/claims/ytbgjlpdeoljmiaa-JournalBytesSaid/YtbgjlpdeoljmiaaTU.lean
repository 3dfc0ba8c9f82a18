/- Several texts in one. No condition. -/
import Derived.Test.YtbgjlpdeoljmiaaTV
import Derived.Shelf.SlSortCmp.NoneTotal
import Derived.Test.YtbgjlpdeoljmiaaTM
namespace Go.Proofs.Ytbgjlpdeoljmiaa
set_option linter.unusedSimpArgs false
set_option linter.unusedVariables false
open Go.RowKit Go.Sort



end Go.Proofs.Ytbgjlpdeoljmiaa
namespace Go.Proofs.Ytbgjlpdeoljmiaa
set_option linter.unusedVariables false
open Go.Sort

end Go.Proofs.Ytbgjlpdeoljmiaa
namespace Go.Proofs.Ytbgjlpdeoljmiaa
set_option linter.unusedVariables false
set_option linter.unusedSimpArgs false
open Go.Sort


end Go.Proofs.Ytbgjlpdeoljmiaa
namespace Go.Proofs.Ytbgjlpdeoljmiaa
set_option linter.unusedVariables false
set_option linter.unusedSimpArgs false
open Go.RowKit

end Go.Proofs.Ytbgjlpdeoljmiaa
namespace Go.Proofs.Ytbgjlpdeoljmiaa
set_option linter.unusedVariables false
set_option linter.unusedSimpArgs false
open Go.RowKit

section
variable {K V:Type} {E:K→K→Bool} (hE:∀a b,E a b=true↔a=b)
include hE
theorem eRefl(a:K):E a a=true:=(hE a a).2 rfl
omit hE in
abbrev ndK(m:List (K×V)):Prop:=m.Pairwise fun a b=>a.1≠b.1
theorem mputMem{k:K}{v:V}{x:K×V} : ∀{m:List (K×V)},x∈mPut E k v m→x=(k,v)∨x∈m
 | [],h=>by left; simpa [mPut] using h
 | (a,w)::r,h=>by
  rw [mPut] at h;cases hk:E k a with
  | true =>
   rw [hk,cond_true] at h;have:=(hE _ _).1 hk; subst this;rcases List.mem_cons.1 h with h | h
   ·exact .inl h
   ·exact .inr (List.mem_cons_of_mem _ h)
  | false =>
   rw [hk,cond_false] at h;rcases List.mem_cons.1 h with h | h
   ·exact .inr (by rw [h]; exact List.mem_cons_self)
   ·rcases mputMem h with h | h
    ·exact .inl h
    ·exact .inr (List.mem_cons_of_mem _ h)
theorem mputNd{k:K}{v:V} : ∀{m:List (K×V)},ndK m→ndK (mPut E k v m)
 | [],_=>by simp [mPut,ndK]
 | (a,w)::r,h=>by
  have h':=List.pairwise_cons.1 h;rw [mPut];cases hk:E k a with
  | true=>exact List.pairwise_cons.2 ⟨fun y hy=>h'.1 y hy,h'.2⟩
  | false =>
   refine List.pairwise_cons.2 ⟨fun y hy=>?_,mputNd h'.2⟩;rcases mputMem hE hy with rfl | hy
   ·intro e;have e':a=k:=e;rw [e',eRefl hE] at hk; cases hk
   ·exact h'.1 y hy
theorem mgetMem{z:V}{k:K}{v:V} : ∀{m:List (K×V)},ndK m→(k,v)∈m→mGet E z k m=v
 | (a,w)::r,h,hm=>by
  have h':=List.pairwise_cons.1 h;rw [mGet];rcases List.mem_cons.1 hm with e | hm
  ·have e1:k=a:=congrArg Prod.fst e;have e2:v=w:=congrArg Prod.snd e;rw [e1,e2,eRefl hE]; rfl
  ·cases hk:E k a with
   | true=>exact absurd ((hE _ _).1 hk).symm (h'.1 _ hm)
   | false=>exact mgetMem h'.2 hm
end
end Go.Proofs.Ytbgjlpdeoljmiaa
