/- Several texts in one. No condition. -/
import Derived.Test.YtkcafackfihmiaaTM
import Derived.Recover
namespace Go.Proofs.Ytkcafackfihmiaa
set_option linter.unusedSimpArgs false
set_option linter.unusedVariables false
open Go.RowKit




end Go.Proofs.Ytkcafackfihmiaa
namespace Go.Proofs.Ytkcafackfihmiaa
set_option linter.unusedSimpArgs false
set_option linter.unusedVariables false
open Go.RowKit


theorem same_val {e f : Ent} (h : e.args = f.args → e.v = f.v ∧ e.H' = f.H') : e.same f ∧ f.same e :=
  ⟨fun _ k _ => h k, fun _ k _ => ⟨(h k.symm).1.symm, (h k.symm).2.symm⟩⟩
end Go.Proofs.Ytkcafackfihmiaa
namespace Go.Proofs.Ytkcafackfihmiaa
set_option linter.unusedSimpArgs false
set_option linter.unusedVariables false
open Go.RowKit
abbrev jB (b : Bool) : AV := .pl (.bool b)
abbrev jI (n : Int) : AV := .pl (.int .i64 n)
abbrev jS (s : ByteArray) : AV := .pl (.str s)
abbrev jA {α : Type} (c : α → List PV) (x : α) : AV := .pl (.agg (c x))
abbrev jL {α : Type} (sz : Nat) (c : α → List PV) (l : List α) : AV := .pl (.sl .any sz (l.map c))
abbrev jR {α : Type} (sz : Nat) (c : α → List PV) (l : List α) : Option Ob := some (.row false sz (l.map c))
abbrev jF (l : List Nat) : List (Nat × Bool) := l.map fun i => (i, false)
abbrev jT (l : List Nat) : List (Nat × Bool) := l.map fun i => (i, true)
abbrev j3 : RH := ([], [], [])
abbrev jH (i : Nat) (v : AV) : Nat × Hint := (i, .call v [])
theorem ap2 {p : Prop} {l : List Prop} (h : p) (t : AllP l) : AllP (p :: p :: l) := ⟨h, h, t⟩
theorem ap3 {p : Prop} {l : List Prop} (h : p) (t : AllP l) : AllP (p :: p :: p :: l) := ⟨h, h, h, t⟩
theorem ap4 {p : Prop} {l : List Prop} (h : p) (t : AllP l) : AllP (p :: p :: p :: p :: l) := ⟨h, h, h, h, t⟩
section
variable {P : Program} {C : Cfg} {n base : Nat} {st st' : Tr × Hp}
theorem rN (hC' : CfgOK P C) {c : Code} {Q : Ex × Tr × Hp → Prop} (k : Nat) (rs : List RH) (ps : List (Option Bool)) (tds : List Td) (m keep : List Nat) (st' : Tr × Hp) {cs : List Prop} (hp : AllP cs) (hT : T P n base (dropC k c) st' Q) (h : hRunK P C n base k c rs ps tds m keep st = some ((.norm, st'), cs) := by kernel_rfl) : T P n base c st Q :=
  runK_norm hC' h hp hT
theorem rK (hC' : CfgOK P C) {c : Code} {Q : Ex × Tr × Hp → Prop} (k : Nat) (rs : List RH) (ps : List (Option Bool)) (tds : List Td) (m keep : List Nat) (ex : Ex) (st' : Tr × Hp) {cs : List Prop} (hp : AllP cs) (hQ : Q (ex, st')) (h : hRunK P C n base k c rs ps tds m keep st = some ((ex, st'), cs) := by kernel_rfl) (he : isN ex = false := by rfl) : T P n base c st Q :=
  runK_end hC' h hp (fun e => by subst e; cases he) hQ
theorem rE (hC' : CfgOK P C) {c : Code} {Q : Ex × Tr × Hp → Prop} (rs : List RH) (ps : List (Option Bool)) (tds : List Td) (m keep : List Nat) (r : Ex × Tr × Hp) {cs : List Prop} (hp : AllP cs) (hQ : Q r) (h : hRun P C n base c rs ps tds m keep st = some (r, cs) := by kernel_rfl) : T P n base c st Q :=
  run_end hC' h hp hQ
end
theorem map_eq_of {α : Type} {c : α → List PV} (h : ∀ a b, c a = c b → a = b) {x y : List α} : (x.map c = y.map c) = (x = y) :=
  propext ⟨fun k => (List.map_inj_right (fun {a b} e => h a b e)).1 k, fun k => by rw [k]⟩

end Go.Proofs.Ytkcafackfihmiaa
namespace Go.Proofs.Ytkcafackfihmiaa
set_option linter.unusedVariables false
set_option linter.unusedSimpArgs false
section
variable {P : Program} {n base : Nat} {st : Tr × Hp} {c : Code}
def Tidy (base : Nat) (Q : Ex × Tr × Hp → Prop) (e : Ex × Tr × Hp) : Prop := ∃ tds m keep st2 cs, norm base tds m keep e.2 = some (st2, cs) ∧ AllP cs ∧ Q (e.1, st2)
theorem Tidy.of {Q : Ex × Tr × Hp → Prop} {e : Ex × Tr × Hp} (tds : List Td) (m keep : List Nat) (st2 : Tr × Hp) {cs : List Prop} (h : norm base tds m keep e.2 = some (st2, cs)) (hp : AllP cs) (hq : Q (e.1, st2)) : Tidy base Q e := ⟨tds, m, keep, st2, cs, h, hp, hq⟩
theorem T.tidyQ {Q1 Q : Ex × Tr × Hp → Prop} (hT : T P n base c st Q1) (h : ∀ r, Q1 r → Tidy base Q r ∨ Q r) : T P n base c st Q := by
  intro hc D X φ a w hS hb
  refine Code.wp_mono ?_ (hT hc X φ a w hS hb)
  rintro e a' w' ⟨r, hr, he, φ1, k1, k2, k3⟩
  rcases h r hr with ⟨tds, m, keep, st2, cs, h1, hp, hq⟩ | hq
  · obtain ⟨φ2, m1, m2, m3⟩ := norm_ok h1 hp k1 k3
    exact ⟨_, hq, he, φ2, m1, k2.trans m2, m3⟩
  · exact ⟨r, hq, he, φ1, k1, k2, k3⟩
theorem T.lastQ {O : Type} {Q1 : O → Prop} {F : O → Ex × Tr × Hp} {Q : Ex × Tr × Hp → Prop} (hT : T P n base c st fun r => ∃ o, Q1 o ∧ r = F o) (h : ∀ o, Q1 o → Tidy base Q (F o)) : T P n base c st Q :=
  hT.tidyQ fun r hr => by obtain ⟨o, ho, rfl⟩ := hr; exact .inl (h o ho)
theorem T.blQ {O : Type} {Q1 : O → Prop} {F : O → Ex × Tr × Hp} {i f : Nat} (hb : isBlk c = some i) (hl : isLoop (cL c) = true) (h : TL P n base f (cL (cL c)) st fun r => ∃ o, Q1 o ∧ r = F o) : T P n base c st fun r => ∃ o, Q1 o ∧ r = (blkEx i (F o).1, (F o).2) :=
  T.block' hb ((T.loop' hl h).mono fun r hr => by obtain ⟨o, ho, rfl⟩ := hr; exact ⟨o, ho, rfl⟩)
def OneR (P : Program) (n base : Nat) (c : Code) (Q : Ex × Tr × Hp → Prop) (r : Ex × Tr × Hp) : Prop := (r.1 = .norm ∧ T P n base (dropC 1 c) r.2 Q) ∨ (isN r.1 = false ∧ Tidy base Q r)
theorem OneR.go {Q : Ex × Tr × Hp → Prop} {e : Ex × Tr × Hp} (st2 : Tr × Hp) (he : e = (.norm, st2)) (h : T P n base (dropC 1 c) st2 Q) : OneR P n base c Q e := .inl ⟨by rw [he], by rw [he]; exact h⟩
theorem OneR.out {Q : Ex × Tr × Hp → Prop} {e : Ex × Tr × Hp} (tds : List Td) (m keep : List Nat) (st2 : Tr × Hp) {cs : List Prop} (h : norm base tds m keep e.2 = some (st2, cs)) (hp : AllP cs) (he : isN e.1 = false) (hq : Q (e.1, st2)) : OneR P n base c Q e := .inr ⟨he, tds, m, keep, st2, cs, h, hp, hq⟩
theorem T.oneQ {O : Type} {Q1 : O → Prop} {F : O → Ex × Tr × Hp} {Q : Ex × Tr × Hp → Prop} (hs : isSeq c = true) (hT : T P n base (cL c) st fun r => ∃ o, Q1 o ∧ r = F o) (h : ∀ o, Q1 o → OneR P n base c Q (F o)) : T P n base c st Q := by
  refine T.one (Q1 := fun r => (r.1 = .norm ∧ T P n base (dropC 1 c) r.2 Q) ∨ (isN r.1 = false ∧ Q r)) hs (hT.tidyQ fun r hr => ?_) fun r hr => ?_
  · obtain ⟨o, ho, rfl⟩ := hr
    rcases h o ho with h1 | ⟨he, tds, m, keep, st2, cs, h1, hp, hq⟩
    · exact .inr (.inl h1)
    · exact .inl ⟨tds, m, keep, st2, cs, h1, hp, .inr ⟨he, hq⟩⟩
  · obtain ⟨ex, s⟩ := r
    rcases hr with ⟨rfl, h1⟩ | ⟨he, h1⟩
    · exact h1
    · cases ex <;> first | exact h1 | (simp [isN] at he)
def LoopQ2 (K : Tr × Hp → Prop) (R : Ex × Tr × Hp → Prop) (r : Ex × Tr × Hp) : Prop := match r.1 with | .norm => K r.2 | _ => R r
theorem LoopQ2.norm {K : Tr × Hp → Prop} {R : Ex × Tr × Hp → Prop} {s : Tr × Hp} (h : K s) : LoopQ2 K R (.norm, s) := h
theorem LoopQ2.out {K : Tr × Hp → Prop} {R : Ex × Tr × Hp → Prop} {s : Tr × Hp} {ex : Ex} (h : R (ex, s)) (hn : isN ex = false) : LoopQ2 K R (ex, s) := by
  cases ex <;> first | exact h | (simp [isN] at hn)
theorem TL.bodyQ {f : Nat} {K : Tr × Hp → Prop} {R : Ex × Tr × Hp → Prop} (h1 : T P n base c st (LoopQ2 K R)) (h2 : ∀ s, K s → TL P n base f c s R) : TL P n base (f + 1) c st R :=
  TL.step h1 fun r hr => by
    obtain ⟨ex, s⟩ := r
    cases ex with
    | norm => exact h2 s hr
    | exit i => exact hr
    | ret => exact hr
    | pan _ => exact hr
theorem bind_ex {α β : Type} {x : Option α} {f : α → Option β} {o : β} (h : x.bind f = some o) : ∃ y, x = some y ∧ f y = some o := by
  cases x with
  | none => cases h
  | some y => exact ⟨y, rfl, h⟩
end
end Go.Proofs.Ytkcafackfihmiaa
