/- The clean machine and the model: what must be looked at of a program; a function without arguments that gives true. No condition. -/
import Derived.Test.YtelblamgfbkhbaaZV
namespace Go.Proofs.Ytelblamgfbkhbaa
set_option linter.unusedSimpArgs false
set_option linter.unusedVariables false
open Go.RowKit
def tyF : List (Nat × TI) → Nat → Option TI
  | [], _ => none
  | (k, i) :: r, t => bif Nat.beq k t then some i else tyF r t
theorem tyF_mem : ∀ {l : List (Nat × TI)} {t : Nat} {ti : TI}, tyF l t = some ti → (t, ti) ∈ l
  | [], _, _, h => by cases h
  | (k, i) :: r, t, ti, h => by
    simp only [tyF] at h
    rcases beq_cases k t with ⟨hb, e⟩ | ⟨hb, e⟩
    · rw [hb] at h; simp only [cond_true, Option.some.injEq] at h; subst h; subst e; exact List.mem_cons_self
    · rw [hb] at h; exact List.mem_cons_of_mem _ (tyF_mem h)
def fnChk (P : Program) : Bool := P.funcs.toList.all fun f => !(f.name == "runtime.NumGoroutine") && (match f.body with | some c => codeOK c | none => true)
theorem cfgOK_of {P : Program} {l : List (Nat × TI)} {byref : Nat → Bool} {keep : Nat → Nat → Option (List Nat)} (h1 : l.all (fun q => tyOKB P q.1 q.2) = true) (h2 : fnChk P = true) (h3 : P.follows .mixedOrders = true) : CfgOK P ⟨tyF l, fun k => P.funcs[k]?, byref, fun _ => none, keep⟩ where
  ty t ti h := List.all_eq_true.1 h1 (t, ti) (tyF_mem h)
  fn k f h := h
  name k f h := by
    have := List.all_eq_true.1 h2 f (by simpa using Array.mem_of_getElem? h)
    rw [Bool.and_eq_true] at this
    simpa using this.1
  code k f c h hb := by
    have := List.all_eq_true.1 h2 f (by simpa using Array.mem_of_getElem? h)
    rw [Bool.and_eq_true, hb] at this
    exact this.2
  mixed := h3
  noext _ := rfl
/-- A call without arguments that the machine carries out and that gives one plain value. -/
theorem closed_call {P : Program} {C : Cfg} (hC : CfgOK P C) {N k : Nat} {b : Bool} (h : evCall C N false k [] [] = some [(.pl (.bool b), [])]) (w : World) : Calls P k #[] w fun e w' => e = .returned (.bool b) ∧ Below w.heap.size w w' := by
  obtain ⟨_, _, hc⟩ := call_ok hC N _ _ _ _ _ h
  refine (hc (fun _ => rfl) (fun _ => False) noPhi w [] (HR.empty fun _ h => h.elim) (by simp only [VRT])).mono fun e w' hr => ?_
  obtain ⟨r, hm, v', φ', he, h1, h2, h3, _⟩ := hr
  rw [List.mem_singleton] at hm; subst hm
  simp only [VR, PR] at h1
  subst h1
  exact ⟨he, h3.os, h3.tape, h3.output.1, h3.size, fun b hb => h3.heap b hb (noBlk b)⟩
end Go.Proofs.Ytelblamgfbkhbaa
