/- What the law's entries lead to. No condition. -/
import Derived.Test.YtbgjlpdeoljmiaaJgM
namespace Go.Proofs.Ytbgjlpdeoljmiaa
set_option linter.unusedVariables false
set_option linter.unusedSimpArgs false
open Go.RowKit
def Ek (x : Entry) : Prop := x.Text.size ≤ maxLen ∧ x.Lines.length ≤ maxLen ∧ ∀ y ∈ x.Lines, Lk y
theorem f23n2L_at (bn : List Entry) : ∀ (l : List Entry) (v : Int), (∀ x ∈ l, Ek x) → f23n2L bn l v = some .ret ∨ (f23n2L bn l v = some .exit0 ∧ (v + (l.length : Int) ≤ 61 → ∀ x ∈ l, x.Lines.length ≤ 40))
  | [], v, _ => .inr ⟨rfl, fun _ x hx => by cases hx⟩
  | x :: l, v, h => by
    rw [f23n2L]
    obtain ⟨b, hb, hl⟩ := f29_at (h x (by simp)).2.1
    cases hd : decide (v ≤ 60) with
    | false => exact .inr ⟨rfl, fun hv => by have := of_decide_eq_false hd; simp only [List.length_cons] at hv; omega⟩
    | true =>
      rw [hb]
      simp only [cond_true, Option.bind_some]
      cases b with
      | true => exact .inl rfl
      | false =>
        simp only [cond_false]
        cases decide (300 < (x.Text.size : Int)) with
        | true => exact .inl rfl
        | false => cases decide (x.After < -1) with
          | true => exact .inl rfl
          | false => cases decide (2000 < x.After) with
            | true => exact .inl rfl
            | false =>
              simp only [cond_false]
              rcases f23n2L_at bn l (v + 1) (fun y hy => h y (by simp [hy])) with e | ⟨e, k⟩
              · exact .inl e
              · refine .inr ⟨e, fun hv y hy => ?_⟩
                rcases List.mem_cons.1 hy with rfl | hy
                · exact hl rfl
                · exact k (by simp only [List.length_cons] at hv; omega) y hy
theorem f23_at {l : List Entry} (h : l.length ≤ maxLen) (hk : ∀ x ∈ l, Ek x) : ∃ b, f23 l = some b ∧ (b = false → l.length ≤ 60 ∧ ∀ x ∈ l, x.Lines.length ≤ 40) := by
  unfold f23 f23n0 f23n1
  rw [f23n2_run _ h]
  rcases f23n2L_at l l 0 hk with e | ⟨e, k⟩ <;> rw [e]
  · exact ⟨true, rfl, fun h => by cases h⟩
  · refine ⟨decide (60 < (l.length : Int)), rfl, fun h => ?_⟩
    have := of_decide_eq_false h
    exact ⟨by omega, k (by omega)⟩
theorem f24n2L_at (bn : List Entry) : ∀ (l : List Entry) (d v : Int) (j : Journal), Valid j → (∀ x ∈ l, Ek x ∧ x.Lines.length ≤ 40) → ∃ j', f24r1n2L bn l d v j = some (.exit0 j') ∧ Valid j' ∧ j'.Records.length ≤ j.Records.length + l.length
  | [], d, v, j, hj, _ => ⟨j, rfl, hj, Nat.le_refl _⟩
  | x :: l, d, v, j, hj, h => by
    obtain ⟨hx, hx2⟩ := h x (by simp)
    have hr : Rk ⟨wr64 (d + x.After), x.Text, x.Lines⟩ := hx
    have e := f30_eq (r := ⟨wr64 (d + x.After), x.Text, x.Lines⟩) hj.1 hr (by show x.Lines.length ≤ 1000000; omega)
    simp only at e
    rw [f24r1n2L, e]
    simp only [Option.bind_some]
    cases hd : decide (errA j ⟨wr64 (d + x.After), x.Text, x.Lines⟩ = 0) with
    | true =>
      have := Valid.add hj.1 hr (of_decide_eq_true hd)
      obtain ⟨j', e1, e2, e3⟩ := f24n2L_at bn l (wr64 (d + x.After)) (v + 1) _ this fun y hy => h y (by simp [hy])
      exact ⟨j', e1, e2, by simp only [List.length_append, List.length_cons, List.length_nil] at e3 ⊢; omega⟩
    | false =>
      simp only [cond_false, hd]
      obtain ⟨j', e1, e2, e3⟩ := f24n2L_at bn l d (v + 1) _ hj fun y hy => h y (by simp [hy])
      exact ⟨j', e1, e2, by simp only [List.length_cons]; omega⟩
theorem f24_at {l : List Entry} (hl : l.length ≤ maxLen) (h : ∀ x ∈ l, Ek x ∧ x.Lines.length ≤ 40) : ∃ j, f24r1 l = some j ∧ Valid j ∧ j.Records.length ≤ l.length := by
  obtain ⟨j, e, hj, hlen⟩ := f24n2L_at l l 0 0 ⟨[]⟩ Valid.nil h
  refine ⟨j, ?_, hj, by simpa using hlen⟩
  unfold f24r1 f24r1n0 f24r1n1
  show (Option.bind (some (Journal.mk [])) _).bind _ = _
  simp only [Option.bind_some]
  rw [f24r1n2_run _ _ _ hl, e]; rfl
end Go.Proofs.Ytbgjlpdeoljmiaa
