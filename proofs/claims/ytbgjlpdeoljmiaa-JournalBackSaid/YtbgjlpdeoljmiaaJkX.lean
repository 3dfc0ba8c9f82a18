/- The law that what is recovered is written again, in plain words. No condition. -/
import Derived.Test.YtbgjlpdeoljmiaaJeX
import Derived.Test.YtbgjlpdeoljmiaaJgX
import Derived.Test.YtbgjlpdeoljmiaaJsX
import Derived.Test.YtbgjlpdeoljmiaaAlX
namespace Go.Proofs.Ytbgjlpdeoljmiaa
set_option linter.unusedVariables false
set_option linter.unusedSimpArgs false
open Go.RowKit
theorem f12n2L_at (ba : Journal) : ∀ (l : List JournalRecord) (v : Int), (∀ r ∈ l, Rk r) → f12n2L ba l v = some .ret ∨ (f12n2L ba l v = some .exit0 ∧ (v + (l.length : Int) ≤ 221 → ∀ r ∈ l, r.Lines.length ≤ 40))
  | [], v, _ => .inr ⟨rfl, fun _ x hx => by cases hx⟩
  | x :: l, v, h => by
    rw [f12n2L]
    obtain ⟨b, hb, hl⟩ := f29_at (h x (by simp)).2.1
    cases hd : decide (v ≤ 220) with
    | false => exact .inr ⟨rfl, fun hv => by have := of_decide_eq_false hd; simp only [List.length_cons] at hv; omega⟩
    | true =>
      rw [hb]
      simp only [cond_true, Option.bind_some]
      cases b with
      | true => exact .inl rfl
      | false =>
        simp only [cond_false]
        cases decide (300 < (x.Text.size : Int)) with
        | true => exact .inl rfl
        | false =>
          simp only [cond_false]
          rcases f12n2L_at ba l (v + 1) (fun y hy => h y (by simp [hy])) with e | ⟨e, k⟩
          · exact .inl e
          · refine .inr ⟨e, fun hv y hy => ?_⟩
            rcases List.mem_cons.1 hy with rfl | hy
            · exact hl rfl
            · exact k (by simp only [List.length_cons] at hv; omega) y hy
theorem f12_at {j : Journal} (h : Jk j) : ∃ b, f12 j = some b ∧ (b = false → j.Records.length ≤ 220 ∧ ∀ r ∈ j.Records, r.Lines.length ≤ 40) := by
  unfold f12 f12n0 f12n1
  rw [f12n2_run _ h.1]
  rcases f12n2L_at j j.Records 0 h.2 with e | ⟨e, k⟩ <;> rw [e]
  · exact ⟨true, rfl, fun h => by cases h⟩
  · refine ⟨decide (220 < (j.Records.length : Int)), rfl, fun h => ?_⟩
    have := of_decide_eq_false h
    exact ⟨by omega, k (by omega)⟩
theorem f14n2L_at (ba : Journal) : ∀ (l : List JournalRecord) (v : Int) (a : List JournalRecord), (∀ r ∈ l, r.Lines.length ≤ 1000000) → a.length + l.length ≤ 1000 → f14r1n2L ba l v a = some (.exit0 (a ++ l))
  | [], v, a, _, _ => by rw [f14r1n2L, List.append_nil]
  | r :: l, v, a, h, hl => by
    simp only [List.length_cons] at hl
    have ih := f14n2L_at ba l (v + 1) (a ++ [r]) (fun y hy => h y (by simp [hy])) (by simp; omega)
    rw [f14r1n2L]
    cases he : r.Lines.isEmpty with
    | true =>
      have : (JournalRecord.mk r.Day r.Text []) = r := by
        have h0 : r.Lines = [] := by simpa using he
        cases r; simp only at h0; rw [h0]
      simp only [cond_true, req, fit_small (show a.length + 1 ≤ 1000000 by omega) (show 48 ≤ 1000000 by omega), this]
      rw [ih, List.append_assoc]; rfl
    | false =>
      simp only [cond_false, req, fit_small (show a.length + 1 ≤ 1000000 by omega) (show 48 ≤ 1000000 by omega), fit_small (h r (by simp)) (show 40 ≤ 1000000 by omega), cond_true]
      rw [ih, List.append_assoc]; rfl
theorem f14_eq {j : Journal} (h : ∀ r ∈ j.Records, r.Lines.length ≤ 1000000) (hl : j.Records.length ≤ 1000) : f14r1 j = some j.Records := by
  unfold f14r1 f14r1n0 f14r1n1
  rw [f14r1n2_run _ _ (Nat.le_trans hl (by unfold maxLen; decide)), f14n2L_at _ _ _ _ h (by simpa using hl)]; rfl
theorem f18_self (l : List Int) : f18 l l = some true := by
  unfold f18 f18n0
  show some (seq (sOf l) (sOf l)) = _
  rw [seq_self]
/-- A valid journal's bytes give the journal. -/
theorem recover_enc {j : Journal} (h : Valid j) : f16 (encL j.Records 0 0) = some (j, ((encL j.Records 0 0).length : Int)) := by
  obtain ⟨k1, k2, k3⟩ := h.open
  have hfo : ∀ r ∈ j.Records, formedB r = true := fun r hr => (open_formed k3 r hr).1
  have hlen := encL_len (l := j.Records) (s := 0) (k := 0) hfo
  obtain ⟨recs, rest, e, hv, hb, hp⟩ := recover_eq (encL_byt (l := j.Records) (s := 0) (k := 0) hfo) (by omega)
  obtain ⟨x, hx⟩ := hp j.Records [] k3 (by simp)
  subst hx
  have hfx : ∀ r ∈ x, formedB r = true := fun r hr => (open_formed hv.open.2.2 r (List.mem_append_right _ hr)).1
  rw [encL_append] at hb
  have h1 := congrArg List.length hb
  simp only [List.length_append] at h1
  have h2 := (encL_len (l := x) (s := stL j.Records 0 0) (k := 0 + j.Records.length) hfx).2
  have hx0 : x = [] := List.eq_nil_of_length_eq_zero (by omega)
  subst hx0
  rw [List.append_nil] at e
  exact e
theorem back_plain (x0 : Journal) (x1 : List Int) (ok0 : Journal.ok x0) (ok1 : x1.length ≤ maxLen ∧ ∀ x ∈ x1, okInt .u8 x) : f7 x0 x1 = some true := by
  have hj : Jk x0 := ⟨ok0.1.1, fun r hr => by
    have := ok0.1.2 r hr
    exact ⟨this.2.1, this.2.2.1.1, fun y hy => ⟨(this.2.2.1.2 y hy).1, (this.2.2.1.2 y hy).2.1⟩⟩⟩
  have hb : Byt x1 := fun x hx => (ok1.2 x hx).u8
  obtain ⟨g, hg, hg2⟩ := f12_at hj
  unfold f7 f7n0
  rw [alive_t, hg]
  simp only [Option.bind_some]
  cases g with
  | true => rfl
  | false =>
    obtain ⟨h220, h40⟩ := hg2 rfl
    simp only [cond_false, cond_true]
    cases h2 : decide (20000 < (x1.length : Int)) with
    | true => rfl
    | false =>
      have h2 := of_decide_eq_false h2
      obtain ⟨recs, rest, e, hv, hbb, _⟩ := recover_eq hb (by omega)
      have hlen := congrArg List.length hbb
      rw [List.length_append] at hlen
      rw [e]
      simp only [cond_false, Option.bind_some, f13_eq hv, decide_true, cond_true]
      rw [decide_eq_false (show ¬ (((encL recs 0 0).length : Int) < 0) by omega), decide_eq_false (show ¬ ((x1.length : Int) < ((encL recs 0 0).length : Int)) by omega)]
      have hc : cutB 0 ((encL recs 0 0).length : Int) x1.length = true := by simp only [cutB, decide_eq_true_eq]; omega
      have ht : (x1.take (Int.toNat ((encL recs 0 0).length : Int))).drop 0 = encL recs 0 0 := by
        rw [List.drop_zero, Int.toNat_natCast, hbb]; exact List.take_left' rfl
      simp only [cond_false, req, hc, cond_true, ht, f18_self, Option.bind_some]
      rw [f14_eq (fun r hr => by have := h40 r hr; omega) (by omega)]
      simp only [Option.bind_some]
      have ej : (Journal.mk x0.Records) = x0 := rfl
      rw [ej]
      cases ho : (openS x0).1 with
      | true =>
        have hx : Valid x0 := ⟨hj, ho⟩
        rw [f13_eq hx]
        simp only [Option.bind_some, decide_true, cond_true, recover_enc hx, f19_self hj]
      | false =>
        rw [f13_bad hj ho, f28_eq hj, ho]
        rfl
end Go.Proofs.Ytbgjlpdeoljmiaa
