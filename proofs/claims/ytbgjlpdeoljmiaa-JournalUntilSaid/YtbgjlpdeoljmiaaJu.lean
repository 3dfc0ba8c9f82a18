/- The law on journals up to a day, in plain words. No condition. -/
import Derived.Test.YtbgjlpdeoljmiaaJp
import Derived.Test.YtbgjlpdeoljmiaaAl
namespace Go.Proofs.Ytbgjlpdeoljmiaa
set_option linter.unusedVariables false
set_option linter.unusedSimpArgs false
open Go.RowKit
/-! ### entries -/
theorem f29n2L_at (bc : List JournalLine) : ∀ (l : List JournalLine) (v : Int), f29n2L bc l v = some .exit0 ∨ f29n2L bc l v = some .ret
  | [], v => .inl rfl
  | x :: l, v => by
    rw [f29n2L]
    cases decide (v ≤ 40) with
    | false => exact .inl rfl
    | true =>
      cases decide (300 < (x.Account.size : Int)) with
      | true => exact .inr rfl
      | false => cases decide (300 < (x.Ccy.size : Int)) with
        | true => exact .inr rfl
        | false => exact f29n2L_at bc l (v + 1)
theorem f29_at {l : List JournalLine} (h : l.length ≤ maxLen) : ∃ b, f29 l = some b ∧ (b = false → l.length ≤ 40) := by
  unfold f29 f29n0 f29n1
  rw [f29n2_run _ h]
  rcases f29n2L_at l l 0 with e | e <;> rw [e]
  · exact ⟨decide (40 < (l.length : Int)), rfl, fun h => by have := of_decide_eq_false h; omega⟩
  · exact ⟨true, rfl, fun h => by cases h⟩
def Ek (x : Entry) : Prop := x.Text.size ≤ maxLen ∧ x.Lines.length ≤ maxLen ∧ ∀ y ∈ x.Lines, Lk y
theorem f23n2L_at (bn : List Entry) : ∀ (l : List Entry) (v : Int), (∀ x ∈ l, Ek x) → f23n2L bn l v = some .ret ∨ (f23n2L bn l v = some .exit0 ∧ (v + (l.length : Int) ≤ 61 → ∀ x ∈ l, x.Lines.length ≤ 40))
  | [], v, _ => .inr ⟨rfl, fun _ x hx => by cases hx⟩
  | x :: l, v, h => by
    rw [f23n2L]
    obtain ⟨b, hb, hl⟩ := f29_at (h x (by simp)).2.1
    cases hd : decide (v ≤ 60) with
    | false => exact .inr ⟨rfl, fun hv => by have := of_decide_eq_false hd; simp only [List.length_cons] at hv; omega⟩
    | true =>
      rw [hb]
      simp only [cond_true, Option.bind_some]
      cases b with
      | true => exact .inl rfl
      | false =>
        simp only [cond_false]
        cases decide (300 < (x.Text.size : Int)) with
        | true => exact .inl rfl
        | false => cases decide (x.After < -1) with
          | true => exact .inl rfl
          | false => cases decide (2000 < x.After) with
            | true => exact .inl rfl
            | false =>
              simp only [cond_false]
              rcases f23n2L_at bn l (v + 1) (fun y hy => h y (by simp [hy])) with e | ⟨e, k⟩
              · exact .inl e
              · refine .inr ⟨e, fun hv y hy => ?_⟩
                rcases List.mem_cons.1 hy with rfl | hy
                · exact hl rfl
                · exact k (by simp only [List.length_cons] at hv; omega) y hy
theorem f23_at {l : List Entry} (h : l.length ≤ maxLen) (hk : ∀ x ∈ l, Ek x) : ∃ b, f23 l = some b ∧ (b = false → l.length ≤ 60 ∧ ∀ x ∈ l, x.Lines.length ≤ 40) := by
  unfold f23 f23n0 f23n1
  rw [f23n2_run _ h]
  rcases f23n2L_at l l 0 hk with e | ⟨e, k⟩ <;> rw [e]
  · exact ⟨true, rfl, fun h => by cases h⟩
  · refine ⟨decide (60 < (l.length : Int)), rfl, fun h => ?_⟩
    have := of_decide_eq_false h
    exact ⟨by omega, k (by omega)⟩
theorem f24n2L_at (bn : List Entry) : ∀ (l : List Entry) (d v : Int) (j : Journal), Valid j → (∀ x ∈ l, Ek x ∧ x.Lines.length ≤ 40) → ∃ j', f24r1n2L bn l d v j = some (.exit0 j') ∧ Valid j'
  | [], d, v, j, hj, _ => ⟨j, rfl, hj⟩
  | x :: l, d, v, j, hj, h => by
    obtain ⟨hx, hx2⟩ := h x (by simp)
    have hr : Rk ⟨wr64 (d + x.After), x.Text, x.Lines⟩ := hx
    have e := f30_eq (r := ⟨wr64 (d + x.After), x.Text, x.Lines⟩) hj.1 hr (by show x.Lines.length ≤ 1000000; omega)
    simp only at e
    rw [f24r1n2L, e]
    simp only [Option.bind_some]
    cases hd : decide (errA j ⟨wr64 (d + x.After), x.Text, x.Lines⟩ = 0) with
    | true =>
      have := Valid.add hj.1 hr (of_decide_eq_true hd)
      exact f24n2L_at bn l _ _ _ this fun y hy => h y (by simp [hy])
    | false =>
      simp only [cond_false, hd]
      exact f24n2L_at bn l _ _ _ hj fun y hy => h y (by simp [hy])
theorem f24_at {l : List Entry} (hl : l.length ≤ maxLen) (h : ∀ x ∈ l, Ek x ∧ x.Lines.length ≤ 40) : ∃ j, f24r1 l = some j ∧ Valid j := by
  obtain ⟨j, e, hj⟩ := f24n2L_at l l 0 0 ⟨[]⟩ Valid.nil h
  refine ⟨j, ?_, hj⟩
  unfold f24r1 f24r1n0 f24r1n1
  show (Option.bind (some (Journal.mk [])) _).bind _ = _
  simp only [Option.bind_some]
  rw [f24r1n2_run _ _ _ hl, e]; rfl
/-! ### up to a day -/
def upto (d : Int) (l : List JournalRecord) : List JournalRecord := l.takeWhile fun r => decide (r.Day ≤ d)
theorem f32n1L_at (d : Int) (j : Journal) : ∀ (l : List JournalRecord) (v : Int), f32n1L d j l v = some (.exit0 (v + ((upto d l).length : Int)))
  | [], v => by rw [f32n1L]; simp [upto]
  | r :: l, v => by
    rw [f32n1L, f32n1L_at d j l]
    cases h : decide (r.Day ≤ d) with
    | true => simp only [cond_true, upto, List.takeWhile_cons, h, if_true, List.length_cons]; congr 2; omega
    | false => simp [upto, List.takeWhile_cons, h]
theorem take_upto (d : Int) : ∀ l : List JournalRecord, l.take (upto d l).length = upto d l
  | [] => rfl
  | r :: l => by
    unfold upto
    rw [List.takeWhile_cons]
    cases h : decide (r.Day ≤ d) with
    | true => simp only [if_true, List.length_cons, List.take_succ_cons]; exact congrArg (r :: ·) (take_upto d l)
    | false => simp
theorem upto_le (d : Int) (l : List JournalRecord) : (upto d l).length ≤ l.length := (List.takeWhile_prefix _).length_le
theorem upto_sub {d : Int} {l : List JournalRecord} {r : JournalRecord} (h : r ∈ upto d l) : r ∈ l := (List.takeWhile_prefix _).subset h
theorem f32_eq {j : Journal} (hj : Valid j) (d : Int) : f32 j d = some (⟨upto d j.Records⟩, 0) := by
  obtain ⟨k1, k2, k3⟩ := hj.open
  unfold f32 f32n0
  rw [f28_eq hj.1, hj.2, f32n1_run _ _ hj.1.1, f32n1L_at]
  have hle := upto_le d j.Records
  have hc : cutB 0 (0 + ((upto d j.Records).length : Int)) j.Records.length = true := by
    simp only [cutB, Bool.and_eq_true, decide_eq_true_eq]; omega
  simp only [cond_true, Option.bind_some, decide_true, req, hc]
  have e : (Int.toNat (0 + ((upto d j.Records).length : Int))) = (upto d j.Records).length := by omega
  rw [e, take_upto, List.drop_zero, f51r1_eq (fun y hy => by have := formed_small (open_formed k3 y (upto_sub hy)).1; omega) (by omega)]
  rfl
theorem upto_append {d : Int} {r : JournalRecord} (h : d < r.Day) : ∀ l : List JournalRecord, upto d (l ++ [r]) = upto d l
  | [] => by
    unfold upto
    simp only [List.nil_append, List.takeWhile_cons, List.takeWhile_nil]
    rw [decide_eq_false (by omega)]; rfl
  | x :: l => by
    have := upto_append h l
    unfold upto at this ⊢
    simp only [List.cons_append, List.takeWhile_cons, this]
theorem upto_at (d : Int) : ∀ {l : List JournalRecord} {a : Int} {k : Nat} {r : JournalRecord}, daysOK a l → l[k]? = some r → (k < (upto d l).length ↔ r.Day ≤ d)
  | [], a, k, r, _, h => by simp at h
  | x :: l, a, k, r, hd, h => by
    have low : ∀ {l : List JournalRecord} {a : Int} {k : Nat} {r : JournalRecord}, daysOK a l → l[k]? = some r → a ≤ r.Day := by
      intro l
      induction l with
      | nil => intro a k r _ h; simp at h
      | cons y l ih =>
        intro a k r hd h
        cases k with
        | zero => simp at h; subst h; exact hd.1
        | succ k => have := ih hd.2 (by simpa using h); have := hd.1; omega
    unfold upto
    rw [List.takeWhile_cons]
    cases hx : decide (x.Day ≤ d) with
    | false =>
      have hx := of_decide_eq_false hx
      simp only [Bool.false_eq_true, if_false, List.length_nil, Nat.not_lt_zero, false_iff]
      cases k with
      | zero => simp at h; subst h; exact hx
      | succ k => have := low hd.2 (k := k) (by simpa using h); omega
    | true =>
      have hx := of_decide_eq_true hx
      cases k with
      | zero => simp at h; subst h; simpa using hx
      | succ k =>
        have := upto_at d hd.2 (k := k) (by simpa using h)
        simp only [if_true, List.length_cons, Nat.add_lt_add_iff_right]
        exact this
theorem upto_get (d : Int) {l : List JournalRecord} {k : Nat} {r : JournalRecord} (h : l[k]? = some r) (hk : k < (upto d l).length) : (upto d l)[k]? = some r := by
  rw [← take_upto d l, List.getElem?_take, if_pos hk]; exact h
/-! ### the same -/
theorem eqb_self (x : JournalLine) : JournalLine.eqb x x = true := by simp [JournalLine.eqb, seq]
theorem f27n2L_at (b : JournalRecord) : ∀ (l : List JournalLine) (k : Nat), b.Lines.drop k = l → f27n2L b b l (k : Int) = some .exit0
  | [], k, _ => rfl
  | x :: l, k, h => by
    obtain ⟨hx, _, hd⟩ := drop_cons h
    rw [f27n2L, at_nat, hx]
    simp only [Option.bind_some, eqb_self, cond_true]
    exact f27n2L_at b l (k + 1) hd
theorem f27_self {r : JournalRecord} (h : r.Lines.length ≤ maxLen) : f27 r r = some true := by
  unfold f27 f27n0 f27n1
  rw [f27n2_run _ _ h]
  have := f27n2L_at r r.Lines 0 rfl
  simp only [Int.natCast_zero] at this
  rw [this, seq_self]
  simp
theorem f19n2L_at (j : Journal) (hr : ∀ r ∈ j.Records, r.Lines.length ≤ maxLen) : ∀ (l : List JournalRecord) (k : Nat), j.Records.drop k = l → f19n2L j j l (k : Int) = some .exit0
  | [], k, _ => rfl
  | x :: l, k, h => by
    obtain ⟨hx, _, hd⟩ := drop_cons h
    rw [f19n2L, at_nat, hx]
    simp only [Option.bind_some, f27_self (hr x (List.mem_of_getElem? hx)), cond_true]
    exact f19n2L_at j hr l (k + 1) hd
theorem f19_self {j : Journal} (h : Jk j) : f19 j j = some true := by
  unfold f19 f19n0 f19n1
  rw [f19n2_run _ _ h.1]
  have := f19n2L_at j (fun r hr => (h.2 r hr).2.1) j.Records 0 rfl
  simp only [Int.natCast_zero] at this
  rw [this]
  simp
/-! ### the law -/
theorem f10n2L_at {j : Journal} (d e : Int) (hj : Valid j) : ∀ (l : List JournalRecord) (k : Nat), j.Records.drop k = l → f10n2L d true j (⟨upto d j.Records⟩, e) l (k : Int) = some .exit0
  | [], k, _ => rfl
  | x :: l, k, h => by
    obtain ⟨hx, _, hd⟩ := drop_cons h
    have hu := upto_at d (open_days hj.open.2.2) hx
    have e1 : decide ((k : Int) < ((upto d j.Records).length : Int)) = decide (x.Day ≤ d) := by
      congr 1; apply propext; rw [← hu]; omega
    have ih := f10n2L_at d e hj l (k + 1) hd
    rw [f10n2L]
    simp only [e1]
    cases hc : decide (x.Day ≤ d) with
    | false => simp only [cond_false, beq_self_eq_true, cond_true]; exact ih
    | true =>
      have hk := hu.2 (of_decide_eq_true hc)
      rw [at_nat, upto_get d hx hk]
      simp only [Option.bind_some, beq_self_eq_true, cond_true, f27_self (hj.1.2 x (List.mem_of_getElem? hx)).2.1]
      exact ih
theorem until_plain (x0 : List Entry) (x1 : Int) (ok0 : x0.length ≤ maxLen ∧ ∀ x ∈ x0, Entry.ok x) (ok1 : okInt .i64 x1) : f10 x0 x1 = some true := by
  have hk : ∀ x ∈ x0, Ek x := fun x hx => by
    have := ok0.2 x hx
    exact ⟨this.2.1, this.2.2.1.1, fun y hy => ⟨(this.2.2.1.2 y hy).1, (this.2.2.1.2 y hy).2.1⟩⟩
  obtain ⟨b, hb, hb2⟩ := f23_at ok0.1 hk
  unfold f10 f10n0
  rw [alive_t, hb]
  simp only [Option.bind_some]
  cases b with
  | true => rfl
  | false =>
    obtain ⟨h60, h40⟩ := hb2 rfl
    obtain ⟨j, e, hj⟩ := f24_at ok0.1 fun x hx => ⟨hk x hx, h40 x hx⟩
    obtain ⟨k1, k2, k3⟩ := hj.open
    rw [e]
    simp only [cond_false, cond_true, Option.bind_some, f32_eq hj]
    have hle := upto_le x1 j.Records
    rw [decide_eq_false (show ¬ ((j.Records.length : Int) < ((upto x1 j.Records).length : Int)) by omega)]
    have hn1 : f10n1 x1 true j (⟨upto x1 j.Records⟩, 0) = some .norm := by
      unfold f10n1
      rw [f10n2_run _ _ _ _ hj.1.1]
      have := f10n2L_at x1 0 hj j.Records 0 rfl
      simp only [Int.natCast_zero] at this
      rw [this]; rfl
    rw [hn1]
    simp only [decide_true, cond_true, cond_false, Option.bind_some]
    cases h0 : decide (x1 < 0) with
    | true => rfl
    | false =>
      cases h9 : decide (99999 ≤ x1) with
      | true => rfl
      | false =>
        have h9 := of_decide_eq_false h9
        have el : f37r1 1 = some () := rfl
        have hr : Rk ⟨99999, str_x, [⟨str_a, str_EUR, 1⟩, ⟨str_b, str_EUR, wr64 (0 - 1)⟩]⟩ := by
          refine ⟨by unfold maxLen; decide, by unfold maxLen; decide, fun y hy => ?_⟩
          simp only [List.mem_cons, List.not_mem_nil, or_false] at hy
          rcases hy with rfl | rfl <;> exact ⟨by unfold maxLen; decide, by unfold maxLen; decide⟩
        have ea := f30_eq (r := ⟨99999, str_x, [⟨str_a, str_EUR, 1⟩, ⟨str_b, str_EUR, wr64 (0 - 1)⟩]⟩) hj.1 hr (by decide)
        simp only at ea
        simp only [cond_false, el, ea, Option.bind_some]
        cases hd : decide (errA j ⟨99999, str_x, [⟨str_a, str_EUR, 1⟩, ⟨str_b, str_EUR, wr64 (0 - 1)⟩]⟩ = 0) with
        | false =>
          simp only [cond_false, f32_eq Valid.nil, Option.bind_some, hd]
        | true =>
          have hv := Valid.add hj.1 hr (of_decide_eq_true hd)
          simp only [cond_true, f32_eq hv, Option.bind_some, decide_true]
          rw [upto_append (by show x1 < 99999; omega)]
          have hj2 : Jk ⟨upto x1 j.Records⟩ := ⟨by show (upto x1 j.Records).length ≤ maxLen; have := hj.1.1; omega, fun y hy => hj.1.2 y (upto_sub hy)⟩
          rw [f19_self hj2]; rfl
end Go.Proofs.Ytbgjlpdeoljmiaa
