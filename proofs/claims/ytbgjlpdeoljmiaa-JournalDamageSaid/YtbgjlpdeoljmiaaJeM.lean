/- Journals: all bytes written, and recovered, in plain words. No condition. -/
import Derived.Test.YtbgjlpdeoljmiaaJdM
namespace Go.Proofs.Ytbgjlpdeoljmiaa
set_option linter.unusedVariables false
set_option linter.unusedSimpArgs false
open Go.RowKit
theorem name_len {l : List UInt8} (h : isName l = true) : l.length ≤ 40 := by
  cases l with
  | nil => simp
  | cons b r => simp only [isName, Bool.and_eq_true, decide_eq_true_eq] at h; exact h.1
theorem line_small {x : JournalLine} (h : badL x = false) : x.Account.size ≤ 40 ∧ x.Ccy.size ≤ 40 ∧ -1125899906842624 ≤ x.Amount ∧ x.Amount ≤ 1125899906842624 := by
  simp only [badL, Bool.or_eq_false_iff, Bool.not_eq_false', within, Bool.and_eq_true, decide_eq_true_eq] at h
  exact ⟨name_len h.1, name_len h.2.1, h.2.2.2.1, h.2.2.2.2⟩
theorem formed_line {r : JournalRecord} (h : formedB r = true) {x : JournalLine} (hx : x ∈ r.Lines) : badL x = false := by
  have h1 := (formed_small h).2.2.2.2.2
  cases hb : badL x with
  | false => rfl
  | true =>
    have : r.Lines.any badL = true := List.any_eq_true.2 ⟨x, hx, hb⟩
    rw [this] at h1; cases h1
theorem formed_rsm {r : JournalRecord} (h : formedB r = true) : Rsm r := by
  obtain ⟨h1, h2, h3, h4, h5, h6⟩ := formed_small h
  refine ⟨h1, by omega, by omega, by omega, fun x hx => ?_⟩
  obtain ⟨k1, k2, k3, k4⟩ := line_small (formed_line h hx)
  exact ⟨by omega, by omega, by omega, by omega⟩
theorem rsm_rk {r : JournalRecord} (h : Rsm r) : Rk r := by
  have hM : 255 ≤ maxLen := by unfold maxLen; decide
  have h1 := h.2.2.1; have h2 := h.2.2.2.1
  exact ⟨by omega, by omega, fun x hx => by have := h.2.2.2.2 x hx; exact ⟨by have := this.1; omega, by have := this.2.1; omega⟩⟩
theorem pay_small {n : Int} {r : JournalRecord} (h : formedB r = true) : (pay n r).length ≤ 2000 ∧ 8 ≤ (pay n r).length := by
  obtain ⟨h1, h2, h3, h4, h5, h6⟩ := formed_small h
  have key : ∀ l : List JournalLine, (∀ x ∈ l, badL x = false) → (l.flatMap lineB).length ≤ 90 * l.length := by
    intro l
    induction l with
    | nil => intro _; simp
    | cons x l ih =>
      intro h
      have := ih fun y hy => h y (by simp [hy])
      obtain ⟨k1, k2, _⟩ := line_small (h x (by simp))
      simp only [List.flatMap_cons, List.length_append, List.length_cons, lineB, strB_len, low_len]; omega
  have := key r.Lines fun x hx => formed_line h hx
  simp only [pay, List.length_append, low_len, strB_len, List.length_cons]; omega
noncomputable def encL : List JournalRecord → Int → Nat → List Int
  | [], _, _ => []
  | r :: l, s, k => low ((pay ((k : Int) + 1) r).length : Int) 4 ++ (pay ((k : Int) + 1) r ++ (low (stm s (pay ((k : Int) + 1) r)) 8 ++ encL l (stm s (pay ((k : Int) + 1) r)) (k + 1)))
noncomputable def stL : List JournalRecord → Int → Nat → Int
  | [], s, _ => s
  | r :: l, s, k => stL l (stm s (pay ((k : Int) + 1) r)) (k + 1)
theorem encL_append : ∀ (a b : List JournalRecord) (s : Int) (k : Nat), encL (a ++ b) s k = encL a s k ++ encL b (stL a s k) (k + a.length)
  | [], b, s, k => rfl
  | r :: a, b, s, k => by
    simp only [List.cons_append, encL, stL, encL_append a b, List.append_assoc, List.length_cons]
    rw [show k + 1 + a.length = k + (a.length + 1) by omega]
theorem stL_append : ∀ (a b : List JournalRecord) (s : Int) (k : Nat), stL (a ++ b) s k = stL b (stL a s k) (k + a.length)
  | [], b, s, k => rfl
  | r :: a, b, s, k => by
    simp only [List.cons_append, stL, stL_append a b, List.length_cons]
    rw [show k + 1 + a.length = k + (a.length + 1) by omega]
theorem encL_len : ∀ {l : List JournalRecord} {s : Int} {k : Nat}, (∀ r ∈ l, formedB r = true) → (encL l s k).length ≤ 2012 * l.length ∧ 12 * l.length ≤ (encL l s k).length
  | [], _, _, _ => ⟨by simp [encL], by simp⟩
  | r :: l, s, k, h => by
    obtain ⟨i1, i2⟩ := encL_len (l := l) (s := stm s (pay ((k : Int) + 1) r)) (k := k + 1) fun y hy => h y (by simp [hy])
    have hp := pay_small (n := (k : Int) + 1) (h r (by simp))
    simp only [encL, List.length_append, low_len, List.length_cons]; omega
theorem encL_byt : ∀ {l : List JournalRecord} {s : Int} {k : Nat}, (∀ r ∈ l, formedB r = true) → Byt (encL l s k)
  | [], _, _, _ => fun x hx => by simp [encL] at hx
  | r :: l, s, k, h => (low_byt 4 _).app ((pay_byt (formed_rsm (h r (by simp)))).app ((low_byt 8 _).app (encL_byt fun y hy => h y (by simp [hy]))))
structure RI (b : List Int) (used s d m : Int) (rest : List Int) (recs : List JournalRecord) (bl : Bal) : Prop where
  ho : openL recs 0 0 [] = (true, d, m, bl)
  hb : b = encL recs 0 0 ++ rest
  hu : used = ((encL recs 0 0).length : Int)
  hs : s = stL recs 0 0
  hr : Byt rest
theorem recover_at {b : List Int} (hbl : b.length ≤ 900000) : ∀ (n f : Nat) (used s d m : Int) (rest : List Int) (recs : List JournalRecord) (bl : Bal), RI b used s d m rest recs bl → recs.length + n = 201 → n < f →
    ∃ recs' rest', f16n1 f b used s d m ⟨rest⟩ recs bl = some (.ret ((encL recs' 0 0).length : Int) recs') ∧ (openL recs' 0 0 []).1 = true ∧ (∀ r ∈ recs', Rk r) ∧ b = encL recs' 0 0 ++ rest' ∧
      ∀ more t, (openL (recs ++ more) 0 0 []).1 = true → rest = encL more s recs.length ++ t → ∃ x, recs' = recs ++ more ++ x
  | n, 0, _, _, _, _, _, _, _, _, _, hf => absurd hf (Nat.not_lt_zero _)
  | n, f + 1, used, s, d, m, rest, recs, bl, hI, hn, hf => by
    have ho1 : (openL recs 0 0 []).1 = true := by rw [hI.ho]
    obtain ⟨om1, om2⟩ := open_many ho1 (Int.le_refl _) (by decide)
    rw [hI.ho] at om1
    simp only [Int.zero_add] at om1 om2
    have hfo : ∀ r ∈ recs, formedB r = true := fun r hr => (open_formed ho1 r hr).1
    have hrk : ∀ r ∈ recs, Rk r := fun r hr => rsm_rk (formed_rsm (hfo r hr))
    have hrl : rest.length ≤ 900000 := by have := hbl; rw [hI.hb] at this; simp only [List.length_append] at this; omega
    have hw : wr64 (m + 1) = (recs.length : Int) + 1 := by rw [om1]; exact wr64_of (by omega) (by omega)
    -- it stops here
    have stop : f16n1 (f + 1) b used s d m ⟨rest⟩ recs bl = some (.ret used recs) → (∀ r more' t, (openL (recs ++ r :: more') 0 0 []).1 = true → rest ≠ encL (r :: more') s recs.length ++ t) →
        ∃ recs' rest', f16n1 (f + 1) b used s d m ⟨rest⟩ recs bl = some (.ret ((encL recs' 0 0).length : Int) recs') ∧ (openL recs' 0 0 []).1 = true ∧ (∀ r ∈ recs', Rk r) ∧ b = encL recs' 0 0 ++ rest' ∧
          ∀ more t, (openL (recs ++ more) 0 0 []).1 = true → rest = encL more s recs.length ++ t → ∃ x, recs' = recs ++ more ++ x := by
      intro e hno
      refine ⟨recs, rest, by rw [e, hI.hu], ho1, hrk, hI.hb, fun more t h1 h2 => ?_⟩
      cases more with
      | nil => exact ⟨[], by simp⟩
      | cons r more' => exact absurd h2 (hno r more' t h1)
    -- what a whole record behind it is read as
    have whole : ∀ r more' t, (openL (recs ++ r :: more') 0 0 []).1 = true → rest = encL (r :: more') s recs.length ++ t →
        f43r1 ((recs.length : Int) + 1) s ⟨rest⟩ = some (⟨encL more' (stm s (pay ((recs.length : Int) + 1) r)) (recs.length + 1) ++ t⟩, r.Day, r.Text, stm s (pay ((recs.length : Int) + 1) r), true, r.Lines) ∧ (addS r d m bl).1 = true ∧ Rsm r := by
      intro r more' t h1 h2
      have hfr : formedB r = true := (open_formed h1 r (by simp)).1
      have hrs := formed_rsm hfr
      have hby : Byt (encL more' (stm s (pay ((recs.length : Int) + 1) r)) (recs.length + 1) ++ t) := by
        have := hI.hr
        rw [h2] at this
        simp only [encL, List.append_assoc] at this
        exact this.right.right.right
      refine ⟨?_, ?_, hrs⟩
      · rw [h2]
        simp only [encL, List.append_assoc]
        refine next_write (by omega) (by omega) s hrs hby ?_
        rw [h2] at hrl
        simp only [encL, List.length_append] at hrl ⊢; omega
      · rw [open_append, hI.ho] at h1
        simp only [cond_true] at h1
        rw [openL] at h1
        cases hx : (addS r d m bl).1 with
        | true => rfl
        | false => rw [hx] at h1; cases h1
    obtain ⟨rd, dd, tt, now, is, ls, e, hread⟩ := next_read (n := (recs.length : Int) + 1) (by omega) (by omega) s hI.hr (by omega)
    have eq0 : f16n1 (f + 1) b used s d m ⟨rest⟩ recs bl = f16n1 (f + 1) b used s d m ⟨rest⟩ recs bl := rfl
    conv at eq0 => rhs; rw [f16n1]
    rw [hw, e] at eq0
    simp only [Option.bind_some] at eq0
    cases is with
    | false =>
      refine stop eq0 fun r more' t h1 h2 => ?_
      have := (whole r more' t h1 h2).1
      rw [e] at this
      simp only [Option.some.injEq, Prod.mk.injEq] at this
      cases this.2.2.2.2.1
    | true =>
      obtain ⟨rest2, rfl, hrs, hnow, hsplit⟩ := hread rfl
      have ea := f44r3_eq (r := ⟨dd, tt, ls⟩) (rsm_rk hrs) d m bl
      simp only at ea
      simp only [cond_true, ea, Option.bind_some] at eq0
      cases hx : (addS ⟨dd, tt, ls⟩ d m bl).1 with
      | false =>
        rw [hx] at eq0
        refine stop eq0 fun r more' t h1 h2 => ?_
        obtain ⟨w1, w2, _⟩ := whole r more' t h1 h2
        rw [e] at w1
        simp only [Option.some.injEq, Prod.mk.injEq] at w1
        have : (⟨dd, tt, ls⟩ : JournalRecord) = r := by cases r; simp only [JournalRecord.mk.injEq]; exact ⟨w1.2.1, w1.2.2.1, w1.2.2.2.2.2⟩
        rw [this, w2] at hx; cases hx
      | true =>
        rw [hx] at eq0
        have ha := add_true hx
        have hlt : recs.length < 200 := by have := ha.1; omega
        simp only [cond_true, req, fit_small (show recs.length + 1 ≤ 1000000 by omega) (show 48 ≤ 1000000 by omega), ha.2.2.2.2.2] at eq0
        have hfr : formedB ⟨dd, tt, ls⟩ = true := ha.2.1
        have henc : encL (recs ++ [⟨dd, tt, ls⟩]) 0 0 = encL recs 0 0 ++ (low ((pay ((recs.length : Int) + 1) ⟨dd, tt, ls⟩).length : Int) 4 ++ (pay ((recs.length : Int) + 1) ⟨dd, tt, ls⟩ ++ low now 8)) := by
          rw [encL_append]
          simp only [encL, List.append_nil, Nat.zero_add]
          rw [← hI.hs, ← hnow]
        have hb2 : b = encL (recs ++ [⟨dd, tt, ls⟩]) 0 0 ++ rest2 := by
          rw [henc, hI.hb, hsplit]; simp only [List.append_assoc]
        have hw2 : wr64 (m + 1) = (recs.length : Int) + 1 := hw
        have hused : wr64 ((b.length : Int) - (rest2.length : Int)) = ((encL (recs ++ [⟨dd, tt, ls⟩]) 0 0).length : Int) := by
          have : b.length = (encL (recs ++ [⟨dd, tt, ls⟩]) 0 0).length + rest2.length := by
            have h := congrArg List.length hb2
            rw [List.length_append] at h; exact h
          rw [this, wr64_of (by omega) (by omega)]; omega
        rw [hused] at eq0
        have hI2 : RI b ((encL (recs ++ [⟨dd, tt, ls⟩]) 0 0).length : Int) now dd (wr64 (m + 1)) rest2 (recs ++ [⟨dd, tt, ls⟩]) (postL ls bl) := by
          refine ⟨?_, hb2, rfl, ?_, ?_⟩
          · rw [open_append, hI.ho]
            simp only [cond_true, openL, hx, ha.2.2.2.2.2]
          · rw [stL_append]
            simp only [stL, Nat.zero_add]
            rw [← hI.hs, hnow]
          · have := hI.hr; rw [hsplit] at this; exact this.right.right.right
        obtain ⟨n', rfl⟩ : ∃ n', n = n' + 1 := ⟨n - 1, by omega⟩
        obtain ⟨recs', rest', r1, r2, r3, r4, r5⟩ := recover_at hbl n' f _ _ _ _ _ _ _ hI2 (by simp; omega) (by omega)
        refine ⟨recs', rest', by rw [eq0]; exact r1, r2, r3, r4, fun more t h1 h2 => ?_⟩
        cases more with
        | nil =>
          obtain ⟨x, hx2⟩ := r5 [] rest2 (by rw [List.append_nil, hI2.ho]) rfl
          exact ⟨⟨dd, tt, ls⟩ :: x, by rw [hx2]; simp⟩
        | cons r more' =>
          obtain ⟨w1, _, _⟩ := whole r more' t h1 h2
          rw [e] at w1
          simp only [Option.some.injEq, Prod.mk.injEq, Reader_.mk.injEq] at w1
          have hre : (⟨dd, tt, ls⟩ : JournalRecord) = r := by cases r; simp only [JournalRecord.mk.injEq]; exact ⟨w1.2.1, w1.2.2.1, w1.2.2.2.2.2⟩
          have h3 : rest2 = encL more' now (recs ++ [(⟨dd, tt, ls⟩ : JournalRecord)]).length ++ t := by
            rw [w1.1, w1.2.2.2.1]; simp
          obtain ⟨x, hx2⟩ := r5 more' t (by rw [hre]; simpa using h1) h3
          exact ⟨x, by rw [hx2, hre]; simp⟩
theorem recover_eq {b : List Int} (hb : Byt b) (hl : b.length ≤ 900000) : ∃ recs rest, f16 b = some (⟨recs⟩, ((encL recs 0 0).length : Int)) ∧ Valid ⟨recs⟩ ∧ b = encL recs 0 0 ++ rest ∧
    ∀ more t, (openL more 0 0 []).1 = true → b = encL more 0 0 ++ t → ∃ x, recs = more ++ x := by
  have hF : 1000 < FUEL := by unfold FUEL; decide
  obtain ⟨recs, rest, h1, h2, h3, h4, h5⟩ := recover_at hl 201 FUEL 0 0 0 0 b [] [] ⟨rfl, rfl, rfl, rfl, hb⟩ (by simp) (by omega)
  refine ⟨recs, rest, ?_, Valid.of ⟨?_, h3⟩ h2, h4, fun more t k1 k2 => ?_⟩
  · unfold f16 f16n0
    rw [h1]; rfl
  · have := (open_many h2 (Int.le_refl _) (by decide)).2
    have hM : 1000 ≤ maxLen := by unfold maxLen; decide
    show recs.length ≤ maxLen
    omega
  · obtain ⟨x, hx⟩ := h5 more t (by simpa using k1) k2
    exact ⟨x, by simpa using hx⟩
theorem f18_self (l : List Int) : f18 l l = some true := by
  unfold f18 f18n0
  show some (seq (sOf l) (sOf l)) = _
  rw [seq_self]
end Go.Proofs.Ytbgjlpdeoljmiaa
