/- The law on balances, in plain words. No condition. -/
import Derived.Test.YtbgjlpdeoljmiaaJbV
import Derived.Test.YtbgjlpdeoljmiaaAlV
namespace Go.Proofs.Ytbgjlpdeoljmiaa
set_option linter.unusedVariables false
set_option linter.unusedSimpArgs false
open Go.RowKit
/-- A sum of the amounts of some lines, as the machine reckons it. -/
def sumF (p : JournalLine → Bool) : List JournalLine → Int → Int
  | [], s => s
  | x :: l, s => sumF p l (bif p x then wr64 (s + x.Amount) else s)
theorem sumF_append (p : JournalLine → Bool) : ∀ (l k : List JournalLine) (s : Int), sumF p (l ++ k) s = sumF p k (sumF p l s)
  | [], k, s => rfl
  | x :: l, k, s => by rw [List.cons_append, sumF, sumF, sumF_append p l k]
theorem get_put {K : Type} {keq : K → K → Bool} (he : ∀ {a b}, keq a b = true → a = b) (hr : ∀ a, keq a a = true) (z v : Int) (k q : K) : ∀ m : List (K × Int), mGet keq z q (mPut keq k v m) = bif keq q k then v else mGet keq z q m
  | [] => by simp [mPut, mGet]
  | (a, w) :: r => by
    simp only [mPut, mGet]
    cases hk : keq k a with
    | true =>
      have := he hk; subst this
      simp only [cond_true, mGet]
      cases keq q k <;> rfl
    | false =>
      simp only [cond_false, mGet]
      cases hq : keq q a with
      | true =>
        have := he hq; subst this
        have hne : keq q k = false := by
          cases h : keq q k with
          | false => rfl
          | true => have := he h; subst this; rw [hr] at hk; cases hk
        simp only [cond_true, hne, cond_false]
      | false => simp only [cond_false]; exact get_put he hr z v k q r
theorem seq_eq2 {a b : ByteArray} (h : seq a b = true) : a = b := bytes_eq (by simpa [seq] using h)
theorem acc_self (a : Account_) : Account_.eqb a a = true := by simp [Account_.eqb, seq]
theorem bal_post (a : Account_) : ∀ (l : List JournalLine) (b : Bal), bal a (postL l b) = sumF (fun x => Account_.eqb a (acc x)) l (bal a b)
  | [], b => rfl
  | x :: l, b => by
    rw [postL, sumF, bal_post a l]
    have := get_put (keq := Account_.eqb) (fun h => Account_.eqb_eq h) acc_self 0 (wr64 (bal (acc x) b + x.Amount)) (acc x) a b
    show sumF _ l (mGet Account_.eqb 0 a _) = _
    rw [this]
    cases h : Account_.eqb a (acc x) with
    | true => have := Account_.eqb_eq h; subst this; rfl
    | false => rfl
theorem get_sums (c : ByteArray) : ∀ (l : List JournalLine) (m : List (ByteArray × Int)), mGet seq 0 c (sumsL l m) = sumF (fun x => seq c x.Ccy) l (mGet seq 0 c m)
  | [], m => rfl
  | x :: l, m => by
    rw [sumsL, sumF, get_sums c l, get_put (fun h => seq_eq2 h) seq_self]
    cases h : seq c x.Ccy with
    | true => have := seq_eq2 h; rw [← this]
    | false => rfl
theorem get_zero (c : ByteArray) : ∀ {m : List (ByteArray × Int)}, m.all (fun x => decide (x.2 = 0)) = true → mGet seq 0 c m = 0
  | [], _ => rfl
  | (a, w) :: r, h => by
    simp only [List.all_cons, Bool.and_eq_true, decide_eq_true_eq] at h
    rw [mGet, h.1, get_zero c h.2]
    cases seq c a <;> rfl
theorem bal_zero {r : JournalRecord} (h : balB r = true) (c : ByteArray) : sumF (fun x => seq c x.Ccy) r.Lines 0 = 0 := by
  have := get_sums c r.Lines []
  rw [get_zero c h] at this
  exact this.symm
def linesOf (l : List JournalRecord) : List JournalLine := l.flatMap (·.Lines)
theorem all_zero (c : ByteArray) : ∀ {l : List JournalRecord}, (∀ r ∈ l, balB r = true) → sumF (fun x => seq c x.Ccy) (linesOf l) 0 = 0
  | [], _ => rfl
  | r :: l, h => by
    unfold linesOf
    rw [List.flatMap_cons, sumF_append, bal_zero (h r (by simp)) c]
    exact all_zero c fun y hy => h y (by simp [hy])
theorem open_bal : ∀ {l : List JournalRecord} {d m : Int} {b : Bal}, (openL l d m b).1 = true → (openL l d m b).2.2.2 = postL (linesOf l) b
  | [], _, _, _, _ => rfl
  | r :: l, d, m, b, h => by
    rw [openL] at h ⊢
    cases hx : (addS r d m b).1 with
    | false => rw [hx] at h; cases h
    | true =>
      rw [hx] at h
      have ha := add_true hx
      simp only [cond_true, ha.2.2.2.2.2] at h ⊢
      rw [open_bal h]
      have post_append : ∀ (k k2 : List JournalLine) (b : Bal), postL (k ++ k2) b = postL k2 (postL k b) := by
        intro k
        induction k with
        | nil => intro _ _; rfl
        | cons x k ih => intro k2 b; rw [List.cons_append, postL, postL, ih]
      show postL (linesOf l) (postL r.Lines b) = postL (r.Lines ++ linesOf l) b
      rw [post_append]
theorem f25_eq {j : Journal} (h : Valid j) (a c : ByteArray) : f25 j a c = some (bal ⟨a, c⟩ (postL (linesOf j.Records) []), 0) := by
  obtain ⟨k1, k2, k3⟩ := h.open
  unfold f25 f25n0
  rw [f47r1_eq h.1, k2]
  simp only [Option.bind_some, k3, cond_true, open_bal k3]; rfl
theorem take_at {l : List JournalRecord} {k : Nat} {r : JournalRecord} (h : l[k]? = some r) : l.take (k + 1) = l.take k ++ [r] := by
  rw [List.take_add_one, h]; rfl
theorem f4n4_at (bo : Bool) {j : Journal} (hj : Valid j) (k : Nat) (hk : k < j.Records.length) : ∀ (n f v : Nat), v + n = k + 1 → n < f → f4n4 f bo (k : Int) j (v : Int) (linesOf (j.Records.take v)) = some (.exit2 (linesOf (j.Records.take (k + 1))))
  | n, 0, _, _, hf => absurd hf (Nat.not_lt_zero _)
  | 0, f + 1, v, hv, hf => by
    have : v = k + 1 := by omega
    subst this
    rw [f4n4, decide_eq_false (by omega)]; rfl
  | n + 1, f + 1, v, hv, hf => by
    obtain ⟨k1, k2, k3⟩ := hj.open
    have hvl : v < j.Records.length := by omega
    have hx : j.Records[v]? = some j.Records[v] := List.getElem?_eq_getElem hvl
    have hw : wr64 ((v : Int) + 1) = ((v + 1 : Nat) : Int) := wr64_of (by omega) (by omega)
    have hn : linesOf (j.Records.take v) ++ j.Records[v].Lines = linesOf (j.Records.take (v + 1)) := by rw [take_at hx]; simp only [linesOf, List.flatMap_append, List.flatMap_cons, List.flatMap_nil, List.append_nil]
    have ih := f4n4_at bo hj k hk n f (v + 1) (by omega) (by omega)
    have hlen : (linesOf (j.Records.take v)).length ≤ 20 * v := by
      have key : ∀ (l : List JournalRecord), (∀ r ∈ l, r.Lines.length ≤ 20) → (linesOf l).length ≤ 20 * l.length := by
        intro l
        induction l with
        | nil => intro _; simp [linesOf]
        | cons r l ih =>
          intro h
          have := ih fun y hy => h y (by simp [hy])
          have h2 := h r (by simp)
          unfold linesOf at this ⊢
          simp only [List.flatMap_cons, List.length_append, List.length_cons]; omega
      have := key (j.Records.take v) fun r hr => (formed_small (open_formed k3 r (List.mem_of_mem_take hr)).1).2.2.2.2.1
      have h2 : (j.Records.take v).length ≤ v := by simp; omega
      omega
    have hl2 := (formed_small (open_formed k3 _ (List.mem_of_getElem? hx)).1).2.2.2.2.1
    rw [f4n4, decide_eq_true (by omega), at_nat, hx]
    simp only [cond_true, Option.bind_some, hw]
    cases he : j.Records[v].Lines.isEmpty with
    | true =>
      have : j.Records[v].Lines = [] := by simpa using he
      rw [this, List.append_nil] at hn
      simp only [cond_true]; rw [hn]; exact ih
    | false => simp only [cond_false, req, fit_small (show (linesOf (j.Records.take v)).length + j.Records[v].Lines.length ≤ 1000000 by omega) (show 40 ≤ 1000000 by omega), cond_true, hn]; exact ih
theorem f4n7L_at (bo : Bool) (a b : Int) (j : Journal) (bc : List JournalLine) (x : JournalLine) : ∀ (l : List JournalLine) (o s v : Int), f4n7L bo a b j bc x l o s v = some (.exit6 (sumF (fun y => Account_.eqb (acc x) (acc y)) l o) (sumF (fun y => seq x.Ccy y.Ccy) l s))
  | [], o, s, v => rfl
  | y :: l, o, s, v => by
    have sym : ∀ a b : ByteArray, seq a b = seq b a := fun a b => by simp only [seq]; congr 1; apply propext; exact eq_comm
    rw [f4n7L]
    simp only [f4n7L_at bo a b j bc x l, sumF]
    rw [sym y.Ccy, sym y.Account]
    show _ = some (f4n7O.exit6 (sumF _ l (bif (seq x.Account y.Account && seq x.Ccy y.Ccy) then _ else _)) _)
    cases seq x.Ccy y.Ccy <;> cases seq x.Account y.Account <;> rfl
theorem lines_max {j : Journal} (hj : Valid j) (n : Nat) : (linesOf (j.Records.take n)).length ≤ maxLen := by
  obtain ⟨k1, k2, k3⟩ := hj.open
  have key : ∀ (l : List JournalRecord), (∀ r ∈ l, r.Lines.length ≤ 20) → (linesOf l).length ≤ 20 * l.length := by
    intro l
    induction l with
    | nil => intro _; simp [linesOf]
    | cons r l ih =>
      intro h
      have := ih fun y hy => h y (by simp [hy])
      have h2 := h r (by simp)
      unfold linesOf at this ⊢
      simp only [List.flatMap_cons, List.length_append, List.length_cons]; omega
  have := key (j.Records.take n) fun r hr => (formed_small (open_formed k3 r (List.mem_of_mem_take hr)).1).2.2.2.2.1
  have h2 : (j.Records.take n).length ≤ 200 := by simp; omega
  have h3 : 20 * 200 ≤ maxLen := by unfold maxLen; decide
  omega
theorem f4n5_at {j : Journal} (hj : Valid j) {k i : Nat} {r : JournalRecord} {x : JournalLine} (hr : j.Records[k]? = some r) (hx : r.Lines[i]? = some x) : f4n5 true (k : Int) (i : Int) j (linesOf (j.Records.take (k + 1))) = some .norm := by
  obtain ⟨k1, k2, k3⟩ := hj.open
  have hk := lt_of_at hr
  have hw : wr64 ((k : Int) + 1) = ((k + 1 : Nat) : Int) := wr64_of (by omega) (by omega)
  have hsplit : j.Records.take (k + 1) ++ j.Records.drop (k + 1) = j.Records := List.take_append_drop _ _
  have hp : Valid ⟨j.Records.take (k + 1)⟩ := Valid.pre (k := j.Records.drop (k + 1)) (by rw [hsplit]; exact hj)
  have htn : Int.toNat (((k + 1 : Nat) : Int)) = k + 1 := rfl
  unfold f4n5 f4n6
  rw [at_nat, hr]
  simp only [Option.bind_some]
  rw [at_nat, hx]
  simp only [Option.bind_some]
  rw [f4n7_run _ _ _ _ _ _ _ _ (lines_max hj _), f4n7L_at, hw, htn, List.drop_zero]
  simp only [Option.bind_some, f25_eq hp]
  have e1 : bal ⟨x.Account, x.Ccy⟩ (postL (linesOf (j.Records.take (k + 1))) []) = sumF (fun y => Account_.eqb (acc x) (acc y)) (linesOf (j.Records.take (k + 1))) 0 := bal_post (acc x) _ []
  have e2 : sumF (fun y => seq x.Ccy y.Ccy) (linesOf (j.Records.take (k + 1))) 0 = 0 := all_zero x.Ccy fun y hy => (open_formed hp.open.2.2 y hy).2
  -- what the last record has changed fits
  have e3 : within (bal (acc x) (postL (linesOf (j.Records.take (k + 1))) [])) = true := by
    have h1 := hp.open.2.2
    simp only [take_at hr] at h1
    rw [open_append] at h1
    cases h2 : (openL (j.Records.take k) 0 0 []).1 with
    | false => rw [h2] at h1; simp only [cond_false] at h1; rw [h2] at h1; cases h1
    | true =>
      rw [h2] at h1
      simp only [cond_true, openL] at h1
      cases h3 : (addS r (openL (j.Records.take k) 0 0 []).2.1 (openL (j.Records.take k) 0 0 []).2.2.1 (openL (j.Records.take k) 0 0 []).2.2.2).1 with
      | false => rw [h3] at h1; cases h1
      | true =>
        have h4 := (add_true h3).2.2.2.2.1
        rw [open_bal h2] at h4
        have h5 : postL r.Lines (postL (linesOf (j.Records.take k)) []) = postL (linesOf (j.Records.take (k + 1))) [] := by
          have post_append : ∀ (k k2 : List JournalLine) (b : Bal), postL (k ++ k2) b = postL k2 (postL k b) := by
            intro k
            induction k with
            | nil => intro _ _; rfl
            | cons x k ih => intro k2 b; rw [List.cons_append, postL, postL, ih]
          rw [take_at hr, ← post_append]; simp only [linesOf, List.flatMap_append, List.flatMap_cons, List.flatMap_nil, List.append_nil]
        rw [h5] at h4
        unfold fitsM at h4
        rw [Bool.not_eq_true', ← Bool.not_eq_true, List.any_eq_true] at h4
        cases h6 : within (bal (acc x) (postL (linesOf (j.Records.take (k + 1))) [])) with
        | true => rfl
        | false => exact absurd ⟨x, List.mem_of_getElem? hx, by rw [h6]; rfl⟩ h4
  unfold f4n8
  have e4 : acc x = ⟨x.Account, x.Ccy⟩ := rfl
  rw [e4] at e3
  simp only [within, Bool.and_eq_true, decide_eq_true_eq] at e3
  rw [e1] at e3
  rw [e1, e2]
  simp only [decide_true, cond_true]
  rw [decide_eq_false (show ¬ 1125899906842624 < sumF (fun y => Account_.eqb (acc x) (acc y)) (linesOf (j.Records.take (k + 1))) 0 by have := e3.2; omega),
    decide_eq_false (show ¬ sumF (fun y => Account_.eqb (acc x) (acc y)) (linesOf (j.Records.take (k + 1))) 0 < -1125899906842624 by have := e3.1; omega)]
  rfl
theorem f4n9_at {j : Journal} (hj : Valid j) {k : Nat} {r : JournalRecord} (hr : j.Records[k]? = some r) : ∀ (n f i : Nat), i + n = r.Lines.length → n < f → f4n9 f true (k : Int) j (linesOf (j.Records.take (k + 1))) (i : Int) = some .exit4
  | n, 0, _, _, hf => absurd hf (Nat.not_lt_zero _)
  | 0, f + 1, i, hi, hf => by
    rw [f4n9, at_nat, hr]
    simp only [Option.bind_some]
    rw [decide_eq_false (by omega)]; rfl
  | n + 1, f + 1, i, hi, hf => by
    have hl := (formed_small (open_formed hj.open.2.2 r (List.mem_of_getElem? hr)).1).2.2.2.2.1
    have hx : r.Lines[i]? = some r.Lines[i] := List.getElem?_eq_getElem (by omega)
    have hw : wr64 ((i : Int) + 1) = ((i + 1 : Nat) : Int) := wr64_of (by omega) (by omega)
    rw [f4n9, at_nat, hr]
    simp only [Option.bind_some]
    rw [decide_eq_true (by omega), f4n5_at hj hr hx]
    simp only [cond_true, Option.bind_some, hw]
    exact f4n9_at hj hr n f (i + 1) (by omega) (by omega)
theorem f4n2_at {j : Journal} (hj : Valid j) {k : Nat} (hk : k < j.Records.length) : f4n2 true (k : Int) j = some .norm := by
  obtain ⟨k1, k2, k3⟩ := hj.open
  have hr : j.Records[k]? = some j.Records[k] := List.getElem?_eq_getElem hk
  have hw : wr64 ((k : Int) + 1) = ((k + 1 : Nat) : Int) := wr64_of (by omega) (by omega)
  have hl := (formed_small (open_formed k3 _ (List.mem_of_getElem? hr)).1).2.2.2.2.1
  have hc : cutB 0 (((k + 1 : Nat) : Int)) j.Records.length = true := by
    simp only [cutB, Bool.and_eq_true, decide_eq_true_eq]; omega
  have hF : 100000 < FUEL := by unfold FUEL; decide
  have e1 := f4n4_at true hj k hk (k + 1) FUEL 0 (by omega) (by omega)
  have e2 := f4n9_at hj hr j.Records[k].Lines.length FUEL 0 (by omega) (by omega)
  simp only [Int.natCast_zero] at e1 e2
  unfold f4n2 f4n3
  rw [hw, show linesOf (List.take 0 j.Records) = [] from rfl] at *
  simp only [req, hc, cond_true]
  rw [e1]
  simp only [Option.bind_some]
  rw [e2]; rfl
theorem f4n10_at {j : Journal} (hj : Valid j) : ∀ (n f k : Nat), k + n = j.Records.length → n < f → f4n10 f true j (k : Int) = some .exit0
  | n, 0, _, _, hf => absurd hf (Nat.not_lt_zero _)
  | 0, f + 1, k, hk, hf => by rw [f4n10, decide_eq_false (by omega)]; rfl
  | n + 1, f + 1, k, hk, hf => by
    have hw : wr64 ((k : Int) + 1) = ((k + 1 : Nat) : Int) := wr64_of (by omega) (by have := hj.open.1; omega)
    rw [f4n10, decide_eq_true (by omega), f4n2_at hj (by omega)]
    simp only [cond_true, Option.bind_some, hw]
    exact f4n10_at hj n f (k + 1) (by omega) (by omega)
theorem zero_plain (x0 : List Entry) (ok0 : x0.length ≤ maxLen ∧ ∀ x ∈ x0, Entry.ok x) : f4 x0 = some true := by
  have hk : ∀ x ∈ x0, Ek x := fun x hx => by
    have := ok0.2 x hx
    exact ⟨this.2.1, this.2.2.1.1, fun y hy => ⟨(this.2.2.1.2 y hy).1, (this.2.2.1.2 y hy).2.1⟩⟩
  obtain ⟨b, hb, hb2⟩ := f23_at ok0.1 hk
  unfold f4 f4n0
  rw [alive_t, hb]
  simp only [Option.bind_some]
  cases b with
  | true => rfl
  | false =>
    obtain ⟨h60, h40⟩ := hb2 rfl
    obtain ⟨j, e, hj, hlen⟩ := f24_at ok0.1 fun x hx => ⟨hk x hx, h40 x hx⟩
    rw [e]
    simp only [cond_false, cond_true, Option.bind_some]
    rw [decide_eq_false (show ¬ ((x0.length : Int) < (j.Records.length : Int)) by omega)]
    have hF : 100000 < FUEL := by unfold FUEL; decide
    have := f4n10_at hj j.Records.length FUEL 0 (by omega) (by have := hj.open.1; omega)
    simp only [Int.natCast_zero] at this
    unfold f4n1
    rw [this]; rfl
end Go.Proofs.Ytbgjlpdeoljmiaa
