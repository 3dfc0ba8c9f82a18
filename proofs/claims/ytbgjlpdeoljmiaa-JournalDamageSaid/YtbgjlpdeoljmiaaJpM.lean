/- What the journal's functions give, in plain words: names, records, sums, books; adding, checking, copies. No condition. -/
import Derived.Test.YtbgjlpdeoljmiaaM5
namespace Go.Proofs.Ytbgjlpdeoljmiaa
set_option linter.unusedVariables false
set_option linter.unusedSimpArgs false
open Go.RowKit
theorem fit_small {n b : Nat} (h : n ≤ 1000000) (hb : b ≤ 1000000) : fit n b = true := by
  unfold fit
  have : n * b ≤ 1000000 * 1000000 := Nat.mul_le_mul h hb
  simp only [Bool.and_eq_true, Nat.ble_eq]
  omega
theorem seq_self (s : ByteArray) : seq s s = true := by simp [seq]
theorem lt_not (a b : Int) : decide (a < b) = !decide (b ≤ a) := by
  by_cases h : a < b
  · rw [decide_eq_true h, decide_eq_false (by omega)]; rfl
  · rw [decide_eq_false h, decide_eq_true (by omega)]; rfl
theorem dec_nat (a b : Nat) : decide ((a : Int) ≤ (b : Int)) = decide (a ≤ b) := by congr 1; apply propext; omega

def letterI (c : Int) : Bool := (decide (97 ≤ c) && decide (c ≤ 122)) || (decide (65 ≤ c) && decide (c ≤ 90))
def otherI (c : Int) : Bool := (decide (48 ≤ c) && decide (c ≤ 57)) || (decide (c = 95) || decide (c = 45))
theorem f70_eq (c : Int) : f70 c = some (letterI c) := by
  unfold f70 f70n0 letterI
  cases decide (97 ≤ c) <;> cases decide (c ≤ 122) <;> cases decide (65 ≤ c) <;> cases decide (c ≤ 90) <;> rfl
def charB (b : UInt8) : Bool := letterI b.toNat || otherI b.toNat
def isName (l : List UInt8) : Bool := match l with
  | [] => false
  | b :: r => decide (l.length ≤ 40) && (letterI b.toNat && r.all charB)
theorem f64n2L_at (bc : ByteArray) : ∀ (l : List UInt8) (v : Int), f64n2L bc l v = some (bif l.all charB then .exit0 else .ret)
  | [], v => rfl
  | b :: r, v => by
    rw [f64n2L, f70_eq]
    simp only [Option.bind_some, f64n2L_at bc r, lt_not, List.all_cons, charB, otherI]
    cases letterI b.toNat <;> cases decide ((48 : Int) ≤ (b.toNat : Int)) <;> cases decide ((b.toNat : Int) ≤ 57) <;> cases decide ((b.toNat : Int) = 95) <;> cases decide ((b.toNat : Int) = 45) <;> rfl
theorem f64_eq (s : ByteArray) (h : s.size ≤ maxLen) : f64 s = some (isName s.data.toList) := by
  have hs : s.data.toList.length ≤ maxLen := h
  unfold f64 f64n0 f64n1
  rw [f64n2_run s hs, f64n2L_at, size_list]
  generalize s.data.toList = l at hs
  cases l with
  | nil => rfl
  | cons b r =>
    have h1 : ¬ (((b :: r).length : Nat) : Int) < 1 := by simp; omega
    rw [decide_eq_false h1]
    have h0 : at? (b :: r) 0 = some b := rfl
    simp only [cond_false, h0, Option.bind_some, f70_eq, isName, List.all_cons, charB, lt_not]
    have h2 : decide ((((b :: r).length : Nat) : Int) ≤ 40) = decide ((b :: r).length ≤ 40) := by congr 1; apply propext; omega
    rw [h2]
    cases decide ((b :: r).length ≤ 40) <;> cases letterI b.toNat <;> cases r.all charB <;> rfl

def within (n : Int) : Bool := decide (-1125899906842624 ≤ n) && decide (n ≤ 1125899906842624)
theorem f65_eq (n : Int) : f65 n = some (within n) := by
  unfold f65 f65n0 within
  cases decide (-1125899906842624 ≤ n) <;> rfl
def badL (x : JournalLine) : Bool := !isName x.Account.data.toList || (!isName x.Ccy.data.toList || (decide (x.Amount = 0) || !within x.Amount))
def Lk (x : JournalLine) : Prop := x.Account.size ≤ maxLen ∧ x.Ccy.size ≤ maxLen
theorem f63_eq {x : JournalLine} (h : Lk x) : f63 x = some (badL x) := by
  unfold f63 f63n0 badL
  rw [f64_eq _ h.1, f64_eq _ h.2]
  simp only [Option.bind_some, f65_eq]
  cases isName x.Account.data.toList <;> cases isName x.Ccy.data.toList <;> cases decide (x.Amount = 0) <;> rfl
theorem f71_63n2L_at (bc : List JournalLine) : ∀ (l : List JournalLine) (v : Int), (∀ x ∈ l, Lk x) → (l.any badL = false ∧ f71_63n2L bc l v = some .exit0) ∨ (l.any badL = true ∧ ∃ k, v ≤ k ∧ f71_63n2L bc l v = some (.ret k))
  | [], v, _ => .inl ⟨rfl, rfl⟩
  | x :: r, v, h => by
    rw [f71_63n2L, f63_eq (h x (by simp))]
    simp only [Option.bind_some, List.any_cons]
    cases badL x with
    | true => exact .inr ⟨rfl, v, Int.le_refl _, rfl⟩
    | false =>
      rcases f71_63n2L_at bc r (v + 1) (fun y hy => h y (by simp [hy])) with ⟨h1, h2⟩ | ⟨h1, k, h2, h3⟩
      · exact .inl ⟨by simpa using h1, by simpa using h2⟩
      · exact .inr ⟨by simpa using h1, k, by omega, by simpa using h3⟩
theorem f66_63_eq {l : List JournalLine} (hl : l.length ≤ maxLen) (h : ∀ x ∈ l, Lk x) : f66_63 l = some (l.any badL) := by
  unfold f66_63 f66_63n0 f71_63 f71_63n0 f71_63n1
  rw [f71_63n2_run l hl]
  rcases f71_63n2L_at l l 0 h with ⟨h1, h2⟩ | ⟨h1, k, h2, h3⟩
  · rw [h2, h1]; rfl
  · rw [h3, h1]
    simp only [Option.bind_some]
    rw [decide_eq_true h2]
def textB (s : ByteArray) : Bool := (ofB s).all fun c => decide (32 ≤ c) && decide (c ≤ 126)
theorem f49n2L_at (bb : JournalRecord) : ∀ (l : List Int) (v : Int), f49n2L bb l v = some (bif l.all (fun c => decide (32 ≤ c) && decide (c ≤ 126)) then .exit0 else .ret)
  | [], v => rfl
  | c :: r, v => by
    rw [f49n2L]
    simp only [f49n2L_at bb r, lt_not, List.all_cons]
    cases decide (32 ≤ c) <;> cases decide (c ≤ 126) <;> rfl
def Rk (r : JournalRecord) : Prop := r.Text.size ≤ maxLen ∧ r.Lines.length ≤ maxLen ∧ ∀ x ∈ r.Lines, Lk x
def formedB (r : JournalRecord) : Bool := textB r.Text && (decide (0 ≤ r.Day) && (decide (r.Day ≤ 99999) && (decide (r.Text.size ≤ 100) && (decide (2 ≤ r.Lines.length) && (decide (r.Lines.length ≤ 20) && !r.Lines.any badL)))))
theorem len_ofB (s : ByteArray) : (ofB s).length = s.size := by simp [ofB]
theorem f49_eq {r : JournalRecord} (h : Rk r) : f49 r = some (formedB r) := by
  unfold f49 f49n0 f49n1 formedB textB
  have h1 : r.Text.size ≤ 9223372036854775807 := Nat.le_trans h.1 (by unfold maxLen; decide)
  have h2 : decide ((r.Text.size : Int) ≤ 100) = decide (r.Text.size ≤ 100) := dec_nat _ 100
  have h3 : decide ((2 : Int) ≤ (r.Lines.length : Int)) = decide (2 ≤ r.Lines.length) := dec_nat 2 _
  have h4 : decide ((r.Lines.length : Int) ≤ 20) = decide (r.Lines.length ≤ 20) := dec_nat _ 20
  rw [f49n2_run r (by rw [len_ofB]; exact h.1), f49n2L_at, h2, h3, h4, f66_63_eq h.2.1 h.2.2, decide_eq_true h1]
  simp only [req, cond_true, Option.bind_some]
  cases (ofB r.Text).all (fun c => decide (32 ≤ c) && decide (c ≤ 126)) <;> cases decide (0 ≤ r.Day) <;> cases decide (r.Day ≤ 99999) <;> cases decide (r.Text.size ≤ 100) <;> cases decide (2 ≤ r.Lines.length) <;> cases decide (r.Lines.length ≤ 20) <;> rfl
theorem formed_small {r : JournalRecord} (h : formedB r = true) : 0 ≤ r.Day ∧ r.Day ≤ 99999 ∧ r.Text.size ≤ 100 ∧ 2 ≤ r.Lines.length ∧ r.Lines.length ≤ 20 ∧ r.Lines.any badL = false := by
  simp only [formedB, Bool.and_eq_true, decide_eq_true_eq, Bool.not_eq_true'] at h
  exact ⟨h.2.1, h.2.2.1, h.2.2.2.1, h.2.2.2.2.1, h.2.2.2.2.2.1, h.2.2.2.2.2.2⟩

def sumsL : List JournalLine → List (ByteArray × Int) → List (ByteArray × Int)
  | [], m => m
  | x :: l, m => sumsL l (mPut seq x.Ccy (wr64 (mGet seq 0 x.Ccy m + x.Amount)) m)
theorem f50n2L_at (bb : JournalRecord) : ∀ (l : List JournalLine) (v : Int) (m : List (ByteArray × Int)), f50n2L bb l v m = some (.exit0 (sumsL l m))
  | [], v, m => rfl
  | x :: r, v, m => by rw [f50n2L, f50n2L_at bb r]; rfl
theorem f50n4_eq (be : List (ByteArray × Int)) : ∀ l : List (ByteArray × Int), f50n4 be l = some (bif l.all (fun x => decide (x.2 = 0)) then .exit2 else .ret)
  | [] => rfl
  | x :: r => by
    rw [f50n4, f50n4_eq be r, List.all_cons]
    cases decide (x.2 = 0) <;> rfl
def balB (r : JournalRecord) : Bool := (sumsL r.Lines []).all fun x => decide (x.2 = 0)
theorem f50_eq {r : JournalRecord} (h : r.Lines.length ≤ maxLen) : f50 r = some (balB r) := by
  unfold f50 f50n0 f50n1 f50n3
  rw [f50n2_run r _ h, f50n2L_at]
  simp only [Option.bind_some]
  have hp : ∀ p, p.Perm (sumsL r.Lines []) → f50n4 (sumsL r.Lines []) p = some (bif balB r then .exit2 else .ret) := fun p hp => by
    rw [f50n4_eq, hp.all_eq]; rfl
  rw [anyOrder_of hp]
  cases balB r <;> rfl

abbrev Bal := List (Account_ × Int)
def acc (x : JournalLine) : Account_ := ⟨x.Account, x.Ccy⟩
def bal (a : Account_) (b : Bal) : Int := mGet Account_.eqb 0 a b
def postL : List JournalLine → Bal → Bal
  | [], m => m
  | x :: l, m => postL l (mPut Account_.eqb (acc x) (wr64 (bal (acc x) m + x.Amount)) m)
def fitsM (l : List JournalLine) (b : Bal) : Bool := !l.any fun x => !within (bal (acc x) b)
theorem f71r1n2L_at (bc : List JournalLine) (d k : Int) (b : Bal) : ∀ (l : List JournalLine) (v : Int), (l.any (fun x => !within (bal (acc x) b)) = false ∧ f71r1n2L bc d k b l v = some .exit0) ∨ (l.any (fun x => !within (bal (acc x) b)) = true ∧ ∃ j, v ≤ j ∧ f71r1n2L bc d k b l v = some (.ret j))
  | [], v => .inl ⟨rfl, rfl⟩
  | x :: r, v => by
    have e : f69r1 x d k b = some (!within (bal (acc x) b)) := by unfold f69r1 f69r1n0; rw [f65_eq]; rfl
    rw [f71r1n2L, e]
    simp only [Option.bind_some, List.any_cons]
    cases within (bal (acc x) b) with
    | false => exact .inr ⟨rfl, v, Int.le_refl _, rfl⟩
    | true =>
      rcases f71r1n2L_at bc d k b r (v + 1) with ⟨h1, h2⟩ | ⟨h1, j, h2, h3⟩
      · exact .inl ⟨by simpa using h1, by simpa using h2⟩
      · exact .inr ⟨by simpa using h1, j, by omega, by simpa using h3⟩
theorem f61r1_eq {r : JournalRecord} (h : r.Lines.length ≤ maxLen) (d k : Int) (b : Bal) : f61r1 r d k b = some (fitsM r.Lines b) := by
  unfold f61r1 f61r1n0 f66r1 f66r1n0 f71r1 f71r1n0 f71r1n1 fitsM
  rw [f71r1n2_run _ _ _ _ h]
  rcases f71r1n2L_at r.Lines d k b r.Lines 0 with ⟨h1, h2⟩ | ⟨h1, j, h2, h3⟩
  · rw [h2, h1]; rfl
  · rw [h3, h1]
    simp only [Option.bind_some]
    rw [decide_eq_true h2]
theorem f71r2n2L_at (bc : List JournalLine) (d k : Int) (b : Bal) : ∀ (l : List JournalLine) (v : Int), (l.any (fun x => !within (bal (acc x) b)) = false ∧ f71r2n2L bc d k b l v = some .exit0) ∨ (l.any (fun x => !within (bal (acc x) b)) = true ∧ ∃ j, v ≤ j ∧ f71r2n2L bc d k b l v = some (.ret j))
  | [], v => .inl ⟨rfl, rfl⟩
  | x :: r, v => by
    have e : f69r1 x d k b = some (!within (bal (acc x) b)) := by unfold f69r1 f69r1n0; rw [f65_eq]; rfl
    rw [f71r2n2L, e]
    simp only [Option.bind_some, List.any_cons]
    cases within (bal (acc x) b) with
    | false => exact .inr ⟨rfl, v, Int.le_refl _, rfl⟩
    | true =>
      rcases f71r2n2L_at bc d k b r (v + 1) with ⟨h1, h2⟩ | ⟨h1, j, h2, h3⟩
      · exact .inl ⟨by simpa using h1, by simpa using h2⟩
      · exact .inr ⟨by simpa using h1, j, by omega, by simpa using h3⟩
theorem f61r2_eq {l : List JournalLine} (h : l.length ≤ maxLen) (d : Int) (t : ByteArray) (k : Int) (b : Bal) : f61r2 d t k l b = some (fitsM l b) := by
  unfold f61r2 f61r2n0 f66r2 f66r2n0 f71r2 f71r2n0 f71r2n1 fitsM
  rw [f71r2n2_run _ _ _ _ h]
  rcases f71r2n2L_at l d k b l 0 with ⟨h1, h2⟩ | ⟨h1, j, h2, h3⟩
  · rw [h2, h1]; rfl
  · rw [h3, h1]
    simp only [Option.bind_some]
    rw [decide_eq_true h2]
def addS (r : JournalRecord) (d m : Int) (b : Bal) : Bool × Int × Int × Bal :=
  bif decide (m = 200) || (!formedB r || (!balB r || decide (r.Day < d))) then (false, d, m, b) else (fitsM r.Lines (postL r.Lines b), r.Day, wr64 (m + 1), postL r.Lines b)
theorem f44r2n2L_at (bb : JournalRecord) (d m : Int) : ∀ (l : List JournalLine) (v : Int) (b : Bal), f44r2n2L bb d m l v b = some (.exit0 (postL l b))
  | [], v, b => rfl
  | x :: r, v, b => by rw [f44r2n2L, f44r2n2L_at bb d m r]; rfl
theorem f44r2_eq {r : JournalRecord} (h : Rk r) (d m : Int) (b : Bal) : f44r2 r d m b = some (addS r d m b) := by
  unfold f44r2 f44r2n0 f44r2n1 addS
  rw [f49_eq h, f50_eq h.2.1, f44r2n2_run _ _ _ _ h.2.1, f44r2n2L_at]
  simp only [Option.bind_some, f61r1_eq h.2.1]
  cases decide (m = 200) <;> cases formedB r <;> cases balB r <;> cases decide (r.Day < d) <;> rfl
theorem f44r3n2L_at (bc : List JournalLine) (a b' c : Int) (t : ByteArray) : ∀ (l : List JournalLine) (v : Int) (b : Bal), f44r3n2L bc a b' c t l v b = some (.exit0 (postL l b))
  | [], v, b => rfl
  | x :: r, v, b => by rw [f44r3n2L, f44r3n2L_at bc a b' c t r]; rfl
theorem f44r3_eq {r : JournalRecord} (h : Rk r) (d m : Int) (b : Bal) : f44r3 r.Day r.Text d m r.Lines b = some (addS r d m b) := by
  unfold f44r3 f44r3n0 f44r3n1 addS
  have e : (JournalRecord.mk r.Day r.Text r.Lines) = r := rfl
  rw [e, f49_eq h, f50_eq h.2.1, f44r3n2_run _ _ _ _ _ _ h.2.1, f44r3n2L_at]
  simp only [Option.bind_some, f61r2_eq h.2.1]
  cases decide (m = 200) <;> cases formedB r <;> cases balB r <;> cases decide (r.Day < d) <;> rfl
theorem add_true {r : JournalRecord} {d m : Int} {b : Bal} (h : (addS r d m b).1 = true) : m ≠ 200 ∧ formedB r = true ∧ balB r = true ∧ d ≤ r.Day ∧ fitsM r.Lines (postL r.Lines b) = true ∧ (addS r d m b).2 = (r.Day, wr64 (m + 1), postL r.Lines b) := by
  unfold addS at h ⊢
  cases hc : decide (m = 200) || (!formedB r || (!balB r || decide (r.Day < d))) with
  | true => rw [hc] at h; cases h
  | false =>
    rw [hc] at h
    simp only [cond_false] at h ⊢
    simp only [Bool.or_eq_false_iff, decide_eq_false_iff_not, Bool.not_eq_false'] at hc
    exact ⟨hc.1, hc.2.1, hc.2.2.1, by omega, h, trivial⟩
def openL : List JournalRecord → Int → Int → Bal → Bool × Int × Int × Bal
  | [], d, m, b => (true, d, m, b)
  | r :: l, d, m, b => bif (addS r d m b).1 then openL l (addS r d m b).2.1 (addS r d m b).2.2.1 (addS r d m b).2.2.2 else (false, (addS r d m b).2)
theorem f47r1n2L_at (ba : Journal) : ∀ (l : List JournalRecord) (v d m : Int) (b : Bal), (∀ r ∈ l, Rk r) →
    f47r1n2L ba l v d m b = some (bif (openL l d m b).1 then .exit0 (openL l d m b).2.1 (openL l d m b).2.2.1 (openL l d m b).2.2.2 else .ret (openL l d m b).2.1 (openL l d m b).2.2.1 (openL l d m b).2.2.2)
  | [], v, d, m, b, _ => rfl
  | r :: l, v, d, m, b, h => by
    rw [f47r1n2L, f44r2_eq (h r (by simp)), openL]
    simp only [Option.bind_some]
    cases hx : (addS r d m b).1 with
    | true => simp only [cond_true]; exact f47r1n2L_at ba l _ _ _ _ fun y hy => h y (by simp [hy])
    | false => rfl
def openS (j : Journal) : Bool × Int × Int × Bal := bif decide (200 < j.Records.length) then (false, 0, 0, []) else openL j.Records 0 0 []
def Jk (j : Journal) : Prop := j.Records.length ≤ maxLen ∧ ∀ r ∈ j.Records, Rk r
theorem f47r1_eq {j : Journal} (h : Jk j) : f47r1 j = some (openS j) := by
  unfold f47r1 f47r1n0 f47r1n1 openS
  rw [f47r1n2_run _ _ _ _ h.1, f47r1n2L_at _ _ _ _ _ _ h.2]
  have e : decide ((200 : Int) < (j.Records.length : Int)) = decide (200 < j.Records.length) := by congr 1; apply propext; omega
  rw [e]
  generalize openL j.Records 0 0 [] = x
  obtain ⟨a, d, m, b⟩ := x
  cases decide (200 < j.Records.length) <;> cases a <;> rfl
theorem f28_eq {j : Journal} (h : Jk j) : f28 j = some (bif (openS j).1 then 0 else 8) := by
  unfold f28 f28n0
  rw [f47r1_eq h]
  simp only [Option.bind_some]
  cases (openS j).1 <;> rfl
theorem open_append : ∀ (l k : List JournalRecord) (d m : Int) (b : Bal), openL (l ++ k) d m b = bif (openL l d m b).1 then openL k (openL l d m b).2.1 (openL l d m b).2.2.1 (openL l d m b).2.2.2 else openL l d m b
  | [], k, d, m, b => rfl
  | r :: l, k, d, m, b => by
    rw [List.cons_append, openL, openL, open_append l k]
    cases (addS r d m b).1 <;> rfl
theorem open_pre {l k : List JournalRecord} {d m : Int} {b : Bal} (h : (openL (l ++ k) d m b).1 = true) : (openL l d m b).1 = true := by
  rw [open_append] at h
  cases hx : (openL l d m b).1 with
  | true => rfl
  | false => rw [hx] at h; simp only [cond_false] at h; rw [hx] at h; cases h
theorem open_formed : ∀ {l : List JournalRecord} {d m : Int} {b : Bal}, (openL l d m b).1 = true → ∀ r ∈ l, formedB r = true ∧ balB r = true
  | [], _, _, _, _, r, hr => by cases hr
  | x :: l, d, m, b, h, r, hr => by
    rw [openL] at h
    cases hx : (addS x d m b).1 with
    | false => rw [hx] at h; cases h
    | true =>
      rw [hx] at h
      rcases List.mem_cons.1 hr with rfl | hr
      · have := add_true hx; exact ⟨this.2.1, this.2.2.1⟩
      · exact open_formed h r hr
theorem open_many : ∀ {l : List JournalRecord} {d m : Int} {b : Bal}, (openL l d m b).1 = true → 0 ≤ m → m ≤ 200 → (openL l d m b).2.2.1 = m + (l.length : Int) ∧ m + (l.length : Int) ≤ 200
  | [], d, m, b, _, h0, h1 => ⟨by simp [openL], by simpa using h1⟩
  | x :: l, d, m, b, h, h0, h1 => by
    rw [openL] at h ⊢
    cases hx : (addS x d m b).1 with
    | false => rw [hx] at h; cases h
    | true =>
      rw [hx] at h
      have ha := add_true hx
      simp only [cond_true] at h ⊢
      rw [ha.2.2.2.2.2] at h ⊢
      have hw : wr64 (m + 1) = m + 1 := IntWalk.i64_in _ ⟨by omega, by omega⟩
      simp only [hw] at h ⊢
      have hm := ha.1
      obtain ⟨k1, k2⟩ := open_many h (by omega) (by omega)
      simp only [List.length_cons]
      exact ⟨by rw [k1]; omega, by omega⟩
def daysOK : Int → List JournalRecord → Prop
  | _, [] => True
  | d, r :: l => d ≤ r.Day ∧ daysOK r.Day l
theorem open_days : ∀ {l : List JournalRecord} {d m : Int} {b : Bal}, (openL l d m b).1 = true → daysOK d l
  | [], _, _, _, _ => trivial
  | x :: l, d, m, b, h => by
    rw [openL] at h
    cases hx : (addS x d m b).1 with
    | false => rw [hx] at h; cases h
    | true =>
      rw [hx] at h
      have ha := add_true hx
      simp only [cond_true, ha.2.2.2.2.2] at h
      exact ⟨ha.2.2.2.1, open_days h⟩
def Valid (j : Journal) : Prop := Jk j ∧ (openS j).1 = true
theorem Valid.open {j : Journal} (h : Valid j) : j.Records.length ≤ 200 ∧ openS j = openL j.Records 0 0 [] ∧ (openL j.Records 0 0 []).1 = true := by
  have h2 := h.2
  unfold openS at h2 ⊢
  cases hc : decide (200 < j.Records.length) with
  | true => rw [hc] at h2; cases h2
  | false => rw [hc] at h2; exact ⟨by simpa using hc, rfl, h2⟩
theorem Valid.of {j : Journal} (h : Jk j) (hl : (openL j.Records 0 0 []).1 = true) : Valid j := by
  refine ⟨h, ?_⟩
  have := (open_many hl (Int.le_refl _) (by decide)).2
  unfold openS
  rw [decide_eq_false (by omega)]; exact hl
theorem Valid.nil : Valid ⟨[]⟩ := Valid.of ⟨Nat.zero_le _, fun r hr => by cases hr⟩ rfl
theorem Valid.pre {l k : List JournalRecord} (h : Valid ⟨l ++ k⟩) : Valid ⟨l⟩ := by
  refine Valid.of ⟨?_, fun r hr => h.1.2 r (List.mem_append_left _ hr)⟩ (open_pre h.open.2.2)
  have := h.1.1
  simp only [List.length_append] at this
  show l.length ≤ maxLen
  omega

theorem f48r1_eq {l : List JournalLine} (h : l.length ≤ 1000000) : f48r1 l = some l := by
  unfold f48r1 f48r1n0
  cases l with
  | nil => rfl
  | cons x l =>
    simp only [List.isEmpty_cons, cond_false, req, fit_small h (show 40 ≤ 1000000 by omega), cond_true]; rfl
theorem f51r1n2L_at (bi : List JournalRecord) : ∀ (l : List JournalRecord) (v : Int) (a : List JournalRecord), (∀ r ∈ l, r.Lines.length ≤ 1000000) → a.length + l.length ≤ 1000 → f51r1n2L bi l v a = some (.exit0 (a ++ l))
  | [], v, a, _, _ => by rw [f51r1n2L, List.append_nil]
  | r :: l, v, a, h, hl => by
    simp only [List.length_cons] at hl
    rw [f51r1n2L, f48r1_eq (h r (by simp))]
    simp only [Option.bind_some, req, fit_small (show a.length + 1 ≤ 1000000 by omega) (show 48 ≤ 1000000 by omega), cond_true]
    rw [f51r1n2L_at bi l _ _ (fun y hy => h y (by simp [hy])) (by simp; omega), List.append_assoc]; rfl
theorem f51r1_eq {l : List JournalRecord} (h : ∀ r ∈ l, r.Lines.length ≤ 1000000) (hl : l.length ≤ 1000) : f51r1 l = some l := by
  unfold f51r1 f51r1n0 f51r1n1
  rw [f51r1n2_run _ _ (Nat.le_trans hl (by unfold maxLen; decide)), f51r1n2L_at _ _ _ _ h (by simpa using hl)]; rfl

def errA (j : Journal) (r : JournalRecord) : Int :=
  bif (openS j).1 then bif formedB r then bif balB r then bif decide (r.Day < (openS j).2.1) then 40 else bif decide ((openS j).2.2.1 = 200) then 22 else bif (addS r (openS j).2.1 (openS j).2.2.1 (openS j).2.2.2).1 then 0 else 14 else 60 else 2 else 8
theorem errA_zero {j : Journal} {r : JournalRecord} (h : errA j r = 0) : (openS j).1 = true ∧ (addS r (openS j).2.1 (openS j).2.2.1 (openS j).2.2.2).1 = true := by
  unfold errA at h
  cases h1 : (openS j).1 <;> rw [h1] at h <;> first | (simp at h; done) | skip
  cases h2 : formedB r <;> rw [h2] at h <;> first | (simp at h; done) | skip
  cases h3 : balB r <;> rw [h3] at h <;> first | (simp at h; done) | skip
  cases h4 : decide (r.Day < (openS j).2.1) <;> rw [h4] at h <;> first | (simp at h; done) | skip
  cases h5 : decide ((openS j).2.2.1 = 200) <;> rw [h5] at h <;> first | (simp at h; done) | skip
  cases h6 : (addS r (openS j).2.1 (openS j).2.2.1 (openS j).2.2.2).1 <;> rw [h6] at h <;> first | (simp at h; done) | skip
  exact ⟨rfl, rfl⟩
theorem Valid.add {j : Journal} {r : JournalRecord} (hj : Jk j) (hr : Rk r) (h : errA j r = 0) : Valid ⟨j.Records ++ [r]⟩ := by
  obtain ⟨h1, h2⟩ := errA_zero h
  have hg : Valid j := ⟨hj, h1⟩
  obtain ⟨k1, k2, k3⟩ := hg.open
  rw [k2] at h2
  refine Valid.of ⟨?_, fun y hy => ?_⟩ ?_
  · show (j.Records ++ [r]).length ≤ maxLen
    simp only [List.length_append, List.length_cons, List.length_nil]
    have : 1000 ≤ maxLen := by unfold maxLen; decide
    omega
  · rcases List.mem_append.1 hy with hy | hy
    · exact hj.2 y hy
    · rw [List.mem_singleton.1 hy]; exact hr
  · show (openL (j.Records ++ [r]) 0 0 []).1 = true
    rw [open_append, k3]
    simp only [cond_true, openL, h2]
theorem f30_eq {j : Journal} {r : JournalRecord} (hj : Jk j) (hr : Rk r) (hl : r.Lines.length ≤ 1000000) :
    f30 j r.Day r.Text r.Lines = some (bif decide (errA j r = 0) then (⟨j.Records ++ [r]⟩, 0) else (⟨[]⟩, errA j r)) := by
  unfold f30 f30n0 f30n1
  have e : (JournalRecord.mk r.Day r.Text r.Lines) = r := rfl
  rw [f48r1_eq hl, f47r1_eq hj]
  simp only [Option.bind_some, e, f49_eq hr, f50_eq hr.2.1, f44r3_eq hr]
  have key : ∀ o : Int, o = errA j r → ((some (f30n1O.norm o)).bind fun o50 => match o50 with
      | .norm v52 => bif (decide (v52 = 0)) then (f51r1 j.Records).bind fun x58 => req (fit (x58.length + 1) 48) <| some (f30n0O.ret 0 (x58 ++ [r])) else some (.ret v52 [])) = some (bif decide (errA j r = 0) then .ret 0 (j.Records ++ [r]) else .ret (errA j r) []) := by
    rintro o rfl
    simp only [Option.bind_some]
    cases hd : decide (errA j r = 0) with
    | false => rfl
    | true =>
      have h0 := of_decide_eq_true hd
      have hg : Valid j := ⟨hj, (errA_zero h0).1⟩
      obtain ⟨k1, k2, k3⟩ := hg.open
      simp only [cond_true]
      rw [f51r1_eq (fun y hy => by have := formed_small (open_formed k3 y hy).1; omega) (by omega)]
      simp only [Option.bind_some, req, fit_small (show j.Records.length + 1 ≤ 1000000 by omega) (show 48 ≤ 1000000 by omega), cond_true]
  have main : (bif (openS j).1 then bif formedB r then bif balB r then bif decide (r.Day < (openS j).2.1) then some (f30n1O.norm 40) else bif decide ((openS j).2.2.1 = 200) then some (.norm 22) else bif (addS r (openS j).2.1 (openS j).2.2.1 (openS j).2.2.2).1 then some (.norm 0) else some (.norm 14) else some (.norm 60) else some (.norm 2) else some (.norm 8)) = some (f30n1O.norm (errA j r)) := by
    unfold errA
    cases (openS j).1 <;> cases formedB r <;> cases balB r <;> cases decide (r.Day < (openS j).2.1) <;> cases decide ((openS j).2.2.1 = 200) <;> cases (addS r (openS j).2.1 (openS j).2.2.1 (openS j).2.2.2).1 <;> rfl
  rw [main, key _ rfl]
  cases decide (errA j r = 0) <;> rfl
end Go.Proofs.Ytbgjlpdeoljmiaa
