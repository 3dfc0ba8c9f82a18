/- Several texts in one. No condition. -/
import Derived.Test.YtelblamgfbkhbaaVb
namespace Go.Proofs.Ytelblamgfbkhbaa
set_option linter.unusedVariables false
set_option linter.unusedSimpArgs false
open Go.RowKit
def okAt : Int → UInt8 → Bool := fun k b => letterI b.toNat || (otherI b.toNat && !decide (k = 0))
theorem f49n2_eq {s : ByteArray} {k : Nat} {b : UInt8} (h : s.data.toList[k]? = some b) : f49n2 s (k : Int) = some (bif okAt (k : Int) b then .norm else .ret) := by
 have h3 : f49n3 s (k : Int) b = some (.norm (letterI b.toNat)) := by
  unfold f49n3 letterI
  cases decide ((97 : Int) ≤ (b.toNat : Int)) <;> cases decide ((b.toNat : Int) ≤ 122) <;> cases decide ((65 : Int) ≤ (b.toNat : Int)) <;> cases decide ((b.toNat : Int) ≤ 90) <;> rfl
 have h4 : ∀ c, f49n4 s (k : Int) b c = some (.norm (otherI b.toNat)) := fun c => by
  unfold f49n4 otherI
  cases decide ((48 : Int) ≤ (b.toNat : Int)) <;> cases decide ((b.toNat : Int) ≤ 57) <;> cases decide ((b.toNat : Int) = 95) <;> cases decide ((b.toNat : Int) = 45) <;> rfl
 have h5 : f49n5 s (k : Int) (letterI b.toNat) (otherI b.toNat) = some (.norm (!(okAt (k : Int) b))) := by
  unfold f49n5 okAt
  cases letterI b.toNat <;> cases otherI b.toNat <;> cases decide ((k : Int) = 0) <;> rfl
 unfold f49n2
 rw [Qao, h]
 simp only [Option.bind_some, h3, h4, h5]
 cases okAt (k : Int) b <;> rfl
def allAt : Nat → List UInt8 → Bool
 | _, [] => true
 | k, b :: r => okAt (k : Int) b && allAt (k + 1) r
theorem f49n6_at (s : ByteArray) (hs : s.size ≤ 1000) : ∀ (r : List UInt8) (f k : Nat), s.data.toList.drop k = r → r.length < f → f49n6 f s (k : Int) = some (bif allAt k r then .exit0 else .ret)
 | _, 0, _, _, h => absurd h (Nat.not_lt_zero _)
 | [], f + 1, k, hd, _ => by
  have := Qat hd
  rw [f49n6, size_list', decide_eq_false (by omega), cond_false]; rfl
 | b :: r, f + 1, k, hd, hf => by
  obtain ⟨h1, h2, h3⟩ := drop_at hd
  rw [size_list'] at hs
  rw [f49n6, size_list', decide_eq_true (by omega), cond_true, f49n2_eq (by rw [← Qao]; exact h1), allAt]
  cases okAt (k : Int) b with
  | false => rfl
  | true =>
   simp only [cond_true, Option.bind_some, Bool.true_and]
   rw [wr_succ (by omega)]
   exact f49n6_at s (by rw [size_list']; exact hs) r f (k + 1) h3 (by simpa using hf)
theorem allAt_pos : ∀ (r : List UInt8) (k : Nat), allAt (k + 1) r = r.all charB
 | [], k => rfl
 | b :: r, k => by
  rw [allAt, allAt_pos r (k + 1), List.all_cons, okAt, charB, decide_eq_false (by omega : ¬ ((k + 1 : Nat) : Int) = 0)]
  simp
theorem f49_eq (s : ByteArray) : f49 s = some (nameB s) := by
 unfold f49 f49n0 nameB
 rw [size_list']
 by_cases hs : s.data.toList.length ≤ 40
 ·have h1 : f49n1 s = some (bif allAt 0 s.data.toList then .norm else .ret) := by
   unfold f49n1
   have := f49n6_at s (by rw [size_list']; omega) s.data.toList FUEL 0 List.drop_zero (Qbp (Nat.le_trans hs (by unfold maxLen; decide)))
   rw [show ((0 : Nat) : Int) = 0 from rfl] at this
   rw [this]
   cases allAt 0 s.data.toList <;> rfl
  rw [h1]
  generalize s.data.toList = l at hs
  rw [decide_eq_false (by omega : ¬ (40 : Int) < (l.length : Int))]
  cases l with
  | nil => rfl
  | cons b r =>
   rw [decide_eq_false (by simp; omega : ¬ (((b :: r).length : Nat) : Int) < 1)]
   simp only [cond_false, allAt, allAt_pos, okAt, isName, decide_eq_true hs, Bool.true_and]
   cases letterI b.toNat <;> cases otherI b.toNat <;> cases r.all charB <;> rfl
 ·rw [decide_eq_false (by omega : ¬ ((s.data.toList.length : Nat) : Int) < 1), decide_eq_true (by omega : (40 : Int) < ((s.data.toList.length : Nat) : Int))]
  have : isName s.data.toList = false := by
   generalize s.data.toList = l at hs
   cases l with
   | nil => rfl
   | cons b r => simp only [isName, decide_eq_false hs, Bool.false_and]
  rw [this]; rfl
theorem f48_eq (s : ByteArray) : f48 s = some (partyB s) := by
 unfold f48 f48n0 partyB
 rw [f49_eq]
 cases nameB s <;> cases seq s str_house <;> rfl
theorem f55_eq (x : VP) : f55 x = some (Qcr x) := by
 have h2 : f55n2 x = some (.norm (!(partyB x.Member && (nameB x.Product && !Qca x)))) := by
  unfold f55n2 Qca
  rw [f48_eq, f49_eq]
  cases partyB x.Member <;> cases nameB x.Product <;> cases decide (x.Quantity = 0) <;> cases decide (x.Basis = 0) <;> rfl
 unfold f55 f55n0 f55n1 Qcr inR
 rw [h2]
 cases partyB x.Member <;> cases nameB x.Product <;> cases Qca x <;> cases decide (-1048576 ≤ x.Quantity) <;> cases decide (x.Quantity ≤ 1048576) <;> cases decide (-1125899906842624 ≤ x.Basis) <;> cases decide (x.Basis ≤ 1125899906842624) <;> rfl
theorem f56_eq (a b : VP) : f56 a b = some (Qaf a b) := by
 unfold f56 f56n0 Qaf
 cases slt a.Member b.Member <;> cases seq a.Member b.Member <;> rfl

theorem f34n2L_at (s : Qd) : ∀ (l pre : List VP), s.Positions = pre ++ l → s.Positions.length ≤ 1000 → f34n2L s l ((pre.length : Nat) : Int) = some (bif okL pre.getLast? l then .exit0 else .ret)
 | [], pre, _, _ => rfl
 | x :: r, pre, h, hb => by
  have ih := f34n2L_at s r (pre ++ [x]) (by rw [h]; simp) hb
  rw [List.length_append, List.getLast?_concat, show (((pre.length + [x].length : Nat)) : Int) = (pre.length : Int) + 1 from by simp] at ih
  rw [f34n2L, f55_eq, ih, okL]
  simp only [Option.bind_some]
  rcases List.eq_nil_or_concat pre with rfl | ⟨q, y, rfl⟩
  ·simp only [List.length_nil, Int.natCast_zero, List.getLast?_nil, ordAt, Bool.true_and]
   rw [decide_eq_false (by omega : ¬ (0 : Int) < 0)]
   cases Qcr x <;> cases okL (some x) r <;> rfl
  ·rw [List.concat_eq_append] at h ⊢
   have hne : (0 : Int) < (((q ++ [y]).length : Nat) : Int) := by simp
   have hlen : q.length + 1 ≤ 1000 := by rw [h] at hb; simp at hb; omega
   have hw : wr64 ((((q ++ [y]).length : Nat) : Int) - 1) = ((q.length : Nat) : Int) := w64 (by simp) (by omega) (by omega)
   have hat : at? s.Positions ((q.length : Nat) : Int) = some y := by rw [Qao, h]; simp
   rw [decide_eq_true hne, hw, hat, List.getLast?_concat]
   simp only [cond_true, Option.bind_some, f56_eq, ordAt]
   cases Qcr x <;> cases Qaf y x <;> cases okL (some x) r <;> rfl
theorem f34n6L_eq' {s : Qd} {k : Int} {o : VP} (ho : at? s.Positions k = some o) : ∀ (l : List VP) (q b v : Int), f34n6L k s l (wr64 q) (wr64 b) v = some (.exit4 (wr64 (q + sm (wq o.Product) l)) (wr64 (b + sm (wb o.Product) l)))
 | [], q, b, v => by simp [f34n6L, sm]
 | x :: r, q, b, v => by
  rw [f34n6L, ho]
  simp only [Option.bind_some]
  cases h : seq x.Product o.Product with
  | true =>
   rw [cond_true, wr_l, wr_l, f34n6L_eq' ho r]
   simp only [sm, wq, wb, h, cond_true, Int.add_assoc]
  | false =>
   rw [cond_false, f34n6L_eq' ho r]
   simp only [sm, wq, wb, h, cond_false, Int.zero_add]
def flatAt (l : List VP) (o : VP) : Bool := decide (wr64 (sm (wq o.Product) l) = 0) && decide (wr64 (sm (wb o.Product) l) = 0)
theorem f34n4_eq' {s : Qd} (hl : s.Positions.length ≤ 1000) {k : Nat} {o : VP} (ho : s.Positions[k]? = some o) : f34n4 (k : Int) s = some (bif flatAt s.Positions o then .norm else .ret) := by
 have hat : at? s.Positions (k : Int) = some o := by rw [Qao]; exact ho
 have h6 := f34n6L_eq' hat s.Positions 0 0 0
 rw [Int.zero_add, Int.zero_add] at h6
 have h6' : f34n6L (k : Int) s s.Positions 0 0 0 = some (.exit4 (wr64 (sm (wq o.Product) s.Positions)) (wr64 (sm (wb o.Product) s.Positions))) := h6
 unfold f34n4 f34n5 flatAt
 rw [f34n6_run (k : Int) s 0 0 (Nat.le_trans hl (by unfold maxLen; decide)), h6']
 simp only [Option.bind_some, f34n7]
 cases decide (wr64 (sm (wq o.Product) s.Positions) = 0) <;> cases decide (wr64 (sm (wb o.Product) s.Positions) = 0) <;> rfl
theorem f34n8_at {s : Qd} (hl : s.Positions.length ≤ 1000) : ∀ (r : List VP) (f k : Nat), s.Positions.drop k = r → r.length < f → f34n8 f s (k : Int) = some (bif r.all (flatAt s.Positions) then .exit2 else .ret)
 | _, 0, _, _, h => absurd h (Nat.not_lt_zero _)
 | [], f + 1, k, hd, _ => by
  have := Qat hd
  rw [f34n8, decide_eq_false (by omega), cond_false]; rfl
 | x :: r, f + 1, k, hd, hf => by
  obtain ⟨h1, h2, h3⟩ := drop_at hd
  rw [f34n8, decide_eq_true (by omega), cond_true, f34n4_eq' hl (by rw [← Qao]; exact h1), List.all_cons]
  cases flatAt s.Positions x with
  | false => rfl
  | true =>
   simp only [cond_true, Option.bind_some, Bool.true_and]
   rw [wr_succ (by omega)]
   exact f34n8_at hl r f (k + 1) h3 (by simpa using hf)
theorem sm_zero {w : VP → Int} : ∀ {l : List VP}, (∀ x ∈ l, w x = 0) → sm w l = 0
 | [], _ => rfl
 | x :: r, h => by rw [sm, h x List.mem_cons_self, sm_zero fun y hy => h y (List.mem_cons_of_mem _ hy)]; rfl
theorem flat_iff {l : List VP} (h : ∀ x ∈ l, Qcr x = true) (hl : l.length ≤ 200) : l.all (flatAt l) = true ↔ Flat l := by
 rw [List.all_eq_true]
 constructor
 ·intro ha p
  by_cases hp : ∃ x ∈ l, x.Product = p
  ·obtain ⟨x, hx, rfl⟩ := hp
   have := ha x hx
   unfold flatAt at this
   rw [Bool.and_eq_true, decide_eq_true_eq, decide_eq_true_eq] at this
   have h2 := wq_bound h hl x.Product
   have h3 := wb_bound h hl x.Product
   rw [wr_in (by omega) (by omega), wr_in (by omega) (by omega)] at this
   exact this
  ·have hn : ∀ x ∈ l, seq x.Product p = false := fun x hx => seq_f fun e => hp ⟨x, hx, e⟩
   exact ⟨sm_zero fun x hx => by unfold wq; rw [hn x hx]; rfl, sm_zero fun x hx => by unfold wb; rw [hn x hx]; rfl⟩
 ·intro hf x hx
  unfold flatAt
  rw [(hf x.Product).1, (hf x.Product).2]; rfl
theorem f34_eq (s : Qd) : f34 s = some (bif checkB s then 0 else 8) := by
 unfold f34 f34n0 checkB
 rw [Qbl, Qbl, Qbl, show decide ((s.Positions.length : Int) ≤ 200) = decide (s.Positions.length ≤ 200) from dec_nat _ 200]
 by_cases hl : s.Positions.length ≤ 200
 ·have h1 : f34n1 s = some (bif okL none s.Positions then .norm else .ret) := by
   unfold f34n1
   rw [f34n2_run s (Nat.le_trans hl (by unfold maxLen; decide))]
   have := f34n2L_at s s.Positions [] rfl (by omega)
   rw [show (((([] : List VP).length : Nat)) : Int) = 0 from rfl, List.getLast?_nil] at this
   rw [this]
   cases okL none s.Positions <;> rfl
  rw [h1, decide_eq_true hl]
  cases ho : okL none s.Positions with
  | false => cases decide (0 ≤ s.Day) <;> cases decide (s.Day ≤ 99999) <;> rfl
  | true =>
   have hg := (okL_none.1 ho).2
   have h3 : f34n3 s = some (bif zeroM (accL s.Positions []) then .norm else .ret) := by
    have := f34n8_at (s := s) (by omega) s.Positions FUEL 0 List.drop_zero (Qbp (Nat.le_trans hl (by unfold maxLen; decide)))
    rw [show ((0 : Nat) : Int) = 0 from rfl] at this
    unfold f34n3
    rw [this]
    have e : s.Positions.all (flatAt s.Positions) = zeroM (accL s.Positions []) := by
     rw [Bool.eq_iff_iff, flat_iff hg hl, zeroM_iff hg hl]
    rw [e]
    cases zeroM (accL s.Positions []) <;> rfl
   simp only [cond_true, Option.bind_some, h3]
   cases decide (0 ≤ s.Day) <;> cases decide (s.Day ≤ 99999) <;> cases zeroM (accL s.Positions []) <;> rfl
 ·rw [decide_eq_false hl]
  cases decide (0 ≤ s.Day) <;> cases decide (s.Day ≤ 99999) <;> rfl

theorem f41n2L_at (s : List PR_) : ∀ (l pre : List PR_), s = pre ++ l → s.length ≤ 1000 → f41n2L s l ((pre.length : Nat) : Int) = some (bif pOk pre.getLast? l then .exit0 else .ret)
 | [], pre, _, _ => rfl
 | x :: r, pre, h, hb => by
  have ih := f41n2L_at s r (pre ++ [x]) (by rw [h]; simp) hb
  rw [List.length_append, List.getLast?_concat, show (((pre.length + [x].length : Nat)) : Int) = (pre.length : Int) + 1 from by simp] at ih
  rw [f41n2L, Qbl x.Price, Qbl 536870912, f49_eq, ih, pOk, inR]
  simp only [Option.bind_some]
  rcases List.eq_nil_or_concat pre with rfl | ⟨q, y, rfl⟩
  ·simp only [List.length_nil, Int.natCast_zero, List.getLast?_nil, pAt, Bool.true_and]
   rw [decide_eq_false (by omega : ¬ (0 : Int) < 0)]
   cases nameB x.Product <;> cases decide (-536870912 ≤ x.Price) <;> cases decide (x.Price ≤ 536870912) <;> cases pOk (some x) r <;> rfl
  ·rw [List.concat_eq_append] at h ⊢
   have hne : (0 : Int) < (((q ++ [y]).length : Nat) : Int) := by simp
   have hlen : q.length + 1 ≤ 1000 := by rw [h] at hb; simp at hb; omega
   have hw : wr64 ((((q ++ [y]).length : Nat) : Int) - 1) = ((q.length : Nat) : Int) := w64 (by simp) (by omega) (by omega)
   have hat : at? s ((q.length : Nat) : Int) = some y := by rw [Qao, h]; simp
   rw [decide_eq_true hne, hw, hat, List.getLast?_concat]
   simp only [cond_true, Option.bind_some, pAt]
   cases nameB x.Product <;> cases slt y.Product x.Product <;> cases decide (-536870912 ≤ x.Price) <;> cases decide (x.Price ≤ 536870912) <;> cases pOk (some x) r <;> rfl
theorem f41_eq (ps : List PR_) : f41 ps = some (Qbh ps) := by
 unfold f41 f41n0 Qbh
 rw [Qbl, show decide ((ps.length : Int) ≤ 200) = decide (ps.length ≤ 200) from dec_nat _ 200]
 by_cases hl : ps.length ≤ 200
 ·have h1 : f41n1 ps = some (bif pOk none ps then .norm else .ret) := by
   unfold f41n1
   rw [f41n2_run ps (Nat.le_trans hl (by unfold maxLen; decide))]
   have := f41n2L_at ps ps [] rfl (by omega)
   rw [show (((([] : List PR_).length : Nat)) : Int) = 0 from rfl, List.getLast?_nil] at this
   rw [this]
   cases pOk none ps <;> rfl
  rw [h1, decide_eq_true hl]
  cases pOk none ps <;> rfl
 ·rw [decide_eq_false hl]
  cases pOk none ps <;> rfl
theorem f42n2L_eq' (bh : List PR_) (x : VP) : ∀ (l : List PR_) (v : Int), f42n2L bh x l v = some (match lk x.Product l with | some p => .ret (wr64 (x.Quantity * p)) | none => .exit0)
 | [], v => rfl
 | y :: r, v => by
  rw [f42n2L, lk]
  cases seq y.Product x.Product with
  | true => rfl
  | false => rw [cond_false, cond_false, f42n2L_eq' bh x r]
theorem f42_eq {ps : List PR_} (h : Qbh ps = true) {x : VP} (hx : Qcr x = true) : ∃ v, f42 x ps = some (v, hasV ps x) ∧ (hasV ps x = true → v = vOf ps x) := by
 have hl := (prices_ok h).2.2
 have hb := vOf_bd h hx
 unfold f42 f42n0 f42n1 hasV
 rw [f42n2_run ps x (Nat.le_trans hl (by unfold maxLen; decide)), f42n2L_eq']
 cases hk : lk x.Product ps with
 | none =>
  refine ⟨0, by simp, fun hh => ?_⟩
  have h0 : x.Quantity = 0 := by simpa using hh
  unfold vOf; rw [h0]; simp
 | some p =>
  refine ⟨wr64 (x.Quantity * p), by simp, fun _ => ?_⟩
  unfold vOf prc at hb ⊢
  rw [hk] at hb ⊢
  exact wr_in (n := x.Quantity * p) (by simp at hb; omega) (by simp at hb; omega)
theorem f43_eq {n : Int} (h1 : -4611686018427387904 ≤ n) (h2 : n ≤ 4611686018427387904) : f43 n = some ((n.natAbs : Nat) : Int) := by
 unfold f43 f43n0
 by_cases h : n < 0
 ·rw [decide_eq_true h, cond_true, wr_in (by omega) (by omega)]
  show some (0 - n) = _
  congr 1; omega
 ·rw [decide_eq_false h, cond_false]
  show some n = _
  congr 1; omega

def updB (x p : VP) : VP := ⟨x.Member, x.Product, wr64 (x.Quantity + p.Quantity), wr64 (x.Basis + p.Basis)⟩
def putZ (p : VP) : List VP → List VP
 | [] => [p]
 | x :: r => bif Qaf x p then x :: putZ p r else bif Qv x p then updB x p :: r else p :: x :: r
theorem f50n2L_done (bg : List VP) (p : VP) : ∀ (l acc : List VP) (v : Int), (∀ x ∈ l, Qv x p = false) → acc.length + l.length ≤ 1000 → f50n2L bg p l true v acc = some (.exit0 true (acc ++ l))
 | [], acc, v, _, _ => by simp [f50n2L]
 | x :: r, acc, v, h, hl => by
  simp only [List.length_cons] at hl
  have ih := f50n2L_done bg p r (acc ++ [x]) (v + 1) (fun y hy => h y (List.mem_cons_of_mem _ hy)) (by simp; omega)
  have hx : (seq x.Member p.Member && seq x.Product p.Product) = false := h x List.mem_cons_self
  rw [f50n2L, ih]
  simp only [req, Qcd (n := acc.length + 1) (by omega) (by omega : 48 ≤ 1000000), cond_true]
  revert hx
  cases seq x.Member p.Member <;> cases seq x.Product p.Product <;> intro hx <;> first | exact absurd hx (by decide) | simp
theorem f50n2L_eq' (bg : List VP) (p : VP) : ∀ (l acc : List VP) (v : Int), Srt l → acc.length + l.length ≤ 900 → f50n2L bg p l false v acc = some (bif l.all (fun x => Qaf x p) then .exit0 false (acc ++ l) else .exit0 true (acc ++ putZ p l))
 | [], acc, v, _, _ => by simp [f50n2L]
 | x :: r, acc, v, hs, hl => by
  simp only [List.length_cons] at hl
  have hs' := List.pairwise_cons.1 hs
  have hfit : ∀ n, n ≤ 2000 → fit n 48 = true := fun n hn => Qcd (by omega) (by omega)
  rw [f50n2L, List.all_cons, putZ, f56_eq]
  simp only [Option.bind_some]
  cases hk : Qv x p with
  | true =>
   have hk' : (seq x.Member p.Member && seq x.Product p.Product) = true := hk
   rw [Bool.and_eq_true] at hk'
   have hlt : Qaf x p = false := by
    cases h : Qaf x p with
    | false => rfl
    | true => rw [Qbt h] at hk; cases hk
   rw [hk'.1, hk'.2, hlt]
   simp only [cond_true, cond_false, Bool.false_and]
   rw [req, hfit _ (by omega), cond_true, f50n2L_done bg p r _ (v + 1) (fun y hy => by
    have := Qbt (hs'.1 y hy)
    cases e : Qv y p with
    | false => rfl
    | true => rw [sameK_trans hk (Qcg e)] at this; cases this) (by simp; omega)]
   simp [updB]
  | false =>
   have hk' : (seq x.Member p.Member && seq x.Product p.Product) = false := hk
   cases hlt : Qaf x p with
   | true =>
    have hpx : Qaf p x = false := keyLt_asymm hlt
    have ih := f50n2L_eq' bg p r (acc ++ [x]) (v + 1) hs'.2 (by simp; omega)
    rw [hpx]
    simp only [cond_true, cond_false, Bool.true_and, req, hfit (acc.length + 1) (by omega), ih]
    revert hk'
    cases seq x.Member p.Member <;> cases seq x.Product p.Product <;> intro hk' <;> first | exact absurd hk' (by decide) | simp
   | false =>
    have hpx : Qaf p x = true := Qct hlt hk
    have hd := f50n2L_done bg p r ((acc ++ [p]) ++ [x]) (v + 1) (fun y hy => by
     have := Qbt (Qbc hpx (hs'.1 y hy))
     cases e : Qv y p with
     | false => rfl
     | true => rw [Qcg e] at this; cases this) (by simp; omega)
    rw [hpx]
    simp only [cond_true, cond_false, Bool.false_and, req, hfit (acc.length + 1) (by omega), hfit ((acc ++ [p]).length + 1) (by simp; omega), hd]
    revert hk'
    cases seq x.Member p.Member <;> cases seq x.Product p.Product <;> intro hk' <;> first | exact absurd hk' (by decide) | simp
theorem putZ_all {p : VP} : ∀ {l : List VP}, (l.all fun x => Qaf x p) = true → putZ p l = l ++ [p]
 | [], _ => rfl
 | x :: r, h => by
  rw [List.all_cons, Bool.and_eq_true] at h
  rw [putZ, h.1, cond_true, putZ_all h.2]; rfl
theorem f50_eq {l : List VP} (hs : Srt l) (hl : l.length ≤ 800) (p : VP) : f50 l p = some (putZ p l) := by
 have h1 := f50n2L_eq' l p l [] 0 hs (by simp; omega)
 unfold f50 f50n0 f50n1
 rw [f50n2_run l p false [] (Nat.le_trans hl (by unfold maxLen; decide)), h1]
 cases ha : l.all fun x => Qaf x p with
 | true =>
  simp only [cond_true, List.nil_append, Option.bind_some, cond_false]
  rw [req, Qcd (by omega) (by omega), cond_true, putZ_all ha]; rfl
 | false => simp
theorem putZ_mem {p y : VP} : ∀ {l : List VP}, y ∈ putZ p l → y ∈ l ∨ y = p ∨ ∃ x ∈ l, Qv x p = true ∧ y = updB x p
 | [], h => .inr (.inl (by simpa [putZ] using h))
 | x :: r, h => by
  rw [putZ] at h
  cases h1 : Qaf x p with
  | true =>
   rw [h1, cond_true] at h
   rcases List.mem_cons.1 h with rfl | h
   ·exact .inl List.mem_cons_self
   ·rcases putZ_mem h with h | h | ⟨z, hz, h⟩
    ·exact .inl (List.mem_cons_of_mem _ h)
    ·exact .inr (.inl h)
    ·exact .inr (.inr ⟨z, List.mem_cons_of_mem _ hz, h⟩)
  | false =>
   rw [h1, cond_false] at h
   cases h2 : Qv x p with
   | true =>
    rw [h2, cond_true] at h
    rcases List.mem_cons.1 h with rfl | h
    ·exact .inr (.inr ⟨x, List.mem_cons_self, h2, rfl⟩)
    ·exact .inl (List.mem_cons_of_mem _ h)
   | false =>
    rw [h2, cond_false] at h
    rcases List.mem_cons.1 h with rfl | h
    ·exact .inr (.inl rfl)
    ·exact .inl h
theorem updB_key (x p : VP) : Qv (updB x p) x = true := by simp [updB, Qv, Qag]
theorem putZ_lt {p a : VP} {l : List VP} (ha : Qaf a p = true) (h : ∀ y ∈ l, Qaf a y = true) : ∀ y ∈ putZ p l, Qaf a y = true := fun y hy => by
 rcases putZ_mem hy with hy | rfl | ⟨x, hx, _, rfl⟩
 ·exact h y hy
 ·exact ha
 ·rw [keyLt_r (updB_key x p)]; exact h x hx
theorem putZ_srt {p : VP} : ∀ {l : List VP}, Srt l → Srt (putZ p l)
 | [], _ => by simp [putZ, Srt]
 | x :: r, h => by
  have h' := List.pairwise_cons.1 h
  rw [putZ]
  cases h1 : Qaf x p with
  | true => exact List.pairwise_cons.2 ⟨putZ_lt h1 h'.1, putZ_srt h'.2⟩
  | false =>
   cases h2 : Qv x p with
   | true => exact List.pairwise_cons.2 ⟨fun y hy => by rw [keyLt_l (updB_key x p)]; exact h'.1 y hy, h'.2⟩
   | false =>
    have h3 := Qct h1 h2
    refine List.pairwise_cons.2 ⟨fun y hy => ?_, h⟩
    rcases List.mem_cons.1 hy with rfl | hy
    ·exact h3
    ·exact Qbc h3 (h'.1 y hy)
theorem putZ_len (p : VP) : ∀ l : List VP, (putZ p l).length ≤ l.length + 1
 | [] => by simp [putZ]
 | x :: r => by
  have := putZ_len p r
  rw [putZ]
  cases Qaf x p <;> cases Qv x p <;> simp <;> omega
def nzL (l : List VP) : List VP := l.filter fun x => !Qca x
theorem nzL_cons (x : VP) (r : List VP) : nzL (x :: r) = nz x ++ nzL r := by
 unfold nzL nz
 rw [List.filter_cons]
 cases Qca x <;> rfl
theorem putL_gt {k : VP} {q b : Int} : ∀ {l : List VP}, (∀ y ∈ l, Qaf k y = true) → putL k q b l = nz (upd k q b) ++ l
 | [], _ => by rw [putL]; simp
 | x :: r, h => by
  have h1 := h x List.mem_cons_self
  rw [putL, keyLt_asymm h1]
  have h2 : Qv x k = false := by
   cases e : Qv x k with
   | false => rfl
   | true => have := Qbt h1; rw [Qcg e] at this; cases this
  rw [h2]; rfl
theorem nzL_put {m p : ByteArray} {q b : Int} (hq : wr64 q = q) (hb : wr64 b = b) : ∀ {l : List VP}, Srt l → (∀ x ∈ l, Qca x = true → Qv x (kOf m p) = false) → nzL (putZ ⟨m, p, q, b⟩ l) = putL (kOf m p) q b (nzL l)
 | [], _, _ => by
  rw [putZ, nzL_cons]
  show nz _ ++ [] = putL _ _ _ []
  rw [putL, List.append_nil]
  congr 1
  simp only [upd, Int.zero_add, hq, hb]
 | x :: r, h, hz => by
  have h' := List.pairwise_cons.1 h
  have ih := nzL_put hq hb h'.2 fun y hy => hz y (List.mem_cons_of_mem _ hy)
  have e1 : Qaf x ⟨m, p, q, b⟩ = Qaf x (kOf m p) := rfl
  have e2 : Qv x ⟨m, p, q, b⟩ = Qv x (kOf m p) := rfl
  have e3 : upd (kOf m p) q b = ⟨m, p, q, b⟩ := by simp only [upd, Int.zero_add, hq, hb]
  rw [putZ, nzL_cons, e1, e2]
  cases h1 : Qaf x (kOf m p) with
  | true =>
   rw [cond_true, nzL_cons, ih]
   unfold nz
   cases Qca x with
   | true => rfl
   | false => simp only [cond_false, List.cons_append, List.nil_append]; rw [putL, h1, cond_true]
  | false =>
   rw [cond_false]
   cases h2 : Qv x (kOf m p) with
   | true =>
    have hx : Qca x = false := by
     cases e : Qca x with
     | false => rfl
     | true => rw [hz x List.mem_cons_self e] at h2; cases h2
    rw [cond_true, nzL_cons]
    unfold nz
    rw [hx]
    simp only [cond_false, List.cons_append, List.nil_append]
    rw [putL, h1, h2]
    rfl
   | false =>
    have h3 : Qaf (kOf m p) x = true := Qct h1 h2
    rw [cond_false, nzL_cons, nzL_cons, ← e3, putL_gt]
    intro y hy
    rcases List.mem_append.1 hy with hy | hy
    ·rw [(nz_mem.1 hy).1]; exact h3
    ·exact Qbc h3 (h'.1 y (List.mem_filter.1 hy).1)
end Go.Proofs.Ytelblamgfbkhbaa
namespace Go.Proofs.Ytelblamgfbkhbaa
set_option linter.unusedVariables false
set_option linter.unusedSimpArgs false
open Go.RowKit
def bigQ (x : VP) : Bool := inR x.Quantity 1048576
def bigB (x : VP) : Bool := inR x.Basis 1125899906842624
theorem abs_in {n lim : Int} (h : 0 ≤ lim) : decide (lim < ((n.natAbs : Nat) : Int)) = !inR n lim := by
 unfold inR
 by_cases h1 : -lim ≤ n
 ·by_cases h2 : n ≤ lim
  ·rw [decide_eq_true h1, decide_eq_true h2, decide_eq_false (by omega)]; rfl
  ·rw [decide_eq_false h2, decide_eq_true (by omega : lim < ((n.natAbs : Nat) : Int))]; simp
 ·rw [decide_eq_false h1, decide_eq_true (by omega : lim < ((n.natAbs : Nat) : Int))]; simp
theorem f17n2L_eq' (bg : List VP) (s : Qd) : ∀ (l acc : List VP) (e v : Int), (∀ x ∈ l, (-4611686018427387904 ≤ x.Quantity ∧ x.Quantity ≤ 4611686018427387904) ∧ (-4611686018427387904 ≤ x.Basis ∧ x.Basis ≤ 4611686018427387904)) → acc.length + l.length ≤ 1000 →
  f17n2L bg s l e v acc = some (bif l.all bigQ then .exit0 (bif l.all bigB then e else 14) (acc ++ nzL l) else .ret)
 | [], acc, e, v, _, _ => by simp [f17n2L, nzL]
 | x :: r, acc, e, v, hb, hl => by
  simp only [List.length_cons] at hl
  have hx := hb x List.mem_cons_self
  have hr : ∀ y ∈ r, _ := fun y hy => hb y (List.mem_cons_of_mem _ hy)
  have ih1 : ∀ e', f17n2L bg s r e' (v + 1) (acc ++ [x]) = _ := fun e' => f17n2L_eq' bg s r (acc ++ [x]) e' (v + 1) hr (by simp; omega)
  have ih0 : ∀ e', f17n2L bg s r e' (v + 1) acc = _ := fun e' => f17n2L_eq' bg s r acc e' (v + 1) hr (by omega)
  rw [f17n2L, f43_eq hx.1.1 hx.1.2, f43_eq hx.2.1 hx.2.2]
  simp only [Option.bind_some]
  rw [abs_in (by decide), abs_in (by decide), List.all_cons, List.all_cons, nzL_cons, show inR x.Quantity 1048576 = bigQ x from rfl, show inR x.Basis 1125899906842624 = bigB x from rfl]
  simp only [req, Qcd (n := acc.length + 1) (by omega) (by omega : 48 ≤ 1000000), cond_true, ih1, ih0]
  have hz : Qca x = (decide (x.Quantity = 0) && decide (x.Basis = 0)) := rfl
  unfold nz
  rw [hz]
  cases bigQ x with
  | false => rfl
  | true =>
   cases bigB x <;> cases decide (x.Quantity = 0) <;> cases decide (x.Basis = 0) <;> cases r.all bigQ <;> cases r.all bigB <;> simp
theorem putZ_putP {m p : ByteArray} {q b : Int} (hq : wr64 q = q) (hb : wr64 b = b) : ∀ {l : List VP}, Srt l → (putZ ⟨m, p, q, b⟩ l).Perm (putP (kOf m p) q b l :: l.filter fun x => !(Qv x (kOf m p)))
 | [], _ => by
  have e3 : upd (kOf m p) q b = ⟨m, p, q, b⟩ := by simp only [upd, Int.zero_add, hq, hb]
  rw [putZ, putP, e3]; exact List.Perm.refl _
 | x :: r, h => by
  have h' := List.pairwise_cons.1 h
  have ih := putZ_putP hq hb (m := m) (p := p) h'.2
  have e1 : Qaf x ⟨m, p, q, b⟩ = Qaf x (kOf m p) := rfl
  have e2 : Qv x ⟨m, p, q, b⟩ = Qv x (kOf m p) := rfl
  have e3 : upd (kOf m p) q b = ⟨m, p, q, b⟩ := by simp only [upd, Int.zero_add, hq, hb]
  rw [putZ, putP, List.filter_cons, e1, e2]
  cases h1 : Qaf x (kOf m p) with
  | true =>
   rw [Qbt h1]
   simp only [cond_true, Bool.not_false, if_true]
   exact (ih.cons x).trans (List.Perm.swap _ _ _)
  | false =>
   cases h2 : Qv x (kOf m p) with
   | true =>
    have hf : (r.filter fun y => !(Qv y (kOf m p))) = r := List.filter_eq_self.2 fun y hy => by
     have := Qbt (h'.1 y hy)
     cases e : Qv y (kOf m p) with
     | false => rfl
     | true => rw [sameK_trans h2 (Qcg e)] at this; cases this
    simp only [cond_false, cond_true, Bool.not_true, hf]
    exact List.Perm.refl _
   | false =>
    have h3 := Qct h1 h2
    have hf : (r.filter fun y => !(Qv y (kOf m p))) = r := List.filter_eq_self.2 fun y hy => by
     have := Qbt (Qbc h3 (h'.1 y hy))
     cases e : Qv y (kOf m p) with
     | false => rfl
     | true => rw [Qcg e] at this; cases this
    simp only [cond_false, Bool.not_false, if_true, hf, e3]
    exact List.Perm.refl _
theorem nzL_self {l : List VP} (h : ∀ x ∈ l, Qca x = false) : nzL l = l := by
 unfold nzL
 exact List.filter_eq_self.2 fun x hx => by rw [h x hx]; rfl
section
variable {s : Qd} {bu se pr : ByteArray} {q p : Int} (ok : Ok s) (a : Ask bu se pr q p)
include ok a
theorem ref_lists : ∃ l2, f50 s.Positions (Qa.mk bu pr q (q * p)) = some (putZ ⟨bu, pr, q, q * p⟩ s.Positions) ∧ f50 (putZ ⟨bu, pr, q, q * p⟩ s.Positions) (Qa.mk se pr (-q) (-(q * p))) = some l2 ∧ nzL l2 = tL2 s bu se pr q p ∧
  l2.length ≤ 300 ∧ (∀ x ∈ l2, (-4611686018427387904 ≤ x.Quantity ∧ x.Quantity ≤ 4611686018427387904) ∧ (-4611686018427387904 ≤ x.Basis ∧ x.Basis ≤ 4611686018427387904)) ∧
  l2.all bigQ = (inR (tB s bu se pr q p).Quantity 1048576 && inR (tA s bu pr q p).Quantity 1048576) ∧ l2.all bigB = (inR (tB s bu se pr q p).Basis 1125899906842624 && inR (tA s bu pr q p).Basis 1125899906842624) := by
 have hl := ok.len
 have m := a.m
 have q0 := a.q0
 have q1 := a.q1
 have eq1 : wr64 q = q := wr_in (by omega) (by omega)
 have eb1 : wr64 (q * p) = q * p := wr_in (by omega) (by omega)
 have eq2 : wr64 (-q) = -q := wr_in (by omega) (by omega)
 have eb2 : wr64 (-(q * p)) = -(q * p) := wr_in (by omega) (by omega)
 have hs1 : Srt (putZ ⟨bu, pr, q, q * p⟩ s.Positions) := putZ_srt ok.srt
 have hl1 := putZ_len ⟨bu, pr, q, q * p⟩ s.Positions
 have hl2 := putZ_len ⟨se, pr, -q, -(q * p)⟩ (putZ ⟨bu, pr, q, q * p⟩ s.Positions)
 have hp1 := putZ_putP eq1 eb1 (m := bu) (p := pr) ok.srt
 have hp2 := putZ_putP eq2 eb2 (m := se) (p := pr) hs1
 have hnz : nzL s.Positions = s.Positions := nzL_self fun x hx => good_nz (ok.good x hx)
 have en1 : nzL (putZ ⟨bu, pr, q, q * p⟩ s.Positions) = tL1 s bu pr q p := by
  rw [nzL_put eq1 eb1 ok.srt fun x hx hz => by rw [good_nz (ok.good x hx)] at hz; cases hz]
  rw [hnz]; rfl
 have hnk : Qv (kOf bu pr) (kOf se pr) = false := by
  show (seq bu se && seq pr pr) = false
  rw [a.ne]; rfl
 have hz1 : ∀ x ∈ putZ ⟨bu, pr, q, q * p⟩ s.Positions, Qca x = true → Qv x (kOf se pr) = false := fun x hx hz => by
  rcases List.mem_cons.1 (hp1.mem_iff.1 hx) with rfl | hx
  ·have k := putP_key (kOf bu pr) q (q * p) s.Positions
   cases e : Qv (putP (kOf bu pr) q (q * p) s.Positions) (kOf se pr) with
   | false => rfl
   | true => rw [sameK_trans (Qcg k) e] at hnk; cases hnk
  ·rw [good_nz (ok.good x (List.mem_filter.1 hx).1)] at hz; cases hz
 have en2 : nzL (putZ ⟨se, pr, -q, -(q * p)⟩ (putZ ⟨bu, pr, q, q * p⟩ s.Positions)) = tL2 s bu se pr q p := by
  rw [nzL_put eq2 eb2 hs1 hz1, en1]; rfl
 -- the seller's position is that of the list without zeros
 have hB : putP (kOf se pr) (-q) (-(q * p)) (putZ ⟨bu, pr, q, q * p⟩ s.Positions) = tB s bu se pr q p := by
  unfold tB
  rw [← en1, putP_vl ⟨rfl, rfl⟩ hs1, putP_vl ⟨rfl, rfl⟩ (show Srt (nzL (putZ ⟨bu, pr, q, q * p⟩ s.Positions)) from hs1.sublist List.filter_sublist)]
  have : ∀ {l : List VP}, (∀ x ∈ l, Qca x = true → Qv x (kOf se pr) = false) → vl (kOf se pr) (nzL l) = vl (kOf se pr) l := fun {l} h => by
   induction l with
   | nil => rfl
   | cons x r ih =>
    have ih' := ih fun y hy => h y (List.mem_cons_of_mem _ hy)
    rw [nzL_cons, vl]
    cases e : Qca x with
    | true =>
     rw [h x List.mem_cons_self e]
     unfold nz; rw [e]; exact ih'
    | false =>
     unfold nz; rw [e]
     show vl (kOf se pr) (x :: nzL r) = _
     rw [vl, ih']
  rw [this hz1]
 have bd0 : ∀ x ∈ s.Positions, bigQ x = true ∧ bigB x = true := fun x hx => ⟨inR_iff.2 (good_q (ok.good x hx)), inR_iff.2 (good_b (ok.good x hx))⟩
 have rA : (-2147483648 ≤ (tA s bu pr q p).Quantity ∧ (tA s bu pr q p).Quantity ≤ 2147483648) ∧ (-2251799813685248 ≤ (tA s bu pr q p).Basis ∧ (tA s bu pr q p).Basis ≤ 2251799813685248) := by
  have r := vl_rng (good_bd ok.good) (kOf bu pr)
  unfold tA
  rw [putP_vl ⟨rfl, rfl⟩ ok.srt, wr_in (n := (vl (kOf bu pr) s.Positions).1 + q) (by omega) (by omega), wr_in (n := (vl (kOf bu pr) s.Positions).2 + q * p) (by omega) (by omega)]
  simp only
  omega
 have hk : Qv (tA s bu pr q p) (kOf se pr) = false := by
  have k := putP_key (kOf bu pr) q (q * p) s.Positions
  cases e : Qv (tA s bu pr q p) (kOf se pr) with
  | false => rfl
  | true => rw [sameK_trans (Qcg k) e] at hnk; cases hnk
 have vB : vl (kOf se pr) (tL1 s bu pr q p) = vl (kOf se pr) s.Positions := by
  unfold tL1
  rw [vl_put ⟨rfl, rfl⟩ _ ok.srt, hnk, cond_false]
 have rB : (-2147483648 ≤ (tB s bu se pr q p).Quantity ∧ (tB s bu se pr q p).Quantity ≤ 2147483648) ∧ (-2251799813685248 ≤ (tB s bu se pr q p).Basis ∧ (tB s bu se pr q p).Basis ≤ 2251799813685248) := by
  have r := vl_rng (good_bd ok.good) (kOf se pr)
  unfold tB
  rw [putP_vl ⟨rfl, rfl⟩ (show Srt (tL1 s bu pr q p) from put_srt ok.srt), vB, wr_in (n := (vl (kOf se pr) s.Positions).1 + -q) (by omega) (by omega), wr_in (n := (vl (kOf se pr) s.Positions).2 + -(q * p)) (by omega) (by omega)]
  simp only
  omega
 have hP : (putZ ⟨se, pr, -q, -(q * p)⟩ (putZ ⟨bu, pr, q, q * p⟩ s.Positions)).Perm (tB s bu se pr q p :: tA s bu pr q p :: (s.Positions.filter fun x => !(Qv x (kOf bu pr))).filter fun x => !(Qv x (kOf se pr))) := by
  rw [hB] at hp2
  refine hp2.trans (List.Perm.cons _ ?_)
  have h3 := hp1.filter fun x => !(Qv x (kOf se pr))
  rw [List.filter_cons, show (Qv (putP (kOf bu pr) q (q * p) s.Positions) (kOf se pr)) = false from hk] at h3
  exact h3
 have hsub : ∀ x ∈ ((s.Positions.filter fun x => !(Qv x (kOf bu pr))).filter fun x => !(Qv x (kOf se pr))), x ∈ s.Positions := fun x hx => (List.mem_filter.1 (List.mem_filter.1 hx).1).1
 refine ⟨_, f50_eq ok.srt (by omega) _, f50_eq hs1 (by omega) _, en2, by omega, fun x hx => ?_, ?_, ?_⟩
 ·rcases List.mem_cons.1 (hP.mem_iff.1 hx) with rfl | hx
  ·omega
  ·rcases List.mem_cons.1 hx with rfl | hx
   ·omega
   ·have := good_q (ok.good x (hsub x hx))
    have := good_b (ok.good x (hsub x hx))
    omega
 ·rw [hP.all_eq, List.all_cons, List.all_cons, List.all_eq_true.2 fun x hx => (bd0 x (hsub x hx)).1, Bool.and_true]; rfl
 ·rw [hP.all_eq, List.all_cons, List.all_cons, List.all_eq_true.2 fun x hx => (bd0 x (hsub x hx)).2, Bool.and_true]; rfl
end
theorem f17_eq (s : Qd) (bu se pr : ByteArray) (q p : Int) : f17 s bu se pr q p = some (tradeS s bu se pr q p) := by
 unfold f17 f17n0 tradeS
 rw [f34_eq]
 cases hc : checkB s with
 | false => rfl
 | true =>
  have ok := check_iff.1 hc
  rw [Qbl q, Qbl 1048576, Qbl p, Qbl 536870912]
  simp only [cond_true, Option.bind_some, f48_eq, f49_eq, decide_true]
  cases ha : askB bu se pr q p with
  | false =>
   simp only [cond_false]
   unfold askB inR at ha
   revert ha
   cases partyB bu with
   | false => intro _; rfl
   | true => cases partyB se with
    | false => intro _; rfl
    | true => cases seq bu se with
     | true => intro _; rfl
     | false => cases nameB pr with
      | false => intro _; rfl
      | true => cases decide (1 ≤ q) with
       | false => intro _; rfl
       | true => cases decide (q ≤ 1048576) with
        | false => intro _; rfl
        | true => cases decide (-536870912 ≤ p) with
         | false => intro _; rfl
         | true => cases decide (p ≤ 536870912) with
          | false => intro _; rfl
          | true => intro h; cases h
  | true =>
   have a := ask_iff.1 ha
   have hm := a.m
   have hq0 := a.q0
   have hq1 := a.q1
   obtain ⟨l2, h1, h2, h3, h4, h5, h6, h7⟩ := ref_lists ok a
   have e1 : wr64 (q * p) = q * p := wr_in (by omega) (by omega)
   have e2 : wr64 (0 - q) = -q := w64 (by omega) (by omega) (by omega)
   have e3 : wr64 (-q * p) = -(q * p) := w64 (by rw [Int.neg_mul]) (by omega) (by omega)
   have hn1 : f17n1 l2 s = some (bif l2.all bigQ then .norm (bif l2.all bigB then 0 else 14) (tL2 s bu se pr q p) else .ret) := by
    unfold f17n1
    rw [f17n2_run l2 s 0 [] (Nat.le_trans h4 (by unfold maxLen; decide)), f17n2L_eq' l2 s l2 [] 0 0 h5 (by simp; omega), List.nil_append, h3]
    cases l2.all bigQ <;> rfl
   simp only [a.bp, a.sp, a.ne, a.np, decide_eq_true hq0, decide_eq_true hq1, decide_eq_true a.p0, decide_eq_true a.p1, Bool.not_true, cond_true, cond_false, e1, e2, e3, h1, h2, hn1, Option.bind_some, ← h6, ← h7]
   have hl : decide ((200 : Int) < ((tL2 s bu se pr q p).length : Int)) = !decide ((tL2 s bu se pr q p).length ≤ 200) := by rw [Qbl]; congr 1; exact dec_nat _ 200
   cases l2.all bigQ with
   | false => rfl
   | true =>
    cases l2.all bigB with
    | false => rfl
    | true =>
     simp only [cond_true, Option.bind_some, f17n3, f17n4, decide_true, hl]
     cases decide ((tL2 s bu se pr q p).length ≤ 200) <;> rfl

theorem pay_ext : ∀ {a b : List Qb}, a.Pairwise (fun x y => slt x.Member y.Member = true) → b.Pairwise (fun x y => slt x.Member y.Member = true) → (∀ x ∈ a, x.Amount ≠ 0) → (∀ x ∈ b, x.Amount ≠ 0) → (∀ g, sp (ag g) a = sp (ag g) b) → a = b := by
 have none : ∀ {g : ByteArray} {l : List Qb}, (∀ y ∈ l, y.Member ≠ g) → sp (ag g) l = 0 := fun {g l} h => by
  induction l with
  | nil => rfl
  | cons y r ih => rw [sp, ih fun z hz => h z (List.mem_cons_of_mem _ hz), ag, seq_f (h y List.mem_cons_self)]; rfl
 have hd : ∀ {x : Qb} {r : List Qb}, (x :: r).Pairwise (fun x y => slt x.Member y.Member = true) → sp (ag x.Member) (x :: r) = x.Amount := fun {x r} h => by
  rw [sp, none fun y hy => (slt_ne ((List.pairwise_cons.1 h).1 y hy)).symm, ag, Qag]; simp
 have lt : ∀ {x y : Qb} {r : List Qb}, (y :: r).Pairwise (fun x y => slt x.Member y.Member = true) → slt x.Member y.Member = true → sp (ag x.Member) (y :: r) = 0 := fun {x y r} h hl => none fun z hz => by
  rcases List.mem_cons.1 hz with rfl | hz
  ·exact (slt_ne hl).symm
  ·exact (slt_ne (Qcb hl ((List.pairwise_cons.1 h).1 z hz))).symm
 intro a
 induction a with
 | nil =>
  intro b _ sb _ nb h
  cases b with
  | nil => rfl
  | cons y r =>
   have := h y.Member
   rw [hd sb] at this
   exact absurd this.symm (nb y List.mem_cons_self)
 | cons x r ih =>
  intro b sa sb na nb h
  cases b with
  | nil =>
   have := h x.Member
   rw [hd sa] at this
   exact absurd this (na x List.mem_cons_self)
  | cons y t =>
   have e : x.Member = y.Member := by
    cases h1 : slt x.Member y.Member with
    | true =>
     have := h x.Member
     rw [hd sa, lt sb h1] at this
     exact absurd this (na x List.mem_cons_self)
    | false =>
     cases h2 : slt y.Member x.Member with
     | true =>
      have := h y.Member
      rw [hd sb, lt sa h2] at this
      exact absurd this.symm (nb y List.mem_cons_self)
     | false => exact slt_total h1 h2
   have e2 : x.Amount = y.Amount := by
    have := h x.Member
    rw [hd sa, e, hd sb] at this
    exact this
   have exy : x = y := by cases x; cases y; simp only at e e2; subst e e2; rfl
   subst exy
   congr 1
   refine ih (List.pairwise_cons.1 sa).2 (List.pairwise_cons.1 sb).2 (fun z hz => na z (List.mem_cons_of_mem _ hz)) (fun z hz => nb z (List.mem_cons_of_mem _ hz)) fun g => ?_
   have := h g
   rw [sp, sp] at this
   omega
def addR (ps : List PR_) (P : List Qb) (x : VP) : List Qb :=
 match P.getLast? with
 | none => [⟨x.Member, vOf ps x - x.Basis⟩]
 | some z => bif seq z.Member x.Member then P.dropLast ++ [⟨z.Member, z.Amount + (vOf ps x - x.Basis)⟩] else P ++ [⟨x.Member, vOf ps x - x.Basis⟩]
def payR (ps : List PR_) : List VP → List Qb → List Qb
 | [], P => P
 | x :: r, P => payR ps r (addR ps P x)
theorem set_last {α : Type} (P : List α) (z w : α) : (P ++ [z]).set P.length w = P ++ [w] := by
 rw [List.set_append_right _ _ (Nat.le_refl _)]; simp
theorem len_last {α : Type} (P : List α) (z : α) (h : P.length ≤ 100000) : wr64 (((P ++ [z]).length : Int) - 1) = ((P.length : Nat) : Int) := w64 (by simp) (by omega) (by omega)
theorem f15n2L_eq' {ps : List PR_} (hp : Qbh ps = true) (s : Qd) (d : Int) : ∀ (l : List VP) (v : Int) (P : List Qb) (o : List VP) (n : Nat), (∀ x ∈ l, Qcr x = true) → P.length + l.length ≤ 500 → o.length + l.length ≤ 500 → n + l.length ≤ 500 → (∀ z ∈ P, -(2251799813685248 * (n : Int)) ≤ z.Amount ∧ z.Amount ≤ 2251799813685248 * (n : Int)) →
  f15n2L ps s d l v P o = some (bif l.all (hasV ps) then .exit0 (payR ps l P) (o ++ setO ps l) else .ret)
 | [], v, P, o, n, _, _, _, _, _ => by simp [f15n2L, payR, setO]
 | x :: r, v, P, o, n, hg, hl, ho, hn, hb => by
  simp only [List.length_cons] at hl ho hn
  obtain ⟨w, h1, h2⟩ := f42_eq hp (hg x List.mem_cons_self)
  rw [f15n2L, h1]
  simp only [Option.bind_some, List.all_cons]
  cases hv : hasV ps x with
  | false => rfl
  | true =>
   have hw := h2 hv
   subst hw
   have hx := wd_bd hp (hg x List.mem_cons_self)
   have hvo := vOf_bd hp (hg x List.mem_cons_self)
   have hr : ∀ y ∈ r, Qcr y = true := fun y hy => hg y (List.mem_cons_of_mem _ hy)
   have f24 : ∀ m, m ≤ 1000 → fit m 24 = true := fun m hm => Qcd (by omega) (by omega)
   have f48 : ∀ m, m ≤ 1000 → fit m 48 = true := fun m hm => Qcd (by omega) (by omega)
   -- what is added to an amount
   have hadd : ∀ {am : Int}, -(2251799813685248 * (n : Int)) ≤ am → am ≤ 2251799813685248 * (n : Int) → wr64 (wr64 (am + vOf ps x) - x.Basis) = am + (vOf ps x - x.Basis) := fun {am} k1 k2 => by
    rw [wr_in (n := am + vOf ps x) (by omega) (by omega), wr_in (by omega) (by omega)]; omega
   have hadd0 : wr64 (wr64 (0 + vOf ps x) - x.Basis) = vOf ps x - x.Basis := by
    have := hadd (am := 0) (by omega) (by omega)
    rw [this]; omega
   -- the rest, whatever the new list is
   have rest : ∀ (P' : List Qb), P'.length + r.length ≤ 500 → (∀ z ∈ P', -(2251799813685248 * ((n + 1 : Nat) : Int)) ≤ z.Amount ∧ z.Amount ≤ 2251799813685248 * ((n + 1 : Nat) : Int)) →
     (bif decide (x.Quantity = 0) then f15n2L ps s d r (v + 1) P' o else req (fit (o.length + 1) 48) (f15n2L ps s d r (v + 1) P' (o ++ [Qa.mk x.Member x.Product x.Quantity (vOf ps x)]))) = some (bif r.all (hasV ps) then .exit0 (payR ps r P') (o ++ setO ps (x :: r)) else .ret) := fun P' k1 k2 => by
    rw [setO]
    cases decide (x.Quantity = 0) with
    | true => rw [cond_true, cond_true, f15n2L_eq' hp s d r (v + 1) P' o (n + 1) hr k1 (by omega) (by omega) k2]
    | false =>
     rw [cond_false, cond_false, req, f48 _ (by omega), cond_true, f15n2L_eq' hp s d r (v + 1) P' _ (n + 1) hr k1 (by simp; omega) (by omega) k2]
     simp [setP]
   have step : ∀ (Q : List Qb) (z : Qb), (∀ y ∈ Q, y ∈ P) → Q.length + 1 + r.length ≤ 500 → (-(2251799813685248 * ((n + 1 : Nat) : Int)) ≤ z.Amount ∧ z.Amount ≤ 2251799813685248 * ((n + 1 : Nat) : Int)) → (∀ y ∈ Q ++ [z], -(2251799813685248 * ((n + 1 : Nat) : Int)) ≤ y.Amount ∧ y.Amount ≤ 2251799813685248 * ((n + 1 : Nat) : Int)) := fun Q z k1 _ k2 y hy => by
    rcases List.mem_append.1 hy with hy | hy
    ·have := hb y (k1 y hy); omega
    ·rw [List.mem_singleton.1 hy]; exact k2
   simp only [cond_true, Bool.true_and, payR]
   rcases List.eq_nil_or_concat P with rfl | ⟨Q, z, rfl⟩
   ·have hr2 := rest [⟨x.Member, vOf ps x - x.Basis⟩] (by simp; omega) (step [] _ (by simp) (by simp; omega) (by simp only; omega))
    simp only [List.length_nil, Int.natCast_zero, decide_true, cond_true, List.nil_append, req, f24 (0 + 1) (by omega)]
    have hat : at? [Qb.mk x.Member 0] (wr64 (([Qb.mk x.Member 0].length : Int) - 1)) = some ⟨x.Member, 0⟩ := rfl
    have hset : ([Qb.mk x.Member 0].set (Int.toNat (wr64 (([Qb.mk x.Member 0].length : Int) - 1))) (Qb.mk x.Member (wr64 (wr64 (0 + vOf ps x) - x.Basis)))) = [⟨x.Member, vOf ps x - x.Basis⟩] := by rw [hadd0]; rfl
    rw [hat]
    simp only [Option.bind_some]
    rw [hset]
    exact hr2
   ·rw [List.concat_eq_append] at hl hb ⊢ step
    have hQ : Q.length ≤ 1000 := by simp at hl; omega
    have hne : ¬ (((Q ++ [z]).length : Nat) : Int) = 0 := by simp; omega
    have hat : at? (Q ++ [z]) ((Q.length : Nat) : Int) = some z := by rw [Qao]; simp
    have hz := hb z (by simp)
    rw [decide_eq_false hne, len_last Q z (by omega), hat]
    simp only [cond_false, Option.bind_some]
    have ea : addR ps (Q ++ [z]) x = bif seq z.Member x.Member then Q ++ [⟨z.Member, z.Amount + (vOf ps x - x.Basis)⟩] else (Q ++ [z]) ++ [⟨x.Member, vOf ps x - x.Basis⟩] := by
     unfold addR
     rw [List.getLast?_concat, List.dropLast_concat]
    rw [ea]
    cases hm : seq z.Member x.Member with
    | true =>
     rw [hadd hz.1 hz.2, show (Int.toNat ((Q.length : Nat) : Int)) = Q.length from rfl, set_last]
     simp only [cond_true]
     exact rest _ (by simp at hl ⊢; omega) (step Q _ (fun y hy => by simp [hy]) (by simp at hl; omega) (by simp only; omega))
    | false =>
     have hlen2 : ((Q ++ [z]) ++ [Qb.mk x.Member 0]).length ≤ 100000 := by simp; omega
     have hat2 : at? ((Q ++ [z]) ++ [Qb.mk x.Member 0]) (((Q ++ [z]).length : Nat) : Int) = some ⟨x.Member, 0⟩ := by rw [Qao]; simp
     simp only [cond_false]
     rw [len_last (Q ++ [z]) (Qb.mk x.Member 0) (by simp; omega), hat2]
     simp only [Option.bind_some]
     rw [hadd0, show (Int.toNat (((Q ++ [z]).length : Nat) : Int)) = (Q ++ [z]).length from rfl, set_last, req, f24 _ (by omega), cond_true]
     exact rest _ (by simp at hl ⊢; omega) (step (Q ++ [z]) _ (fun y hy => hy) (by simp at hl ⊢; omega) (by simp only; omega))
end Go.Proofs.Ytelblamgfbkhbaa
namespace Go.Proofs.Ytelblamgfbkhbaa
set_option linter.unusedVariables false
set_option linter.unusedSimpArgs false
open Go.RowKit
abbrev PSr (P : List Qb) : Prop := P.Pairwise fun a b => slt a.Member b.Member = true
theorem addR_ok {ps : List PR_} {x : VP} {P : List Qb} (h : PSr P) (hx : ∀ z ∈ P, slt x.Member z.Member = false) : PSr (addR ps P x) ∧ (∀ z ∈ addR ps P x, z.Member = x.Member ∨ ∃ y ∈ P, y.Member = z.Member) ∧ (∀ g, sp (ag g) (addR ps P x) = sp (ag g) P + wd ps g x) ∧ (addR ps P x).length ≤ P.length + 1 := by
 rcases List.eq_nil_or_concat P with rfl | ⟨Q, z, rfl⟩
 ·refine ⟨by simp [addR, PSr], fun z hz => ?_, fun g => ?_, by simp [addR]⟩
  ·left
   simp only [addR, List.getLast?_nil, List.mem_singleton] at hz
   rw [hz]
  ·simp only [addR, List.getLast?_nil, sp, ag, wd]
   cases seq x.Member g <;> simp
 ·rw [List.concat_eq_append] at h hx ⊢
  have ea : addR ps (Q ++ [z]) x = bif seq z.Member x.Member then Q ++ [⟨z.Member, z.Amount + (vOf ps x - x.Basis)⟩] else (Q ++ [z]) ++ [⟨x.Member, vOf ps x - x.Basis⟩] := by
   unfold addR
   rw [List.getLast?_concat, List.dropLast_concat]
  rw [ea]
  have ha := List.pairwise_append.1 h
  cases hm : seq z.Member x.Member with
  | true =>
   have e := Qbs.1 hm
   simp only [cond_true]
   refine ⟨List.pairwise_append.2 ⟨ha.1, by simp, fun a h1 b h2 => ?_⟩, fun y hy => ?_, fun g => ?_, by simp⟩
   ·rw [List.mem_singleton.1 h2]; exact ha.2.2 a h1 z (by simp)
   ·rcases List.mem_append.1 hy with hy | hy
    ·exact .inr ⟨y, by simp [hy], rfl⟩
    ·left; rw [List.mem_singleton.1 hy]; exact e
   ·rw [sp_app, sp_app]
    simp only [sp, ag, wd, e]
    cases seq x.Member g <;> simp <;> omega
  | false =>
   have hlt : slt z.Member x.Member = true := by
    cases k : slt z.Member x.Member with
    | true => rfl
    | false => rw [slt_total k (hx z (by simp)), Qag] at hm; cases hm
   simp only [cond_false]
   refine ⟨List.pairwise_append.2 ⟨h, by simp, fun a h1 b h2 => ?_⟩, fun y hy => ?_, fun g => ?_, by simp⟩
   ·rw [List.mem_singleton.1 h2]
    rcases List.mem_append.1 h1 with h1 | h1
    ·exact Qcb (ha.2.2 a h1 z (by simp)) hlt
    ·rw [List.mem_singleton.1 h1]; exact hlt
   ·rcases List.mem_append.1 hy with hy | hy
    ·exact .inr ⟨y, hy, rfl⟩
    ·left; rw [List.mem_singleton.1 hy]
   ·rw [sp_app]
    simp only [sp, ag, wd]
    cases seq x.Member g <;> simp
theorem payR_ok (ps : List PR_) : ∀ (l : List VP) (P : List Qb), Srt l → PSr P → (∀ z ∈ P, ∀ x ∈ l, slt x.Member z.Member = false) → PSr (payR ps l P) ∧ (∀ g, sp (ag g) (payR ps l P) = sp (ag g) P + sm (wd ps g) l) ∧ (payR ps l P).length ≤ P.length + l.length
 | [], P, _, h, _ => by simp only [payR, sm]; exact ⟨h, fun g => by omega, by simp⟩
 | x :: r, P, hs, h, hx => by
  have hs' := List.pairwise_cons.1 hs
  obtain ⟨h1, h2, h3, h4⟩ := addR_ok (ps := ps) h fun z hz => hx z hz x List.mem_cons_self
  obtain ⟨i1, i2, i3⟩ := payR_ok ps r (addR ps P x) hs'.2 h1 fun z hz y hy => by
   rcases h2 z hz with e | ⟨w, hw, e⟩
   ·rw [e]
    rcases keyLt_iff.1 (hs'.1 y hy) with k | ⟨k, _⟩
    ·exact slt_asymm k
    ·rw [← k]; exact Qbu _
   ·rw [← e]; exact hx w hw y (List.mem_cons_of_mem _ hy)
  rw [payR]
  refine ⟨i1, fun g => ?_, ?_⟩
  ·rw [i2, h3, sm]; omega
  ·simp only [List.length_cons]; omega
theorem wd_bound {ps : List PR_} (hp : Qbh ps = true) {l : List VP} (h : ∀ x ∈ l, Qcr x = true) (hl : l.length ≤ 200) (g : ByteArray) : -450359962737049600 ≤ sm (wd ps g) l ∧ sm (wd ps g) l ≤ 450359962737049600 := by
 have := sm_bound (wd ps g) 2251799813685248 l fun x hx => by
  have := wd_bd hp (h x hx)
  unfold wd
  cases seq x.Member g <;> simp only [cond_true, cond_false] <;> omega
 omega
theorem sp_none' {g : ByteArray} : ∀ {l : List Qb}, (∀ y ∈ l, y.Member ≠ g) → sp (ag g) l = 0
 | [], _ => rfl
 | y :: r, h => by
  rw [sp, sp_none' fun z hz => h z (List.mem_cons_of_mem _ hz), ag, seq_f (h y List.mem_cons_self)]; rfl
theorem sp_one' {x : Qb} : ∀ {l : List Qb}, PSr l → x ∈ l → sp (ag x.Member) l = x.Amount
 | y :: r, h, hx => by
  have h' := List.pairwise_cons.1 h
  rw [sp]
  rcases List.mem_cons.1 hx with rfl | hx
  ·rw [sp_none' fun z hz => (slt_ne (h'.1 z hz)).symm, ag, Qag]; simp
  ·rw [sp_one' h'.2 hx, ag, seq_f (slt_ne (h'.1 x hx))]; simp
def nzP (l : List Qb) : List Qb := l.filter fun x => !decide (x.Amount = 0)
theorem sp_nzP (g : ByteArray) : ∀ l : List Qb, sp (ag g) (nzP l) = sp (ag g) l
 | [] => rfl
 | x :: r => by
  have ih := sp_nzP g r
  unfold nzP at ih ⊢
  rw [List.filter_cons]
  by_cases h : x.Amount = 0
  ·rw [decide_eq_true h]
   simp only [Bool.not_true]
   rw [sp]
   have : ag g x = 0 := by unfold ag; rw [h]; cases seq x.Member g <;> rfl
   rw [this, if_neg (by decide), ih]; omega
  ·rw [decide_eq_false h, if_pos (by rfl), sp, sp, ih]
theorem f15n4L_eq' (d : Int) (bj : List Qb) (bg : List VP) : ∀ (l : List Qb) (v : Int) (acc : List Qb), (∀ x ∈ l, -4611686018427387904 ≤ x.Amount ∧ x.Amount ≤ 4611686018427387904) → acc.length + l.length ≤ 1000 →
  f15n4L d bj bg l v acc = some (bif l.all (fun x => inR x.Amount 1125899906842624) then .exit2 (acc ++ nzP l) else .ret)
 | [], v, acc, _, _ => by simp [f15n4L, nzP]
 | x :: r, v, acc, hb, hl => by
  simp only [List.length_cons] at hl
  have hx := hb x List.mem_cons_self
  have hr : ∀ y ∈ r, _ := fun y hy => hb y (List.mem_cons_of_mem _ hy)
  rw [f15n4L, f43_eq hx.1 hx.2]
  simp only [Option.bind_some]
  rw [abs_in (by decide), List.all_cons, f15n4L_eq' d bj bg r (v + 1) acc hr (by omega), f15n4L_eq' d bj bg r (v + 1) (acc ++ [x]) hr (by simp; omega), req, Qcd (by omega) (by omega), cond_true]
  unfold nzP
  rw [List.filter_cons]
  cases inR x.Amount 1125899906842624 <;> cases decide (x.Amount = 0) <;> cases r.all (fun x => inR x.Amount 1125899906842624) <;> simp
theorem get_in {k : ByteArray} : ∀ {m : List (ByteArray × Int)}, mGet seq 0 k m = 0 ∨ ∃ x ∈ m, x.2 = mGet seq 0 k m
 | [] => .inl rfl
 | (a, w) :: r => by
  rw [mGet]
  cases seq k a with
  | true => exact .inr ⟨(a, w), List.mem_cons_self, rfl⟩
  | false =>
   rcases get_in (k := k) (m := r) with h | ⟨x, hx, h⟩
   ·exact .inl h
   ·exact .inr ⟨x, List.mem_cons_of_mem _ hx, h⟩
theorem f15_eq (s : Qd) (d : Int) (ps : List PR_) : f15 s d ps = some (settleS s d ps) := by
 unfold f15 f15n0 settleS
 rw [f34_eq, f41_eq, Qbl d, Qbl 99999]
 cases hc : checkB s with
 | false => rfl
 | true =>
  have ok := check_iff.1 hc
  simp only [cond_true, Option.bind_some, decide_true]
  cases ha : asksB d ps with
  | false =>
   unfold asksB at ha
   revert ha
   cases decide (0 ≤ d) with
   | false => intro _; rfl
   | true => cases decide (d ≤ 99999) with
    | false => intro _; rfl
    | true => cases Qbh ps with
     | false => intro _; rfl
     | true => intro h; cases h
  | true =>
   have ha' := ha
   unfold asksB at ha'
   simp only [Bool.and_eq_true] at ha'
   obtain ⟨h0, h1, h2⟩ := ha'
   rw [h0, h1, h2]
   have hd : decide (d ≤ s.Day) = !decide (s.Day < d) := by
    by_cases k : s.Day < d
    ·rw [decide_eq_true k, decide_eq_false (by omega)]; rfl
    ·rw [decide_eq_false k, decide_eq_true (by omega : d ≤ s.Day)]; rfl
   rw [hd]
   cases hd' : decide (s.Day < d) with
   | false => rfl
   | true =>
    have hl := ok.len
    obtain ⟨r1, r2, r3⟩ := payR_ok ps s.Positions [] ok.srt List.Pairwise.nil (by simp)
    simp only [List.length_nil, Nat.zero_add] at r3
    have r2' : ∀ g, sp (ag g) (payR ps s.Positions []) = sm (wd ps g) s.Positions := fun g => by rw [r2 g]; simp [sp]
    have hn1 : f15n1 ps s d = some (bif s.Positions.all (hasV ps) then .norm (payR ps s.Positions []) (setO ps s.Positions) else .ret) := by
     unfold f15n1
     rw [f15n2_run ps s d [] [] (Nat.le_trans hl (by unfold maxLen; decide)), f15n2L_eq' h2 s d s.Positions 0 [] [] 0 ok.good (by simp; omega) (by simp; omega) (by omega) (by simp)]
     cases s.Positions.all (hasV ps) <;> rfl
    simp only [Bool.not_true, cond_false, cond_true, hn1]
    cases hv : s.Positions.all (hasV ps) with
    | false => rfl
    | true =>
     have hbd : ∀ z ∈ payR ps s.Positions [], -4611686018427387904 ≤ z.Amount ∧ z.Amount ≤ 4611686018427387904 := fun z hz => by
      rw [← sp_one' r1 hz, r2']
      have := wd_bound h2 ok.good hl z.Member
      omega
     have hn3 : f15n3 d (payR ps s.Positions []) (setO ps s.Positions) = some (bif (payR ps s.Positions []).all (fun x => inR x.Amount 1125899906842624) then .norm (nzP (payR ps s.Positions [])) else .ret) := by
      unfold f15n3
      rw [f15n4_run d (payR ps s.Positions []) (setO ps s.Positions) [] (Nat.le_trans (Nat.le_trans r3 hl) (by unfold maxLen; decide)), f15n4L_eq' d _ _ _ 0 [] hbd (by simp; omega), List.nil_append]
      cases (payR ps s.Positions []).all (fun x => inR x.Amount 1125899906842624) <;> rfl
     have hall : (payR ps s.Positions []).all (fun x => inR x.Amount 1125899906842624) = (accM ps s.Positions []).all (fun x => inR x.2 1125899906842624) := by
      rw [Bool.eq_iff_iff, List.all_eq_true, List.all_eq_true]
      constructor
      ·intro k x hx
       have e1 := get_mem (z := (0 : Int)) (k := x.1) (v := x.2) (accM_nd ps s.Positions List.Pairwise.nil) hx
       rw [acc_get0 h2 ok.good hl, ← r2'] at e1
       rw [← e1]
       by_cases hm : ∃ z ∈ payR ps s.Positions [], z.Member = x.1
       ·obtain ⟨z, hz, e⟩ := hm
        rw [← e, sp_one' r1 hz]; exact k z hz
       ·rw [sp_none' fun y hy e => hm ⟨y, hy, e⟩]; rfl
      ·intro k z hz
       rw [← sp_one' r1 hz, r2', ← acc_get0 h2 ok.good hl]
       rcases get_in (k := z.Member) (m := accM ps s.Positions []) with h | ⟨x, hx, h⟩
       ·rw [h]; rfl
       ·rw [← h]; exact k x hx
     simp only [cond_true, Option.bind_some, hn3, hall]
     cases hr : (accM ps s.Positions []).all (fun x => inR x.2 1125899906842624) with
     | false => rfl
     | true =>
      have dn : Done s d ps := ⟨ok, of_decide_eq_true h0, of_decide_eq_true h1, h2, of_decide_eq_true hd', List.all_eq_true.1 hv, List.all_eq_true.1 hr⟩
      have e : nzP (payR ps s.Positions []) = isortP (payL (accM ps s.Positions [])) := by
       refine pay_ext (r1.sublist List.filter_sublist) (payS_srt _ _) (fun x hx => ?_) (fun x hx => (dn.pay_mem hx).1) fun g => ?_
       ·have := (List.mem_filter.1 hx).2
        simpa using this
       ·rw [sp_nzP, r2']
        exact (dn.pay_one g).symm
      simp only [cond_true, Option.bind_some, e]

theorem f19n2L_same (a b : List Qb) : ∀ (l pre : List Qb), b = pre ++ l → f19n2L a b l ((pre.length : Nat) : Int) = some .exit0
 | [], pre, _ => rfl
 | x :: r, pre, h => by
  have ih := f19n2L_same a b r (pre ++ [x]) (by rw [h]; simp)
  rw [List.length_append, show (((pre.length + [x].length : Nat)) : Int) = (pre.length : Int) + 1 from by simp] at ih
  have hat : at? b ((pre.length : Nat) : Int) = some x := by rw [Qao, h]; simp
  rw [f19n2L, hat]
  simp only [Option.bind_some]
  rw [show Qb.eqb x x = true by unfold Qb.eqb; simp [Qag], cond_true]
  exact ih
theorem f19_same {a : List Qb} (hl : a.length ≤ maxLen) : f19 a a = some true := by
 have : f19n1 a a = some .norm := by
  unfold f19n1
  rw [f19n2_run a a hl]
  have := f19n2L_same a a a [] rfl
  rw [show (((([] : List Qb).length : Nat)) : Int) = 0 from rfl] at this
  rw [this]; rfl
 unfold f19 f19n0
 rw [this, decide_eq_true rfl]; rfl
theorem settle_len (s : Qd) (d : Int) (ps : List PR_) (hs : s.Positions.length ≤ maxLen) : (settleS s d ps).1.Positions.length ≤ maxLen ∧ (settleS s d ps).2.1.length ≤ maxLen := by
 by_cases h : (settleS s d ps).2.2 = 0
 ·obtain ⟨h1, h2⟩ := settle_done h
  rw [h2]
  exact ⟨Nat.le_trans (setO_len ps s.Positions) hs, Nat.le_trans h1.pay_len (by unfold maxLen; decide)⟩
 ·unfold settleS at h ⊢
  revert h
  cases checkB s <;> cases asksB d ps <;> cases decide (s.Day < d) <;> cases s.Positions.all (hasV ps) <;> cases (accM ps s.Positions []).all (fun x => inR x.2 1125899906842624) <;> intro h <;> first | exact (h rfl).elim | exact ⟨Nat.zero_le _, Nat.zero_le _⟩
theorem trade_len (s : Qd) (bu se pr : ByteArray) (q p : Int) : (tradeS s bu se pr q p).1.Positions.length ≤ 200 := by
 by_cases h : (tradeS s bu se pr q p).2 = 0
 ·obtain ⟨h1, h2⟩ := trade_took h
  rw [h2]; exact h1.len
 ·unfold tradeS at h ⊢
  revert h
  cases checkB s <;> cases askB bu se pr q p <;> cases (inR (tB s bu se pr q p).Quantity 1048576 && inR (tA s bu pr q p).Quantity 1048576) <;> cases (inR (tB s bu se pr q p).Basis 1125899906842624 && inR (tA s bu pr q p).Basis 1125899906842624) <;> cases decide ((tL2 s bu se pr q p).length ≤ 200) <;> intro h <;> first | exact (h rfl).elim | exact Nat.zero_le _
theorem f3n2L_eq' (bk : List Op_) (bl : Bool) : ∀ (l : List Op_) (v : Int) (s : Qd), s.Positions.length ≤ maxLen → (∀ x ∈ l, x.Prices.length ≤ 220) → f3n2L bk bl l v s s = some .exit0
 | [], v, s, _, _ => rfl
 | x :: r, v, s, hs, hp => by
  have ih := fun (t : Qd) (ht : t.Positions.length ≤ maxLen) => f3n2L_eq' bk bl r (v + 1) t ht fun y hy => hp y (List.mem_cons_of_mem _ hy)
  have hx := hp x List.mem_cons_self
  have hl := settle_len s (wr64 (s.Day + x.Day)) x.Prices hs
  have ht := trade_len s x.Buyer x.Seller x.Product x.Quantity x.Price
  have ht' : (tradeS s x.Buyer x.Seller x.Product x.Quantity x.Price).1.Positions.length ≤ maxLen := Nat.le_trans ht (by unfold maxLen; decide)
  rw [f3n2L, f14_eq _ _ (by omega), f15_eq, f16_eq, f17_eq]
  simp only [Option.bind_some, f18_same rfl hl.1, f18_same rfl ht', f19_same hl.2, f19_same (a := []) (Nat.zero_le maxLen), cond_true, decide_true, ih _ hl.1, ih _ ht', ih _ hs]
  cases decide (x.Kind = 0) <;> cases decide ((settleS s (wr64 (s.Day + x.Day)) x.Prices).2.2 = 0) <;> cases decide ((tradeS s x.Buyer x.Seller x.Product x.Quantity x.Price).2 = 0) <;> rfl
theorem lawRuns (a1 : List Op_) (h : a1.length ≤ maxLen ∧ ∀ x ∈ a1, Op_.ok x) : f3 a1 = some true := by
 have e13 : f13 0 = some (Qd.mk 0 [], 0) := by kernel_rfl
 unfold f3 f3n0
 rw [alive_t, f11_eq h.1]
 simp only [Option.bind_some]
 cases hg : greatB a1 with
 | true => rfl
 | false =>
  obtain ⟨h1, h2⟩ := great_small hg
  have h3 : f3n1 a1 true (⟨0, []⟩, 0) (⟨0, []⟩, 0) = some .norm := by
   unfold f3n1
   rw [f3n2_run a1 true _ _ h.1, f3n2L_eq' a1 true a1 0 _ (Nat.zero_le _) fun x hx => (h2 x hx).1]; rfl
  simp only [cond_false, cond_true, ex0, e13, Option.bind_some, decide_true, h3]
end Go.Proofs.Ytelblamgfbkhbaa
