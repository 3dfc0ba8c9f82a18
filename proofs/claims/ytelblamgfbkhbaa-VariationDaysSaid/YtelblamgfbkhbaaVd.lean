/- Several texts in one. No condition. -/
import Derived.Test.YtelblamgfbkhbaaVa
namespace Go.Proofs.Ytelblamgfbkhbaa
set_option linter.unusedVariables false
set_option linter.unusedSimpArgs false
open Go.RowKit
abbrev VP := VariationPosition
theorem fit_small {n b : Nat} (h : n ≤ 1000000) (hb : b ≤ 1000000) : fit n b = true := by
 unfold fit
 have : n * b ≤ 1000000 * 1000000 := Nat.mul_le_mul h hb
 simp only [Bool.and_eq_true, Nat.ble_eq]
 omega
theorem lt_not (a b : Int) : decide (a < b) = !decide (b ≤ a) := by
 by_cases h : a < b
 ·rw [decide_eq_true h, decide_eq_false (by omega)]; rfl
 ·rw [decide_eq_false h, decide_eq_true (by omega)]; rfl
theorem dec_nat (a b : Nat) : decide ((a : Int) ≤ (b : Int)) = decide (a ≤ b) := by congr 1; apply propext; omega
theorem wr_in {n : Int} (h1 : -9223372036854775808 ≤ n) (h2 : n ≤ 9223372036854775807) : wr64 n = n := w64 rfl h1 h2

def letterI (c : Int) : Bool := (decide (97 ≤ c) && decide (c ≤ 122)) || (decide (65 ≤ c) && decide (c ≤ 90))
def otherI (c : Int) : Bool := (decide (48 ≤ c) && decide (c ≤ 57)) || (decide (c = 95) || decide (c = 45))
theorem f62_eq (c : Int) : f62 c = some (letterI c) := by
 unfold f62 f62n0 letterI
 cases decide (97 ≤ c) <;> cases decide (c ≤ 122) <;> cases decide (65 ≤ c) <;> cases decide (c ≤ 90) <;> rfl
def charB (b : UInt8) : Bool := letterI b.toNat || otherI b.toNat
def isName (l : List UInt8) : Bool := match l with
 | [] => false
 | b :: r => decide (l.length ≤ 40) && (letterI b.toNat && r.all charB)
theorem f45n2L_at (bc : ByteArray) : ∀ (l : List UInt8) (v : Int), f45n2L bc l v = some (bif l.all charB then .exit0 else .ret)
 | [], v => rfl
 | b :: r, v => by
  rw [f45n2L, f62_eq]
  simp only [Option.bind_some, f45n2L_at bc r, lt_not, List.all_cons, charB, otherI]
  cases letterI b.toNat <;> cases decide ((48 : Int) ≤ (b.toNat : Int)) <;> cases decide ((b.toNat : Int) ≤ 57) <;> cases decide ((b.toNat : Int) = 95) <;> cases decide ((b.toNat : Int) = 45) <;> rfl
theorem size_list' (s : ByteArray) : s.size = s.data.toList.length := rfl
theorem f45_eq (s : ByteArray) : f45 s = some (isName s.data.toList) := by
 unfold f45 f45n0 f45n1
 rw [size_list']
 by_cases hs : s.data.toList.length ≤ 40
 ·have hm : s.data.toList.length ≤ maxLen := Nat.le_trans hs (by unfold maxLen; decide)
  rw [f45n2_run s hm, f45n2L_at]
  generalize s.data.toList = l at hs hm
  cases l with
  | nil => rfl
  | cons b r =>
   have h1 : ¬ (((b :: r).length : Nat) : Int) < 1 := by simp; omega
   have h2 : ¬ (40 : Int) < (((b :: r).length : Nat) : Int) := by omega
   rw [decide_eq_false h1, decide_eq_false h2]
   have h0 : at? (b :: r) 0 = some b := rfl
   simp only [cond_false, h0, Option.bind_some, f62_eq, isName, List.all_cons, charB, decide_eq_true hs]
   cases letterI b.toNat <;> cases r.all charB <;> cases otherI b.toNat <;> rfl
 ·have h1 : ¬ ((s.data.toList.length : Nat) : Int) < 1 := by omega
  have h2 : (40 : Int) < ((s.data.toList.length : Nat) : Int) := by omega
  rw [decide_eq_false h1, decide_eq_true h2]
  have : isName s.data.toList = false := by
   generalize s.data.toList = l at hs
   cases l with
   | nil => rfl
   | cons b r => simp only [isName, decide_eq_false hs, Bool.false_and]
  rw [this]; rfl
def nameB (s : ByteArray) : Bool := isName s.data.toList
def partyB (s : ByteArray) : Bool := !(seq s str_house) && nameB s
theorem f44_eq (s : ByteArray) : f44 s = some (partyB s) := by
 unfold f44 f44n0 partyB nameB
 rw [f45_eq]
 cases seq s str_house <;> rfl

def inR (n lim : Int) : Bool := decide (-lim ≤ n) && decide (n ≤ lim)
theorem f37_eq (n : Int) {lim : Int} (h0 : 0 ≤ lim) (h : lim ≤ 9223372036854775807) : f37 n lim = some (inR n lim) := by
 unfold f37 f37n0 inR
 rw [show wr64 (0 - lim) = -lim from w64 (by omega) (by omega) (by omega)]
 cases decide (-lim ≤ n) <;> rfl
theorem f37_q (n : Int) : f37 n 1048576 = some (inR n 1048576) := f37_eq n (by decide) (by decide)
theorem f37_b (n : Int) : f37 n 1125899906842624 = some (inR n 1125899906842624) := f37_eq n (by decide) (by decide)
theorem f37_p (n : Int) : f37 n 536870912 = some (inR n 536870912) := f37_eq n (by decide) (by decide)
theorem inR_iff {n lim : Int} : inR n lim = true ↔ -lim ≤ n ∧ n ≤ lim := by simp [inR]
def zeroP (x : VP) : Bool := decide (x.Quantity = 0) && decide (x.Basis = 0)
theorem eqb_zero (x : VP) : VariationPosition.eqb x (VariationPosition.mk x.Member x.Product 0 0) = zeroP x := by
 unfold VariationPosition.eqb zeroP
 rw [Qas, Qas]; rfl
def keyLt (a b : VP) : Bool := slt a.Member b.Member || (seq a.Member b.Member && slt a.Product b.Product)
def cmpK (a b : VP) : Int := bif decide (cmpB a.Member b.Member = 0) then cmpB a.Product b.Product else cmpB a.Member b.Member
theorem f66_two (x y : Int) : f66 [x, y] = some (bif decide (x = 0) then y else x) := by
 unfold f66 f66n0 f66n1
 rw [f66n2_run [x, y] (by show (2 : Nat) ≤ maxLen; unfold maxLen; decide)]
 by_cases hx : x = 0
 ·by_cases hy : y = 0
  ·subst hx; subst hy; rfl
  ·simp only [f66n2L, decide_eq_true hx, decide_eq_false hy, cond_true, cond_false, Option.bind_some]
 ·simp only [f66n2L, decide_eq_false hx, cond_false, Option.bind_some]
theorem f53_eq (a b : VP) : f53 a b = some (cmpK a b) := by
 unfold f53 f53n0
 rw [f40_val, f40_val]
 simp only [Option.bind_some]
 rw [f66_two]
 rfl
theorem cmpK_neg (a b : VP) : decide (cmpK a b < 0) = keyLt a b := by
 unfold cmpK keyLt
 cases h : slt a.Member b.Member with
 | true =>
  have h1 := Qbm.2 h
  rw [decide_eq_false (by omega : ¬ cmpB a.Member b.Member = 0)]
  simp [h1]
 | false =>
  cases k : seq a.Member b.Member with
  | true =>
   rw [decide_eq_true (cmpB_zero.2 (Qbn.1 k))]
   simp only [cond_true, Bool.false_or, Bool.true_and]
   cases h2 : slt a.Product b.Product with
   | true => exact decide_eq_true (Qbm.2 h2)
   | false => exact decide_eq_false fun h3 => by rw [Qbm.1 h3] at h2; cases h2
  | false =>
   have h1 : ¬ cmpB a.Member b.Member = 0 := fun e => by rw [Qbn.2 (cmpB_zero.1 e)] at k; cases k
   have h2 : ¬ cmpB a.Member b.Member < 0 := fun e => by rw [Qbm.1 e] at h; cases h
   rw [decide_eq_false h1]
   simp only [cond_false, decide_eq_false h2, Bool.false_and, Bool.or_self]

def goodP (x : VP) : Bool := inR x.Quantity 1048576 && (inR x.Basis 1125899906842624 && (!zeroP x && (partyB x.Member && nameB x.Product)))
def ordAt : Option VP → VP → Bool
 | none, _ => true
 | some y, x => keyLt y x
def okL : Option VP → List VP → Bool
 | _, [] => true
 | p, x :: r => ordAt p x && (goodP x && okL (some x) r)
def accL : List VP → List (ByteArray × Ql) → List (ByteArray × Ql)
 | [], m => m
 | x :: r, m => accL r (mPut seq x.Product (Ql.mk (wr64 ((mGet seq (Ql.mk 0 0) x.Product m).quantity + x.Quantity)) (wr64 ((mGet seq (Ql.mk 0 0) x.Product m).basis + x.Basis))) m)
theorem f26n2L_at (s : Qc) : ∀ (l pre : List VP) (m : List (ByteArray × Ql)), s.Positions = pre ++ l → s.Positions.length ≤ 1000 → f26n2L s l ((pre.length : Nat) : Int) m = some (bif okL pre.getLast? l then .exit0 (accL l m) else .ret)
 | [], pre, m, _, _ => rfl
 | x :: r, pre, m, h, hb => by
  have ih := f26n2L_at s r (pre ++ [x]) (mPut seq x.Product (Ql.mk (wr64 ((mGet seq (Ql.mk 0 0) x.Product m).quantity + x.Quantity)) (wr64 ((mGet seq (Ql.mk 0 0) x.Product m).basis + x.Basis))) m) (by rw [h]; simp) hb
  rw [List.length_append, List.getLast?_concat, show (((pre.length + [x].length : Nat)) : Int) = (pre.length : Int) + 1 from by simp] at ih
  have e45 : f45 x.Product = some (nameB x.Product) := f45_eq _
  rw [f26n2L]
  simp only [f37_q, f37_b, Option.bind_some, eqb_zero, f44_eq, e45, ih, okL, goodP]
  rcases List.eq_nil_or_concat pre with rfl | ⟨q, y, rfl⟩
  ·simp only [List.length_nil, Int.natCast_zero, decide_true, cond_true, List.getLast?_nil, ordAt, Bool.true_and]
   cases inR x.Quantity 1048576 <;> cases inR x.Basis 1125899906842624 <;> cases zeroP x <;> cases partyB x.Member <;> cases nameB x.Product <;> cases okL (some x) r <;> rfl
  ·rw [List.concat_eq_append] at h ⊢
   have hne : ¬ (((q ++ [y]).length : Nat) : Int) = 0 := by simp; omega
   have hlen : q.length + 1 ≤ 1000 := by rw [h] at hb; simp at hb; omega
   have hw : wr64 ((((q ++ [y]).length : Nat) : Int) - 1) = ((q.length : Nat) : Int) := w64 (by simp) (by omega) (by omega)
   have hat : at? s.Positions ((q.length : Nat) : Int) = some y := by rw [at_nat, h]; simp
   rw [decide_eq_false hne, hw, hat, List.getLast?_concat]
   simp only [cond_false, Option.bind_some, f53_eq, cmpK_neg, ordAt]
   cases inR x.Quantity 1048576 <;> cases inR x.Basis 1125899906842624 <;> cases zeroP x <;> cases partyB x.Member <;> cases nameB x.Product <;> cases okL (some x) r <;> cases keyLt y x <;> rfl
def zeroM (m : List (ByteArray × Ql)) : Bool := m.all fun x => Ql.eqb x.2 (Ql.mk 0 0)
theorem f26n4_eq (bd : List (ByteArray × Ql)) : ∀ l : List (ByteArray × Ql), f26n4 bd l = some (bif zeroM l then .exit2 else .ret)
 | [] => rfl
 | x :: r => by
  rw [f26n4, f26n4_eq bd r, zeroM, zeroM, List.all_cons]
  cases Ql.eqb x.2 (Ql.mk 0 0) <;> rfl
theorem f26n3_eq (bd : List (ByteArray × Ql)) : f26n3 bd = some (bif zeroM bd then .norm else .ret) := by
 unfold f26n3
 have hp : ∀ p, p.Perm bd → f26n4 bd p = some (bif zeroM bd then .exit2 else .ret) := fun p hp => by
  rw [f26n4_eq, zeroM, hp.all_eq]; rfl
 rw [anyOrder_of hp]
 cases zeroM bd <;> rfl
def checkB (s : Qc) : Bool := decide (0 ≤ s.Day) && (decide (s.Day ≤ 99999) && (decide (s.Positions.length ≤ 200) && (okL none s.Positions && zeroM (accL s.Positions []))))
theorem f26_eq (s : Qc) : f26 s = some (bif checkB s then 0 else 8) := by
 unfold f26 f26n0 f26n1 checkB
 rw [lt_not, lt_not, lt_not, show decide ((s.Positions.length : Int) ≤ 200) = decide (s.Positions.length ≤ 200) from dec_nat _ 200]
 by_cases hl : s.Positions.length ≤ 200
 ·have hm : s.Positions.length ≤ maxLen := Nat.le_trans hl (by unfold maxLen; decide)
  rw [f26n2_run s [] hm]
  have := f26n2L_at s s.Positions [] [] rfl (by omega)
  rw [show (((([] : List VP).length : Nat)) : Int) = 0 from rfl, List.getLast?_nil] at this
  rw [this, decide_eq_true hl]
  cases decide (0 ≤ s.Day) with
  | false => rfl
  | true => cases decide (s.Day ≤ 99999) with
   | false => rfl
   | true => cases okL none s.Positions with
    | false => rfl
    | true =>
     simp only [Bool.not_true, cond_false, cond_true, Option.bind_some, f26n3_eq, Bool.true_and]
     cases zeroM (accL s.Positions []) <;> rfl
 ·rw [decide_eq_false hl]
  cases decide (0 ≤ s.Day) <;> cases decide (s.Day ≤ 99999) <;> rfl
end Go.Proofs.Ytelblamgfbkhbaa
namespace Go.Proofs.Ytelblamgfbkhbaa
set_option linter.unusedVariables false
set_option linter.unusedSimpArgs false
open Go.RowKit
theorem wr_l (a b : Int) : wr64 (wr64 a + b) = wr64 (a + b) := by
 show IntKind.i64.wrap (IntKind.i64.wrap a + b) = IntKind.i64.wrap (a + b)
 simp only [IntKind.wrap_i64]; omega

theorem keyLt_iff {a b : VP} : keyLt a b = true ↔ slt a.Member b.Member = true ∨ (a.Member = b.Member ∧ slt a.Product b.Product = true) := by
 unfold keyLt
 rw [Bool.or_eq_true, Bool.and_eq_true, Qbn]
theorem keyLt_trans {a b c : VP} (h : keyLt a b = true) (k : keyLt b c = true) : keyLt a c = true := by
 rw [keyLt_iff] at *
 rcases h with h | ⟨h, h'⟩ <;> rcases k with k | ⟨k, k'⟩
 ·exact .inl (slt_trans h k)
 ·exact .inl (by rw [← k]; exact h)
 ·exact .inl (by rw [h]; exact k)
 ·exact .inr ⟨h.trans k, slt_trans h' k'⟩
def sameK (a b : VP) : Bool := seq a.Member b.Member && seq a.Product b.Product
abbrev Srt (l : List VP) : Prop := l.Pairwise fun a b => keyLt a b = true
theorem okL_some : ∀ {l : List VP} {p : VP}, okL (some p) l = true ↔ (p :: l).Pairwise (fun a b => keyLt a b = true) ∧ ∀ x ∈ l, goodP x = true
 | [], p => by simp [okL]
 | y :: r, p => by
  rw [okL, ordAt, Bool.and_eq_true, Bool.and_eq_true, okL_some (l := r)]
  constructor
  ·rintro ⟨h1, h2, h3, h4⟩
   refine ⟨List.pairwise_cons.2 ⟨fun z hz => ?_, h3⟩, fun z hz => ?_⟩
   ·rcases List.mem_cons.1 hz with rfl | hz
    ·exact h1
    ·exact keyLt_trans h1 ((List.pairwise_cons.1 h3).1 z hz)
   ·rcases List.mem_cons.1 hz with rfl | hz
    ·exact h2
    ·exact h4 z hz
  ·rintro ⟨h1, h2⟩
   have h3 := List.pairwise_cons.1 h1
   exact ⟨h3.1 y List.mem_cons_self, h2 y List.mem_cons_self, h3.2, fun z hz => h2 z (List.mem_cons_of_mem _ hz)⟩
theorem okL_none {l : List VP} : okL none l = true ↔ Srt l ∧ ∀ x ∈ l, goodP x = true := by
 cases l with
 | nil => simp [okL]
 | cons y r =>
  rw [okL, ordAt, Bool.and_eq_true, Bool.and_eq_true, okL_some]
  constructor
  ·rintro ⟨_, h2, h3, h4⟩
   refine ⟨h3, fun z hz => ?_⟩
   rcases List.mem_cons.1 hz with rfl | hz
   ·exact h2
   ·exact h4 z hz
  ·rintro ⟨h1, h2⟩
   exact ⟨rfl, h2 y List.mem_cons_self, h1, fun z hz => h2 z (List.mem_cons_of_mem _ hz)⟩
section
variable {V : Type}
theorem get_put (z v : V) (k q : ByteArray) : ∀ m : List (ByteArray × V), mGet seq z q (mPut seq k v m) = bif seq q k then v else mGet seq z q m
 | [] => by simp [mPut, mGet]
 | (a, w) :: r => by
  simp only [mPut, mGet]
  cases hk : seq k a with
  | true =>
   have := Qbn.1 hk; subst this
   simp only [cond_true, mGet]
   cases seq q k <;> rfl
  | false =>
   simp only [cond_false, mGet]
   cases hq : seq q a with
   | true =>
    have := Qbn.1 hq; subst this
    simp only [cond_true]
    cases h : seq q k with
    | true => have := Qbn.1 h; subst this; rw [Qas] at hk; cases hk
    | false => rfl
   | false => simp only [cond_false]; exact get_put z v k q r
abbrev ndM (m : List (ByteArray × V)) : Prop := m.Pairwise fun a b => a.1 ≠ b.1
theorem put_mem {k : ByteArray} {v : V} {x : ByteArray × V} : ∀ {m : List (ByteArray × V)}, x ∈ mPut seq k v m → x = (k, v) ∨ x ∈ m
 | [], h => by left; simpa [mPut] using h
 | (a, w) :: r, h => by
  rw [mPut] at h
  cases hk : seq k a with
  | true =>
   rw [hk, cond_true] at h
   have := Qbn.1 hk; subst this
   rcases List.mem_cons.1 h with h | h
   ·exact .inl h
   ·exact .inr (List.mem_cons_of_mem _ h)
  | false =>
   rw [hk, cond_false] at h
   rcases List.mem_cons.1 h with h | h
   ·exact .inr (by rw [h]; exact List.mem_cons_self)
   ·rcases put_mem h with h | h
    ·exact .inl h
    ·exact .inr (List.mem_cons_of_mem _ h)
theorem put_nd {k : ByteArray} {v : V} : ∀ {m : List (ByteArray × V)}, ndM m → ndM (mPut seq k v m)
 | [], _ => by simp [mPut, ndM]
 | (a, w) :: r, h => by
  have h' := List.pairwise_cons.1 h
  rw [mPut]
  cases hk : seq k a with
  | true => exact List.pairwise_cons.2 ⟨fun y hy => h'.1 y hy, h'.2⟩
  | false =>
   refine List.pairwise_cons.2 ⟨fun y hy => ?_, put_nd h'.2⟩
   rcases put_mem hy with rfl | hy
   ·intro e
    have e' : a = k := e
    rw [e', Qas] at hk; cases hk
   ·exact h'.1 y hy
theorem get_mem {z : V} {k : ByteArray} {v : V} : ∀ {m : List (ByteArray × V)}, ndM m → (k, v) ∈ m → mGet seq z k m = v
 | (a, w) :: r, h, hm => by
  have h' := List.pairwise_cons.1 h
  rw [mGet]
  rcases List.mem_cons.1 hm with e | hm
  ·have e1 : k = a := congrArg Prod.fst e
   have e2 : v = w := congrArg Prod.snd e
   rw [e1, e2, Qas]; rfl
  ·cases hk : seq k a with
   | true => exact absurd (Qbn.1 hk).symm (h'.1 _ hm)
   | false => exact get_mem h'.2 hm
end
def sm (w : VP → Int) : List VP → Int
 | [] => 0
 | x :: r => w x + sm w r
theorem sm_bound (w : VP → Int) (b : Int) : ∀ l : List VP, (∀ x ∈ l, -b ≤ w x ∧ w x ≤ b) → -(b * l.length) ≤ sm w l ∧ sm w l ≤ b * l.length
 | [], _ => by simp [sm]
 | x :: r, h => by
  have h1 := h x List.mem_cons_self
  have h2 := sm_bound w b r fun y hy => h y (List.mem_cons_of_mem _ hy)
  simp only [sm, List.length_cons, Int.natCast_add, Int.mul_add]
  simp only [Int.natCast_one, Int.mul_one]
  omega
def wq (p : ByteArray) (x : VP) : Int := bif seq x.Product p then x.Quantity else 0
def wb (p : ByteArray) (x : VP) : Int := bif seq x.Product p then x.Basis else 0
theorem acc_get (p : ByteArray) : ∀ (l : List VP) (m : List (ByteArray × Ql)) (a b : Int), mGet seq (Ql.mk 0 0) p m = ⟨wr64 a, wr64 b⟩ → mGet seq (Ql.mk 0 0) p (accL l m) = ⟨wr64 (a + sm (wq p) l), wr64 (b + sm (wb p) l)⟩
 | [], m, a, b, h => by simpa [accL, sm] using h
 | x :: r, m, a, b, h => by
  rw [accL, acc_get p r _ (a + wq p x) (b + wb p x)]
  ·simp only [sm, Int.add_assoc]
  ·rw [get_put]
   cases hk : seq p x.Product with
   | true =>
    have := Qbn.1 hk; subst this
    simp only [cond_true, h, wr_l, wq, wb, Qas]
   | false =>
    have : seq x.Product p = false := by
     cases k : seq x.Product p with
     | false => rfl
     | true => rw [Qbn.1 k, Qas] at hk; cases hk
    simp only [cond_false, h, wq, wb, this, Int.add_zero]
theorem acc_nd : ∀ (l : List VP) {m : List (ByteArray × Ql)}, ndM m → ndM (accL l m)
 | [], m, h => h
 | x :: r, m, h => acc_nd r (put_nd h)
theorem acc_nil (p : ByteArray) (l : List VP) : mGet seq (Ql.mk 0 0) p (accL l []) = ⟨wr64 (sm (wq p) l), wr64 (sm (wb p) l)⟩ := by
 have := acc_get p l [] 0 0 rfl
 simpa using this
theorem zget {m : List (ByteArray × Ql)} (h : zeroM m = true) (p : ByteArray) : mGet seq (Ql.mk 0 0) p m = ⟨0, 0⟩ := by
 induction m with
 | nil => rfl
 | cons x r ih =>
  obtain ⟨k, ⟨a, b⟩⟩ := x
  unfold zeroM at h
  rw [List.all_cons, Bool.and_eq_true] at h
  have h1 := h.1
  simp only [Ql.eqb, Bool.and_eq_true, decide_eq_true_eq] at h1
  rw [mGet, ih h.2, h1.1, h1.2]
  cases seq p k <;> rfl
def Flat (l : List VP) : Prop := ∀ p, sm (wq p) l = 0 ∧ sm (wb p) l = 0
theorem good_q {x : VP} (h : goodP x = true) : -1048576 ≤ x.Quantity ∧ x.Quantity ≤ 1048576 := by
 unfold goodP at h; rw [Bool.and_eq_true] at h; exact inR_iff.1 h.1
theorem good_b {x : VP} (h : goodP x = true) : -1125899906842624 ≤ x.Basis ∧ x.Basis ≤ 1125899906842624 := by
 unfold goodP at h; rw [Bool.and_eq_true, Bool.and_eq_true] at h; exact inR_iff.1 h.2.1
theorem wq_bound {l : List VP} (h : ∀ x ∈ l, goodP x = true) (hl : l.length ≤ 200) (p : ByteArray) : -209715200 ≤ sm (wq p) l ∧ sm (wq p) l ≤ 209715200 := by
 have := sm_bound (wq p) 1048576 l fun x hx => by
  have := good_q (h x hx)
  unfold wq
  cases seq x.Product p <;> simp only [cond_true, cond_false] <;> omega
 omega
theorem wb_bound {l : List VP} (h : ∀ x ∈ l, goodP x = true) (hl : l.length ≤ 200) (p : ByteArray) : -225179981368524800 ≤ sm (wb p) l ∧ sm (wb p) l ≤ 225179981368524800 := by
 have := sm_bound (wb p) 1125899906842624 l fun x hx => by
  have := good_b (h x hx)
  unfold wb
  cases seq x.Product p <;> simp only [cond_true, cond_false] <;> omega
 omega
theorem zeroM_iff {l : List VP} (h : ∀ x ∈ l, goodP x = true) (hl : l.length ≤ 200) : zeroM (accL l []) = true ↔ Flat l := by
 constructor
 ·intro hz p
  have h1 := acc_nil p l
  rw [zget hz p, Ql.mk.injEq] at h1
  have h2 := wq_bound h hl p
  have h3 := wb_bound h hl p
  rw [wr_in (by omega) (by omega), wr_in (by omega) (by omega)] at h1
  exact ⟨h1.1.symm, h1.2.symm⟩
 ·intro hf
  unfold zeroM
  rw [List.all_eq_true]
  rintro ⟨k, v⟩ hx
  have h1 := get_mem (z := Ql.mk 0 0) (acc_nd l (m := []) List.Pairwise.nil) hx
  rw [acc_nil, (hf k).1, (hf k).2] at h1
  rw [← h1]; rfl
structure Ok (s : Qc) : Prop where
 d0 : 0 ≤ s.Day
 d1 : s.Day ≤ 99999
 len : s.Positions.length ≤ 200
 srt : Srt s.Positions
 good : ∀ x ∈ s.Positions, goodP x = true
 flat : Flat s.Positions
theorem check_iff {s : Qc} : checkB s = true ↔ Ok s := by
 unfold checkB
 simp only [Bool.and_eq_true, decide_eq_true_eq, okL_none]
 constructor
 ·rintro ⟨h1, h2, h3, ⟨h4, h5⟩, h6⟩
  exact ⟨h1, h2, h3, h4, h5, (zeroM_iff h5 h3).1 h6⟩
 ·rintro ⟨h1, h2, h3, h4, h5, h6⟩
  exact ⟨h1, h2, h3, ⟨h4, h5⟩, (zeroM_iff h5 h3).2 h6⟩

abbrev midI (lo hi : Int) : Int := wr64 (shrK .u64 (wru64 (wr64 (lo + hi))) 1)
theorem mid_eq {lo hi : Nat} (h : lo + hi ≤ 1000000) : midI lo hi = (((lo + hi) / 2 : Nat) : Int) := by
 have h1 : wr64 ((lo : Int) + (hi : Int)) = ((lo + hi : Nat) : Int) := by rw [wr_in (by omega) (by omega)]; omega
 have h2 : wru64 ((lo + hi : Nat) : Int) = ((lo + hi : Nat) : Int) := by
  show IntKind.u64.wrap _ = _
  rw [IntKind.wrap_u64]; omega
 unfold midI
 rw [h1, h2]
 have h3 : shrK .u64 ((lo + hi : Nat) : Int) 1 = (((lo + hi) / 2 : Nat) : Int) := by
  show Int.fdiv _ (2 ^ (min (1 : Int).toNat IntKind.u64.bits)) = _
  have : (2 : Int) ^ (min (1 : Int).toNat IntKind.u64.bits) = 2 := by decide
  rw [this, Int.fdiv_eq_ediv_of_nonneg _ (by omega)]
  omega
 rw [h3, wr_in (by omega) (by omega)]
def bsr {α : Type} (c : α → Int) (l : List α) : Nat → Int → Int → Option Int
 | 0, _, _ => none
 | f + 1, lo, hi => bif decide (lo < hi) then (at? l (midI lo hi)).bind fun x => bif decide (c x < 0) then bsr c l f (wr64 (midI lo hi + 1)) hi else bsr c l f lo (midI lo hi) else some lo
theorem bsr_ok {α : Type} (c : α → Int) (l : List α) (hl : l.length ≤ 400000) (mono : ∀ (i j : Nat) (x y : α), i ≤ j → l[i]? = some x → l[j]? = some y → c y < 0 → c x < 0) :
  ∀ (f lo hi : Nat), lo ≤ hi → hi ≤ l.length → hi - lo < f → (∀ (j : Nat) (x : α), j < lo → l[j]? = some x → c x < 0) → (∀ (j : Nat) (x : α), hi ≤ j → l[j]? = some x → ¬ c x < 0) →
   ∃ i : Nat, bsr c l f lo hi = some (i : Int) ∧ i ≤ l.length ∧ (∀ (j : Nat) (x : α), j < i → l[j]? = some x → c x < 0) ∧ (∀ (j : Nat) (x : α), i ≤ j → l[j]? = some x → ¬ c x < 0)
 | 0, lo, hi, _, _, h, _, _ => by omega
 | f + 1, lo, hi, h1, h2, h3, h4, h5 => by
  rw [bsr]
  by_cases h : lo < hi
  ·have hm : (lo + hi) / 2 < l.length := by omega
   obtain ⟨x, hx⟩ : ∃ x, l[(lo + hi) / 2]? = some x := ⟨l[(lo + hi) / 2], List.getElem?_eq_getElem hm⟩
   rw [decide_eq_true (by omega : (lo : Int) < (hi : Int)), mid_eq (by omega), at_nat, hx]
   simp only [cond_true, Option.bind_some]
   by_cases hc : c x < 0
   ·rw [decide_eq_true hc, cond_true, wr_in (by omega) (by omega)]
    have := bsr_ok c l hl mono f ((lo + hi) / 2 + 1) hi (by omega) h2 (by omega) (fun j y hj hy => mono j _ y x (by omega) hy hx hc) h5
    simpa using this
   ·rw [decide_eq_false hc, cond_false]
    exact bsr_ok c l hl mono f lo ((lo + hi) / 2) (by omega) (by omega) (by omega) h4 fun j y hj hy e => hc (mono _ j x y hj hx hy e)
  ·rw [decide_eq_false (by omega : ¬ (lo : Int) < (hi : Int)), cond_false]
   have : lo = hi := by omega
   subst this
   exact ⟨lo, rfl, h2, h4, h5⟩
theorem bsr_split {α : Type} (c : α → Int) (l : List α) (hl : l.length ≤ 400000) (mono : ∀ (i j : Nat) (x y : α), i ≤ j → l[i]? = some x → l[j]? = some y → c y < 0 → c x < 0) :
  ∃ pre post : List α, l = pre ++ post ∧ bsr c l FUEL 0 l.length = some (pre.length : Int) ∧ (∀ x ∈ pre, c x < 0) ∧ (∀ x ∈ post, ¬ c x < 0) := by
 obtain ⟨i, h1, h2, h3, h4⟩ := bsr_ok c l hl mono FUEL 0 l.length (by omega) (by omega) (by unfold FUEL; omega) (fun j x hj => by omega) (fun j x hj hx => by have := lt_of_at hx; omega)
 refine ⟨l.take i, l.drop i, (List.take_append_drop i l).symm, ?_, fun x hx => ?_, fun x hx => ?_⟩
 ·rw [List.length_take, Nat.min_eq_left h2]; exact h1
 ·obtain ⟨j, hj⟩ := List.mem_iff_getElem?.1 hx
  have := lt_of_at hj
  rw [List.length_take] at this
  rw [List.getElem?_take_of_lt (by omega)] at hj
  exact h3 j x (by omega) hj
 ·obtain ⟨j, hj⟩ := List.mem_iff_getElem?.1 hx
  rw [List.getElem?_drop] at hj
  exact h4 (i + j) x (by omega) hj
end Go.Proofs.Ytelblamgfbkhbaa
namespace Go.Proofs.Ytelblamgfbkhbaa
set_option linter.unusedVariables false
set_option linter.unusedSimpArgs false
open Go.RowKit
def nz (x : VP) : List VP := bif zeroP x then [] else [x]
def upd (x : VP) (q b : Int) : VP := ⟨x.Member, x.Product, wr64 (x.Quantity + q), wr64 (x.Basis + b)⟩
def putL (k : VP) (q b : Int) : List VP → List VP
 | [] => nz (upd k q b)
 | x :: r => bif keyLt x k then x :: putL k q b r else bif sameK x k then nz (upd x q b) ++ r else nz (upd k q b) ++ x :: r
def putP (k : VP) (q b : Int) : List VP → VP
 | [] => upd k q b
 | x :: r => bif keyLt x k then putP k q b r else bif sameK x k then upd x q b else upd k q b


def vl (k : VP) : List VP → Int × Int
 | [] => (0, 0)
 | x :: r => bif sameK x k then (x.Quantity, x.Basis) else vl k r
end Go.Proofs.Ytelblamgfbkhbaa
namespace Go.Proofs.Ytelblamgfbkhbaa
set_option linter.unusedVariables false
set_option linter.unusedSimpArgs false
open Go.RowKit
theorem mul_bd {a b : Int} {x y : Nat} (h : a.natAbs ≤ x) (k : b.natAbs ≤ y) : (a * b).natAbs ≤ x * y := by
 rw [Int.natAbs_mul]; exact Nat.mul_le_mul h k
abbrev kOf (m p : ByteArray) : VP := ⟨m, p, 0, 0⟩
def tA (s : Qc) (bu pr : ByteArray) (q p : Int) : VP := putP (kOf bu pr) q (q * p) s.Positions
def tL1 (s : Qc) (bu pr : ByteArray) (q p : Int) : List VP := putL (kOf bu pr) q (q * p) s.Positions
def tB (s : Qc) (bu se pr : ByteArray) (q p : Int) : VP := putP (kOf se pr) (-q) (-(q * p)) (tL1 s bu pr q p)
def tL2 (s : Qc) (bu se pr : ByteArray) (q p : Int) : List VP := putL (kOf se pr) (-q) (-(q * p)) (tL1 s bu pr q p)
def noV : Qc := ⟨0, []⟩
structure Ask (bu se pr : ByteArray) (q p : Int) : Prop where
 bp : partyB bu = true
 sp : partyB se = true
 ne : seq bu se = false
 np : nameB pr = true
 q0 : 1 ≤ q
 q1 : q ≤ 1048576
 p0 : -536870912 ≤ p
 p1 : p ≤ 536870912

abbrev Bd (l : List VP) : Prop := ∀ x ∈ l, (-1048576 ≤ x.Quantity ∧ x.Quantity ≤ 1048576) ∧ (-1125899906842624 ≤ x.Basis ∧ x.Basis ≤ 1125899906842624)
def wm (m : ByteArray) (x : VP) : Int := bif seq x.Member m then x.Basis else 0
section
variable {m p : ByteArray} {q b : Int} {l : List VP} (hb : Bd l) (hq : -1048576 ≤ q ∧ q ≤ 1048576) (hm : -1125899906842624 ≤ b ∧ b ≤ 1125899906842624)
include hb hq
omit hq
include hm
end
structure Took (s : Qc) (bu se pr : ByteArray) (q p : Int) : Prop where
 ok : Ok s
 ask : Ask bu se pr q p
 qb : inR (tB s bu se pr q p).Quantity 1048576 = true
 qa : inR (tA s bu pr q p).Quantity 1048576 = true
 bb : inR (tB s bu se pr q p).Basis 1125899906842624 = true
 ba : inR (tA s bu pr q p).Basis 1125899906842624 = true
 len : (tL2 s bu se pr q p).length ≤ 200
section
variable {s : Qc} {bu se pr : ByteArray} {q p : Int} (h : Took s bu se pr q p)
include h
end
end Go.Proofs.Ytelblamgfbkhbaa
namespace Go.Proofs.Ytelblamgfbkhbaa
set_option linter.unusedVariables false
set_option linter.unusedSimpArgs false
open Go.RowKit
abbrev PR_ := Qb
def pAt : Option PR_ → PR_ → Bool
 | none, _ => true
 | some y, x => slt y.Product x.Product
def pOk : Option PR_ → List PR_ → Bool
 | _, [] => true
 | p, x :: r => pAt p x && (nameB x.Product && (inR x.Price 536870912 && pOk (some x) r))
theorem f35n2L_at (s : List PR_) : ∀ (l pre : List PR_), s = pre ++ l → s.length ≤ 1000 → f35n2L s l ((pre.length : Nat) : Int) = some (bif pOk pre.getLast? l then .exit0 else .ret)
 | [], pre, _, _ => rfl
 | x :: r, pre, h, hb => by
  have ih := f35n2L_at s r (pre ++ [x]) (by rw [h]; simp) hb
  rw [List.length_append, List.getLast?_concat, show (((pre.length + [x].length : Nat)) : Int) = (pre.length : Int) + 1 from by simp] at ih
  have e45 : f45 x.Product = some (nameB x.Product) := f45_eq _
  rw [f35n2L]
  simp only [f37_p, Option.bind_some, e45, ih, pOk]
  rcases List.eq_nil_or_concat pre with rfl | ⟨q, y, rfl⟩
  ·simp only [List.length_nil, Int.natCast_zero, List.getLast?_nil, pAt, Bool.true_and]
   rw [decide_eq_false (by omega : ¬ (0 : Int) < 0)]
   cases nameB x.Product <;> cases inR x.Price 536870912 <;> cases pOk (some x) r <;> rfl
  ·rw [List.concat_eq_append] at h ⊢
   have hne : (0 : Int) < (((q ++ [y]).length : Nat) : Int) := by simp
   have hlen : q.length + 1 ≤ 1000 := by rw [h] at hb; simp at hb; omega
   have hw : wr64 ((((q ++ [y]).length : Nat) : Int) - 1) = ((q.length : Nat) : Int) := w64 (by simp) (by omega) (by omega)
   have hat : at? s ((q.length : Nat) : Int) = some y := by rw [at_nat, h]; simp
   rw [decide_eq_true hne, hw, hat, List.getLast?_concat]
   simp only [cond_true, Option.bind_some, pAt]
   cases slt y.Product x.Product <;> cases nameB x.Product <;> cases inR x.Price 536870912 <;> cases pOk (some x) r <;> rfl
def Qbw (ps : List PR_) : Bool := pOk none ps && decide (ps.length ≤ 200)
theorem f35_eq {ps : List PR_} (h : ps.length ≤ 1000) : f35 ps = some (Qbw ps) := by
 have := f35n2L_at ps ps [] rfl h
 rw [show (((([] : List PR_).length : Nat)) : Int) = 0 from rfl, List.getLast?_nil] at this
 unfold f35 f35n0 f35n1 Qbw
 rw [f35n2_run ps (Nat.le_trans h (by unfold maxLen; decide)), this, show decide ((ps.length : Int) ≤ 200) = decide (ps.length ≤ 200) from dec_nat _ 200]
 cases pOk none ps <;> rfl
abbrev PSrt (l : List PR_) : Prop := l.Pairwise fun a b => slt a.Product b.Product = true
theorem pOk_some : ∀ {l : List PR_} {p : PR_}, pOk (some p) l = true → (p :: l).Pairwise (fun a b => slt a.Product b.Product = true) ∧ ∀ x ∈ l, inR x.Price 536870912 = true
 | [], p, _ => by simp
 | y :: r, p, h => by
  rw [pOk, pAt, Bool.and_eq_true, Bool.and_eq_true, Bool.and_eq_true] at h
  obtain ⟨h1, _, h2, h3⟩ := h
  obtain ⟨h4, h5⟩ := pOk_some h3
  refine ⟨List.pairwise_cons.2 ⟨fun z hz => ?_, h4⟩, fun z hz => ?_⟩
  ·rcases List.mem_cons.1 hz with rfl | hz
   ·exact h1
   ·exact slt_trans h1 ((List.pairwise_cons.1 h4).1 z hz)
  ·rcases List.mem_cons.1 hz with rfl | hz
   ·exact h2
   ·exact h5 z hz
theorem prices_ok {ps : List PR_} (h : Qbw ps = true) : PSrt ps ∧ (∀ x ∈ ps, inR x.Price 536870912 = true) ∧ ps.length ≤ 200 := by
 unfold Qbw at h
 rw [Bool.and_eq_true, decide_eq_true_eq] at h
 refine ⟨?_, ?_, h.2⟩
 ·cases ps with
  | nil => exact List.Pairwise.nil
  | cons y r =>
   have := h.1
   rw [pOk, Bool.and_eq_true, Bool.and_eq_true, Bool.and_eq_true] at this
   exact (pOk_some this.2.2.2).1
 ·cases ps with
  | nil => simp
  | cons y r =>
   have := h.1
   rw [pOk, Bool.and_eq_true, Bool.and_eq_true, Bool.and_eq_true] at this
   intro z hz
   rcases List.mem_cons.1 hz with rfl | hz
   ·exact this.2.2.1
   ·exact (pOk_some this.2.2.2).2 z hz
theorem f57_58n1_eq (l : List PR_) (k : ByteArray) : ∀ (f : Nat) (lo hi : Int), f57_58n1 f l k lo hi = (bsr (fun x => cmpB x.Product k) l f lo hi).map .exit0
 | 0, lo, hi => rfl
 | f + 1, lo, hi => by
  rw [f57_58n1, bsr]
  cases decide (lo < hi) with
  | false => rfl
  | true =>
   simp only [cond_true]
   cases at? l (midI lo hi) with
   | none => rfl
   | some x =>
    have : f58 x k = some (cmpB x.Product k) := by unfold f58 f58n0; rw [f40_val]; rfl
    simp only [Option.bind_some, this, f57_58n1_eq l k f]
    cases decide (cmpB x.Product k < 0) <;> rfl
def lk (p : ByteArray) : List PR_ → Option Int
 | [] => none
 | x :: r => bif seq x.Product p then some x.Price else lk p r
theorem seq_f {a b : ByteArray} (h : a ≠ b) : seq a b = false := by
 cases k : seq a b with
 | false => rfl
 | true => exact absurd (Qbn.1 k) h
theorem lk_none {p : ByteArray} : ∀ {l : List PR_}, (∀ x ∈ l, x.Product ≠ p) → lk p l = none
 | [], _ => rfl
 | x :: r, h => by rw [lk, seq_f (h x List.mem_cons_self), cond_false, lk_none fun y hy => h y (List.mem_cons_of_mem _ hy)]
theorem lk_app {p : ByteArray} : ∀ {pre post : List PR_}, (∀ x ∈ pre, x.Product ≠ p) → lk p (pre ++ post) = lk p post
 | [], _, _ => rfl
 | x :: r, post, h => by rw [List.cons_append, lk, seq_f (h x List.mem_cons_self), cond_false, lk_app fun y hy => h y (List.mem_cons_of_mem _ hy)]
theorem lk_in {p : ByteArray} {v : Int} : ∀ {l : List PR_}, lk p l = some v → ∃ x ∈ l, x.Price = v
 | x :: r, h => by
  rw [lk] at h
  cases k : seq x.Product p with
  | true => rw [k] at h; exact ⟨x, List.mem_cons_self, Option.some.inj h⟩
  | false =>
   rw [k] at h
   obtain ⟨y, hy, e⟩ := lk_in h
   exact ⟨y, List.mem_cons_of_mem _ hy, e⟩
theorem slt_ne {a b : ByteArray} (h : slt a b = true) : a ≠ b := fun e => by rw [e, slt_irrefl] at h; cases h
theorem f57_58_eq {ps : List PR_} (hs : PSrt ps) (hl : ps.length ≤ 1000) (k : ByteArray) :
  (lk k ps = none ∧ ∃ i, f57_58 ps k = some (i, false)) ∨ ∃ i x, f57_58 ps k = some (i, true) ∧ at? ps i = some x ∧ lk k ps = some x.Price := by
 obtain ⟨pre, post, h1, h2, h3, h4⟩ := bsr_split (fun x : PR_ => cmpB x.Product k) ps (by omega) fun i j x y hij hx hy hc => by
  rcases Nat.lt_or_ge i j with h | h
  ·have h1 := List.pairwise_iff_getElem.1 hs i j (lt_of_at hx) (lt_of_at hy) h
   rw [(List.getElem?_eq_some_iff.1 hx).2, (List.getElem?_eq_some_iff.1 hy).2] at h1
   exact Qbm.2 (slt_trans h1 (Qbm.1 hc))
  ·have : i = j := by omega
   subst this
   rw [hx] at hy; obtain rfl := Option.some.inj hy; exact hc
 have hpre : ∀ x ∈ pre, x.Product ≠ k := fun x hx => slt_ne (Qbm.1 (h3 x hx))
 have hr : f57_58n1 FUEL ps k 0 (ps.length : Int) = some (.exit0 (pre.length : Int)) := by rw [f57_58n1_eq, h2]; rfl
 cases post with
 | nil =>
  left
  refine ⟨by rw [h1, lk_app hpre]; rfl, (pre.length : Int), ?_⟩
  unfold f57_58 f57_58n0
  rw [hr]
  simp only [Option.bind_some]
  rw [h1, decide_eq_false (by simp)]; rfl
 | cons x r =>
  have hx : ps[pre.length]? = some x := by rw [h1]; simp
  have h58 : f58 x k = some (cmpB x.Product k) := by unfold f58 f58n0; rw [f40_val]; rfl
  have hf : f57_58 ps k = some ((pre.length : Int), decide (cmpB x.Product k = 0)) := by
   unfold f57_58 f57_58n0
   rw [hr]
   simp only [Option.bind_some]
   rw [decide_eq_true (by have := lt_of_at hx; omega), at_nat, hx]
   simp only [cond_true, Option.bind_some, h58]
  by_cases hk : cmpB x.Product k = 0
  ·right
   refine ⟨_, x, by rw [hf, decide_eq_true hk], by rw [at_nat]; exact hx, ?_⟩
   rw [h1, lk_app hpre, lk, Qbn.2 (cmpB_zero.1 hk)]; rfl
  ·left
   refine ⟨?_, _, by rw [hf, decide_eq_false hk]⟩
   rw [h1, lk_app hpre]
   have hs' : PSrt (x :: r) := by
    rw [h1] at hs
    exact (List.pairwise_append.1 hs).2.1
   have h5 : slt k x.Product = true := cmpB_pos.1 (by have := h4 x List.mem_cons_self; omega)
   refine lk_none fun y hy e => ?_
   rcases List.mem_cons.1 hy with rfl | hy
   ·exact slt_ne h5 e.symm
   ·exact slt_ne (slt_trans h5 ((List.pairwise_cons.1 hs').1 y hy)) e.symm

def hasV (ps : List PR_) (x : VP) : Bool := decide (x.Quantity = 0) || (lk x.Product ps).isSome
def prc (ps : List PR_) (p : ByteArray) : Int := (lk p ps).getD 0
def vOf (ps : List PR_) (x : VP) : Int := x.Quantity * prc ps x.Product
theorem prc_bd {ps : List PR_} (h : Qbw ps = true) (p : ByteArray) : -536870912 ≤ prc ps p ∧ prc ps p ≤ 536870912 := by
 unfold prc
 cases k : lk p ps with
 | none => simp
 | some v =>
  obtain ⟨x, hx, rfl⟩ := lk_in k
  exact inR_iff.1 ((prices_ok h).2.1 x hx)
theorem vOf_bd {ps : List PR_} (h : Qbw ps = true) {x : VP} (hx : goodP x = true) : -562949953421312 ≤ vOf ps x ∧ vOf ps x ≤ 562949953421312 := by
 have h1 := prc_bd h x.Product
 have h2 := good_q hx
 have := mul_bd (a := x.Quantity) (b := prc ps x.Product) (x := 1048576) (y := 536870912) (by omega) (by omega)
 unfold vOf
 omega
theorem f36_eq {ps : List PR_} (h : Qbw ps = true) {x : VP} (hx : goodP x = true) : ∃ v, f36 x ps = some (v, hasV ps x) ∧ (hasV ps x = true → v = vOf ps x) := by
 have hp := prices_ok h
 have hb := vOf_bd h hx
 unfold f36 f36n0 hasV
 by_cases h0 : x.Quantity = 0
 ·rw [decide_eq_true h0]
  exact ⟨0, rfl, fun _ => by unfold vOf; rw [h0]; simp⟩
 ·rw [decide_eq_false h0]
  simp only [cond_false, Bool.false_or]
  rcases f57_58_eq hp.1 (by omega) x.Product with ⟨h1, i, h2⟩ | ⟨i, y, h2, h3, h4⟩
  ·rw [h1, h2]
   exact ⟨0, rfl, fun h => by cases h⟩
  ·rw [h2, h4]
   simp only [Option.bind_some, cond_true]
   rw [h3]
   refine ⟨_, rfl, fun _ => ?_⟩
   unfold vOf prc at hb ⊢
   rw [h4] at hb ⊢
   exact wr_in (n := x.Quantity * y.Price) (by simp at hb; omega) (by simp at hb; omega)

def accM (ps : List PR_) : List VP → List (ByteArray × Int) → List (ByteArray × Int)
 | [], m => m
 | x :: r, m => accM ps r (mPut seq x.Member (wr64 (mGet seq 0 x.Member m + wr64 (vOf ps x - x.Basis))) m)
def setP (ps : List PR_) (x : VP) : VP := ⟨x.Member, x.Product, x.Quantity, vOf ps x⟩
def setO (ps : List PR_) : List VP → List VP
 | [] => []
 | x :: r => bif decide (x.Quantity = 0) then setO ps r else setP ps x :: setO ps r
theorem f14n3L_at {ps : List PR_} (h : Qbw ps = true) (s : Qc) (d : Int) : ∀ (l : List VP) (k : Int) (m : List (ByteArray × Int)) (o : List VP), (∀ x ∈ l, goodP x = true) → o.length + l.length ≤ 1000 →
  f14n3L ps s d l k m o = some (bif l.all (hasV ps) then .exit1 (accM ps l m) (o ++ setO ps l) else .ret)
 | [], k, m, o, _, _ => by simp [f14n3L, accM, setO]
 | x :: r, k, m, o, hg, hl => by
  simp only [List.length_cons] at hl
  obtain ⟨v, h1, h2⟩ := f36_eq h (hg x List.mem_cons_self)
  rw [f14n3L, h1]
  simp only [Option.bind_some, List.all_cons]
  cases hv : hasV ps x with
  | false => rfl
  | true =>
   rw [h2 hv, accM, setO]
   have hr : ∀ y ∈ r, goodP y = true := fun y hy => hg y (List.mem_cons_of_mem _ hy)
   simp only [cond_true, Bool.true_and]
   cases decide (x.Quantity = 0) with
   | true => rw [cond_true, cond_true, f14n3L_at h s d r _ _ _ hr (by omega)]
   | false =>
    rw [cond_false, cond_false, req, fit_small (by omega) (by omega), cond_true, f14n3L_at h s d r _ _ _ hr (by simp; omega)]
    simp [setP]
theorem put_mlen {V : Type} (k : ByteArray) (v : V) : ∀ m : List (ByteArray × V), (mPut seq k v m).length ≤ m.length + 1
 | [] => by simp [mPut]
 | (a, w) :: r => by
  have := put_mlen k v r
  rw [mPut]
  cases seq k a <;> simp <;> omega
theorem accM_len (ps : List PR_) : ∀ (l : List VP) (m : List (ByteArray × Int)), (accM ps l m).length ≤ m.length + l.length
 | [], m => by simp [accM]
 | x :: r, m => by
  have h1 := accM_len ps r (mPut seq x.Member (wr64 (mGet seq 0 x.Member m + wr64 (vOf ps x - x.Basis))) m)
  have h2 := put_mlen x.Member (wr64 (mGet seq 0 x.Member m + wr64 (vOf ps x - x.Basis))) m
  rw [accM, List.length_cons]; omega
theorem accM_nd (ps : List PR_) : ∀ (l : List VP) {m : List (ByteArray × Int)}, ndM m → ndM (accM ps l m)
 | [], m, h => h
 | x :: r, m, h => accM_nd ps r (put_nd h)
def payL (m : List (ByteArray × Int)) : List Qa := (m.filter fun x => !decide (x.2 = 0)).map fun x => ⟨x.1, x.2⟩
theorem f14n5_eq (d : Int) (o2 : List VP) (m : List (ByteArray × Int)) : ∀ (l : List (ByteArray × Int)) (o : List Qa), o.length + l.length ≤ 1000 → f14n5 d o2 m l o = some (bif l.all (fun x => inR x.2 1125899906842624) then .exit3 (o ++ payL l) else .ret)
 | [], o, _ => by simp [f14n5, payL]
 | x :: r, o, hl => by
  simp only [List.length_cons] at hl
  rw [f14n5, f37_b]
  simp only [Option.bind_some, List.all_cons]
  cases inR x.2 1125899906842624 with
  | false => rfl
  | true =>
   simp only [cond_true, Bool.true_and]
   cases h0 : decide (x.2 = 0) with
   | true =>
    rw [cond_true, f14n5_eq d o2 m r o (by omega)]
    simp only [payL, List.filter_cons, h0, Bool.not_true]
    rfl
   | false =>
    rw [cond_false, req, fit_small (by omega) (by omega), cond_true, f14n5_eq d o2 m r _ (by simp; omega)]
    simp only [payL, List.filter_cons, h0, Bool.not_false]
    simp
theorem pay_perm {p m : List (ByteArray × Int)} (h : p.Perm m) : (payL p).Perm (payL m) := (h.filter _).map _
theorem pay_nd {m : List (ByteArray × Int)} (h : ndM m) : (payL m).Pairwise fun a b => a.Member ≠ b.Member := by
 unfold payL
 rw [List.pairwise_map]
 exact h.sublist List.filter_sublist
def isortP (l : List Qa) : List Qa := isort (fun x => x.Member) l
theorem sort_eq {p m : List (ByteArray × Int)} (hp : p.Perm m) (h : ndM m) (hl : m.length ≤ 1000) : so38_39 (payL p) = some (isortP (payL m)) := by
 have hq := pay_perm hp
 have nd : (payL p).Pairwise fun a b => a.Member ≠ b.Member := (hq.symm.pairwise_iff (fun {a b} hab => Ne.symm hab)).1 (pay_nd h)
 have hlen : (payL p).length ≤ 1000 := by
  rw [hq.length_eq]; unfold payL; rw [List.length_map]
  exact Nat.le_trans (List.length_filter_le _ _) hl
 unfold so38_39
 rw [decide_eq_true (by omega), nodupK_of _ nd]
 simp only [Bool.and_self, cond_true]
 congr 1
 unfold isortP
 refine sorted_uniq _ ?_ (isort_sorted _ _) (isort_sorted _ _) ?_
 ·exact ((Qbe _ _).trans hq).trans (Qbe _ _).symm
 ·exact ((Qbe _ _).pairwise_iff (fun {a b} hab => Ne.symm hab)).2 nd

def asksB (d : Int) (ps : List PR_) : Bool := decide (0 ≤ d) && (decide (d ≤ 99999) && Qbw ps)
def settleS (s : Qc) (d : Int) (ps : List PR_) : Qc × (List Qa × Int) :=
 bif checkB s then
  bif asksB d ps then
   bif decide (s.Day < d) then
    bif s.Positions.all (hasV ps) then
     bif (accM ps s.Positions []).all (fun x => inR x.2 1125899906842624) then
      (⟨d, setO ps s.Positions⟩, isortP (payL (accM ps s.Positions [])), 0)
     else (noV, [], 14)
    else (noV, [], 30)
   else (noV, [], 21)
  else (noV, [], 2)
 else (noV, [], 8)
theorem f14_eq (s : Qc) (d : Int) {ps : List PR_} (hl : ps.length ≤ 1000) : f14 s d ps = some (settleS s d ps) := by
 unfold f14 settleS
 cases hc : checkB s with
 | false =>
  have : f14n0 s d ps = some (.ret 8 0 [] []) := by
   unfold f14n0 f14n1
   rw [f26_eq, hc]; rfl
  rw [this]; rfl
 | true =>
  have ok := check_iff.1 hc
  cases ha : asksB d ps with
  | false =>
   have : f14n0 s d ps = some (.ret 2 0 [] []) := by
    unfold f14n0 f14n1
    rw [f26_eq, hc, f35_eq hl, lt_not, lt_not]
    unfold asksB at ha
    revert ha
    cases decide (0 ≤ d) with
    | false => intro _; rfl
    | true => cases decide (d ≤ 99999) with
     | false => intro _; rfl
     | true => cases Qbw ps with
      | false => intro _; rfl
      | true => intro h; cases h
   rw [this]; rfl
  | true =>
   have ha' := ha
   unfold asksB at ha'
   simp only [Bool.and_eq_true] at ha'
   obtain ⟨h0, h1, h2⟩ := ha'
   by_cases hd : s.Day < d
   ·have e1 : f14n1 d ps 0 s = some (.norm 0) := by
     unfold f14n1
     rw [f35_eq hl, lt_not, lt_not, h0, h1, h2, decide_eq_false (by omega : ¬ d ≤ s.Day)]; rfl
    have e2 : f14n2 ps s d = some (bif s.Positions.all (hasV ps) then .norm (accM ps s.Positions []) (setO ps s.Positions) else .ret) := by
     unfold f14n2
     rw [f14n3_run ps s d [] [] (Nat.le_trans ok.len (by unfold maxLen; decide)), f14n3L_at h2 s d s.Positions 0 [] [] ok.good (by have := ok.len; simp; omega)]
     cases s.Positions.all (hasV ps) <;> rfl
    rw [decide_eq_true hd]
    simp only [cond_true]
    cases hv : s.Positions.all (hasV ps) with
    | false =>
     have : f14n0 s d ps = some (.ret 30 0 [] []) := by
      unfold f14n0
      rw [f26_eq, hc]
      simp only [cond_true, Option.bind_some, e1, e2, hv, decide_true, cond_false]
     rw [this]; rfl
    | true =>
     have hlen : (accM ps s.Positions []).length ≤ 1000 := by
      have := accM_len ps s.Positions []
      have := ok.len
      simp at *; omega
     have e4 : ∀ p, p.Perm (accM ps s.Positions []) → f14n4 d (accM ps s.Positions []) (setO ps s.Positions) p = some (bif (accM ps s.Positions []).all (fun x => inR x.2 1125899906842624) then .norm (payL p) else .ret) := fun p hp => by
      unfold f14n4
      rw [f14n5_eq _ _ _ p [] (by rw [hp.length_eq]; simpa using hlen), hp.all_eq]
      cases (accM ps s.Positions []).all (fun x => inR x.2 1125899906842624) <;> rfl
     cases hr : (accM ps s.Positions []).all (fun x => inR x.2 1125899906842624) with
     | false =>
      have : f14n0 s d ps = some (.ret 14 0 [] []) := by
       unfold f14n0
       rw [f26_eq, hc]
       simp only [cond_true, Option.bind_some, e1, e2, hv, decide_true]
       refine anyOrder_of fun p hp => ?_
       rw [e4 p hp, hr]; rfl
      rw [this]; rfl
     | true =>
      have : f14n0 s d ps = some (.ret 0 d (isortP (payL (accM ps s.Positions []))) (setO ps s.Positions)) := by
       unfold f14n0
       rw [f26_eq, hc]
       simp only [cond_true, Option.bind_some, e1, e2, hv, decide_true]
       refine anyOrder_of fun p hp => ?_
       rw [e4 p hp, hr]
       simp only [cond_true, Option.bind_some]
       rw [sort_eq hp (accM_nd ps s.Positions List.Pairwise.nil) hlen]; rfl
      rw [this]; rfl
   ·have : f14n0 s d ps = some (.ret 21 0 [] []) := by
     have e1 : f14n1 d ps 0 s = some (.norm 21) := by
      unfold f14n1
      rw [f35_eq hl, lt_not, lt_not, h0, h1, h2, decide_eq_true (by omega : d ≤ s.Day)]; rfl
     unfold f14n0
     rw [f26_eq, hc]
     simp only [cond_true, Option.bind_some, e1]
     rfl
    rw [this, decide_eq_false hd]; rfl
structure Done (s : Qc) (d : Int) (ps : List PR_) : Prop where
 ok : Ok s
 d0 : 0 ≤ d
 d1 : d ≤ 99999
 pr : Qbw ps = true
 dd : s.Day < d
 hv : ∀ x ∈ s.Positions, hasV ps x = true
 rng : ∀ x ∈ accM ps s.Positions [], inR x.2 1125899906842624 = true
theorem settle_done {s : Qc} {d : Int} {ps : List PR_} (h : (settleS s d ps).2.2 = 0) : Done s d ps ∧ settleS s d ps = (⟨d, setO ps s.Positions⟩, isortP (payL (accM ps s.Positions [])), 0) := by
 unfold settleS at h ⊢
 cases h1 : checkB s with
 | false => rw [h1] at h; cases h
 | true =>
  cases h2 : asksB d ps with
  | false => rw [h1, h2] at h; cases h
  | true =>
   cases h3 : decide (s.Day < d) with
   | false => rw [h1, h2, h3] at h; cases h
   | true =>
    cases h4 : s.Positions.all (hasV ps) with
    | false => rw [h1, h2, h3, h4] at h; cases h
    | true =>
     cases h5 : (accM ps s.Positions []).all (fun x => inR x.2 1125899906842624) with
     | false => rw [h1, h2, h3, h4, h5] at h; cases h
     | true =>
      unfold asksB at h2
      simp only [Bool.and_eq_true, decide_eq_true_eq] at h2
      exact ⟨⟨check_iff.1 h1, h2.1, h2.2.1, h2.2.2, of_decide_eq_true h3, List.all_eq_true.1 h4, List.all_eq_true.1 h5⟩, rfl⟩
theorem setO_len (ps : List PR_) : ∀ l : List VP, (setO ps l).length ≤ l.length
 | [] => Nat.le_refl _
 | x :: r => by
  have := setO_len ps r
  rw [setO]
  cases decide (x.Quantity = 0) <;> simp <;> omega
end Go.Proofs.Ytelblamgfbkhbaa
namespace Go.Proofs.Ytelblamgfbkhbaa
set_option linter.unusedVariables false
set_option linter.unusedSimpArgs false
open Go.RowKit
theorem wr_succ {k : Nat} (h : k ≤ 1000000) : wr64 ((k : Int) + 1) = ((k + 1 : Nat) : Int) := by rw [wr_in (by omega) (by omega)]; omega
end Go.Proofs.Ytelblamgfbkhbaa
namespace Go.Proofs.Ytelblamgfbkhbaa
set_option linter.unusedVariables false
set_option linter.unusedSimpArgs false
open Go.RowKit
def tot : List (ByteArray × Int) → Int
 | [] => 0
 | x :: r => x.2 + tot r
theorem tot_put (k : ByteArray) (v : Int) : ∀ m : List (ByteArray × Int), tot (mPut seq k v m) = tot m - mGet seq 0 k m + v
 | [] => by simp [mPut, mGet, tot]
 | (a, w) :: r => by
  rw [mPut, mGet]
  cases h : seq k a with
  | true => simp only [cond_true, tot]; omega
  | false => simp only [cond_false, tot, tot_put k v r]; omega
def wd (ps : List PR_) (g : ByteArray) (x : VP) : Int := bif seq x.Member g then vOf ps x - x.Basis else 0
def wa (ps : List PR_) (x : VP) : Int := vOf ps x - x.Basis
theorem wd_bd {ps : List PR_} (hp : Qbw ps = true) {x : VP} (hx : goodP x = true) : -2251799813685248 ≤ vOf ps x - x.Basis ∧ vOf ps x - x.Basis ≤ 2251799813685248 := by
 have h1 := vOf_bd hp hx
 have h2 := good_b hx
 omega
theorem accM_at {ps : List PR_} (hp : Qbw ps = true) : ∀ (l : List VP) (m : List (ByteArray × Int)) (n : Nat), (∀ x ∈ l, goodP x = true) → n + l.length ≤ 1000 → (∀ g, -(2251799813685248 * (n : Int)) ≤ mGet seq 0 g m ∧ mGet seq 0 g m ≤ 2251799813685248 * (n : Int)) →
  (∀ g, mGet seq 0 g (accM ps l m) = mGet seq 0 g m + sm (wd ps g) l) ∧ tot (accM ps l m) = tot m + sm (wa ps) l
 | [], m, n, _, _, _ => by simp [accM, sm]
 | x :: r, m, n, hg, hl, hb => by
  simp only [List.length_cons] at hl
  have hx := wd_bd hp (hg x List.mem_cons_self)
  have hm := hb x.Member
  have e1 : wr64 (vOf ps x - x.Basis) = vOf ps x - x.Basis := wr_in (by omega) (by omega)
  have e2 : wr64 (mGet seq 0 x.Member m + (vOf ps x - x.Basis)) = mGet seq 0 x.Member m + (vOf ps x - x.Basis) := wr_in (by omega) (by omega)
  have hget : ∀ g, mGet seq 0 g (mPut seq x.Member (mGet seq 0 x.Member m + (vOf ps x - x.Basis)) m) = mGet seq 0 g m + wd ps g x := fun g => by
   rw [get_put]
   cases h : seq g x.Member with
   | true =>
    have := Qbn.1 h; subst this
    simp only [cond_true, wd, Qas]
   | false =>
    have : seq x.Member g = false := seq_f fun e => by rw [e, Qas] at h; cases h
    simp only [cond_false, wd, this]; omega
  obtain ⟨i1, i2⟩ := accM_at hp r (mPut seq x.Member (mGet seq 0 x.Member m + (vOf ps x - x.Basis)) m) (n + 1) (fun y hy => hg y (List.mem_cons_of_mem _ hy)) (by omega) fun g => by
   rw [hget g]
   have := hb g
   have hw : -2251799813685248 ≤ wd ps g x ∧ wd ps g x ≤ 2251799813685248 := by
    unfold wd
    cases seq x.Member g <;> simp only [cond_true, cond_false] <;> omega
   push_cast
   omega
  rw [accM, e1, e2]
  refine ⟨fun g => ?_, ?_⟩
  ·rw [i1 g, hget g, sm]; omega
  ·rw [i2, tot_put, sm, wa]; omega
theorem acc_get0 {ps : List PR_} (hp : Qbw ps = true) {l : List VP} (hg : ∀ x ∈ l, goodP x = true) (hl : l.length ≤ 200) (g : ByteArray) : mGet seq 0 g (accM ps l []) = sm (wd ps g) l := by
 have := (accM_at hp l [] 0 hg (by omega) fun g => by simp [mGet]).1 g
 rw [this]; simp [mGet]

def sp (f : Qa → Int) : List Qa → Int
 | [] => 0
 | x :: r => f x + sp f r
theorem sp_perm {f : Qa → Int} {a b : List Qa} (h : a.Perm b) : sp f a = sp f b := by
 induction h with
 | nil => rfl
 | cons x _ ih => rw [sp, sp, ih]
 | swap x y l => simp only [sp]; omega
 | trans _ _ i1 i2 => exact i1.trans i2
theorem sp_app (f : Qa → Int) : ∀ a b : List Qa, sp f (a ++ b) = sp f a + sp f b
 | [], b => by simp [sp]
 | x :: a, b => by rw [List.cons_append, sp, sp, sp_app f a b]; omega
def ag (g : ByteArray) (x : Qa) : Int := bif seq x.Member g then x.Amount else 0
theorem payL_cons (x : ByteArray × Int) (r : List (ByteArray × Int)) : payL (x :: r) = (bif decide (x.2 = 0) then [] else [⟨x.1, x.2⟩]) ++ payL r := by
 unfold payL
 rw [List.filter_cons]
 cases decide (x.2 = 0) <;> simp
theorem pay_get (g : ByteArray) : ∀ {m : List (ByteArray × Int)}, ndM m → sp (ag g) (payL m) = mGet seq 0 g m
 | [], _ => rfl
 | (a, w) :: r, h => by
  have h' := List.pairwise_cons.1 h
  rw [payL_cons, sp_app, pay_get g h'.2, mGet]
  cases hg : seq g a with
  | true =>
   have := Qbn.1 hg; subst this
   have h0 : mGet seq 0 g r = 0 := by
    have : ∀ {r : List (ByteArray × Int)}, (∀ y ∈ r, g ≠ y.1) → mGet seq 0 g r = 0 := fun {r} hr => by
     induction r with
     | nil => rfl
     | cons y t ih =>
      obtain ⟨b, u⟩ := y
      rw [mGet, seq_f (hr _ List.mem_cons_self), cond_false, ih fun z hz => hr z (List.mem_cons_of_mem _ hz)]
    exact this h'.1
   by_cases hw : w = 0
   ·subst hw; simp [sp, h0]
   ·rw [show decide ((g, w).2 = 0) = false from decide_eq_false hw, cond_false, h0]
    simp [sp, ag, Qas]
  | false =>
   have : seq a g = false := seq_f fun e => by rw [e, Qas] at hg; cases hg
   by_cases hw : w = 0
   ·subst hw; simp [sp]
   ·rw [show decide ((a, w).2 = 0) = false from decide_eq_false hw, cond_false, cond_false]
    simp [sp, ag, this]

theorem sm_ext {w v : VP → Int} : ∀ {l : List VP}, (∀ x ∈ l, w x = v x) → sm w l = sm v l
 | [], _ => rfl
 | x :: r, h => by rw [sm, sm, h x List.mem_cons_self, sm_ext fun y hy => h y (List.mem_cons_of_mem _ hy)]
theorem sm_sub (a b : VP → Int) : ∀ l : List VP, sm (fun x => a x - b x) l = sm a l - sm b l
 | [] => rfl
 | x :: r => by rw [sm, sm, sm, sm_sub a b r]; omega

abbrev payS (s : Qc) (ps : List PR_) : List Qa := isort (fun x => x.Member) (payL (accM ps s.Positions []))
theorem payS_nd (s : Qc) (ps : List PR_) : (payS s ps).Pairwise fun a b => a.Member ≠ b.Member :=
 ((Qbe _ _).pairwise_iff (fun {a b} hab => Ne.symm hab)).2 (pay_nd (accM_nd ps s.Positions List.Pairwise.nil))
section
variable {s : Qc} {d : Int} {ps : List PR_} (h : Done s d ps)
include h
theorem Done.pay_one (g : ByteArray) : sp (ag g) (payS s ps) = sm (wd ps g) s.Positions := by
 unfold payS
 rw [sp_perm (Qbe _ _), pay_get g (accM_nd ps s.Positions List.Pairwise.nil), acc_get0 h.pr h.ok.good h.ok.len]
theorem Done.pay_mem {x : Qa} (hx : x ∈ payS s ps) : x.Amount ≠ 0 ∧ -1125899906842624 ≤ x.Amount ∧ x.Amount ≤ 1125899906842624 := by
 have h1 := (Qbe _ _).mem_iff.1 hx
 unfold payL at h1
 obtain ⟨y, h2, rfl⟩ := List.mem_map.1 h1
 obtain ⟨h3, h4⟩ := List.mem_filter.1 h2
 have h5 := inR_iff.1 (h.rng y h3)
 simp only [Bool.not_eq_true', decide_eq_false_iff_not] at h4
 exact ⟨h4, h5⟩
theorem Done.pay_len : (payS s ps).length ≤ 200 := by
 unfold payS
 rw [(Qbe _ _).length_eq]
 unfold payL
 rw [List.length_map]
 have h1 := List.length_filter_le (fun x : ByteArray × Int => !decide (x.2 = 0)) (accM ps s.Positions [])
 have h2 := accM_len ps s.Positions []
 have := h.ok.len
 simp only [List.length_nil] at h2
 omega
end
def wv (ps : List PR_) (g : ByteArray) (x : VP) : Int := bif seq x.Member g then vOf ps x else 0

theorem setO_wm (ps : List PR_) (g : ByteArray) : ∀ l : List VP, sm (wm g) (setO ps l) = sm (wv ps g) l
 | [] => rfl
 | x :: r => by
  rw [setO]
  by_cases h0 : x.Quantity = 0
  ·rw [decide_eq_true h0, cond_true, setO_wm ps g r, sm]
   unfold wv vOf; rw [h0]
   cases seq x.Member g <;> simp
  ·rw [decide_eq_false h0, cond_false, sm, sm, setO_wm ps g r]; rfl
theorem wd_split (ps : List PR_) (g : ByteArray) (l : List VP) : sm (wd ps g) l = sm (wv ps g) l - sm (wm g) l := by
 rw [← sm_sub]
 exact sm_ext fun x _ => by unfold wd wv wm; cases seq x.Member g <;> simp
end Go.Proofs.Ytelblamgfbkhbaa
namespace Go.Proofs.Ytelblamgfbkhbaa
set_option linter.unusedVariables false
set_option linter.unusedSimpArgs false
open Go.RowKit
theorem f20r1_eq {s : Qc} (h : s.Positions.length ≤ 1000000) : f20r1 s = some s.Positions := by
 unfold f20r1 f20r1n0
 cases hl : s.Positions with
 | nil => rfl
 | cons x r =>
  rw [hl] at h
  rw [req, fit_small h (by omega)]; rfl
theorem eqb_refl (x : VP) : VariationPosition.eqb x x = true := by
 unfold VariationPosition.eqb
 simp [Qas]
theorem f18n2L_same (a b : Qc) : ∀ (l pre : List VP), b.Positions = pre ++ l → f18n2L a b l ((pre.length : Nat) : Int) = some .exit0
 | [], pre, _ => rfl
 | x :: r, pre, h => by
  have ih := f18n2L_same a b r (pre ++ [x]) (by rw [h]; simp)
  rw [List.length_append, show (((pre.length + [x].length : Nat)) : Int) = (pre.length : Int) + 1 from by simp] at ih
  have hat : at? b.Positions ((pre.length : Nat) : Int) = some x := by rw [at_nat, h]; simp
  rw [f18n2L, hat]
  simp only [Option.bind_some, eqb_refl, cond_true]
  exact ih
theorem f18_same {a b : Qc} (h : a = b) (hl : a.Positions.length ≤ maxLen) : f18 a b = some true := by
 subst h
 have : f18n1 a a = some .norm := by
  unfold f18n1
  rw [f18n2_run a a hl]
  have := f18n2L_same a a a.Positions [] rfl
  rw [show (((([] : List VP).length : Nat)) : Int) = 0 from rfl] at this
  rw [this]; rfl
 unfold f18 f18n0
 rw [this, decide_eq_true rfl, decide_eq_true rfl]; rfl


section
variable {s : Qc} {bu se pr : ByteArray} {q p : Int} (h : Took s bu se pr q p)
include h
omit h in
end
end Go.Proofs.Ytelblamgfbkhbaa
namespace Go.Proofs.Ytelblamgfbkhbaa
set_option linter.unusedVariables false
set_option linter.unusedSimpArgs false
open Go.RowKit
theorem f21n2L_eq' (bj : List Qa) (g : ByteArray) : ∀ (l : List Qa) (n v : Int), f21n2L bj g l (wr64 n) v = some (.exit0 (wr64 (n + sp (ag g) l)))
 | [], n, v => by simp [f21n2L, sp]
 | x :: r, n, v => by
  rw [f21n2L]
  cases h : seq x.Member g with
  | true => rw [cond_true, wr_l, f21n2L_eq' bj g r]; simp only [sp, ag, h, cond_true, Int.add_assoc]
  | false => rw [cond_false, f21n2L_eq' bj g r]; simp only [sp, ag, h, cond_false, Int.zero_add]
theorem f21_eq {l : List Qa} (h : l.length ≤ maxLen) (g : ByteArray) : f21 l g = some (wr64 (sp (ag g) l)) := by
 have e := f21n2L_eq' l g l 0 0
 rw [Int.zero_add] at e
 have e' : f21n2L l g l 0 0 = some (.exit0 (wr64 (sp (ag g) l))) := e
 unfold f21 f21n0 f21n1
 rw [f21n2_run l g 0 h, e']; rfl
theorem setO_setO (ps ps' : List PR_) : ∀ l : List VP, setO ps' (setO ps l) = setO ps' l
 | [] => rfl
 | x :: r => by
  rw [setO, setO]
  cases h : decide (x.Quantity = 0) with
  | true => rw [cond_true, cond_true, setO_setO ps ps' r]
  | false =>
   rw [cond_false, cond_false, setO, show decide ((setP ps x).Quantity = 0) = false from h, cond_false, setO_setO ps ps' r]; rfl
theorem setO_of {ps : List PR_} {x : VP} : ∀ {l : List VP}, x ∈ l → ¬ x.Quantity = 0 → setP ps x ∈ setO ps l
 | y :: r, h, h0 => by
  rw [setO]
  rcases List.mem_cons.1 h with rfl | h
  ·rw [decide_eq_false h0]; exact List.mem_cons_self
  ·have := setO_of (ps := ps) h h0
   cases decide (y.Quantity = 0) with
   | true => exact this
   | false => exact List.mem_cons_of_mem _ this
theorem hasV_back {ps ps' : List PR_} {l : List VP} (h : ∀ y ∈ setO ps' l, hasV ps y = true) : ∀ x ∈ l, hasV ps x = true := fun x hx => by
 by_cases h0 : x.Quantity = 0
 ·unfold hasV; rw [decide_eq_true h0]; rfl
 ·have := h (setP ps' x) (setO_of (ps := ps') hx h0)
  exact this
structure Mid (s : Qc) (pre : List (List PR_)) (t : Qc) (all : List Qa) : Prop where
 len : all.length ≤ 200 * pre.length
 sum : ∀ g, sp (ag g) all = sm (wm g) t.Positions - sm (wm g) s.Positions
 st : (pre = [] ∧ t = s) ∨ ∃ ps, pre.getLast? = some ps ∧ Ok s ∧ s.Day ≤ 99969 ∧ Qbw ps = true ∧ (∀ x ∈ s.Positions, hasV ps x = true) ∧ t = ⟨s.Day + (pre.length : Int), setO ps s.Positions⟩
theorem Mid.next {s t : Qc} {pre : List (List PR_)} {all : List Qa} {ps : List PR_} {d : Int} (h : Mid s pre t all) (hd : Done t d ps) (ed : d = wr64 (wr64 (s.Day + (pre.length : Int)) + 1)) (hl : pre.length ≤ 20) (h9 : s.Day ≤ 99969) : Mid s (pre ++ [ps]) ⟨d, setO ps t.Positions⟩ (all ++ payS t ps) where
 len := by
  have h1 := h.len
  have h2 := hd.pay_len
  simp only [List.length_append, List.length_cons, List.length_nil]
  omega
 sum g := by
  rw [sp_app, h.sum g, hd.pay_one, wd_split]
  show _ = sm (wm g) (setO ps t.Positions) - _
  rw [setO_wm]; omega
 st := by
  right
  refine ⟨ps, by simp, ?_⟩
  have dl : ((pre ++ [ps]).length : Int) = (pre.length : Int) + 1 := by simp
  rcases h.st with ⟨h1, h2⟩ | ⟨ps0, h1, h2, h3, h4, h5, h6⟩
  ·subst h2
   refine ⟨hd.ok, h9, hd.pr, hd.hv, ?_⟩
   have h0 := hd.ok.d0
   rw [ed, dl, wr_in (n := t.Day + (pre.length : Int)) (by omega) (by omega), wr_in (by omega) (by omega), Int.add_assoc]
  ·have h0 := h2.d0
   refine ⟨h2, h9, hd.pr, hasV_back (ps' := ps0) (by have := hd.hv; rw [h6] at this; exact this), ?_⟩
   rw [ed, dl, wr_in (n := s.Day + (pre.length : Int)) (by omega) (by omega), wr_in (by omega) (by omega), Int.add_assoc, h6]
   congr 1
   exact setO_setO ps0 ps s.Positions
theorem f4n2L_at {bp : List (List PR_)} (bl : Bool) (s : Qc) (hb : bp.length ≤ 20) : ∀ (l pre : List (List PR_)) (t : Qc) (all : List Qa), bp = pre ++ l → Mid s pre t all →
  f4n2L bp bl s l ((pre.length : Nat) : Int) t all = some .ret ∨ ∃ t' all', f4n2L bp bl s l ((pre.length : Nat) : Int) t all = some (.exit0 t' all') ∧ Mid s bp t' all'
 | [], pre, t, all, h, m => by
  rw [List.append_nil] at h; subst h
  exact .inr ⟨t, all, rfl, m⟩
 | x :: r, pre, t, all, h, m => by
  have hpl : pre.length + 1 ≤ 20 := by rw [h] at hb; simp at hb; omega
  rw [f4n2L]
  cases h1 : decide ((220 : Int) < (x.length : Int)) with
  | true => exact .inl rfl
  | false =>
   cases h2 : decide ((99969 : Int) < s.Day) with
   | true => exact .inl rfl
   | false =>
    have h1' : x.length ≤ 220 := by have := of_decide_eq_false h1; omega
    have h2' : s.Day ≤ 99969 := by have := of_decide_eq_false h2; omega
    rw [cond_false, cond_false, f14_eq _ _ (by omega)]
    simp only [Option.bind_some]
    by_cases he : (settleS t (wr64 (wr64 (s.Day + ((pre.length : Nat) : Int)) + 1)) x).2.2 = 0
    ·obtain ⟨hd, e2⟩ := settle_done he
     rw [e2]
     have mn := m.next hd rfl (by omega) h2'
     have ih := f4n2L_at bl s hb r (pre ++ [x]) _ _ (by rw [h]; simp) mn
     rw [show (((pre ++ [x]).length : Nat) : Int) = ((pre.length : Nat) : Int) + 1 by simp] at ih
     have e3 : isortP (payL (accM x t.Positions [])) = payS t x := rfl
     simp only [decide_true, cond_true, e3]
     cases hp : payS t x with
     | nil => rw [hp, List.append_nil] at ih; exact ih
     | cons y z =>
      rw [hp] at ih
      have hlen := mn.len
      rw [hp] at hlen
      simp only [List.length_append, List.length_cons, List.length_nil] at hlen
      simp only [List.isEmpty_cons, cond_false]
      rw [req, fit_small (by simp only [List.length_cons]; omega) (by omega), cond_true]
      exact ih
    ·rw [decide_eq_false he]
     exact .inl rfl
theorem f4n6L_eq' (bl : Bool) (q : Qc × (List Qa) × Int) (k : Int) (t : Qc) {bj : List Qa} {y : Qa} (hy : at? bj k = some y) : ∀ (l : List Qa) (n v : Int), f4n6L bl q k t bj l (wr64 n) v = some (.exit4 (wr64 (n + sp (ag y.Member) l)))
 | [], n, v => by simp [f4n6L, sp]
 | x :: r, n, v => by
  rw [f4n6L, hy]
  simp only [Option.bind_some]
  cases h : seq x.Member y.Member with
  | true => rw [cond_true, wr_l, f4n6L_eq' bl q k t hy r]; simp only [sp, ag, h, cond_true, Int.add_assoc]
  | false => rw [cond_false, f4n6L_eq' bl q k t hy r]; simp only [sp, ag, h, cond_false, Int.zero_add]
section
variable {x all : List Qa} (hs : ∀ g, sp (ag g) all = sp (ag g) x) (hx : x.length ≤ maxLen) (ha : all.length ≤ 10000)
include hs hx ha
theorem f4n4_eq' (bl : Bool) (u t : Qc) (e : Int) {k : Nat} (hk : k < all.length) : f4n4 bl (u, x, e) (k : Int) t all = some .norm := by
 have hy : at? all (k : Int) = some all[k] := by rw [at_nat]; exact List.getElem?_eq_getElem hk
 have h1 := f4n6L_eq' bl (u, x, e) (k : Int) t hy all 0 0
 rw [Int.zero_add] at h1
 have h1' : f4n6L bl (u, x, e) (k : Int) t all all 0 0 = some (.exit4 (wr64 (sp (ag all[k].Member) all))) := h1
 have h2 : f4n5 bl (u, x, e) (k : Int) t all = some (.norm (wr64 (sp (ag all[k].Member) all))) := by
  unfold f4n5
  rw [f4n6_run bl (u, x, e) (k : Int) t all 0 (Nat.le_trans ha (by unfold maxLen; decide)), h1']; rfl
 unfold f4n4
 rw [h2]
 simp only [Option.bind_some, hy]
 rw [f21_eq hx, hs]
 simp only [Option.bind_some, decide_true, cond_true]
theorem f4n7_at (bl : Bool) (u t : Qc) (e : Int) : ∀ (n f k : Nat), n = all.length - k → n < f → k ≤ all.length → f4n7 f bl (u, x, e) t all (k : Int) = some .exit2
 | _, 0, _, _, h, _ => absurd h (Nat.not_lt_zero _)
 | 0, f + 1, k, hn, _, hk => by rw [f4n7, decide_eq_false (by omega), cond_false]
 | n + 1, f + 1, k, hn, hf, hk => by
  rw [f4n7, decide_eq_true (by omega), cond_true, f4n4_eq' hs hx ha bl u t e (by omega)]
  simp only [Option.bind_some]
  rw [wr_succ (by omega)]
  exact f4n7_at bl u t e n f (k + 1) (by omega) (by omega) (by omega)
end
theorem sp_none {g : ByteArray} : ∀ {l : List Qa}, (∀ y ∈ l, y.Member ≠ g) → sp (ag g) l = 0
 | [], _ => rfl
 | y :: r, h => by
  rw [sp, sp_none fun z hz => h z (List.mem_cons_of_mem _ hz), ag, seq_f (h y List.mem_cons_self)]; rfl
theorem sp_one {x : Qa} : ∀ {l : List Qa}, l.Pairwise (fun a b => a.Member ≠ b.Member) → x ∈ l → sp (ag x.Member) l = x.Amount
 | y :: r, h, hx => by
  have h' := List.pairwise_cons.1 h
  rw [sp]
  rcases List.mem_cons.1 hx with rfl | hx
  ·rw [sp_none fun z hz => (h'.1 z hz).symm, ag, Qas]; simp
  ·rw [sp_one h'.2 hx, ag, seq_f (h'.1 x hx)]; simp
theorem f4n9L_eq' {all : List Qa} (ha : all.length ≤ 10000) (bl : Bool) (q : Qc × (List Qa) × Int) (t : Qc) : ∀ (l : List Qa) (v : Int), (∀ y ∈ l, wr64 (sp (ag y.Member) all) = y.Amount) → f4n9L bl q t all l v = some .exit6
 | [], v, _ => rfl
 | y :: r, v, h => by
  rw [f4n9L, f21_eq (Nat.le_trans ha (by unfold maxLen; decide)), h y List.mem_cons_self]
  simp only [Option.bind_some, decide_true, cond_true]
  exact f4n9L_eq' ha bl q t r (v + 1) fun z hz => h z (List.mem_cons_of_mem _ hz)
theorem lawDays (s : Qc) (a2 : List (List Qb)) (_ : Qc.ok s) (_ : a2.length ≤ maxLen ∧ ∀ x ∈ a2, x.length ≤ maxLen ∧ ∀ y ∈ x, Qb.ok y) : f4 s a2 = some true := by
 unfold f4 f4n0
 rw [alive_t]
 simp only [Option.bind_some]
 by_cases h1 : (220 : Int) < (s.Positions.length : Int)
 ·rw [decide_eq_true h1]; rfl
 by_cases h2 : (a2.length : Int) < 1
 ·rw [decide_eq_true h2]; cases decide ((220 : Int) < (s.Positions.length : Int)) <;> rfl
 by_cases h3 : (20 : Int) < (a2.length : Int)
 ·rw [decide_eq_true h3]; cases decide ((220 : Int) < (s.Positions.length : Int)) <;> cases decide ((a2.length : Int) < 1) <;> rfl
 rw [decide_eq_false h1, decide_eq_false h2, decide_eq_false h3, f20r1_eq (by omega)]
 simp only [cond_false, cond_true, Option.bind_some]
 have m0 : Mid s [] s [] := ⟨by simp, fun g => by simp [sp], .inl ⟨rfl, rfl⟩⟩
 have e1 : f4n1 a2 true s s.Positions = (f4n2L a2 true s a2 0 s []).bind fun o87 => match o87 with
   | .exit0 v89 v90 => some (.norm v89 v90)
   | .ret => some .ret := by
  unfold f4n1
  rw [show (Qc.mk s.Day s.Positions) = s from rfl, f4n2_run a2 true s s [] (Nat.le_trans (by omega : a2.length ≤ 20) (by unfold maxLen; decide))]
  all_goals rfl
 rcases f4n2L_at (bp := a2) true s (by omega) a2 [] s [] rfl m0 with h4 | ⟨t, all, h4, m⟩
 ·have h4' : f4n2L a2 true s a2 0 s [] = some .ret := h4
  rw [e1, h4']; rfl
 ·have h4' : f4n2L a2 true s a2 0 s [] = some (.exit0 t all) := h4
  rcases m.st with ⟨h5, _⟩ | ⟨ps, h5, ok, h6, h7, h8, h9⟩
  ·rw [h5] at h2; simp at h2
  ·have hlast : at? a2 (wr64 ((a2.length : Int) - 1)) = some ps := by
    rw [wr_in (by omega) (by omega), show (a2.length : Int) - 1 = ((a2.length - 1 : Nat) : Int) by omega, at_nat, ← List.getLast?_eq_getElem?]
    exact h5
   have hps : ps.length ≤ 1000 := by have := (prices_ok h7).2.2; omega
   have h0 := ok.d0
   have hday : wr64 (s.Day + (a2.length : Int)) = s.Day + (a2.length : Int) := wr_in (by omega) (by omega)
   rw [e1, h4']
   simp only [Option.bind_some, hlast, hday]
   rw [f14_eq _ _ hps]
   simp only [Option.bind_some]
   have hset : settleS s (s.Day + (a2.length : Int)) ps = bif (accM ps s.Positions []).all (fun x => inR x.2 1125899906842624) then (⟨s.Day + (a2.length : Int), setO ps s.Positions⟩, isortP (payL (accM ps s.Positions [])), 0) else (noV, [], 14) := by
    unfold settleS asksB
    rw [check_iff.2 ok, h7, decide_eq_true (by omega : (0 : Int) ≤ s.Day + (a2.length : Int)), decide_eq_true (by omega : s.Day + (a2.length : Int) ≤ 99999), decide_eq_true (by omega : s.Day < s.Day + (a2.length : Int)), List.all_eq_true.2 h8]
    rfl
   by_cases he : (settleS s (s.Day + (a2.length : Int)) ps).2.2 = 0
   ·obtain ⟨hd, e2⟩ := settle_done he
    rw [e2]
    have e3 : isortP (payL (accM ps s.Positions [])) = payS s ps := rfl
    have hsum : ∀ g, sp (ag g) all = sp (ag g) (payS s ps) := fun g => by
     rw [m.sum g, hd.pay_one, wd_split, h9]
     show sm (wm g) (setO ps s.Positions) - _ = _
     rw [setO_wm]
    have hx : (payS s ps).length ≤ maxLen := Nat.le_trans hd.pay_len (by unfold maxLen; decide)
    have ha : all.length ≤ 10000 := by have := m.len; omega
    have k1 : f4n3 true (⟨s.Day + (a2.length : Int), setO ps s.Positions⟩, payS s ps, 0) t all = some .norm := by
     have := f4n7_at hsum hx ha true ⟨s.Day + (a2.length : Int), setO ps s.Positions⟩ t 0 all.length FUEL 0 (by omega) (lt_FUEL (Nat.le_trans ha (by unfold maxLen; decide))) (by omega)
     rw [show ((0 : Nat) : Int) = 0 from rfl] at this
     unfold f4n3
     rw [this]; rfl
    have k2 : f4n8 true (⟨s.Day + (a2.length : Int), setO ps s.Positions⟩, payS s ps, 0) t all = some .norm := by
     unfold f4n8
     rw [f4n9_run true (⟨s.Day + (a2.length : Int), setO ps s.Positions⟩, payS s ps, 0) t all hx, f4n9L_eq' ha]
     ·rfl
     ·intro y hy
      rw [hsum, sp_one (payS_nd s ps) hy]
      have := (hd.pay_mem hy).2
      exact wr_in (by omega) (by omega)
    have k3 : f18 t ⟨s.Day + (a2.length : Int), setO ps s.Positions⟩ = some true := f18_same h9 (by
     rw [h9]
     exact Nat.le_trans (setO_len ps s.Positions) (Nat.le_trans ok.len (by unfold maxLen; decide)))
    simp only [decide_true, cond_true, e3, k1, k2, k3, Option.bind_some]
   ·rw [decide_eq_false he, cond_false]
    rw [hset] at he ⊢
    cases hr : (accM ps s.Positions []).all (fun x => inR x.2 1125899906842624) with
    | true => rw [hr] at he; exact absurd rfl he
    | false => rfl
end Go.Proofs.Ytelblamgfbkhbaa
