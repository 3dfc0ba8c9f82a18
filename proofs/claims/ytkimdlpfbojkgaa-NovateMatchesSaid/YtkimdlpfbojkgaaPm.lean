/- What the functions of the program and of the reference give, in plain words; the law that they give the same. No condition. -/
import Derived.Test.YtkimdlpfbojkgaaG6
namespace Go.Proofs.Ytkimdlpfbojkgaa
set_option linter.unusedVariables false
set_option linter.unusedSimpArgs false
open Go.RowKit
theorem fit_small {n b : Nat} (h : n ≤ 1000000) (hb : b ≤ 1000000) : fit n b = true := by
  unfold fit
  have : n * b ≤ 1000000 * 1000000 := Nat.mul_le_mul h hb
  simp only [Bool.and_eq_true, Nat.ble_eq]
  omega
theorem seq_self (s : ByteArray) : seq s s = true := by simp [seq]
theorem seq_eq {a b : ByteArray} (h : seq a b = true) : a = b := bytes_eq (by simpa [seq] using h)
/-! ### names -/
def letterI (c : Int) : Bool := (decide (97 ≤ c) && decide (c ≤ 122)) || (decide (65 ≤ c) && decide (c ≤ 90))
def otherI (c : Int) : Bool := (decide (48 ≤ c) && decide (c ≤ 57)) || (decide (c = 95) || decide (c = 45))
theorem f54_eq (c : Int) : f54 c = some (letterI c) := by
  unfold f54 f54n0 letterI
  cases decide (97 ≤ c) <;> cases decide (c ≤ 122) <;> cases decide (65 ≤ c) <;> cases decide (c ≤ 90) <;> rfl
def charB (b : UInt8) : Bool := letterI b.toNat || otherI b.toNat
def isName (l : List UInt8) : Bool := match l with
  | [] => false
  | b :: r => decide (l.length ≤ 40) && (letterI b.toNat && r.all charB)
theorem lt_not (a b : Int) : decide (a < b) = !decide (b ≤ a) := by
  by_cases h : a < b
  · rw [decide_eq_true h, decide_eq_false (by omega)]; rfl
  · rw [decide_eq_false h, decide_eq_true (by omega)]; rfl
theorem f50n2L_eq' (bc : ByteArray) : ∀ (l : List UInt8) (v : Int), f50n2L bc l v = some (bif l.all charB then .exit0 else .ret)
  | [], v => rfl
  | b :: r, v => by
    rw [f50n2L, f54_eq]
    simp only [Option.bind_some, f50n2L_eq' bc r, lt_not, List.all_cons, charB, otherI]
    cases letterI b.toNat <;> cases decide ((48 : Int) ≤ (b.toNat : Int)) <;> cases decide ((b.toNat : Int) ≤ 57) <;> cases decide ((b.toNat : Int) = 95) <;> cases decide ((b.toNat : Int) = 45) <;> rfl
theorem f50_eq (s : ByteArray) (h : s.size ≤ maxLen) : f50 s = some (isName s.data.toList) := by
  have hs : s.data.toList.length ≤ maxLen := h
  unfold f50 f50n0 f50n1
  rw [f50n2_run s hs, f50n2L_eq', size_list]
  generalize s.data.toList = l at hs
  cases l with
  | nil => rfl
  | cons b r =>
    have h1 : ¬ (((b :: r).length : Nat) : Int) < 1 := by simp; omega
    rw [decide_eq_false h1]
    have h0 : at? (b :: r) 0 = some b := rfl
    simp only [cond_false, h0, Option.bind_some, f54_eq, isName, List.all_cons, charB, lt_not]
    have h2 : decide ((((b :: r).length : Nat) : Int) ≤ 40) = decide ((b :: r).length ≤ 40) := by congr 1; apply propext; omega
    rw [h2]
    cases decide ((b :: r).length ≤ 40) <;> cases letterI b.toNat <;> cases r.all charB <;> rfl
theorem f56n2_eq (bc : ByteArray) (k : Nat) {b : UInt8} (h : bc.data.toList[k]? = some b) : f56n2 bc (k : Int) = some (bif letterI b.toNat || (otherI b.toNat && !decide (k = 0)) then .norm else .ret) := by
  unfold f56n2 f56n3 f56n4 f56n5
  rw [at_nat, h]
  have h2 : decide ((k : Int) = 0) = decide (k = 0) := by congr 1; apply propext; omega
  simp only [Option.bind_some, letterI, otherI, h2]
  cases decide (97 ≤ (b.toNat : Int)) <;> cases decide ((b.toNat : Int) ≤ 122) <;> cases decide (65 ≤ (b.toNat : Int)) <;> cases decide ((b.toNat : Int) ≤ 90) <;>
    cases decide ((48 : Int) ≤ (b.toNat : Int)) <;> cases decide ((b.toNat : Int) ≤ 57) <;> cases decide ((b.toNat : Int) = 95) <;> cases decide ((b.toNat : Int) = 45) <;> cases decide (k = 0) <;> rfl
theorem f56n6_eq (bc : ByteArray) (hm : bc.data.toList.length ≤ maxLen) : ∀ (l : List UInt8) (f k : Nat), bc.data.toList.drop k = l → 0 < k → l.length < f → f56n6 f bc (k : Int) = some (bif l.all charB then .exit0 else .ret)
  | _, 0, _, _, _, hf => absurd hf (Nat.not_lt_zero _)
  | [], f + 1, k, hd, h0, hf => by
    have hk : ¬ ((k : Int) < (bc.data.toList.length : Int)) := by have := drop_nil hd; omega
    rw [f56n6]
    simp only [size_list, decide_eq_false hk, cond_false]; rfl
  | b :: r, f + 1, k, hd, h0, hf => by
    obtain ⟨hx, hlt, hd'⟩ := drop_cons hd
    have hk : (k : Int) < (bc.data.toList.length : Int) := by omega
    have hw : wr64 ((k : Int) + 1) = ((k + 1 : Nat) : Int) := (wr64_of (by omega) (by unfold maxLen at hm; omega))
    have ih := f56n6_eq bc hm r f (k + 1) hd' (by omega) (by simpa using hf)
    rw [f56n6]
    simp only [size_list, decide_eq_true hk, cond_true, f56n2_eq bc k hx, Option.bind_some, hw, ih, List.all_cons, charB, decide_eq_false (show ¬ k = 0 by omega), Bool.not_false, Bool.and_true]
    cases letterI b.toNat || otherI b.toNat <;> cases r.all charB <;> rfl
theorem f56_eq (s : ByteArray) (h : s.size ≤ maxLen) : f56 s = some (isName s.data.toList) := by
  have hs : s.data.toList.length ≤ maxLen := h
  unfold f56 f56n0 f56n1
  rw [size_list]
  have key : ∀ b r, s.data.toList = b :: r → f56n6 FUEL s 0 = some (bif letterI b.toNat && r.all charB then .exit0 else .ret) := fun b r e => by
    have hx : s.data.toList[0]? = some b := by rw [e]; rfl
    have hk : ((0 : Nat) : Int) < (s.data.toList.length : Int) := by rw [e]; simp only [List.length_cons]; omega
    have hF : FUEL = 18446744073709551615 + 1 := rfl
    rw [hF]
    show f56n6 (18446744073709551615 + 1) s ((0 : Nat) : Int) = _
    rw [f56n6]
    have ih := f56n6_eq s hs r 18446744073709551615 1 (by rw [e]; rfl) (by omega) (by rw [e] at hs; simp at hs; unfold maxLen at hs; omega)
    have hw : wr64 (((0 : Nat) : Int) + 1) = ((1 : Nat) : Int) := rfl
    simp only [size_list, decide_eq_true hk, cond_true, f56n2_eq s 0 hx, Option.bind_some, hw, ih, decide_true, Bool.not_true, Bool.and_false, Bool.or_false]
    cases letterI b.toNat <;> cases r.all charB <;> rfl
  cases e : s.data.toList with
  | nil => rfl
  | cons b r =>
    rw [key b r e]
    have h1 : ¬ (((b :: r).length : Nat) : Int) < 1 := by simp; omega
    rw [decide_eq_false h1]
    simp only [cond_false, Option.bind_some, isName, lt_not]
    have h2 : decide ((((b :: r).length : Nat) : Int) ≤ 40) = decide ((b :: r).length ≤ 40) := by congr 1; apply propext; omega
    rw [h2]
    cases decide ((b :: r).length ≤ 40) <;> cases letterI b.toNat <;> cases r.all charB <;> rfl
/-! ### terms, trades, books -/
def partyB (s : ByteArray) : Bool := isName s.data.toList && !seq s str_house
def agreedB (t : NovateTrade) : Bool := partyB t.Buyer && (partyB t.Seller && (!seq t.Buyer t.Seller && (isName t.Product.data.toList && (decide (1 ≤ t.Quantity) && (decide (t.Quantity ≤ 1048576) && (decide (-536870912 ≤ t.Price) && decide (t.Price ≤ 536870912)))))))
theorem f49_eq (s : ByteArray) (h : s.size ≤ maxLen) : f49 s = some (partyB s) := by
  unfold f49 f49n0 partyB
  rw [f50_eq s h]
  cases seq s str_house <;> cases isName s.data.toList <;> rfl
theorem f55_eq (s : ByteArray) (h : s.size ≤ maxLen) : f55 s = some (partyB s) := by
  unfold f55 f55n0 partyB
  rw [f56_eq s h]
  cases seq s str_house <;> cases isName s.data.toList <;> rfl
theorem f35_eq (t : NovateTrade) (h : t.ok) : f35 t = some (agreedB t) := by
  unfold f35 f35n0 f35n1 agreedB
  rw [f49_eq _ h.1, f49_eq _ h.2.1, f50_eq _ h.2.2.1]
  simp only [Option.bind_some]
  cases partyB t.Buyer <;> cases partyB t.Seller <;> cases seq t.Buyer t.Seller <;> cases isName t.Product.data.toList <;> cases decide (1 ≤ t.Quantity) <;> cases decide (t.Quantity ≤ 1048576) <;> cases decide (-536870912 ≤ t.Price) <;> cases decide (t.Price ≤ 536870912) <;> rfl
theorem f51_eq (t : NovateTrade) (h : t.ok) : f51 t = some (agreedB t) := by
  unfold f51 f51n0 agreedB
  rw [f55_eq _ h.1, f55_eq _ h.2.1, f56_eq _ h.2.2.1]
  simp only [Option.bind_some]
  cases partyB t.Buyer <;> cases partyB t.Seller <;> cases seq t.Buyer t.Seller <;> cases isName t.Product.data.toList <;> cases decide (1 ≤ t.Quantity) <;> cases decide (t.Quantity ≤ 1048576) <;> cases decide (-536870912 ≤ t.Price) <;> cases decide (t.Price ≤ 536870912) <;> rfl
def validB (t : NovateTrade) : Bool := agreedB t && (bif t.Bought && t.Sold then decide (t.Stage = 1) || decide (t.Stage = 3) else decide (t.Stage = 0) || decide (t.Stage = 2))
theorem f33_eq (t : NovateTrade) (h : t.ok) : f33 t = some (validB t) := by
  unfold f33 f33n0 f33n1 validB
  rw [f35_eq t h]
  have e : (decide (t.Stage = 0) = true → decide (t.Stage = 1) = false ∧ decide (t.Stage = 3) = false) ∧ (decide (t.Stage = 2) = true → decide (t.Stage = 1) = false ∧ decide (t.Stage = 3) = false) := by
    simp only [decide_eq_true_eq, decide_eq_false_iff_not]; omega
  revert e
  simp only [Option.bind_some]
  cases t.Bought <;> cases t.Sold <;> cases agreedB t <;> cases decide (t.Stage = 0) <;> cases decide (t.Stage = 1) <;> cases decide (t.Stage = 2) <;> cases decide (t.Stage = 3) <;> intro e <;> first | rfl | (simp at e)
theorem f47_eq (t : NovateTrade) (h : t.ok) : f47 t = some (validB t) := by
  unfold f47 f47n0 f47n1 f47n2 validB
  rw [f51_eq t h]
  simp only [Option.bind_some]
  cases t.Bought <;> cases t.Sold <;> cases agreedB t <;> cases decide (t.Stage = 0) <;> cases decide (t.Stage = 1) <;> cases decide (t.Stage = 2) <;> cases decide (t.Stage = 3) <;> rfl
def okL (l : List NovateTrade) : Prop := l.length ≤ 1000 ∧ ∀ x ∈ l, x.ok
theorem okL.max {l : List NovateTrade} (h : okL l) : l.length ≤ maxLen := by have := h.1; unfold maxLen; omega
theorem f48L_eq (ba : List NovateTrade) : ∀ (l : List NovateTrade) (v : Int), (∀ x ∈ l, x.ok) → 0 ≤ v → ∃ o, f48_32n2L ba l v = some o ∧ (bif l.all validB then o = .exit0 else ∃ k, 0 ≤ k ∧ o = .ret k)
  | [], v, _, _ => ⟨_, rfl, rfl⟩
  | t :: l, v, h, hv => by
    obtain ⟨o, h1, h2⟩ := f48L_eq ba l (v + 1) (fun x hx => h x (List.mem_cons_of_mem _ hx)) (by omega)
    rw [f48_32n2L]
    unfold f32 f32n0
    rw [f33_eq t (h t List.mem_cons_self)]
    simp only [Option.bind_some, List.all_cons]
    cases hv : validB t with
    | true =>
      refine ⟨o, ?_, ?_⟩
      · simpa using h1
      · simpa using h2
    | false => exact ⟨.ret v, rfl, ⟨v, by omega, rfl⟩⟩
def chk (l : List NovateTrade) : Int := bif decide (200 < (l.length : Int)) then 8 else bif l.all validB then 0 else 8
theorem f13_eq (l : List NovateTrade) (h : okL l) : f13 ⟨l⟩ = some (chk l) := by
  unfold f13 f13n0 f34_32 f34_32n0 f48_32 f48_32n0 f48_32n1 chk
  dsimp only
  rw [f48_32n2_run l h.max]
  obtain ⟨o, h1, h2⟩ := f48L_eq l l 0 h.2 (by omega)
  rw [h1]
  cases decide (200 < (l.length : Int)) with
  | true => rfl
  | false =>
    simp only [cond_false, Option.bind_some]
    cases hv : l.all validB with
    | true => rw [hv] at h2; simp only [cond_true] at h2; subst h2; rfl
    | false =>
      rw [hv] at h2; simp only [cond_false] at h2
      obtain ⟨k, hk, rfl⟩ := h2
      simp only [Option.bind_some, decide_eq_true hk]; rfl
theorem f30L_eq (b : NovateBook) : ∀ (l : List NovateTrade) (v : Int), (∀ x ∈ l, x.ok) → f30n2L b l v = some (bif l.all validB then .exit0 else .ret)
  | [], v, _ => rfl
  | t :: l, v, h => by
    rw [f30n2L, f47_eq t (h t List.mem_cons_self)]
    simp only [Option.bind_some, f30L_eq b l (v + 1) (fun x hx => h x (List.mem_cons_of_mem _ hx)), List.all_cons]
    cases validB t <;> rfl
theorem f30_eq (l : List NovateTrade) (h : okL l) : f30 ⟨l⟩ = some (chk l) := by
  unfold f30 f30n0 f30n1 chk
  rw [f30n2_run ⟨l⟩ h.max, f30L_eq ⟨l⟩ l 0 h.2]
  cases decide (200 < (l.length : Int)) <;> cases l.all validB <;> rfl
theorem clone_eq (l : List NovateTrade) (h : okL l) : f36r1 l = some l ∧ f36r2 l = some l ∧ f36r3 l = some l ∧ f16r1 ⟨l⟩ = some l := by
  have hf : fit l.length 72 = true := fit_small (by have := h.1; omega) (by omega)
  unfold f36r1 f36r1n0 f36r2 f36r2n0 f36r3 f36r3n0 f16r1 f16r1n0
  cases l with
  | nil => exact ⟨rfl, rfl, rfl, rfl⟩
  | cons a l =>
    have hf' : fit (l.length + 1) 72 = true := hf
    simp [req, hf']
/-! ### calls -/
theorem sub1 {n : Int} (h : okInt .i64 n) (h1 : ¬ n < 1) : wr64 (n - 1) = n - 1 := by
  have := h.i64
  exact wr64_of (by omega) (by omega)
theorem chk_cases (l : List NovateTrade) : (chk l = 0 ∧ l.length ≤ 200 ∧ l.all validB = true) ∨ chk l = 8 := by
  unfold chk
  cases hd : decide (200 < (l.length : Int)) with
  | true => exact .inr rfl
  | false =>
    cases hv : l.all validB with
    | true => have := of_decide_eq_false hd; exact .inl ⟨rfl, by omega, rfl⟩
    | false => exact .inr rfl
theorem submit_same (l : List NovateTrade) (h : okL l) (a b c : ByteArray) (q p : Int) (ha : a.size ≤ maxLen) (hb : b.size ≤ maxLen) (hc : c.size ≤ maxLen) (hq : okInt .i64 q) (hp : okInt .i64 p) :
    ∃ n e l', f15r1 a b c q p l = some (n, e, l') ∧ f41 ⟨l⟩ a b c q p = some (⟨l'⟩, n, e) ∧ l'.length ≤ 1001 := by
  have ht : (NovateTrade.mk a b c q p false false 0).ok := ⟨ha, hb, hc, hq, hp, trivial, trivial, rfl, trivial⟩
  obtain ⟨c1, c2, c3, c4⟩ := clone_eq l h
  have hl := h.1
  have hf : fit (l.length + 1) 72 = true := fit_small (by omega) (by omega)
  unfold f15r1 f15r1n0 f15r1n1 f41 f41n0
  rw [f13_eq l h, f30_eq l h, f35_eq _ ht, f51_eq _ ht, c1, c4]
  simp only [Option.bind_some]
  rcases chk_cases l with ⟨h0, hle, _⟩ | h8
  · rw [h0]
    cases hA : agreedB ⟨a, b, c, q, p, false, false, 0⟩ with
    | false => exact ⟨_, _, _, rfl, rfl, by simp⟩
    | true =>
      have e : decide (((l.length : Nat) : Int) = 200) = decide (200 ≤ ((l.length : Nat) : Int)) := by congr 1; apply propext; omega
      rw [e]
      cases decide (200 ≤ ((l.length : Nat) : Int)) with
      | true => exact ⟨_, _, _, rfl, rfl, by simp⟩
      | false => refine ⟨(((l ++ [⟨a, b, c, q, p, false, false, 0⟩] : List NovateTrade).length : Nat) : Int), 0, l ++ [⟨a, b, c, q, p, false, false, 0⟩], ?_, ?_, by simp; omega⟩ <;> simp [req, hf]
  · rw [h8]; exact ⟨_, _, _, rfl, rfl, by simp⟩
/-- What a change of a trade begins with. -/
theorem place (l : List NovateTrade) (h : okL l) (n : Int) (hn : okInt .i64 n) (h1 : ¬ n < 1) (h2 : ¬ ((l.length : Nat) : Int) < n) : ∃ t, wr64 (n - 1) = (((n - 1).toNat : Nat) : Int) ∧ l[(n - 1).toNat]? = some t ∧ t ∈ l := by
  have hk : (n - 1).toNat < l.length := by omega
  exact ⟨l[(n - 1).toNat], by rw [sub1 hn h1]; omega, List.getElem?_eq_getElem hk, List.getElem_mem hk⟩
theorem refuse_same (l : List NovateTrade) (h : okL l) (n : Int) (hn : okInt .i64 n) (y : ByteArray) : ∃ e l', f23r1 n y l = some (e, l') ∧ f42 ⟨l⟩ n y = some (⟨l'⟩, e) ∧ l'.length ≤ 1001 := by
  obtain ⟨c1, c2, c3, c4⟩ := clone_eq l h
  have hl := h.1
  unfold f23r1 f23r1n0 f37r1 f37r1n0 f37r1n1 f37r1n2 f42 f42n0 f52 f52n0 f53 f53n0
  rw [f13_eq l h, f30_eq l h, c2, c4]
  simp only [Option.bind_some]
  rcases chk_cases l with ⟨h0, hle, _⟩ | h8
  · rw [h0]
    by_cases h1 : n < 1
    · simp only [decide_eq_true h1]; exact ⟨_, _, rfl, rfl, by simp⟩
    · by_cases h2 : ((l.length : Nat) : Int) < n
      · simp only [decide_eq_false h1, decide_eq_true h2]; exact ⟨_, _, rfl, rfl, by simp⟩
      · obtain ⟨t, hw, ht, hm⟩ := place l h n hn h1 h2
        unfold f45r1 f45r1n0 f39r1 f39r1n0
        simp only [decide_eq_false h1, decide_eq_false h2, hw, at_nat, ht, Option.bind_some, Int.toNat_natCast, decide_true, cond_true, cond_false]
        cases decide (t.Stage = 0) <;> cases seq y t.Buyer <;> cases seq y t.Seller <;> first | exact ⟨_, _, rfl, rfl, by simp <;> omega⟩ | (simp only [ht, Option.bind_some, decide_true, cond_true, cond_false]; exact ⟨_, _, rfl, rfl, by simp <;> omega⟩)
  · rw [h8]; exact ⟨_, _, rfl, rfl, by simp⟩
theorem undo_same (l : List NovateTrade) (h : okL l) (n : Int) (hn : okInt .i64 n) : ∃ e l', f18r1 n l = some (e, l') ∧ f43 ⟨l⟩ n = some (⟨l'⟩, e) ∧ l'.length ≤ 1001 := by
  obtain ⟨c1, c2, c3, c4⟩ := clone_eq l h
  have hl := h.1
  unfold f18r1 f18r1n0 f37r2 f37r2n0 f37r2n1 f37r2n2 f43 f43n0 f43n1 f43n2 f53 f53n0
  rw [f13_eq l h, f30_eq l h, c3, c4]
  simp only [Option.bind_some]
  rcases chk_cases l with ⟨h0, hle, _⟩ | h8
  · rw [h0]
    by_cases h1 : n < 1
    · simp only [decide_eq_true h1]; exact ⟨_, _, rfl, rfl, by simp⟩
    · by_cases h2 : ((l.length : Nat) : Int) < n
      · simp only [decide_eq_false h1, decide_eq_true h2]; exact ⟨_, _, rfl, rfl, by simp⟩
      · obtain ⟨t, hw, ht, hm⟩ := place l h n hn h1 h2
        unfold f40r1 f40r1n0
        simp only [decide_eq_false h1, decide_eq_false h2, hw, at_nat, ht, Option.bind_some, Int.toNat_natCast, decide_true, cond_true, cond_false]
        cases decide (t.Stage = 1) <;> first | exact ⟨_, _, rfl, rfl, by simp <;> omega⟩ | (simp only [ht, Option.bind_some, decide_true, cond_true, cond_false]; exact ⟨_, _, rfl, rfl, by simp <;> omega⟩)
  · rw [h8]; exact ⟨_, _, rfl, rfl, by simp⟩
theorem confirm_same (l : List NovateTrade) (h : okL l) (n : Int) (hn : okInt .i64 n) (y : ByteArray) : ∃ e l', f17r1 n y l = some (e, l') ∧ f44 ⟨l⟩ n y = some (⟨l'⟩, e) ∧ l'.length ≤ 1001 := by
  obtain ⟨c1, c2, c3, c4⟩ := clone_eq l h
  have hl := h.1
  unfold f17r1 f17r1n0 f37r3 f37r3n0 f37r3n1 f37r3n2 f44 f44n0 f52 f52n0 f53 f53n0
  rw [f13_eq l h, f30_eq l h, c2, c4]
  simp only [Option.bind_some]
  rcases chk_cases l with ⟨h0, hle, hv⟩ | h8
  · rw [h0]
    by_cases h1 : n < 1
    · simp only [decide_eq_true h1]; exact ⟨_, _, rfl, rfl, by simp⟩
    · by_cases h2 : ((l.length : Nat) : Int) < n
      · simp only [decide_eq_false h1, decide_eq_true h2]; exact ⟨_, _, rfl, rfl, by simp⟩
      · obtain ⟨t, hw, ht, hm⟩ := place l h n hn h1 h2
        have hne : seq t.Buyer t.Seller = false := by
          have := List.all_eq_true.1 hv t hm
          simp only [validB, agreedB, Bool.and_eq_true] at this
          simpa using this.1.2.2.1
        have hx : seq y t.Buyer = true → seq y t.Seller = false := fun e => by rw [seq_eq e]; exact hne
        unfold f38r1 f38r1n0 f39r1 f39r1n0 f44n1 f44n2 f44n3
        revert hx
        simp only [decide_eq_false h1, decide_eq_false h2, hw, at_nat, ht, Option.bind_some, Int.toNat_natCast, decide_true, cond_true, cond_false]
        cases decide (t.Stage = 0) with
        | false => intro _; exact ⟨_, _, rfl, rfl, by simp⟩
        | true =>
          cases hb : seq y t.Buyer <;> cases hs : seq y t.Seller <;> intro hx
          · exact ⟨_, _, rfl, rfl, by simp⟩
          · simp only [ht, hb, hs, Option.bind_some, decide_true, cond_true, cond_false]
            cases t.Sold <;> cases hbo : t.Bought <;> simp only [hbo, cond_true, cond_false, decide_true, Option.bind_some, List.set_set] <;> exact ⟨_, _, rfl, rfl, by simp <;> omega⟩
          · simp only [ht, hb, hs, Option.bind_some, decide_true, cond_true, cond_false]
            cases hso : t.Sold <;> cases hbo : t.Bought <;> simp only [hso, hbo, cond_true, cond_false, decide_true, Option.bind_some, List.set_set] <;> exact ⟨_, _, rfl, rfl, by simp <;> omega⟩
          · exact absurd (hx rfl) (by simp)
  · rw [h8]; exact ⟨_, _, rfl, rfl, by simp⟩
theorem call_same (l : List NovateTrade) (h : okL l) (o : Op_) (ho : o.ok) : ∃ n e l', f20r1 o l = some (n, e, l') ∧ f21 ⟨l⟩ o = some (⟨l'⟩, n, e) ∧ l'.length ≤ 1001 := by
  obtain ⟨o1, o2, o3, o4, o5, o6, o7, o8, _⟩ := ho
  unfold f20r1 f20r1n0 f21 f21n0
  cases decide (o.Kind = 0) with
  | true =>
    obtain ⟨n, e, l', h1, h2, h3⟩ := submit_same l h o.Buyer o.Seller o.Product o.Quantity o.Price o4 o5 o6 o7 o8
    exact ⟨n, e, l', by simp only [cond_true, h1, Option.bind_some], by simp only [cond_true, h2, Option.bind_some], h3⟩
  | false =>
    cases decide (o.Kind = 1) with
    | true =>
      obtain ⟨e, l', h1, h2, h3⟩ := refuse_same l h o.Number o2 o.By
      exact ⟨0, e, l', by simp only [cond_true, cond_false, h1, Option.bind_some], by simp only [cond_true, cond_false, h2, Option.bind_some], h3⟩
    | false =>
      cases decide (o.Kind = 2) with
      | true =>
        obtain ⟨e, l', h1, h2, h3⟩ := undo_same l h o.Number o2
        exact ⟨0, e, l', by simp only [cond_true, cond_false, h1, Option.bind_some], by simp only [cond_true, cond_false, h2, Option.bind_some], h3⟩
      | false =>
        obtain ⟨e, l', h1, h2, h3⟩ := confirm_same l h o.Number o2 o.By
        exact ⟨0, e, l', by simp only [cond_false, h1, Option.bind_some], by simp only [cond_false, h2, Option.bind_some], h3⟩
/-! ### legs -/
def legsOf : List NovateTrade → Int → List NovateLeg
  | [], _ => []
  | t :: r, k => bif decide (t.Stage = 1) then NovateLeg.mk (wr64 (k + 1)) t.Buyer str_house t.Product t.Quantity t.Price :: NovateLeg.mk (wr64 (k + 1)) str_house t.Seller t.Product t.Quantity t.Price :: legsOf r (k + 1) else legsOf r (k + 1)
theorem legs_len : ∀ (l : List NovateTrade) (k : Int), (legsOf l k).length ≤ 2 * l.length
  | [], k => Nat.le_refl _
  | t :: r, k => by
    have := legs_len r (k + 1)
    rw [legsOf]
    cases decide (t.Stage = 1) <;> simp <;> omega
theorem f12L_eq (b : NovateBook) : ∀ (l : List NovateTrade) (k : Int) (a : List NovateLeg), a.length + 2 * l.length ≤ 100000 → f12n2L b l k a = some (.exit0 (a ++ legsOf l k))
  | [], k, a, _ => by simp [f12n2L, legsOf]
  | t :: r, k, a, h => by
    simp only [List.length_cons] at h
    rw [f12n2L, legsOf]
    have hf : fit (a.length + 2) 72 = true := fit_small (by omega) (by omega)
    cases decide (t.Stage = 1)
    · simp only [cond_false]; exact f12L_eq b r (k + 1) a (by omega)
    · simp only [cond_true, req, hf]
      rw [f12L_eq b r (k + 1) _ (by simp; omega)]
      simp
theorem f25L_eq (b : NovateBook) : ∀ (l : List NovateTrade) (k : Int) (a : List NovateLeg), a.length + 2 * l.length ≤ 100000 → f25n2L b l k a = some (.exit0 (a ++ legsOf l k))
  | [], k, a, _ => by simp [f25n2L, legsOf]
  | t :: r, k, a, h => by
    simp only [List.length_cons] at h
    rw [f25n2L, legsOf]
    have hf : fit (a.length + 1) 72 = true := fit_small (by omega) (by omega)
    have hf2 : ∀ x : NovateLeg, fit ((a ++ [x]).length + 1) 72 = true := fun x => fit_small (by simp; omega) (by omega)
    cases decide (t.Stage = 1)
    · simp only [cond_false]; exact f25L_eq b r (k + 1) a (by omega)
    · simp only [cond_true, req, hf, hf2]
      rw [f25L_eq b r (k + 1) _ (by simp; omega)]
      simp
def legsR (l : List NovateTrade) : List NovateLeg := bif decide (chk l = 0) then legsOf l 0 else []
theorem f12_eq (l : List NovateTrade) (h : okL l) : f12 ⟨l⟩ = some (legsR l, chk l) := by
  unfold f12 f12n0 f12n1 legsR
  rw [f13_eq l h, f12n2_run ⟨l⟩ [] h.max, f12L_eq ⟨l⟩ l 0 [] (by have := h.1; simp; omega)]
  rcases chk_cases l with ⟨h0, _⟩ | h0 <;> rw [h0] <;> rfl
theorem f25_eq (l : List NovateTrade) (h : okL l) : f25 ⟨l⟩ = some (legsR l, chk l) := by
  unfold f25 f25n0 f25n1 legsR
  rw [f30_eq l h, f25n2_run ⟨l⟩ [] h.max, f25L_eq ⟨l⟩ l 0 [] (by have := h.1; simp; omega)]
  rcases chk_cases l with ⟨h0, _⟩ | h0 <;> rw [h0] <;> rfl
theorem legsR_len (l : List NovateTrade) (h : okL l) : (legsR l).length ≤ 2000 := by
  have := h.1
  have := legs_len l 0
  unfold legsR
  cases decide (chk l = 0) <;> simp <;> omega
/-! ### positions -/
theorem f14L_eq (a b : ByteArray) (x : (List NovateLeg) × Int) (y : List NovateLeg) : ∀ (l : List NovateLeg) (q c k : Int), ∃ q' c', f14n2L a b x l q c k = some (.exit0 q' c') ∧ f46n2L y a b l q c k = some (.exit0 q' c')
  | [], q, c, k => ⟨q, c, rfl, rfl⟩
  | t :: r, q, c, k => by
    rw [f14n2L, f46n2L]
    cases seq t.Product b <;> cases seq t.Buyer a <;> cases seq t.Seller a <;> simp only [cond_true, cond_false] <;> exact f14L_eq a b x y r _ _ _
theorem position_same (l : List NovateTrade) (h : okL l) (a b : ByteArray) : ∃ q c, f14 ⟨l⟩ a b = some (q, c, chk l) ∧ f26 ⟨l⟩ a b = some (q, c, chk l) := by
  obtain ⟨q, c, h1, h2⟩ := f14L_eq a b (legsR l, chk l) (legsR l) (legsR l) 0 0 0
  have hm : (legsR l).length ≤ maxLen := by have := legsR_len l h; unfold maxLen; omega
  refine ⟨q, c, ?_, ?_⟩
  · unfold f14 f14n0 f14n1
    rw [f12_eq l h]
    simp only [Option.bind_some]
    rw [f14n2_run a b (legsR l, chk l) 0 0 hm, h1]; rfl
  · unfold f26 f26n0 f46 f46n0 f46n1
    rw [f25_eq l h]
    simp only [Option.bind_some]
    rw [f46n2_run (legsR l) a b 0 0 hm, h2]; rfl
/-! ### what is agreed -/
def agrOf : List NovateTrade → List NovateLeg
  | [] => []
  | t :: r => bif decide (t.Stage = 1) then NovateLeg.mk 0 t.Buyer t.Seller t.Product t.Quantity t.Price :: agrOf r else agrOf r
theorem agr_len : ∀ l : List NovateTrade, (agrOf l).length ≤ l.length
  | [] => Nat.le_refl _
  | t :: r => by
    have := agr_len r
    rw [agrOf]
    cases decide (t.Stage = 1) <;> simp <;> omega
theorem f28L_eq (a b : ByteArray) (bk : NovateBook) : ∀ (l : List NovateTrade) (k : Int) (x : List NovateLeg), x.length + 2 * l.length ≤ 100000 → f28n2L a b bk l k x = some (.exit0 (x ++ agrOf l))
  | [], k, x, _ => by simp [f28n2L, agrOf]
  | t :: r, k, x, h => by
    simp only [List.length_cons] at h
    rw [f28n2L, agrOf]
    have hf : fit (x.length + 1) 72 = true := fit_small (by omega) (by omega)
    cases decide (t.Stage = 1)
    · simp only [cond_false]; exact f28L_eq a b bk r (k + 1) x (by omega)
    · simp only [cond_true, req, hf]
      rw [f28L_eq a b bk r (k + 1) _ (by simp; omega)]
      simp
theorem wr_range (n : Int) : -9223372036854775808 ≤ wr64 n ∧ wr64 n ≤ 9223372036854775807 := by
  show -9223372036854775808 ≤ IntKind.i64.wrap n ∧ IntKind.i64.wrap n ≤ 9223372036854775807
  rw [IntKind.wrap_i64]; omega
theorem agreedL_eq (a b : ByteArray) (bk : NovateBook) (y : List NovateLeg) : ∀ (l : List NovateTrade) (q c k k2 : Int), (∀ t ∈ l, validB t = true) → (-9223372036854775808 ≤ q ∧ q ≤ 9223372036854775807) → (-9223372036854775808 ≤ c ∧ c ≤ 9223372036854775807) →
    ∃ q' c', f27n2L a b bk l q c k = some (.exit0 q' c') ∧ f46n2L y a b (agrOf l) q c k2 = some (.exit0 q' c')
  | [], q, c, k, k2, _, _, _ => ⟨q, c, rfl, rfl⟩
  | t :: r, q, c, k, k2, h, hq, hc => by
    have ih := fun q c k k2 => agreedL_eq a b bk y r q c k k2 (fun t ht => h t (List.mem_cons_of_mem _ ht))
    have hv := h t List.mem_cons_self
    simp only [validB, agreedB, Bool.and_eq_true, decide_eq_true_eq] at hv
    obtain ⟨⟨_, _, hne, _, q1, q2, p1, p2⟩, _⟩ := hv
    have hne : seq t.Buyer t.Seller = false := by simpa using hne
    have m1 : t.Quantity * t.Price ≤ t.Quantity * 536870912 := Int.mul_le_mul_of_nonneg_left p2 (by omega)
    have m2 : t.Quantity * (-536870912) ≤ t.Quantity * t.Price := Int.mul_le_mul_of_nonneg_left p1 (by omega)
    have e1 : wr64 (1 * t.Quantity) = t.Quantity := by rw [Int.one_mul]; exact wr64_of (by omega) (by omega)
    have e2 : wr64 (-1 * t.Quantity) = -t.Quantity := by rw [Int.neg_one_mul]; exact wr64_of (by omega) (by omega)
    have e3 : wr64 (0 * t.Quantity) = 0 := by rw [Int.zero_mul]; rfl
    have e4 : wr64 (t.Quantity * t.Price) = t.Quantity * t.Price := wr64_of (by omega) (by omega)
    have e5 : wr64 (-t.Quantity * t.Price) = -(t.Quantity * t.Price) := by rw [Int.neg_mul]; exact wr64_of (by omega) (by omega)
    have e6 : wr64 (0 * t.Price) = 0 := by rw [Int.zero_mul]; rfl
    have z : ∀ v : Int, (-9223372036854775808 ≤ v ∧ v ≤ 9223372036854775807) → wr64 (v + 0) = v := fun v hv => by rw [Int.add_zero]; exact wr64_of hv.1 hv.2
    rw [f27n2L, agrOf]
    simp only [e1, e2, e3, e4, e5, e6, z q hq, z c hc]
    cases decide (t.Stage = 1) with
    | false => simp only [cond_false]; exact ih q c _ _ hq hc
    | true =>
      simp only [cond_true]
      rw [f46n2L]
      simp only [e4]
      cases seq t.Product b with
      | false => simp only [cond_false]; exact ih q c _ _ hq hc
      | true =>
        simp only [cond_true]
        cases hb : seq t.Buyer a with
        | true =>
          have : seq t.Seller a = false := by
            cases hs : seq t.Seller a with
            | false => rfl
            | true => rw [seq_eq hb, seq_eq hs, seq_self] at hne; cases hne
          simp only [this, cond_true, cond_false]
          exact ih _ _ _ _ (wr_range _) (wr_range _)
        | false =>
          simp only [cond_false]
          cases seq t.Seller a with
          | false => simp only [cond_false]; exact ih q c _ _ hq hc
          | true =>
            simp only [cond_true, ← Int.sub_eq_add_neg]
            exact ih _ _ _ _ (wr_range _) (wr_range _)
theorem agreed_same (l : List NovateTrade) (h : okL l) (a b : ByteArray) : ∃ q c, f27 ⟨l⟩ a b = some (q, c, chk l) ∧ f28 ⟨l⟩ a b = some (q, c, chk l) := by
  unfold f27 f27n0 f27n1 f28 f28n0 f28n1 f46 f46n0 f46n1
  rw [f13_eq l h, f30_eq l h]
  simp only [Option.bind_some]
  rcases chk_cases l with ⟨h0, _, hv⟩ | h8
  · obtain ⟨q, c, h1, h2⟩ := agreedL_eq a b ⟨l⟩ (agrOf l) l 0 0 0 0 (fun t ht => List.all_eq_true.1 hv t ht) (by omega) (by omega)
    have hm : (agrOf l).length ≤ maxLen := by have := agr_len l; have := h.1; unfold maxLen; omega
    refine ⟨q, c, ?_, ?_⟩
    · rw [h0, f27n2_run a b ⟨l⟩ 0 0 h.max, h1]; rfl
    · rw [h0, f28n2_run a b ⟨l⟩ [] h.max, f28L_eq a b ⟨l⟩ l 0 [] (by have := h.1; simp; omega)]
      simp only [decide_true, cond_true, Option.bind_some, List.nil_append]
      rw [f46n2_run (agrOf l) a b 0 0 hm, h2]; rfl
  · exact ⟨0, 0, by rw [h8]; rfl, by rw [h8]; rfl⟩
/-! ### comparisons -/
theorem eqbT_self (t : NovateTrade) : NovateTrade.eqb t t = true := by simp [NovateTrade.eqb, seq]
theorem eqbL_self (t : NovateLeg) : NovateLeg.eqb t t = true := by simp [NovateLeg.eqb, seq]
theorem same2_self (l : List NovateTrade) : ∀ (r : List NovateTrade) (k : Nat), l.drop k = r → f22r2n2L l ⟨l⟩ r (k : Int) = some .exit0
  | [], k, _ => rfl
  | t :: r, k, h => by
    obtain ⟨hx, _, hd⟩ := drop_cons h
    rw [f22r2n2L]
    simp only [at_nat, hx, Option.bind_some, eqbT_self, cond_true]
    exact same2_self l r (k + 1) hd
theorem f22r2_self (l : List NovateTrade) (h : l.length ≤ maxLen) : f22r2 ⟨l⟩ l = some true := by
  unfold f22r2 f22r2n0 f22r2n1
  rw [f22r2n2_run l ⟨l⟩ h]
  have := same2_self l l 0 rfl
  rw [show f22r2n2L l ⟨l⟩ l 0 = _ from this]
  simp only [decide_true, cond_true, Option.bind_some]
theorem same3_self (l : List NovateTrade) : ∀ (r : List NovateTrade) (k : Nat), l.drop k = r → f22r3n2L l ⟨l⟩ r (k : Int) = some .exit0
  | [], k, _ => rfl
  | t :: r, k, h => by
    obtain ⟨hx, _, hd⟩ := drop_cons h
    rw [f22r3n2L]
    simp only [at_nat, hx, Option.bind_some, eqbT_self, cond_true]
    exact same3_self l r (k + 1) hd
theorem f22r3_self (l : List NovateTrade) (h : l.length ≤ maxLen) : f22r3 ⟨l⟩ l = some true := by
  unfold f22r3 f22r3n0 f22r3n1
  rw [f22r3n2_run l ⟨l⟩ h]
  have := same3_self l l 0 rfl
  rw [show f22r3n2L l ⟨l⟩ l 0 = _ from this]
  simp only [decide_true, cond_true, Option.bind_some]
theorem same24_self (l : List NovateLeg) : ∀ (r : List NovateLeg) (k : Nat), l.drop k = r → f24n2L l l r (k : Int) = some .exit0
  | [], k, _ => rfl
  | t :: r, k, h => by
    obtain ⟨hx, _, hd⟩ := drop_cons h
    rw [f24n2L]
    simp only [at_nat, hx, Option.bind_some, eqbL_self, cond_true]
    exact same24_self l r (k + 1) hd
theorem f24_self (l : List NovateLeg) (h : l.length ≤ maxLen) : f24 l l = some true := by
  unfold f24 f24n0 f24n1
  rw [f24n2_run l l h]
  have := same24_self l l 0 rfl
  rw [show f24n2L l l l 0 = _ from this]
  simp only [decide_true, cond_true, Option.bind_some]
theorem touch_some : ∀ (m f k : Nat) (l : List NovateTrade), l.length = k + m → l.length ≤ maxLen → m < f → ∃ l', f29r1n1 f (k : Int) l = some (.exit0 l')
  | _, 0, _, _, _, _, hf => absurd hf (Nat.not_lt_zero _)
  | 0, f + 1, k, l, h, hm, _ => by
    rw [f29r1n1]
    have : ¬ ((k : Int) < (l.length : Int)) := by omega
    simp only [decide_eq_false this, cond_false]; exact ⟨_, rfl⟩
  | m + 1, f + 1, k, l, h, hm, hf => by
    rw [f29r1n1]
    have hk : (k : Int) < (l.length : Int) := by omega
    have hx : l[k]? = some l[k] := List.getElem?_eq_getElem (by omega)
    have hw : wr64 ((k : Int) + 1) = ((k + 1 : Nat) : Int) := wr64_of (by omega) (by unfold maxLen at hm; omega)
    simp only [decide_eq_true hk, cond_true, at_nat, hx, Option.bind_some, hw]
    exact touch_some m f (k + 1) _ (by simp; omega) (by simpa using hm) (by omega)
theorem f29_some (l : List NovateTrade) (h : l.length ≤ maxLen) : ∃ l', f29r1 l = some l' := by
  obtain ⟨l', h1⟩ := touch_some l.length FUEL 0 l (by omega) h (lt_FUEL h)
  unfold f29r1 f29r1n0
  rw [show f29r1n1 FUEL 0 l = _ from h1]
  exact ⟨l', rfl⟩
/-- The law NovateMatches. -/
theorem matches_law (b : NovateBook) (o : Op_) (hb : b.ok) (ho : o.ok) : f9 b o = some true := by
  obtain ⟨l⟩ := b
  unfold f9 f9n0 f11
  simp only [Option.bind_some]
  cases hd : decide (220 < ((l.length : Nat) : Int)) with
  | true => rfl
  | false =>
    have hl := of_decide_eq_false hd
    have h : okL l := ⟨by omega, hb.1.2⟩
    obtain ⟨c1, c2, c3, c4⟩ := clone_eq l h
    obtain ⟨n, e, l', k1, k2, k3⟩ := call_same l h o ho
    obtain ⟨q, c, p1, p2⟩ := position_same l h o.By o.Product
    obtain ⟨q', c', a1, a2⟩ := agreed_same l h o.By o.Product
    have m1 : l'.length ≤ maxLen := by unfold maxLen; omega
    have m2 : (legsR l).length ≤ maxLen := by have := legsR_len l h; unfold maxLen; omega
    obtain ⟨l'', t1⟩ := f29_some l' m1
    simp only [cond_false, cond_true, c4, k1, k2, f12_eq l h, f25_eq l h, p1, p2, a1, a2, Option.bind_some, f9n1, f22r2_self l' m1, f24_self (legsR l) m2, decide_true, t1, f13_eq l h, f30_eq l h, f22r3_self l h.max]
end Go.Proofs.Ytkimdlpfbojkgaa
