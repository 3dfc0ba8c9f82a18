/- Bytes, numbers, strings, records: written and read again, in plain words. No condition. -/
import Derived.Test.YtbgjlpdeoljmiaaJpM
namespace Go.Proofs.Ytbgjlpdeoljmiaa
set_option linter.unusedVariables false
set_option linter.unusedSimpArgs false
open Go.RowKit
def Byt (l : List Int) : Prop := ∀ x ∈ l, 0 ≤ x ∧ x ≤ 255
def num : List Int → Int
  | [] => 0
  | x :: r => x + 256 * num r
def low : Int → Nat → List Int
  | _, 0 => []
  | n, k + 1 => n % 256 :: low (n / 256) k
theorem Byt.app {a b : List Int} (h : Byt a) (k : Byt b) : Byt (a ++ b) := fun x hx => (List.mem_append.1 hx).elim (h x) (k x)
theorem Byt.left {a b : List Int} (h : Byt (a ++ b)) : Byt a := fun x hx => h x (List.mem_append_left _ hx)
theorem Byt.right {a b : List Int} (h : Byt (a ++ b)) : Byt b := fun x hx => h x (List.mem_append_right _ hx)
theorem Byt.take {a : List Int} (h : Byt a) (n : Nat) : Byt (a.take n) := fun x hx => h x (List.mem_of_mem_take hx)
theorem Byt.drop {a : List Int} (h : Byt a) (n : Nat) : Byt (a.drop n) := fun x hx => h x (List.mem_of_mem_drop hx)
theorem num_nn : ∀ {l : List Int}, Byt l → 0 ≤ num l ∧ num l < 256 ^ l.length
  | [], _ => ⟨Int.le_refl _, by decide⟩
  | x :: r, h => by
    obtain ⟨h1, h2⟩ := num_nn (l := r) fun y hy => h y (by simp [hy])
    have hx := h x (by simp)
    simp only [num, List.length_cons, Int.pow_succ]
    omega
theorem low_num : ∀ {l : List Int}, Byt l → low (num l) l.length = l
  | [], _ => rfl
  | x :: r, h => by
    have ih := low_num (l := r) fun y hy => h y (by simp [hy])
    have hx := h x (by simp)
    simp only [num, List.length_cons, low]
    rw [show (x + 256 * num r) % 256 = x by omega, show (x + 256 * num r) / 256 = num r by omega, ih]
theorem low_num' {l : List Int} {k : Nat} (h : Byt l) (hk : l.length = k) : low (num l) k = l := by subst hk; exact low_num h
theorem num_low : ∀ {k : Nat} {n : Int}, 0 ≤ n → n < 256 ^ k → num (low n k) = n
  | 0, n, h0, h => by simp only [Int.pow_zero] at h; simp only [low, num]; omega
  | k + 1, n, h0, h => by
    rw [Int.pow_succ] at h
    simp only [low, num]
    rw [num_low (k := k) (n := n / 256) (by omega) (by omega)]
    omega
theorem low_len : ∀ (k : Nat) (n : Int), (low n k).length = k
  | 0, _ => rfl
  | k + 1, n => by simp [low, low_len k]
theorem low_byt : ∀ (k : Nat) (n : Int), Byt (low n k)
  | 0, _ => fun x hx => by cases hx
  | k + 1, n => fun x hx => by
    rcases List.mem_cons.1 hx with rfl | hx
    · omega
    · exact low_byt k _ x hx
theorem pow_mul8 (i : Nat) : (2 : Int) ^ (8 * i) = 256 ^ i := by rw [Int.pow_mul]; rfl
theorem pow_le8 {i : Nat} (h : i ≤ 7) : (256 : Int) ^ i ≤ 72057594037927936 := by
  have : i = 0 ∨ i = 1 ∨ i = 2 ∨ i = 3 ∨ i = 4 ∨ i = 5 ∨ i = 6 ∨ i = 7 := by omega
  rcases this with rfl | rfl | rfl | rfl | rfl | rfl | rfl | rfl <;> decide
theorem pow_pos8 (i : Nat) : (0 : Int) < 256 ^ i := Int.pow_pos (by decide)
theorem or_step {v x : Int} {i : Nat} (h0 : 0 ≤ v) (h1 : v < 256 ^ i) (hx : 0 ≤ x ∧ x ≤ 255) (hi : i < 8) :
    IntKind.u64.wrap (BitVec.ofInt IntKind.u64.bits v ||| BitVec.ofInt IntKind.u64.bits (shlK .u64 (wru64 x) (wr64 (8 * (i : Int))))).toNat = v + 256 ^ i * x := by
  have hp := pow_le8 (i := i) (by omega)
  have hpp := pow_pos8 i
  have hw : wr64 (8 * (i : Int)) = 8 * (i : Int) := wr64_of (by omega) (by omega)
  have hxx : wru64 x = x := Go.IntWalk.u64_in x (by omega)
  have hb : IntKind.u64.bits = 64 := rfl
  have hsh : shlK .u64 x (8 * (i : Int)) = x * 256 ^ i := by
    unfold shlK
    rw [hb, show min (Int.toNat (8 * (i : Int))) 64 = 8 * i by omega, pow_mul8]
    have h2 : x * 256 ^ i ≤ 255 * 256 ^ i := Int.mul_le_mul_of_nonneg_right hx.2 (Int.le_of_lt hpp)
    have h3 : 0 ≤ x * 256 ^ i := Int.mul_nonneg hx.1 (Int.le_of_lt hpp)
    exact Go.IntWalk.u64_in _ ⟨h3, by omega⟩
  rw [hw, hxx, hsh, hb]
  obtain ⟨vn, rfl⟩ := Int.eq_ofNat_of_zero_le h0
  obtain ⟨xn, rfl⟩ := Int.eq_ofNat_of_zero_le hx.1
  have hpn : (256 : Int) ^ i = ((256 ^ i : Nat) : Int) := by simp
  rw [hpn] at h1 hp ⊢
  have hv : vn < 256 ^ i := by omega
  have hpl : 256 ^ i ≤ 72057594037927936 := by omega
  have hxl : xn ≤ 255 := by omega
  have hmul : xn * 256 ^ i ≤ 255 * 72057594037927936 := Nat.mul_le_mul hxl hpl
  rw [show ((xn : Int) * ((256 ^ i : Nat) : Int)) = ((xn * 256 ^ i : Nat) : Int) by simp]
  have e : (BitVec.ofInt 64 (vn : Int) ||| BitVec.ofInt 64 ((xn * 256 ^ i : Nat) : Int)).toNat = vn + 256 ^ i * xn := by
    rw [BitVec.toNat_or, BitVec.toNat_ofInt, BitVec.toNat_ofInt]
    have e1 : (((vn : Int)) % ((2 ^ 64 : Nat) : Int)).toNat = vn := by omega
    have e2 : ((((xn * 256 ^ i : Nat) : Int)) % ((2 ^ 64 : Nat) : Int)).toNat = xn * 256 ^ i := by omega
    rw [e1, e2]
    have hp2 : 256 ^ i = 2 ^ (8 * i) := by rw [Nat.pow_mul]
    have h4 := Nat.shiftLeft_add_eq_or_of_lt (b := vn) (i := 8 * i) (by rw [← hp2]; exact hv) xn
    rw [Nat.shiftLeft_eq, ← hp2] at h4
    rw [Nat.or_comm, ← h4, Nat.mul_comm, Nat.add_comm]
  rw [e]
  have : vn + 256 ^ i * xn ≤ 18446744073709551615 := by rw [Nat.mul_comm]; omega
  rw [show ((vn : Int) + ((256 ^ i : Nat) : Int) * (xn : Int)) = ((vn + 256 ^ i * xn : Nat) : Int) by simp]
  exact Go.IntWalk.u64_in _ (by omega)
theorem f58n2L_at (bm : Reader_) (bf : Int) : ∀ (l : List Int) (v : Int) (i : Nat), Byt l → 0 ≤ v → v < 256 ^ i → i + l.length ≤ 8 → f58r1n2L bm bf l v (i : Int) = some (.exit0 (v + 256 ^ i * num l))
  | [], v, i, _, _, _, _ => by simp [f58r1n2L, num]
  | x :: l, v, i, hb, h0, h1, hi => by
    simp only [List.length_cons] at hi
    have hx := hb x (by simp)
    have hw : wr64 (8 * (i : Int)) = 8 * (i : Int) := wr64_of (by omega) (by omega)
    have hpp := pow_pos8 i
    rw [f58r1n2L, or_step h0 h1 hx (by omega), hw, decide_eq_true (by omega)]
    have hm : 0 ≤ 256 ^ i * x := Int.mul_nonneg (Int.le_of_lt hpp) hx.1
    have hm2 : 256 ^ i * x ≤ 256 ^ i * 255 := Int.mul_le_mul_of_nonneg_left hx.2 (Int.le_of_lt hpp)
    have hs : (256 : Int) ^ (i + 1) = 256 ^ i * 256 := Int.pow_succ ..
    have ih := f58n2L_at bm bf l (v + 256 ^ i * x) (i + 1) (fun y hy => hb y (by simp [hy])) (by omega) (by rw [hs]; omega) (by omega)
    simp only [req, cond_true]
    rw [show ((i : Int) + 1) = ((i + 1 : Nat) : Int) by omega, ih, hs, num]
    congr 2
    rw [Int.mul_add, ← Int.mul_assoc]; omega
theorem f59_eq {k : Nat} {b : List Int} : f59r1n0 (k : Int) ⟨b⟩ = if b.length < k then some .pan else some .ret := by
  unfold f59r1n0
  by_cases h : b.length < k
  · rw [if_pos h, decide_eq_true (by show ((b.length : Nat) : Int) < (k : Int); omega)]; rfl
  · rw [if_neg h, decide_eq_false (by show ¬ ((b.length : Nat) : Int) < (k : Int); omega)]
    have h1 : cutB 0 (k : Int) b.length = true := by simp only [cutB, decide_eq_true_eq]; omega
    have h2 : cutB (k : Int) (b.length : Int) b.length = true := by simp only [cutB, decide_eq_true_eq]; omega
    simp only [cond_false, req, h1, h2, cond_true]
theorem f58_eq {k : Nat} (hk : k ≤ 8) {b : List Int} (hb : Byt b) : f58r1n0 (k : Int) ⟨b⟩ = if b.length < k then some .pan else some (.ret (num (b.take k))) := by
  unfold f58r1n0 f58r1n1
  rw [f59_eq]
  by_cases h : b.length < k
  · rw [if_pos h, if_pos h]; rfl
  · rw [if_neg h, if_neg h]
    simp only [Option.bind_some]
    have hl : (b.take k).length = k := by simp; omega
    have hM : 8 ≤ maxLen := by unfold maxLen; decide
    rw [f58r1n2_run _ _ _ (by show ((b.take (Int.toNat (k : Int))).drop 0).length ≤ maxLen; rw [List.drop_zero, Int.toNat_natCast, hl]; omega)]
    show ((f58r1n2L ⟨b⟩ (k : Int) ((b.take (Int.toNat (k : Int))).drop 0) 0 ((0 : Nat) : Int)).bind _).bind _ = _
    rw [List.drop_zero, Int.toNat_natCast, f58n2L_at _ _ _ _ _ (hb.take k) (Int.le_refl _) (by decide) (by omega)]
    simp

theorem put_byte {x : Int} {i : Nat} (hi : i < 8) (h0 : 0 ≤ x) : wru8 (shrK .u64 x (wr64 (8 * (i : Int)))) = x / 256 ^ i % 256 := by
  have hw : wr64 (8 * (i : Int)) = 8 * (i : Int) := wr64_of (by omega) (by omega)
  have hb : IntKind.u64.bits = 64 := rfl
  rw [hw]
  unfold shrK
  rw [hb, show min (Int.toNat (8 * (i : Int))) 64 = 8 * i by omega, pow_mul8, Int.fdiv_eq_ediv_of_nonneg _ (Int.le_of_lt (pow_pos8 i))]
  show IntKind.u8.wrap _ = _
  rw [IntKind.wrap_u8]
theorem f40r2n3_at {k : Nat} (hk : k ≤ 8) {x : Int} (h0 : 0 ≤ x) (bj : List Int) (bf : Int) : ∀ (n f i : Nat) (pre : List Int), i + n = k → n < f → pre.length + n ≤ 1000000 → f40r2n3 f (k : Int) x bj bf (i : Int) pre = some (.exit2 (pre ++ low (x / 256 ^ i) n))
  | n, 0, _, _, _, hf, _ => absurd hf (Nat.not_lt_zero _)
  | 0, f + 1, i, pre, hi, _, _ => by rw [f40r2n3, decide_eq_false (by omega)]; simp [low]
  | n + 1, f + 1, i, pre, hi, hf, hp => by
    have hw : wr64 (8 * (i : Int)) = 8 * (i : Int) := wr64_of (by omega) (by omega)
    have hw2 : wr64 ((i : Int) + 1) = ((i + 1 : Nat) : Int) := wr64_of (by omega) (by omega)
    have e : x / 256 ^ (i + 1) = x / 256 ^ i / 256 := by rw [Int.pow_succ, Int.ediv_ediv_of_nonneg (Int.le_of_lt (pow_pos8 i))]
    have ih := f40r2n3_at hk h0 bj bf n f (i + 1) (pre ++ [x / 256 ^ i % 256]) (by omega) (by omega) (by simp; omega)
    rw [f40r2n3, decide_eq_true (by omega), put_byte (by omega) h0, hw, decide_eq_true (show (0 : Int) ≤ 8 * (i : Int) by omega), hw2]
    simp only [cond_true, req, fit_small (show pre.length + 1 ≤ 1000000 by omega) (show 1 ≤ 1000000 by omega)]
    rw [ih, e, List.append_assoc]; rfl
theorem f40r2_eq {k : Nat} (hk : k ≤ 8) {x : Int} (h0 : 0 ≤ x) {pre : List Int} (hp : pre.length ≤ 900000) : f40r2 (k : Int) pre [x] = some (pre ++ low x k) := by
  have hF : 100 < FUEL := by unfold FUEL; decide
  have hF2 : FUEL = 18446744073709551615 + 1 := rfl
  have e := f40r2n3_at hk h0 [x] 0 k FUEL 0 pre (by omega) (by omega) (by omega)
  simp only [Int.natCast_zero, Int.pow_zero, Int.ediv_one] at e
  have e2 : f40r2n2 (k : Int) [x] 0 pre = some (.norm (pre ++ low x k)) := by
    unfold f40r2n2
    show ((some x).bind _) = _
    simp only [Option.bind_some, e]
  have e3 : ∀ f : Nat, f40r2n4 (f + 1) (k : Int) [x] 1 (pre ++ low x k) = some (.exit0 (pre ++ low x k)) := fun f => by
    rw [f40r2n4]; rfl
  unfold f40r2 f40r2n0 f40r2n1
  rw [hF2, f40r2n4, decide_eq_true (by simp), e2]
  have hw : wr64 (0 + 1) = 1 := by decide
  simp only [cond_true, Option.bind_some, hw]
  rw [show (18446744073709551615 : Nat) = 18446744073709551614 + 1 from rfl, e3]; rfl
theorem f40r1n3_at {k : Nat} (hk : k ≤ 8) {x : Int} (h0 : 0 ≤ x) (bj : List Int) (bf : Int) : ∀ (n f i : Nat) (pre : List Int), i + n = k → n < f → pre.length + n ≤ 1000000 → f40r1n3 f (k : Int) x bj bf (i : Int) pre = some (.exit2 (pre ++ low (x / 256 ^ i) n))
  | n, 0, _, _, _, hf, _ => absurd hf (Nat.not_lt_zero _)
  | 0, f + 1, i, pre, hi, _, _ => by rw [f40r1n3, decide_eq_false (by omega)]; simp [low]
  | n + 1, f + 1, i, pre, hi, hf, hp => by
    have hw : wr64 (8 * (i : Int)) = 8 * (i : Int) := wr64_of (by omega) (by omega)
    have hw2 : wr64 ((i : Int) + 1) = ((i + 1 : Nat) : Int) := wr64_of (by omega) (by omega)
    have e : x / 256 ^ (i + 1) = x / 256 ^ i / 256 := by rw [Int.pow_succ, Int.ediv_ediv_of_nonneg (Int.le_of_lt (pow_pos8 i))]
    have ih := f40r1n3_at hk h0 bj bf n f (i + 1) (pre ++ [x / 256 ^ i % 256]) (by omega) (by omega) (by simp; omega)
    rw [f40r1n3, decide_eq_true (by omega), put_byte (by omega) h0, hw, decide_eq_true (show (0 : Int) ≤ 8 * (i : Int) by omega), hw2]
    simp only [cond_true, req, fit_small (show pre.length + 1 ≤ 1000000 by omega) (show 1 ≤ 1000000 by omega)]
    rw [ih, e, List.append_assoc]; rfl
theorem f40r1_eq {x y : Int} (h0 : 0 ≤ x) (h1 : 0 ≤ y) : f40r1 4 [x, y] = some (low x 4 ++ low y 4) := by
  have hF : 100 < FUEL := by unfold FUEL; decide
  have hF2 : FUEL = 18446744073709551615 + 1 := rfl
  have e := f40r1n3_at (k := 4) (by decide) h0 [x, y] 0 4 FUEL 0 [] (by omega) (by omega) (by simp)
  have e' := f40r1n3_at (k := 4) (by decide) h1 [x, y] 1 4 FUEL 0 (low x 4) (by omega) (by omega) (by simp [low_len])
  simp only [Int.natCast_zero, Int.pow_zero, Int.ediv_one, List.nil_append] at e e'
  have e2 : f40r1n2 4 [x, y] 0 [] = some (.norm (low x 4)) := by
    unfold f40r1n2
    show ((some x).bind _) = _
    simp only [Option.bind_some]
    rw [show f40r1n3 FUEL 4 x [x, y] 0 0 [] = _ from e]; rfl
  have e2' : f40r1n2 4 [x, y] 1 (low x 4) = some (.norm (low x 4 ++ low y 4)) := by
    unfold f40r1n2
    show ((some y).bind _) = _
    simp only [Option.bind_some]
    rw [show f40r1n3 FUEL 4 y [x, y] 1 0 (low x 4) = _ from e']; rfl
  have e3 : ∀ f : Nat, f40r1n4 (f + 1) 4 [x, y] 2 (low x 4 ++ low y 4) = some (.exit0 (low x 4 ++ low y 4)) := fun f => by
    rw [f40r1n4]; rfl
  unfold f40r1 f40r1n0 f40r1n1
  have hw : wr64 (0 + 1) = 1 := by decide
  have hw2 : wr64 (1 + 1) = 2 := by decide
  rw [hF2, f40r1n4, decide_eq_true (by simp), e2]
  simp only [cond_true, Option.bind_some, hw]
  rw [show (18446744073709551615 : Nat) = 18446744073709551613 + 1 + 1 from rfl, f40r1n4, decide_eq_true (by simp), e2']
  simp only [cond_true, Option.bind_some, hw2]
  rw [e3]; rfl

def strB (s : ByteArray) : List Int := (s.size : Int) :: ofB s
theorem ofB_byt (s : ByteArray) : Byt (ofB s) := fun x hx => by
  unfold ofB at hx
  obtain ⟨c, _, rfl⟩ := List.mem_map.1 hx
  have := c.toNat_lt
  omega
theorem sOf_ofB (s : ByteArray) : sOf (ofB s) = s := by
  have : toB (ofB s) = s.data.toList := by
    unfold toB ofB
    rw [List.map_map]
    conv => rhs; rw [← List.map_id s.data.toList]
    apply List.map_congr_left
    intro c _
    simp
  unfold sOf
  rw [this]
theorem ofB_sOf : ∀ {l : List Int}, Byt l → ofB (sOf l) = l := fun {l} h => by
  unfold ofB sOf toB
  simp only [List.map_map]
  conv => rhs; rw [← List.map_id l]
  apply List.map_congr_left
  intro x hx
  have := h x hx
  simp only [Function.comp, id_eq, UInt8.toNat_ofNat']
  omega
theorem size_sOf (l : List Int) : (sOf l).size = l.length := by
  show (sOf l).data.size = _
  simp [sOf, toB]
theorem strB_len (s : ByteArray) : (strB s).length = s.size + 1 := by simp [strB, len_ofB]
theorem strB_byt {s : ByteArray} (h : s.size ≤ 255) : Byt (strB s) := fun x hx => by
  rcases List.mem_cons.1 hx with rfl | hx
  · omega
  · exact ofB_byt s x hx
theorem f56_eq {s : ByteArray} (h : s.size ≤ 255) {pre : List Int} (hp : pre.length ≤ 900000) : f56r1 s pre = some (pre ++ strB s) := by
  unfold f56r1 f56r1n0
  have hw : wru8 (s.size : Int) = (s.size : Int) := Go.IntWalk.u8_in _ (by omega)
  rw [hw]
  simp only [req, fit_small (show pre.length + 1 ≤ 1000000 by omega) (show 1 ≤ 1000000 by omega), cond_true]
  have hf : fit ((pre ++ [(s.size : Int)]).length + (ofB s).length) 1 = true := fit_small (by simp [len_ofB]; omega) (by omega)
  cases he : (ofB s).isEmpty with
  | true =>
    have : ofB s = [] := by simpa using he
    simp [strB, this]
  | false => simp only [cond_false, hf, cond_true, Option.bind_some, strB, List.append_assoc]; rfl
theorem f68_eq {b : List Int} (hb : Byt b) : f68r1n0 ⟨b⟩ = match b with
    | [] => some (.pan ⟨[]⟩)
    | n :: r => if r.length < n.toNat then some (.pan ⟨r⟩) else some (.ret (sOf (r.take n.toNat)) ⟨r.drop n.toNat⟩) := by
  unfold f68r1n0
  have e := f58_eq (k := 1) (by decide) hb
  rw [show f58r1n0 1 ⟨b⟩ = _ from e]
  cases b with
  | nil => rfl
  | cons n r =>
    have hn := hb n (by simp)
    have hw : wr64 (n + 256 * 0) = ((n.toNat : Nat) : Int) := by rw [wr64_of (by omega) (by omega)]; omega
    simp only [List.length_cons]
    rw [if_neg (by omega)]
    simp only [Option.bind_some, List.take_succ_cons, List.take_zero, num, hw, Int.toNat_natCast]
    show (match (f59r1n0 ((n.toNat : Nat) : Int) ⟨r⟩).bind _ with | x => x) = _
    rw [f59_eq]
    by_cases h : r.length < n.toNat
    · rw [if_pos h, if_pos h]; rfl
    · rw [if_neg h, if_neg h]
      simp only [Option.bind_some, List.drop_zero]; rfl
theorem read_str {b : List Int} (hb : Byt b) : (∃ r, f68r1n0 ⟨b⟩ = some (.pan r)) ∨ ∃ s r, f68r1n0 ⟨b⟩ = some (.ret s ⟨r⟩) ∧ b = strB s ++ r ∧ s.size ≤ 255 := by
  rw [f68_eq hb]
  cases b with
  | nil => exact .inl ⟨_, rfl⟩
  | cons n r =>
    have hn := hb n (by simp)
    by_cases h : r.length < n.toNat
    · simp only [if_pos h]; exact .inl ⟨_, rfl⟩
    · simp only [if_neg h]
      refine .inr ⟨_, _, rfl, ?_, ?_⟩
      · have hl : (r.take n.toNat).length = n.toNat := by simp; omega
        unfold strB
        rw [size_sOf, hl, ofB_sOf (fun x hx => hb x (List.mem_cons_of_mem _ (List.mem_of_mem_take hx))), List.cons_append, List.take_append_drop]
        congr 1; omega
      · rw [size_sOf]; simp; omega
theorem write_str {s : ByteArray} (h : s.size ≤ 255) {r : List Int} (hr : Byt r) : f68r1n0 ⟨strB s ++ r⟩ = some (.ret s ⟨r⟩) := by
  rw [f68_eq ((strB_byt h).app hr)]
  simp only [strB, List.cons_append]
  have hl : (ofB s).length = s.size := len_ofB s
  rw [if_neg (by simp [hl])]
  rw [Int.toNat_natCast, ← hl, List.take_left', List.drop_left', sOf_ofB] <;> rfl
end Go.Proofs.Ytbgjlpdeoljmiaa
