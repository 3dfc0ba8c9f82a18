/- Maps, plainly: lists of keys and values. No condition. -/
import Derived.Test.YtelblamgfbkhbaaTH
namespace Go.Proofs.Ytelblamgfbkhbaa
set_option linter.unusedSimpArgs false
set_option linter.unusedVariables false
open Go.RowKit
def pInt (k : IntKind) (n : Int) : PV := .int k n
def pBool (b : Bool) : PV := .bool b
def pStr (s : ByteArray) : PV := .str s
def pLst {α : Type} (sz : Nat) (c : α → List PV) (l : List α) : PV := .sl .any sz (l.map c)
def pAgg {α : Type} (c : α → List PV) (x : α) : PV := .agg (c x)
def mkv {K V : Type} (kp : K → PV) (vp : V → PV) (p : K × V) : PV × PV := (kp p.1, vp p.2)
section
variable {K V : Type}
/-- The place of a key, from a number on; behind the end if it is not there. -/
def mIdx (keq : K → K → Bool) (k : K) : List (K × V) → Nat
  | [] => 0
  | (q, _) :: r => bif keq k q then 0 else mIdx keq k r + 1
def mHas (keq : K → K → Bool) (k : K) : List (K × V) → Bool
  | [] => false
  | (q, _) :: r => keq k q || mHas keq k r
def mGet (keq : K → K → Bool) (z : V) (k : K) : List (K × V) → V
  | [] => z
  | (q, v) :: r => bif keq k q then v else mGet keq z k r
def mPut (keq : K → K → Bool) (k : K) (v : V) : List (K × V) → List (K × V)
  | [] => [(k, v)]
  | (q, w) :: r => bif keq k q then (q, v) :: r else (q, w) :: mPut keq k v r
/-- The entries, with one for the key. -/
def mEns (keq : K → K → Bool) (z : V) (k : K) : List (K × V) → List (K × V)
  | [] => [(k, z)]
  | (q, w) :: r => bif keq k q then (q, w) :: r else (q, w) :: mEns keq z k r
/-- The machine's test of two keys is this one. -/
structure KeyOK (C : Cfg) (kt : Nat) (kp : K → PV) (keq : K → K → Bool) : Prop where
  eq : ∀ a b, eqV C.ty kt (kp a) (kp b) = some (keq a b)
  key : ∀ a, keyV C.ty kt (kp a) = true
  same : ∀ a b, keq a b = true → a = b
  eqc : ∀ a, eqC (kp a) (kp a) = true
variable {C : Cfg} {kt e : Nat} {kp : K → PV} {keq : K → K → Bool} {vp : V → PV}
theorem mfind_map (h : KeyOK C kt kp keq) (k : K) : ∀ (E : List (K × V)) (i : Nat), mfind C.ty kt (kp k) (E.map (mkv kp vp)) i = some (bif mHas keq k E then (E[mIdx keq k E]?).map fun p => (i + mIdx keq k E, vp p.2) else none)
  | [], i => rfl
  | (q, v) :: r, i => by
    simp only [List.map_cons, mkv, mfind, h.eq, mHas, mIdx]
    cases hk : keq k q with
    | true => simp [hk]
    | false =>
      have := mfind_map h k r (i + 1)
      simp only [this, Bool.false_or, cond_false, List.getElem?_cons_succ]
      cases mHas keq k r with
      | false => rfl
      | true => simp only [cond_true]; congr 2; funext p; congr 1; omega
theorem mIdx_lt (keq : K → K → Bool) (k : K) : ∀ (E : List (K × V)), mHas keq k E = true → mIdx keq k E < E.length
  | [], h => by cases h
  | (q, v) :: r, h => by
    simp only [mHas, Bool.or_eq_true] at h
    simp only [mIdx]
    cases hk : keq k q with
    | true => simp
    | false =>
      rw [hk] at h
      have := mIdx_lt keq k r (h.resolve_left (by simp))
      simp only [cond_false, List.length_cons]; omega
theorem mGet_at (keq : K → K → Bool) (z : V) (k : K) (hs : ∀ a b, keq a b = true → a = b) : ∀ (E : List (K × V)), mHas keq k E = true → E[mIdx keq k E]? = some (k, mGet keq z k E)
  | [], h => by cases h
  | (q, v) :: r, h => by
    simp only [mHas, Bool.or_eq_true] at h
    simp only [mIdx, mGet]
    cases hk : keq k q with
    | true => simp [hs k q hk]
    | false =>
      rw [hk] at h
      simpa using mGet_at keq z k hs r (h.resolve_left (by simp))
theorem mGet_none (keq : K → K → Bool) (z : V) (k : K) : ∀ (E : List (K × V)), mHas keq k E = false → mGet keq z k E = z ∧ mIdx keq k E = E.length ∧ mEns keq z k E = E ++ [(k, z)] ∧ ∀ v, mPut keq k v E = E ++ [(k, v)]
  | [], h => ⟨rfl, rfl, rfl, fun _ => rfl⟩
  | (q, v) :: r, h => by
    simp only [mHas, Bool.or_eq_false_iff] at h
    obtain ⟨h1, h2, h3, h4⟩ := mGet_none keq z k r h.2
    simp [mGet, mIdx, mEns, mPut, h.1, h1, h2, h3, h4]
theorem mEns_some (keq : K → K → Bool) (z : V) (k : K) : ∀ (E : List (K × V)), mHas keq k E = true → mEns keq z k E = E
  | [], h => by cases h
  | (q, v) :: r, h => by
    simp only [mHas, Bool.or_eq_true] at h
    simp only [mEns]
    cases hk : keq k q with
    | true => rfl
    | false =>
      rw [hk] at h
      simp [mEns_some keq z k r (h.resolve_left (by simp))]
theorem mPut_some (keq : K → K → Bool) (k : K) (v : V) (hs : ∀ a b, keq a b = true → a = b) : ∀ (E : List (K × V)), mHas keq k E = true → mPut keq k v E = E.set (mIdx keq k E) (k, v)
  | [], h => by cases h
  | (q, w) :: r, h => by
    simp only [mHas, Bool.or_eq_true] at h
    simp only [mPut, mIdx]
    cases hk : keq k q with
    | true => simp [hs k q hk]
    | false =>
      rw [hk] at h
      simp [mPut_some keq k v hs r (h.resolve_left (by simp))]
theorem look_map (h : KeyOK C kt kp keq) (z : V) (hz : zeroOf C e = some (vp z)) (k : K) (E : List (K × V)) : look C kt e (kp k) (E.map (mkv kp vp)) = some (vp (mGet keq z k E), mHas keq k E) := by
  unfold look
  rw [mfind_map h, h.key]
  simp only [cond_true]
  cases hh : mHas keq k E with
  | true => simp [mGet_at keq z k h.same E hh]
  | false => simp [hz, (mGet_none keq z k E hh).1]
theorem mset_map (h : KeyOK C kt kp keq) (k : K) (v : V) (E : List (K × V)) : mset C.ty kt (kp k) (vp v) (E.map (mkv kp vp)) = some ((mPut keq k v E).map (mkv kp vp)) := by
  unfold mset
  rw [mfind_map h, h.key]
  simp only [cond_true]
  cases hh : mHas keq k E with
  | true =>
    have hx := mGet_at keq v k h.same E hh
    simp only [cond_true, hx, Option.map_some, Nat.zero_add, List.getElem?_map, mkv, h.eqc]
    rw [mPut_some keq k v h.same E hh, List.map_set]; rfl
  | false => simp [(mGet_none keq v k E hh).2.2.2, mkv]
theorem ment_map (h : KeyOK C kt kp keq) (z : V) (hz : zeroOf C e = some (vp z)) (k : K) (E : List (K × V)) : ment C kt e (kp k) (E.map (mkv kp vp)) = some (vp (mGet keq z k E), mIdx keq k E, (mEns keq z k E).map (mkv kp vp)) := by
  unfold ment
  rw [mfind_map h, h.key]
  simp only [cond_true]
  cases hh : mHas keq k E with
  | true =>
    have hx := mGet_at keq z k h.same E hh
    simp only [cond_true, hx, Option.map_some, Nat.zero_add, List.getElem?_map, mkv, h.eqc]
    rw [mEns_some keq z k E hh]
  | false =>
    obtain ⟨h1, h2, h3, _⟩ := mGet_none keq z k E hh
    simp [hz, h1, h2, h3, mkv]
/-- What is put into the entry of a key. -/
theorem mst_at (h : KeyOK C kt kp keq) (z : V) (k : K) (E : List (K × V)) : ((mEns keq z k E).map (mkv kp vp))[mIdx keq k E]? = some (kp k, vp (mGet keq z k E)) := by
  rw [List.getElem?_map]
  cases hh : mHas keq k E with
  | true => rw [mEns_some keq z k E hh, mGet_at keq z k h.same E hh]; rfl
  | false =>
    obtain ⟨h1, h2, h3, _⟩ := mGet_none keq z k E hh
    simp [h1, h2, h3, mkv]
theorem mst_put (h : KeyOK C kt kp keq) (z v : V) (k : K) (E : List (K × V)) : ((mEns keq z k E).map (mkv kp vp)).set (mIdx keq k E) (kp k, vp v) = (mPut keq k v E).map (mkv kp vp) := by
  cases hh : mHas keq k E with
  | true => rw [mEns_some keq z k E hh, mPut_some keq k v h.same E hh, List.map_set]; rfl
  | false =>
    obtain ⟨h1, h2, h3, h4⟩ := mGet_none keq z k E hh
    simp [h2, h3, h4, mkv]
theorem len_cvm {α β : Type} {c : α → β} {xs : List α} : AV.pl (.int .i64 (((xs.map c).length : Nat) : Int)) = AV.pl (.int .i64 ((xs.length : Nat) : Int)) := by rw [List.length_map]
theorem seq_eq' {a b : ByteArray} (h : seq a b = true) : a = b := bytes_eq (by simpa [seq] using h)
theorem key_str {C : Cfg} {kt : Nat} (h1 : ∀ a b, eqV C.ty kt (pStr a) (pStr b) = some (seq a b)) (h2 : ∀ a, keyV C.ty kt (pStr a) = true) : KeyOK C kt pStr seq := ⟨h1, h2, fun a b h => seq_eq' h, fun a => by simp [pStr, eqC, eqC1]⟩
theorem key_int {C : Cfg} {kt : Nat} {k : IntKind} (h1 : ∀ a b, eqV C.ty kt (pInt k a) (pInt k b) = some (decide (a = b))) (h2 : ∀ a, keyV C.ty kt (pInt k a) = true) : KeyOK C kt (pInt k) (fun a b => decide (a = b)) := ⟨h1, h2, fun a b h => of_decide_eq_true h, fun a => by simp [pInt, eqC, eqC1, kindEq_refl]⟩
end
/-! ### shifts, the smaller and the greater -/
abbrev shlK (k : IntKind) (a b : Int) : Int := k.wrap (a * 2 ^ (min b.toNat k.bits))
abbrev shrK (k : IntKind) (a b : Int) : Int := a.fdiv (2 ^ (min b.toNat k.bits))
abbrev mnI (a b : Int) : Int := bif decide (b < a) then b else a
abbrev mxI (a b : Int) : Int := bif decide (a < b) then b else a
theorem le_of {n : Int} (h : decide ((0 : Int) ≤ n) = true) : (0 : Int) ≤ n := of_decide_eq_true h
end Go.Proofs.Ytelblamgfbkhbaa
