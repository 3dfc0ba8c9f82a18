/- The order of strings; comparisons for sorts. No condition. -/
import Derived.Test.YtelblamgfbkhbaaTP
import Derived.Test.YtelblamgfbkhbaaTM
namespace Go.Proofs.Ytelblamgfbkhbaa
set_option linter.unusedVariables false
open Go.Sort
theorem nblt {a b : Nat} : Nat.blt a b = true ↔ a < b := by rw [Nat.blt_eq]
theorem nblt_f {a b : Nat} : Nat.blt a b = false ↔ b ≤ a := by
  cases h : Nat.blt a b with
  | true => simp only [reduceCtorEq, false_iff]; have := nblt.1 h; omega
  | false =>
    simp only [true_iff]
    rcases Nat.lt_or_ge a b with k | k
    · rw [nblt.2 k] at h; cases h
    · exact k
theorem blt_irrefl : ∀ a : List UInt8, bytesLt a a = false
  | [] => rfl
  | x :: a => by simp [bytesLt, blt_irrefl a, nblt_f]
theorem blt_trans : ∀ {a b c : List UInt8}, bytesLt a b = true → bytesLt b c = true → bytesLt a c = true
  | a, [], c, h, _ => by cases a <;> simp [bytesLt] at h
  | a, _ :: _, [], _, k => by simp [bytesLt] at k
  | [], _ :: _, _ :: _, _, _ => by simp [bytesLt]
  | x :: a, y :: b, z :: c, h, k => by
    simp only [bytesLt, Bool.or_eq_true, Bool.and_eq_true, nblt, Nat.beq_eq] at h k ⊢
    rcases h with h | ⟨h1, h2⟩ <;> rcases k with k | ⟨k1, k2⟩
    · exact .inl (by omega)
    · exact .inl (by omega)
    · exact .inl (by omega)
    · exact .inr ⟨by omega, blt_trans h2 k2⟩
theorem blt_total : ∀ {a b : List UInt8}, bytesLt a b = false → bytesLt b a = false → a = b
  | [], [], _, _ => rfl
  | [], _ :: _, h, _ => by simp [bytesLt] at h
  | _ :: _, [], _, k => by simp [bytesLt] at k
  | x :: a, y :: b, h, k => by
    simp only [bytesLt, Bool.or_eq_false_iff, nblt_f] at h k
    have e : x = y := UInt8.toNat_inj.1 (by omega)
    subst e
    have hb : Nat.beq x.toNat x.toNat = true := Nat.beq_refl _
    rw [hb, Bool.true_and] at h k
    rw [blt_total h.2 k.2]
theorem slt_irrefl (a : ByteArray) : slt a a = false := blt_irrefl _
theorem slt_trans {a b c : ByteArray} (h : slt a b = true) (k : slt b c = true) : slt a c = true := blt_trans h k
theorem slt_total {a b : ByteArray} (h : slt a b = false) (k : slt b a = false) : a = b := by
  have := blt_total h k
  cases a; cases b
  congr 1
  exact Array.ext' this
theorem slt_asymm {a b : ByteArray} (h : slt a b = true) : slt b a = false := by
  cases k : slt b a with
  | false => rfl
  | true => have := slt_trans h k; rw [slt_irrefl] at this; cases this
theorem seq_refl (a : ByteArray) : seq a a = true := by simp [seq]
theorem seq_iff {a b : ByteArray} : seq a b = true ↔ a = b := ⟨fun h => bytes_eq (by simpa [seq] using h), fun h => by subst h; exact seq_refl a⟩
/-- cmp.Compare of strings. -/
def cmpB (a b : ByteArray) : Int := bif slt a b then -1 else bif slt a b || seq a b then 0 else 1
theorem cmpB_neg {a b : ByteArray} : cmpB a b < 0 ↔ slt a b = true := by
  unfold cmpB
  cases slt a b <;> cases seq a b <;> simp
theorem cmpB_zero {a b : ByteArray} : cmpB a b = 0 ↔ a = b := by
  unfold cmpB
  cases h : slt a b with
  | true => simp; intro e; subst e; rw [slt_irrefl] at h; cases h
  | false => cases k : seq a b with
    | true => simp; exact seq_iff.1 k
    | false => simp; intro e; subst e; rw [seq_refl] at k; cases k
theorem cmpB_pos {a b : ByteArray} : 0 < cmpB a b ↔ slt b a = true := by
  constructor
  · intro h
    cases k : slt b a with
    | true => rfl
    | false =>
      cases k2 : slt a b with
      | true => have := cmpB_neg.2 k2; omega
      | false => have := cmpB_zero.2 (slt_total k2 k); omega
  · intro h
    rcases Int.lt_trichotomy (cmpB a b) 0 with k | k | k
    · rw [slt_asymm (cmpB_neg.1 k)] at h; cases h
    · rw [cmpB_zero.1 k, slt_irrefl] at h; cases h
    · exact k
theorem swo_key {S : Type} (f : S → ByteArray) : SWO (ltOf fun x y => cmpB (f x) (f y)) where
  irrefl x := by simp only [ltOf, decide_eq_false_iff_not, cmpB_neg, slt_irrefl]; decide
  trans x y z h k := by
    simp only [ltOf, decide_eq_true_eq, cmpB_neg] at h k ⊢
    exact slt_trans h k
  ntrans x y z h k := by
    simp only [ltOf, decide_eq_false_iff_not, cmpB_neg, Bool.not_eq_true] at h k ⊢
    cases h2 : slt (f x) (f z) with
    | false => rfl
    | true =>
      cases h3 : slt (f y) (f x) with
      | true => rw [slt_trans h3 h2] at k; cases k
      | false => rw [slt_total h h3] at h2; rw [h2] at k; cases k
/-! ### sorting by a key -/
section
variable {S : Type} (f : S → ByteArray)
def insB (x : S) : List S → List S
  | [] => [x]
  | y :: ys => bif slt (f y) (f x) then y :: insB x ys else x :: y :: ys
def isort : List S → List S
  | [] => []
  | x :: xs => insB f x (isort xs)
def nodupK : List S → Bool
  | [] => true
  | x :: xs => xs.all (fun y => !(seq (f x) (f y))) && nodupK xs
theorem insB_perm (x : S) : ∀ l : List S, (insB f x l).Perm (x :: l)
  | [] => List.Perm.refl _
  | y :: ys => by
    unfold insB
    cases slt (f y) (f x) with
    | true => exact ((insB_perm x ys).cons y).trans (List.Perm.swap x y ys)
    | false => exact List.Perm.refl _
theorem isort_perm : ∀ l : List S, (isort f l).Perm l
  | [] => List.Perm.refl _
  | x :: xs => (insB_perm f x _).trans ((isort_perm xs).cons x)
theorem insB_sorted (x : S) : ∀ {l : List S}, l.Pairwise (fun a b => slt (f b) (f a) = false) → (insB f x l).Pairwise fun a b => slt (f b) (f a) = false
  | [], _ => by simp [insB]
  | y :: ys, h => by
    have h' := List.pairwise_cons.1 h
    unfold insB
    cases k : slt (f y) (f x) with
    | true =>
      refine List.pairwise_cons.2 ⟨fun z hz => ?_, insB_sorted x h'.2⟩
      rcases List.mem_cons.1 ((insB_perm f x ys).mem_iff.1 hz) with rfl | hz
      · exact slt_asymm k
      · exact h'.1 z hz
    | false =>
      refine List.pairwise_cons.2 ⟨fun z hz => ?_, h⟩
      rcases List.mem_cons.1 hz with rfl | hz
      · exact k
      · cases k2 : slt (f z) (f x) with
        | false => rfl
        | true =>
          have h3 := h'.1 z hz
          cases k4 : slt (f x) (f y) with
          | true => rw [slt_trans k2 k4] at h3; cases h3
          | false => rw [slt_total k4 k, h3] at k2; cases k2
theorem isort_sorted : ∀ l : List S, (isort f l).Pairwise fun a b => slt (f b) (f a) = false
  | [] => List.Pairwise.nil
  | x :: xs => insB_sorted f x (isort_sorted xs)
theorem nodupK_ne {x y : S} {xs : List S} (h : nodupK f (x :: xs) = true) (hy : y ∈ xs) : f x ≠ f y := by
  unfold nodupK at h
  rw [Bool.and_eq_true, List.all_eq_true] at h
  have := h.1 y hy
  intro e
  rw [e, seq_refl] at this
  cases this
theorem sorted_uniq : ∀ {xs ys : List S}, xs.Perm ys → xs.Pairwise (fun a b => slt (f b) (f a) = false) → ys.Pairwise (fun a b => slt (f b) (f a) = false) → xs.Pairwise (fun a b => f a ≠ f b) → xs = ys
  | [], ys, h, _, _, _ => (List.nil_perm.1 h).symm
  | x :: xs, [], h, _, _, _ => absurd h.length_eq (by simp)
  | x :: xs, y :: ys, h, sx, sy, nd => by
    have sx' := List.pairwise_cons.1 sx
    have sy' := List.pairwise_cons.1 sy
    have nd' := List.pairwise_cons.1 nd
    have e : x = y := by
      rcases List.mem_cons.1 (h.mem_iff.1 List.mem_cons_self) with e | hx
      · exact e
      · rcases List.mem_cons.1 (h.mem_iff.2 List.mem_cons_self) with e | hy
        · exact e.symm
        · exact absurd (slt_total (sy'.1 x hx) (sx'.1 y hy)) (nd'.1 y hy)
    subst e
    rw [sorted_uniq (List.Perm.cons_inv h) sx'.2 sy'.2 nd'.2]
theorem nodupK_pw : ∀ {xs : List S}, nodupK f xs = true → xs.Pairwise (fun a b => f a ≠ f b)
  | [], _ => List.Pairwise.nil
  | x :: xs, h => List.pairwise_cons.2 ⟨fun y hy => nodupK_ne f h hy, nodupK_pw (by unfold nodupK at h; rw [Bool.and_eq_true] at h; exact h.2)⟩
theorem nodupK_of : ∀ {xs : List S}, xs.Pairwise (fun a b => f a ≠ f b) → nodupK f xs = true
  | [], _ => rfl
  | x :: xs, h => by
    have h' := List.pairwise_cons.1 h
    unfold nodupK
    rw [Bool.and_eq_true, List.all_eq_true]
    refine ⟨fun y hy => ?_, nodupK_of h'.2⟩
    cases k : seq (f x) (f y) with
    | false => rfl
    | true => exact absurd (seq_iff.1 k) (h'.1 y hy)
theorem sortL_isort [Inhabited S] {xs : List S} (h : nodupK f xs = true) : sortL (fun x y => cmpB (f x) (f y)) xs = isort f xs := by
  have hp := sortL_perm (swo_key f) xs
  refine (sorted_uniq f ((isort_perm f xs).trans hp.symm) (isort_sorted f xs) ?_ ?_).symm
  · refine (sortL_sorted (swo_key f) xs).imp fun {a b} hab => ?_
    simp only [ltOf, decide_eq_false_iff_not, cmpB_neg, Bool.not_eq_true] at hab
    exact hab
  · exact ((isort_perm f xs).pairwise_iff (fun {a b} hab => Ne.symm hab)).2 (nodupK_pw f h)
end
end Go.Proofs.Ytelblamgfbkhbaa
