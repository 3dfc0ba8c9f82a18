/- Several texts in one. No condition. -/
import Derived.Test.YtkcafackfihmiaaSyM
import Derived.Test.YtkcafackfihmiaaTU
namespace Go.Proofs.Ytkcafackfihmiaa
set_option linter.unusedVariables false
set_option linter.unusedSimpArgs false
open Go.RowKit
section
variable {c : NettingFlow → NettingFlow → Int} (hc : ∀ x y, f55 x y = some (c x y)) (o : SWo (st_lt c))
theorem st_sdg {l : List NettingFlow} (h : Sd (st_lt c) l) {i j : Nat} {x y : NettingFlow} (hij : i ≤ j) (hx : l[i]? = some x) (hy : l[j]? = some y) (o : SWo (st_lt c)) : decide (c y x < 0) = false := by
  rcases Nat.lt_or_ge i j with hlt | hge
  · obtain ⟨h1, rfl⟩ := List.getElem?_eq_some_iff.1 hx
    obtain ⟨h2, rfl⟩ := List.getElem?_eq_some_iff.1 hy
    exact List.pairwise_iff_getElem.1 h i j h1 h2 hlt
  · have : i = j := by omega
    subst this
    rw [hx] at hy; obtain rfl := Option.some.inj hy
    exact o.irr x
include hc o in
theorem st_round (self : st_self) (K : Nat) (hs : ∀ (P A B S : List NettingFlow), 0 < A.length → 0 < B.length → A.length + B.length ≤ K → Sd (st_lt c) A → Sd (st_lt c) B → P.length + A.length + B.length + S.length ≤ 500000 →
      self (P.length : Int) ((P.length + A.length : Nat) : Int) ((P.length + A.length + B.length : Nat) : Int) (P ++ (A ++ (B ++ S))) = some (P ++ (sortS (st_lt c) (A ++ B) ++ S)))
    (P A B S : List NettingFlow) (ha0 : 1 < A.length) (hb0 : 1 < B.length) (hK : A.length + B.length ≤ 2 * K) (ha : Sd (st_lt c) A) (hb : Sd (st_lt c) B) (hl : P.length + A.length + B.length + S.length ≤ 500000) :
    f82r1n0 self (P.length : Int) ((P.length + A.length : Nat) : Int) ((P.length + A.length + B.length : Nat) : Int) (P ++ (A ++ (B ++ S))) = some (.norm (P ++ (sortS (st_lt c) (A ++ B) ++ S))) := by
  have hlen : (P ++ (A ++ (B ++ S))).length = P.length + A.length + B.length + S.length := by simp <;> omega
  -- the numbers
  obtain ⟨a, ea⟩ : ∃ a, a = P.length := ⟨_, rfl⟩
  obtain ⟨m, em⟩ : ∃ m, m = P.length + A.length := ⟨_, rfl⟩
  obtain ⟨b, eb⟩ : ∃ b, b = P.length + A.length + B.length := ⟨_, rfl⟩
  obtain ⟨mid, emid⟩ : ∃ mid, mid = (a + b) / 2 := ⟨_, rfl⟩
  obtain ⟨s0, r0, e11, hs0, hr0, hrm, hrmid, hsb, hsa, hse, hre⟩ : ∃ s0 r0 : Nat, f82r1n11 self (a : Int) (m : Int) (b : Int) (P ++ (A ++ (B ++ S))) = some (.norm (s0 : Int) (r0 : Int)) ∧ a ≤ s0 ∧ s0 ≤ r0 ∧ r0 ≤ m ∧ r0 ≤ mid ∧ mid + m ≤ b + s0 ∧ s0 ≤ m ∧ (s0 = a ∨ mid + m = b + s0) ∧ (r0 = m ∨ r0 = mid) := by
    unfold f82r1n11
    rw [st_half (by omega), ← emid]
    by_cases h : mid < m
    · rw [decide_eq_true (by omega), cond_true]
      refine ⟨mid + m - b, mid, ?_, by omega, by omega, by omega, by omega, by omega, by omega, by omega, by omega⟩
      rw [wrIn (n := (mid : Int) + (m : Int)) (by omega) (by omega), wrIn (by omega) (by omega)]
      congr 2; omega
    · rw [decide_eq_false (by omega), cond_false]
      exact ⟨a, m, rfl, by omega, by omega, by omega, by omega, by omega, by omega, by omega, by omega⟩
  -- where to cut
  have gA : ∀ i, a ≤ i → i < m → (P ++ (A ++ (B ++ S)))[i]? = A[i - a]? := fun i h1 h2 => by rw [get_seg (by omega) (by omega), ea]
  have gB : ∀ i, m ≤ i → i < b → (P ++ (A ++ (B ++ S)))[i]? = B[i - m]? := fun i h1 h2 => by
    rw [show P ++ (A ++ (B ++ S)) = (P ++ A) ++ (B ++ S) by simp, get_seg (by simp <;> omega) (by simp <;> omega), List.length_append, em]
  have h12 := st_n12 hc self (l := P ++ (A ++ (B ++ S))) (a := a) (m := m) (b := b) (by omega) (by omega) (by omega) (by omega) FUEL s0 r0 (fun h h1 h2 => ⟨by omega, by omega, by omega⟩) (by omega) (by omega)
  rw [← emid] at h12
  obtain ⟨s, q1, q2, q3, q4, q5⟩ := bsN_ok (p := st_pr c (P ++ (A ++ (B ++ S))) (mid + m)) FUEL s0 r0 hr0 (lt_FUEL (Nat.le_trans (by omega : r0 - s0 ≤ 1000000) (by unfold maxLen; decide))) fun i j a1 a2 a3 a4 => by
    unfold st_pr at a4 ⊢
    have iA : i - a < A.length := by omega
    have jA : j - a < A.length := by omega
    have iB : mid + m - 1 - i - m < B.length := by omega
    have jB : mid + m - 1 - j - m < B.length := by omega
    rw [gA j (by omega) (by omega), gB (mid + m - 1 - j) (by omega) (by omega), List.getElem?_eq_getElem jA, List.getElem?_eq_getElem jB] at a4
    rw [gA i (by omega) (by omega), gB (mid + m - 1 - i) (by omega) (by omega), List.getElem?_eq_getElem iA, List.getElem?_eq_getElem iB]
    simp only [Bool.not_eq_true'] at a4 ⊢
    have k1 := st_sdg ha (i := i - a) (j := j - a) (by omega) (List.getElem?_eq_getElem iA) (List.getElem?_eq_getElem jA) o
    have k2 := st_sdg hb (i := mid + m - 1 - j - m) (j := mid + m - 1 - i - m) (by omega) (List.getElem?_eq_getElem jB) (List.getElem?_eq_getElem iB) o
    exact o.nt (o.nt k2 a4) k1
  obtain ⟨A1, A2, eA, hA1⟩ := cutL_ (l := A) (n := s - a) (by omega)
  obtain ⟨B1, B2, eB, hB1⟩ := cutL_ (l := B) (n := mid - s) (by omega)
  have lA : A.length = A1.length + A2.length := by rw [eA]; simp
  have lB : B.length = B1.length + B2.length := by rw [eB]; simp
  have h1 : ∀ x ∈ A1, ∀ y ∈ B2, decide (c y x < 0) = false := by
    rcases List.eq_nil_or_concat A1 with e | ⟨A0, u, e⟩
    · rw [e]; simp
    · cases hB2 : B2 with
      | nil => simp
      | cons v B3 =>
        rw [List.concat_eq_append] at e
        have l1 : A1.length = A0.length + 1 := by rw [e]; simp
        have l2 : B2.length = B3.length + 1 := by rw [hB2]; simp
        have hp := q4 (s - 1) (by omega) (by omega)
        unfold st_pr at hp
        rw [gA (s - 1) (by omega) (by omega), gB (mid + m - 1 - (s - 1)) (by omega) (by omega)] at hp
        rw [get_len (l := A) (k := s - 1 - a) (x := u) (a := A0) (b := A2) (by rw [eA, e]; simp) (by omega), get_len (l := B) (k := mid + m - 1 - (s - 1) - m) (x := v) (a := B1) (b := B3) (by rw [eB, hB2]) (by omega)] at hp
        simp only [Bool.not_eq_true'] at hp
        intro x hx y hy
        have hx' : decide (c u x < 0) = false := by
          rw [e] at hx
          have hsA := List.pairwise_append.1 (by rw [eA, e] at ha; exact (List.pairwise_append.1 ha).1 : Sd (st_lt c) (A0 ++ [u]))
          rcases List.mem_append.1 hx with hx | hx
          · exact hsA.2.2 x hx u (by simp)
          · rw [List.mem_singleton.1 hx]; exact o.irr u
        have hy' : decide (c y v < 0) = false := by
          have hsB := List.pairwise_cons.1 (by rw [eB, hB2] at hb; exact (List.pairwise_append.1 hb).2.1 : Sd (st_lt c) (v :: B3))
          rcases List.mem_cons.1 hy with rfl | hy
          · exact o.irr _
          · exact hsB.1 y hy
        exact o.nt (o.nt hy' hp) hx'
  have h2 : ∀ x ∈ A2, ∀ y ∈ B1, decide (c y x < 0) = true := by
    rcases List.eq_nil_or_concat B1 with e | ⟨B0, v, e⟩
    · rw [e]; simp
    · cases hA2 : A2 with
      | nil => simp
      | cons u A3 =>
        rw [List.concat_eq_append] at e
        have l1 : B1.length = B0.length + 1 := by rw [e]; simp
        have l2 : A2.length = A3.length + 1 := by rw [hA2]; simp
        have hp := q5 s (by omega) (by omega)
        unfold st_pr at hp
        rw [gA s (by omega) (by omega), gB (mid + m - 1 - s) (by omega) (by omega)] at hp
        rw [get_len (l := A) (k := s - a) (x := u) (a := A1) (b := A3) (by rw [eA, hA2]) (by omega), get_len (l := B) (k := mid + m - 1 - s - m) (x := v) (a := B0) (b := B2) (by rw [eB, e]; simp) (by omega)] at hp
        simp only [Bool.not_eq_false'] at hp
        intro x hx y hy
        have hx' : decide (c x u < 0) = false := by
          have hsA := List.pairwise_cons.1 (by rw [eA, hA2] at ha; exact (List.pairwise_append.1 ha).2.1 : Sd (st_lt c) (u :: A3))
          rcases List.mem_cons.1 hx with rfl | hx
          · exact o.irr _
          · exact hsA.1 x hx
        have hy' : decide (c v y < 0) = false := by
          rw [e] at hy
          have hsB := List.pairwise_append.1 (by rw [eB, e] at hb; exact (List.pairwise_append.1 hb).1 : Sd (st_lt c) (B0 ++ [v]))
          rcases List.mem_append.1 hy with hy | hy
          · exact hsB.2.2 y hy v (by simp)
          · rw [List.mem_singleton.1 hy]; exact o.irr v
        exact o.lt_le (o.le_lt hy' hp) hx'
  have hcut := merge_cut o (a1 := A1) (a2 := A2) (b1 := B1) (b2 := B2) (by rw [← eA]; exact ha) (by rw [← eB]; exact hb) h1 h2
  rw [← eA, ← eB] at hcut
  have sA := List.pairwise_append.1 (by rw [← eA]; exact ha : Sd (st_lt c) (A1 ++ A2))
  have sB := List.pairwise_append.1 (by rw [← eB]; exact hb : Sd (st_lt c) (B1 ++ B2))
  -- the rotation
  have e_end : wr64 (wr64 ((mid : Int) + (m : Int)) - (s : Int)) = ((mid + m - s : Nat) : Int) := by rw [wrIn (n := (mid : Int) + (m : Int)) (by omega) (by omega), wrIn (by omega) (by omega)]; omega
  have h13 : f82r1n13 self (a : Int) (m : Int) (b : Int) (s : Int) (P ++ (A ++ (B ++ S))) = some (.norm (P ++ ((A1 ++ B1) ++ ((A2 ++ B2) ++ S)))) := by
    unfold f82r1n13 f82r1n14
    rw [st_half (by omega), ← emid, e_end]
    by_cases c1 : s < m
    · by_cases c2 : m < mid + m - s
      · rw [decide_eq_true (by omega : (s : Int) < (m : Int)), decide_eq_true (by omega : (m : Int) < ((mid + m - s : Nat) : Int))]
        simp only [cond_true, Option.bind_some]
        have k := st_rot_ok (P ++ A1) A2 B1 (B2 ++ S) (a := s) (m := m) (b := mid + m - s) (by simp <;> omega) (by simp <;> omega) (by simp <;> omega) (by omega) (by omega) (by simp <;> omega)
        rw [show P ++ (A ++ (B ++ S)) = (P ++ A1) ++ (A2 ++ (B1 ++ (B2 ++ S))) by rw [eA, eB]; simp, k]
        simp
      · rw [decide_eq_true (by omega : (s : Int) < (m : Int)), decide_eq_false (by omega : ¬ (m : Int) < ((mid + m - s : Nat) : Int))]
        have : B1 = [] := List.eq_nil_of_length_eq_zero (by omega)
        simp only [cond_true, cond_false, Option.bind_some]
        rw [eA, eB, this]; simp
    · rw [decide_eq_false (by omega : ¬ (s : Int) < (m : Int))]
      have : A2 = [] := List.eq_nil_of_length_eq_zero (by omega)
      simp only [cond_false, Option.bind_some]
      rw [eA, eB, this]; simp
  -- the left half
  have h15 : f82r1n15 self (a : Int) (b : Int) (s : Int) (m : Int) (P ++ ((A1 ++ B1) ++ ((A2 ++ B2) ++ S))) = some (.norm (P ++ (sortS (st_lt c) (A1 ++ B1) ++ ((A2 ++ B2) ++ S)))) := by
    unfold f82r1n15 f82r1n16
    rw [st_half (by omega), ← emid]
    by_cases c1 : a < s
    · by_cases c2 : s < mid
      · rw [decide_eq_true (by omega : (a : Int) < (s : Int)), decide_eq_true (by omega : (s : Int) < (mid : Int))]
        simp only [cond_true, Option.bind_some]
        have k := hs P A1 B1 ((A2 ++ B2) ++ S) (by omega) (by omega) (by omega) sA.1 sB.1 (by simp <;> omega)
        rw [show P.length = a by omega, show a + A1.length = s by omega, show s + B1.length = mid by omega] at k
        rw [show P ++ ((A1 ++ B1) ++ ((A2 ++ B2) ++ S)) = P ++ (A1 ++ (B1 ++ ((A2 ++ B2) ++ S))) by simp, k]
        rfl
      · rw [decide_eq_true (by omega : (a : Int) < (s : Int)), decide_eq_false (by omega : ¬ (s : Int) < (mid : Int))]
        have : B1 = [] := List.eq_nil_of_length_eq_zero (by omega)
        simp only [cond_true, cond_false, Option.bind_some]
        rw [this, List.append_nil, ← sortS_of o sA.1 (Cl.refl _)]
    · rw [decide_eq_false (by omega : ¬ (a : Int) < (s : Int))]
      have : A1 = [] := List.eq_nil_of_length_eq_zero (by omega)
      simp only [cond_false, Option.bind_some]
      rw [this, List.nil_append, ← sortS_of o sB.1 (Cl.refl _)]
  have lS1 : (sortS (st_lt c) (A1 ++ B1)).length = A1.length + B1.length := by rw [sortS_len o]; simp
  -- the right half
  have hfin : f82r1n17 self (b : Int) (a : Int) (m : Int) (s : Int) (P ++ (sortS (st_lt c) (A1 ++ B1) ++ ((A2 ++ B2) ++ S))) = some (.norm (decide (mid < mid + m - s) && decide (mid + m - s < b))) := by
    unfold f82r1n17
    rw [st_half (by omega), ← emid, e_end]
    by_cases c1 : mid < mid + m - s
    · rw [decide_eq_true (by omega : (mid : Int) < ((mid + m - s : Nat) : Int)), decide_eq_true c1]
      simp only [cond_true, Bool.true_and]
      congr 2
      exact decide_eq_decide.2 (by omega)
    · rw [decide_eq_false (by omega : ¬ (mid : Int) < ((mid + m - s : Nat) : Int)), decide_eq_false c1]; rfl
  have n1 : f82r1n1 self (a : Int) (m : Int) (b : Int) (P ++ (A ++ (B ++ S))) = some .norm := by
    unfold f82r1n1 f82r1n2
    rw [wrIn (n := (m : Int) - (a : Int)) (by omega) (by omega), decide_eq_false (by omega)]; rfl
  have n6 : f82r1n6 self (a : Int) (m : Int) (b : Int) (P ++ (A ++ (B ++ S))) = some .norm := by
    unfold f82r1n6 f82r1n7
    rw [wrIn (n := (b : Int) - (m : Int)) (by omega) (by omega), decide_eq_false (by omega)]; rfl
  unfold f82r1n0
  rw [← ea, show a + A.length = m by omega, show m + B.length = b by omega, n1]
  simp only [Option.bind_some, n6, e11, h12, q1, Option.map_some, h13, h15, hfin]
  rw [st_half (by omega), ← emid, e_end, hcut]
  by_cases c3 : mid < mid + m - s ∧ mid + m - s < b
  · rw [decide_eq_true c3.1, decide_eq_true c3.2]
    simp only [Bool.and_self, cond_true]
    have k := hs (P ++ sortS (st_lt c) (A1 ++ B1)) A2 B2 S (by omega) (by omega) (by omega) sA.2.1 sB.2.1 (by simp [lS1] <;> omega)
    rw [List.length_append, lS1, show P.length + (A1.length + B1.length) = mid by omega, show mid + A2.length = mid + m - s by omega, show mid + m - s + B2.length = b by omega] at k
    rw [show P ++ (sortS (st_lt c) (A1 ++ B1) ++ ((A2 ++ B2) ++ S)) = (P ++ sortS (st_lt c) (A1 ++ B1)) ++ (A2 ++ (B2 ++ S)) by simp, k]
    simp
  · have e1 : (decide (mid < mid + m - s) && decide (mid + m - s < b)) = false := by
      rw [Bool.and_eq_false_iff, decide_eq_false_iff_not, decide_eq_false_iff_not]
      omega
    rw [e1]
    have : sortS (st_lt c) (A2 ++ B2) = A2 ++ B2 := by
      rcases (by omega : A2.length = 0 ∨ B2.length = 0) with h | h
      · rw [List.eq_nil_of_length_eq_zero h, List.nil_append, ← sortS_of o sB.2.1 (Cl.refl _)]
      · rw [List.eq_nil_of_length_eq_zero h, List.append_nil, ← sortS_of o sA.2.1 (Cl.refl _)]
    rw [this]
    simp
include hc o in
theorem st_sym_ok : ∀ (k : Nat) (P A B S : List NettingFlow), 0 < A.length → 0 < B.length → A.length + B.length ≤ 2 ^ k → Sd (st_lt c) A → Sd (st_lt c) B → P.length + A.length + B.length + S.length ≤ 500000 →
    f82r1F k (P.length : Int) ((P.length + A.length : Nat) : Int) ((P.length + A.length + B.length : Nat) : Int) (P ++ (A ++ (B ++ S))) = some (P ++ (sortS (st_lt c) (A ++ B) ++ S))
  | 0, P, A, B, S, h1, h2, h3, _, _, _ => by simp at h3; omega
  | k + 1, P, A, B, S, h1, h2, h3, ha, hb, hl => by
    rw [f82r1F]
    by_cases hA : A.length = 1
    · obtain ⟨x, rfl⟩ := List.length_eq_one_iff.1 hA
      have := st_one hc o (f82r1F k) P B S x hb (by simp at hl; omega)
      unfold f82r1n0 f82r1n1
      simp only [List.length_cons, List.length_nil, List.cons_append, List.nil_append] at this ⊢
      rw [this]; rfl
    · by_cases hB : B.length = 1
      · obtain ⟨y, rfl⟩ := List.length_eq_one_iff.1 hB
        have := st_last hc o (f82r1F k) P A S y ha (by simp at hl; omega)
        have n1 : f82r1n1 (f82r1F k) (P.length : Int) ((P.length + A.length : Nat) : Int) ((P.length + A.length + 1 : Nat) : Int) (P ++ (A ++ y :: S)) = some .norm := by
          unfold f82r1n1 f82r1n2
          rw [wrIn (n := ((P.length + A.length : Nat) : Int) - (P.length : Int)) (by omega) (by simp at hl; omega), decide_eq_false (by omega)]; rfl
        unfold f82r1n0 f82r1n6
        simp only [List.length_cons, List.length_nil, List.cons_append, List.nil_append] at this ⊢
        rw [n1]
        simp only [Option.bind_some]
        rw [this]; rfl
      · rw [st_round hc o (f82r1F k) (2 ^ k) (fun P A B S a1 a2 a3 a4 a5 a6 => st_sym_ok k P A B S a1 a2 a3 a4 a5 a6) P A B S (by omega) (by omega) (by rw [Nat.pow_succ] at h3; omega) ha hb hl]
        rfl
include hc o in
theorem st_mrg (P A B S : List NettingFlow) (h1 : 0 < A.length) (h2 : 0 < B.length) (ha : Sd (st_lt c) A) (hb : Sd (st_lt c) B) (hl : P.length + A.length + B.length + S.length ≤ 500000) :
    f82r1 (P.length : Int) ((P.length + A.length : Nat) : Int) ((P.length + A.length + B.length : Nat) : Int) (P ++ (A ++ (B ++ S))) = some (P ++ (sortS (st_lt c) (A ++ B) ++ S)) :=
  st_sym_ok hc o 200 P A B S h1 h2 (Nat.le_trans (by omega : A.length + B.length ≤ 500000) (by decide)) ha hb hl
end
end Go.Proofs.Ytkcafackfihmiaa
namespace Go.Proofs.Ytkcafackfihmiaa
set_option linter.unusedVariables false
set_option linter.unusedSimpArgs false
open Go.RowKit
section
variable {c : NettingFlow → NettingFlow → Int} (hc : ∀ x y, f55 x y = some (c x y)) (o : SWo (st_lt c))
include hc o
theorem st_blocks : ∀ (f : Nat) (D R : List NettingFlow), R.length < f → D.length + R.length ≤ 500000 → D.length % 20 = 0 → Bl (st_lt c) 20 D →
    ∃ D' R', f69r1n1 f ((D.length + R.length : Nat) : Int) (D.length : Int) ((D.length + 20 : Nat) : Int) (D ++ R) = some (.exit0 (D'.length : Int) (D' ++ R')) ∧ D'.length % 20 = 0 ∧ Bl (st_lt c) 20 D' ∧ R'.length < 20 ∧ Cl (st_lt c) (D ++ R) (D' ++ R') ∧ D'.length + R'.length = D.length + R.length
  | 0, _, _, h, _, _, _ => absurd h (Nat.not_lt_zero _)
  | f + 1, D, R, hf, hl, hm, hD => by
    rw [f69r1n1]
    by_cases h : 20 ≤ R.length
    · obtain ⟨X, R1, rfl, hX⟩ := cutL_ (l := R) (n := 20) h
      simp only [List.length_append] at *
      have k := st_ins_ok hc o D X R1 (by omega)
      rw [hX] at k
      have lS : (sortS (st_lt c) X).length = 20 := by rw [sortS_len o, hX]
      rw [decide_eq_true (by omega : ((D.length + 20 : Nat) : Int) ≤ ((D.length + (X.length + R1.length) : Nat) : Int)), cond_true, show D ++ (X ++ R1) = D ++ (X ++ R1) from rfl, k]
      simp only [Option.bind_some]
      obtain ⟨D', R', q1, q2, q3, q4, q5, q6⟩ := st_blocks f (D ++ sortS (st_lt c) X) R1 (by omega) (by simp <;> omega) (by simp <;> omega) (hD.snoc hm (by decide) (sortS_sd o X) (by omega))
      rw [List.length_append, lS] at q1 q6
      refine ⟨D', R', ?_, q2, q3, q4, ?_, by omega⟩
      · rw [show wr64 (((D.length + 20 : Nat) : Int) + 20) = ((D.length + 20 + 20 : Nat) : Int) by rw [wrIn (by omega) (by omega)]; omega, show D ++ (sortS (st_lt c) X ++ R1) = (D ++ sortS (st_lt c) X) ++ R1 by simp, show D.length + (X.length + R1.length) = D.length + 20 + R1.length by omega]
        exact q1
      · have := (((Cl.refl (lt := st_lt c) D).app (sortS_cl o X)).app (Cl.refl (lt := st_lt c) R1)).trans q5
        simpa using this
    · rw [decide_eq_false (by omega : ¬ ((D.length + 20 : Nat) : Int) ≤ ((D.length + R.length : Nat) : Int)), cond_false]
      exact ⟨D, R, rfl, hm, hD, by omega, Cl.refl _, rfl⟩
theorem st_pairs (s : Nat) (hs : 0 < s) (hs1 : s ≤ 1000000) : ∀ (f : Nat) (D R : List NettingFlow), R.length < f → D.length + R.length ≤ 500000 → D.length % (2 * s) = 0 → Bl (st_lt c) (2 * s) D → Bl (st_lt c) s R →
    ∃ D' R', f69r1n3 f ((D.length + R.length : Nat) : Int) (s : Int) (D.length : Int) ((D.length + 2 * s : Nat) : Int) (D ++ R) = some (.exit4 (D'.length : Int) (D' ++ R')) ∧ D'.length % (2 * s) = 0 ∧ Bl (st_lt c) (2 * s) D' ∧ Bl (st_lt c) s R' ∧ R'.length < 2 * s ∧ Cl (st_lt c) (D ++ R) (D' ++ R') ∧ D'.length + R'.length = D.length + R.length
  | 0, _, _, h, _, _, _, _ => absurd h (Nat.not_lt_zero _)
  | f + 1, D, R, hf, hl, hm, hD, hR => by
    rw [f69r1n3]
    by_cases h : 2 * s ≤ R.length
    · obtain ⟨X, R1, rfl, hX, sX, hR1⟩ := hR.uncons (by omega)
      simp only [List.length_append] at *
      obtain ⟨Y, R2, rfl, hY, sY, hR2⟩ := hR1.uncons (by omega)
      simp only [List.length_append] at *
      have k := st_mrg hc o D X Y R2 (by omega) (by omega) sX sY (by omega)
      rw [hX, hY] at k
      have lS : (sortS (st_lt c) (X ++ Y)).length = 2 * s := by rw [sortS_len o, List.length_append]; omega
      rw [decide_eq_true (by omega : ((D.length + 2 * s : Nat) : Int) ≤ ((D.length + (X.length + (Y.length + R2.length)) : Nat) : Int)), cond_true, show wr64 ((D.length : Int) + (s : Int)) = ((D.length + s : Nat) : Int) by rw [wrIn (by omega) (by omega)]; omega, show D.length + 2 * s = D.length + s + s by omega, k]
      simp only [Option.bind_some]
      obtain ⟨D', R', q1, q2, q3, q4, q5, q6, q7⟩ := st_pairs s hs hs1 f (D ++ sortS (st_lt c) (X ++ Y)) R2 (by omega) (by simp [lS] <;> omega) (by rw [List.length_append, lS, Nat.add_mod_right]; exact hm) (hD.snoc hm (by omega) (sortS_sd o _) (by omega)) hR2
      rw [List.length_append, lS] at q1 q7
      refine ⟨D', R', ?_, q2, q3, q4, q5, ?_, by omega⟩
      · rw [show wr64 ((2 : Int) * (s : Int)) = ((2 * s : Nat) : Int) by rw [wrIn (by omega) (by omega)]; omega, show wr64 (((D.length + s + s : Nat) : Int) + ((2 * s : Nat) : Int)) = ((D.length + 2 * s + 2 * s : Nat) : Int) by rw [wrIn (by omega) (by omega)]; omega, show D.length + s + s = D.length + 2 * s by omega, show D ++ (sortS (st_lt c) (X ++ Y) ++ R2) = (D ++ sortS (st_lt c) (X ++ Y)) ++ R2 by simp, show D.length + (X.length + (Y.length + R2.length)) = D.length + 2 * s + R2.length by omega]
        exact q1
      · have := (((Cl.refl (lt := st_lt c) D).app (sortS_cl o (X ++ Y))).app (Cl.refl (lt := st_lt c) R2)).trans q6
        simpa using this
    · rw [decide_eq_false (by omega : ¬ ((D.length + 2 * s : Nat) : Int) ≤ ((D.length + R.length : Nat) : Int)), cond_false]
      exact ⟨D, R, rfl, hm, hD, hR, by omega, Cl.refl _, rfl⟩
theorem st_pass (s : Nat) (hs : 0 < s) (hs1 : s ≤ 1000000) (l : List NettingFlow) (hl : l.length ≤ 500000) (hb : Bl (st_lt c) s l) : ∃ l', f69r1n2 (l.length : Int) (s : Int) l = some (.norm l') ∧ Bl (st_lt c) (2 * s) l' ∧ Cl (st_lt c) l l' := by
  obtain ⟨D, R, q1, q2, q3, q4, q5, q6, q7⟩ := st_pairs hc o s hs hs1 FUEL [] l (lt_FUEL (Nat.le_trans (by omega : l.length ≤ 1000000) (by unfold maxLen; decide))) (by simpa using hl) (by simp) (.last List.Pairwise.nil (by simp)) hb
  simp only [List.length_nil, Nat.zero_add, List.nil_append] at q1 q6 q7
  unfold f69r1n2
  rw [show wr64 ((2 : Int) * (s : Int)) = ((2 * s : Nat) : Int) by rw [wrIn (by omega) (by omega)]; omega, show (0 : Int) = ((0 : Nat) : Int) from rfl, q1]
  simp only [Option.bind_some]
  rw [show wr64 ((D.length : Int) + (s : Int)) = ((D.length + s : Nat) : Int) by rw [wrIn (by omega) (by omega)]; omega]
  by_cases h : D.length + s < l.length
  · obtain ⟨X, Y, rfl, hX, sX, hY⟩ := q4.uncons (by omega)
    simp only [List.length_append] at *
    have sY := hY.whole (by omega) hs
    have k := st_mrg hc o D X Y [] (by omega) (by omega) sX sY (by simp <;> omega)
    rw [hX] at k
    rw [decide_eq_true (by omega), cond_true, show l.length = D.length + s + Y.length by omega, show D ++ (X ++ Y) = D ++ (X ++ (Y ++ [])) by simp, k]
    refine ⟨_, rfl, ?_, ?_⟩
    · rw [List.append_nil]
      exact q3.snoc q2 (by omega) (sortS_sd o _) (by rw [sortS_len o, List.length_append]; omega)
    · rw [List.append_nil]
      exact q6.trans ((Cl.refl _).app (sortS_cl o _))
  · rw [decide_eq_false (by omega), cond_false]
    exact ⟨_, rfl, q3.snoc q2 (by omega) (q4.whole (by omega) hs) (by omega), q6⟩
theorem st_passes : ∀ (n f s : Nat) (l : List NettingFlow), l.length - s ≤ n → n < f → 0 < s → s ≤ 1000000 → l.length ≤ 500000 → Bl (st_lt c) s l → ∃ l', f69r1n4 f (l.length : Int) (s : Int) l = some (.exit2 l') ∧ Sd (st_lt c) l' ∧ Cl (st_lt c) l l'
  | _, 0, _, _, _, h, _, _, _, _ => absurd h (Nat.not_lt_zero _)
  | n, f + 1, s, l, hn, hf, hs, hs1, hl, hb => by
    rw [f69r1n4]
    by_cases h : s < l.length
    · obtain ⟨l1, k1, k2, k3⟩ := st_pass hc o s hs hs1 l hl hb
      have hlen := k3.len
      obtain ⟨l', q1, q2, q3⟩ := st_passes (n - 1) f (2 * s) l1 (by omega) (by omega) (by omega) (by omega) (by omega) k2
      rw [decide_eq_true (by omega), cond_true, k1]
      simp only [Option.bind_some]
      rw [show wr64 ((s : Int) * 2) = ((2 * s : Nat) : Int) by rw [wrIn (by omega) (by omega)]; omega, ← hlen, q1]
      exact ⟨l', rfl, q2, k3.trans q3⟩
    · rw [decide_eq_false (by omega), cond_false]
      exact ⟨l, rfl, hb.whole (by omega) hs, Cl.refl _⟩
theorem st_sorted (l : List NettingFlow) (hl : l.length ≤ 500000) : f54r1 l = some (sortS (st_lt c) l) := by
  obtain ⟨D, R, q1, q2, q3, q4, q5, q6⟩ := st_blocks hc o FUEL [] l (lt_FUEL (Nat.le_trans (by omega : l.length ≤ 1000000) (by unfold maxLen; decide))) (by simpa using hl) (by simp) (.last List.Pairwise.nil (by simp))
  simp only [List.length_nil, Nat.zero_add, List.nil_append] at q1 q5 q6
  have k := st_ins_ok hc o D R [] (by omega)
  simp only [List.append_nil] at k
  rw [q6] at k
  have hb : Bl (st_lt c) 20 (D ++ sortS (st_lt c) R) := q3.snoc q2 (by decide) (sortS_sd o R) (by rw [sortS_len o]; omega)
  have hcl : Cl (st_lt c) l (D ++ sortS (st_lt c) R) := q5.trans ((Cl.refl _).app (sortS_cl o R))
  have hlen := hcl.len
  obtain ⟨l', k1, k2, k3⟩ := st_passes hc o (D ++ sortS (st_lt c) R).length FUEL 20 (D ++ sortS (st_lt c) R) (by omega) (lt_FUEL (Nat.le_trans (by omega : (D ++ sortS (st_lt c) R).length ≤ 1000000) (by unfold maxLen; decide))) (by decide) (by decide) (by omega) hb
  have e : f69r1 (l.length : Int) l = some l' := by
    unfold f69r1 f69r1n0
    rw [show (0 : Int) = ((0 : Nat) : Int) from rfl, show (20 : Int) = ((20 : Nat) : Int) from rfl, q1]
    simp only [Option.bind_some, k]
    rw [← hlen, k1]; rfl
  unfold f54r1 f54r1n0
  rw [e]
  simp only [Option.bind_some]
  rw [sortS_of o k2 (hcl.trans k3)]
end
end Go.Proofs.Ytkcafackfihmiaa
namespace Go.Proofs.Ytkcafackfihmiaa
set_option linter.unusedVariables false
set_option linter.unusedSimpArgs false
open Go.RowKit
abbrev NF := NettingFlow
abbrev NS := NettingSet

theorem f59_eq (c : Int) : f59 c = some (ltrI c) := by
  unfold f59 f59n0 ltrI
  cases decide (97 ≤ c) <;> cases decide (c ≤ 122) <;> cases decide (65 ≤ c) <;> cases decide (c ≤ 90) <;> rfl
theorem f36n2_eq {s : ByteArray} {k : Int} {b : UInt8} (h : at? s.data.toList k = some b) : f36n2 s k = some (bif chB b then .norm else .ret) := by
  have h3 : f36n3 s b k = some (.norm (!(chB b))) := by
    unfold f36n3 chB othI
    rw [f59_eq, ltNot, ltNot]
    simp only [Option.bind_some]
    cases ltrI b.toNat <;> cases decide ((48 : Int) ≤ (b.toNat : Int)) <;> cases decide ((b.toNat : Int) ≤ 57) <;> cases decide ((b.toNat : Int) = 95) <;> cases decide ((b.toNat : Int) = 45) <;> rfl
  unfold f36n2
  rw [h]
  simp only [Option.bind_some, h3]
  cases chB b <;> rfl
theorem f36n4_at (s : ByteArray) (hs : s.data.toList.length ≤ 1000) : ∀ (r : List UInt8) (f k : Nat), s.data.toList.drop k = r → r.length < f → f36n4 f s (k : Int) = some (bif r.all chB then .exit0 else .ret)
  | _, 0, _, _, h => absurd h (Nat.not_lt_zero _)
  | [], f + 1, k, hd, _ => by
    have := drop_nil hd
    rw [f36n4, sizeList, decide_eq_false (by omega), cond_false]; rfl
  | b :: r, f + 1, k, hd, hf => by
    obtain ⟨h1, h2, h3⟩ := dropAt hd
    rw [f36n4, sizeList, decide_eq_true (by omega), cond_true, f36n2_eq h1, List.all_cons]
    cases chB b with
    | false => rfl
    | true =>
      simp only [cond_true, Option.bind_some, Bool.true_and]
      rw [wrSucc (by omega)]
      exact f36n4_at s hs r f (k + 1) h3 (by simpa using hf)
theorem f36_eq (s : ByteArray) : f36 s = some (nmB s) := by
  unfold f36 f36n0 nmB
  rw [sizeList]
  by_cases hs : s.data.toList.length ≤ 40
  · have h1 : f36n1 s = some (bif s.data.toList.all chB then .norm else .ret) := by
      unfold f36n1
      have := f36n4_at s (by omega) s.data.toList FUEL 0 List.drop_zero (fuelSmall (by omega))
      rw [show ((0 : Nat) : Int) = 0 from rfl] at this
      rw [this]
      cases s.data.toList.all chB <;> rfl
    rw [h1]
    generalize s.data.toList = l at hs
    rw [decide_eq_false (by omega : ¬ (40 : Int) < (l.length : Int))]
    cases l with
    | nil => rfl
    | cons b r =>
      have h0 : at? (b :: r) 0 = some b := rfl
      rw [decide_eq_false (by simp; omega : ¬ (((b :: r).length : Nat) : Int) < 1), h0]
      simp only [cond_false, Option.bind_some, f59_eq, isNm, decide_eq_true hs, Bool.true_and, List.all_cons, chB]
      cases ltrI b.toNat <;> cases othI b.toNat <;> cases r.all chB <;> rfl
  · rw [decide_eq_false (by omega : ¬ ((s.data.toList.length : Nat) : Int) < 1), decide_eq_true (by omega : (40 : Int) < ((s.data.toList.length : Nat) : Int))]
    have : isNm s.data.toList = false := by
      generalize s.data.toList = l at hs
      cases l with
      | nil => rfl
      | cons b r => simp only [isNm, decide_eq_false hs, Bool.false_and]
    rw [this]; rfl
theorem nm_ne {s : ByteArray} (h : nmB s = true) : s ≠ str_x := fun e => by
  rw [e] at h
  have : nmB str_x = false := by decide
  rw [this] at h; cases h

theorem f62_eq (a : Int) : f62 a = some false := by unfold f62 f62n0; simp
theorem f63_eq (a : ByteArray) : f63 a = some false := by unfold f63 f63n0; simp [seq_refl]
theorem f41_eq (a b : Int) : f41 a b = some (cmpI a b) := by
  unfold f41 f41n0 cmpI
  rw [f62_eq, f62_eq]
  simp only [Option.bind_some, cond_false]
  cases decide (a < b) <;> cases decide (b < a) <;> rfl
theorem f42_eq (a b : ByteArray) : f42 a b = some (cmpB a b) := by
  unfold f42 f42n0 cmpB
  rw [f63_eq, f63_eq]
  simp only [Option.bind_some, cond_false]
  cases slt a b <;> cases seq a b <;> rfl
theorem f40_eq (x y z : Int) : f40 [x, y, z] = some (cmpOr x (cmpOr y z)) := by
  unfold f40 f40n0 f40n1 cmpOr
  rw [f40n2_run [x, y, z] (maxSmall (by simp))]
  by_cases hx : x = 0
  · by_cases hy : y = 0
    · by_cases hz : z = 0
      · subst hx hy hz; rfl
      · subst hx hy; simp only [f40n2L, decide_eq_false hz, decide_true, cond_true, cond_false, Option.bind_some]
    · subst hx; simp only [f40n2L, decide_eq_false hy, decide_true, cond_true, cond_false, Option.bind_some]
  · simp only [f40n2L, decide_eq_false hx, cond_false, Option.bind_some]
def cO (a b : NF) : Int := cmpOr (cmpI a.Date b.Date) (cmpOr (cmpB a.Set b.Set) (cmpB a.Ccy b.Ccy))
theorem cO_cmp : Cmp cO := (Cmp.int NettingFlow.Date).lex ((Cmp.str NettingFlow.Set).lex (Cmp.str NettingFlow.Ccy))
theorem f55_eq (a b : NF) : f55 a b = some (cO a b) := by
  unfold f55 f55n0
  rw [f41_eq, f42_eq, f42_eq]
  simp only [Option.bind_some, f40_eq]
  rfl
theorem cmpOr_zero {a b : Int} : cmpOr a b = 0 ↔ a = 0 ∧ b = 0 := by
  unfold cmpOr
  by_cases h : a = 0
  · rw [decide_eq_true h]; simp [h]
  · rw [decide_eq_false h]; simp [h]
theorem cO_zero {a b : NF} : cO a b = 0 ↔ a.Date = b.Date ∧ a.Set = b.Set ∧ a.Ccy = b.Ccy := by
  unfold cO
  rw [cmpOr_zero, cmpOr_zero, cmpI_zero, cmpB_zero, cmpB_zero]
abbrev ltO : NF → NF → Bool := fun x y => decide (cO x y < 0)
theorem swo_O : SWo ltO := cO_cmp.swo
def sortO (l : List NF) : List NF := sortS ltO l
theorem f34_eq {l : List NF} (h : l.length ≤ 500000) : f34r1 l = some (sortO l) := by
  unfold f34r1 f34r1n0
  rw [st_sorted f55_eq swo_O l h]; rfl

def namesB (x : NF) : Bool := (seq x.Set str_x || nmB x.Set) && (nmB x.Ccy && (nmB x.From && (nmB x.To && !(seq x.From x.To))))
def goodF (x : NF) : Bool := namesB x && (decide (0 ≤ x.Date) && (decide (x.Date ≤ 99999) && (decide (1 ≤ x.Amount) && decide (x.Amount ≤ 1125899906842624))))
theorem f57_eq (x : NF) : f57 x = some (goodF x) := by
  have h1 : f57n1 x = some (.norm (namesB x)) := by
    unfold f57n1 namesB
    rw [f36_eq, f36_eq, f36_eq, f36_eq]
    cases seq x.Set str_x <;> cases nmB x.Set <;> cases nmB x.Ccy <;> cases nmB x.From <;> cases nmB x.To <;> cases seq x.From x.To <;> rfl
  unfold f57 f57n0 goodF
  rw [h1]
  cases namesB x <;> cases decide (0 ≤ x.Date) <;> cases decide (x.Date ≤ 99999) <;> cases decide (1 ≤ x.Amount) <;> cases decide (x.Amount ≤ 1125899906842624) <;> rfl
theorem f70n2L_eq (bg : List NF) : ∀ (l : List NF) (v : Int), 0 ≤ v → ∃ o, f70_56n2L bg l v = some o ∧ (l.all goodF = true → o = .exit0) ∧ (l.all goodF = false → ∃ w, 0 ≤ w ∧ o = .ret w)
  | [], v, _ => ⟨.exit0, rfl, fun _ => rfl, fun h => by cases h⟩
  | x :: r, v, hv => by
    have e56 : f56 x = some (!(goodF x)) := by unfold f56 f56n0; rw [f57_eq]; rfl
    obtain ⟨o, h1, h2, h3⟩ := f70n2L_eq bg r (v + 1) (by omega)
    rw [f70_56n2L, e56, List.all_cons]
    simp only [Option.bind_some]
    cases goodF x with
    | true => exact ⟨o, h1, by simpa using h2, by simpa using h3⟩
    | false => exact ⟨.ret v, rfl, fun h => by simp at h, fun _ => ⟨v, hv, rfl⟩⟩
def listB (l : List NF) : Bool := decide (l.length ≤ 500) && l.all goodF
theorem f35_eq {l : List NF} (hm : l.length ≤ maxLen) : f35 l = some (bif listB l then 0 else 8) := by
  have hc : f58_56 l = some (!(l.all goodF)) := by
    obtain ⟨o, h1, h2, h3⟩ := f70n2L_eq l l 0 (by omega)
    unfold f58_56 f58_56n0 f70_56 f70_56n0 f70_56n1
    rw [f70_56n2_run l hm, h1]
    cases ha : l.all goodF with
    | true => rw [h2 ha]; rfl
    | false =>
      obtain ⟨w, hw, e⟩ := h3 ha
      rw [e]
      simp only [Option.bind_some]
      rw [decide_eq_true hw]; rfl
  unfold f35 f35n0 listB
  rw [ltNot, show decide ((l.length : Int) ≤ 500) = decide (l.length ≤ 500) by congr 1; apply propext; omega, hc]
  cases decide (l.length ≤ 500) <;> cases l.all goodF <;> rfl
def goodS (x : NS) : Bool := nmB x.Name && (nmB x.First && (nmB x.Second && slt x.First x.Second))
def ordS : Option NS → NS → Bool
  | none, _ => true
  | some y, x => slt y.Name x.Name
def okS : Option NS → List NS → Bool
  | _, [] => true
  | p, x :: r => goodS x && (ordS p x && okS (some x) r)
theorem f23n2_eq {s pre r : List NS} {x : NS} (h : s = pre ++ x :: r) (hl : s.length ≤ 1000) : f23n2 s ((pre.length : Nat) : Int) = some (bif goodS x && ordS pre.getLast? x then .norm else .ret) := by
  have h3 : f23n3 s ((pre.length : Nat) : Int) x = some (.norm (goodS x)) := by
    unfold f23n3 goodS
    rw [f36_eq, f36_eq, f36_eq]
    cases nmB x.Name <;> cases nmB x.First <;> cases nmB x.Second <;> rfl
  have h4 : f23n4 s ((pre.length : Nat) : Int) (goodS x) x = some (.norm (!(goodS x && ordS pre.getLast? x))) := by
    unfold f23n4
    rcases List.eq_nil_or_concat pre with rfl | ⟨q, y, rfl⟩
    · simp only [List.length_nil, Int.natCast_zero, List.getLast?_nil, ordS]
      rw [decide_eq_false (by omega : ¬ (0 : Int) < 0)]
      cases goodS x <;> rfl
    · rw [List.concat_eq_append] at h ⊢
      have hq : q.length + 1 ≤ 1000 := by rw [h] at hl; simp at hl; omega
      rw [decide_eq_true (by simp : (0 : Int) < (((q ++ [y]).length : Nat) : Int)), show wr64 ((((q ++ [y]).length : Nat) : Int) - 1) = ((q.length : Nat) : Int) by rw [wrIn (by simp <;> omega) (by simp <;> omega)]; simp, at_len (k := q.length) (a := q) (x := y) (b := x :: r) (by rw [h]; simp) rfl, List.getLast?_concat]
      simp only [cond_true, Option.bind_some, ordS]
      cases goodS x <;> cases slt y.Name x.Name <;> rfl
  unfold f23n2
  rw [at_len h rfl]
  simp only [Option.bind_some, h3, h4]
  cases goodS x && ordS pre.getLast? x <;> rfl
theorem f23n5_at {s : List NS} (hl : s.length ≤ 1000) : ∀ (r pre : List NS) (f : Nat), s = pre ++ r → r.length < f → f23n5 f s ((pre.length : Nat) : Int) = some (bif okS pre.getLast? r then .exit0 else .ret)
  | _, _, 0, _, h => absurd h (Nat.not_lt_zero _)
  | [], pre, f + 1, h, _ => by rw [f23n5, decide_eq_false (by rw [h]; simp), cond_false]; rfl
  | x :: r, pre, f + 1, h, hf => by
    have hp : pre.length < s.length := by rw [h]; simp
    have ih := f23n5_at hl r (pre ++ [x]) f (by rw [h]; simp) (by simpa using hf)
    rw [List.length_append, List.getLast?_concat] at ih
    rw [f23n5, decide_eq_true (by omega), cond_true, f23n2_eq h hl, okS]
    cases goodS x with
    | false => rfl
    | true =>
      cases ordS pre.getLast? x with
      | false => rfl
      | true =>
        simp only [Bool.and_self, cond_true, Option.bind_some, Bool.true_and]
        rw [wrSucc (by omega)]
        exact ih
def setsB (s : List NS) : Bool := decide (s.length ≤ 64) && okS none s
theorem f23_eq (s : List NS) : f23 s = some (bif setsB s then 0 else 8) := by
  unfold f23 f23n0 setsB
  rw [ltNot, show decide ((s.length : Int) ≤ 64) = decide (s.length ≤ 64) by congr 1; apply propext; omega]
  by_cases hl : s.length ≤ 64
  · have h1 : f23n1 s = some (bif okS none s then .norm else .ret) := by
      unfold f23n1
      have := f23n5_at (s := s) (by omega) s [] FUEL rfl (fuelSmall (by omega))
      rw [show (((([] : List NS).length : Nat)) : Int) = 0 from rfl, List.getLast?_nil] at this
      rw [this]
      cases okS none s <;> rfl
    rw [h1, decide_eq_true hl]
    cases okS none s <;> rfl
  · rw [decide_eq_false hl]; rfl
abbrev SSrt (l : List NS) : Prop := l.Pairwise fun a b => slt a.Name b.Name = true
theorem okS_some : ∀ {l : List NS} {p : NS}, okS (some p) l = true → (p :: l).Pairwise (fun a b => slt a.Name b.Name = true) ∧ ∀ x ∈ l, goodS x = true
  | [], p, _ => by simp
  | y :: r, p, h => by
    rw [okS, ordS, Bool.and_eq_true, Bool.and_eq_true] at h
    obtain ⟨h1, h2, h3⟩ := h
    obtain ⟨h4, h5⟩ := okS_some h3
    refine ⟨List.pairwise_cons.2 ⟨fun z hz => ?_, h4⟩, fun z hz => ?_⟩
    · rcases List.mem_cons.1 hz with rfl | hz
      · exact h2
      · exact slt_trans h2 ((List.pairwise_cons.1 h4).1 z hz)
    · rcases List.mem_cons.1 hz with rfl | hz
      · exact h1
      · exact h5 z hz
theorem sets_ok {s : List NS} (h : setsB s = true) : s.length ≤ 64 ∧ SSrt s ∧ ∀ x ∈ s, goodS x = true := by
  unfold setsB at h
  rw [Bool.and_eq_true, decide_eq_true_eq] at h
  refine ⟨h.1, ?_⟩
  cases s with
  | nil => simp
  | cons y r =>
    have := h.2
    rw [okS, Bool.and_eq_true, Bool.and_eq_true] at this
    obtain ⟨h1, _, h3⟩ := this
    obtain ⟨h4, h5⟩ := okS_some h3
    exact ⟨h4, fun z hz => by
      rcases List.mem_cons.1 hz with rfl | hz
      · exact h1
      · exact h5 z hz⟩

def agr (n : ByteArray) : List NS → Option NS
  | [] => none
  | x :: r => bif seq x.Name n then some x else agr n r
theorem agr_none {n : ByteArray} : ∀ {l : List NS}, (∀ x ∈ l, x.Name ≠ n) → agr n l = none
  | [], _ => rfl
  | x :: r, h => by rw [agr, seqF (h x List.mem_cons_self), cond_false, agr_none fun y hy => h y (List.mem_cons_of_mem _ hy)]
theorem agr_app {n : ByteArray} : ∀ {pre post : List NS}, (∀ x ∈ pre, x.Name ≠ n) → agr n (pre ++ post) = agr n post
  | [], _, _ => rfl
  | x :: r, post, h => by rw [List.cons_append, agr, seqF (h x List.mem_cons_self), cond_false, agr_app fun y hy => h y (List.mem_cons_of_mem _ hy)]
theorem agr_mem {n : ByteArray} {x : NS} : ∀ {l : List NS}, agr n l = some x → x ∈ l ∧ x.Name = n
  | y :: r, h => by
    rw [agr] at h
    cases k : seq y.Name n with
    | true => rw [k] at h; obtain rfl := Option.some.inj h; exact ⟨List.mem_cons_self, seq_iff.1 k⟩
    | false =>
      rw [k] at h
      obtain ⟨h1, h2⟩ := agr_mem h
      exact ⟨List.mem_cons_of_mem _ h1, h2⟩
theorem f66_eq (x : NS) (n : ByteArray) : f66 x n = some (cmpB x.Name n) := by unfold f66 f66n0; rw [f42_eq]; rfl
theorem f65n1_eq {l : List NS} (n : ByteArray) (hl : l.length ≤ 1000000) : ∀ (f lo hi : Nat), hi ≤ l.length → lo ≤ 1000000 → f65_66n1 f l n (lo : Int) (hi : Int) = (bsN (pq (fun y => decide (cmpB y.Name n < 0)) l) f lo hi).map fun r => .exit0 (r : Int)
  | 0, lo, hi, _, _ => rfl
  | f + 1, lo, hi, h, h0 => by
    rw [f65_66n1, bsN]
    by_cases hlt : lo < hi
    · have hk : (lo + hi) / 2 < l.length := by omega
      rw [decide_eq_true hlt, decide_eq_true (by omega : (lo : Int) < (hi : Int)), st_half (by omega), at_in hk]
      simp only [cond_true, Option.bind_some, f66_eq]
      have ep : pq (fun y => decide (cmpB y.Name n < 0)) l ((lo + hi) / 2) = decide (cmpB l[(lo + hi) / 2].Name n < 0) := by unfold pq; rw [List.getElem?_eq_getElem hk]
      rw [ep]
      cases decide (cmpB l[(lo + hi) / 2].Name n < 0) with
      | true => rw [cond_true, cond_true, show wr64 ((((lo + hi) / 2 : Nat) : Int) + 1) = (((lo + hi) / 2 + 1 : Nat) : Int) by rw [wrIn (by omega) (by omega)]; omega]; exact f65n1_eq n hl f _ _ h (by omega)
      | false => rw [cond_false, cond_false]; exact f65n1_eq n hl f _ _ (by omega) h0
    · rw [decide_eq_false hlt, decide_eq_false (by omega : ¬ (lo : Int) < (hi : Int))]; rfl
def noS : NS := ⟨str_x, str_x, str_x⟩
def agrE (s : List NS) (n : ByteArray) : NS × Bool := match agr n s with | some x => (x, true) | none => (noS, false)
theorem f46_eq {s : List NS} (hs : SSrt s) (hl : s.length ≤ 1000) (n : ByteArray) : f46 s n = some (agrE s n) := by
  obtain ⟨r, q1, q2, q3, q4, q5⟩ := bsN_ok (p := pq (fun y => decide (cmpB y.Name n < 0)) s) FUEL 0 s.length (by omega) (fuelSmall (by omega)) fun i j a1 a2 a3 a4 => by
    have := pq_mono (X := []) (B := s) (R := []) (q := fun y => decide (cmpB y.Name n < 0)) (hs.imp fun {u w} huw hq => by
      rw [decide_eq_true_eq, cmpB_neg] at *
      exact slt_trans huw hq) i j (by simp) a2 (by simpa using a3) (by simpa using a4)
    simpa using this
  have h1 : f65_66n1 FUEL s n 0 (s.length : Int) = some (.exit0 (r : Int)) := by
    have := f65n1_eq (l := s) n (by omega) FUEL 0 s.length (Nat.le_refl _) (by omega)
    rw [q1] at this
    exact this
  obtain ⟨s1, s2, rfl, hs1⟩ := cutL_ (l := s) (n := r) q3
  rw [List.length_append] at q5
  have f1 : ∀ y ∈ s1, decide (cmpB y.Name n < 0) = true := pq_seg (X := []) (R := s2) fun i a1 a2 => by
    have := q4 i (by omega) (by simpa [hs1] using a2)
    simpa using this
  have f2 : ∀ y ∈ s2, decide (cmpB y.Name n < 0) = false := pq_seg (X := s1) (R := []) fun i a1 a2 => by
    have := q5 i (by omega) a2
    simpa using this
  have hn1 : ∀ y ∈ s1, y.Name ≠ n := fun y hy => sltNe (cmpB_neg.1 (of_decide_eq_true (f1 y hy)))
  have h65 : f65_66 (s1 ++ s2) n = some ((r : Int), match s2 with | [] => false | y :: _ => decide (cmpB y.Name n = 0)) := by
    unfold f65_66 f65_66n0
    rw [h1]
    simp only [Option.bind_some]
    cases s2 with
    | nil => rw [decide_eq_false (by rw [List.append_nil]; omega)]; rfl
    | cons y t =>
      rw [decide_eq_true (by simp; omega), at_len (k := r) (a := s1) (x := y) (b := t) rfl hs1.symm]
      simp only [cond_true, Option.bind_some, f66_eq]
  unfold f46 f46n0 agrE
  rw [h65, agr_app hn1]
  simp only [Option.bind_some]
  cases s2 with
  | nil => rfl
  | cons y t =>
    by_cases hk : cmpB y.Name n = 0
    · simp only [decide_eq_true hk, cond_true]
      rw [at_len (k := r) (a := s1) (x := y) (b := t) rfl hs1.symm, agr, seq_iff.2 (cmpB_zero.1 hk)]; rfl
    · simp only [decide_eq_false hk, cond_false]
      have hs' := List.pairwise_cons.1 (List.pairwise_append.1 hs).2.1
      have hy : slt n y.Name = true := cmpB_pos.1 (by have := of_decide_eq_false (f2 y List.mem_cons_self); omega)
      rw [agr_none fun z hz => ?_]
      · rfl
      · rcases List.mem_cons.1 hz with rfl | hz
        · exact (sltNe hy).symm
        · exact (sltNe (slt_trans hy (hs'.1 z hz))).symm

def fitsS (s : List NS) (x : NF) : Bool := seq x.Set str_x || (match agr x.Set s with | some y => (seq y.First x.From && seq y.Second x.To) || (seq y.First x.To && seq y.Second x.From) | none => false)
theorem f21w_eq {s : List NS} (hs : SSrt s) (hl : s.length ≤ 1000) (bg : List NF) : ∀ (l : List NF) (v : Int), f21n2L s bg l v = some (bif l.all (fitsS s) then .exit0 else .ret)
  | [], v => rfl
  | x :: r, v => by
    rw [f21n2L, f46_eq hs hl, f21w_eq hs hl bg r, List.all_cons, fitsS, agrE]
    simp only [Option.bind_some]
    cases seq x.Set str_x with
    | true => rfl
    | false =>
      cases h : agr x.Set s with
      | none => rfl
      | some y =>
        have hn : seq y.Name x.Set = true := seq_iff.2 (agr_mem h).2
        simp only [cond_false, cond_true, NettingSet.eqb, hn, Bool.true_and, Bool.false_or]
        cases seq y.First x.From <;> cases seq y.Second x.To <;> cases seq y.First x.To <;> cases seq y.Second x.From <;> cases r.all (fitsS s) <;> rfl
def checkN (s : List NS) (l : List NF) : Bool := setsB s && (listB l && l.all (fitsS s))
theorem f21_eq (s : List NS) {l : List NF} (hm : l.length ≤ maxLen) : f21 s l = some (bif checkN s l then 0 else 8) := by
  unfold f21 f21n0 checkN
  rw [f23_eq, f35_eq hm]
  cases hs : setsB s with
  | false => rfl
  | true =>
    obtain ⟨h1, h2, h3⟩ := sets_ok hs
    cases listB l with
    | false => rfl
    | true =>
      have h4 : f21n1 s l = some (bif l.all (fitsS s) then .norm else .ret) := by
        unfold f21n1
        rw [f21n2_run s l hm, f21w_eq h2 (by omega)]
        cases l.all (fitsS s) <;> rfl
      simp only [cond_true, Option.bind_some, decide_true, h4, Bool.true_and]
      cases l.all (fitsS s) <;> rfl
structure OkN (s : List NS) (l : List NF) : Prop where
  ss : SSrt s
  sl : s.length ≤ 64
  sg : ∀ x ∈ s, goodS x = true
  len : l.length ≤ 500
  good : ∀ x ∈ l, goodF x = true
  fits : ∀ x ∈ l, fitsS s x = true
theorem checkN_iff {s : List NS} {l : List NF} : checkN s l = true → OkN s l := by
  unfold checkN listB
  simp only [Bool.and_eq_true, decide_eq_true_eq, List.all_eq_true]
  rintro ⟨h1, ⟨h2, h3⟩, h4⟩
  obtain ⟨k1, k2, k3⟩ := sets_ok h1
  exact ⟨k2, k1, k3, h2, h3, h4⟩
theorem alive_t : f11 = some true := rfl
end Go.Proofs.Ytkcafackfihmiaa
namespace Go.Proofs.Ytkcafackfihmiaa
set_option linter.unusedVariables false
set_option linter.unusedSimpArgs false
open Go.RowKit
theorem key_iff (a b : Key_) : Key_.eqb a b = true ↔ a = b := ⟨Key_.eqb_eq, fun h => by subst h; simp [Key_.eqb, seq_refl]⟩
abbrev KM := List (Key_ × Int)
def gK (k : Key_) (m : KM) : Int := mGet Key_.eqb 0 k m

def sF (w : NF → Int) : List NF → Int
  | [] => 0
  | x :: r => w x + sF w r
theorem sF_ext {w v : NF → Int} : ∀ {l : List NF}, (∀ x ∈ l, w x = v x) → sF w l = sF v l
  | [], _ => rfl
  | x :: r, h => by rw [sF, sF, h x List.mem_cons_self, sF_ext fun y hy => h y (List.mem_cons_of_mem _ hy)]
theorem sF_bound (w : NF → Int) (b : Int) : ∀ l : List NF, (∀ x ∈ l, -b ≤ w x ∧ w x ≤ b) → -(b * l.length) ≤ sF w l ∧ sF w l ≤ b * l.length
  | [], _ => by simp [sF]
  | x :: r, h => by
    have h1 := h x List.mem_cons_self
    have h2 := sF_bound w b r fun y hy => h y (List.mem_cons_of_mem _ hy)
    simp only [sF, List.length_cons, Int.natCast_add, Int.mul_add]
    simp only [Int.natCast_one, Int.mul_one]
    omega
theorem goodF_amt {x : NF} (h : goodF x = true) : 1 ≤ x.Amount ∧ x.Amount ≤ 1125899906842624 := by
  unfold goodF at h
  simp only [Bool.and_eq_true, decide_eq_true_eq] at h
  exact h.2.2.2
section
variable (of : NF → Key_) (sel : NF → Bool)
def sgn (x : NF) : Int := bif slt x.From x.To then x.Amount else -x.Amount
def addN : List NF → KM → KM
  | [], m => m
  | x :: r, m => bif sel x then addN r (mPut Key_.eqb (of x) (gK (of x) m + sgn x) m) else addN r m
def restN : List NF → List NF
  | [] => []
  | x :: r => bif sel x then restN r else x :: restN r
def wK (k : Key_) (x : NF) : Int := bif sel x && Key_.eqb (of x) k then sgn x else 0
theorem sgn_bd {x : NF} (h : goodF x = true) : -1125899906842624 ≤ sgn x ∧ sgn x ≤ 1125899906842624 := by
  have := goodF_amt h
  unfold sgn
  cases slt x.From x.To <;> simp only [cond_true, cond_false] <;> omega
theorem addN_get (k : Key_) : ∀ (l : List NF) (m : KM), gK k (addN of sel l m) = gK k m + sF (wK of sel k) l
  | [], m => by simp [addN, sF]
  | x :: r, m => by
    rw [addN, sF, wK]
    cases hs : sel x with
    | false => simp only [cond_false, Bool.false_and]; rw [addN_get k r m]; omega
    | true =>
      simp only [cond_true, Bool.true_and]
      rw [addN_get k r]
      unfold gK
      rw [mgetPut key_iff]
      cases hk : Key_.eqb k (of x) with
      | true =>
        have := (key_iff _ _).1 hk; subst this
        rw [eRefl key_iff]; simp only [cond_true]; omega
      | false =>
        rw [eF key_iff (a := of x) (b := k) fun e => by rw [e, eRefl key_iff] at hk; cases hk]
        simp only [cond_false]; omega
theorem addN_nd : ∀ (l : List NF) {m : KM}, ndK m → ndK (addN of sel l m)
  | [], m, h => h
  | x :: r, m, h => by
    rw [addN]
    cases sel x with
    | false => exact addN_nd r h
    | true => exact addN_nd r (mputNd key_iff h)
theorem addN_len : ∀ (l : List NF) (m : KM), (addN of sel l m).length ≤ m.length + (l.filter sel).length
  | [], m => by simp [addN]
  | x :: r, m => by
    rw [addN, List.filter_cons]
    cases sel x with
    | false => simpa using addN_len r m
    | true =>
      have h1 := addN_len r (mPut Key_.eqb (of x) (gK (of x) m + sgn x) m)
      have h2 := mputLen (E := Key_.eqb) (of x) (gK (of x) m + sgn x) m
      simp only [cond_true, if_true, List.length_cons]
      omega
theorem addN_key {k : Key_} : ∀ {l : List NF} {m : KM}, (∃ e ∈ addN of sel l m, e.1 = k) → (∃ e ∈ m, e.1 = k) ∨ ∃ x ∈ l, sel x = true ∧ of x = k
  | [], m, h => .inl h
  | x :: r, m, h => by
    rw [addN] at h
    cases hs : sel x with
    | false =>
      rw [hs, cond_false] at h
      rcases addN_key h with h | ⟨y, h1, h2⟩
      · exact .inl h
      · exact .inr ⟨y, List.mem_cons_of_mem _ h1, h2⟩
    | true =>
      rw [hs, cond_true] at h
      rcases addN_key h with h | ⟨y, h1, h2⟩
      · rcases mputKeys key_iff h with e | h
        · exact .inr ⟨x, List.mem_cons_self, hs, e.symm⟩
        · exact .inl h
      · exact .inr ⟨y, List.mem_cons_of_mem _ h1, h2⟩
theorem restN_eq : ∀ l : List NF, restN sel l = l.filter fun x => !sel x
  | [] => rfl
  | x :: r => by
    rw [restN, List.filter_cons, restN_eq r]
    cases sel x <;> rfl
end
theorem addN_bd {of : NF → Key_} {sel : NF → Bool} (k : Key_) {l : List NF} (hg : ∀ x ∈ l, goodF x = true) (hl : l.length ≤ 500) : -562949953421312000 ≤ sF (wK of sel k) l ∧ sF (wK of sel k) l ≤ 562949953421312000 := by
  have := sF_bound (wK of sel k) 1125899906842624 l fun x hx => by
    have := sgn_bd (hg x hx)
    unfold wK
    cases sel x && Key_.eqb (of x) k <;> simp only [cond_true, cond_false] <;> omega
  omega

def kP (x : NF) : Key_ := ⟨x.Date, x.Set, x.Ccy⟩
def selP (x : NF) : Bool := !(seq x.Set str_x)
def sumsP (l : List NF) : KM := addN kP selP l []
theorem gK_bd {of : NF → Key_} {sel : NF → Bool} {pre : List NF} (hg : ∀ x ∈ pre, goodF x = true) (hl : pre.length ≤ 500) (k : Key_) : -562949953421312000 ≤ gK k (addN of sel pre []) ∧ gK k (addN of sel pre []) ≤ 562949953421312000 := by
  rw [addN_get]
  have := addN_bd (of := of) (sel := sel) k hg hl
  have e : gK k [] = 0 := rfl
  omega
theorem addN_app (of : NF → Key_) (sel : NF → Bool) : ∀ (a b : List NF) (m : KM), addN of sel (a ++ b) m = addN of sel b (addN of sel a m)
  | [], b, m => rfl
  | x :: a, b, m => by
    rw [List.cons_append, addN, addN]
    cases sel x with
    | false => exact addN_app of sel a b m
    | true => exact addN_app of sel a b _
theorem restN_app (sel : NF → Bool) (a b : List NF) : restN sel (a ++ b) = restN sel a ++ restN sel b := by
  rw [restN_eq, restN_eq, restN_eq, List.filter_append]
theorem restN_len (sel : NF → Bool) (l : List NF) : (restN sel l).length ≤ l.length := by
  rw [restN_eq]; exact List.length_filter_le _ _
theorem f32n2L_eq (s : List NS) {bg : List NF} (hg : ∀ x ∈ bg, goodF x = true) (hl : bg.length ≤ 500) : ∀ (l pre : List NF) (v : Int), bg = pre ++ l → f32r1n2L bg s l v (restN selP pre) (addN kP selP pre []) = some (.exit0 (restN selP bg) (sumsP bg))
  | [], pre, v, h => by rw [List.append_nil] at h; subst h; rfl
  | x :: r, pre, v, h => by
    have ih := f32n2L_eq s hg hl r (pre ++ [x]) (v + 1) (by rw [h]; simp)
    have hx : goodF x = true := hg x (by rw [h]; simp)
    have hp : ∀ y ∈ pre, goodF y = true := fun y hy => hg y (by rw [h]; simp [hy])
    have hpl : pre.length + 1 ≤ 500 := by rw [h] at hl; simp at hl; omega
    have hb := gK_bd (of := kP) (sel := selP) hp (by omega) (kP x)
    have ha := goodF_amt hx
    have hr := restN_len selP pre
    rw [addN_app, restN_app, addN, restN] at ih
    have e33 : f33 x = some (kP x, selP x) := rfl
    rw [f32r1n2L, e33]
    simp only [Option.bind_some]
    cases hs : selP x with
    | false =>
      rw [hs] at ih
      simp only [cond_false, restN, addN] at ih ⊢
      rw [req, fitSmall (by omega) (by omega), cond_true]
      exact ih
    | true =>
      rw [hs] at ih
      simp only [cond_true, restN, addN, List.append_nil] at ih ⊢
      unfold sgn at ih
      unfold gK at ih hb
      cases hlt : slt x.From x.To with
      | true =>
        rw [hlt, cond_true] at ih
        rw [cond_true, wrIn (by omega) (by omega)]
        exact ih
      | false =>
        rw [hlt, cond_false] at ih
        rw [cond_false, wrIn (n := mGet Key_.eqb 0 (kP x) (addN kP selP pre []) - x.Amount) (by omega) (by omega)]
        rw [show mGet Key_.eqb 0 (kP x) (addN kP selP pre []) - x.Amount = mGet Key_.eqb 0 (kP x) (addN kP selP pre []) + -x.Amount by omega]
        exact ih
def mk1 (k : Key_) (a b : ByteArray) (n : Int) : NF := bif decide (n < 0) then ⟨k.date, k.set, k.ccy, b, a, -n⟩ else ⟨k.date, k.set, k.ccy, a, b, n⟩
theorem f37_eq {k : Key_} {a b : ByteArray} {n : Int} (h1 : -4611686018427387904 ≤ n) : f37 k a b n = some (mk1 k a b n, !decide (n = 0)) := by
  unfold f37 f37n0 mk1
  rw [show wr64 (0 - n) = wr64 (-n) by rw [Int.zero_sub]]
  by_cases h : n < 0
  · rw [decide_eq_true h, cond_true, cond_true, wrIn (by omega) (by omega)]; rfl
  · rw [decide_eq_false h]; rfl
def agrD (s : List NS) (n : ByteArray) : NS := (agr n s).getD noS
def mkP (s : List NS) (e : Key_ × Int) : NF := mk1 e.1 (agrD s e.1.set).First (agrD s e.1.set).Second e.2
def okAmt (n : Int) : Bool := decide (-1125899906842624 ≤ n) && decide (n ≤ 1125899906842624)
def made (mk : Key_ × Int → NF) (p : KM) : List NF := (p.filter fun e => !decide (e.2 = 0)).map mk
theorem made_cons (mk : Key_ × Int → NF) (e : Key_ × Int) (p : KM) : made mk (e :: p) = (bif decide (e.2 = 0) then [] else [mk e]) ++ made mk p := by
  unfold made
  rw [List.filter_cons]
  cases decide (e.2 = 0) <;> simp
theorem made_len (mk : Key_ × Int → NF) (p : KM) : (made mk p).length ≤ p.length := by
  unfold made; rw [List.length_map]; exact List.length_filter_le _ _
theorem mx_eq {n : Int} (h1 : -4611686018427387904 ≤ n) (h2 : n ≤ 4611686018427387904) : decide ((1125899906842624 : Int) < mxI n (wr64 (0 - n))) = !okAmt n := by
  rw [wrIn (n := 0 - n) (by omega) (by omega)]
  unfold okAmt
  have e : mxI n (0 - n) = if 0 ≤ n then n else -n := by
    unfold mxI
    by_cases h : 0 ≤ n
    · rw [if_pos h, decide_eq_false (by omega)]; rfl
    · rw [if_neg h, decide_eq_true (by omega), cond_true]; omega
  rw [e, ← Bool.decide_and, ← decide_not]
  apply decide_eq_decide.2
  split <;> omega
theorem f32n4_eq {s : List NS} (hs : SSrt s) (hl : s.length ≤ 1000) (al rest : List NF) (bi : KM) : ∀ (p : KM) (o : List NF), (∀ e ∈ p, -562949953421312000 ≤ e.2 ∧ e.2 ≤ 562949953421312000) → o.length + p.length ≤ 1000 →
    f32r1n4 s al rest bi p o = some (bif p.all (fun e => okAmt e.2) then .exit2 (o ++ made (mkP s) p) else .ret)
  | [], o, _, _ => by simp [f32r1n4, made]
  | e :: p, o, hb, hn => by
    simp only [List.length_cons] at hn
    have he := hb e List.mem_cons_self
    have ih := fun o' => f32n4_eq hs hl al rest bi p o' fun x hx => hb x (List.mem_cons_of_mem _ hx)
    rw [f32r1n4, mx_eq (by omega) (by omega), List.all_cons, f46_eq hs hl]
    cases okAmt e.2 with
    | false => rfl
    | true =>
      simp only [Bool.not_true, cond_false, Option.bind_some, Bool.true_and]
      have e1 : (agrE s e.1.set).1 = agrD s e.1.set := by unfold agrD agrE; cases agr e.1.set s <;> rfl
      rw [e1, f37_eq (by omega), made_cons]
      simp only [Option.bind_some]
      cases h0 : decide (e.2 = 0) with
      | true => simp only [Bool.not_true, cond_false, cond_true, List.nil_append]; exact ih o (by omega)
      | false =>
        simp only [Bool.not_false, cond_true, cond_false]
        rw [req, fitSmall (by omega) (by omega), cond_true]
        have := ih (o ++ [mkP s e]) (by simp; omega)
        simpa [mkP] using this
theorem made_key (mk : Key_ × Int → NF) (hk : ∀ e, kP (mk e) = e.1) {m : KM} (h : ndK m) : (made mk m).Pairwise fun x y => eqv ltO x y = false := by
  unfold made
  rw [List.pairwise_map]
  refine (h.sublist List.filter_sublist).imp fun {a b} hab => ?_
  cases e : eqv ltO (mk a) (mk b) with
  | false => rfl
  | true =>
    obtain ⟨h1, h2, h3⟩ := cO_zero.1 (cO_cmp.eqv.1 e)
    exact absurd (by rw [← hk a, ← hk b]; unfold kP; rw [h1, h2, h3]) hab
theorem made_perm (mk : Key_ × Int → NF) {p m : KM} (h : p.Perm m) : (made mk p).Perm (made mk m) := (h.filter _).map _
theorem mk1_key (k : Key_) (a b : ByteArray) (n : Int) : kP (mk1 k a b n) = k := by
  unfold mk1
  cases decide (n < 0) <;> rfl
theorem sums_bd {of : NF → Key_} {sel : NF → Bool} {l : List NF} (hg : ∀ x ∈ l, goodF x = true) (hl : l.length ≤ 500) : ∀ e ∈ addN of sel l [], -562949953421312000 ≤ e.2 ∧ e.2 ≤ 562949953421312000 := fun e he => by
  have h1 := mgetMem key_iff (z := (0 : Int)) (k := e.1) (v := e.2) (addN_nd of sel l List.Pairwise.nil) he
  have := gK_bd (of := of) (sel := sel) hg hl e.1
  unfold gK at this
  rw [h1] at this
  exact this
def okSums (l : List NF) : Bool := (sumsP l).all fun e => okAmt e.2
def madeP (s : List NS) (l : List NF) : List NF := sortO (made (mkP s) (sumsP l))
theorem f32_eq {s : List NS} {l : List NF} (h : OkN s l) : f32r1 s l = some (bif okSums l then (0, restN selP l, madeP s l) else (14, [], [])) := by
  have hlen : (sumsP l).length ≤ 500 := by
    have := addN_len kP selP l []
    have := List.length_filter_le selP l
    have := h.len
    unfold sumsP
    simp only [List.length_nil] at *
    omega
  have h1 : f32r1n1 s l = some (.norm (restN selP l) (sumsP l)) := by
    unfold f32r1n1
    rw [f32r1n2_run l s [] [] (maxSmall (by have := h.len; omega))]
    have := f32n2L_eq s h.good h.len l [] 0 rfl
    have this' : f32r1n2L l s l 0 [] [] = _ := this
    rw [this']; rfl
  have h3 : ∀ p, p.Perm (sumsP l) → f32r1n3 s l (restN selP l) (sumsP l) p = some (bif okSums l then .norm (made (mkP s) p) else .ret) := fun p hp => by
    unfold f32r1n3
    rw [f32n4_eq h.ss (by have := h.sl; omega) _ _ _ p [] (fun e he => sums_bd h.good h.len e (hp.mem_iff.1 he)) (by rw [hp.length_eq]; simp; omega), hp.all_eq]
    unfold okSums
    cases (sumsP l).all fun e => okAmt e.2 <;> rfl
  unfold f32r1 f32r1n0
  rw [h1]
  simp only [Option.bind_some]
  cases ho : okSums l with
  | false =>
    rw [anyOrder_of (o := f32r1n0O.ret 14 [] []) fun p hp => ?_]
    · rfl
    · rw [h3 p hp, ho]; rfl
  | true =>
    rw [anyOrder_of (o := f32r1n0O.ret 0 (restN selP l) (madeP s l)) fun p hp => ?_]
    · rfl
    · have hp2 := made_perm (mkP s) hp
      rw [h3 p hp, ho]
      simp only [cond_true, Option.bind_some]
      rw [f34_eq (by have := made_len (mkP s) p; rw [hp.length_eq] at this; omega)]
      simp only [Option.bind_some]
      have : sortO (made (mkP s) p) = madeP s l := sort_perm hp2 (made_key (mkP s) (fun e => mk1_key _ _ _ _) (addN_nd kP selP l List.Pairwise.nil)) swo_O
      rw [this]
def pairsS (s : List NS) (l : List NF) : List NF × Int := bif checkN s l then bif okSums l then (sortO (restN selP l ++ madeP s l), 0) else ([], 14) else ([], 8)
theorem madeP_len (s : List NS) (l : List NF) : (madeP s l).length ≤ (l.filter selP).length := by
  unfold madeP sortO
  rw [sortS_len swo_O]
  refine Nat.le_trans (made_len _ _) ?_
  have := addN_len kP selP l []
  show (addN kP selP l []).length ≤ _
  simpa using this
theorem rest_made (s : List NS) (l : List NF) : (restN selP l).length + (madeP s l).length ≤ l.length := by
  have h1 := madeP_len s l
  rw [restN_eq]
  have : (l.filter fun x => !selP x).length + (l.filter selP).length = l.length := by
    induction l with
    | nil => rfl
    | cons x r ih =>
      rw [List.filter_cons, List.filter_cons]
      have := ih (madeP_len s r)
      cases selP x <;> simp <;> omega
  omega
theorem f13_eq (s : List NS) {l : List NF} (hm : l.length ≤ maxLen) : f13r1 s l = some ((pairsS s l).2, (pairsS s l).1) := by
  unfold f13r1 f13r1n0 pairsS
  rw [f21_eq s hm]
  cases hc : checkN s l with
  | false => rfl
  | true =>
    have h := checkN_iff hc
    simp only [cond_true, Option.bind_some, decide_true, f32_eq h]
    cases okSums l with
    | false => rfl
    | true =>
      have hl := h.len
      have hrm := rest_made s l
      have h1 : f13r1n1 s l (0, restN selP l, madeP s l) = some (.norm (restN selP l ++ madeP s l)) := by
        unfold f13r1n1
        cases hp : madeP s l with
        | nil => simp
        | cons y t =>
          rw [hp] at hrm
          simp only [List.isEmpty_cons, cond_false]
          rw [req, fitSmall (by omega) (by omega), cond_true]
      simp only [cond_true, decide_true, h1, Option.bind_some]
      rw [f34_eq (by rw [List.length_append]; omega)]; rfl
end Go.Proofs.Ytkcafackfihmiaa
namespace Go.Proofs.Ytkcafackfihmiaa
set_option linter.unusedVariables false
set_option linter.unusedSimpArgs false
open Go.RowKit
theorem f14_eq {l : List NF} (hl : l.length ≤ 1000000) : f14r1 l = some l := by
  unfold f14r1 f14r1n0
  cases h : l with
  | nil => rfl
  | cons x r =>
    rw [h] at hl
    rw [req, fitSmall hl (by omega)]; rfl
theorem f12_eq (s : List NS) (l : List NF) : ∃ b, f12 s l = some b ∧ (b = false → s.length ≤ 80 ∧ l.length ≤ 520) := by
  unfold f12 f12n0
  by_cases h : (80 : Int) < (s.length : Int)
  · rw [decide_eq_true h]; exact ⟨true, rfl, fun h => by cases h⟩
  · rw [decide_eq_false h]
    refine ⟨_, rfl, fun k => ?_⟩
    have := of_decide_eq_false k
    omega

theorem eqb_refl (x : NF) : NettingFlow.eqb x x = true := by unfold NettingFlow.eqb; simp [seq_refl]
theorem f17n2L_same (a b : List NF) : ∀ (l pre : List NF), b = pre ++ l → f17n2L a b l ((pre.length : Nat) : Int) = some .exit0
  | [], pre, _ => rfl
  | x :: r, pre, h => by
    have ih := f17n2L_same a b r (pre ++ [x]) (by rw [h]; simp)
    rw [List.length_append, show (((pre.length + [x].length : Nat)) : Int) = (pre.length : Int) + 1 from by simp] at ih
    rw [f17n2L, at_len (a := pre) (x := x) (b := r) h rfl]
    simp only [Option.bind_some, eqb_refl, cond_true]
    exact ih
theorem f17_same {a b : List NF} (h : a = b) (hl : a.length ≤ 1000000) : f17 a b = some true := by
  subst h
  have : f17n1 a a = some .norm := by
    unfold f17n1
    rw [f17n2_run a a (maxSmall hl)]
    have := f17n2L_same a a a [] rfl
    have this' : f17n2L a a a 0 = _ := this
    rw [this']; rfl
  unfold f17 f17n0
  rw [this, decide_eq_true rfl]; rfl

end Go.Proofs.Ytkcafackfihmiaa
namespace Go.Proofs.Ytkcafackfihmiaa
set_option linter.unusedVariables false
set_option linter.unusedSimpArgs false
open Go.RowKit

def shr (hub : ByteArray) (e : Key_ × Int) : Share_ := ⟨e.1.set, mk1 ⟨e.1.date, str_x, e.1.ccy⟩ hub e.1.set e.2⟩
end Go.Proofs.Ytkcafackfihmiaa
namespace Go.Proofs.Ytkcafackfihmiaa
set_option linter.unusedVariables false
set_option linter.unusedSimpArgs false
open Go.RowKit


end Go.Proofs.Ytkcafackfihmiaa
namespace Go.Proofs.Ytkcafackfihmiaa
set_option linter.unusedVariables false
set_option linter.unusedSimpArgs false
open Go.RowKit
theorem nodup_perm {α : Type} : ∀ {a b : List α}, a.Pairwise (fun x y => x ≠ y) → b.Pairwise (fun x y => x ≠ y) → (∀ x, x ∈ a ↔ x ∈ b) → a.Perm b
  | [], b, _, _, h => by
    cases b with
    | nil => exact .refl _
    | cons y r => exact absurd ((h y).2 List.mem_cons_self) List.not_mem_nil
  | x :: a, b, ha, hb, h => by
    obtain ⟨b1, b2, rfl⟩ := List.append_of_mem ((h x).1 List.mem_cons_self)
    have hx := List.pairwise_cons.1 ha
    have hb' := List.pairwise_append.1 hb
    have hb2 := List.pairwise_cons.1 hb'.2.1
    have hn : (b1 ++ b2).Pairwise fun x y => x ≠ y := List.pairwise_append.2 ⟨hb'.1, hb2.2, fun u hu v hv => hb'.2.2 u hu v (List.mem_cons_of_mem _ hv)⟩
    have ih := nodup_perm hx.2 hn fun y => by
      constructor
      · intro hy
        have := (h y).1 (List.mem_cons_of_mem _ hy)
        rcases List.mem_append.1 this with k | k
        · exact List.mem_append_left _ k
        · rcases List.mem_cons.1 k with rfl | k
          · exact absurd rfl (hx.1 y hy)
          · exact List.mem_append_right _ k
      · intro hy
        have hm : y ∈ b1 ++ x :: b2 := by
          rcases List.mem_append.1 hy with k | k
          · exact List.mem_append_left _ k
          · exact List.mem_append_right _ (List.mem_cons_of_mem _ k)
        rcases List.mem_cons.1 ((h y).2 hm) with rfl | k
        · rcases List.mem_append.1 hy with k | k
          · exact absurd rfl (hb'.2.2 y k y List.mem_cons_self)
          · exact absurd rfl (hb2.1 y k)
        · exact k
    exact (ih.cons x).trans List.perm_middle.symm
theorem addN_keep {of : NF → Key_} {sel : NF → Bool} {k : Key_} : ∀ {l : List NF} {m : KM}, (∃ e ∈ m, e.1 = k) → ∃ e ∈ addN of sel l m, e.1 = k
  | [], m, h => h
  | x :: r, m, h => by
    rw [addN]
    cases sel x with
    | false => exact addN_keep (l := r) h
    | true => exact addN_keep (l := r) (mputKeep key_iff h)
theorem addN_has {of : NF → Key_} {sel : NF → Bool} {x : NF} (hs : sel x = true) : ∀ {l : List NF} {m : KM}, x ∈ l → ∃ e ∈ addN of sel l m, e.1 = of x
  | y :: r, m, h => by
    rw [addN]
    rcases List.mem_cons.1 h with rfl | h
    · rw [hs]; exact addN_keep (mputHas key_iff _ _ _)
    · cases sel y with
      | false => exact addN_has hs h
      | true => exact addN_has hs h
end Go.Proofs.Ytkcafackfihmiaa
namespace Go.Proofs.Ytkcafackfihmiaa
set_option linter.unusedVariables false
set_option linter.unusedSimpArgs false
open Go.RowKit
theorem f49n2_eq {s : ByteArray} {k : Int} {b : UInt8} (h : at? s.data.toList k = some b) : f49n2 s k = some (bif ltrI b.toNat || (othI b.toNat && !(decide (k = 0))) then .norm else .ret) := by
  have h3 : f49n3 s k b = some (.norm (ltrI b.toNat)) := by
    unfold f49n3 ltrI
    cases decide ((97 : Int) ≤ (b.toNat : Int)) <;> cases decide ((b.toNat : Int) ≤ 122) <;> cases decide ((65 : Int) ≤ (b.toNat : Int)) <;> cases decide ((b.toNat : Int) ≤ 90) <;> rfl
  have h4 : f49n4 s k b (ltrI b.toNat) = some (.norm (othI b.toNat)) := by
    unfold f49n4 othI
    cases decide ((48 : Int) ≤ (b.toNat : Int)) <;> cases decide ((b.toNat : Int) ≤ 57) <;> cases decide ((b.toNat : Int) = 95) <;> cases decide ((b.toNat : Int) = 45) <;> rfl
  unfold f49n2
  rw [h]
  simp only [Option.bind_some, h3, h4]
  unfold f49n5
  cases ltrI b.toNat <;> cases othI b.toNat <;> cases decide (k = 0) <;> rfl
theorem f49n6_at (s : ByteArray) (hs : s.data.toList.length ≤ 1000) : ∀ (r : List UInt8) (f k : Nat), 1 ≤ k → s.data.toList.drop k = r → r.length < f → f49n6 f s (k : Int) = some (bif r.all chB then .exit0 else .ret)
  | _, 0, _, _, _, h => absurd h (Nat.not_lt_zero _)
  | [], f + 1, k, _, hd, _ => by
    have := drop_nil hd
    rw [f49n6, sizeList, decide_eq_false (by omega), cond_false]; rfl
  | b :: r, f + 1, k, h1k, hd, hf => by
    obtain ⟨h1, h2, h3⟩ := dropAt hd
    rw [f49n6, sizeList, decide_eq_true (by omega), cond_true, f49n2_eq h1, List.all_cons, decide_eq_false (by omega : ¬ ((k : Int) = 0)), Bool.not_false, Bool.and_true]
    show _ = some (bif chB b && r.all chB then _ else _)
    unfold chB
    cases ltrI b.toNat || othI b.toNat with
    | false => rfl
    | true =>
      simp only [cond_true, Option.bind_some, Bool.true_and]
      rw [wrSucc (by omega)]
      exact f49n6_at s hs r f (k + 1) (by omega) h3 (by simpa using hf)
theorem f49_eq (s : ByteArray) : f49 s = some (nmB s) := by
  unfold f49 f49n0 nmB
  rw [sizeList]
  by_cases hs : s.data.toList.length ≤ 40
  · cases hl : s.data.toList with
    | nil => rfl
    | cons b r =>
      rw [hl] at hs
      have h1 : f49n1 s = some (bif ltrI b.toNat && r.all chB then .norm else .ret) := by
        unfold f49n1
        obtain ⟨g, hg⟩ : ∃ g, FUEL = g + 1 := ⟨FUEL - 1, by have := fuelSmall (n := 1) (by omega); omega⟩
        have hlt : r.length < g := by
          have := fuelSmall (n := 50) (by omega)
          simp only [List.length_cons] at hs
          omega
        have h0 : at? s.data.toList 0 = some b := by rw [hl]; rfl
        rw [hg, f49n6, sizeList, hl, decide_eq_true (by simp), cond_true, f49n2_eq h0]
        cases hb : ltrI b.toNat with
        | false => cases othI b.toNat <;> rfl
        | true =>
          have := f49n6_at s (by rw [hl]; omega) r g 1 (by omega) (by rw [hl]; rfl) hlt
          rw [show wr64 (0 + 1) = ((1 : Nat) : Int) from by rw [wrIn (by omega) (by omega)]; rfl, this]
          cases r.all chB <;> rfl
      rw [decide_eq_false (by simp; omega : ¬ (((b :: r).length : Nat) : Int) < 1), decide_eq_false (by omega : ¬ (40 : Int) < (((b :: r).length : Nat) : Int)), h1]
      simp only [cond_false, Option.bind_some, isNm, decide_eq_true hs, Bool.true_and]
      cases ltrI b.toNat && r.all chB <;> rfl
  · rw [decide_eq_false (by omega : ¬ ((s.data.toList.length : Nat) : Int) < 1), decide_eq_true (by omega : (40 : Int) < ((s.data.toList.length : Nat) : Int))]
    have : isNm s.data.toList = false := by
      generalize s.data.toList = l at hs
      cases l with
      | nil => rfl
      | cons b r => simp only [isNm, decide_eq_false hs, Bool.false_and]
    rw [this]; rfl
theorem f67_eq (x : NF) : f67 x = some (goodF x) := by
  have h1 : f67n1 x = some (bif namesB x then .norm else .ret) := by
    unfold f67n1 f67n2 namesB
    rw [f49_eq, f49_eq, f49_eq, f49_eq]
    cases seq x.Set str_x <;> cases nmB x.Set <;> cases nmB x.Ccy <;> cases nmB x.From <;> cases nmB x.To <;> cases seq x.From x.To <;> rfl
  unfold f67 f67n0 goodF
  rw [h1]
  cases namesB x <;> cases decide (0 ≤ x.Date) <;> cases decide (x.Date ≤ 99999) <;> cases decide (1 ≤ x.Amount) <;> cases decide (x.Amount ≤ 1125899906842624) <;> rfl
theorem f48w_eq (bg : List NF) : ∀ (l : List NF) (v : Int), ∃ o, f48n2L bg l v = some o ∧ (v + l.length ≤ 500 → o = bif l.all goodF then .exit0 else .ret)
  | [], v => ⟨.exit0, rfl, fun _ => rfl⟩
  | x :: r, v => by
    obtain ⟨o, h1, h2⟩ := f48w_eq bg r (v + 1)
    rw [f48n2L, f67_eq, List.all_cons]
    simp only [Option.bind_some, List.length_cons]
    by_cases hv : v < 500
    · rw [decide_eq_true hv, cond_true]
      cases goodF x with
      | true => exact ⟨o, h1, fun h => h2 (by omega)⟩
      | false => exact ⟨.ret, rfl, fun _ => rfl⟩
    · rw [decide_eq_false hv]
      exact ⟨.exit0, rfl, fun h => by omega⟩
theorem f48_eq {l : List NF} (hm : l.length ≤ maxLen) : f48 l = some (listB l) := by
  obtain ⟨o, h1, h2⟩ := f48w_eq l l 0
  unfold f48 f48n0 f48n1 listB
  rw [f48n2_run l hm, h1, show decide ((l.length : Int) ≤ 500) = decide (l.length ≤ 500) by congr 1; apply propext; omega]
  by_cases hl : l.length ≤ 500
  · rw [h2 (by omega), decide_eq_true hl]
    cases l.all goodF <;> rfl
  · rw [decide_eq_false hl]
    cases o <;> rfl
theorem f25_any {l : List NF} (hl : l.length ≤ 1000000) : ∃ r, f25r1 l = some r := by
  have h : ∀ (n f k : Nat) (m : List NF), m.length ≤ 1000000 → k + n = m.length → n < f → ∃ r, f25r1n1 f (k : Int) m = some (.exit0 r) := fun n => by
    induction n with
    | zero =>
      intro f k m hm hk hf
      obtain ⟨g, rfl⟩ : ∃ g, f = g + 1 := ⟨f - 1, by omega⟩
      rw [f25r1n1, decide_eq_false (by omega)]
      exact ⟨m, rfl⟩
    | succ n ih =>
      intro f k m hm hk hf
      obtain ⟨g, rfl⟩ : ∃ g, f = g + 1 := ⟨f - 1, by omega⟩
      rw [f25r1n1, decide_eq_true (by omega), at_in (by omega : k < m.length)]
      simp only [cond_true, Option.bind_some]
      rw [wrSucc (by omega)]
      exact ih g (k + 1) _ (by rw [List.length_set]; omega) (by rw [List.length_set]; omega) (by omega)
  obtain ⟨r, hr⟩ := h l.length FUEL 0 l hl (by omega) (fuelSmall hl)
  refine ⟨r, ?_⟩
  unfold f25r1 f25r1n0
  have hr' : f25r1n1 FUEL 0 l = some (.exit0 r) := hr
  rw [hr']; rfl
end Go.Proofs.Ytkcafackfihmiaa
namespace Go.Proofs.Ytkcafackfihmiaa
set_option linter.unusedVariables false
set_option linter.unusedSimpArgs false
open Go.RowKit
theorem f24n2_eq {s pre r : List NS} {x : NS} (h : s = pre ++ x :: r) (hl : s.length ≤ 1000) : f24n2 s ((pre.length : Nat) : Int) = some (bif goodS x && ordS pre.getLast? x then .norm else .ret) := by
  have h4 : f24n3 s ((pre.length : Nat) : Int) = some (.norm (!(ordS pre.getLast? x))) := by
    unfold f24n3
    rcases List.eq_nil_or_concat pre with rfl | ⟨q, y, rfl⟩
    · simp only [List.length_nil, Int.natCast_zero, List.getLast?_nil, ordS]
      rw [decide_eq_false (by omega : ¬ (0 : Int) < 0)]; rfl
    · rw [List.concat_eq_append] at h ⊢
      have hq : q.length + 1 ≤ 1000 := by rw [h] at hl; simp at hl; omega
      rw [decide_eq_true (by simp : (0 : Int) < (((q ++ [y]).length : Nat) : Int)), show wr64 ((((q ++ [y]).length : Nat) : Int) - 1) = ((q.length : Nat) : Int) by rw [wrIn (by simp <;> omega) (by simp <;> omega)]; simp, at_len (k := q.length) (a := q) (x := y) (b := x :: r) (by rw [h]; simp) rfl, at_len h rfl, List.getLast?_concat]
      rfl
  unfold f24n2
  rw [at_len h rfl]
  simp only [Option.bind_some, f49_eq, h4]
  unfold goodS
  cases nmB x.Name <;> cases nmB x.First <;> cases nmB x.Second <;> cases slt x.First x.Second <;> cases ordS pre.getLast? x <;> rfl
theorem f24n4_at {s : List NS} (hl : s.length ≤ 1000) : ∀ (r pre : List NS) (f : Nat), s = pre ++ r → r.length < f → f24n4 f s ((pre.length : Nat) : Int) = some (bif okS pre.getLast? r then .exit0 else .ret)
  | _, _, 0, _, h => absurd h (Nat.not_lt_zero _)
  | [], pre, f + 1, h, _ => by rw [f24n4, decide_eq_false (by rw [h]; simp), cond_false]; rfl
  | x :: r, pre, f + 1, h, hf => by
    have hp : pre.length < s.length := by rw [h]; simp
    have ih := f24n4_at hl r (pre ++ [x]) f (by rw [h]; simp) (by simpa using hf)
    rw [List.length_append, List.getLast?_concat] at ih
    rw [f24n4, decide_eq_true (by omega), cond_true, f24n2_eq h hl, okS]
    cases goodS x with
    | false => rfl
    | true =>
      cases ordS pre.getLast? x with
      | false => rfl
      | true =>
        simp only [Bool.and_self, cond_true, Option.bind_some, Bool.true_and]
        rw [wrSucc (by omega)]
        exact ih
theorem f24_eq (s : List NS) : f24 s = some (bif setsB s then 0 else 8) := by
  unfold f24 f24n0 setsB
  rw [ltNot, show decide ((s.length : Int) ≤ 64) = decide (s.length ≤ 64) by congr 1; apply propext; omega]
  by_cases hl : s.length ≤ 64
  · have h1 : f24n1 s = some (bif okS none s then .norm else .ret) := by
      unfold f24n1
      have := f24n4_at (s := s) (by omega) s [] FUEL rfl (fuelSmall (by omega))
      rw [show (((([] : List NS).length : Nat)) : Int) = 0 from rfl, List.getLast?_nil] at this
      rw [this]
      cases okS none s <;> rfl
    rw [h1, decide_eq_true hl]
    cases okS none s <;> rfl
  · rw [decide_eq_false hl]; rfl
theorem f44w_eq (s : List NS) (n : ByteArray) : ∀ (l : List NS) (v : Int), f44n2L s n l v = some (match agr n l with | some y => .ret y | none => .exit0)
  | [], v => rfl
  | x :: r, v => by
    rw [f44n2L, agr, f44w_eq s n r]
    cases seq x.Name n <;> rfl
theorem f44_eq {s : List NS} (hl : s.length ≤ maxLen) (n : ByteArray) : f44 s n = some (agrE s n) := by
  unfold f44 f44n0 f44n1 agrE
  rw [f44n2_run s n hl, f44w_eq]
  cases agr n s <;> rfl

theorem f22n2_eq {s : List NS} (hs : s.length ≤ maxLen) {l : List NF} {k : Int} {x : NF} (hx : at? l k = some x) : f22n2 s l k = some (bif fitsS s x then .norm else .ret) := by
  unfold f22n2 fitsS
  rw [hx]
  simp only [Option.bind_some]
  cases seq x.Set str_x with
  | true => rfl
  | false =>
    rw [cond_false, f44_eq hs]
    unfold agrE
    cases agr x.Set s with
    | none =>
      unfold f22n3 f22n4 f22n5
      rw [hx]
      simp only [Option.bind_some]
      cases seq noS.First x.From <;> cases seq noS.Second x.To <;> cases seq noS.First x.To <;> cases seq noS.Second x.From <;> rfl
    | some y =>
      unfold f22n3 f22n4 f22n5
      rw [hx]
      simp only [Option.bind_some]
      cases seq y.First x.From <;> cases seq y.Second x.To <;> cases seq y.First x.To <;> cases seq y.Second x.From <;> rfl
theorem f22n6_at {s : List NS} (hs : s.length ≤ maxLen) {l : List NF} (hl : l.length ≤ 1000) : ∀ (r : List NF) (f k : Nat), l.drop k = r → r.length < f → f22n6 f s l (k : Int) = some (bif r.all (fitsS s) then .exit0 else .ret)
  | _, 0, _, _, h => absurd h (Nat.not_lt_zero _)
  | [], f + 1, k, hd, _ => by
    have := drop_nil hd
    rw [f22n6, decide_eq_false (by omega), cond_false]; rfl
  | x :: r, f + 1, k, hd, hf => by
    obtain ⟨h1, h2, h3⟩ := dropAt hd
    rw [f22n6, decide_eq_true (by omega), cond_true, f22n2_eq hs h1, List.all_cons]
    cases fitsS s x with
    | false => rfl
    | true =>
      simp only [cond_true, Option.bind_some, Bool.true_and]
      rw [wrSucc (by omega)]
      exact f22n6_at hs hl r f (k + 1) h3 (by simpa using hf)
theorem f22_eq {s : List NS} (hs : s.length ≤ maxLen) {l : List NF} (hl : l.length ≤ 1000) : f22 s l = some (bif checkN s l then 0 else 8) := by
  unfold f22 f22n0 checkN
  rw [f24_eq, f48_eq (maxSmall (by omega))]
  have h4 : f22n1 s l = some (bif l.all (fitsS s) then .norm else .ret) := by
    unfold f22n1
    have := f22n6_at hs hl l FUEL 0 List.drop_zero (fuelSmall (by omega))
    have this' : f22n6 FUEL s l 0 = _ := this
    rw [this']
    cases l.all (fitsS s) <;> rfl
  rw [h4]
  cases setsB s <;> cases listB l <;> cases l.all (fitsS s) <;> rfl

theorem f64_eq (a b : NF) : f64 a b = some (ltO a b) := by
  unfold f64 f64n0
  show _ = some (decide (cO a b < 0))
  unfold cO cmpOr
  by_cases h1 : a.Date = b.Date
  · rw [decide_eq_true h1, decide_eq_true (cmpI_zero.2 h1)]
    by_cases h2 : a.Set = b.Set
    · rw [seq_iff.2 h2, decide_eq_true (cmpB_zero.2 h2)]
      simp only [cond_true, Option.bind_some]
      congr 1
      rw [Bool.eq_iff_iff, decide_eq_true_eq, cmpB_neg]
    · rw [seqF h2, decide_eq_false fun k => h2 (cmpB_zero.1 k)]
      simp only [cond_true, cond_false, Option.bind_some]
      congr 1
      rw [Bool.eq_iff_iff, decide_eq_true_eq, cmpB_neg]
  · rw [decide_eq_false h1, decide_eq_false fun k => h1 (cmpI_zero.1 k)]
    simp only [cond_false, Option.bind_some]
    congr 1
    rw [decide_eq_decide, cmpI_neg]
def putR (x : NF) : List NF → List NF
  | [] => [x]
  | y :: r => bif ltO x y then x :: y :: r else y :: putR x r
theorem f43_done (bg : List NF) (x : NF) : ∀ (l : List NF) (v : Int) (o : List NF), o.length + 2 * l.length ≤ 10000 → f43n2L bg x l true v o = some (.exit0 true (o ++ l))
  | [], _, _, _ => by simp [f43n2L]
  | y :: r, v, o, hn => by
    simp only [List.length_cons] at hn
    rw [f43n2L, cond_true, req, fitSmall (by omega) (by omega), cond_true, f43_done bg x r _ _ (by simp; omega)]
    simp
theorem f43_out (bg : List NF) (x : NF) : ∀ (l : List NF) (v : Int) (o : List NF), o.length + 2 * l.length ≤ 10000 → ∃ d r, f43n2L bg x l false v o = some (.exit0 d r) ∧ (bif d then r else r ++ [x]) = o ++ putR x l ∧ r.length ≤ o.length + l.length + 1
  | [], _, o, _ => ⟨false, o, by simp [f43n2L], by simp [putR], by simp⟩
  | y :: r, v, o, hn => by
    simp only [List.length_cons] at hn
    rw [f43n2L, cond_false, f64_eq]
    simp only [Option.bind_some]
    rw [putR]
    cases ltO x y with
    | true =>
      rw [cond_true, req, fitSmall (by omega) (by omega), cond_true, req, fitSmall (by simp; omega) (by omega), cond_true, f43_done bg x r _ _ (by simp; omega)]
      exact ⟨true, _, rfl, by simp, by simp; omega⟩
    | false =>
      rw [cond_false, req, fitSmall (by omega) (by omega), cond_true]
      obtain ⟨d, q, h1, h2, h3⟩ := f43_out bg x r (v + 1) (o ++ [y]) (by simp; omega)
      exact ⟨d, q, h1, by rw [h2]; simp, by simp at h3 ⊢; omega⟩
theorem f43_eq {l : List NF} (x : NF) (hl : l.length ≤ 2000) : f43 l x = some (putR x l) := by
  unfold f43 f43n0 f43n1
  rw [f43n2_run l x false [] (maxSmall (by omega))]
  obtain ⟨d, r, h1, h2, h3⟩ := f43_out l x l 0 [] (by simp; omega)
  rw [h1]
  simp only [Option.bind_some]
  rw [List.nil_append] at h2
  cases d with
  | true => rw [cond_true] at h2; rw [cond_true, h2]; rfl
  | false =>
    rw [cond_false] at h2
    simp only [List.length_nil] at h3
    rw [cond_false, req, fitSmall (by omega) (by omega), cond_true, h2]; rfl
theorem putR_cl (x : NF) : ∀ {l : List NF}, Sd ltO l → Sd ltO (putR x l) ∧ Cl ltO (l ++ [x]) (putR x l)
  | [], _ => ⟨List.pairwise_singleton _ _, Cl.refl _⟩
  | y :: r, h => by
    have h' := List.pairwise_cons.1 h
    rw [putR]
    cases hx : ltO x y with
    | true =>
      have hall : ∀ z ∈ y :: r, ltO x z = true := fun z hz => by
        rcases List.mem_cons.1 hz with rfl | hz
        · exact hx
        · exact swo_O.lt_le hx (h'.1 z hz)
      exact ⟨List.pairwise_cons.2 ⟨fun z hz => swo_O.asym (hall z hz), h⟩, Cl.swap swo_O (u := y :: r) (v := [x]) fun z hz w hw => by rw [List.mem_singleton.1 hw]; exact hall z hz⟩
    | false =>
      obtain ⟨h1, h2⟩ := putR_cl x h'.2
      refine ⟨List.pairwise_cons.2 ⟨fun z hz => ?_, h1⟩, Cl.app (a := [y]) (b := [y]) (Cl.refl _) h2⟩
      rcases List.mem_append.1 ((h2.mem).1 hz) with hz | hz
      · exact h'.1 z hz
      · rw [List.mem_singleton.1 hz]; exact hx
theorem putR_sort (x : NF) (l : List NF) : putR x (sortO l) = sortO (l ++ [x]) := by
  obtain ⟨h1, h2⟩ := putR_cl x (sortS_sd swo_O l)
  exact sortS_of swo_O h1 ((Cl.app (sortS_cl swo_O l) (Cl.refl [x])).trans h2)
end Go.Proofs.Ytkcafackfihmiaa
namespace Go.Proofs.Ytkcafackfihmiaa
set_option linter.unusedVariables false
set_option linter.unusedSimpArgs false
open Go.RowKit
def kC (d : Int) (t : ByteArray) (x : NF) : Key_ := ⟨d, t, x.Ccy⟩
def selC (d : Int) (t : ByteArray) (x : NF) : Bool := seq x.Set t && decide (d ≤ x.Date)
def sumsC (d : Int) (t : ByteArray) (l : List NF) : KM := addN (kC d t) (selC d t) l []
theorem f47_eq (x : NF) (d : Int) (t : ByteArray) : f47r1 x d t = some (selC d t x) := by
  unfold f47r1 f47r1n0 selC
  cases seq x.Set t <;> rfl
theorem f32c2_eq (s : List NS) (d : Int) (t : ByteArray) {bg : List NF} (hg : ∀ x ∈ bg, goodF x = true) (hl : bg.length ≤ 500) : ∀ (l pre : List NF) (v : Int), bg = pre ++ l → f32r2n2L bg s d t l v (restN (selC d t) pre) (addN (kC d t) (selC d t) pre []) = some (.exit0 (restN (selC d t) bg) (sumsC d t bg))
  | [], pre, v, h => by rw [List.append_nil] at h; subst h; rfl
  | x :: r, pre, v, h => by
    have ih := f32c2_eq s d t hg hl r (pre ++ [x]) (v + 1) (by rw [h]; simp)
    have hx : goodF x = true := hg x (by rw [h]; simp)
    have hp : ∀ y ∈ pre, goodF y = true := fun y hy => hg y (by rw [h]; simp [hy])
    have hpl : pre.length + 1 ≤ 500 := by rw [h] at hl; simp at hl; omega
    have hb := gK_bd (of := kC d t) (sel := selC d t) hp (by omega) (kC d t x)
    have ha := goodF_amt hx
    have hr := restN_len (selC d t) pre
    rw [addN_app, restN_app, addN, restN] at ih
    rw [f32r2n2L, f47_eq]
    simp only [Option.bind_some]
    cases hs : selC d t x with
    | false =>
      rw [hs] at ih
      simp only [cond_false, restN, addN] at ih ⊢
      rw [req, fitSmall (by omega) (by omega), cond_true]
      exact ih
    | true =>
      rw [hs] at ih
      simp only [cond_true, restN, addN, List.append_nil] at ih ⊢
      unfold sgn at ih
      unfold gK at ih hb
      have ek : Key_.mk d t x.Ccy = kC d t x := rfl
      rw [ek]
      cases hlt : slt x.From x.To with
      | true =>
        rw [hlt, cond_true] at ih
        rw [cond_true, wrIn (by omega) (by omega)]
        exact ih
      | false =>
        rw [hlt, cond_false] at ih
        rw [cond_false, wrIn (n := mGet Key_.eqb 0 (kC d t x) (addN (kC d t) (selC d t) pre []) - x.Amount) (by omega) (by omega)]
        rw [show mGet Key_.eqb 0 (kC d t x) (addN (kC d t) (selC d t) pre []) - x.Amount = mGet Key_.eqb 0 (kC d t x) (addN (kC d t) (selC d t) pre []) + -x.Amount by omega]
        exact ih
theorem f32c4_eq {s : List NS} (hs : SSrt s) (hl : s.length ≤ 1000) (d : Int) (t : ByteArray) (al rest : List NF) (bi : KM) : ∀ (p : KM) (o : List NF), (∀ e ∈ p, -562949953421312000 ≤ e.2 ∧ e.2 ≤ 562949953421312000) → o.length + p.length ≤ 1000 →
    f32r2n4 s al d t rest bi p o = some (bif p.all (fun e => okAmt e.2) then .exit2 (o ++ made (mkP s) p) else .ret)
  | [], o, _, _ => by simp [f32r2n4, made]
  | e :: p, o, hb, hn => by
    simp only [List.length_cons] at hn
    have he := hb e List.mem_cons_self
    have ih := fun o' => f32c4_eq hs hl d t al rest bi p o' fun x hx => hb x (List.mem_cons_of_mem _ hx)
    rw [f32r2n4, mx_eq (by omega) (by omega), List.all_cons, f46_eq hs hl]
    cases okAmt e.2 with
    | false => rfl
    | true =>
      simp only [Bool.not_true, cond_false, Option.bind_some, Bool.true_and]
      have e1 : (agrE s e.1.set).1 = agrD s e.1.set := by unfold agrD agrE; cases agr e.1.set s <;> rfl
      rw [e1, f37_eq (by omega), made_cons]
      simp only [Option.bind_some]
      cases h0 : decide (e.2 = 0) with
      | true => simp only [Bool.not_true, cond_false, cond_true, List.nil_append]; exact ih o (by omega)
      | false =>
        simp only [Bool.not_false, cond_true, cond_false]
        rw [req, fitSmall (by omega) (by omega), cond_true]
        have := ih (o ++ [mkP s e]) (by simp; omega)
        simpa [mkP] using this
def okC (d : Int) (t : ByteArray) (l : List NF) : Bool := (sumsC d t l).all fun e => okAmt e.2
def madeC (s : List NS) (d : Int) (t : ByteArray) (l : List NF) : List NF := sortO (made (mkP s) (sumsC d t l))
theorem sumsC_len (d : Int) (t : ByteArray) (l : List NF) : (sumsC d t l).length ≤ l.length := by
  have := addN_len (kC d t) (selC d t) l []
  have := List.length_filter_le (selC d t) l
  unfold sumsC
  simp only [List.length_nil] at *
  omega
theorem f32c_eq {s : List NS} {l : List NF} (h : OkN s l) (d : Int) (t : ByteArray) : f32r2 s l d t = some (bif okC d t l then (0, restN (selC d t) l, madeC s d t l) else (14, [], [])) := by
  have hlen : (sumsC d t l).length ≤ 500 := Nat.le_trans (sumsC_len d t l) h.len
  have h1 : f32r2n1 s l d t = some (.norm (restN (selC d t) l) (sumsC d t l)) := by
    unfold f32r2n1
    rw [f32r2n2_run l s d t [] [] (maxSmall (by have := h.len; omega))]
    have := f32c2_eq s d t h.good h.len l [] 0 rfl
    have this' : f32r2n2L l s d t l 0 [] [] = _ := this
    rw [this']; rfl
  have h3 : ∀ p, p.Perm (sumsC d t l) → f32r2n3 s l d t (restN (selC d t) l) (sumsC d t l) p = some (bif okC d t l then .norm (made (mkP s) p) else .ret) := fun p hp => by
    unfold f32r2n3
    rw [f32c4_eq h.ss (by have := h.sl; omega) d t _ _ _ p [] (fun e he => sums_bd h.good h.len e (hp.mem_iff.1 he)) (by rw [hp.length_eq]; simp; omega), hp.all_eq]
    unfold okC
    cases (sumsC d t l).all fun e => okAmt e.2 <;> rfl
  unfold f32r2 f32r2n0
  rw [h1]
  simp only [Option.bind_some]
  cases ho : okC d t l with
  | false =>
    rw [anyOrder_of (o := f32r2n0O.ret 14 [] []) fun p hp => ?_]
    · rfl
    · rw [h3 p hp, ho]; rfl
  | true =>
    rw [anyOrder_of (o := f32r2n0O.ret 0 (restN (selC d t) l) (madeC s d t l)) fun p hp => ?_]
    · rfl
    · have hp2 := made_perm (mkP s) hp
      rw [h3 p hp, ho]
      simp only [cond_true, Option.bind_some]
      rw [f34_eq (by have := made_len (mkP s) p; rw [hp.length_eq] at this; omega)]
      simp only [Option.bind_some]
      have : sortO (made (mkP s) p) = madeC s d t l := sort_perm hp2 (made_key (mkP s) (fun e => mk1_key _ _ _ _) (addN_nd (kC d t) (selC d t) l List.Pairwise.nil)) swo_O
      rw [this]
def closeS (s : List NS) (l : List NF) (t : ByteArray) (d : Int) : List NF × Int :=
  bif checkN s l then bif (agrE s t).2 then bif decide (0 ≤ d) && decide (d ≤ 99999) then bif okC d t l then (restN (selC d t) l ++ madeC s d t l, 0) else ([], 14) else ([], 2) else ([], 6) else ([], 8)
theorem madeC_len (s : List NS) (d : Int) (t : ByteArray) (l : List NF) : (madeC s d t l).length ≤ l.length := by
  unfold madeC sortO
  rw [sortS_len swo_O]
  exact Nat.le_trans (made_len _ _) (sumsC_len d t l)
theorem f19_eq (s : List NS) {l : List NF} (hm : l.length ≤ maxLen) (t : ByteArray) (d : Int) : f19r1 t d s l = some ((closeS s l t d).2, (closeS s l t d).1) := by
  unfold f19r1 f19r1n0 closeS
  rw [f21_eq s hm, ltNot, ltNot]
  cases hc : checkN s l with
  | false => rfl
  | true =>
    have h := checkN_iff hc
    rw [f46_eq h.ss (by have := h.sl; omega)]
    simp only [cond_true, Option.bind_some, decide_true]
    cases (agrE s t).2 with
    | false => rfl
    | true =>
      cases decide (0 ≤ d) with
      | false => rfl
      | true =>
        cases decide (d ≤ 99999) with
        | false => rfl
        | true =>
          have hl := h.len
          have h1 := madeC_len s d t l
          have h2 := restN_len (selC d t) l
          rw [f32c_eq h]
          cases okC d t l with
          | false => rfl
          | true =>
            simp only [cond_true, Bool.not_true, cond_false, Option.bind_some, decide_true, Bool.and_self]
            cases hp : madeC s d t l with
            | nil => simp
            | cons y r =>
              rw [hp] at h1
              simp only [List.isEmpty_cons, cond_false]
              rw [req, fitSmall (by omega) (by omega), cond_true]
              rfl
end Go.Proofs.Ytkcafackfihmiaa
namespace Go.Proofs.Ytkcafackfihmiaa
set_option linter.unusedVariables false
set_option linter.unusedSimpArgs false
open Go.RowKit
def pay (a : NS) (x : NF) : Int := bif seq x.From a.First then x.Amount else -x.Amount
theorem f45w_eq (a : NS) (d : Int) (c : ByteArray) (bg : List NF) : ∀ (l : List NF) (n v : Int), f45n2L bg d c a l (wr64 n) v = some (.exit0 (wr64 (n + sF (pay a) l)))
  | [], n, v => by simp [f45n2L, sF]
  | x :: r, n, v => by
    rw [f45n2L, sF, pay]
    cases seq x.From a.First with
    | true => simp only [cond_true, wrL, f45w_eq a d c bg r, Int.add_assoc]
    | false => simp only [cond_false, wrLs, f45w_eq a d c bg r]; rw [Int.sub_eq_add_neg, Int.add_assoc]
def zF : NF := ⟨0, str_x, str_x, str_x, str_x, 0⟩
theorem f45_eq (a : NS) {l : List NF} (hg : ∀ x ∈ l, goodF x = true) (hl : l.length ≤ 500) (d : Int) (c : ByteArray) : f45 a l d c = some (bif okAmt (sF (pay a) l) then (mk1 ⟨d, a.Name, c⟩ a.First a.Second (sF (pay a) l), !decide (sF (pay a) l = 0), 0) else (zF, false, 14)) := by
  have hb := sF_bound (pay a) 1125899906842624 l fun x hx => by
    have := goodF_amt (hg x hx)
    unfold pay
    cases seq x.From a.First <;> simp only [cond_true, cond_false] <;> omega
  have h1 : f45n1 l d c a = some (.norm (sF (pay a) l)) := by
    have := f45w_eq a d c l l 0 0
    rw [Int.zero_add, wrIn (n := sF (pay a) l) (by omega) (by omega)] at this
    have this' : f45n2L l d c a l 0 0 = _ := this
    unfold f45n1
    rw [f45n2_run l d c a 0 (maxSmall (by omega)), this']; rfl
  unfold f45 f45n0 f45n3
  rw [h1]
  generalize sF (pay a) l = n at *
  simp only [Option.bind_some]
  unfold okAmt mk1
  by_cases hn : n < 0
  · rw [decide_eq_true hn, cond_true, cond_true, show wr64 (0 - n) = -n by rw [Int.zero_sub, wrIn (by omega) (by omega)], decide_eq_true (by omega : n ≤ 1125899906842624), Bool.and_true]
    simp only [Option.bind_some]
    by_cases h2 : (1125899906842624 : Int) < -n
    · rw [decide_eq_true h2, decide_eq_false (by omega : ¬ -1125899906842624 ≤ n)]; rfl
    · rw [decide_eq_false h2, decide_eq_true (by omega : -1125899906842624 ≤ n)]; rfl
  · rw [decide_eq_false hn, cond_false, cond_false, decide_eq_true (by omega : -1125899906842624 ≤ n), Bool.true_and]
    simp only [Option.bind_some]
    by_cases h2 : (1125899906842624 : Int) < n
    · rw [decide_eq_true h2, decide_eq_false (by omega : ¬ n ≤ 1125899906842624)]; rfl
    · rw [decide_eq_false h2, decide_eq_true (by omega : n ≤ 1125899906842624)]; rfl
section
variable (of : NF → Key_) (sel : NF → Bool)
def grp (k : Key_) (l : List NF) : List NF := l.filter fun x => sel x && Key_.eqb (of x) k
def met (k : Key_) (l : List NF) : Bool := l.any fun x => sel x && Key_.eqb (of x) k
def evK (bg : List NF) : List NF → List NF → KM
  | _, [] => []
  | pre, x :: r => (bif sel x && !(met of sel (of x) pre) then [(of x, gK (of x) (addN of sel bg []))] else []) ++ evK bg (pre ++ [x]) r
theorem evK_mem (bg : List NF) : ∀ (l pre : List NF) (e : Key_ × Int), e ∈ evK of sel bg pre l ↔ (∃ x ∈ l, sel x = true ∧ of x = e.1) ∧ met of sel e.1 pre = false ∧ e.2 = gK e.1 (addN of sel bg [])
  | [], pre, e => by simp [evK]
  | x :: r, pre, e => by
    have em : ∀ k, met of sel k (pre ++ [x]) = (met of sel k pre || (sel x && Key_.eqb (of x) k)) := fun k => by unfold met; simp
    rw [evK, List.mem_append, evK_mem bg r (pre ++ [x]) e, em]
    constructor
    · rintro (h | ⟨⟨y, h1, h2, h3⟩, h4, h5⟩)
      · cases hs : sel x && !(met of sel (of x) pre) with
        | false => rw [hs] at h; cases h
        | true =>
          rw [hs, cond_true, List.mem_singleton] at h
          subst h
          rw [Bool.and_eq_true, Bool.not_eq_true'] at hs
          exact ⟨⟨x, List.mem_cons_self, hs.1, rfl⟩, hs.2, rfl⟩
      · rw [Bool.or_eq_false_iff] at h4
        exact ⟨⟨y, List.mem_cons_of_mem _ h1, h2, h3⟩, h4.1, h5⟩
    · rintro ⟨⟨y, h1, h2, h3⟩, h4, h5⟩
      by_cases hx : sel x = true ∧ of x = e.1
      · refine .inl ?_
        rw [hx.2, hx.1, h4]
        show e ∈ [(e.1, gK e.1 (addN of sel bg []))]
        rw [List.mem_singleton]
        exact Prod.ext rfl h5
      · refine .inr ⟨⟨y, ?_, h2, h3⟩, ?_, h5⟩
        · rcases List.mem_cons.1 h1 with rfl | h1
          · exact absurd ⟨h2, h3⟩ hx
          · exact h1
        · rw [h4, Bool.false_or]
          cases hs : sel x with
          | false => rfl
          | true => rw [eF key_iff fun k => hx ⟨hs, k⟩]; rfl
theorem evK_nd (bg : List NF) : ∀ (l pre : List NF), ndK (evK of sel bg pre l)
  | [], pre => List.Pairwise.nil
  | x :: r, pre => by
    rw [evK]
    cases hs : sel x && !(met of sel (of x) pre) with
    | false => exact evK_nd bg r _
    | true =>
      rw [cond_true]
      refine List.pairwise_cons.2 ⟨fun e he k => ?_, evK_nd bg r _⟩
      rw [Bool.and_eq_true] at hs
      have := ((evK_mem of sel bg r _ e).1 he).2.1
      unfold met at this
      rw [List.any_append, Bool.or_eq_false_iff] at this
      have h2 := this.2
      have k' : of x = e.1 := k
      rw [← k', List.any_cons, List.any_nil, Bool.or_false, hs.1, eRefl key_iff] at h2
      cases h2
theorem evK_perm (l : List NF) : (evK of sel l [] l).Perm (addN of sel l []) := by
  refine nodup_perm ((evK_nd of sel l l []).imp fun k e => k (by rw [e])) ((addN_nd of sel l List.Pairwise.nil).imp fun k e => k (by rw [e])) fun e => ?_
  rw [evK_mem]
  constructor
  · rintro ⟨⟨x, h1, h2, h3⟩, _, h5⟩
    obtain ⟨g, k1, k2⟩ := addN_has (of := of) (m := []) h2 h1
    have k3 := mgetMem key_iff (z := (0 : Int)) (k := g.1) (v := g.2) (addN_nd of sel l List.Pairwise.nil) k1
    have k4 : g.2 = gK g.1 (addN of sel l []) := k3.symm
    have : g = e := Prod.ext (k2.trans h3) (by rw [k4, h5, k2.trans h3])
    rw [← this]; exact k1
  · intro h
    have k3 := mgetMem key_iff (z := (0 : Int)) (k := e.1) (v := e.2) (addN_nd of sel l List.Pairwise.nil) h
    rcases addN_key (of := of) (sel := sel) ⟨e, h, rfl⟩ with ⟨g, h1, _⟩ | ⟨x, h1, h2, h3⟩
    · cases h1
    · exact ⟨⟨x, h1, h2, h3⟩, rfl, k3.symm⟩
end
end Go.Proofs.Ytkcafackfihmiaa
namespace Go.Proofs.Ytkcafackfihmiaa
set_option linter.unusedVariables false
set_option linter.unusedSimpArgs false
open Go.RowKit
theorem fit_ways {s : List NS} {l : List NF} (h : OkN s l) {x : NF} (hx : x ∈ l) (hs : selP x = true) : ∃ y, agr x.Set s = some y ∧ pay y x = sgn x := by
  have hf := h.fits x hx
  unfold selP at hs
  rw [Bool.not_eq_true'] at hs
  unfold fitsS at hf
  rw [hs, Bool.false_or] at hf
  cases ha : agr x.Set s with
  | none => rw [ha] at hf; cases hf
  | some y =>
    rw [ha] at hf
    have hg := h.sg y (agr_mem ha).1
    unfold goodS at hg
    simp only [Bool.and_eq_true] at hg
    have hlt := hg.2.2.2
    refine ⟨y, rfl, ?_⟩
    simp only [Bool.or_eq_true, Bool.and_eq_true] at hf
    rcases hf with ⟨h1, h2⟩ | ⟨h1, h2⟩
    · have e1 := seq_iff.1 h1
      have e2 := seq_iff.1 h2
      unfold sgn pay; rw [← e1, ← e2, hlt, seq_refl]
    · have e1 := seq_iff.1 h1
      have e2 := seq_iff.1 h2
      unfold sgn pay; rw [← e1, ← e2, slt_asymm hlt, seqF (sltNe hlt).symm]
theorem sF_filter (w : NF → Int) (p : NF → Bool) : ∀ l : List NF, sF w (l.filter p) = sF (fun x => bif p x then w x else 0) l
  | [] => rfl
  | x :: r => by
    rw [List.filter_cons, sF, ← sF_filter w p r]
    cases p x with
    | true => simp [sF]
    | false => simp
section
variable (of : NF → Key_) (sel : NF → Bool) (mk : Key_ × Int → NF)
theorem made_app (a b : KM) : made mk (a ++ b) = made mk a ++ made mk b := by simp [made]
theorem made_nil : made mk [] = [] := rfl
theorem made_one (e : Key_ × Int) : made mk [e] = bif decide (e.2 = 0) then [] else [mk e] := by
  rw [made_cons, made_nil, List.append_nil]
def evs (bg : List NF) : List NF → List NF → List NF
  | _, [] => []
  | pre, x :: r => (bif sel x then (bif met of sel (of x) pre then [] else made mk [(of x, gK (of x) (addN of sel bg []))]) else [x]) ++ evs bg (pre ++ [x]) r
def mds (bg : List NF) : List NF → List NF → List NF
  | _, [] => []
  | pre, x :: r => (bif sel x && !(met of sel (of x) pre) then made mk [(of x, gK (of x) (addN of sel bg []))] else []) ++ mds bg (pre ++ [x]) r
theorem mds_eq (bg : List NF) : ∀ l pre : List NF, mds of sel mk bg pre l = made mk (evK of sel bg pre l)
  | [], pre => rfl
  | x :: r, pre => by
    rw [mds, evK, made_app, mds_eq bg r]
    cases sel x && !(met of sel (of x) pre) <;> rfl
variable {sel mk of}
theorem evs_free {sl : NF → Bool} (hsl : ∀ x, sel x = sl x) (hmk : ∀ x n, sel x = true → sl (mk (of x, n)) = true) (bg : List NF) : ∀ l pre : List NF, (evs of sel mk bg pre l).filter (fun x => !sl x) = restN sel l
  | [], pre => rfl
  | x :: r, pre => by
    rw [evs, List.filter_append, evs_free hsl hmk bg r, restN]
    cases hs : sel x with
    | false => simp [← hsl, hs]
    | true =>
      simp only [cond_true]
      cases met of sel (of x) pre with
      | true => simp
      | false =>
        rw [cond_false, made_one]
        cases decide ((of x, gK (of x) (addN of sel bg [])).2 = 0) with
        | true => simp
        | false => simp [hmk x _ hs]
theorem evs_sel (hmk : ∀ x n, sel x = true → sel (mk (of x, n)) = true) (bg : List NF) : ∀ l pre : List NF, (evs of sel mk bg pre l).filter sel = made mk (evK of sel bg pre l)
  | [], pre => rfl
  | x :: r, pre => by
    rw [evs, List.filter_append, evs_sel hmk bg r, evK, made_app]
    congr 1
    cases hs : sel x with
    | false => simp [hs, made_nil]
    | true =>
      simp only [cond_true, Bool.true_and]
      cases met of sel (of x) pre with
      | true => simp [made_nil]
      | false =>
        simp only [cond_false, Bool.not_false, cond_true, made_one]
        cases decide ((of x, gK (of x) (addN of sel bg [])).2 = 0) with
        | true => simp
        | false => simp [hmk x _ hs]
end
theorem stayC {x y : List NF} (hy : y.Perm (x.filter selP)) (hn : y.Pairwise fun a b => eqv ltO a b = false) : sortO (restN selP x ++ y) = sortO x := by
  have sel_eq : ∀ {k z : NF}, eqv ltO k z = true → selP z = selP k := fun {k z} e => by
    obtain ⟨_, h2, _⟩ := cO_zero.1 (cO_cmp.eqv.1 e)
    unfold selP; rw [h2]
  have hc : Cl ltO (restN selP x ++ y) x := by
    refine ⟨?_, fun k => ?_⟩
    · rw [restN_eq]
      have := (List.filter_append_perm selP x).symm
      refine this.trans (List.perm_append_comm.trans ((List.Perm.refl _).append hy.symm))
    · rw [List.filter_append, restN_eq, List.filter_filter]
      cases hk : selP k with
      | false =>
        have e1 : y.filter (eqv ltO k) = [] := List.filter_eq_nil_iff.2 fun z hz e => by
          have := (List.mem_filter.1 (hy.mem_iff.1 hz)).2
          rw [sel_eq e, hk] at this; cases this
        rw [e1, List.append_nil]
        refine List.filter_congr fun z hz => ?_
        cases e : eqv ltO k z with
        | false => rfl
        | true => rw [sel_eq e, hk]; rfl
      | true =>
        have e1 : x.filter (fun a => eqv ltO k a && !selP a) = [] := List.filter_eq_nil_iff.2 fun z hz e => by
          rw [Bool.and_eq_true] at e
          rw [sel_eq e.1, hk] at e; cases e.2
        rw [e1, List.nil_append]
        have e2 : x.filter (eqv ltO k) = (x.filter selP).filter (eqv ltO k) := by
          rw [List.filter_filter]
          refine List.filter_congr fun z hz => ?_
          cases e : eqv ltO k z with
          | false => rfl
          | true => rw [sel_eq e, hk]; rfl
        rw [e2]
        exact (Cl.of_perm hy.symm hn swo_O).2 k
  exact (sortS_of swo_O (sortS_sd swo_O x) (hc.trans (sortS_cl swo_O x))).symm
section
variable (i : Nat) (hit : NF → Bool)
def flg : List NF → Bool → Nat → Bool
  | [], b, _ => b
  | y :: r, b, j => flg r (bif hit y then b && decide (i ≤ j) else b) (j + 1)
theorem flg_eq : ∀ (r : List NF) (b : Bool) (j : Nat), flg i hit r b j = (b && !((r.take (i - j)).any hit))
  | [], b, j => by simp [flg]
  | y :: r, b, j => by
    rw [flg, flg_eq r]
    by_cases h : i ≤ j
    · rw [show i - (j + 1) = 0 by omega, show i - j = 0 by omega, decide_eq_true h]
      cases hit y <;> cases b <;> rfl
    · rw [show i - j = (i - (j + 1)) + 1 by omega, List.take_succ_cons, List.any_cons, decide_eq_false h]
      cases hit y <;> cases b <;> simp
end
theorem flg_start {l pre r : List NF} {x : NF} (h : l = pre ++ x :: r) (hit : NF → Bool) : flg pre.length hit l true 0 = !(pre.any hit) := by
  rw [flg_eq, h]; simp

def hitP (x y : NF) : Bool := decide (y.Date = x.Date) && (seq y.Set x.Set && seq y.Ccy x.Ccy)
theorem hitP_eq {x : NF} (hx : selP x = true) (y : NF) : hitP x y = (selP y && Key_.eqb (kP y) (kP x)) := by
  unfold hitP Key_.eqb kP
  cases h : seq y.Set x.Set with
  | false => simp [h]
  | true =>
    have : selP y = true := by rw [← hx]; unfold selP; rw [seq_iff.1 h]
    rw [this]
    simp [h]
theorem f18n4L_at (s : List NS) {l : List NF} (out : List NF) {i : Nat} {x : NF} (hx : at? l (i : Int) = some x) : ∀ (r : List NF) (b : Bool) (j : Nat) (o : List NF), o.length + r.length ≤ 1000 → f18n4L s l out (i : Int) r b (j : Int) o = some (.exit2 (flg i (hitP x) r b j) (o ++ r.filter (hitP x)))
  | [], b, j, o, _ => by simp [f18n4L, flg]
  | y :: r, b, j, o, hl => by
    simp only [List.length_cons] at hl
    have ih := fun b' o' => f18n4L_at s out hx r b' (j + 1) o'
    have ej : ((j + 1 : Nat) : Int) = (j : Int) + 1 := by omega
    rw [ej] at ih
    rw [f18n4L, hx, flg, List.filter_cons]
    simp only [Option.bind_some]
    rw [show decide ((i : Int) ≤ (j : Int)) = decide (i ≤ j) by congr 1; apply propext; omega]
    have hh : hitP x y = (decide (y.Date = x.Date) && (seq y.Set x.Set && seq y.Ccy x.Ccy)) := rfl
    rw [hh]
    cases decide (y.Date = x.Date) with
    | false => simpa using ih b o (by omega)
    | true =>
      cases seq y.Set x.Set with
      | false => simpa using ih b o (by omega)
      | true =>
        cases seq y.Ccy x.Ccy with
        | false => simpa using ih b o (by omega)
        | true =>
          simp only [cond_true, req, fitSmall (n := o.length + 1) (by omega) (by omega : 80 ≤ 1000000), Bool.and_self]
          cases b with
          | true => simpa using ih (decide (i ≤ j)) (o ++ [y]) (by simp; omega)
          | false => simpa using ih false (o ++ [y]) (by simp; omega)
theorem f18n3_eq (s : List NS) {l pre r : List NF} (out : List NF) {x : NF} (h : l = pre ++ x :: r) (hl : l.length ≤ 500) (hs : selP x = true) : f18n3 s l out (pre.length : Int) = some (.norm (!(met kP selP (kP x) pre)) (grp kP selP (kP x) l)) := by
  have hx : at? l ((pre.length : Nat) : Int) = some x := at_len h rfl
  have e := f18n4L_at s out hx l true 0 [] (by simp; omega)
  unfold f18n3
  rw [f18n4_run s l out _ true [] (maxSmall (by omega))]
  have e' : f18n4L s l out ((pre.length : Nat) : Int) l true 0 [] = _ := e
  rw [e', flg_start h, List.nil_append]
  have hh : hitP x = fun y => selP y && Key_.eqb (kP y) (kP x) := funext fun y => hitP_eq hs y
  unfold met grp
  rw [hh]; rfl
theorem pay_grp {s : List NS} {l : List NF} (h : OkN s l) {x : NF} (hx : x ∈ l) (hs : selP x = true) {of : NF → Key_} {sel : NF → Bool} (k : Key_) (hset : ∀ y ∈ l, sel y = true → Key_.eqb (of y) k = true → selP y = true ∧ y.Set = x.Set) : sF (pay (agrD s x.Set)) (grp of sel k l) = gK k (addN of sel l []) := by
  have e0 : gK k [] = 0 := rfl
  rw [addN_get, e0, Int.zero_add]
  unfold grp
  rw [sF_filter]
  refine sF_ext fun y hy => ?_
  unfold wK
  cases e1 : sel y with
  | false => rfl
  | true =>
    cases e2 : Key_.eqb (of y) k with
    | false => rfl
    | true =>
      obtain ⟨g1, g2⟩ := hset y hy e1 e2
      obtain ⟨a, g3, g4⟩ := fit_ways h hy g1
      have : agrD s x.Set = a := by unfold agrD; rw [← g2, g3]; rfl
      simp only [Bool.and_self, cond_true]
      rw [this, g4]
theorem grp_ok {l : List NF} (hg : ∀ x ∈ l, goodF x = true) (hl : l.length ≤ 500) (of : NF → Key_) (sel : NF → Bool) (k : Key_) : (∀ x ∈ grp of sel k l, goodF x = true) ∧ (grp of sel k l).length ≤ 500 :=
  ⟨fun x hx => hg x (List.mem_filter.1 hx).1, Nat.le_trans (List.length_filter_le _ _) hl⟩
theorem agrD_name {s : List NS} {l : List NF} (h : OkN s l) {x : NF} (hx : x ∈ l) (hs : selP x = true) : (agrD s x.Set).Name = x.Set := by
  obtain ⟨a, g1, _⟩ := fit_ways h hx hs
  unfold agrD
  rw [g1]
  exact (agr_mem g1).2
theorem agrE_D (s : List NS) (n : ByteArray) : (agrE s n).1 = agrD s n := by unfold agrD agrE; cases agr n s <;> rfl
theorem f18n2_eq {s : List NS} {l pre r : List NF} {x : NF} (h : OkN s l) (hd : l = pre ++ x :: r) (o : List NF) (ho : o.length ≤ 500) :
    f18n2 s l (sortO o) (pre.length : Int) = some (bif !(selP x && !(met kP selP (kP x) pre)) || okAmt (gK (kP x) (sumsP l)) then .norm (sortO (o ++ (bif selP x then (bif met kP selP (kP x) pre then [] else made (mkP s) [(kP x, gK (kP x) (sumsP l))]) else [x]))) else .ret 14) := by
  have hx : at? l ((pre.length : Nat) : Int) = some x := at_len hd rfl
  have hm : x ∈ l := by rw [hd]; simp
  have hlen : (sortO o).length ≤ 2000 := by unfold sortO; rw [sortS_len swo_O]; omega
  unfold f18n2
  rw [hx]
  simp only [Option.bind_some]
  cases hs : selP x with
  | false =>
    have : seq x.Set str_x = true := by unfold selP at hs; rwa [Bool.not_eq_false'] at hs
    rw [this, cond_true, f43_eq x hlen, putR_sort]; rfl
  | true =>
    have : seq x.Set str_x = false := by unfold selP at hs; rwa [Bool.not_eq_true'] at hs
    rw [this, cond_false, f18n3_eq s (sortO o) hd h.len hs]
    simp only [Option.bind_some, Bool.true_and, Bool.not_not, cond_true]
    cases met kP selP (kP x) pre with
    | true => simp
    | false =>
      have hn := pay_grp h hm hs (of := kP) (sel := selP) (kP x) fun y hy e1 e2 => ⟨e1, by
        have := (key_iff _ _).1 e2
        exact congrArg Key_.set this⟩
      obtain ⟨g1, g2⟩ := grp_ok h.good h.len kP selP (kP x)
      simp only [Bool.not_false, cond_true, cond_false, Bool.false_or]
      rw [f44_eq (maxSmall (by have := h.sl; omega))]
      simp only [Option.bind_some]
      rw [agrE_D, f45_eq _ g1 g2, hn, agrD_name h hm hs]
      show _ = some (bif okAmt (gK (kP x) (sumsP l)) then _ else _)
      have e9 : gK (kP x) (addN kP selP l []) = gK (kP x) (sumsP l) := rfl
      rw [e9]
      generalize gK (kP x) (sumsP l) = n
      cases okAmt n with
      | false => rfl
      | true =>
        simp only [cond_true, Option.bind_some, decide_true, made_one]
        cases decide (n = 0) with
        | true => simp
        | false =>
          simp only [Bool.not_false, cond_true, cond_false]
          rw [f43_eq _ hlen, putR_sort]; rfl
theorem f18n5_at {s : List NS} {l : List NF} (h : OkN s l) : ∀ (r pre : List NF) (f : Nat) (o : List NF), l = pre ++ r → r.length < f → o.length ≤ pre.length →
    f18n5 f s l (sortO o) (pre.length : Int) = some (bif (evK kP selP l pre r).all (fun e => okAmt e.2) then .exit0 (sortO (o ++ evs kP selP (mkP s) l pre r)) else .ret 14)
  | _, _, 0, _, _, h, _ => absurd h (Nat.not_lt_zero _)
  | [], pre, f + 1, o, hd, _, _ => by
    rw [f18n5, decide_eq_false (by rw [hd]; simp), cond_false]
    simp [evK, evs]
  | x :: r, pre, f + 1, o, hd, hf, ho => by
    have hp : pre.length < l.length := by rw [hd]; simp
    have hl := h.len
    have ih := fun o' => f18n5_at h r (pre ++ [x]) f o' (by rw [hd]; simp) (by simpa using hf)
    rw [f18n5, decide_eq_true (by omega), cond_true, f18n2_eq h hd o (by omega), evK, evs, List.all_append]
    simp only [List.length_append] at ih
    rw [show ((pre.length + [x].length : Nat) : Int) = wr64 ((pre.length : Int) + 1) by rw [wrSucc (by omega)]; rfl] at ih
    have e9 : gK (kP x) (addN kP selP l []) = gK (kP x) (sumsP l) := rfl
    rw [e9]
    generalize hn : gK (kP x) (sumsP l) = n
    cases hs : selP x with
    | false =>
      simp only [Bool.false_and, Bool.not_false, Bool.true_or, cond_true, cond_false, Option.bind_some, List.all_nil, Bool.true_and]
      rw [ih _ (by simp; omega), List.append_assoc]
    | true =>
      cases hmet : met kP selP (kP x) pre with
      | true =>
        simp only [Bool.not_true, Bool.and_false, Bool.not_false, Bool.true_or, cond_true, cond_false, Option.bind_some, List.all_nil, Bool.true_and]
        rw [ih _ (by simp; omega), List.append_assoc]
      | false =>
        simp only [Bool.not_false, Bool.and_self, Bool.not_true, Bool.false_or, cond_true, cond_false, List.all_cons, List.all_nil, Bool.and_true]
        cases okAmt n with
        | false => rfl
        | true =>
          simp only [cond_true, Option.bind_some, Bool.true_and]
          have hm1 : (made (mkP s) [(kP x, n)]).length ≤ 1 := made_len _ _
          rw [ih _ (by simp; omega), List.append_assoc]
theorem mkP_sel {s : List NS} {x : NF} {n : Int} (hs : selP x = true) : selP (mkP s (kP x, n)) = true := by
  have := mk1_key (kP x) (agrD s (kP x).set).First (agrD s (kP x).set).Second n
  have h2 : (mkP s (kP x, n)).Set = x.Set := congrArg Key_.set this
  unfold selP at hs ⊢
  rw [h2]; exact hs
theorem evs_sort (s : List NS) (l : List NF) : sortO (evs kP selP (mkP s) l [] l) = sortO (restN selP l ++ madeP s l) := by
  have h1 := evs_sel (of := kP) (sel := selP) (mk := mkP s) (fun x n h => mkP_sel h) l l []
  have h2 := evs_free (of := kP) (sel := selP) (mk := mkP s) (sl := selP) (fun _ => rfl) (fun x n h => mkP_sel h) l l []
  have hp : (made (mkP s) (evK kP selP l [] l)).Perm (made (mkP s) (sumsP l)) := made_perm (mkP s) (evK_perm kP selP l)
  have hn : (made (mkP s) (sumsP l)).Pairwise fun a b => eqv ltO a b = false := made_key (mkP s) (fun e => mk1_key _ _ _ _) (addN_nd kP selP l List.Pairwise.nil)
  have hn' : (madeP s l).Pairwise fun a b => eqv ltO a b = false := ((sortS_cl swo_O _).1.symm.pairwise_iff (fun {a b} e => by
    cases f : eqv ltO b a with
    | false => rfl
    | true => rw [eqv_symm f] at e; cases e)).1 hn
  have := stayC (x := evs kP selP (mkP s) l [] l) (y := madeP s l) (by rw [h1]; exact (sortS_cl swo_O _).1.trans hp.symm) hn'
  rw [restN_eq, h2] at this
  exact this.symm
theorem ok_perm (of : NF → Key_) (sel : NF → Bool) (l : List NF) : (evK of sel l [] l).all (fun e => okAmt e.2) = (addN of sel l []).all fun e => okAmt e.2 := (evK_perm of sel l).all_eq
theorem f18_eq {s : List NS} (hs : s.length ≤ maxLen) {l : List NF} (hl : l.length ≤ 1000) : f18 s l = some (pairsS s l) := by
  unfold f18 f18n0 pairsS
  rw [f22_eq hs hl]
  cases hc : checkN s l with
  | false => rfl
  | true =>
    have h := checkN_iff hc
    have h5 := f18n5_at h l [] FUEL [] rfl (fuelSmall (by have := h.len; omega)) (Nat.le_refl _)
    have h5' : f18n5 FUEL s l [] 0 = _ := h5
    unfold f18n1
    rw [h5', ok_perm, List.nil_append, evs_sort]
    have e : okSums l = (addN kP selP l []).all fun e => okAmt e.2 := rfl
    rw [e]
    cases (addN kP selP l []).all fun e => okAmt e.2 <;> rfl

def hitC (t : ByteArray) (d : Int) (x y : NF) : Bool := seq y.Set t && (decide (d ≤ y.Date) && seq y.Ccy x.Ccy)
theorem hitC_eq (t : ByteArray) (d : Int) (x y : NF) : hitC t d x y = (selC d t y && Key_.eqb (kC d t y) (kC d t x)) := by
  unfold hitC selC Key_.eqb kC
  simp only [decide_true, seq_refl, Bool.true_and]
  cases seq y.Set t <;> cases decide (d ≤ y.Date) <;> rfl
theorem f20n4L_at {l : List NF} (t : ByteArray) (d : Int) (out : List NF) (br : NS × Bool) (rest : List NF) {i : Nat} {x : NF} (hx : at? l (i : Int) = some x) : ∀ (r : List NF) (b : Bool) (j : Nat) (o : List NF), o.length + r.length ≤ 1000 → f20n4L l t d out (i : Int) br rest r b (j : Int) o = some (.exit2 (flg i (hitC t d x) r b j) (o ++ r.filter (hitC t d x)))
  | [], b, j, o, _ => by simp [f20n4L, flg]
  | y :: r, b, j, o, hl => by
    simp only [List.length_cons] at hl
    have ih := fun b' o' => f20n4L_at t d out br rest hx r b' (j + 1) o'
    have ej : ((j + 1 : Nat) : Int) = (j : Int) + 1 := by omega
    rw [ej] at ih
    rw [f20n4L, hx, flg, List.filter_cons]
    simp only [Option.bind_some]
    rw [show decide ((i : Int) ≤ (j : Int)) = decide (i ≤ j) by congr 1; apply propext; omega]
    have hh : hitC t d x y = (seq y.Set t && (decide (d ≤ y.Date) && seq y.Ccy x.Ccy)) := rfl
    rw [hh]
    cases seq y.Set t with
    | false => simpa using ih b o (by omega)
    | true =>
      cases decide (d ≤ y.Date) with
      | false => simpa using ih b o (by omega)
      | true =>
        cases seq y.Ccy x.Ccy with
        | false => simpa using ih b o (by omega)
        | true =>
          simp only [cond_true, req, fitSmall (n := o.length + 1) (by omega) (by omega : 80 ≤ 1000000), Bool.and_self]
          cases b with
          | true => simpa using ih (decide (i ≤ j)) (o ++ [y]) (by simp; omega)
          | false => simpa using ih false (o ++ [y]) (by simp; omega)
theorem f20n3_eq {l pre r : List NF} (t : ByteArray) (d : Int) (out : List NF) (br : NS × Bool) (rest : List NF) {x : NF} (h : l = pre ++ x :: r) (hl : l.length ≤ 500) : f20n3 l t d out (pre.length : Int) br rest = some (.norm (!(met (kC d t) (selC d t) (kC d t x) pre)) (grp (kC d t) (selC d t) (kC d t x) l)) := by
  have hx : at? l ((pre.length : Nat) : Int) = some x := at_len h rfl
  have e := f20n4L_at t d out br rest hx l true 0 [] (by simp; omega)
  unfold f20n3
  rw [f20n4_run l t d out _ br rest true [] (maxSmall (by omega))]
  have e' : f20n4L l t d out ((pre.length : Nat) : Int) br rest l true 0 [] = _ := e
  rw [e', flg_start h, List.nil_append]
  have hh : hitC t d x = fun y => selC d t y && Key_.eqb (kC d t y) (kC d t x) := funext fun y => hitC_eq t d x y
  unfold met grp
  rw [hh]; rfl
section
variable {s : List NS} {l : List NF} (h : OkN s l) {t : ByteArray} {d : Int} (ht : seq t str_x = false)
include h ht
theorem f20n2_eq {pre r : List NF} {x : NF} (hd : l = pre ++ x :: r) (b : Bool) (o rest : List NF) (ho : o.length ≤ 500) (hr : rest.length ≤ 500) :
    f20n2 l t d (sortO o) (pre.length : Int) (agrD s t, b) rest = some (bif !(selC d t x && !(met (kC d t) (selC d t) (kC d t x) pre)) || okAmt (gK (kC d t x) (sumsC d t l)) then .norm (sortO (o ++ (bif selC d t x && !(met (kC d t) (selC d t) (kC d t x) pre) then made (mkP s) [(kC d t x, gK (kC d t x) (sumsC d t l))] else []))) (rest ++ (bif selC d t x then [] else [x])) else .ret 14) := by
  have hx : at? l ((pre.length : Nat) : Int) = some x := at_len hd rfl
  have hm : x ∈ l := by rw [hd]; simp
  have hlen : (sortO o).length ≤ 2000 := by unfold sortO; rw [sortS_len swo_O]; omega
  have hfit : fit (rest.length + 1) 80 = true := fitSmall (by omega) (by omega)
  unfold f20n2
  rw [hx]
  simp only [Option.bind_some]
  cases e1 : seq x.Set t with
  | false =>
    have : selC d t x = false := by unfold selC; rw [e1]; rfl
    rw [this, cond_false, req, hfit]
    simp
  | true =>
    rw [cond_true]
    by_cases e2 : x.Date < d
    · have : selC d t x = false := by unfold selC; rw [e1, decide_eq_false (by omega : ¬ d ≤ x.Date)]; rfl
      rw [this, decide_eq_true e2, cond_true, req, hfit]
      simp
    · have hsC : selC d t x = true := by unfold selC; rw [e1, decide_eq_true (by omega : d ≤ x.Date)]; rfl
      have hset : x.Set = t := seq_iff.1 e1
      have hs : selP x = true := by unfold selP; rw [hset, ht]; rfl
      rw [decide_eq_false e2, cond_false, f20n3_eq t d (sortO o) (agrD s t, b) rest hd h.len, hsC]
      simp only [Option.bind_some, Bool.true_and, Bool.not_not, cond_true, List.append_nil]
      cases met (kC d t) (selC d t) (kC d t x) pre with
      | true => simp
      | false =>
        have hn := pay_grp h hm hs (of := kC d t) (sel := selC d t) (kC d t x) fun y hy e3 _ => by
          have : y.Set = t := by unfold selC at e3; rw [Bool.and_eq_true] at e3; exact seq_iff.1 e3.1
          exact ⟨by unfold selP; rw [this, ht]; rfl, by rw [this, hset]⟩
        obtain ⟨g1, g2⟩ := grp_ok h.good h.len (kC d t) (selC d t) (kC d t x)
        rw [hset] at hn
        have hnm := agrD_name h hm hs
        rw [hset] at hnm
        simp only [Bool.not_false, cond_true, cond_false, Bool.false_or]
        rw [f45_eq _ g1 g2, hn, hnm]
        have e9 : gK (kC d t x) (addN (kC d t) (selC d t) l []) = gK (kC d t x) (sumsC d t l) := rfl
        rw [e9]
        generalize gK (kC d t x) (sumsC d t l) = n
        cases okAmt n with
        | false => rfl
        | true =>
          simp only [cond_true, Option.bind_some, decide_true, made_one]
          cases decide (n = 0) with
          | true => simp
          | false =>
            simp only [Bool.not_false, cond_true, cond_false]
            rw [f43_eq _ hlen, putR_sort]; rfl
theorem f20n5_at (b : Bool) : ∀ (r pre : List NF) (f : Nat) (o rest : List NF), l = pre ++ r → r.length < f → o.length ≤ pre.length → rest.length ≤ pre.length →
    f20n5 f l t d (agrD s t, b) (sortO o) (pre.length : Int) rest = some (bif (evK (kC d t) (selC d t) l pre r).all (fun e => okAmt e.2) then .exit0 (sortO (o ++ mds (kC d t) (selC d t) (mkP s) l pre r)) (rest ++ restN (selC d t) r) else .ret 14)
  | _, _, 0, _, _, _, h, _, _ => absurd h (Nat.not_lt_zero _)
  | [], pre, f + 1, o, rest, hd, _, _, _ => by
    rw [f20n5, decide_eq_false (by rw [hd]; simp), cond_false]
    simp [evK, mds, restN]
  | x :: r, pre, f + 1, o, rest, hd, hf, ho, hr => by
    have hp : pre.length < l.length := by rw [hd]; simp
    have hl := h.len
    have ih := fun o' r' => f20n5_at b r (pre ++ [x]) f o' r' (by rw [hd]; simp) (by simpa using hf)
    rw [f20n5, decide_eq_true (by omega), cond_true, f20n2_eq h ht hd b o rest (by omega) (by omega), evK, mds, List.all_append, restN]
    simp only [List.length_append] at ih
    rw [show ((pre.length + [x].length : Nat) : Int) = wr64 ((pre.length : Int) + 1) by rw [wrSucc (by omega)]; rfl] at ih
    have e9 : gK (kC d t x) (addN (kC d t) (selC d t) l []) = gK (kC d t x) (sumsC d t l) := rfl
    rw [e9]
    generalize hn : gK (kC d t x) (sumsC d t l) = n
    cases hs : selC d t x with
    | false =>
      simp only [Bool.false_and, Bool.not_false, Bool.true_or, cond_true, cond_false, Option.bind_some, List.all_nil, Bool.true_and, List.nil_append, List.append_nil]
      rw [ih _ _ (by simp; omega) (by simp; omega), List.append_assoc]; rfl
    | true =>
      cases hmet : met (kC d t) (selC d t) (kC d t x) pre with
      | true =>
        simp only [Bool.not_true, Bool.and_false, Bool.not_false, Bool.true_or, cond_true, cond_false, Option.bind_some, List.all_nil, Bool.true_and, List.nil_append, List.append_nil]
        rw [ih _ _ (by omega) (by omega)]
      | false =>
        simp only [Bool.not_false, Bool.and_self, Bool.not_true, Bool.false_or, cond_true, cond_false, List.all_cons, List.all_nil, Bool.and_true, List.append_nil]
        cases okAmt n with
        | false => rfl
        | true =>
          simp only [cond_true, Option.bind_some, Bool.true_and]
          have hm1 : (made (mkP s) [(kC d t x, n)]).length ≤ 1 := made_len _ _
          rw [ih _ _ (by simp; omega) (by omega), List.append_assoc]
end
theorem f20_eq {s : List NS} (hs : s.length ≤ maxLen) {l : List NF} (hl : l.length ≤ 1000) (t : ByteArray) (d : Int) : f20 s l t d = some (closeS s l t d) := by
  unfold f20 f20n0 closeS
  rw [f22_eq hs hl]
  cases hc : checkN s l with
  | false => rfl
  | true =>
    have h := checkN_iff hc
    simp only [cond_true, Option.bind_some, decide_true]
    rw [f44_eq hs]
    simp only [Option.bind_some]
    cases ha : (agrE s t).2 with
    | false => rfl
    | true =>
      have ht : seq t str_x = false := by
        unfold agrE at ha
        cases hg : agr t s with
        | none => rw [hg] at ha; cases ha
        | some y =>
          obtain ⟨g1, g2⟩ := agr_mem hg
          have := h.sg y g1
          unfold goodS at this
          rw [Bool.and_eq_true, g2] at this
          exact seqF (nm_ne this.1)
      simp only [cond_true]
      by_cases d1 : d < 0
      · rw [decide_eq_true d1, decide_eq_false (by omega : ¬ 0 ≤ d)]; rfl
      · by_cases d2 : 99999 < d
        · rw [decide_eq_false d1, decide_eq_true d2, decide_eq_false (by omega : ¬ d ≤ 99999), Bool.and_false]; rfl
        · rw [decide_eq_false d1, decide_eq_false d2, decide_eq_true (by omega : 0 ≤ d), decide_eq_true (by omega : d ≤ 99999)]
          have h5 := f20n5_at (d := d) h ht (agrE s t).2 l [] FUEL [] [] rfl (fuelSmall (by have := h.len; omega)) (Nat.le_refl _) (Nat.le_refl _)
          rw [← agrE_D] at h5
          have h5' : f20n5 FUEL l t d (agrE s t) [] 0 [] = _ := h5
          have e1 : sortO (mds (kC d t) (selC d t) (mkP s) l [] l) = madeC s d t l := by
            rw [mds_eq]
            exact sort_perm (made_perm (mkP s) (evK_perm (kC d t) (selC d t) l)) (made_key (mkP s) (fun e => mk1_key _ _ _ _) (addN_nd (kC d t) (selC d t) l List.Pairwise.nil)) swo_O
          unfold f20n1
          rw [h5', ok_perm, List.nil_append, List.nil_append, e1]
          have e : okC d t l = (addN (kC d t) (selC d t) l []).all fun e => okAmt e.2 := rfl
          rw [e]
          have hM := madeC_len s d t l
          have hR := restN_len (selC d t) l
          cases (addN (kC d t) (selC d t) l []).all fun e => okAmt e.2 with
          | false => rfl
          | true =>
            simp only [cond_false, cond_true, Option.bind_some, Bool.and_self]
            cases hp : madeC s d t l with
            | nil => simp
            | cons y r =>
              rw [hp] at hM
              simp only [List.isEmpty_cons, cond_false]
              rw [req, fitSmall (by omega) (by omega), cond_true]; rfl

theorem eqbS_refl (x : NS) : NettingSet.eqb x x = true := by simp [NettingSet.eqb, seq_refl]
theorem f5n4L_at {s : List NS} (l : List NF) (b : Bool) (o : List NF) : ∀ r pre : List NS, s = pre ++ r → f5n4L s l b o s r true (pre.length : Int) = some (.exit0 true)
  | [], pre, _ => rfl
  | x :: r, pre, h => by
    have ih := f5n4L_at (s := s) l b o r (pre ++ [x]) (by rw [h]; simp)
    rw [f5n4L, at_len h rfl]
    simp only [cond_true, Option.bind_some, eqbS_refl]
    rw [List.length_append] at ih
    exact ih
theorem pairsS_len (s : List NS) (l : List NF) : (pairsS s l).1.length ≤ 1000 := by
  unfold pairsS
  cases hc : checkN s l with
  | false => simp
  | true =>
    have h := checkN_iff hc
    have := rest_made s l
    have := h.len
    cases okSums l with
    | false => simp
    | true =>
      simp only [cond_true]
      unfold sortO
      rw [sortS_len swo_O, List.length_append]; omega
theorem closeS_len (s : List NS) (l : List NF) (t : ByteArray) (d : Int) : (closeS s l t d).1.length ≤ 1000 := by
  unfold closeS
  cases hc : checkN s l with
  | false => simp
  | true =>
    have h := checkN_iff hc
    have h1 := madeC_len s d t l
    have h2 := restN_len (selC d t) l
    have := h.len
    cases (agrE s t).2 <;> cases decide (0 ≤ d) && decide (d ≤ 99999) <;> cases okC d t l <;> simp <;> omega
theorem lawMatches (s : List NettingSet) (l : List NettingFlow) (t : ByteArray) (d : Int) (hs : s.length ≤ maxLen ∧ ∀ x ∈ s, NettingSet.ok x) (hm : l.length ≤ maxLen ∧ ∀ x ∈ l, NettingFlow.ok x) (_ : t.size ≤ maxLen) (_ : okInt .i64 d) : f5 s l t d = some true := by
  unfold f5 f5n0
  rw [alive_t]
  obtain ⟨b, h1, h2⟩ := f12_eq s l
  rw [h1]
  simp only [Option.bind_some]
  cases b with
  | true => rfl
  | false =>
    obtain ⟨h3, h4⟩ := h2 rfl
    have k1 : f5n1 s l t d true = some (.norm l s) := by
      unfold f5n1
      rw [f14_eq (by omega)]
      cases s with
      | nil => rfl
      | cons y r =>
        simp only [Option.bind_some, List.isEmpty_cons, cond_false]
        rw [req, fitSmall (by omega) (by omega), cond_true]
    obtain ⟨r1, hr1⟩ := f25_any (l := (pairsS s l).1) (by have := pairsS_len s l; omega)
    obtain ⟨r2, hr2⟩ := f25_any (l := (closeS s l t d).1) (by have := closeS_len s l t d; omega)
    have k2 : f5n2 s l true ((pairsS s l).2, (pairsS s l).1) (pairsS s l) ((closeS s l t d).2, (closeS s l t d).1) (closeS s l t d) l s = some (.norm true) := by
      unfold f5n2
      rw [f17_same (a := (pairsS s l).1) rfl (by have := pairsS_len s l; omega), f17_same (a := (closeS s l t d).1) rfl (by have := closeS_len s l t d; omega), f21_eq s hm.1, f22_eq hs.1 (by omega), f23_eq, f24_eq]
      simp only [Option.bind_some, cond_true, decide_true]
    have k3 : f5n3 s l true true l s = some (.norm true) := by
      unfold f5n3
      have := f5n4L_at (s := s) l true l s [] rfl
      have this' : f5n4L s l true l s s true 0 = _ := this
      rw [f5n4_run s l true l s true hs.1, this']; rfl
    simp only [cond_false, cond_true, k1, Option.bind_some, f13_eq s hm.1, f18_eq hs.1 (by omega : l.length ≤ 1000), f19_eq s hm.1, f20_eq hs.1 (by omega : l.length ≤ 1000), k2, hr1, hr2, k3]
    rw [f17_same rfl (by omega)]
    rfl
end Go.Proofs.Ytkcafackfihmiaa
