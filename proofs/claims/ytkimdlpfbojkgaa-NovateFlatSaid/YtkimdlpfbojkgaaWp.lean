/- What a step that is taken changes: the book stays valid, and its legs. No condition. -/
import Derived.Test.YtkimdlpfbojkgaaW
namespace Go.Proofs.Ytkimdlpfbojkgaa
open Go.RowKit
theorem legs_split {l : List Trade} {i : Nat} {x : Trade} (hx : l[i]? = some x) :
    ∃ a b, legs l = a ++ ((if x.st = 1 then legs1 i x else []) ++ b) ∧ ∀ y : Trade, legs (l.set i y) = a ++ ((if y.st = 1 then legs1 i y else []) ++ b) := by
  obtain ⟨hi, he⟩ := List.getElem?_eq_some_iff.1 hx
  have hl : l = l.take i ++ x :: l.drop (i + 1) := by
    rw [← he, ← List.drop_eq_getElem_cons hi, List.take_append_drop]
  have ht : (l.take i).length = i := by rw [List.length_take]; omega
  refine ⟨legs (l.take i), ((l.drop (i + 1)).zipIdx (i + 1)).flatMap fun x => if x.1.st = 1 then legs1 x.2 x.1 else [], ?_, fun y => ?_⟩
  · conv => lhs; rw [hl]
    unfold legs
    rw [List.zipIdx_append, List.zipIdx_cons, List.flatMap_append, List.flatMap_cons, ht, Nat.zero_add]
  · rw [List.set_eq_take_append_cons_drop, if_pos hi]
    unfold legs
    rw [List.zipIdx_append, List.zipIdx_cons, List.flatMap_append, List.flatMap_cons, ht, Nat.zero_add]
theorem chk_set {l : List Trade} {i : Nat} {y : Trade} (h : chk l = 0) (hy : rightB y = true) : chk (l.set i y) = 0 := by
  have h1 := chk_ok h
  apply chk_of
  unfold checkB at h1 ⊢
  rw [List.length_set, and_l h1, Bool.true_and, List.all_eq_true]
  intro z hz
  rcases List.mem_or_eq_of_mem_set hz with h2 | h2
  · exact List.all_eq_true.1 (and_r h1) z h2
  · rw [h2]; exact hy
theorem chg_ok {f : Trade → Trade × Int} {l l2 : List Trade} {n : Int} (h : chg f l n = (l2, 0)) :
    chk l = 0 ∧ 1 ≤ n ∧ n ≤ (l.length : Int) ∧ ∃ x, l[(n - 1).toNat]? = some x ∧ (f x).2 = 0 ∧ l2 = l.set (n - 1).toNat (f x).1 := by
  unfold chg at h
  by_cases hc : chk l = 0
  · rw [if_pos hc] at h
    by_cases hn : n < 1 ∨ (l.length : Int) < n
    · rw [if_pos hn] at h; simp at h
    · rw [if_neg hn] at h
      have hlt : (n - 1).toNat < l.length := by omega
      rw [List.getElem?_eq_getElem hlt] at h
      simp only at h
      by_cases hf : (f l[(n - 1).toNat]).2 = 0
      · rw [if_pos hf] at h
        simp only [Prod.mk.injEq, and_true] at h
        exact ⟨hc, by omega, by omega, _, List.getElem?_eq_getElem hlt, hf, h.symm⟩
      · rw [if_neg hf] at h
        simp only [Prod.mk.injEq] at h
        exact absurd h.2 hf
  · rw [if_neg hc] at h; simp at h
theorem right_at {l : List Trade} {i : Nat} {x : Trade} (h : chk l = 0) (hx : l[i]? = some x) : rightB x = true :=
  List.all_eq_true.1 (and_r (chk_ok h)) x (List.mem_of_getElem? hx)
theorem right_undo {x : Trade} (hr : rightB x = true) (h : (undoF x).2 = 0) : x.st = 1 ∧ (undoF x).1.st = 3 ∧ rightB (undoF x).1 = true := by
  obtain ⟨b, s, p, q, r, bo, so, st⟩ := x
  have ht : ∀ bo' so' st', termsB ⟨b, s, p, q, r, bo', so', st'⟩ = true := fun _ _ _ => and_l hr
  unfold rightB at hr
  have hr2 := and_r hr
  unfold undoF at h ⊢
  by_cases hs : st = 1
  · subst hs
    simp only [if_true] at h ⊢
    refine ⟨trivial, trivial, ?_⟩
    unfold rightB
    rw [ht]
    cases bo <;> cases so <;> simp_all
  · simp only [if_neg hs] at h
    simp at h
theorem right_ref {y : ByteArray} {x : Trade} (hr : rightB x = true) (h : (refF y x).2 = 0) : x.st = 0 ∧ (refF y x).1.st = 2 ∧ rightB (refF y x).1 = true := by
  obtain ⟨b, s, p, q, r, bo, so, st⟩ := x
  have ht : ∀ bo' so' st', termsB ⟨b, s, p, q, r, bo', so', st'⟩ = true := fun _ _ _ => and_l hr
  unfold rightB at hr
  have hr2 := and_r hr
  unfold refF at h ⊢
  by_cases ha : askE ⟨b, s, p, q, r, bo, so, st⟩ y = 0
  · rw [if_pos ha]
    have hs : st = 0 := by
      unfold askE at ha
      by_cases hs : st = 0
      · exact hs
      · simp only [if_neg hs] at ha; simp at ha
    subst hs
    refine ⟨rfl, rfl, ?_⟩
    unfold rightB
    rw [ht]
    cases bo <;> cases so <;> simp_all
  · rw [if_neg ha] at h
    exact absurd h ha
theorem right_conf {y : ByteArray} {x : Trade} (hr : rightB x = true) (h : (confF y x).2 = 0) : x.st = 0 ∧ rightB (confF y x).1 = true ∧ ((confF y x).1.st = 0 ∨ ((confF y x).1.st = 1 ∧ (x.bo || x.so) = true ∧
    ((decide (y.data.toList = x.b.data.toList) && !x.bo) || (decide (y.data.toList = x.s.data.toList) && !x.so)) = true)) := by
  obtain ⟨b, s, p, q, r, bo, so, st⟩ := x
  have ht : ∀ bo' so' st', termsB ⟨b, s, p, q, r, bo', so', st'⟩ = true := fun _ _ _ => and_l hr
  unfold rightB at hr
  have hr2 := and_r hr
  unfold confF at h ⊢
  by_cases ha : askE ⟨b, s, p, q, r, bo, so, st⟩ y = 0
  · rw [if_pos ha] at h ⊢
    have hs : st = 0 ∧ (y.data.toList = b.data.toList ∨ y.data.toList = s.data.toList) := by
      unfold askE at ha
      by_cases hs : st = 0
      · refine ⟨hs, ?_⟩
        simp only [if_pos hs] at ha
        by_cases hy : y.data.toList = b.data.toList ∨ y.data.toList = s.data.toList
        · exact hy
        · rw [if_neg hy] at ha; simp at ha
      · simp only [if_neg hs] at ha; simp at ha
    obtain ⟨hs, hy⟩ := hs
    subst hs
    refine ⟨rfl, ?_⟩
    by_cases hys : y.data.toList = s.data.toList
    · simp only [if_pos hys] at h ⊢
      cases so
      · cases bo
        · exact ⟨by simp [rightB, ht], .inl rfl⟩
        · exact ⟨by simp [rightB, ht], .inr ⟨rfl, rfl, by simp [hys]⟩⟩
      · simp at h
    · have hyb : y.data.toList = b.data.toList := hy.resolve_right hys
      simp only [if_neg hys] at h ⊢
      cases bo
      · cases so
        · exact ⟨by simp [rightB, ht], .inl rfl⟩
        · exact ⟨by simp [rightB, ht], .inr ⟨rfl, rfl, by simp [hyb]⟩⟩
      · simp at h
  · rw [if_neg ha] at h
    exact absurd h ha
theorem sub_ok {l l2 : List Trade} {t : Trade} {n : Int} (h : sub l t = (l2, n, 0)) : chk l = 0 ∧ termsB t = true ∧ l.length < 200 ∧ l2 = l ++ [t] := by
  unfold sub at h
  by_cases hc : chk l = 0
  · rw [if_pos hc] at h
    by_cases ht : termsB t = true
    · rw [if_pos ht] at h
      by_cases hl : l.length = 200
      · rw [if_pos hl] at h; simp at h
      · rw [if_neg hl] at h
        simp only [Prod.mk.injEq] at h
        exact ⟨hc, ht, by have := chk_len hc; omega, h.1.symm⟩
    · rw [if_neg ht] at h; simp at h
  · rw [if_neg hc] at h; simp at h
theorem once_plain {l l2 : List Trade} {o : Step} {n : Int} (h : callP l o = (l2, n, 0)) :
    chk l = 0 ∧ chk l2 = 0 ∧ ((o.kd = 0 ∨ o.kd = 1) → legs l2 = legs l) ∧ (o.kd = 2 → (legs l2).length + 2 = (legs l).length) ∧
    (¬ o.kd = 0 → ¬ o.kd = 1 → ¬ o.kd = 2 → legs l2 = legs l ∨ ((legs l2).length = (legs l).length + 2 ∧ 1 ≤ o.nb ∧ o.nb ≤ (l.length : Int) ∧ ∃ x, l[(o.nb - 1).toNat]? = some x ∧ (x.bo || x.so) = true ∧
      ((decide (o.y.data.toList = x.b.data.toList) && !x.bo) || (decide (o.y.data.toList = x.s.data.toList) && !x.so)) = true)) := by
  unfold callP at h
  by_cases k0 : o.kd = 0
  · rw [if_pos k0] at h
    obtain ⟨hc, ht, hl, rfl⟩ := sub_ok h
    refine ⟨hc, chk_last hc hl (by unfold rightB; rw [ht]; simp [newT]), fun _ => ?_, fun h2 => by omega, fun h2 => absurd k0 h2⟩
    rw [legs_last, if_neg (by simp [newT]), List.append_nil]
  rw [if_neg k0] at h
  by_cases k1 : o.kd = 1
  · rw [if_pos k1] at h
    simp only [Prod.mk.injEq] at h
    obtain ⟨hc, hn1, hn2, x, hx, hf, he⟩ := chg_ok (f := refF o.y) (l := l) (n := o.nb) (l2 := l2) (by rw [← h.1, ← h.2.2])
    obtain ⟨s0, s2, hr⟩ := right_ref (right_at hc hx) hf
    obtain ⟨a, b, e1, e2⟩ := legs_split hx
    refine ⟨hc, by rw [he]; exact chk_set hc hr, fun _ => ?_, fun h2 => by omega, fun _ h2 => absurd k1 h2⟩
    rw [he, e2, e1, s0, s2]; rfl
  rw [if_neg k1] at h
  by_cases k2 : o.kd = 2
  · rw [if_pos k2] at h
    simp only [Prod.mk.injEq] at h
    obtain ⟨hc, hn1, hn2, x, hx, hf, he⟩ := chg_ok (f := undoF) (l := l) (n := o.nb) (l2 := l2) (by rw [← h.1, ← h.2.2])
    obtain ⟨s0, s2, hr⟩ := right_undo (right_at hc hx) hf
    obtain ⟨a, b, e1, e2⟩ := legs_split hx
    refine ⟨hc, by rw [he]; exact chk_set hc hr, fun h2 => by omega, fun _ => ?_, fun _ _ h2 => absurd k2 h2⟩
    rw [he, e2, e1, if_pos s0, if_neg (by rw [s2]; decide)]
    simp [legs1]; omega
  rw [if_neg k2] at h
  simp only [Prod.mk.injEq] at h
  obtain ⟨hc, hn1, hn2, x, hx, hf, he⟩ := chg_ok (f := confF o.y) (l := l) (n := o.nb) (l2 := l2) (by rw [← h.1, ← h.2.2])
  obtain ⟨s0, hr, hz⟩ := right_conf (right_at hc hx) hf
  obtain ⟨a, b, e1, e2⟩ := legs_split hx
  refine ⟨hc, by rw [he]; exact chk_set hc hr, fun h2 => by omega, fun h2 => by omega, fun _ _ _ => ?_⟩
  rcases hz with hz | ⟨hz, hz2, hz3⟩
  · left
    rw [he, e2, e1, s0, hz]; rfl
  · right
    refine ⟨?_, hn1, hn2, x, hx, hz2, hz3⟩
    rw [he, e2, e1, if_pos hz, if_neg (by rw [s0]; decide)]
    simp [legs1]; omega
end Go.Proofs.Ytkimdlpfbojkgaa
