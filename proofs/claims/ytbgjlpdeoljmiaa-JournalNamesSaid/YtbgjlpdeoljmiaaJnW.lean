/- The law on limits and errors, in plain words. No condition. -/
import Derived.Test.YtbgjlpdeoljmiaaJpW
import Derived.Test.YtbgjlpdeoljmiaaAlW
namespace Go.Proofs.Ytbgjlpdeoljmiaa
set_option linter.unusedVariables false
set_option linter.unusedSimpArgs false
set_option maxRecDepth 1000000
open Go.RowKit
def two (n : Int) : List JournalLine := [(JournalLine.mk str_a str_EUR n), (JournalLine.mk str_b str_EUR (wr64 (0 - n)))]
def other : List JournalLine := [(JournalLine.mk str_a str_EUR 1), (JournalLine.mk str_b str_USD (wr64 (0 - 1)))]
def J1 : Journal := ⟨[⟨5, str_x, two 1125899906842624⟩]⟩
def J4 : Journal := ⟨[⟨5, str_x, two 1125899906842624⟩, ⟨5, str_x, two (-1125899906842624)⟩]⟩
theorem sm_x : str_x.size ≤ maxLen := by unfold maxLen; decide
theorem sm_a : str_a.size ≤ maxLen := by unfold maxLen; decide
theorem sm_b : str_b.size ≤ maxLen := by unfold maxLen; decide
theorem sm_E : str_EUR.size ≤ maxLen := by unfold maxLen; decide
theorem sm_U : str_USD.size ≤ maxLen := by unfold maxLen; decide
theorem sm_2 : 2 ≤ maxLen := by unfold maxLen; decide
theorem small_other (d : Int) : Rk ⟨d, str_x, other⟩ := by
  refine ⟨sm_x, sm_2, fun y hy => ?_⟩
  simp only [other, List.mem_cons, List.not_mem_nil, or_false] at hy
  rcases hy with rfl | rfl
  · exact ⟨sm_a, sm_E⟩
  · exact ⟨sm_b, sm_U⟩
theorem small_two (d n : Int) : Rk ⟨d, str_x, two n⟩ := by
  refine ⟨sm_x, sm_2, fun y hy => ?_⟩
  simp only [two, List.mem_cons, List.not_mem_nil, or_false] at hy
  rcases hy with rfl | rfl
  · exact ⟨sm_a, sm_E⟩
  · exact ⟨sm_b, sm_E⟩
theorem other_add : f30 J1 5 str_x other = some (⟨[]⟩, 60) := by
  have h1 : Jk J1 := ⟨by unfold maxLen; decide, fun r hr => by
    simp only [J1, List.mem_cons, List.not_mem_nil, or_false] at hr
    subst hr; exact small_two _ _⟩
  have := f30_eq (r := ⟨5, str_x, other⟩) h1 (small_other 5) (by decide)
  refine this.trans ?_
  kernel_rfl
theorem other_bad : f28 ⟨[⟨0, str_x, other⟩]⟩ = some 8 := by
  refine (f28_eq ⟨by unfold maxLen; decide, fun r hr => by rw [List.mem_singleton.1 hr]; exact small_other 0⟩).trans ?_
  kernel_rfl
theorem names_plain : f9 = some true := by
  have a1 : f36 = some ⟨[]⟩ := by kernel_rfl
  have a2 : ∀ n, f37r1 n = some () := fun _ => rfl
  have b1 : f30 ⟨[]⟩ 5 str_x [(JournalLine.mk str_a str_EUR 1125899906842624), (JournalLine.mk str_b str_EUR (wr64 (0 - 1125899906842624)))] = some (J1, 0) := by kernel_rfl
  have b2 : f30 J1 4 str_x [(JournalLine.mk str_a str_EUR 1), (JournalLine.mk str_b str_EUR (wr64 (0 - 1)))] = some (⟨[]⟩, 40) := by kernel_rfl
  have b3 : f30 J1 5 str_x [(JournalLine.mk str_a str_EUR 1), (JournalLine.mk str_b str_EUR (wr64 (0 - 1)))] = some (⟨[]⟩, 14) := by kernel_rfl
  have b4 : f30 J1 5 str_x [(JournalLine.mk str_a str_EUR (-1125899906842624)), (JournalLine.mk str_b str_EUR (wr64 (0 - (-1125899906842624))))] = some (J4, 0) := by kernel_rfl
  have b5 : f30 J1 5 str_x0a [(JournalLine.mk str_a str_EUR (-1)), (JournalLine.mk str_b str_EUR (wr64 (0 - (-1))))] = some (⟨[]⟩, 2) := by kernel_rfl
  have b6 : f30 J1 100000 str_x [(JournalLine.mk str_a str_EUR (-1)), (JournalLine.mk str_b str_EUR (wr64 (0 - (-1))))] = some (⟨[]⟩, 2) := by kernel_rfl
  have b7 : f30 J1 5 str_x [(JournalLine.mk str_a str_EUR 0), (JournalLine.mk str_b str_EUR (wr64 (0 - 0)))] = some (⟨[]⟩, 2) := by kernel_rfl
  have b8 : f30 J1 5 str_x [(JournalLine.mk str_a str_EUR 1)] = some (⟨[]⟩, 2) := by kernel_rfl
  have b9 : f30 J1 4 str_x [(JournalLine.mk str_a str_EUR 1), (JournalLine.mk str_b str_EUR (wr64 (0 - 1))), (JournalLine.mk str_a str_EUR 2)] = some (⟨[]⟩, 60) := by kernel_rfl
  have b10 : f30 J1 5 str_x [(JournalLine.mk str_a str_EUR 1), (JournalLine.mk str_b str_USD (wr64 (0 - 1)))] = some (⟨[]⟩, 60) := other_add
  have c1 : f32 J4 4 = some (⟨[]⟩, 0) := by kernel_rfl
  have c2 : f32 J4 5 = some (J4, 0) := by kernel_rfl
  have c3 : f25 J4 str_a str_EUR = some (0, 0) := by kernel_rfl
  have c5 : f28 (Journal.mk [(JournalRecord.mk 0 str_x [(JournalLine.mk str_a str_EUR 1), (JournalLine.mk str_b str_USD (wr64 (0 - 1)))])]) = some 8 := other_bad
  have c4 : f13 (Journal.mk [(JournalRecord.mk 0 str_x [(JournalLine.mk str_a str_EUR 1), (JournalLine.mk str_b str_USD (wr64 (0 - 1)))])]) = some ([], 8) := by
    unfold f13 f13n0
    rw [c5]; rfl
  have c6 : f16 [255, 255, 255, 255, 255, 255, 255, 255, 255, 255, 255, 255] = some (⟨[]⟩, 0) := by kernel_rfl
  have d1 : f9n1 (J1, 0) (⟨[]⟩, 40) (⟨[]⟩, 14) (J4, 0) (⟨[]⟩, 2) (⟨[]⟩, 2) (⟨[]⟩, 2) (⟨[]⟩, 2) (⟨[]⟩, 60) (⟨[]⟩, 60) (⟨[]⟩, 0) (J4, 0) (0, 0) ([], 8) (⟨[]⟩, 0) [(JournalRecord.mk 0 str_x [(JournalLine.mk str_a str_EUR 1), (JournalLine.mk str_b str_USD (wr64 (0 - 1)))])] = some (.norm true) := by kernel_rfl
  have d2 : f9n2 (⟨[]⟩, 0) (J4, 0) (0, 0) ([], 8) (⟨[]⟩, 0) true [(JournalRecord.mk 0 str_x [(JournalLine.mk str_a str_EUR 1), (JournalLine.mk str_b str_USD (wr64 (0 - 1)))])] = some (.norm true) := by
    unfold f9n2
    rw [c5]; rfl
  unfold f9 f9n0
  rw [a1]
  simp only [a2, b1, b2, b3, b4, b5, b6, b7, b8, b9, b10, c1, c2, c3, c4, c6, d1, d2, alive_t, Option.bind_some, cond_true]
end Go.Proofs.Ytbgjlpdeoljmiaa
