/- VariationNames: the plain function, evaluated. No condition. -/
import Derived.Test.YtelblamgfbkhbaaVa
namespace Go.Proofs.Ytelblamgfbkhbaa
def nmV : Variation := ⟨7, [⟨str_a, str_p, -1048576, -562949953421312⟩, ⟨str_b, str_p, 1048576, 562949953421312⟩]⟩
def nmW : Variation := ⟨7, [⟨str_a, str_p, 0, -1125899906842624⟩, ⟨str_b, str_p, 0, 1125899906842624⟩]⟩
theorem nm1 : f16 (Variation.mk 7 []) str_b str_a str_p 1048576 536870912 = some (nmV, 0) := by kernel_rfl
theorem nm2 : f16 nmV str_a str_b str_p 1048576 (-536870912) = some (nmW, 0) := by kernel_rfl
theorem nm3 : f14 nmW 8 [] = some (⟨8, []⟩, [⟨str_a, 1125899906842624⟩, ⟨str_b, -1125899906842624⟩], 0) :=
  f14_of (f14_two (a := (str_a, 1125899906842624)) (b := (str_b, -1125899906842624)) (out := []) (by kernel_rfl) (by kernel_rfl) (by kernel_rfl) (by kernel_rfl) (by kernel_rfl))
theorem nm4 : f14 nmV 7 [(VariationPrice.mk str_p 1)] = some (⟨0, []⟩, [], 21) := by kernel_rfl
theorem nm5 : f14 nmV 8 [] = some (⟨0, []⟩, [], 30) := by kernel_rfl
theorem nm6 : f14 nmV 8 [(VariationPrice.mk str_p 1), (VariationPrice.mk str_p 1)] = some (⟨0, []⟩, [], 2) := by kernel_rfl
theorem namesP : f7 = some true := by
  have a0 : f12 7 = some (Variation.mk 7 [], 0) := by kernel_rfl
  have a1 : f12 (-1) = some (Variation.mk 0 [], 2) := by kernel_rfl
  have a2 : f12 100000 = some (Variation.mk 0 [], 2) := by kernel_rfl
  have b1 : f16 (Variation.mk 7 []) str_a str_a str_p 1 1 = some (Variation.mk 0 [], 2) := by kernel_rfl
  have b2 : f16 (Variation.mk 7 []) str_house str_a str_p 1 1 = some (Variation.mk 0 [], 2) := by kernel_rfl
  have b3 : f16 (Variation.mk 7 []) str_b str_a str_p 0 1 = some (Variation.mk 0 [], 2) := by kernel_rfl
  have b4 : f16 (Variation.mk 7 []) str_b str_a str_p 1 536870913 = some (Variation.mk 0 [], 2) := by kernel_rfl
  have b5 : f16 nmV str_b str_c str_p 1 0 = some (Variation.mk 0 [], 52) := by kernel_rfl
  have b6 : f16 nmV str_a str_b str_p 1048576 536870912 = some (Variation.mk 7 [], 0) := by kernel_rfl
  have b7 : f16 nmW str_b str_a str_p 1 1 = some (Variation.mk 0 [], 14) := by kernel_rfl
  have r1 : f23r1 1 = some () := rfl
  have c1 : f24 nmV str_b [] = some (0, 30) := by kernel_rfl
  have c2 : f24 nmV str_c [] = some (0, 0) := by kernel_rfl
  have k1 : f25 (-1125899906842624) = some [⟨str_a, 1125899906842624⟩, ⟨str_b, -1125899906842624⟩] := by kernel_rfl
  have m1 : f19 [⟨str_a, 1125899906842624⟩, ⟨str_b, -1125899906842624⟩] [⟨str_a, 1125899906842624⟩, ⟨str_b, -1125899906842624⟩] = some true := by kernel_rfl
  have e1 : f26 (Variation.mk 0 [(VariationPosition.mk str_a str_p 1 0)]) = some 8 := by kernel_rfl
  unfold f7 f7n0
  simp only [a0, a1, a2, b1, b2, b3, b4, b5, b6, b7, r1, c1, c2, nm1, nm2, nm3, nm4, nm5, nm6, e1, alive_t, Option.bind_some, f7n1, f7n2, k1, m1, decide_true, cond_true]
  rfl
end Go.Proofs.Ytelblamgfbkhbaa
