/- The chapter's example, evaluated. No condition. -/
import Derived.Test.YtelblamgfbkhbaaN3
namespace Go.Proofs.Ytelblamgfbkhbaa
set_option linter.unusedVariables false
theorem perm_two {α : Type} {a b : α} {p : List α} (h : p.Perm [a, b]) : p = [a, b] ∨ p = [b, a] := by
  match p, h with
  | [], h => exact absurd h.length_eq (by simp)
  | [_], h => exact absurd h.length_eq (by simp)
  | _ :: _ :: _ :: _, h => exact absurd h.length_eq (by simp)
  | [x, y], h =>
    rcases List.mem_cons.1 (h.mem_iff.1 (List.mem_cons_self)) with rfl | hx
    · left
      have := List.Perm.cons_inv h
      rw [List.perm_singleton.1 this]
    · right
      obtain rfl := List.mem_singleton.1 hx
      have h2 : [x, y].Perm [x, a] := h.trans (List.Perm.swap _ _ _)
      have := List.Perm.cons_inv h2
      rw [List.perm_singleton.1 this]
theorem f14_two {s : Variation} {d : Int} {ps : List VariationPrice} {a b : ByteArray × Int} {out : List VariationPosition} {o : f14n0O} (h1 : f26 s = some 0) (h2 : f14n1 d ps 0 s = some (.norm 0)) (h3 : f14n2 ps s d = some (.norm [a, b] out))
    (h4 : ((f14n4 d [a, b] out [a, b]).bind fun o143 => match o143 with
        | .norm v145 => (so38_39 v145).bind fun x148 => some (.ret 0 d x148 out)
        | .ret => some (.ret 14 0 [] [])) = some o)
    (h5 : ((f14n4 d [a, b] out [b, a]).bind fun o143 => match o143 with
        | .norm v145 => (so38_39 v145).bind fun x148 => some (.ret 0 d x148 out)
        | .ret => some (.ret 14 0 [] [])) = some o) : f14n0 s d ps = some o := by
  unfold f14n0
  rw [h1]
  simp only [Option.bind_some]
  rw [h2]
  simp only [Option.bind_some, decide_true, cond_true]
  rw [h3]
  simp only [Option.bind_some]
  refine anyOrder_of fun p hp => ?_
  rcases perm_two hp with rfl | rfl
  · exact h4
  · exact h5
theorem f14_of {s : Variation} {d : Int} {ps : List VariationPrice} {v150 v151 : Int} {v152 : List VariationPayment} {v153 : List VariationPosition} (h : f14n0 s d ps = some (.ret v150 v151 v152 v153)) : f14 s d ps = some ((Variation.mk v151 v153), v152, v150) := by
  unfold f14; rw [h]; rfl
def exS : Variation := ⟨0, [⟨str_a, str_p, -3, -30⟩, ⟨str_b, str_p, 3, 30⟩]⟩
def exT : Variation := ⟨1, [⟨str_a, str_p, -3, -36⟩, ⟨str_b, str_p, 3, 36⟩]⟩
theorem ex1 : f16 (Variation.mk 0 []) str_b str_a str_p 3 10 = some (exS, 0) := by kernel_rfl
theorem ex2 : f14 exS 1 [(VariationPrice.mk str_p 12)] = some (exT, [⟨str_a, -6⟩, ⟨str_b, 6⟩], 0) :=
  f14_of (f14_two (a := (str_a, -6)) (b := (str_b, 6)) (out := exT.Positions) (by kernel_rfl) (by kernel_rfl) (by kernel_rfl) (by kernel_rfl) (by kernel_rfl))
theorem ex3 : f14 exT 2 [(VariationPrice.mk str_p 11)] = some (⟨2, [⟨str_a, str_p, -3, -33⟩, ⟨str_b, str_p, 3, 33⟩]⟩, [⟨str_a, 3⟩, ⟨str_b, -3⟩], 0) :=
  f14_of (f14_two (a := (str_a, 3)) (b := (str_b, -3)) (out := [⟨str_a, str_p, -3, -33⟩, ⟨str_b, str_p, 3, 33⟩]) (by kernel_rfl) (by kernel_rfl) (by kernel_rfl) (by kernel_rfl) (by kernel_rfl))
theorem ex4 : f14 exS 2 [(VariationPrice.mk str_p 11)] = some (⟨2, [⟨str_a, str_p, -3, -33⟩, ⟨str_b, str_p, 3, 33⟩]⟩, [⟨str_a, -3⟩, ⟨str_b, 3⟩], 0) :=
  f14_of (f14_two (a := (str_a, -3)) (b := (str_b, 3)) (out := [⟨str_a, str_p, -3, -33⟩, ⟨str_b, str_p, 3, 33⟩]) (by kernel_rfl) (by kernel_rfl) (by kernel_rfl) (by kernel_rfl) (by kernel_rfl))
theorem ex0 : f12 0 = some (Variation.mk 0 [], 0) := by kernel_rfl
theorem ex5 : (f25 6).bind (fun x => (f19 [⟨str_a, -6⟩, ⟨str_b, 6⟩] x).bind fun y => some (f10n0O.ret y)) = some (.ret true) := by kernel_rfl
theorem alive_t : f10 = some true := by
  have k1 : f25 6 = some [⟨str_a, -6⟩, ⟨str_b, 6⟩] := by kernel_rfl
  have k2 : f25 (-3) = some [⟨str_a, 3⟩, ⟨str_b, -3⟩] := by kernel_rfl
  have k3 : f25 3 = some [⟨str_a, -3⟩, ⟨str_b, 3⟩] := by kernel_rfl
  have m1 : f19 [⟨str_a, -6⟩, ⟨str_b, 6⟩] [⟨str_a, -6⟩, ⟨str_b, 6⟩] = some true := by kernel_rfl
  have m2 : f19 [⟨str_a, 3⟩, ⟨str_b, -3⟩] [⟨str_a, 3⟩, ⟨str_b, -3⟩] = some true := by kernel_rfl
  have m3 : f19 [⟨str_a, -3⟩, ⟨str_b, 3⟩] [⟨str_a, -3⟩, ⟨str_b, 3⟩] = some true := by kernel_rfl
  have r1 : f23r1 12 = some () := rfl
  have r2 : f23r1 11 = some () := rfl
  unfold f10 f10n0
  simp only [ex0, ex1, ex2, ex3, ex4, k1, k2, k3, m1, m2, m3, r1, r2, Option.bind_some, decide_true, cond_true]
end Go.Proofs.Ytelblamgfbkhbaa
