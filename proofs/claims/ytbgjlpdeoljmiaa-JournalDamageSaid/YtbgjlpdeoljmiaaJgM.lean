/- Whether lines are many, in plain words. No condition. -/
import Derived.Test.YtbgjlpdeoljmiaaJpM
namespace Go.Proofs.Ytbgjlpdeoljmiaa
set_option linter.unusedVariables false
set_option linter.unusedSimpArgs false
open Go.RowKit
theorem f29n2L_at (bc : List JournalLine) : ∀ (l : List JournalLine) (v : Int), f29n2L bc l v = some .exit0 ∨ f29n2L bc l v = some .ret
  | [], v => .inl rfl
  | x :: l, v => by
    rw [f29n2L]
    cases decide (v ≤ 40) with
    | false => exact .inl rfl
    | true =>
      cases decide (300 < (x.Account.size : Int)) with
      | true => exact .inr rfl
      | false => cases decide (300 < (x.Ccy.size : Int)) with
        | true => exact .inr rfl
        | false => exact f29n2L_at bc l (v + 1)
theorem f29_at {l : List JournalLine} (h : l.length ≤ maxLen) : ∃ b, f29 l = some b ∧ (b = false → l.length ≤ 40) := by
  unfold f29 f29n0 f29n1
  rw [f29n2_run _ h]
  rcases f29n2L_at l l 0 with e | e <;> rw [e]
  · exact ⟨decide (40 < (l.length : Int)), rfl, fun h => by have := of_decide_eq_false h; omega⟩
  · exact ⟨true, rfl, fun h => by cases h⟩
end Go.Proofs.Ytbgjlpdeoljmiaa
