/- A journal is the same as itself. No condition. -/
import Derived.Test.YtbgjlpdeoljmiaaJpM
namespace Go.Proofs.Ytbgjlpdeoljmiaa
set_option linter.unusedVariables false
set_option linter.unusedSimpArgs false
open Go.RowKit
theorem eqb_self (x : JournalLine) : JournalLine.eqb x x = true := by simp [JournalLine.eqb, seq]
theorem f27n2L_at (b : JournalRecord) : ∀ (l : List JournalLine) (k : Nat), b.Lines.drop k = l → f27n2L b b l (k : Int) = some .exit0
  | [], k, _ => rfl
  | x :: l, k, h => by
    obtain ⟨hx, _, hd⟩ := drop_cons h
    rw [f27n2L, at_nat, hx]
    simp only [Option.bind_some, eqb_self, cond_true]
    exact f27n2L_at b l (k + 1) hd
theorem f27_self {r : JournalRecord} (h : r.Lines.length ≤ maxLen) : f27 r r = some true := by
  unfold f27 f27n0 f27n1
  rw [f27n2_run _ _ h]
  have := f27n2L_at r r.Lines 0 rfl
  simp only [Int.natCast_zero] at this
  rw [this, seq_self]
  simp
theorem f19n2L_at (j : Journal) (hr : ∀ r ∈ j.Records, r.Lines.length ≤ maxLen) : ∀ (l : List JournalRecord) (k : Nat), j.Records.drop k = l → f19n2L j j l (k : Int) = some .exit0
  | [], k, _ => rfl
  | x :: l, k, h => by
    obtain ⟨hx, _, hd⟩ := drop_cons h
    rw [f19n2L, at_nat, hx]
    simp only [Option.bind_some, f27_self (hr x (List.mem_of_getElem? hx)), cond_true]
    exact f19n2L_at j hr l (k + 1) hd
theorem f19_self {j : Journal} (h : Jk j) : f19 j j = some true := by
  unfold f19 f19n0 f19n1
  rw [f19n2_run _ _ h.1]
  have := f19n2L_at j (fun r hr => (h.2 r hr).2.1) j.Records 0 rfl
  simp only [Int.natCast_zero] at this
  rw [this]
  simp
end Go.Proofs.Ytbgjlpdeoljmiaa
