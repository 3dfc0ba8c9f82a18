/- Where records end in the bytes. No condition. -/
import Derived.Test.YtbgjlpdeoljmiaaJeM
namespace Go.Proofs.Ytbgjlpdeoljmiaa
set_option linter.unusedVariables false
set_option linter.unusedSimpArgs false
open Go.RowKit
theorem take_succ {l : List JournalRecord} {k : Nat} {r : JournalRecord} (h : l[k]? = some r) : l.take (k + 1) = l.take k ++ [r] := by rw [List.take_add_one, h]; rfl
noncomputable def off (l : List JournalRecord) (i : Nat) : Nat := (encL (l.take i) 0 0).length
theorem enc_split (l : List JournalRecord) (i : Nat) : encL l 0 0 = encL (l.take i) 0 0 ++ encL (l.drop i) (stL (l.take i) 0 0) (l.take i).length := by
  conv => lhs; rw [← List.take_append_drop i l, encL_append]
  simp
theorem off_le (l : List JournalRecord) (i : Nat) : off l i ≤ (encL l 0 0).length := by
  rw [enc_split l i, List.length_append]; unfold off; omega
theorem off_next {l : List JournalRecord} (hf : ∀ r ∈ l, formedB r = true) {i : Nat} {r : JournalRecord} (h : l[i]? = some r) : off l (i + 1) = off l i + (12 + (pay ((i : Int) + 1) r).length) ∧ 8 ≤ (pay ((i : Int) + 1) r).length := by
  have hi := lt_of_at h
  have hl : (l.take i).length = i := by simp; omega
  unfold off
  rw [take_succ h, encL_append, List.length_append]
  simp only [encL, List.append_nil, List.length_append, low_len, Nat.zero_add, hl]
  exact ⟨by omega, (pay_small (hf r (List.mem_of_getElem? h))).2⟩
noncomputable def offs (l : List JournalRecord) (n : Nat) : List Int := (List.range n).map fun i => (off l (i + 1) : Int)
end Go.Proofs.Ytbgjlpdeoljmiaa
