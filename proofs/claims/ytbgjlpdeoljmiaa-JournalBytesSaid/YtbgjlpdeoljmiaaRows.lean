/-
  No cell of these rows narrows 'for every input' (looked for: loops, veiled, ifaces, maps, wideKeys, modest, calm, conditions, laid).
  DERIVED. THE GIVEN ROWS OF THIS SEAT. 8 by the template 'for every input the law returns true; each argument reads behind the call as it read before'; 0 by the template 'total and deterministic' (their statements: YtbgjlpdeoljmiaaTotals.lean).
  GIVEN WITH THE SEED: the statements are not yours to turn. If you find one false, say at which input.
  Laid BY PROGRAM, IN A SANDBOX (cutbox-rows.mjs): the forced cells as the released guide's own fill.sh prints them over the translation a21467cdc7473064… (all of the seat's roots in one cut). By AI agents, Wed Nov 11 2026. No macro, syntax, notation, axiom, sorry.
-/
import Derived.Test.YtbgjlpdeoljmiaaChecked
import GoSem.Claim
import GoSem.ClaimJoined
import GoSem.ClaimMapViews
import Derived.JoinedTies
import Derived.KernelRfl
namespace Go.Proofs.Ytbgjlpdeoljmiaa
/- THE CELL 'sum', in the pinned program and in every row, IS THE sha256 OF THE DUMP (.gsa) THAT YtbgjlpdeoljmiaaProg.lean LOADS. Nothing in Lean hashes anything: it is a label: what it is worth is what the hold of that sum in a sandbox is worth. -/
noncomputable def Try.pinned : Pinned := { name := "ytbgjlpdeoljmiaa", sum := "a21467cdc74730642d098473f2711cdf56f833f8e13f963f45b527f7a768822d", checked := Try.checked }
namespace Rows
def none {H : Type} : Left H := { results := [], args := [] }

/-- 'novationlaw38.JournalBytes': WHATEVER THE INPUT: true; the input reads as it did. -/
def journalBytesSpec : ChangeSpec := { name := "journalBytes", fn := fun _ => fun
  | [d1, d2, d3] => { results := [.lit (.bool true)], args := [d1, d2, d3] }
  | _ => none }
def journalBytesRow : OpenClaim := { program := "ytbgjlpdeoljmiaa", sum := "a21467cdc74730642d098473f2711cdf56f833f8e13f963f45b527f7a768822d", func := "novation/novationlaw38.JournalBytes", spec := "journalBytes", unfollowed := true, recurses := true, plainKeys := false, apart := false }
def JournalBytesSaid : Prop := journalBytesRow.holds Try.pinned (OpenSpec.ofChange journalBytesSpec)

/-- ITS FALSE NEIGHBOUR: 'it returns false'. Refute it at one input. -/
def journalBytesWrong : ChangeSpec := { name := "journalBytes", fn := fun _ => fun
  | [d1, d2, d3] => { results := [.lit (.bool false)], args := [d1, d2, d3] }
  | _ => none }
def JournalBytesWrongFalsely : Prop := journalBytesRow.holds Try.pinned (OpenSpec.ofChange journalBytesWrong)

/-- 'novationlaw38.JournalZero': WHATEVER THE INPUT: true; the input reads as it did. -/
def journalZeroSpec : ChangeSpec := { name := "journalZero", fn := fun _ => fun
  | [d] => { results := [.lit (.bool true)], args := [d] }
  | _ => none }
def journalZeroRow : OpenClaim := { program := "ytbgjlpdeoljmiaa", sum := "a21467cdc74730642d098473f2711cdf56f833f8e13f963f45b527f7a768822d", func := "novation/novationlaw38.JournalZero", spec := "journalZero", unfollowed := true, recurses := true, plainKeys := false, apart := false }
def JournalZeroSaid : Prop := journalZeroRow.holds Try.pinned (OpenSpec.ofChange journalZeroSpec)

/-- ITS FALSE NEIGHBOUR: 'it returns false'. Refute it at one input. -/
def journalZeroWrong : ChangeSpec := { name := "journalZero", fn := fun _ => fun
  | [d] => { results := [.lit (.bool false)], args := [d] }
  | _ => none }
def JournalZeroWrongFalsely : Prop := journalZeroRow.holds Try.pinned (OpenSpec.ofChange journalZeroWrong)

/-- 'novationlaw38.JournalRecovers': WHATEVER THE INPUT: true; the input reads as it did. -/
def journalRecoversSpec : ChangeSpec := { name := "journalRecovers", fn := fun _ => fun
  | [d1, d2, d3] => { results := [.lit (.bool true)], args := [d1, d2, d3] }
  | _ => none }
def journalRecoversRow : OpenClaim := { program := "ytbgjlpdeoljmiaa", sum := "a21467cdc74730642d098473f2711cdf56f833f8e13f963f45b527f7a768822d", func := "novation/novationlaw38.JournalRecovers", spec := "journalRecovers", unfollowed := true, recurses := true, plainKeys := false, apart := false }
def JournalRecoversSaid : Prop := journalRecoversRow.holds Try.pinned (OpenSpec.ofChange journalRecoversSpec)

/-- ITS FALSE NEIGHBOUR: 'it returns false'. Refute it at one input. -/
def journalRecoversWrong : ChangeSpec := { name := "journalRecovers", fn := fun _ => fun
  | [d1, d2, d3] => { results := [.lit (.bool false)], args := [d1, d2, d3] }
  | _ => none }
def JournalRecoversWrongFalsely : Prop := journalRecoversRow.holds Try.pinned (OpenSpec.ofChange journalRecoversWrong)

/-- 'novationlaw38.JournalDamage': WHATEVER THE INPUT: true; the input reads as it did. -/
def journalDamageSpec : ChangeSpec := { name := "journalDamage", fn := fun _ => fun
  | [d1, d2, d3] => { results := [.lit (.bool true)], args := [d1, d2, d3] }
  | _ => none }
def journalDamageRow : OpenClaim := { program := "ytbgjlpdeoljmiaa", sum := "a21467cdc74730642d098473f2711cdf56f833f8e13f963f45b527f7a768822d", func := "novation/novationlaw38.JournalDamage", spec := "journalDamage", unfollowed := true, recurses := true, plainKeys := false, apart := false }
def JournalDamageSaid : Prop := journalDamageRow.holds Try.pinned (OpenSpec.ofChange journalDamageSpec)

/-- ITS FALSE NEIGHBOUR: 'it returns false'. Refute it at one input. -/
def journalDamageWrong : ChangeSpec := { name := "journalDamage", fn := fun _ => fun
  | [d1, d2, d3] => { results := [.lit (.bool false)], args := [d1, d2, d3] }
  | _ => none }
def JournalDamageWrongFalsely : Prop := journalDamageRow.holds Try.pinned (OpenSpec.ofChange journalDamageWrong)

/-- 'novationlaw38.JournalBack': WHATEVER THE INPUT: true; the input reads as it did. -/
def journalBackSpec : ChangeSpec := { name := "journalBack", fn := fun _ => fun
  | [d1, d2] => { results := [.lit (.bool true)], args := [d1, d2] }
  | _ => none }
def journalBackRow : OpenClaim := { program := "ytbgjlpdeoljmiaa", sum := "a21467cdc74730642d098473f2711cdf56f833f8e13f963f45b527f7a768822d", func := "novation/novationlaw38.JournalBack", spec := "journalBack", unfollowed := true, recurses := true, plainKeys := false, apart := false }
def JournalBackSaid : Prop := journalBackRow.holds Try.pinned (OpenSpec.ofChange journalBackSpec)

/-- ITS FALSE NEIGHBOUR: 'it returns false'. Refute it at one input. -/
def journalBackWrong : ChangeSpec := { name := "journalBack", fn := fun _ => fun
  | [d1, d2] => { results := [.lit (.bool false)], args := [d1, d2] }
  | _ => none }
def JournalBackWrongFalsely : Prop := journalBackRow.holds Try.pinned (OpenSpec.ofChange journalBackWrong)

/-- 'novationlaw38.JournalMatches': WHATEVER THE INPUT: true; the input reads as it did. -/
def journalMatchesSpec : ChangeSpec := { name := "journalMatches", fn := fun _ => fun
  | [d1, d2, d3, d4, d5, d6] => { results := [.lit (.bool true)], args := [d1, d2, d3, d4, d5, d6] }
  | _ => none }
def journalMatchesRow : OpenClaim := { program := "ytbgjlpdeoljmiaa", sum := "a21467cdc74730642d098473f2711cdf56f833f8e13f963f45b527f7a768822d", func := "novation/novationlaw38.JournalMatches", spec := "journalMatches", unfollowed := true, recurses := true, plainKeys := false, apart := false }
def JournalMatchesSaid : Prop := journalMatchesRow.holds Try.pinned (OpenSpec.ofChange journalMatchesSpec)

/-- ITS FALSE NEIGHBOUR: 'it returns false'. Refute it at one input. -/
def journalMatchesWrong : ChangeSpec := { name := "journalMatches", fn := fun _ => fun
  | [d1, d2, d3, d4, d5, d6] => { results := [.lit (.bool false)], args := [d1, d2, d3, d4, d5, d6] }
  | _ => none }
def JournalMatchesWrongFalsely : Prop := journalMatchesRow.holds Try.pinned (OpenSpec.ofChange journalMatchesWrong)

/-- 'novationlaw38.JournalNames': WHATEVER THE INPUT: true; the input reads as it did. -/
def journalNamesSpec : ChangeSpec := { name := "journalNames", fn := fun _ => fun
  | [] => { results := [.lit (.bool true)], args := [] }
  | _ => none }
def journalNamesRow : OpenClaim := { program := "ytbgjlpdeoljmiaa", sum := "a21467cdc74730642d098473f2711cdf56f833f8e13f963f45b527f7a768822d", func := "novation/novationlaw38.JournalNames", spec := "journalNames", unfollowed := true, recurses := true, plainKeys := false, apart := false }
def JournalNamesSaid : Prop := journalNamesRow.holds Try.pinned (OpenSpec.ofChange journalNamesSpec)

/-- ITS FALSE NEIGHBOUR: 'it returns false'. Refute it at one input. -/
def journalNamesWrong : ChangeSpec := { name := "journalNames", fn := fun _ => fun
  | [] => { results := [.lit (.bool false)], args := [] }
  | _ => none }
def JournalNamesWrongFalsely : Prop := journalNamesRow.holds Try.pinned (OpenSpec.ofChange journalNamesWrong)

/-- 'novationlaw38.JournalUntil': WHATEVER THE INPUT: true; the input reads as it did. -/
def journalUntilSpec : ChangeSpec := { name := "journalUntil", fn := fun _ => fun
  | [d1, d2] => { results := [.lit (.bool true)], args := [d1, d2] }
  | _ => none }
def journalUntilRow : OpenClaim := { program := "ytbgjlpdeoljmiaa", sum := "a21467cdc74730642d098473f2711cdf56f833f8e13f963f45b527f7a768822d", func := "novation/novationlaw38.JournalUntil", spec := "journalUntil", unfollowed := true, recurses := true, plainKeys := false, apart := false }
def JournalUntilSaid : Prop := journalUntilRow.holds Try.pinned (OpenSpec.ofChange journalUntilSpec)

/-- ITS FALSE NEIGHBOUR: 'it returns false'. Refute it at one input. -/
def journalUntilWrong : ChangeSpec := { name := "journalUntil", fn := fun _ => fun
  | [d1, d2] => { results := [.lit (.bool false)], args := [d1, d2] }
  | _ => none }
def JournalUntilWrongFalsely : Prop := journalUntilRow.holds Try.pinned (OpenSpec.ofChange journalUntilWrong)

/- THE SECOND FORM. 'bulk': how many values and letters a reading holds, each counted each time it is reached (what is shared counts as often as it is met; a slice's spare places count too). A statement '..UptoSaid' is the law's where the arguments, and the package variables that the reading takes, are together of bulk at most 1048576: NARROWER than '..Said'. Prove '..Said' where nothing that the law and all that it calls make is longer than what came in: it says more and counts as full. Else prove '..UptoSaid'. A law counts once. -/
mutual
def uptoBulk {H : Type} : DataW H → Nat
  | .lit (.string bytes) => bytes.length + 1
  | .lit _ => 1
  | .nil => 1
  | .ptr d => uptoBulk d + 1
  | .slice elems spare => uptoBulkAll elems + uptoBulkAll spare + 1
  | .agg parts => uptoBulkAll parts + 1
  | .iface _ d => uptoBulk d + 1
  | .map entries => uptoBulkEntries entries + 1
  | .held _ => 1
def uptoBulkAll {H : Type} : List (DataW H) → Nat
  | [] => 0
  | d :: r => uptoBulk d + uptoBulkAll r
def uptoBulkEntries {H : Type} : List (Lit × DataW H) → Nat
  | [] => 0
  | x :: r => uptoBulkEntry x + uptoBulkEntries r
def uptoBulkEntry {H : Type} : Lit × DataW H → Nat
  | (.string bytes, d) => bytes.length + uptoBulk d + 1
  | (_, d) => uptoBulk d + 1
 end
def uptoSmall : (H : Type) → List (DataW H) → Bool := fun _ ds => decide (uptoBulkAll ds ≤ 1048576)
def OpenSpec.upto (s : _root_.Go.ChangeSpec) : _root_.Go.OpenSpec := { _root_.Go.OpenSpec.ofChange s with cond := some uptoSmall }

/-- 'novationlaw38.JournalBytes', WHERE WHAT IT READS IS OF BULK AT MOST 1048576: true; the input reads as it did. -/
def journalBytesUptoRow : OpenClaim := { program := "ytbgjlpdeoljmiaa", sum := "a21467cdc74730642d098473f2711cdf56f833f8e13f963f45b527f7a768822d", func := "novation/novationlaw38.JournalBytes", spec := "journalBytes", unfollowed := true, recurses := true, plainKeys := false, apart := false, narrowed := true }
def JournalBytesUptoSaid : Prop := journalBytesUptoRow.holds Try.pinned (OpenSpec.upto journalBytesSpec)

/-- 'novationlaw38.JournalZero', WHERE WHAT IT READS IS OF BULK AT MOST 1048576: true; the input reads as it did. -/
def journalZeroUptoRow : OpenClaim := { program := "ytbgjlpdeoljmiaa", sum := "a21467cdc74730642d098473f2711cdf56f833f8e13f963f45b527f7a768822d", func := "novation/novationlaw38.JournalZero", spec := "journalZero", unfollowed := true, recurses := true, plainKeys := false, apart := false, narrowed := true }
def JournalZeroUptoSaid : Prop := journalZeroUptoRow.holds Try.pinned (OpenSpec.upto journalZeroSpec)

/-- 'novationlaw38.JournalRecovers', WHERE WHAT IT READS IS OF BULK AT MOST 1048576: true; the input reads as it did. -/
def journalRecoversUptoRow : OpenClaim := { program := "ytbgjlpdeoljmiaa", sum := "a21467cdc74730642d098473f2711cdf56f833f8e13f963f45b527f7a768822d", func := "novation/novationlaw38.JournalRecovers", spec := "journalRecovers", unfollowed := true, recurses := true, plainKeys := false, apart := false, narrowed := true }
def JournalRecoversUptoSaid : Prop := journalRecoversUptoRow.holds Try.pinned (OpenSpec.upto journalRecoversSpec)

/-- 'novationlaw38.JournalDamage', WHERE WHAT IT READS IS OF BULK AT MOST 1048576: true; the input reads as it did. -/
def journalDamageUptoRow : OpenClaim := { program := "ytbgjlpdeoljmiaa", sum := "a21467cdc74730642d098473f2711cdf56f833f8e13f963f45b527f7a768822d", func := "novation/novationlaw38.JournalDamage", spec := "journalDamage", unfollowed := true, recurses := true, plainKeys := false, apart := false, narrowed := true }
def JournalDamageUptoSaid : Prop := journalDamageUptoRow.holds Try.pinned (OpenSpec.upto journalDamageSpec)

/-- 'novationlaw38.JournalBack', WHERE WHAT IT READS IS OF BULK AT MOST 1048576: true; the input reads as it did. -/
def journalBackUptoRow : OpenClaim := { program := "ytbgjlpdeoljmiaa", sum := "a21467cdc74730642d098473f2711cdf56f833f8e13f963f45b527f7a768822d", func := "novation/novationlaw38.JournalBack", spec := "journalBack", unfollowed := true, recurses := true, plainKeys := false, apart := false, narrowed := true }
def JournalBackUptoSaid : Prop := journalBackUptoRow.holds Try.pinned (OpenSpec.upto journalBackSpec)

/-- 'novationlaw38.JournalMatches', WHERE WHAT IT READS IS OF BULK AT MOST 1048576: true; the input reads as it did. -/
def journalMatchesUptoRow : OpenClaim := { program := "ytbgjlpdeoljmiaa", sum := "a21467cdc74730642d098473f2711cdf56f833f8e13f963f45b527f7a768822d", func := "novation/novationlaw38.JournalMatches", spec := "journalMatches", unfollowed := true, recurses := true, plainKeys := false, apart := false, narrowed := true }
def JournalMatchesUptoSaid : Prop := journalMatchesUptoRow.holds Try.pinned (OpenSpec.upto journalMatchesSpec)

/-- 'novationlaw38.JournalNames', WHERE WHAT IT READS IS OF BULK AT MOST 1048576: true; the input reads as it did. -/
def journalNamesUptoRow : OpenClaim := { program := "ytbgjlpdeoljmiaa", sum := "a21467cdc74730642d098473f2711cdf56f833f8e13f963f45b527f7a768822d", func := "novation/novationlaw38.JournalNames", spec := "journalNames", unfollowed := true, recurses := true, plainKeys := false, apart := false, narrowed := true }
def JournalNamesUptoSaid : Prop := journalNamesUptoRow.holds Try.pinned (OpenSpec.upto journalNamesSpec)

/-- 'novationlaw38.JournalUntil', WHERE WHAT IT READS IS OF BULK AT MOST 1048576: true; the input reads as it did. -/
def journalUntilUptoRow : OpenClaim := { program := "ytbgjlpdeoljmiaa", sum := "a21467cdc74730642d098473f2711cdf56f833f8e13f963f45b527f7a768822d", func := "novation/novationlaw38.JournalUntil", spec := "journalUntil", unfollowed := true, recurses := true, plainKeys := false, apart := false, narrowed := true }
def JournalUntilUptoSaid : Prop := journalUntilUptoRow.holds Try.pinned (OpenSpec.upto journalUntilSpec)

end Rows
end Go.Proofs.Ytbgjlpdeoljmiaa
