/-
  No cell of these rows narrows 'for every input' (looked for: loops, veiled, ifaces, maps, wideKeys, modest, calm, conditions, laid).
  DERIVED. THE GIVEN ROWS OF THIS SEAT. 8 by the template 'for every input the law returns true; each argument reads behind the call as it read before'; 0 by the template 'total and deterministic' (their statements: YtgbolgaodaokcaaTotals.lean).
  GIVEN WITH THE SEED: the statements are not yours to turn. If you find one false, say at which input.
  Laid BY PROGRAM, IN A SANDBOX (cutbox-rows.mjs): the forced cells as the released guide's own fill.sh prints them over the translation bec666ac68574359… (all of the seat's roots in one cut). By AI agents, Wed Nov 11 2026. No macro, syntax, notation, axiom, sorry.
-/
import Derived.Test.YtgbolgaodaokcaaChecked
import GoSem.Claim
import GoSem.ClaimJoined
import GoSem.ClaimMapViews
import Derived.JoinedTies
import Derived.KernelRfl
namespace Go.Proofs.Ytgbolgaodaokcaa
/- THE CELL 'sum', in the pinned program and in every row, IS THE sha256 OF THE DUMP (.gsa) THAT YtgbolgaodaokcaaProg.lean LOADS. Nothing in Lean hashes anything: it is a label: what it is worth is what the hold of that sum in a sandbox is worth. -/
noncomputable def Try.pinned : Pinned := { name := "ytgbolgaodaokcaa", sum := "bec666ac6857435978d831f62bfb10b69bd1fd7b6a0be433c71ef69e79d60d16", checked := Try.checked }
namespace Rows
def none {H : Type} : Left H := { results := [], args := [] }

/-- 'novationlaw42.WaterfallWhole': WHATEVER THE INPUT: true; the input reads as it did. -/
def waterfallWholeSpec : ChangeSpec := { name := "waterfallWhole", fn := fun _ => fun
  | [d1, d2] => { results := [.lit (.bool true)], args := [d1, d2] }
  | _ => none }
def waterfallWholeRow : OpenClaim := { program := "ytgbolgaodaokcaa", sum := "bec666ac6857435978d831f62bfb10b69bd1fd7b6a0be433c71ef69e79d60d16", func := "novation/novationlaw42.WaterfallWhole", spec := "waterfallWhole", unfollowed := true, recurses := true, named := ["math/bits.divideError", "math/bits.overflowError"], plainKeys := false, apart := false }
def WaterfallWholeSaid : Prop := waterfallWholeRow.holds Try.pinned (OpenSpec.ofChange waterfallWholeSpec)

/-- ITS FALSE NEIGHBOUR: 'it returns false'. Refute it at one input. -/
def waterfallWholeWrong : ChangeSpec := { name := "waterfallWhole", fn := fun _ => fun
  | [d1, d2] => { results := [.lit (.bool false)], args := [d1, d2] }
  | _ => none }
def WaterfallWholeWrongFalsely : Prop := waterfallWholeRow.holds Try.pinned (OpenSpec.ofChange waterfallWholeWrong)

/-- 'novationlaw42.WaterfallFair': WHATEVER THE INPUT: true; the input reads as it did. -/
def waterfallFairSpec : ChangeSpec := { name := "waterfallFair", fn := fun _ => fun
  | [d1, d2] => { results := [.lit (.bool true)], args := [d1, d2] }
  | _ => none }
def waterfallFairRow : OpenClaim := { program := "ytgbolgaodaokcaa", sum := "bec666ac6857435978d831f62bfb10b69bd1fd7b6a0be433c71ef69e79d60d16", func := "novation/novationlaw42.WaterfallFair", spec := "waterfallFair", unfollowed := true, recurses := true, named := ["math/bits.divideError", "math/bits.overflowError"], plainKeys := false, apart := false }
def WaterfallFairSaid : Prop := waterfallFairRow.holds Try.pinned (OpenSpec.ofChange waterfallFairSpec)

/-- ITS FALSE NEIGHBOUR: 'it returns false'. Refute it at one input. -/
def waterfallFairWrong : ChangeSpec := { name := "waterfallFair", fn := fun _ => fun
  | [d1, d2] => { results := [.lit (.bool false)], args := [d1, d2] }
  | _ => none }
def WaterfallFairWrongFalsely : Prop := waterfallFairRow.holds Try.pinned (OpenSpec.ofChange waterfallFairWrong)

/-- 'novationlaw42.WaterfallBack': WHATEVER THE INPUT: true; the input reads as it did. -/
def waterfallBackSpec : ChangeSpec := { name := "waterfallBack", fn := fun _ => fun
  | [d1, d2, d3] => { results := [.lit (.bool true)], args := [d1, d2, d3] }
  | _ => none }
def waterfallBackRow : OpenClaim := { program := "ytgbolgaodaokcaa", sum := "bec666ac6857435978d831f62bfb10b69bd1fd7b6a0be433c71ef69e79d60d16", func := "novation/novationlaw42.WaterfallBack", spec := "waterfallBack", unfollowed := true, recurses := true, named := ["math/bits.divideError", "math/bits.overflowError"], plainKeys := false, apart := false }
def WaterfallBackSaid : Prop := waterfallBackRow.holds Try.pinned (OpenSpec.ofChange waterfallBackSpec)

/-- ITS FALSE NEIGHBOUR: 'it returns false'. Refute it at one input. -/
def waterfallBackWrong : ChangeSpec := { name := "waterfallBack", fn := fun _ => fun
  | [d1, d2, d3] => { results := [.lit (.bool false)], args := [d1, d2, d3] }
  | _ => none }
def WaterfallBackWrongFalsely : Prop := waterfallBackRow.holds Try.pinned (OpenSpec.ofChange waterfallBackWrong)

/-- 'novationlaw42.WaterfallMatches': WHATEVER THE INPUT: true; the input reads as it did. -/
def waterfallMatchesSpec : ChangeSpec := { name := "waterfallMatches", fn := fun _ => fun
  | [d1, d2] => { results := [.lit (.bool true)], args := [d1, d2] }
  | _ => none }
def waterfallMatchesRow : OpenClaim := { program := "ytgbolgaodaokcaa", sum := "bec666ac6857435978d831f62bfb10b69bd1fd7b6a0be433c71ef69e79d60d16", func := "novation/novationlaw42.WaterfallMatches", spec := "waterfallMatches", unfollowed := true, recurses := true, named := ["math/bits.divideError", "math/bits.overflowError"], plainKeys := false, apart := false }
def WaterfallMatchesSaid : Prop := waterfallMatchesRow.holds Try.pinned (OpenSpec.ofChange waterfallMatchesSpec)

/-- ITS FALSE NEIGHBOUR: 'it returns false'. Refute it at one input. -/
def waterfallMatchesWrong : ChangeSpec := { name := "waterfallMatches", fn := fun _ => fun
  | [d1, d2] => { results := [.lit (.bool false)], args := [d1, d2] }
  | _ => none }
def WaterfallMatchesWrongFalsely : Prop := waterfallMatchesRow.holds Try.pinned (OpenSpec.ofChange waterfallMatchesWrong)

/-- 'novationlaw42.WaterfallSteps': WHATEVER THE INPUT: true; the input reads as it did. -/
def waterfallStepsSpec : ChangeSpec := { name := "waterfallSteps", fn := fun _ => fun
  | [d1, d2, d3] => { results := [.lit (.bool true)], args := [d1, d2, d3] }
  | _ => none }
def waterfallStepsRow : OpenClaim := { program := "ytgbolgaodaokcaa", sum := "bec666ac6857435978d831f62bfb10b69bd1fd7b6a0be433c71ef69e79d60d16", func := "novation/novationlaw42.WaterfallSteps", spec := "waterfallSteps", unfollowed := true, recurses := true, named := ["math/bits.divideError", "math/bits.overflowError"], plainKeys := false, apart := false }
def WaterfallStepsSaid : Prop := waterfallStepsRow.holds Try.pinned (OpenSpec.ofChange waterfallStepsSpec)

/-- ITS FALSE NEIGHBOUR: 'it returns false'. Refute it at one input. -/
def waterfallStepsWrong : ChangeSpec := { name := "waterfallSteps", fn := fun _ => fun
  | [d1, d2, d3] => { results := [.lit (.bool false)], args := [d1, d2, d3] }
  | _ => none }
def WaterfallStepsWrongFalsely : Prop := waterfallStepsRow.holds Try.pinned (OpenSpec.ofChange waterfallStepsWrong)

/-- 'novationlaw42.WaterfallReturns': WHATEVER THE INPUT: true; the input reads as it did. -/
def waterfallReturnsSpec : ChangeSpec := { name := "waterfallReturns", fn := fun _ => fun
  | [d1, d2, d3] => { results := [.lit (.bool true)], args := [d1, d2, d3] }
  | _ => none }
def waterfallReturnsRow : OpenClaim := { program := "ytgbolgaodaokcaa", sum := "bec666ac6857435978d831f62bfb10b69bd1fd7b6a0be433c71ef69e79d60d16", func := "novation/novationlaw42.WaterfallReturns", spec := "waterfallReturns", unfollowed := true, recurses := true, named := ["math/bits.divideError", "math/bits.overflowError"], plainKeys := false, apart := false }
def WaterfallReturnsSaid : Prop := waterfallReturnsRow.holds Try.pinned (OpenSpec.ofChange waterfallReturnsSpec)

/-- ITS FALSE NEIGHBOUR: 'it returns false'. Refute it at one input. -/
def waterfallReturnsWrong : ChangeSpec := { name := "waterfallReturns", fn := fun _ => fun
  | [d1, d2, d3] => { results := [.lit (.bool false)], args := [d1, d2, d3] }
  | _ => none }
def WaterfallReturnsWrongFalsely : Prop := waterfallReturnsRow.holds Try.pinned (OpenSpec.ofChange waterfallReturnsWrong)

/-- 'novationlaw42.WaterfallNames': WHATEVER THE INPUT: true; the input reads as it did. -/
def waterfallNamesSpec : ChangeSpec := { name := "waterfallNames", fn := fun _ => fun
  | [] => { results := [.lit (.bool true)], args := [] }
  | _ => none }
def waterfallNamesRow : OpenClaim := { program := "ytgbolgaodaokcaa", sum := "bec666ac6857435978d831f62bfb10b69bd1fd7b6a0be433c71ef69e79d60d16", func := "novation/novationlaw42.WaterfallNames", spec := "waterfallNames", unfollowed := true, recurses := true, named := ["math/bits.divideError", "math/bits.overflowError"], plainKeys := false, apart := false }
def WaterfallNamesSaid : Prop := waterfallNamesRow.holds Try.pinned (OpenSpec.ofChange waterfallNamesSpec)

/-- ITS FALSE NEIGHBOUR: 'it returns false'. Refute it at one input. -/
def waterfallNamesWrong : ChangeSpec := { name := "waterfallNames", fn := fun _ => fun
  | [] => { results := [.lit (.bool false)], args := [] }
  | _ => none }
def WaterfallNamesWrongFalsely : Prop := waterfallNamesRow.holds Try.pinned (OpenSpec.ofChange waterfallNamesWrong)

/-- 'novationlaw42.WaterfallAfter': WHATEVER THE INPUT: true; the input reads as it did. -/
def waterfallAfterSpec : ChangeSpec := { name := "waterfallAfter", fn := fun _ => fun
  | [d1, d2] => { results := [.lit (.bool true)], args := [d1, d2] }
  | _ => none }
def waterfallAfterRow : OpenClaim := { program := "ytgbolgaodaokcaa", sum := "bec666ac6857435978d831f62bfb10b69bd1fd7b6a0be433c71ef69e79d60d16", func := "novation/novationlaw42.WaterfallAfter", spec := "waterfallAfter", unfollowed := true, recurses := true, named := ["math/bits.divideError", "math/bits.overflowError"], plainKeys := false, apart := false }
def WaterfallAfterSaid : Prop := waterfallAfterRow.holds Try.pinned (OpenSpec.ofChange waterfallAfterSpec)

/-- ITS FALSE NEIGHBOUR: 'it returns false'. Refute it at one input. -/
def waterfallAfterWrong : ChangeSpec := { name := "waterfallAfter", fn := fun _ => fun
  | [d1, d2] => { results := [.lit (.bool false)], args := [d1, d2] }
  | _ => none }
def WaterfallAfterWrongFalsely : Prop := waterfallAfterRow.holds Try.pinned (OpenSpec.ofChange waterfallAfterWrong)

/- THE SECOND FORM. 'bulk': how many values and letters a reading holds, each counted each time it is reached (what is shared counts as often as it is met; a slice's spare places count too). A statement '..UptoSaid' is the law's where the arguments, and the package variables that the reading takes, are together of bulk at most 1048576: NARROWER than '..Said'. Prove '..Said' where nothing that the law and all that it calls make is longer than what came in: it says more and counts as full. Else prove '..UptoSaid'. A law counts once. -/
mutual
def uptoBulk {H : Type} : DataW H → Nat
  | .lit (.string bytes) => bytes.length + 1
  | .lit _ => 1
  | .nil => 1
  | .ptr d => uptoBulk d + 1
  | .slice elems spare => uptoBulkAll elems + uptoBulkAll spare + 1
  | .agg parts => uptoBulkAll parts + 1
  | .iface _ d => uptoBulk d + 1
  | .map entries => uptoBulkEntries entries + 1
  | .held _ => 1
def uptoBulkAll {H : Type} : List (DataW H) → Nat
  | [] => 0
  | d :: r => uptoBulk d + uptoBulkAll r
def uptoBulkEntries {H : Type} : List (Lit × DataW H) → Nat
  | [] => 0
  | x :: r => uptoBulkEntry x + uptoBulkEntries r
def uptoBulkEntry {H : Type} : Lit × DataW H → Nat
  | (.string bytes, d) => bytes.length + uptoBulk d + 1
  | (_, d) => uptoBulk d + 1
 end
def uptoSmall : (H : Type) → List (DataW H) → Bool := fun _ ds => decide (uptoBulkAll ds ≤ 1048576)
def OpenSpec.upto (s : _root_.Go.ChangeSpec) : _root_.Go.OpenSpec := { _root_.Go.OpenSpec.ofChange s with cond := some uptoSmall }

/-- 'novationlaw42.WaterfallWhole', WHERE WHAT IT READS IS OF BULK AT MOST 1048576: true; the input reads as it did. -/
def waterfallWholeUptoRow : OpenClaim := { program := "ytgbolgaodaokcaa", sum := "bec666ac6857435978d831f62bfb10b69bd1fd7b6a0be433c71ef69e79d60d16", func := "novation/novationlaw42.WaterfallWhole", spec := "waterfallWhole", unfollowed := true, recurses := true, named := ["math/bits.divideError", "math/bits.overflowError"], plainKeys := false, apart := false, narrowed := true }
def WaterfallWholeUptoSaid : Prop := waterfallWholeUptoRow.holds Try.pinned (OpenSpec.upto waterfallWholeSpec)

/-- 'novationlaw42.WaterfallFair', WHERE WHAT IT READS IS OF BULK AT MOST 1048576: true; the input reads as it did. -/
def waterfallFairUptoRow : OpenClaim := { program := "ytgbolgaodaokcaa", sum := "bec666ac6857435978d831f62bfb10b69bd1fd7b6a0be433c71ef69e79d60d16", func := "novation/novationlaw42.WaterfallFair", spec := "waterfallFair", unfollowed := true, recurses := true, named := ["math/bits.divideError", "math/bits.overflowError"], plainKeys := false, apart := false, narrowed := true }
def WaterfallFairUptoSaid : Prop := waterfallFairUptoRow.holds Try.pinned (OpenSpec.upto waterfallFairSpec)

/-- 'novationlaw42.WaterfallBack', WHERE WHAT IT READS IS OF BULK AT MOST 1048576: true; the input reads as it did. -/
def waterfallBackUptoRow : OpenClaim := { program := "ytgbolgaodaokcaa", sum := "bec666ac6857435978d831f62bfb10b69bd1fd7b6a0be433c71ef69e79d60d16", func := "novation/novationlaw42.WaterfallBack", spec := "waterfallBack", unfollowed := true, recurses := true, named := ["math/bits.divideError", "math/bits.overflowError"], plainKeys := false, apart := false, narrowed := true }
def WaterfallBackUptoSaid : Prop := waterfallBackUptoRow.holds Try.pinned (OpenSpec.upto waterfallBackSpec)

/-- 'novationlaw42.WaterfallMatches', WHERE WHAT IT READS IS OF BULK AT MOST 1048576: true; the input reads as it did. -/
def waterfallMatchesUptoRow : OpenClaim := { program := "ytgbolgaodaokcaa", sum := "bec666ac6857435978d831f62bfb10b69bd1fd7b6a0be433c71ef69e79d60d16", func := "novation/novationlaw42.WaterfallMatches", spec := "waterfallMatches", unfollowed := true, recurses := true, named := ["math/bits.divideError", "math/bits.overflowError"], plainKeys := false, apart := false, narrowed := true }
def WaterfallMatchesUptoSaid : Prop := waterfallMatchesUptoRow.holds Try.pinned (OpenSpec.upto waterfallMatchesSpec)

/-- 'novationlaw42.WaterfallSteps', WHERE WHAT IT READS IS OF BULK AT MOST 1048576: true; the input reads as it did. -/
def waterfallStepsUptoRow : OpenClaim := { program := "ytgbolgaodaokcaa", sum := "bec666ac6857435978d831f62bfb10b69bd1fd7b6a0be433c71ef69e79d60d16", func := "novation/novationlaw42.WaterfallSteps", spec := "waterfallSteps", unfollowed := true, recurses := true, named := ["math/bits.divideError", "math/bits.overflowError"], plainKeys := false, apart := false, narrowed := true }
def WaterfallStepsUptoSaid : Prop := waterfallStepsUptoRow.holds Try.pinned (OpenSpec.upto waterfallStepsSpec)

/-- 'novationlaw42.WaterfallReturns', WHERE WHAT IT READS IS OF BULK AT MOST 1048576: true; the input reads as it did. -/
def waterfallReturnsUptoRow : OpenClaim := { program := "ytgbolgaodaokcaa", sum := "bec666ac6857435978d831f62bfb10b69bd1fd7b6a0be433c71ef69e79d60d16", func := "novation/novationlaw42.WaterfallReturns", spec := "waterfallReturns", unfollowed := true, recurses := true, named := ["math/bits.divideError", "math/bits.overflowError"], plainKeys := false, apart := false, narrowed := true }
def WaterfallReturnsUptoSaid : Prop := waterfallReturnsUptoRow.holds Try.pinned (OpenSpec.upto waterfallReturnsSpec)

/-- 'novationlaw42.WaterfallNames', WHERE WHAT IT READS IS OF BULK AT MOST 1048576: true; the input reads as it did. -/
def waterfallNamesUptoRow : OpenClaim := { program := "ytgbolgaodaokcaa", sum := "bec666ac6857435978d831f62bfb10b69bd1fd7b6a0be433c71ef69e79d60d16", func := "novation/novationlaw42.WaterfallNames", spec := "waterfallNames", unfollowed := true, recurses := true, named := ["math/bits.divideError", "math/bits.overflowError"], plainKeys := false, apart := false, narrowed := true }
def WaterfallNamesUptoSaid : Prop := waterfallNamesUptoRow.holds Try.pinned (OpenSpec.upto waterfallNamesSpec)

/-- 'novationlaw42.WaterfallAfter', WHERE WHAT IT READS IS OF BULK AT MOST 1048576: true; the input reads as it did. -/
def waterfallAfterUptoRow : OpenClaim := { program := "ytgbolgaodaokcaa", sum := "bec666ac6857435978d831f62bfb10b69bd1fd7b6a0be433c71ef69e79d60d16", func := "novation/novationlaw42.WaterfallAfter", spec := "waterfallAfter", unfollowed := true, recurses := true, named := ["math/bits.divideError", "math/bits.overflowError"], plainKeys := false, apart := false, narrowed := true }
def WaterfallAfterUptoSaid : Prop := waterfallAfterUptoRow.holds Try.pinned (OpenSpec.upto waterfallAfterSpec)

end Rows
end Go.Proofs.Ytgbolgaodaokcaa
