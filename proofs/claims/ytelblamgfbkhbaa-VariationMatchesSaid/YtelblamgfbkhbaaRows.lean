/-
  No cell of these rows narrows 'for every input' (looked for: loops, veiled, ifaces, maps, wideKeys, modest, calm, conditions, laid).
  DERIVED. THE GIVEN ROWS OF THIS SEAT. 7 by the template 'for every input the law returns true; each argument reads behind the call as it read before'; 0 by the template 'total and deterministic' (their statements: YtelblamgfbkhbaaTotals.lean).
  GIVEN WITH THE SEED: the statements are not yours to turn. If you find one false, say at which input.
  Laid BY PROGRAM, IN A SANDBOX (cutbox-rows.mjs): the forced cells as the released guide's own fill.sh prints them over the translation ac946bb54b6057fb… (all of the seat's roots in one cut). By AI agents, Wed Nov 11 2026. No macro, syntax, notation, axiom, sorry.
-/
import Derived.Test.YtelblamgfbkhbaaChecked
import GoSem.Claim
import GoSem.ClaimJoined
import GoSem.ClaimMapViews
import Derived.JoinedTies
import Derived.KernelRfl
namespace Go.Proofs.Ytelblamgfbkhbaa
/- THE CELL 'sum', in the pinned program and in every row, IS THE sha256 OF THE DUMP (.gsa) THAT YtelblamgfbkhbaaProg.lean LOADS. Nothing in Lean hashes anything: it is a label: what it is worth is what the hold of that sum in a sandbox is worth. -/
noncomputable def Try.pinned : Pinned := { name := "ytelblamgfbkhbaa", sum := "ac946bb54b6057fb44949b37e10676dd6f8d52ac9674653e1581b1d1afb5a82a", checked := Try.checked }
namespace Rows
def none {H : Type} : Left H := { results := [], args := [] }

/-- 'novationlaw37.VariationRuns': WHATEVER THE INPUT: true; the input reads as it did. -/
def variationRunsSpec : ChangeSpec := { name := "variationRuns", fn := fun _ => fun
  | [d] => { results := [.lit (.bool true)], args := [d] }
  | _ => none }
def variationRunsRow : OpenClaim := { program := "ytelblamgfbkhbaa", sum := "ac946bb54b6057fb44949b37e10676dd6f8d52ac9674653e1581b1d1afb5a82a", func := "novation/novationlaw37.VariationRuns", spec := "variationRuns", inPlace := ["slices.overlaps[novation/api.VariationPosition]"], unfollowed := true, recurses := true, apart := false }
def VariationRunsSaid : Prop := variationRunsRow.holds Try.pinned (OpenSpec.ofChange variationRunsSpec)

/-- ITS FALSE NEIGHBOUR: 'it returns false'. Refute it at one input. -/
def variationRunsWrong : ChangeSpec := { name := "variationRuns", fn := fun _ => fun
  | [d] => { results := [.lit (.bool false)], args := [d] }
  | _ => none }
def VariationRunsWrongFalsely : Prop := variationRunsRow.holds Try.pinned (OpenSpec.ofChange variationRunsWrong)

/-- 'novationlaw37.VariationDays': WHATEVER THE INPUT: true; the input reads as it did. -/
def variationDaysSpec : ChangeSpec := { name := "variationDays", fn := fun _ => fun
  | [d1, d2] => { results := [.lit (.bool true)], args := [d1, d2] }
  | _ => none }
def variationDaysRow : OpenClaim := { program := "ytelblamgfbkhbaa", sum := "ac946bb54b6057fb44949b37e10676dd6f8d52ac9674653e1581b1d1afb5a82a", func := "novation/novationlaw37.VariationDays", spec := "variationDays", inPlace := ["slices.overlaps[novation/api.VariationPosition]"], unfollowed := true, recurses := true, apart := false }
def VariationDaysSaid : Prop := variationDaysRow.holds Try.pinned (OpenSpec.ofChange variationDaysSpec)

/-- ITS FALSE NEIGHBOUR: 'it returns false'. Refute it at one input. -/
def variationDaysWrong : ChangeSpec := { name := "variationDays", fn := fun _ => fun
  | [d1, d2] => { results := [.lit (.bool false)], args := [d1, d2] }
  | _ => none }
def VariationDaysWrongFalsely : Prop := variationDaysRow.holds Try.pinned (OpenSpec.ofChange variationDaysWrong)

/-- 'novationlaw37.VariationFlat': WHATEVER THE INPUT: true; the input reads as it did. -/
def variationFlatSpec : ChangeSpec := { name := "variationFlat", fn := fun _ => fun
  | [d] => { results := [.lit (.bool true)], args := [d] }
  | _ => none }
def variationFlatRow : OpenClaim := { program := "ytelblamgfbkhbaa", sum := "ac946bb54b6057fb44949b37e10676dd6f8d52ac9674653e1581b1d1afb5a82a", func := "novation/novationlaw37.VariationFlat", spec := "variationFlat", inPlace := ["slices.overlaps[novation/api.VariationPosition]"], unfollowed := true, recurses := true, apart := false }
def VariationFlatSaid : Prop := variationFlatRow.holds Try.pinned (OpenSpec.ofChange variationFlatSpec)

/-- ITS FALSE NEIGHBOUR: 'it returns false'. Refute it at one input. -/
def variationFlatWrong : ChangeSpec := { name := "variationFlat", fn := fun _ => fun
  | [d] => { results := [.lit (.bool false)], args := [d] }
  | _ => none }
def VariationFlatWrongFalsely : Prop := variationFlatRow.holds Try.pinned (OpenSpec.ofChange variationFlatWrong)

/-- 'novationlaw37.VariationBack': WHATEVER THE INPUT: true; the input reads as it did. -/
def variationBackSpec : ChangeSpec := { name := "variationBack", fn := fun _ => fun
  | [d1, d2] => { results := [.lit (.bool true)], args := [d1, d2] }
  | _ => none }
def variationBackRow : OpenClaim := { program := "ytelblamgfbkhbaa", sum := "ac946bb54b6057fb44949b37e10676dd6f8d52ac9674653e1581b1d1afb5a82a", func := "novation/novationlaw37.VariationBack", spec := "variationBack", inPlace := ["slices.overlaps[novation/api.VariationPosition]"], unfollowed := true, recurses := true, apart := false }
def VariationBackSaid : Prop := variationBackRow.holds Try.pinned (OpenSpec.ofChange variationBackSpec)

/-- ITS FALSE NEIGHBOUR: 'it returns false'. Refute it at one input. -/
def variationBackWrong : ChangeSpec := { name := "variationBack", fn := fun _ => fun
  | [d1, d2] => { results := [.lit (.bool false)], args := [d1, d2] }
  | _ => none }
def VariationBackWrongFalsely : Prop := variationBackRow.holds Try.pinned (OpenSpec.ofChange variationBackWrong)

/-- 'novationlaw37.VariationNames': WHATEVER THE INPUT: true; the input reads as it did. -/
def variationNamesSpec : ChangeSpec := { name := "variationNames", fn := fun _ => fun
  | [] => { results := [.lit (.bool true)], args := [] }
  | _ => none }
def variationNamesRow : OpenClaim := { program := "ytelblamgfbkhbaa", sum := "ac946bb54b6057fb44949b37e10676dd6f8d52ac9674653e1581b1d1afb5a82a", func := "novation/novationlaw37.VariationNames", spec := "variationNames", inPlace := ["slices.overlaps[novation/api.VariationPosition]"], unfollowed := true, recurses := true, apart := false }
def VariationNamesSaid : Prop := variationNamesRow.holds Try.pinned (OpenSpec.ofChange variationNamesSpec)

/-- ITS FALSE NEIGHBOUR: 'it returns false'. Refute it at one input. -/
def variationNamesWrong : ChangeSpec := { name := "variationNames", fn := fun _ => fun
  | [] => { results := [.lit (.bool false)], args := [] }
  | _ => none }
def VariationNamesWrongFalsely : Prop := variationNamesRow.holds Try.pinned (OpenSpec.ofChange variationNamesWrong)

/-- 'novationlaw37.VariationSums': WHATEVER THE INPUT: true; the input reads as it did. -/
def variationSumsSpec : ChangeSpec := { name := "variationSums", fn := fun _ => fun
  | [d1, d2] => { results := [.lit (.bool true)], args := [d1, d2] }
  | _ => none }
def variationSumsRow : OpenClaim := { program := "ytelblamgfbkhbaa", sum := "ac946bb54b6057fb44949b37e10676dd6f8d52ac9674653e1581b1d1afb5a82a", func := "novation/novationlaw37.VariationSums", spec := "variationSums", inPlace := ["slices.overlaps[novation/api.VariationPosition]"], unfollowed := true, recurses := true, apart := false }
def VariationSumsSaid : Prop := variationSumsRow.holds Try.pinned (OpenSpec.ofChange variationSumsSpec)

/-- ITS FALSE NEIGHBOUR: 'it returns false'. Refute it at one input. -/
def variationSumsWrong : ChangeSpec := { name := "variationSums", fn := fun _ => fun
  | [d1, d2] => { results := [.lit (.bool false)], args := [d1, d2] }
  | _ => none }
def VariationSumsWrongFalsely : Prop := variationSumsRow.holds Try.pinned (OpenSpec.ofChange variationSumsWrong)

/-- 'novationlaw37.VariationMatches': WHATEVER THE INPUT: true; the input reads as it did. -/
def variationMatchesSpec : ChangeSpec := { name := "variationMatches", fn := fun _ => fun
  | [d1, d2, d3] => { results := [.lit (.bool true)], args := [d1, d2, d3] }
  | _ => none }
def variationMatchesRow : OpenClaim := { program := "ytelblamgfbkhbaa", sum := "ac946bb54b6057fb44949b37e10676dd6f8d52ac9674653e1581b1d1afb5a82a", func := "novation/novationlaw37.VariationMatches", spec := "variationMatches", inPlace := ["slices.overlaps[novation/api.VariationPosition]"], unfollowed := true, recurses := true, apart := false }
def VariationMatchesSaid : Prop := variationMatchesRow.holds Try.pinned (OpenSpec.ofChange variationMatchesSpec)

/-- ITS FALSE NEIGHBOUR: 'it returns false'. Refute it at one input. -/
def variationMatchesWrong : ChangeSpec := { name := "variationMatches", fn := fun _ => fun
  | [d1, d2, d3] => { results := [.lit (.bool false)], args := [d1, d2, d3] }
  | _ => none }
def VariationMatchesWrongFalsely : Prop := variationMatchesRow.holds Try.pinned (OpenSpec.ofChange variationMatchesWrong)

/- THE SECOND FORM. 'bulk': how many values and letters a reading holds, each counted each time it is reached (what is shared counts as often as it is met; a slice's spare places count too). A statement '..UptoSaid' is the law's where the arguments, and the package variables that the reading takes, are together of bulk at most 1048576: NARROWER than '..Said'. Prove '..Said' where nothing that the law and all that it calls make is longer than what came in: it says more and counts as full. Else prove '..UptoSaid'. A law counts once. -/
mutual
def uptoBulk {H : Type} : DataW H → Nat
  | .lit (.string bytes) => bytes.length + 1
  | .lit _ => 1
  | .nil => 1
  | .ptr d => uptoBulk d + 1
  | .slice elems spare => uptoBulkAll elems + uptoBulkAll spare + 1
  | .agg parts => uptoBulkAll parts + 1
  | .iface _ d => uptoBulk d + 1
  | .map entries => uptoBulkEntries entries + 1
  | .held _ => 1
def uptoBulkAll {H : Type} : List (DataW H) → Nat
  | [] => 0
  | d :: r => uptoBulk d + uptoBulkAll r
def uptoBulkEntries {H : Type} : List (Lit × DataW H) → Nat
  | [] => 0
  | x :: r => uptoBulkEntry x + uptoBulkEntries r
def uptoBulkEntry {H : Type} : Lit × DataW H → Nat
  | (.string bytes, d) => bytes.length + uptoBulk d + 1
  | (_, d) => uptoBulk d + 1
 end
def uptoSmall : (H : Type) → List (DataW H) → Bool := fun _ ds => decide (uptoBulkAll ds ≤ 1048576)
def OpenSpec.upto (s : _root_.Go.ChangeSpec) : _root_.Go.OpenSpec := { _root_.Go.OpenSpec.ofChange s with cond := some uptoSmall }

/-- 'novationlaw37.VariationRuns', WHERE WHAT IT READS IS OF BULK AT MOST 1048576: true; the input reads as it did. -/
def variationRunsUptoRow : OpenClaim := { program := "ytelblamgfbkhbaa", sum := "ac946bb54b6057fb44949b37e10676dd6f8d52ac9674653e1581b1d1afb5a82a", func := "novation/novationlaw37.VariationRuns", spec := "variationRuns", inPlace := ["slices.overlaps[novation/api.VariationPosition]"], unfollowed := true, recurses := true, apart := false, narrowed := true }
def VariationRunsUptoSaid : Prop := variationRunsUptoRow.holds Try.pinned (OpenSpec.upto variationRunsSpec)

/-- 'novationlaw37.VariationDays', WHERE WHAT IT READS IS OF BULK AT MOST 1048576: true; the input reads as it did. -/
def variationDaysUptoRow : OpenClaim := { program := "ytelblamgfbkhbaa", sum := "ac946bb54b6057fb44949b37e10676dd6f8d52ac9674653e1581b1d1afb5a82a", func := "novation/novationlaw37.VariationDays", spec := "variationDays", inPlace := ["slices.overlaps[novation/api.VariationPosition]"], unfollowed := true, recurses := true, apart := false, narrowed := true }
def VariationDaysUptoSaid : Prop := variationDaysUptoRow.holds Try.pinned (OpenSpec.upto variationDaysSpec)

/-- 'novationlaw37.VariationFlat', WHERE WHAT IT READS IS OF BULK AT MOST 1048576: true; the input reads as it did. -/
def variationFlatUptoRow : OpenClaim := { program := "ytelblamgfbkhbaa", sum := "ac946bb54b6057fb44949b37e10676dd6f8d52ac9674653e1581b1d1afb5a82a", func := "novation/novationlaw37.VariationFlat", spec := "variationFlat", inPlace := ["slices.overlaps[novation/api.VariationPosition]"], unfollowed := true, recurses := true, apart := false, narrowed := true }
def VariationFlatUptoSaid : Prop := variationFlatUptoRow.holds Try.pinned (OpenSpec.upto variationFlatSpec)

/-- 'novationlaw37.VariationBack', WHERE WHAT IT READS IS OF BULK AT MOST 1048576: true; the input reads as it did. -/
def variationBackUptoRow : OpenClaim := { program := "ytelblamgfbkhbaa", sum := "ac946bb54b6057fb44949b37e10676dd6f8d52ac9674653e1581b1d1afb5a82a", func := "novation/novationlaw37.VariationBack", spec := "variationBack", inPlace := ["slices.overlaps[novation/api.VariationPosition]"], unfollowed := true, recurses := true, apart := false, narrowed := true }
def VariationBackUptoSaid : Prop := variationBackUptoRow.holds Try.pinned (OpenSpec.upto variationBackSpec)

/-- 'novationlaw37.VariationNames', WHERE WHAT IT READS IS OF BULK AT MOST 1048576: true; the input reads as it did. -/
def variationNamesUptoRow : OpenClaim := { program := "ytelblamgfbkhbaa", sum := "ac946bb54b6057fb44949b37e10676dd6f8d52ac9674653e1581b1d1afb5a82a", func := "novation/novationlaw37.VariationNames", spec := "variationNames", inPlace := ["slices.overlaps[novation/api.VariationPosition]"], unfollowed := true, recurses := true, apart := false, narrowed := true }
def VariationNamesUptoSaid : Prop := variationNamesUptoRow.holds Try.pinned (OpenSpec.upto variationNamesSpec)

/-- 'novationlaw37.VariationSums', WHERE WHAT IT READS IS OF BULK AT MOST 1048576: true; the input reads as it did. -/
def variationSumsUptoRow : OpenClaim := { program := "ytelblamgfbkhbaa", sum := "ac946bb54b6057fb44949b37e10676dd6f8d52ac9674653e1581b1d1afb5a82a", func := "novation/novationlaw37.VariationSums", spec := "variationSums", inPlace := ["slices.overlaps[novation/api.VariationPosition]"], unfollowed := true, recurses := true, apart := false, narrowed := true }
def VariationSumsUptoSaid : Prop := variationSumsUptoRow.holds Try.pinned (OpenSpec.upto variationSumsSpec)

/-- 'novationlaw37.VariationMatches', WHERE WHAT IT READS IS OF BULK AT MOST 1048576: true; the input reads as it did. -/
def variationMatchesUptoRow : OpenClaim := { program := "ytelblamgfbkhbaa", sum := "ac946bb54b6057fb44949b37e10676dd6f8d52ac9674653e1581b1d1afb5a82a", func := "novation/novationlaw37.VariationMatches", spec := "variationMatches", inPlace := ["slices.overlaps[novation/api.VariationPosition]"], unfollowed := true, recurses := true, apart := false, narrowed := true }
def VariationMatchesUptoSaid : Prop := variationMatchesUptoRow.holds Try.pinned (OpenSpec.upto variationMatchesSpec)

end Rows
end Go.Proofs.Ytelblamgfbkhbaa
