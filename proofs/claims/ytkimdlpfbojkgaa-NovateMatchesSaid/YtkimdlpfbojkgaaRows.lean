/-
  No cell of these rows narrows 'for every input' (looked for: loops, veiled, ifaces, maps, wideKeys, modest, calm, conditions, laid).
  DERIVED. THE GIVEN ROWS OF THIS SEAT. 8 by the template 'for every input the law returns true; each argument reads behind the call as it read before'; 0 by the template 'total and deterministic' (their statements: YtkimdlpfbojkgaaTotals.lean).
  GIVEN WITH THE SEED: the statements are not yours to turn. If you find one false, say at which input.
  Laid BY PROGRAM, IN A SANDBOX (cutbox-rows.mjs): the forced cells as the released guide's own fill.sh prints them over the translation b2dabf3881ab5156… (all of the seat's roots in one cut). By AI agents, Wed Nov 11 2026. No macro, syntax, notation, axiom, sorry.
-/
import Derived.Test.YtkimdlpfbojkgaaChecked
import GoSem.Claim
import GoSem.ClaimJoined
import GoSem.ClaimMapViews
import Derived.JoinedTies
import Derived.KernelRfl
namespace Go.Proofs.Ytkimdlpfbojkgaa
/- THE CELL 'sum', in the pinned program and in every row, IS THE sha256 OF THE DUMP (.gsa) THAT YtkimdlpfbojkgaaProg.lean LOADS. Nothing in Lean hashes anything: it is a label: what it is worth is what the hold of that sum in a sandbox is worth. -/
noncomputable def Try.pinned : Pinned := { name := "ytkimdlpfbojkgaa", sum := "b2dabf3881ab5156116611fdf4afbdb024b7f4588f874b4548096fb4400cd3a2", checked := Try.checked }
namespace Rows
def none {H : Type} : Left H := { results := [], args := [] }

/-- 'novationlaw34.NovateLegs': WHATEVER THE INPUT: true; the input reads as it did. -/
def novateLegsSpec : ChangeSpec := { name := "novateLegs", fn := fun _ => fun
  | [d] => { results := [.lit (.bool true)], args := [d] }
  | _ => none }
def novateLegsRow : OpenClaim := { program := "ytkimdlpfbojkgaa", sum := "b2dabf3881ab5156116611fdf4afbdb024b7f4588f874b4548096fb4400cd3a2", func := "novation/novationlaw34.NovateLegs", spec := "novateLegs", unfollowed := true, recurses := true, apart := false }
def NovateLegsSaid : Prop := novateLegsRow.holds Try.pinned (OpenSpec.ofChange novateLegsSpec)

/-- ITS FALSE NEIGHBOUR: 'it returns false'. Refute it at one input. -/
def novateLegsWrong : ChangeSpec := { name := "novateLegs", fn := fun _ => fun
  | [d] => { results := [.lit (.bool false)], args := [d] }
  | _ => none }
def NovateLegsWrongFalsely : Prop := novateLegsRow.holds Try.pinned (OpenSpec.ofChange novateLegsWrong)

/-- 'novationlaw34.NovateSum': WHATEVER THE INPUT: true; the input reads as it did. -/
def novateSumSpec : ChangeSpec := { name := "novateSum", fn := fun _ => fun
  | [d1, d2, d3, d4] => { results := [.lit (.bool true)], args := [d1, d2, d3, d4] }
  | _ => none }
def novateSumRow : OpenClaim := { program := "ytkimdlpfbojkgaa", sum := "b2dabf3881ab5156116611fdf4afbdb024b7f4588f874b4548096fb4400cd3a2", func := "novation/novationlaw34.NovateSum", spec := "novateSum", unfollowed := true, recurses := true, apart := false }
def NovateSumSaid : Prop := novateSumRow.holds Try.pinned (OpenSpec.ofChange novateSumSpec)

/-- ITS FALSE NEIGHBOUR: 'it returns false'. Refute it at one input. -/
def novateSumWrong : ChangeSpec := { name := "novateSum", fn := fun _ => fun
  | [d1, d2, d3, d4] => { results := [.lit (.bool false)], args := [d1, d2, d3, d4] }
  | _ => none }
def NovateSumWrongFalsely : Prop := novateSumRow.holds Try.pinned (OpenSpec.ofChange novateSumWrong)

/-- 'novationlaw34.NovateUndo': WHATEVER THE INPUT: true; the input reads as it did. -/
def novateUndoSpec : ChangeSpec := { name := "novateUndo", fn := fun _ => fun
  | [d1, d2, d3, d4, d5] => { results := [.lit (.bool true)], args := [d1, d2, d3, d4, d5] }
  | _ => none }
def novateUndoRow : OpenClaim := { program := "ytkimdlpfbojkgaa", sum := "b2dabf3881ab5156116611fdf4afbdb024b7f4588f874b4548096fb4400cd3a2", func := "novation/novationlaw34.NovateUndo", spec := "novateUndo", unfollowed := true, recurses := true, apart := false }
def NovateUndoSaid : Prop := novateUndoRow.holds Try.pinned (OpenSpec.ofChange novateUndoSpec)

/-- ITS FALSE NEIGHBOUR: 'it returns false'. Refute it at one input. -/
def novateUndoWrong : ChangeSpec := { name := "novateUndo", fn := fun _ => fun
  | [d1, d2, d3, d4, d5] => { results := [.lit (.bool false)], args := [d1, d2, d3, d4, d5] }
  | _ => none }
def NovateUndoWrongFalsely : Prop := novateUndoRow.holds Try.pinned (OpenSpec.ofChange novateUndoWrong)

/-- 'novationlaw34.NovateRuns': WHATEVER THE INPUT: true; the input reads as it did. -/
def novateRunsSpec : ChangeSpec := { name := "novateRuns", fn := fun _ => fun
  | [d] => { results := [.lit (.bool true)], args := [d] }
  | _ => none }
def novateRunsRow : OpenClaim := { program := "ytkimdlpfbojkgaa", sum := "b2dabf3881ab5156116611fdf4afbdb024b7f4588f874b4548096fb4400cd3a2", func := "novation/novationlaw34.NovateRuns", spec := "novateRuns", unfollowed := true, recurses := true, apart := false }
def NovateRunsSaid : Prop := novateRunsRow.holds Try.pinned (OpenSpec.ofChange novateRunsSpec)

/-- ITS FALSE NEIGHBOUR: 'it returns false'. Refute it at one input. -/
def novateRunsWrong : ChangeSpec := { name := "novateRuns", fn := fun _ => fun
  | [d] => { results := [.lit (.bool false)], args := [d] }
  | _ => none }
def NovateRunsWrongFalsely : Prop := novateRunsRow.holds Try.pinned (OpenSpec.ofChange novateRunsWrong)

/-- 'novationlaw34.NovateNames': WHATEVER THE INPUT: true; the input reads as it did. -/
def novateNamesSpec : ChangeSpec := { name := "novateNames", fn := fun _ => fun
  | [] => { results := [.lit (.bool true)], args := [] }
  | _ => none }
def novateNamesRow : OpenClaim := { program := "ytkimdlpfbojkgaa", sum := "b2dabf3881ab5156116611fdf4afbdb024b7f4588f874b4548096fb4400cd3a2", func := "novation/novationlaw34.NovateNames", spec := "novateNames", unfollowed := true, recurses := true, apart := false }
def NovateNamesSaid : Prop := novateNamesRow.holds Try.pinned (OpenSpec.ofChange novateNamesSpec)

/-- ITS FALSE NEIGHBOUR: 'it returns false'. Refute it at one input. -/
def novateNamesWrong : ChangeSpec := { name := "novateNames", fn := fun _ => fun
  | [] => { results := [.lit (.bool false)], args := [] }
  | _ => none }
def NovateNamesWrongFalsely : Prop := novateNamesRow.holds Try.pinned (OpenSpec.ofChange novateNamesWrong)

/-- 'novationlaw34.NovateOnce': WHATEVER THE INPUT: true; the input reads as it did. -/
def novateOnceSpec : ChangeSpec := { name := "novateOnce", fn := fun _ => fun
  | [d1, d2] => { results := [.lit (.bool true)], args := [d1, d2] }
  | _ => none }
def novateOnceRow : OpenClaim := { program := "ytkimdlpfbojkgaa", sum := "b2dabf3881ab5156116611fdf4afbdb024b7f4588f874b4548096fb4400cd3a2", func := "novation/novationlaw34.NovateOnce", spec := "novateOnce", unfollowed := true, recurses := true, apart := false }
def NovateOnceSaid : Prop := novateOnceRow.holds Try.pinned (OpenSpec.ofChange novateOnceSpec)

/-- ITS FALSE NEIGHBOUR: 'it returns false'. Refute it at one input. -/
def novateOnceWrong : ChangeSpec := { name := "novateOnce", fn := fun _ => fun
  | [d1, d2] => { results := [.lit (.bool false)], args := [d1, d2] }
  | _ => none }
def NovateOnceWrongFalsely : Prop := novateOnceRow.holds Try.pinned (OpenSpec.ofChange novateOnceWrong)

/-- 'novationlaw34.NovateMatches': WHATEVER THE INPUT: true; the input reads as it did. -/
def novateMatchesSpec : ChangeSpec := { name := "novateMatches", fn := fun _ => fun
  | [d1, d2] => { results := [.lit (.bool true)], args := [d1, d2] }
  | _ => none }
def novateMatchesRow : OpenClaim := { program := "ytkimdlpfbojkgaa", sum := "b2dabf3881ab5156116611fdf4afbdb024b7f4588f874b4548096fb4400cd3a2", func := "novation/novationlaw34.NovateMatches", spec := "novateMatches", unfollowed := true, recurses := true, apart := false }
def NovateMatchesSaid : Prop := novateMatchesRow.holds Try.pinned (OpenSpec.ofChange novateMatchesSpec)

/-- ITS FALSE NEIGHBOUR: 'it returns false'. Refute it at one input. -/
def novateMatchesWrong : ChangeSpec := { name := "novateMatches", fn := fun _ => fun
  | [d1, d2] => { results := [.lit (.bool false)], args := [d1, d2] }
  | _ => none }
def NovateMatchesWrongFalsely : Prop := novateMatchesRow.holds Try.pinned (OpenSpec.ofChange novateMatchesWrong)

/-- 'novationlaw34.NovateFlat': WHATEVER THE INPUT: true; the input reads as it did. -/
def novateFlatSpec : ChangeSpec := { name := "novateFlat", fn := fun _ => fun
  | [d] => { results := [.lit (.bool true)], args := [d] }
  | _ => none }
def novateFlatRow : OpenClaim := { program := "ytkimdlpfbojkgaa", sum := "b2dabf3881ab5156116611fdf4afbdb024b7f4588f874b4548096fb4400cd3a2", func := "novation/novationlaw34.NovateFlat", spec := "novateFlat", unfollowed := true, recurses := true, apart := false }
def NovateFlatSaid : Prop := novateFlatRow.holds Try.pinned (OpenSpec.ofChange novateFlatSpec)

/-- ITS FALSE NEIGHBOUR: 'it returns false'. Refute it at one input. -/
def novateFlatWrong : ChangeSpec := { name := "novateFlat", fn := fun _ => fun
  | [d] => { results := [.lit (.bool false)], args := [d] }
  | _ => none }
def NovateFlatWrongFalsely : Prop := novateFlatRow.holds Try.pinned (OpenSpec.ofChange novateFlatWrong)

/- THE SECOND FORM. 'bulk': how many values and letters a reading holds, each counted each time it is reached (what is shared counts as often as it is met; a slice's spare places count too). A statement '..UptoSaid' is the law's where the arguments, and the package variables that the reading takes, are together of bulk at most 1048576: NARROWER than '..Said'. Prove '..Said' where nothing that the law and all that it calls make is longer than what came in: it says more and counts as full. Else prove '..UptoSaid'. A law counts once. -/
mutual
def uptoBulk {H : Type} : DataW H → Nat
  | .lit (.string bytes) => bytes.length + 1
  | .lit _ => 1
  | .nil => 1
  | .ptr d => uptoBulk d + 1
  | .slice elems spare => uptoBulkAll elems + uptoBulkAll spare + 1
  | .agg parts => uptoBulkAll parts + 1
  | .iface _ d => uptoBulk d + 1
  | .map entries => uptoBulkEntries entries + 1
  | .held _ => 1
def uptoBulkAll {H : Type} : List (DataW H) → Nat
  | [] => 0
  | d :: r => uptoBulk d + uptoBulkAll r
def uptoBulkEntries {H : Type} : List (Lit × DataW H) → Nat
  | [] => 0
  | x :: r => uptoBulkEntry x + uptoBulkEntries r
def uptoBulkEntry {H : Type} : Lit × DataW H → Nat
  | (.string bytes, d) => bytes.length + uptoBulk d + 1
  | (_, d) => uptoBulk d + 1
 end
def uptoSmall : (H : Type) → List (DataW H) → Bool := fun _ ds => decide (uptoBulkAll ds ≤ 1048576)
def OpenSpec.upto (s : _root_.Go.ChangeSpec) : _root_.Go.OpenSpec := { _root_.Go.OpenSpec.ofChange s with cond := some uptoSmall }

/-- 'novationlaw34.NovateLegs', WHERE WHAT IT READS IS OF BULK AT MOST 1048576: true; the input reads as it did. -/
def novateLegsUptoRow : OpenClaim := { program := "ytkimdlpfbojkgaa", sum := "b2dabf3881ab5156116611fdf4afbdb024b7f4588f874b4548096fb4400cd3a2", func := "novation/novationlaw34.NovateLegs", spec := "novateLegs", unfollowed := true, recurses := true, apart := false, narrowed := true }
def NovateLegsUptoSaid : Prop := novateLegsUptoRow.holds Try.pinned (OpenSpec.upto novateLegsSpec)

/-- 'novationlaw34.NovateSum', WHERE WHAT IT READS IS OF BULK AT MOST 1048576: true; the input reads as it did. -/
def novateSumUptoRow : OpenClaim := { program := "ytkimdlpfbojkgaa", sum := "b2dabf3881ab5156116611fdf4afbdb024b7f4588f874b4548096fb4400cd3a2", func := "novation/novationlaw34.NovateSum", spec := "novateSum", unfollowed := true, recurses := true, apart := false, narrowed := true }
def NovateSumUptoSaid : Prop := novateSumUptoRow.holds Try.pinned (OpenSpec.upto novateSumSpec)

/-- 'novationlaw34.NovateUndo', WHERE WHAT IT READS IS OF BULK AT MOST 1048576: true; the input reads as it did. -/
def novateUndoUptoRow : OpenClaim := { program := "ytkimdlpfbojkgaa", sum := "b2dabf3881ab5156116611fdf4afbdb024b7f4588f874b4548096fb4400cd3a2", func := "novation/novationlaw34.NovateUndo", spec := "novateUndo", unfollowed := true, recurses := true, apart := false, narrowed := true }
def NovateUndoUptoSaid : Prop := novateUndoUptoRow.holds Try.pinned (OpenSpec.upto novateUndoSpec)

/-- 'novationlaw34.NovateRuns', WHERE WHAT IT READS IS OF BULK AT MOST 1048576: true; the input reads as it did. -/
def novateRunsUptoRow : OpenClaim := { program := "ytkimdlpfbojkgaa", sum := "b2dabf3881ab5156116611fdf4afbdb024b7f4588f874b4548096fb4400cd3a2", func := "novation/novationlaw34.NovateRuns", spec := "novateRuns", unfollowed := true, recurses := true, apart := false, narrowed := true }
def NovateRunsUptoSaid : Prop := novateRunsUptoRow.holds Try.pinned (OpenSpec.upto novateRunsSpec)

/-- 'novationlaw34.NovateNames', WHERE WHAT IT READS IS OF BULK AT MOST 1048576: true; the input reads as it did. -/
def novateNamesUptoRow : OpenClaim := { program := "ytkimdlpfbojkgaa", sum := "b2dabf3881ab5156116611fdf4afbdb024b7f4588f874b4548096fb4400cd3a2", func := "novation/novationlaw34.NovateNames", spec := "novateNames", unfollowed := true, recurses := true, apart := false, narrowed := true }
def NovateNamesUptoSaid : Prop := novateNamesUptoRow.holds Try.pinned (OpenSpec.upto novateNamesSpec)

/-- 'novationlaw34.NovateOnce', WHERE WHAT IT READS IS OF BULK AT MOST 1048576: true; the input reads as it did. -/
def novateOnceUptoRow : OpenClaim := { program := "ytkimdlpfbojkgaa", sum := "b2dabf3881ab5156116611fdf4afbdb024b7f4588f874b4548096fb4400cd3a2", func := "novation/novationlaw34.NovateOnce", spec := "novateOnce", unfollowed := true, recurses := true, apart := false, narrowed := true }
def NovateOnceUptoSaid : Prop := novateOnceUptoRow.holds Try.pinned (OpenSpec.upto novateOnceSpec)

/-- 'novationlaw34.NovateMatches', WHERE WHAT IT READS IS OF BULK AT MOST 1048576: true; the input reads as it did. -/
def novateMatchesUptoRow : OpenClaim := { program := "ytkimdlpfbojkgaa", sum := "b2dabf3881ab5156116611fdf4afbdb024b7f4588f874b4548096fb4400cd3a2", func := "novation/novationlaw34.NovateMatches", spec := "novateMatches", unfollowed := true, recurses := true, apart := false, narrowed := true }
def NovateMatchesUptoSaid : Prop := novateMatchesUptoRow.holds Try.pinned (OpenSpec.upto novateMatchesSpec)

/-- 'novationlaw34.NovateFlat', WHERE WHAT IT READS IS OF BULK AT MOST 1048576: true; the input reads as it did. -/
def novateFlatUptoRow : OpenClaim := { program := "ytkimdlpfbojkgaa", sum := "b2dabf3881ab5156116611fdf4afbdb024b7f4588f874b4548096fb4400cd3a2", func := "novation/novationlaw34.NovateFlat", spec := "novateFlat", unfollowed := true, recurses := true, apart := false, narrowed := true }
def NovateFlatUptoSaid : Prop := novateFlatUptoRow.holds Try.pinned (OpenSpec.upto novateFlatSpec)

end Rows
end Go.Proofs.Ytkimdlpfbojkgaa
