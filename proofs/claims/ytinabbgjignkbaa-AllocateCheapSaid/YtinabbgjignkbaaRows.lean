/-
  No cell of these rows narrows 'for every input' (looked for: loops, veiled, ifaces, maps, wideKeys, modest, calm, conditions, laid).
  DERIVED. THE GIVEN ROWS OF THIS SEAT. 6 by the template 'for every input the law returns true; each argument reads behind the call as it read before'; 0 by the template 'total and deterministic' (their statements: YtinabbgjignkbaaTotals.lean).
  GIVEN WITH THE SEED: the statements are not yours to turn. If you find one false, say at which input.
  Laid BY PROGRAM, IN A SANDBOX (cutbox-rows.mjs): the forced cells as the released guide's own fill.sh prints them over the translation 13451df1bf0e105b… (all of the seat's roots in one cut). By AI agents, Wed Nov 11 2026. No macro, syntax, notation, axiom, sorry.
-/
import Derived.Test.YtinabbgjignkbaaChecked
import GoSem.Claim
import GoSem.ClaimJoined
import GoSem.ClaimMapViews
import Derived.JoinedTies
import Derived.KernelRfl
namespace Go.Proofs.Ytinabbgjignkbaa
/- THE CELL 'sum', in the pinned program and in every row, IS THE sha256 OF THE DUMP (.gsa) THAT YtinabbgjignkbaaProg.lean LOADS. Nothing in Lean hashes anything: it is a label: what it is worth is what the hold of that sum in a sandbox is worth. -/
noncomputable def Try.pinned : Pinned := { name := "ytinabbgjignkbaa", sum := "13451df1bf0e105b9766180fb6e777a0e0e5770d4d4d9ce4117e9c843f8b3790", checked := Try.checked }
namespace Rows
def none {H : Type} : Left H := { results := [], args := [] }

/-- 'novationlaw40.AllocateCovers': WHATEVER THE INPUT: true; the input reads as it did. -/
def allocateCoversSpec : ChangeSpec := { name := "allocateCovers", fn := fun _ => fun
  | [d1, d2] => { results := [.lit (.bool true)], args := [d1, d2] }
  | _ => none }
def allocateCoversRow : OpenClaim := { program := "ytinabbgjignkbaa", sum := "13451df1bf0e105b9766180fb6e777a0e0e5770d4d4d9ce4117e9c843f8b3790", func := "novation/novationlaw40.AllocateCovers", spec := "allocateCovers", unfollowed := true, recurses := true, apart := false }
def AllocateCoversSaid : Prop := allocateCoversRow.holds Try.pinned (OpenSpec.ofChange allocateCoversSpec)

/-- ITS FALSE NEIGHBOUR: 'it returns false'. Refute it at one input. -/
def allocateCoversWrong : ChangeSpec := { name := "allocateCovers", fn := fun _ => fun
  | [d1, d2] => { results := [.lit (.bool false)], args := [d1, d2] }
  | _ => none }
def AllocateCoversWrongFalsely : Prop := allocateCoversRow.holds Try.pinned (OpenSpec.ofChange allocateCoversWrong)

/-- 'novationlaw40.AllocateLeast': WHATEVER THE INPUT: true; the input reads as it did. -/
def allocateLeastSpec : ChangeSpec := { name := "allocateLeast", fn := fun _ => fun
  | [d1, d2, d3, d4] => { results := [.lit (.bool true)], args := [d1, d2, d3, d4] }
  | _ => none }
def allocateLeastRow : OpenClaim := { program := "ytinabbgjignkbaa", sum := "13451df1bf0e105b9766180fb6e777a0e0e5770d4d4d9ce4117e9c843f8b3790", func := "novation/novationlaw40.AllocateLeast", spec := "allocateLeast", unfollowed := true, recurses := true, apart := false }
def AllocateLeastSaid : Prop := allocateLeastRow.holds Try.pinned (OpenSpec.ofChange allocateLeastSpec)

/-- ITS FALSE NEIGHBOUR: 'it returns false'. Refute it at one input. -/
def allocateLeastWrong : ChangeSpec := { name := "allocateLeast", fn := fun _ => fun
  | [d1, d2, d3, d4] => { results := [.lit (.bool false)], args := [d1, d2, d3, d4] }
  | _ => none }
def AllocateLeastWrongFalsely : Prop := allocateLeastRow.holds Try.pinned (OpenSpec.ofChange allocateLeastWrong)

/-- 'novationlaw40.AllocateNames': WHATEVER THE INPUT: true; the input reads as it did. -/
def allocateNamesSpec : ChangeSpec := { name := "allocateNames", fn := fun _ => fun
  | [] => { results := [.lit (.bool true)], args := [] }
  | _ => none }
def allocateNamesRow : OpenClaim := { program := "ytinabbgjignkbaa", sum := "13451df1bf0e105b9766180fb6e777a0e0e5770d4d4d9ce4117e9c843f8b3790", func := "novation/novationlaw40.AllocateNames", spec := "allocateNames", unfollowed := true, recurses := true, apart := false }
def AllocateNamesSaid : Prop := allocateNamesRow.holds Try.pinned (OpenSpec.ofChange allocateNamesSpec)

/-- ITS FALSE NEIGHBOUR: 'it returns false'. Refute it at one input. -/
def allocateNamesWrong : ChangeSpec := { name := "allocateNames", fn := fun _ => fun
  | [] => { results := [.lit (.bool false)], args := [] }
  | _ => none }
def AllocateNamesWrongFalsely : Prop := allocateNamesRow.holds Try.pinned (OpenSpec.ofChange allocateNamesWrong)

/-- 'novationlaw40.AllocateMore': WHATEVER THE INPUT: true; the input reads as it did. -/
def allocateMoreSpec : ChangeSpec := { name := "allocateMore", fn := fun _ => fun
  | [d1, d2, d3, d4] => { results := [.lit (.bool true)], args := [d1, d2, d3, d4] }
  | _ => none }
def allocateMoreRow : OpenClaim := { program := "ytinabbgjignkbaa", sum := "13451df1bf0e105b9766180fb6e777a0e0e5770d4d4d9ce4117e9c843f8b3790", func := "novation/novationlaw40.AllocateMore", spec := "allocateMore", unfollowed := true, recurses := true, apart := false }
def AllocateMoreSaid : Prop := allocateMoreRow.holds Try.pinned (OpenSpec.ofChange allocateMoreSpec)

/-- ITS FALSE NEIGHBOUR: 'it returns false'. Refute it at one input. -/
def allocateMoreWrong : ChangeSpec := { name := "allocateMore", fn := fun _ => fun
  | [d1, d2, d3, d4] => { results := [.lit (.bool false)], args := [d1, d2, d3, d4] }
  | _ => none }
def AllocateMoreWrongFalsely : Prop := allocateMoreRow.holds Try.pinned (OpenSpec.ofChange allocateMoreWrong)

/-- 'novationlaw40.AllocateScale': WHATEVER THE INPUT: true; the input reads as it did. -/
def allocateScaleSpec : ChangeSpec := { name := "allocateScale", fn := fun _ => fun
  | [d1, d2, d3] => { results := [.lit (.bool true)], args := [d1, d2, d3] }
  | _ => none }
def allocateScaleRow : OpenClaim := { program := "ytinabbgjignkbaa", sum := "13451df1bf0e105b9766180fb6e777a0e0e5770d4d4d9ce4117e9c843f8b3790", func := "novation/novationlaw40.AllocateScale", spec := "allocateScale", unfollowed := true, recurses := true, apart := false }
def AllocateScaleSaid : Prop := allocateScaleRow.holds Try.pinned (OpenSpec.ofChange allocateScaleSpec)

/-- ITS FALSE NEIGHBOUR: 'it returns false'. Refute it at one input. -/
def allocateScaleWrong : ChangeSpec := { name := "allocateScale", fn := fun _ => fun
  | [d1, d2, d3] => { results := [.lit (.bool false)], args := [d1, d2, d3] }
  | _ => none }
def AllocateScaleWrongFalsely : Prop := allocateScaleRow.holds Try.pinned (OpenSpec.ofChange allocateScaleWrong)

/-- 'novationlaw40.AllocateCheap': WHATEVER THE INPUT: true; the input reads as it did. -/
def allocateCheapSpec : ChangeSpec := { name := "allocateCheap", fn := fun _ => fun
  | [d1, d2] => { results := [.lit (.bool true)], args := [d1, d2] }
  | _ => none }
def allocateCheapRow : OpenClaim := { program := "ytinabbgjignkbaa", sum := "13451df1bf0e105b9766180fb6e777a0e0e5770d4d4d9ce4117e9c843f8b3790", func := "novation/novationlaw40.AllocateCheap", spec := "allocateCheap", unfollowed := true, recurses := true, apart := false }
def AllocateCheapSaid : Prop := allocateCheapRow.holds Try.pinned (OpenSpec.ofChange allocateCheapSpec)

/-- ITS FALSE NEIGHBOUR: 'it returns false'. Refute it at one input. -/
def allocateCheapWrong : ChangeSpec := { name := "allocateCheap", fn := fun _ => fun
  | [d1, d2] => { results := [.lit (.bool false)], args := [d1, d2] }
  | _ => none }
def AllocateCheapWrongFalsely : Prop := allocateCheapRow.holds Try.pinned (OpenSpec.ofChange allocateCheapWrong)

/- THE SECOND FORM. 'bulk': how many values and letters a reading holds, each counted each time it is reached (what is shared counts as often as it is met; a slice's spare places count too). A statement '..UptoSaid' is the law's where the arguments, and the package variables that the reading takes, are together of bulk at most 1048576: NARROWER than '..Said'. Prove '..Said' where nothing that the law and all that it calls make is longer than what came in: it says more and counts as full. Else prove '..UptoSaid'. A law counts once. -/
mutual
def uptoBulk {H : Type} : DataW H → Nat
  | .lit (.string bytes) => bytes.length + 1
  | .lit _ => 1
  | .nil => 1
  | .ptr d => uptoBulk d + 1
  | .slice elems spare => uptoBulkAll elems + uptoBulkAll spare + 1
  | .agg parts => uptoBulkAll parts + 1
  | .iface _ d => uptoBulk d + 1
  | .map entries => uptoBulkEntries entries + 1
  | .held _ => 1
def uptoBulkAll {H : Type} : List (DataW H) → Nat
  | [] => 0
  | d :: r => uptoBulk d + uptoBulkAll r
def uptoBulkEntries {H : Type} : List (Lit × DataW H) → Nat
  | [] => 0
  | x :: r => uptoBulkEntry x + uptoBulkEntries r
def uptoBulkEntry {H : Type} : Lit × DataW H → Nat
  | (.string bytes, d) => bytes.length + uptoBulk d + 1
  | (_, d) => uptoBulk d + 1
 end
def uptoSmall : (H : Type) → List (DataW H) → Bool := fun _ ds => decide (uptoBulkAll ds ≤ 1048576)
def OpenSpec.upto (s : _root_.Go.ChangeSpec) : _root_.Go.OpenSpec := { _root_.Go.OpenSpec.ofChange s with cond := some uptoSmall }

/-- 'novationlaw40.AllocateCovers', WHERE WHAT IT READS IS OF BULK AT MOST 1048576: true; the input reads as it did. -/
def allocateCoversUptoRow : OpenClaim := { program := "ytinabbgjignkbaa", sum := "13451df1bf0e105b9766180fb6e777a0e0e5770d4d4d9ce4117e9c843f8b3790", func := "novation/novationlaw40.AllocateCovers", spec := "allocateCovers", unfollowed := true, recurses := true, apart := false, narrowed := true }
def AllocateCoversUptoSaid : Prop := allocateCoversUptoRow.holds Try.pinned (OpenSpec.upto allocateCoversSpec)

/-- 'novationlaw40.AllocateLeast', WHERE WHAT IT READS IS OF BULK AT MOST 1048576: true; the input reads as it did. -/
def allocateLeastUptoRow : OpenClaim := { program := "ytinabbgjignkbaa", sum := "13451df1bf0e105b9766180fb6e777a0e0e5770d4d4d9ce4117e9c843f8b3790", func := "novation/novationlaw40.AllocateLeast", spec := "allocateLeast", unfollowed := true, recurses := true, apart := false, narrowed := true }
def AllocateLeastUptoSaid : Prop := allocateLeastUptoRow.holds Try.pinned (OpenSpec.upto allocateLeastSpec)

/-- 'novationlaw40.AllocateNames', WHERE WHAT IT READS IS OF BULK AT MOST 1048576: true; the input reads as it did. -/
def allocateNamesUptoRow : OpenClaim := { program := "ytinabbgjignkbaa", sum := "13451df1bf0e105b9766180fb6e777a0e0e5770d4d4d9ce4117e9c843f8b3790", func := "novation/novationlaw40.AllocateNames", spec := "allocateNames", unfollowed := true, recurses := true, apart := false, narrowed := true }
def AllocateNamesUptoSaid : Prop := allocateNamesUptoRow.holds Try.pinned (OpenSpec.upto allocateNamesSpec)

/-- 'novationlaw40.AllocateMore', WHERE WHAT IT READS IS OF BULK AT MOST 1048576: true; the input reads as it did. -/
def allocateMoreUptoRow : OpenClaim := { program := "ytinabbgjignkbaa", sum := "13451df1bf0e105b9766180fb6e777a0e0e5770d4d4d9ce4117e9c843f8b3790", func := "novation/novationlaw40.AllocateMore", spec := "allocateMore", unfollowed := true, recurses := true, apart := false, narrowed := true }
def AllocateMoreUptoSaid : Prop := allocateMoreUptoRow.holds Try.pinned (OpenSpec.upto allocateMoreSpec)

/-- 'novationlaw40.AllocateScale', WHERE WHAT IT READS IS OF BULK AT MOST 1048576: true; the input reads as it did. -/
def allocateScaleUptoRow : OpenClaim := { program := "ytinabbgjignkbaa", sum := "13451df1bf0e105b9766180fb6e777a0e0e5770d4d4d9ce4117e9c843f8b3790", func := "novation/novationlaw40.AllocateScale", spec := "allocateScale", unfollowed := true, recurses := true, apart := false, narrowed := true }
def AllocateScaleUptoSaid : Prop := allocateScaleUptoRow.holds Try.pinned (OpenSpec.upto allocateScaleSpec)

/-- 'novationlaw40.AllocateCheap', WHERE WHAT IT READS IS OF BULK AT MOST 1048576: true; the input reads as it did. -/
def allocateCheapUptoRow : OpenClaim := { program := "ytinabbgjignkbaa", sum := "13451df1bf0e105b9766180fb6e777a0e0e5770d4d4d9ce4117e9c843f8b3790", func := "novation/novationlaw40.AllocateCheap", spec := "allocateCheap", unfollowed := true, recurses := true, apart := false, narrowed := true }
def AllocateCheapUptoSaid : Prop := allocateCheapUptoRow.holds Try.pinned (OpenSpec.upto allocateCheapSpec)

end Rows
end Go.Proofs.Ytinabbgjignkbaa
