/-
  No cell of these rows narrows 'for every input' (looked for: loops, veiled, ifaces, maps, wideKeys, modest, calm, conditions, laid).
  DERIVED. THE GIVEN ROWS OF THIS SEAT. 8 by the template 'for every input the law returns true; each argument reads behind the call as it read before'; 0 by the template 'total and deterministic' (their statements: YtkcafackfihmiaaTotals.lean).
  GIVEN WITH THE SEED: the statements are not yours to turn. If you find one false, say at which input.
  Laid BY PROGRAM, IN A SANDBOX (cutbox-rows.mjs): the forced cells as the released guide's own fill.sh prints them over the translation 802ab16b67f5d6d1… (all of the seat's roots in one cut). By AI agents, Wed Nov 11 2026. No macro, syntax, notation, axiom, sorry.
-/
import Derived.Test.YtkcafackfihmiaaChecked
import GoSem.Claim
import GoSem.ClaimJoined
import GoSem.ClaimMapViews
import Derived.JoinedTies
import Derived.KernelRfl
namespace Go.Proofs.Ytkcafackfihmiaa
/- THE CELL 'sum', in the pinned program and in every row, IS THE sha256 OF THE DUMP (.gsa) THAT YtkcafackfihmiaaProg.lean LOADS. Nothing in Lean hashes anything: it is a label: what it is worth is what the hold of that sum in a sandbox is worth. -/
noncomputable def Try.pinned : Pinned := { name := "ytkcafackfihmiaa", sum := "802ab16b67f5d6d14cf262c403f35b1aa9eeb94bf1ca9dec909de5e41f3fc433", checked := Try.checked }
namespace Rows
def none {H : Type} : Left H := { results := [], args := [] }

/-- 'novationlaw35.NettingKeeps': WHATEVER THE INPUT: true; the input reads as it did. -/
def nettingKeepsSpec : ChangeSpec := { name := "nettingKeeps", fn := fun _ => fun
  | [d1, d2] => { results := [.lit (.bool true)], args := [d1, d2] }
  | _ => none }
def nettingKeepsRow : OpenClaim := { program := "ytkcafackfihmiaa", sum := "802ab16b67f5d6d14cf262c403f35b1aa9eeb94bf1ca9dec909de5e41f3fc433", func := "novation/novationlaw35.NettingKeeps", spec := "nettingKeeps", unfollowed := true, recurses := true, plainKeys := false, apart := false }
def NettingKeepsSaid : Prop := nettingKeepsRow.holds Try.pinned (OpenSpec.ofChange nettingKeepsSpec)

/-- ITS FALSE NEIGHBOUR: 'it returns false'. Refute it at one input. -/
def nettingKeepsWrong : ChangeSpec := { name := "nettingKeeps", fn := fun _ => fun
  | [d1, d2] => { results := [.lit (.bool false)], args := [d1, d2] }
  | _ => none }
def NettingKeepsWrongFalsely : Prop := nettingKeepsRow.holds Try.pinned (OpenSpec.ofChange nettingKeepsWrong)

/-- 'novationlaw35.NettingOrder': WHATEVER THE INPUT: true; the input reads as it did. -/
def nettingOrderSpec : ChangeSpec := { name := "nettingOrder", fn := fun _ => fun
  | [d1, d2, d3] => { results := [.lit (.bool true)], args := [d1, d2, d3] }
  | _ => none }
def nettingOrderRow : OpenClaim := { program := "ytkcafackfihmiaa", sum := "802ab16b67f5d6d14cf262c403f35b1aa9eeb94bf1ca9dec909de5e41f3fc433", func := "novation/novationlaw35.NettingOrder", spec := "nettingOrder", unfollowed := true, recurses := true, plainKeys := false, apart := false }
def NettingOrderSaid : Prop := nettingOrderRow.holds Try.pinned (OpenSpec.ofChange nettingOrderSpec)

/-- ITS FALSE NEIGHBOUR: 'it returns false'. Refute it at one input. -/
def nettingOrderWrong : ChangeSpec := { name := "nettingOrder", fn := fun _ => fun
  | [d1, d2, d3] => { results := [.lit (.bool false)], args := [d1, d2, d3] }
  | _ => none }
def NettingOrderWrongFalsely : Prop := nettingOrderRow.holds Try.pinned (OpenSpec.ofChange nettingOrderWrong)

/-- 'novationlaw35.NettingMatches': WHATEVER THE INPUT: true; the input reads as it did. -/
def nettingMatchesSpec : ChangeSpec := { name := "nettingMatches", fn := fun _ => fun
  | [d1, d2, d3, d4] => { results := [.lit (.bool true)], args := [d1, d2, d3, d4] }
  | _ => none }
def nettingMatchesRow : OpenClaim := { program := "ytkcafackfihmiaa", sum := "802ab16b67f5d6d14cf262c403f35b1aa9eeb94bf1ca9dec909de5e41f3fc433", func := "novation/novationlaw35.NettingMatches", spec := "nettingMatches", unfollowed := true, recurses := true, plainKeys := false, apart := false }
def NettingMatchesSaid : Prop := nettingMatchesRow.holds Try.pinned (OpenSpec.ofChange nettingMatchesSpec)

/-- ITS FALSE NEIGHBOUR: 'it returns false'. Refute it at one input. -/
def nettingMatchesWrong : ChangeSpec := { name := "nettingMatches", fn := fun _ => fun
  | [d1, d2, d3, d4] => { results := [.lit (.bool false)], args := [d1, d2, d3, d4] }
  | _ => none }
def NettingMatchesWrongFalsely : Prop := nettingMatchesRow.holds Try.pinned (OpenSpec.ofChange nettingMatchesWrong)

/-- 'novationlaw35.NettingClose': WHATEVER THE INPUT: true; the input reads as it did. -/
def nettingCloseSpec : ChangeSpec := { name := "nettingClose", fn := fun _ => fun
  | [d1, d2, d3, d4] => { results := [.lit (.bool true)], args := [d1, d2, d3, d4] }
  | _ => none }
def nettingCloseRow : OpenClaim := { program := "ytkcafackfihmiaa", sum := "802ab16b67f5d6d14cf262c403f35b1aa9eeb94bf1ca9dec909de5e41f3fc433", func := "novation/novationlaw35.NettingClose", spec := "nettingClose", unfollowed := true, recurses := true, plainKeys := false, apart := false }
def NettingCloseSaid : Prop := nettingCloseRow.holds Try.pinned (OpenSpec.ofChange nettingCloseSpec)

/-- ITS FALSE NEIGHBOUR: 'it returns false'. Refute it at one input. -/
def nettingCloseWrong : ChangeSpec := { name := "nettingClose", fn := fun _ => fun
  | [d1, d2, d3, d4] => { results := [.lit (.bool false)], args := [d1, d2, d3, d4] }
  | _ => none }
def NettingCloseWrongFalsely : Prop := nettingCloseRow.holds Try.pinned (OpenSpec.ofChange nettingCloseWrong)

/-- 'novationlaw35.NettingOnce': WHATEVER THE INPUT: true; the input reads as it did. -/
def nettingOnceSpec : ChangeSpec := { name := "nettingOnce", fn := fun _ => fun
  | [d1, d2, d3] => { results := [.lit (.bool true)], args := [d1, d2, d3] }
  | _ => none }
def nettingOnceRow : OpenClaim := { program := "ytkcafackfihmiaa", sum := "802ab16b67f5d6d14cf262c403f35b1aa9eeb94bf1ca9dec909de5e41f3fc433", func := "novation/novationlaw35.NettingOnce", spec := "nettingOnce", unfollowed := true, recurses := true, plainKeys := false, apart := false }
def NettingOnceSaid : Prop := nettingOnceRow.holds Try.pinned (OpenSpec.ofChange nettingOnceSpec)

/-- ITS FALSE NEIGHBOUR: 'it returns false'. Refute it at one input. -/
def nettingOnceWrong : ChangeSpec := { name := "nettingOnce", fn := fun _ => fun
  | [d1, d2, d3] => { results := [.lit (.bool false)], args := [d1, d2, d3] }
  | _ => none }
def NettingOnceWrongFalsely : Prop := nettingOnceRow.holds Try.pinned (OpenSpec.ofChange nettingOnceWrong)

/-- 'novationlaw35.NettingHub': WHATEVER THE INPUT: true; the input reads as it did. -/
def nettingHubSpec : ChangeSpec := { name := "nettingHub", fn := fun _ => fun
  | [d1, d2] => { results := [.lit (.bool true)], args := [d1, d2] }
  | _ => none }
def nettingHubRow : OpenClaim := { program := "ytkcafackfihmiaa", sum := "802ab16b67f5d6d14cf262c403f35b1aa9eeb94bf1ca9dec909de5e41f3fc433", func := "novation/novationlaw35.NettingHub", spec := "nettingHub", unfollowed := true, recurses := true, plainKeys := false, apart := false }
def NettingHubSaid : Prop := nettingHubRow.holds Try.pinned (OpenSpec.ofChange nettingHubSpec)

/-- ITS FALSE NEIGHBOUR: 'it returns false'. Refute it at one input. -/
def nettingHubWrong : ChangeSpec := { name := "nettingHub", fn := fun _ => fun
  | [d1, d2] => { results := [.lit (.bool false)], args := [d1, d2] }
  | _ => none }
def NettingHubWrongFalsely : Prop := nettingHubRow.holds Try.pinned (OpenSpec.ofChange nettingHubWrong)

/-- 'novationlaw35.NettingSums': WHATEVER THE INPUT: true; the input reads as it did. -/
def nettingSumsSpec : ChangeSpec := { name := "nettingSums", fn := fun _ => fun
  | [d1, d2, d3, d4] => { results := [.lit (.bool true)], args := [d1, d2, d3, d4] }
  | _ => none }
def nettingSumsRow : OpenClaim := { program := "ytkcafackfihmiaa", sum := "802ab16b67f5d6d14cf262c403f35b1aa9eeb94bf1ca9dec909de5e41f3fc433", func := "novation/novationlaw35.NettingSums", spec := "nettingSums", unfollowed := true, recurses := true, plainKeys := false, apart := false }
def NettingSumsSaid : Prop := nettingSumsRow.holds Try.pinned (OpenSpec.ofChange nettingSumsSpec)

/-- ITS FALSE NEIGHBOUR: 'it returns false'. Refute it at one input. -/
def nettingSumsWrong : ChangeSpec := { name := "nettingSums", fn := fun _ => fun
  | [d1, d2, d3, d4] => { results := [.lit (.bool false)], args := [d1, d2, d3, d4] }
  | _ => none }
def NettingSumsWrongFalsely : Prop := nettingSumsRow.holds Try.pinned (OpenSpec.ofChange nettingSumsWrong)

/-- 'novationlaw35.NettingNames': WHATEVER THE INPUT: true; the input reads as it did. -/
def nettingNamesSpec : ChangeSpec := { name := "nettingNames", fn := fun _ => fun
  | [] => { results := [.lit (.bool true)], args := [] }
  | _ => none }
def nettingNamesRow : OpenClaim := { program := "ytkcafackfihmiaa", sum := "802ab16b67f5d6d14cf262c403f35b1aa9eeb94bf1ca9dec909de5e41f3fc433", func := "novation/novationlaw35.NettingNames", spec := "nettingNames", unfollowed := true, recurses := true, plainKeys := false, apart := false }
def NettingNamesSaid : Prop := nettingNamesRow.holds Try.pinned (OpenSpec.ofChange nettingNamesSpec)

/-- ITS FALSE NEIGHBOUR: 'it returns false'. Refute it at one input. -/
def nettingNamesWrong : ChangeSpec := { name := "nettingNames", fn := fun _ => fun
  | [] => { results := [.lit (.bool false)], args := [] }
  | _ => none }
def NettingNamesWrongFalsely : Prop := nettingNamesRow.holds Try.pinned (OpenSpec.ofChange nettingNamesWrong)

/- THE SECOND FORM. 'bulk': how many values and letters a reading holds, each counted each time it is reached (what is shared counts as often as it is met; a slice's spare places count too). A statement '..UptoSaid' is the law's where the arguments, and the package variables that the reading takes, are together of bulk at most 1048576: NARROWER than '..Said'. Prove '..Said' where nothing that the law and all that it calls make is longer than what came in: it says more and counts as full. Else prove '..UptoSaid'. A law counts once. -/
mutual
def uptoBulk {H : Type} : DataW H → Nat
  | .lit (.string bytes) => bytes.length + 1
  | .lit _ => 1
  | .nil => 1
  | .ptr d => uptoBulk d + 1
  | .slice elems spare => uptoBulkAll elems + uptoBulkAll spare + 1
  | .agg parts => uptoBulkAll parts + 1
  | .iface _ d => uptoBulk d + 1
  | .map entries => uptoBulkEntries entries + 1
  | .held _ => 1
def uptoBulkAll {H : Type} : List (DataW H) → Nat
  | [] => 0
  | d :: r => uptoBulk d + uptoBulkAll r
def uptoBulkEntries {H : Type} : List (Lit × DataW H) → Nat
  | [] => 0
  | x :: r => uptoBulkEntry x + uptoBulkEntries r
def uptoBulkEntry {H : Type} : Lit × DataW H → Nat
  | (.string bytes, d) => bytes.length + uptoBulk d + 1
  | (_, d) => uptoBulk d + 1
 end
def uptoSmall : (H : Type) → List (DataW H) → Bool := fun _ ds => decide (uptoBulkAll ds ≤ 1048576)
def OpenSpec.upto (s : _root_.Go.ChangeSpec) : _root_.Go.OpenSpec := { _root_.Go.OpenSpec.ofChange s with cond := some uptoSmall }

/-- 'novationlaw35.NettingKeeps', WHERE WHAT IT READS IS OF BULK AT MOST 1048576: true; the input reads as it did. -/
def nettingKeepsUptoRow : OpenClaim := { program := "ytkcafackfihmiaa", sum := "802ab16b67f5d6d14cf262c403f35b1aa9eeb94bf1ca9dec909de5e41f3fc433", func := "novation/novationlaw35.NettingKeeps", spec := "nettingKeeps", unfollowed := true, recurses := true, plainKeys := false, apart := false, narrowed := true }
def NettingKeepsUptoSaid : Prop := nettingKeepsUptoRow.holds Try.pinned (OpenSpec.upto nettingKeepsSpec)

/-- 'novationlaw35.NettingOrder', WHERE WHAT IT READS IS OF BULK AT MOST 1048576: true; the input reads as it did. -/
def nettingOrderUptoRow : OpenClaim := { program := "ytkcafackfihmiaa", sum := "802ab16b67f5d6d14cf262c403f35b1aa9eeb94bf1ca9dec909de5e41f3fc433", func := "novation/novationlaw35.NettingOrder", spec := "nettingOrder", unfollowed := true, recurses := true, plainKeys := false, apart := false, narrowed := true }
def NettingOrderUptoSaid : Prop := nettingOrderUptoRow.holds Try.pinned (OpenSpec.upto nettingOrderSpec)

/-- 'novationlaw35.NettingMatches', WHERE WHAT IT READS IS OF BULK AT MOST 1048576: true; the input reads as it did. -/
def nettingMatchesUptoRow : OpenClaim := { program := "ytkcafackfihmiaa", sum := "802ab16b67f5d6d14cf262c403f35b1aa9eeb94bf1ca9dec909de5e41f3fc433", func := "novation/novationlaw35.NettingMatches", spec := "nettingMatches", unfollowed := true, recurses := true, plainKeys := false, apart := false, narrowed := true }
def NettingMatchesUptoSaid : Prop := nettingMatchesUptoRow.holds Try.pinned (OpenSpec.upto nettingMatchesSpec)

/-- 'novationlaw35.NettingClose', WHERE WHAT IT READS IS OF BULK AT MOST 1048576: true; the input reads as it did. -/
def nettingCloseUptoRow : OpenClaim := { program := "ytkcafackfihmiaa", sum := "802ab16b67f5d6d14cf262c403f35b1aa9eeb94bf1ca9dec909de5e41f3fc433", func := "novation/novationlaw35.NettingClose", spec := "nettingClose", unfollowed := true, recurses := true, plainKeys := false, apart := false, narrowed := true }
def NettingCloseUptoSaid : Prop := nettingCloseUptoRow.holds Try.pinned (OpenSpec.upto nettingCloseSpec)

/-- 'novationlaw35.NettingOnce', WHERE WHAT IT READS IS OF BULK AT MOST 1048576: true; the input reads as it did. -/
def nettingOnceUptoRow : OpenClaim := { program := "ytkcafackfihmiaa", sum := "802ab16b67f5d6d14cf262c403f35b1aa9eeb94bf1ca9dec909de5e41f3fc433", func := "novation/novationlaw35.NettingOnce", spec := "nettingOnce", unfollowed := true, recurses := true, plainKeys := false, apart := false, narrowed := true }
def NettingOnceUptoSaid : Prop := nettingOnceUptoRow.holds Try.pinned (OpenSpec.upto nettingOnceSpec)

/-- 'novationlaw35.NettingHub', WHERE WHAT IT READS IS OF BULK AT MOST 1048576: true; the input reads as it did. -/
def nettingHubUptoRow : OpenClaim := { program := "ytkcafackfihmiaa", sum := "802ab16b67f5d6d14cf262c403f35b1aa9eeb94bf1ca9dec909de5e41f3fc433", func := "novation/novationlaw35.NettingHub", spec := "nettingHub", unfollowed := true, recurses := true, plainKeys := false, apart := false, narrowed := true }
def NettingHubUptoSaid : Prop := nettingHubUptoRow.holds Try.pinned (OpenSpec.upto nettingHubSpec)

/-- 'novationlaw35.NettingSums', WHERE WHAT IT READS IS OF BULK AT MOST 1048576: true; the input reads as it did. -/
def nettingSumsUptoRow : OpenClaim := { program := "ytkcafackfihmiaa", sum := "802ab16b67f5d6d14cf262c403f35b1aa9eeb94bf1ca9dec909de5e41f3fc433", func := "novation/novationlaw35.NettingSums", spec := "nettingSums", unfollowed := true, recurses := true, plainKeys := false, apart := false, narrowed := true }
def NettingSumsUptoSaid : Prop := nettingSumsUptoRow.holds Try.pinned (OpenSpec.upto nettingSumsSpec)

/-- 'novationlaw35.NettingNames', WHERE WHAT IT READS IS OF BULK AT MOST 1048576: true; the input reads as it did. -/
def nettingNamesUptoRow : OpenClaim := { program := "ytkcafackfihmiaa", sum := "802ab16b67f5d6d14cf262c403f35b1aa9eeb94bf1ca9dec909de5e41f3fc433", func := "novation/novationlaw35.NettingNames", spec := "nettingNames", unfollowed := true, recurses := true, plainKeys := false, apart := false, narrowed := true }
def NettingNamesUptoSaid : Prop := nettingNamesUptoRow.holds Try.pinned (OpenSpec.upto nettingNamesSpec)

end Rows
end Go.Proofs.Ytkcafackfihmiaa
