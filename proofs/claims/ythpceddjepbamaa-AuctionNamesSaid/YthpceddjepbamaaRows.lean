/-
  No cell of these rows narrows 'for every input' (looked for: loops, veiled, ifaces, maps, wideKeys, modest, calm, conditions, laid).
  DERIVED. THE GIVEN ROWS OF THIS SEAT. 7 by the template 'for every input the law returns true; each argument reads behind the call as it read before'; 0 by the template 'total and deterministic' (their statements: YthpceddjepbamaaTotals.lean).
  GIVEN WITH THE SEED: the statements are not yours to turn. If you find one false, say at which input.
  Laid BY PROGRAM, IN A SANDBOX (cutbox-rows.mjs): the forced cells as the released guide's own fill.sh prints them over the translation faabbf3bc9a47c79… (all of the seat's roots in one cut). By AI agents, Wed Nov 11 2026. No macro, syntax, notation, axiom, sorry.
-/
import Derived.Test.YthpceddjepbamaaChecked
import GoSem.Claim
import GoSem.ClaimJoined
import GoSem.ClaimMapViews
import Derived.JoinedTies
import Derived.KernelRfl
namespace Go.Proofs.Ythpceddjepbamaa
/- THE CELL 'sum', in the pinned program and in every row, IS THE sha256 OF THE DUMP (.gsa) THAT YthpceddjepbamaaProg.lean LOADS. Nothing in Lean hashes anything: it is a label: what it is worth is what the hold of that sum in a sandbox is worth. -/
noncomputable def Try.pinned : Pinned := { name := "ythpceddjepbamaa", sum := "faabbf3bc9a47c79dcf511e68188dabbf927e9e9856270be12f5e982f0a311fd", checked := Try.checked }
namespace Rows
def none {H : Type} : Left H := { results := [], args := [] }

/-- 'novationlaw41.AuctionLosers': WHATEVER THE INPUT: true; the input reads as it did. -/
def auctionLosersSpec : ChangeSpec := { name := "auctionLosers", fn := fun _ => fun
  | [d1, d2] => { results := [.lit (.bool true)], args := [d1, d2] }
  | _ => none }
def auctionLosersRow : OpenClaim := { program := "ythpceddjepbamaa", sum := "faabbf3bc9a47c79dcf511e68188dabbf927e9e9856270be12f5e982f0a311fd", func := "novation/novationlaw41.AuctionLosers", spec := "auctionLosers", unfollowed := true, recurses := true, apart := false }
def AuctionLosersSaid : Prop := auctionLosersRow.holds Try.pinned (OpenSpec.ofChange auctionLosersSpec)

/-- ITS FALSE NEIGHBOUR: 'it returns false'. Refute it at one input. -/
def auctionLosersWrong : ChangeSpec := { name := "auctionLosers", fn := fun _ => fun
  | [d1, d2] => { results := [.lit (.bool false)], args := [d1, d2] }
  | _ => none }
def AuctionLosersWrongFalsely : Prop := auctionLosersRow.holds Try.pinned (OpenSpec.ofChange auctionLosersWrong)

/-- 'novationlaw41.AuctionLots': WHATEVER THE INPUT: true; the input reads as it did. -/
def auctionLotsSpec : ChangeSpec := { name := "auctionLots", fn := fun _ => fun
  | [d1, d2] => { results := [.lit (.bool true)], args := [d1, d2] }
  | _ => none }
def auctionLotsRow : OpenClaim := { program := "ythpceddjepbamaa", sum := "faabbf3bc9a47c79dcf511e68188dabbf927e9e9856270be12f5e982f0a311fd", func := "novation/novationlaw41.AuctionLots", spec := "auctionLots", unfollowed := true, recurses := true, apart := false }
def AuctionLotsSaid : Prop := auctionLotsRow.holds Try.pinned (OpenSpec.ofChange auctionLotsSpec)

/-- ITS FALSE NEIGHBOUR: 'it returns false'. Refute it at one input. -/
def auctionLotsWrong : ChangeSpec := { name := "auctionLots", fn := fun _ => fun
  | [d1, d2] => { results := [.lit (.bool false)], args := [d1, d2] }
  | _ => none }
def AuctionLotsWrongFalsely : Prop := auctionLotsRow.holds Try.pinned (OpenSpec.ofChange auctionLotsWrong)

/-- 'novationlaw41.AuctionMoney': WHATEVER THE INPUT: true; the input reads as it did. -/
def auctionMoneySpec : ChangeSpec := { name := "auctionMoney", fn := fun _ => fun
  | [d] => { results := [.lit (.bool true)], args := [d] }
  | _ => none }
def auctionMoneyRow : OpenClaim := { program := "ythpceddjepbamaa", sum := "faabbf3bc9a47c79dcf511e68188dabbf927e9e9856270be12f5e982f0a311fd", func := "novation/novationlaw41.AuctionMoney", spec := "auctionMoney", unfollowed := true, recurses := true, apart := false }
def AuctionMoneySaid : Prop := auctionMoneyRow.holds Try.pinned (OpenSpec.ofChange auctionMoneySpec)

/-- ITS FALSE NEIGHBOUR: 'it returns false'. Refute it at one input. -/
def auctionMoneyWrong : ChangeSpec := { name := "auctionMoney", fn := fun _ => fun
  | [d] => { results := [.lit (.bool false)], args := [d] }
  | _ => none }
def AuctionMoneyWrongFalsely : Prop := auctionMoneyRow.holds Try.pinned (OpenSpec.ofChange auctionMoneyWrong)

/-- 'novationlaw41.AuctionRules': WHATEVER THE INPUT: true; the input reads as it did. -/
def auctionRulesSpec : ChangeSpec := { name := "auctionRules", fn := fun _ => fun
  | [d] => { results := [.lit (.bool true)], args := [d] }
  | _ => none }
def auctionRulesRow : OpenClaim := { program := "ythpceddjepbamaa", sum := "faabbf3bc9a47c79dcf511e68188dabbf927e9e9856270be12f5e982f0a311fd", func := "novation/novationlaw41.AuctionRules", spec := "auctionRules", unfollowed := true, recurses := true, apart := false }
def AuctionRulesSaid : Prop := auctionRulesRow.holds Try.pinned (OpenSpec.ofChange auctionRulesSpec)

/-- ITS FALSE NEIGHBOUR: 'it returns false'. Refute it at one input. -/
def auctionRulesWrong : ChangeSpec := { name := "auctionRules", fn := fun _ => fun
  | [d] => { results := [.lit (.bool false)], args := [d] }
  | _ => none }
def AuctionRulesWrongFalsely : Prop := auctionRulesRow.holds Try.pinned (OpenSpec.ofChange auctionRulesWrong)

/-- 'novationlaw41.AuctionBest': WHATEVER THE INPUT: true; the input reads as it did. -/
def auctionBestSpec : ChangeSpec := { name := "auctionBest", fn := fun _ => fun
  | [d] => { results := [.lit (.bool true)], args := [d] }
  | _ => none }
def auctionBestRow : OpenClaim := { program := "ythpceddjepbamaa", sum := "faabbf3bc9a47c79dcf511e68188dabbf927e9e9856270be12f5e982f0a311fd", func := "novation/novationlaw41.AuctionBest", spec := "auctionBest", unfollowed := true, recurses := true, apart := false }
def AuctionBestSaid : Prop := auctionBestRow.holds Try.pinned (OpenSpec.ofChange auctionBestSpec)

/-- ITS FALSE NEIGHBOUR: 'it returns false'. Refute it at one input. -/
def auctionBestWrong : ChangeSpec := { name := "auctionBest", fn := fun _ => fun
  | [d] => { results := [.lit (.bool false)], args := [d] }
  | _ => none }
def AuctionBestWrongFalsely : Prop := auctionBestRow.holds Try.pinned (OpenSpec.ofChange auctionBestWrong)

/-- 'novationlaw41.AuctionMatches': WHATEVER THE INPUT: true; the input reads as it did. -/
def auctionMatchesSpec : ChangeSpec := { name := "auctionMatches", fn := fun _ => fun
  | [d1, d2] => { results := [.lit (.bool true)], args := [d1, d2] }
  | _ => none }
def auctionMatchesRow : OpenClaim := { program := "ythpceddjepbamaa", sum := "faabbf3bc9a47c79dcf511e68188dabbf927e9e9856270be12f5e982f0a311fd", func := "novation/novationlaw41.AuctionMatches", spec := "auctionMatches", unfollowed := true, recurses := true, apart := false }
def AuctionMatchesSaid : Prop := auctionMatchesRow.holds Try.pinned (OpenSpec.ofChange auctionMatchesSpec)

/-- ITS FALSE NEIGHBOUR: 'it returns false'. Refute it at one input. -/
def auctionMatchesWrong : ChangeSpec := { name := "auctionMatches", fn := fun _ => fun
  | [d1, d2] => { results := [.lit (.bool false)], args := [d1, d2] }
  | _ => none }
def AuctionMatchesWrongFalsely : Prop := auctionMatchesRow.holds Try.pinned (OpenSpec.ofChange auctionMatchesWrong)

/-- 'novationlaw41.AuctionNames': WHATEVER THE INPUT: true; the input reads as it did. -/
def auctionNamesSpec : ChangeSpec := { name := "auctionNames", fn := fun _ => fun
  | [] => { results := [.lit (.bool true)], args := [] }
  | _ => none }
def auctionNamesRow : OpenClaim := { program := "ythpceddjepbamaa", sum := "faabbf3bc9a47c79dcf511e68188dabbf927e9e9856270be12f5e982f0a311fd", func := "novation/novationlaw41.AuctionNames", spec := "auctionNames", unfollowed := true, recurses := true, apart := false }
def AuctionNamesSaid : Prop := auctionNamesRow.holds Try.pinned (OpenSpec.ofChange auctionNamesSpec)

/-- ITS FALSE NEIGHBOUR: 'it returns false'. Refute it at one input. -/
def auctionNamesWrong : ChangeSpec := { name := "auctionNames", fn := fun _ => fun
  | [] => { results := [.lit (.bool false)], args := [] }
  | _ => none }
def AuctionNamesWrongFalsely : Prop := auctionNamesRow.holds Try.pinned (OpenSpec.ofChange auctionNamesWrong)

/- THE SECOND FORM. 'bulk': how many values and letters a reading holds, each counted each time it is reached (what is shared counts as often as it is met; a slice's spare places count too). A statement '..UptoSaid' is the law's where the arguments, and the package variables that the reading takes, are together of bulk at most 1048576: NARROWER than '..Said'. Prove '..Said' where nothing that the law and all that it calls make is longer than what came in: it says more and counts as full. Else prove '..UptoSaid'. A law counts once. -/
mutual
def uptoBulk {H : Type} : DataW H → Nat
  | .lit (.string bytes) => bytes.length + 1
  | .lit _ => 1
  | .nil => 1
  | .ptr d => uptoBulk d + 1
  | .slice elems spare => uptoBulkAll elems + uptoBulkAll spare + 1
  | .agg parts => uptoBulkAll parts + 1
  | .iface _ d => uptoBulk d + 1
  | .map entries => uptoBulkEntries entries + 1
  | .held _ => 1
def uptoBulkAll {H : Type} : List (DataW H) → Nat
  | [] => 0
  | d :: r => uptoBulk d + uptoBulkAll r
def uptoBulkEntries {H : Type} : List (Lit × DataW H) → Nat
  | [] => 0
  | x :: r => uptoBulkEntry x + uptoBulkEntries r
def uptoBulkEntry {H : Type} : Lit × DataW H → Nat
  | (.string bytes, d) => bytes.length + uptoBulk d + 1
  | (_, d) => uptoBulk d + 1
 end
def uptoSmall : (H : Type) → List (DataW H) → Bool := fun _ ds => decide (uptoBulkAll ds ≤ 1048576)
def OpenSpec.upto (s : _root_.Go.ChangeSpec) : _root_.Go.OpenSpec := { _root_.Go.OpenSpec.ofChange s with cond := some uptoSmall }

/-- 'novationlaw41.AuctionLosers', WHERE WHAT IT READS IS OF BULK AT MOST 1048576: true; the input reads as it did. -/
def auctionLosersUptoRow : OpenClaim := { program := "ythpceddjepbamaa", sum := "faabbf3bc9a47c79dcf511e68188dabbf927e9e9856270be12f5e982f0a311fd", func := "novation/novationlaw41.AuctionLosers", spec := "auctionLosers", unfollowed := true, recurses := true, apart := false, narrowed := true }
def AuctionLosersUptoSaid : Prop := auctionLosersUptoRow.holds Try.pinned (OpenSpec.upto auctionLosersSpec)

/-- 'novationlaw41.AuctionLots', WHERE WHAT IT READS IS OF BULK AT MOST 1048576: true; the input reads as it did. -/
def auctionLotsUptoRow : OpenClaim := { program := "ythpceddjepbamaa", sum := "faabbf3bc9a47c79dcf511e68188dabbf927e9e9856270be12f5e982f0a311fd", func := "novation/novationlaw41.AuctionLots", spec := "auctionLots", unfollowed := true, recurses := true, apart := false, narrowed := true }
def AuctionLotsUptoSaid : Prop := auctionLotsUptoRow.holds Try.pinned (OpenSpec.upto auctionLotsSpec)

/-- 'novationlaw41.AuctionMoney', WHERE WHAT IT READS IS OF BULK AT MOST 1048576: true; the input reads as it did. -/
def auctionMoneyUptoRow : OpenClaim := { program := "ythpceddjepbamaa", sum := "faabbf3bc9a47c79dcf511e68188dabbf927e9e9856270be12f5e982f0a311fd", func := "novation/novationlaw41.AuctionMoney", spec := "auctionMoney", unfollowed := true, recurses := true, apart := false, narrowed := true }
def AuctionMoneyUptoSaid : Prop := auctionMoneyUptoRow.holds Try.pinned (OpenSpec.upto auctionMoneySpec)

/-- 'novationlaw41.AuctionRules', WHERE WHAT IT READS IS OF BULK AT MOST 1048576: true; the input reads as it did. -/
def auctionRulesUptoRow : OpenClaim := { program := "ythpceddjepbamaa", sum := "faabbf3bc9a47c79dcf511e68188dabbf927e9e9856270be12f5e982f0a311fd", func := "novation/novationlaw41.AuctionRules", spec := "auctionRules", unfollowed := true, recurses := true, apart := false, narrowed := true }
def AuctionRulesUptoSaid : Prop := auctionRulesUptoRow.holds Try.pinned (OpenSpec.upto auctionRulesSpec)

/-- 'novationlaw41.AuctionBest', WHERE WHAT IT READS IS OF BULK AT MOST 1048576: true; the input reads as it did. -/
def auctionBestUptoRow : OpenClaim := { program := "ythpceddjepbamaa", sum := "faabbf3bc9a47c79dcf511e68188dabbf927e9e9856270be12f5e982f0a311fd", func := "novation/novationlaw41.AuctionBest", spec := "auctionBest", unfollowed := true, recurses := true, apart := false, narrowed := true }
def AuctionBestUptoSaid : Prop := auctionBestUptoRow.holds Try.pinned (OpenSpec.upto auctionBestSpec)

/-- 'novationlaw41.AuctionMatches', WHERE WHAT IT READS IS OF BULK AT MOST 1048576: true; the input reads as it did. -/
def auctionMatchesUptoRow : OpenClaim := { program := "ythpceddjepbamaa", sum := "faabbf3bc9a47c79dcf511e68188dabbf927e9e9856270be12f5e982f0a311fd", func := "novation/novationlaw41.AuctionMatches", spec := "auctionMatches", unfollowed := true, recurses := true, apart := false, narrowed := true }
def AuctionMatchesUptoSaid : Prop := auctionMatchesUptoRow.holds Try.pinned (OpenSpec.upto auctionMatchesSpec)

/-- 'novationlaw41.AuctionNames', WHERE WHAT IT READS IS OF BULK AT MOST 1048576: true; the input reads as it did. -/
def auctionNamesUptoRow : OpenClaim := { program := "ythpceddjepbamaa", sum := "faabbf3bc9a47c79dcf511e68188dabbf927e9e9856270be12f5e982f0a311fd", func := "novation/novationlaw41.AuctionNames", spec := "auctionNames", unfollowed := true, recurses := true, apart := false, narrowed := true }
def AuctionNamesUptoSaid : Prop := auctionNamesUptoRow.holds Try.pinned (OpenSpec.upto auctionNamesSpec)

end Rows
end Go.Proofs.Ythpceddjepbamaa
