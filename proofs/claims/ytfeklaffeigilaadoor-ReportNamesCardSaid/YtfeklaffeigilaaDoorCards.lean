/-
  DERIVED. GIVEN WITH THE SEED: THE CARDS: each row of YtfeklaffeigilaaDoorRows.lean that lists a variable, with what it lists TIED to the program's text (the seventh form; the later family's looks); each row that meets fmt, with fmt's text TOLD by the authors' own Lean function (tested against real Go, not proved from fmt's source: count such statements apart). THE CARD IS WHAT COUNTS. Prove the row's statement (the work); the ties are given (YtfeklaffeigilaaDoorTie.lean); close each card by the builder's one call (the guide's Derived/Test/ToyasCard.lean, 'card_holds'). Laid BY PROGRAM, IN A SANDBOX (cutbox-door.mjs). By AI agents, Wed Nov 11 2026. No macro, syntax, notation, axiom, sorry.
-/
import Derived.Test.YtfeklaffeigilaaDoorRows
import GoSem.ClaimSeven
namespace Go.Proofs.YtfeklaffeigilaaDoor
namespace Rows

/-- THE TIED CARD OF 'novationlaw44.ReportShows'. -/
def reportShowsCard : Claim7 := { stood := { row := reportShowsRow, standIns := [], harness := (true, "2373a82cb783cbb8d35420cd2052dcca5c6025fb1759f3c4234a2d639cf2cf40"), looks := false }, kinds := [], alts := [], laidByText := true, laidKinds := [.data, .data, .data], laidTests := true, laidLooks := .later }
def ReportShowsCardSaid : Prop := Claim7.holds Tryd.pinned (.plain (OpenSpec.ofChange reportShowsSpec)) reportShowsCard

/-- THE TIED CARD OF 'novationlaw44.ReportOld'. -/
def reportOldCard : Claim7 := { stood := { row := reportOldRow, standIns := [], harness := (true, "2373a82cb783cbb8d35420cd2052dcca5c6025fb1759f3c4234a2d639cf2cf40"), looks := false }, kinds := [], alts := [], laidByText := true, laidKinds := [.data, .data, .data], laidTests := true, laidLooks := .later }
def ReportOldCardSaid : Prop := Claim7.holds Tryd.pinned (.plain (OpenSpec.ofChange reportOldSpec)) reportOldCard

/-- THE TIED CARD OF 'novationlaw44.ReportSplits'. -/
def reportSplitsCard : Claim7 := { stood := { row := reportSplitsRow, standIns := [], harness := (true, "2373a82cb783cbb8d35420cd2052dcca5c6025fb1759f3c4234a2d639cf2cf40"), looks := false }, kinds := [], alts := [], laidByText := true, laidKinds := [.data, .data, .data], laidTests := true, laidLooks := .later }
def ReportSplitsCardSaid : Prop := Claim7.holds Tryd.pinned (.plain (OpenSpec.ofChange reportSplitsSpec)) reportSplitsCard

/-- THE TIED CARD OF 'novationlaw44.ReportBalances'. -/
def reportBalancesCard : Claim7 := { stood := { row := reportBalancesRow, standIns := [], harness := (true, "2373a82cb783cbb8d35420cd2052dcca5c6025fb1759f3c4234a2d639cf2cf40"), looks := false }, kinds := [], alts := [], laidByText := true, laidKinds := [.data, .data, .data], laidTests := true, laidLooks := .later }
def ReportBalancesCardSaid : Prop := Claim7.holds Tryd.pinned (.plain (OpenSpec.ofChange reportBalancesSpec)) reportBalancesCard

/-- THE TIED CARD OF 'novationlaw44.ReportNames'. -/
def reportNamesCard : Claim7 := { stood := { row := reportNamesRow, standIns := [], harness := (true, "2373a82cb783cbb8d35420cd2052dcca5c6025fb1759f3c4234a2d639cf2cf40"), looks := false }, kinds := [], alts := [], laidByText := true, laidKinds := [.data, .data, .data], laidTests := true, laidLooks := .later }
def ReportNamesCardSaid : Prop := Claim7.holds Tryd.pinned (.plain (OpenSpec.ofChange reportNamesSpec)) reportNamesCard

/-- THE TIED CARD OF 'novationlaw44.ReportKnown'. -/
def reportKnownCard : Claim7 := { stood := { row := reportKnownRow, standIns := [], harness := (true, "2373a82cb783cbb8d35420cd2052dcca5c6025fb1759f3c4234a2d639cf2cf40"), looks := false }, kinds := [], alts := [], laidByText := true, laidKinds := [.data, .data, .data], laidTests := true, laidLooks := .later }
def ReportKnownCardSaid : Prop := Claim7.holds Tryd.pinned (.plain (OpenSpec.ofChange reportKnownSpec)) reportKnownCard

/-- THE SECOND FORM's CARD OF 'novationlaw44.ReportShows'. -/
def reportShowsUptoCard : Claim7 := { stood := { row := reportShowsUptoRow, standIns := [], harness := (true, "2373a82cb783cbb8d35420cd2052dcca5c6025fb1759f3c4234a2d639cf2cf40"), looks := false }, kinds := [], alts := [], laidByText := true, laidKinds := [.data, .data, .data], laidTests := true, laidLooks := .later }
def ReportShowsUptoCardSaid : Prop := Claim7.holds Tryd.pinned (.plain (OpenSpec.upto reportShowsSpec)) reportShowsUptoCard

/-- THE SECOND FORM's CARD OF 'novationlaw44.ReportOld'. -/
def reportOldUptoCard : Claim7 := { stood := { row := reportOldUptoRow, standIns := [], harness := (true, "2373a82cb783cbb8d35420cd2052dcca5c6025fb1759f3c4234a2d639cf2cf40"), looks := false }, kinds := [], alts := [], laidByText := true, laidKinds := [.data, .data, .data], laidTests := true, laidLooks := .later }
def ReportOldUptoCardSaid : Prop := Claim7.holds Tryd.pinned (.plain (OpenSpec.upto reportOldSpec)) reportOldUptoCard

/-- THE SECOND FORM's CARD OF 'novationlaw44.ReportSplits'. -/
def reportSplitsUptoCard : Claim7 := { stood := { row := reportSplitsUptoRow, standIns := [], harness := (true, "2373a82cb783cbb8d35420cd2052dcca5c6025fb1759f3c4234a2d639cf2cf40"), looks := false }, kinds := [], alts := [], laidByText := true, laidKinds := [.data, .data, .data], laidTests := true, laidLooks := .later }
def ReportSplitsUptoCardSaid : Prop := Claim7.holds Tryd.pinned (.plain (OpenSpec.upto reportSplitsSpec)) reportSplitsUptoCard

/-- THE SECOND FORM's CARD OF 'novationlaw44.ReportBalances'. -/
def reportBalancesUptoCard : Claim7 := { stood := { row := reportBalancesUptoRow, standIns := [], harness := (true, "2373a82cb783cbb8d35420cd2052dcca5c6025fb1759f3c4234a2d639cf2cf40"), looks := false }, kinds := [], alts := [], laidByText := true, laidKinds := [.data, .data, .data], laidTests := true, laidLooks := .later }
def ReportBalancesUptoCardSaid : Prop := Claim7.holds Tryd.pinned (.plain (OpenSpec.upto reportBalancesSpec)) reportBalancesUptoCard

/-- THE SECOND FORM's CARD OF 'novationlaw44.ReportNames'. -/
def reportNamesUptoCard : Claim7 := { stood := { row := reportNamesUptoRow, standIns := [], harness := (true, "2373a82cb783cbb8d35420cd2052dcca5c6025fb1759f3c4234a2d639cf2cf40"), looks := false }, kinds := [], alts := [], laidByText := true, laidKinds := [.data, .data, .data], laidTests := true, laidLooks := .later }
def ReportNamesUptoCardSaid : Prop := Claim7.holds Tryd.pinned (.plain (OpenSpec.upto reportNamesSpec)) reportNamesUptoCard

/-- THE SECOND FORM's CARD OF 'novationlaw44.ReportKnown'. -/
def reportKnownUptoCard : Claim7 := { stood := { row := reportKnownUptoRow, standIns := [], harness := (true, "2373a82cb783cbb8d35420cd2052dcca5c6025fb1759f3c4234a2d639cf2cf40"), looks := false }, kinds := [], alts := [], laidByText := true, laidKinds := [.data, .data, .data], laidTests := true, laidLooks := .later }
def ReportKnownUptoCardSaid : Prop := Claim7.holds Tryd.pinned (.plain (OpenSpec.upto reportKnownSpec)) reportKnownUptoCard
end Rows
end Go.Proofs.YtfeklaffeigilaaDoor
