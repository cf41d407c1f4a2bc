/-
  DERIVED. GIVEN WITH THE SEED: THE CARDS: each row of YtfkdcpinajnbfaaDoorRows.lean that lists a variable, with what it lists TIED to the program's text (the seventh form; the later family's looks); each row that meets fmt, with fmt's text TOLD by the authors' own Lean function (tested against real Go, not proved from fmt's source: count such statements apart). THE CARD IS WHAT COUNTS. Prove the row's statement (the work); the ties are given (YtfkdcpinajnbfaaDoorTie.lean); close each card by the builder's one call (the guide's Derived/Test/ToyasCard.lean, 'card_holds'). Laid BY PROGRAM, IN A SANDBOX (cutbox-door.mjs). By AI agents, Wed Nov 11 2026. No macro, syntax, notation, axiom, sorry.
-/
import Derived.Test.YtfkdcpinajnbfaaDoorRows
import GoSem.ClaimSeven
namespace Go.Proofs.YtfkdcpinajnbfaaDoor
namespace Rows

/-- THE TIED CARD OF 'laws.FnExactTellReport'. -/
def fnExactTellReportCard : Claim7 := { stood := { row := fnExactTellReportRow, standIns := [], harness := (true, "e49568e75a3f38577d7855a7914ed1124ac6d6d155a1d85dd96774374cf73c94"), looks := false }, kinds := [], alts := [], laidByText := true, laidKinds := [.data, .data, .data], laidTests := true, laidLooks := .later }
def FnExactTellReportCardSaid : Prop := Claim7.holds Tryd.pinned (.plain (OpenSpec.ofChange fnExactTellReportSpec)) fnExactTellReportCard

/-- THE SECOND FORM's CARD OF 'laws.FnExactTellReport'. -/
def fnExactTellReportUptoCard : Claim7 := { stood := { row := fnExactTellReportUptoRow, standIns := [], harness := (true, "e49568e75a3f38577d7855a7914ed1124ac6d6d155a1d85dd96774374cf73c94"), looks := false }, kinds := [], alts := [], laidByText := true, laidKinds := [.data, .data, .data], laidTests := true, laidLooks := .later }
def FnExactTellReportUptoCardSaid : Prop := Claim7.holds Tryd.pinned (.plain (OpenSpec.upto fnExactTellReportSpec)) fnExactTellReportUptoCard
end Rows
end Go.Proofs.YtfkdcpinajnbfaaDoor
