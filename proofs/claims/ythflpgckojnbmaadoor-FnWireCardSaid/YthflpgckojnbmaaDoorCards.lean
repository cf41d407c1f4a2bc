/-
  DERIVED. GIVEN WITH THE SEED: THE CARDS: each row of YthflpgckojnbmaaDoorRows.lean that lists a variable, with what it lists TIED to the program's text (the seventh form; the later family's looks); each row that meets fmt, with fmt's text TOLD by the authors' own Lean function (tested against real Go, not proved from fmt's source: count such statements apart). THE CARD IS WHAT COUNTS. Prove the row's statement (the work); the ties are given (YthflpgckojnbmaaDoorTie.lean); close each card by the builder's one call (the guide's Derived/Test/ToyasCard.lean, 'card_holds'). Laid BY PROGRAM, IN A SANDBOX (cutbox-door.mjs). By AI agents, Wed Nov 11 2026. No macro, syntax, notation, axiom, sorry.
-/
import Derived.Test.YthflpgckojnbmaaDoorRows
import GoSem.ClaimSeven
namespace Go.Proofs.YthflpgckojnbmaaDoor
namespace Rows

/-- THE TIED CARD OF 'laws.FnExactParseReply'. -/
def fnExactParseReplyCard : Claim7 := { stood := { row := fnExactParseReplyRow, standIns := [], harness := (true, "1a856eb2d090c9dd47b13963a07a1c7e1fd0e2b202da5bd8932b0fe831152f7b"), looks := true }, kinds := [], alts := [], laidByText := true, laidKinds := [.sentinel], laidTests := true, laidLooks := .later }
def FnExactParseReplyCardSaid : Prop := Claim7.holds Tryd.pinned (.plain (OpenSpec.ofChange fnExactParseReplySpec)) fnExactParseReplyCard

/-- THE TIED CARD OF 'laws.FnExactParseInitiation'. -/
def fnExactParseInitiationCard : Claim7 := { stood := { row := fnExactParseInitiationRow, standIns := [], harness := (true, "1a856eb2d090c9dd47b13963a07a1c7e1fd0e2b202da5bd8932b0fe831152f7b"), looks := true }, kinds := [], alts := [], laidByText := true, laidKinds := [.sentinel], laidTests := true, laidLooks := .later }
def FnExactParseInitiationCardSaid : Prop := Claim7.holds Tryd.pinned (.plain (OpenSpec.ofChange fnExactParseInitiationSpec)) fnExactParseInitiationCard

/-- THE TIED CARD OF 'laws.FnWire'. -/
def fnWireCard : Claim7 := { stood := { row := fnWireRow, standIns := [], harness := (true, "1a856eb2d090c9dd47b13963a07a1c7e1fd0e2b202da5bd8932b0fe831152f7b"), looks := true }, kinds := [], alts := [], laidByText := true, laidKinds := [.sentinel], laidTests := true, laidLooks := .later }
def FnWireCardSaid : Prop := Claim7.holds Tryd.pinned (.plain (OpenSpec.ofChange fnWireSpec)) fnWireCard

/-- THE SECOND FORM's CARD OF 'laws.FnExactParseReply'. -/
def fnExactParseReplyUptoCard : Claim7 := { stood := { row := fnExactParseReplyUptoRow, standIns := [], harness := (true, "1a856eb2d090c9dd47b13963a07a1c7e1fd0e2b202da5bd8932b0fe831152f7b"), looks := true }, kinds := [], alts := [], laidByText := true, laidKinds := [.sentinel], laidTests := true, laidLooks := .later }
def FnExactParseReplyUptoCardSaid : Prop := Claim7.holds Tryd.pinned (.plain (OpenSpec.upto fnExactParseReplySpec)) fnExactParseReplyUptoCard

/-- THE SECOND FORM's CARD OF 'laws.FnExactParseInitiation'. -/
def fnExactParseInitiationUptoCard : Claim7 := { stood := { row := fnExactParseInitiationUptoRow, standIns := [], harness := (true, "1a856eb2d090c9dd47b13963a07a1c7e1fd0e2b202da5bd8932b0fe831152f7b"), looks := true }, kinds := [], alts := [], laidByText := true, laidKinds := [.sentinel], laidTests := true, laidLooks := .later }
def FnExactParseInitiationUptoCardSaid : Prop := Claim7.holds Tryd.pinned (.plain (OpenSpec.upto fnExactParseInitiationSpec)) fnExactParseInitiationUptoCard

/-- THE SECOND FORM's CARD OF 'laws.FnWire'. -/
def fnWireUptoCard : Claim7 := { stood := { row := fnWireUptoRow, standIns := [], harness := (true, "1a856eb2d090c9dd47b13963a07a1c7e1fd0e2b202da5bd8932b0fe831152f7b"), looks := true }, kinds := [], alts := [], laidByText := true, laidKinds := [.sentinel], laidTests := true, laidLooks := .later }
def FnWireUptoCardSaid : Prop := Claim7.holds Tryd.pinned (.plain (OpenSpec.upto fnWireSpec)) fnWireUptoCard
end Rows
end Go.Proofs.YthflpgckojnbmaaDoor
