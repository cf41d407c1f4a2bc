/-
  DERIVED. GIVEN WITH THE SEED: THE CARDS: each row of YtgnbmjhljlbkhaaDoorRows.lean that lists a variable, with what it lists TIED to the program's text (the seventh form; the later family's looks); each row that meets fmt, with fmt's text TOLD by the authors' own Lean function (tested against real Go, not proved from fmt's source: count such statements apart). THE CARD IS WHAT COUNTS. Prove the row's statement (the work); the ties are given (YtgnbmjhljlbkhaaDoorTie.lean); close each card by the builder's one call (the guide's Derived/Test/ToyasCard.lean, 'card_holds'). Laid BY PROGRAM, IN A SANDBOX (cutbox-door.mjs). By AI agents, Wed Nov 11 2026. No macro, syntax, notation, axiom, sorry.
-/
import Derived.Test.YtgnbmjhljlbkhaaDoorRows
import GoSem.ClaimSeven
namespace Go.Proofs.YtgnbmjhljlbkhaaDoor
namespace Rows

/-- THE TIED CARD OF 'laws.FnExactChaBlock'. -/
def fnExactChaBlockCard : Claim7 := { stood := { row := fnExactChaBlockRow, standIns := [], harness := (true, "4e403907b894438770c9b4d8f2302bf91f824e52f63195d1585c3c77d878912d"), looks := false }, kinds := [], alts := [], laidByText := true, laidKinds := [.widerDeep], laidTests := true, laidLooks := .later }
def FnExactChaBlockCardSaid : Prop := Claim7.holds Tryd.pinned (.plain (OpenSpec.ofChange fnExactChaBlockSpec)) fnExactChaBlockCard

/-- THE TIED CARD OF 'laws.FnExactHChaCha'. -/
def fnExactHChaChaCard : Claim7 := { stood := { row := fnExactHChaChaRow, standIns := [], harness := (true, "4e403907b894438770c9b4d8f2302bf91f824e52f63195d1585c3c77d878912d"), looks := false }, kinds := [], alts := [], laidByText := true, laidKinds := [.widerDeep], laidTests := true, laidLooks := .later }
def FnExactHChaChaCardSaid : Prop := Claim7.holds Tryd.pinned (.plain (OpenSpec.ofChange fnExactHChaChaSpec)) fnExactHChaChaCard

/-- THE TIED CARD OF 'laws.FnExactSeal'. -/
def fnExactSealCard : Claim7 := { stood := { row := fnExactSealRow, standIns := [], harness := (true, "4e403907b894438770c9b4d8f2302bf91f824e52f63195d1585c3c77d878912d"), looks := false }, kinds := [], alts := [], laidByText := true, laidKinds := [.widerDeep], laidTests := true, laidLooks := .later }
def FnExactSealCardSaid : Prop := Claim7.holds Tryd.pinned (.plain (OpenSpec.ofChange fnExactSealSpec)) fnExactSealCard

/-- THE TIED CARD OF 'laws.FnExactOpen'. -/
def fnExactOpenCard : Claim7 := { stood := { row := fnExactOpenRow, standIns := [], harness := (true, "4e403907b894438770c9b4d8f2302bf91f824e52f63195d1585c3c77d878912d"), looks := false }, kinds := [], alts := [], laidByText := true, laidKinds := [.widerDeep], laidTests := true, laidLooks := .later }
def FnExactOpenCardSaid : Prop := Claim7.holds Tryd.pinned (.plain (OpenSpec.ofChange fnExactOpenSpec)) fnExactOpenCard

/-- THE TIED CARD OF 'laws.FnExactXSeal'. -/
def fnExactXSealCard : Claim7 := { stood := { row := fnExactXSealRow, standIns := [], harness := (true, "4e403907b894438770c9b4d8f2302bf91f824e52f63195d1585c3c77d878912d"), looks := false }, kinds := [], alts := [], laidByText := true, laidKinds := [.widerDeep], laidTests := true, laidLooks := .later }
def FnExactXSealCardSaid : Prop := Claim7.holds Tryd.pinned (.plain (OpenSpec.ofChange fnExactXSealSpec)) fnExactXSealCard

/-- THE TIED CARD OF 'laws.FnExactXOpen'. -/
def fnExactXOpenCard : Claim7 := { stood := { row := fnExactXOpenRow, standIns := [], harness := (true, "4e403907b894438770c9b4d8f2302bf91f824e52f63195d1585c3c77d878912d"), looks := false }, kinds := [], alts := [], laidByText := true, laidKinds := [.widerDeep], laidTests := true, laidLooks := .later }
def FnExactXOpenCardSaid : Prop := Claim7.holds Tryd.pinned (.plain (OpenSpec.ofChange fnExactXOpenSpec)) fnExactXOpenCard

/-- THE TIED CARD OF 'laws.FnSealing'. -/
def fnSealingCard : Claim7 := { stood := { row := fnSealingRow, standIns := [], harness := (true, "4e403907b894438770c9b4d8f2302bf91f824e52f63195d1585c3c77d878912d"), looks := false }, kinds := [], alts := [], laidByText := true, laidKinds := [.widerDeep], laidTests := true, laidLooks := .later }
def FnSealingCardSaid : Prop := Claim7.holds Tryd.pinned (.plain (OpenSpec.ofChange fnSealingSpec)) fnSealingCard

/-- THE SECOND FORM's CARD OF 'laws.FnExactChaBlock'. -/
def fnExactChaBlockUptoCard : Claim7 := { stood := { row := fnExactChaBlockUptoRow, standIns := [], harness := (true, "4e403907b894438770c9b4d8f2302bf91f824e52f63195d1585c3c77d878912d"), looks := false }, kinds := [], alts := [], laidByText := true, laidKinds := [.widerDeep], laidTests := true, laidLooks := .later }
def FnExactChaBlockUptoCardSaid : Prop := Claim7.holds Tryd.pinned (.plain (OpenSpec.upto fnExactChaBlockSpec)) fnExactChaBlockUptoCard

/-- THE SECOND FORM's CARD OF 'laws.FnExactHChaCha'. -/
def fnExactHChaChaUptoCard : Claim7 := { stood := { row := fnExactHChaChaUptoRow, standIns := [], harness := (true, "4e403907b894438770c9b4d8f2302bf91f824e52f63195d1585c3c77d878912d"), looks := false }, kinds := [], alts := [], laidByText := true, laidKinds := [.widerDeep], laidTests := true, laidLooks := .later }
def FnExactHChaChaUptoCardSaid : Prop := Claim7.holds Tryd.pinned (.plain (OpenSpec.upto fnExactHChaChaSpec)) fnExactHChaChaUptoCard

/-- THE SECOND FORM's CARD OF 'laws.FnExactSeal'. -/
def fnExactSealUptoCard : Claim7 := { stood := { row := fnExactSealUptoRow, standIns := [], harness := (true, "4e403907b894438770c9b4d8f2302bf91f824e52f63195d1585c3c77d878912d"), looks := false }, kinds := [], alts := [], laidByText := true, laidKinds := [.widerDeep], laidTests := true, laidLooks := .later }
def FnExactSealUptoCardSaid : Prop := Claim7.holds Tryd.pinned (.plain (OpenSpec.upto fnExactSealSpec)) fnExactSealUptoCard

/-- THE SECOND FORM's CARD OF 'laws.FnExactOpen'. -/
def fnExactOpenUptoCard : Claim7 := { stood := { row := fnExactOpenUptoRow, standIns := [], harness := (true, "4e403907b894438770c9b4d8f2302bf91f824e52f63195d1585c3c77d878912d"), looks := false }, kinds := [], alts := [], laidByText := true, laidKinds := [.widerDeep], laidTests := true, laidLooks := .later }
def FnExactOpenUptoCardSaid : Prop := Claim7.holds Tryd.pinned (.plain (OpenSpec.upto fnExactOpenSpec)) fnExactOpenUptoCard

/-- THE SECOND FORM's CARD OF 'laws.FnExactXSeal'. -/
def fnExactXSealUptoCard : Claim7 := { stood := { row := fnExactXSealUptoRow, standIns := [], harness := (true, "4e403907b894438770c9b4d8f2302bf91f824e52f63195d1585c3c77d878912d"), looks := false }, kinds := [], alts := [], laidByText := true, laidKinds := [.widerDeep], laidTests := true, laidLooks := .later }
def FnExactXSealUptoCardSaid : Prop := Claim7.holds Tryd.pinned (.plain (OpenSpec.upto fnExactXSealSpec)) fnExactXSealUptoCard

/-- THE SECOND FORM's CARD OF 'laws.FnExactXOpen'. -/
def fnExactXOpenUptoCard : Claim7 := { stood := { row := fnExactXOpenUptoRow, standIns := [], harness := (true, "4e403907b894438770c9b4d8f2302bf91f824e52f63195d1585c3c77d878912d"), looks := false }, kinds := [], alts := [], laidByText := true, laidKinds := [.widerDeep], laidTests := true, laidLooks := .later }
def FnExactXOpenUptoCardSaid : Prop := Claim7.holds Tryd.pinned (.plain (OpenSpec.upto fnExactXOpenSpec)) fnExactXOpenUptoCard

/-- THE SECOND FORM's CARD OF 'laws.FnSealing'. -/
def fnSealingUptoCard : Claim7 := { stood := { row := fnSealingUptoRow, standIns := [], harness := (true, "4e403907b894438770c9b4d8f2302bf91f824e52f63195d1585c3c77d878912d"), looks := false }, kinds := [], alts := [], laidByText := true, laidKinds := [.widerDeep], laidTests := true, laidLooks := .later }
def FnSealingUptoCardSaid : Prop := Claim7.holds Tryd.pinned (.plain (OpenSpec.upto fnSealingSpec)) fnSealingUptoCard
end Rows
end Go.Proofs.YtgnbmjhljlbkhaaDoor
