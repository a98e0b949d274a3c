/-
  DERIVED. GIVEN WITH THE SEED: THE CARDS: each row of YtnmgfnnkcenfeaaGreatDoorRows.lean that lists a variable, with what it lists TIED to the program's text (the seventh form; the later family's looks); each row that meets fmt, with fmt's text TOLD by the authors' own Lean function (tested against real Go, not proved from fmt's source: count such statements apart). THE CARD IS WHAT COUNTS. Prove the row's statement (the work); the ties are given (YtnmgfnnkcenfeaaGreatDoorTie.lean); close each card by the builder's one call (the guide's Derived/Test/ToyasCard.lean, 'card_holds'). Laid BY PROGRAM, IN A SANDBOX (cutbox-door.mjs). By AI agents, Wed Nov 11 2026. No macro, syntax, notation, axiom, sorry.
-/
import Derived.Test.YtnmgfnnkcenfeaaGreatDoorRows
import GoSem.ClaimSeven
namespace Go.Proofs.YtnmgfnnkcenfeaaGreatDoor
namespace Rows

/-- THE TIED CARD OF 'fleetkeep2.SeriesStay'. -/
def seriesStayCard : Claim7 := { stood := { row := seriesStayRow, standIns := [], harness := (true, "53a79960b0897c4642e3ace540134dcf5855d467c9a80208a63814ebba8006a7"), looks := true }, kinds := [], alts := [], laidByText := true, laidKinds := [.data, .data, .data, .data, .sentinel, .sentinel, .pinned], laidTests := true, laidLooks := .later }
def SeriesStayCardSaid : Prop := Claim7.holds Tryz.pinned (.plain (OpenSpec.ofChange seriesStaySpec)) seriesStayCard

/-- THE SECOND FORM's CARD OF 'fleetkeep2.SeriesStay'. -/
def seriesStayUptoCard : Claim7 := { stood := { row := seriesStayUptoRow, standIns := [], harness := (true, "53a79960b0897c4642e3ace540134dcf5855d467c9a80208a63814ebba8006a7"), looks := true }, kinds := [], alts := [], laidByText := true, laidKinds := [.data, .data, .data, .data, .sentinel, .sentinel, .pinned], laidTests := true, laidLooks := .later }
def SeriesStayUptoCardSaid : Prop := Claim7.holds Tryz.pinned (.plain (OpenSpec.upto seriesStaySpec)) seriesStayUptoCard
end Rows
end Go.Proofs.YtnmgfnnkcenfeaaGreatDoor
