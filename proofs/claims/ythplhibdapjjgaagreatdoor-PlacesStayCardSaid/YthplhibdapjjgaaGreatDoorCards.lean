/-
  DERIVED. GIVEN WITH THE SEED: THE CARDS: each row of YthplhibdapjjgaaGreatDoorRows.lean that lists a variable, with what it lists TIED to the program's text (the seventh form; the later family's looks); each row that meets fmt, with fmt's text TOLD by the authors' own Lean function (tested against real Go, not proved from fmt's source: count such statements apart). THE CARD IS WHAT COUNTS. Prove the row's statement (the work); the ties are given (YthplhibdapjjgaaGreatDoorTie.lean); close each card by the builder's one call (the guide's Derived/Test/ToyasCard.lean, 'card_holds'). Laid BY PROGRAM, IN A SANDBOX (cutbox-door.mjs). By AI agents, Wed Nov 11 2026. No macro, syntax, notation, axiom, sorry.
-/
import Derived.Test.YthplhibdapjjgaaGreatDoorRows
import GoSem.ClaimSeven
namespace Go.Proofs.YthplhibdapjjgaaGreatDoor
namespace Rows

/-- THE TIED CARD OF 'fleetkeep2.PlacesStay'. -/
def placesStayCard : Claim7 := { stood := { row := placesStayRow, standIns := [], harness := (true, "2c84b2282885ecda3a3a45a0468671dc6da2bfbf5e7e264e877e20caf9cfcbc1"), looks := true }, kinds := [], alts := [], laidByText := true, laidKinds := [.data, .data, .data, .data, .sentinel, .sentinel, .pinned], laidTests := true, laidLooks := .later }
def PlacesStayCardSaid : Prop := Claim7.holds Tryz.pinned (.plain (OpenSpec.ofChange placesStaySpec)) placesStayCard

/-- THE SECOND FORM's CARD OF 'fleetkeep2.PlacesStay'. -/
def placesStayUptoCard : Claim7 := { stood := { row := placesStayUptoRow, standIns := [], harness := (true, "2c84b2282885ecda3a3a45a0468671dc6da2bfbf5e7e264e877e20caf9cfcbc1"), looks := true }, kinds := [], alts := [], laidByText := true, laidKinds := [.data, .data, .data, .data, .sentinel, .sentinel, .pinned], laidTests := true, laidLooks := .later }
def PlacesStayUptoCardSaid : Prop := Claim7.holds Tryz.pinned (.plain (OpenSpec.upto placesStaySpec)) placesStayUptoCard
end Rows
end Go.Proofs.YthplhibdapjjgaaGreatDoor
