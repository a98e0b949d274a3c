/-
  DERIVED. GIVEN WITH THE SEED: THE CARDS: each row of YtnnncddjcdjhoaaGreatDoorRows.lean that lists a variable, with what it lists TIED to the program's text (the seventh form; the later family's looks); each row that meets fmt, with fmt's text TOLD by the authors' own Lean function (tested against real Go, not proved from fmt's source: count such statements apart). THE CARD IS WHAT COUNTS. Prove the row's statement (the work); the ties are given (YtnnncddjcdjhoaaGreatDoorTie.lean); close each card by the builder's one call (the guide's Derived/Test/ToyasCard.lean, 'card_holds'). Laid BY PROGRAM, IN A SANDBOX (cutbox-door.mjs). By AI agents, Wed Nov 11 2026. No macro, syntax, notation, axiom, sorry.
-/
import Derived.Test.YtnnncddjcdjhoaaGreatDoorRows
import GoSem.ClaimSeven
namespace Go.Proofs.YtnnncddjcdjhoaaGreatDoor
namespace Rows

/-- THE TIED CARD OF 'fleetkeep2.CommandsStay'. -/
def commandsStayCard : Claim7 := { stood := { row := commandsStayRow, standIns := [], harness := (true, "d65a8bd4c5d81a9c883ef16756accf83fe1afb64c9d5f9c5b8e13e7d13cc072c"), looks := true }, kinds := [], alts := [], laidByText := true, laidKinds := [.data, .data, .data, .data, .sentinel, .sentinel, .pinned], laidTests := true, laidLooks := .later }
def CommandsStayCardSaid : Prop := Claim7.holds Tryz.pinned (.plain (OpenSpec.ofChange commandsStaySpec)) commandsStayCard

/-- THE SECOND FORM's CARD OF 'fleetkeep2.CommandsStay'. -/
def commandsStayUptoCard : Claim7 := { stood := { row := commandsStayUptoRow, standIns := [], harness := (true, "d65a8bd4c5d81a9c883ef16756accf83fe1afb64c9d5f9c5b8e13e7d13cc072c"), looks := true }, kinds := [], alts := [], laidByText := true, laidKinds := [.data, .data, .data, .data, .sentinel, .sentinel, .pinned], laidTests := true, laidLooks := .later }
def CommandsStayUptoCardSaid : Prop := Claim7.holds Tryz.pinned (.plain (OpenSpec.upto commandsStaySpec)) commandsStayUptoCard
end Rows
end Go.Proofs.YtnnncddjcdjhoaaGreatDoor
