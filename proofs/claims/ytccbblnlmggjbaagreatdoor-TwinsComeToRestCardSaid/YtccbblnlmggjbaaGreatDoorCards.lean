/-
  DERIVED. GIVEN WITH THE SEED: THE CARDS: each row of YtccbblnlmggjbaaGreatDoorRows.lean that lists a variable, with what it lists TIED to the program's text (the seventh form; the later family's looks); each row that meets fmt, with fmt's text TOLD by the authors' own Lean function (tested against real Go, not proved from fmt's source: count such statements apart). THE CARD IS WHAT COUNTS. Prove the row's statement (the work); the ties are given (YtccbblnlmggjbaaGreatDoorTie.lean); close each card by the builder's one call (the guide's Derived/Test/ToyasCard.lean, 'card_holds'). Laid BY PROGRAM, IN A SANDBOX (cutbox-door.mjs). By AI agents, Wed Nov 11 2026. No macro, syntax, notation, axiom, sorry.
-/
import Derived.Test.YtccbblnlmggjbaaGreatDoorRows
import GoSem.ClaimSeven
namespace Go.Proofs.YtccbblnlmggjbaaGreatDoor
namespace Rows

/-- THE TIED CARD OF 'fleetkeep2.CellsInAnyOrder'. -/
def cellsInAnyOrderCard : Claim7 := { stood := { row := cellsInAnyOrderRow, standIns := [], harness := (true, "6fd5c029aa8f1295b6c4ea9212c1cb49a88623f4abc3e896a805df325d64adb4"), looks := true }, kinds := [], alts := [], laidByText := true, laidKinds := [.data, .data, .data, .data, .sentinel, .sentinel, .pinned], laidTests := true, laidLooks := .later }
def CellsInAnyOrderCardSaid : Prop := Claim7.holds Tryz.pinned (.plain (OpenSpec.ofChange cellsInAnyOrderSpec)) cellsInAnyOrderCard

/-- THE TIED CARD OF 'fleetkeep2.CompactStays'. -/
def compactStaysCard : Claim7 := { stood := { row := compactStaysRow, standIns := [], harness := (true, "6fd5c029aa8f1295b6c4ea9212c1cb49a88623f4abc3e896a805df325d64adb4"), looks := true }, kinds := [], alts := [], laidByText := true, laidKinds := [.data, .data, .data, .data, .sentinel, .sentinel, .pinned], laidTests := true, laidLooks := .later }
def CompactStaysCardSaid : Prop := Claim7.holds Tryz.pinned (.plain (OpenSpec.ofChange compactStaysSpec)) compactStaysCard

/-- THE TIED CARD OF 'fleetkeep2.TwinsComeToRest'. -/
def twinsComeToRestCard : Claim7 := { stood := { row := twinsComeToRestRow, standIns := [], harness := (true, "6fd5c029aa8f1295b6c4ea9212c1cb49a88623f4abc3e896a805df325d64adb4"), looks := true }, kinds := [], alts := [], laidByText := true, laidKinds := [.data, .data, .data, .data, .sentinel, .sentinel, .pinned], laidTests := true, laidLooks := .later }
def TwinsComeToRestCardSaid : Prop := Claim7.holds Tryz.pinned (.plain (OpenSpec.ofChange twinsComeToRestSpec)) twinsComeToRestCard

/-- THE SECOND FORM's CARD OF 'fleetkeep2.CellsInAnyOrder'. -/
def cellsInAnyOrderUptoCard : Claim7 := { stood := { row := cellsInAnyOrderUptoRow, standIns := [], harness := (true, "6fd5c029aa8f1295b6c4ea9212c1cb49a88623f4abc3e896a805df325d64adb4"), looks := true }, kinds := [], alts := [], laidByText := true, laidKinds := [.data, .data, .data, .data, .sentinel, .sentinel, .pinned], laidTests := true, laidLooks := .later }
def CellsInAnyOrderUptoCardSaid : Prop := Claim7.holds Tryz.pinned (.plain (OpenSpec.upto cellsInAnyOrderSpec)) cellsInAnyOrderUptoCard

/-- THE SECOND FORM's CARD OF 'fleetkeep2.CompactStays'. -/
def compactStaysUptoCard : Claim7 := { stood := { row := compactStaysUptoRow, standIns := [], harness := (true, "6fd5c029aa8f1295b6c4ea9212c1cb49a88623f4abc3e896a805df325d64adb4"), looks := true }, kinds := [], alts := [], laidByText := true, laidKinds := [.data, .data, .data, .data, .sentinel, .sentinel, .pinned], laidTests := true, laidLooks := .later }
def CompactStaysUptoCardSaid : Prop := Claim7.holds Tryz.pinned (.plain (OpenSpec.upto compactStaysSpec)) compactStaysUptoCard

/-- THE SECOND FORM's CARD OF 'fleetkeep2.TwinsComeToRest'. -/
def twinsComeToRestUptoCard : Claim7 := { stood := { row := twinsComeToRestUptoRow, standIns := [], harness := (true, "6fd5c029aa8f1295b6c4ea9212c1cb49a88623f4abc3e896a805df325d64adb4"), looks := true }, kinds := [], alts := [], laidByText := true, laidKinds := [.data, .data, .data, .data, .sentinel, .sentinel, .pinned], laidTests := true, laidLooks := .later }
def TwinsComeToRestUptoCardSaid : Prop := Claim7.holds Tryz.pinned (.plain (OpenSpec.upto twinsComeToRestSpec)) twinsComeToRestUptoCard
end Rows
end Go.Proofs.YtccbblnlmggjbaaGreatDoor
