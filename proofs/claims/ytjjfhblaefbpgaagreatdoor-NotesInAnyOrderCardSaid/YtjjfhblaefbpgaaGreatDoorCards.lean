/-
  DERIVED. GIVEN WITH THE SEED: THE CARDS: each row of YtjjfhblaefbpgaaGreatDoorRows.lean that lists a variable, with what it lists TIED to the program's text (the seventh form; the later family's looks); each row that meets fmt, with fmt's text TOLD by the authors' own Lean function (tested against real Go, not proved from fmt's source: count such statements apart). THE CARD IS WHAT COUNTS. Prove the row's statement (the work); the ties are given (YtjjfhblaefbpgaaGreatDoorTie.lean); close each card by the builder's one call (the guide's Derived/Test/ToyasCard.lean, 'card_holds'). Laid BY PROGRAM, IN A SANDBOX (cutbox-door.mjs). By AI agents, Wed Nov 11 2026. No macro, syntax, notation, axiom, sorry.
-/
import Derived.Test.YtjjfhblaefbpgaaGreatDoorRows
import GoSem.ClaimSeven
namespace Go.Proofs.YtjjfhblaefbpgaaGreatDoor
namespace Rows

/-- THE TIED CARD OF 'fleetkeep2.NotesInAnyOrder'. -/
def notesInAnyOrderCard : Claim7 := { stood := { row := notesInAnyOrderRow, standIns := [], harness := (true, "c9b22c4b534f9da5b6c7a087efa58e3fca33bab1a57612e878b8dc0c071d2228"), looks := true }, kinds := [], alts := [], laidByText := true, laidKinds := [.data, .data, .data, .data, .sentinel, .sentinel, .pinned], laidTests := true, laidLooks := .later }
def NotesInAnyOrderCardSaid : Prop := Claim7.holds Tryz.pinned (.plain (OpenSpec.ofChange notesInAnyOrderSpec)) notesInAnyOrderCard

/-- THE TIED CARD OF 'fleetkeep2.SeriesComeBack'. -/
def seriesComeBackCard : Claim7 := { stood := { row := seriesComeBackRow, standIns := [], harness := (true, "c9b22c4b534f9da5b6c7a087efa58e3fca33bab1a57612e878b8dc0c071d2228"), looks := true }, kinds := [], alts := [], laidByText := true, laidKinds := [.data, .data, .data, .data, .sentinel, .sentinel, .pinned], laidTests := true, laidLooks := .later }
def SeriesComeBackCardSaid : Prop := Claim7.holds Tryz.pinned (.plain (OpenSpec.ofChange seriesComeBackSpec)) seriesComeBackCard

/-- THE TIED CARD OF 'fleetkeep2.CellsComeBack'. -/
def cellsComeBackCard : Claim7 := { stood := { row := cellsComeBackRow, standIns := [], harness := (true, "c9b22c4b534f9da5b6c7a087efa58e3fca33bab1a57612e878b8dc0c071d2228"), looks := true }, kinds := [], alts := [], laidByText := true, laidKinds := [.data, .data, .data, .data, .sentinel, .sentinel, .pinned], laidTests := true, laidLooks := .later }
def CellsComeBackCardSaid : Prop := Claim7.holds Tryz.pinned (.plain (OpenSpec.ofChange cellsComeBackSpec)) cellsComeBackCard

/-- THE SECOND FORM's CARD OF 'fleetkeep2.NotesInAnyOrder'. -/
def notesInAnyOrderUptoCard : Claim7 := { stood := { row := notesInAnyOrderUptoRow, standIns := [], harness := (true, "c9b22c4b534f9da5b6c7a087efa58e3fca33bab1a57612e878b8dc0c071d2228"), looks := true }, kinds := [], alts := [], laidByText := true, laidKinds := [.data, .data, .data, .data, .sentinel, .sentinel, .pinned], laidTests := true, laidLooks := .later }
def NotesInAnyOrderUptoCardSaid : Prop := Claim7.holds Tryz.pinned (.plain (OpenSpec.upto notesInAnyOrderSpec)) notesInAnyOrderUptoCard

/-- THE SECOND FORM's CARD OF 'fleetkeep2.SeriesComeBack'. -/
def seriesComeBackUptoCard : Claim7 := { stood := { row := seriesComeBackUptoRow, standIns := [], harness := (true, "c9b22c4b534f9da5b6c7a087efa58e3fca33bab1a57612e878b8dc0c071d2228"), looks := true }, kinds := [], alts := [], laidByText := true, laidKinds := [.data, .data, .data, .data, .sentinel, .sentinel, .pinned], laidTests := true, laidLooks := .later }
def SeriesComeBackUptoCardSaid : Prop := Claim7.holds Tryz.pinned (.plain (OpenSpec.upto seriesComeBackSpec)) seriesComeBackUptoCard

/-- THE SECOND FORM's CARD OF 'fleetkeep2.CellsComeBack'. -/
def cellsComeBackUptoCard : Claim7 := { stood := { row := cellsComeBackUptoRow, standIns := [], harness := (true, "c9b22c4b534f9da5b6c7a087efa58e3fca33bab1a57612e878b8dc0c071d2228"), looks := true }, kinds := [], alts := [], laidByText := true, laidKinds := [.data, .data, .data, .data, .sentinel, .sentinel, .pinned], laidTests := true, laidLooks := .later }
def CellsComeBackUptoCardSaid : Prop := Claim7.holds Tryz.pinned (.plain (OpenSpec.upto cellsComeBackSpec)) cellsComeBackUptoCard
end Rows
end Go.Proofs.YtjjfhblaefbpgaaGreatDoor
