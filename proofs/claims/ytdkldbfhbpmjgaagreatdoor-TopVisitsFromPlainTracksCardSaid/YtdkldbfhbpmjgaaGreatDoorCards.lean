/-
  DERIVED. GIVEN WITH THE SEED: THE CARDS: each row of YtdkldbfhbpmjgaaGreatDoorRows.lean that lists a variable, with what it lists TIED to the program's text (the seventh form; the later family's looks); each row that meets fmt, with fmt's text TOLD by the authors' own Lean function (tested against real Go, not proved from fmt's source: count such statements apart). THE CARD IS WHAT COUNTS. Prove the row's statement (the work); the ties are given (YtdkldbfhbpmjgaaGreatDoorTie.lean); close each card by the builder's one call (the guide's Derived/Test/ToyasCard.lean, 'card_holds'). Laid BY PROGRAM, IN A SANDBOX (cutbox-door.mjs). By AI agents, Wed Nov 11 2026. No macro, syntax, notation, axiom, sorry.
-/
import Derived.Test.YtdkldbfhbpmjgaaGreatDoorRows
import GoSem.ClaimSeven
namespace Go.Proofs.YtdkldbfhbpmjgaaGreatDoor
namespace Rows

/-- THE TIED CARD OF 'fleettop.TopVisitsFromPlainTracks'. -/
def topVisitsFromPlainTracksCard : Claim7 := { stood := { row := topVisitsFromPlainTracksRow, standIns := [], harness := (true, "290a716007bb5662a3eccd9af62481376e24c705668d2f8fd51789eb928aeb2a"), looks := true }, kinds := [], alts := [], laidByText := true, laidKinds := [.data, .data, .data, .data, .sentinel, .sentinel, .pinned], laidTests := true, laidLooks := .later }
def TopVisitsFromPlainTracksCardSaid : Prop := Claim7.holds Tryz.pinned (.plain (OpenSpec.ofChange topVisitsFromPlainTracksSpec)) topVisitsFromPlainTracksCard

/-- THE TIED CARD OF 'fleettop.TopCellsAndFences'. -/
def topCellsAndFencesCard : Claim7 := { stood := { row := topCellsAndFencesRow, standIns := [], harness := (true, "290a716007bb5662a3eccd9af62481376e24c705668d2f8fd51789eb928aeb2a"), looks := true }, kinds := [], alts := [], laidByText := true, laidKinds := [.data, .data, .data, .data, .sentinel, .sentinel, .pinned], laidTests := true, laidLooks := .later }
def TopCellsAndFencesCardSaid : Prop := Claim7.holds Tryz.pinned (.plain (OpenSpec.ofChange topCellsAndFencesSpec)) topCellsAndFencesCard

/-- THE SECOND FORM's CARD OF 'fleettop.TopVisitsFromPlainTracks'. -/
def topVisitsFromPlainTracksUptoCard : Claim7 := { stood := { row := topVisitsFromPlainTracksUptoRow, standIns := [], harness := (true, "290a716007bb5662a3eccd9af62481376e24c705668d2f8fd51789eb928aeb2a"), looks := true }, kinds := [], alts := [], laidByText := true, laidKinds := [.data, .data, .data, .data, .sentinel, .sentinel, .pinned], laidTests := true, laidLooks := .later }
def TopVisitsFromPlainTracksUptoCardSaid : Prop := Claim7.holds Tryz.pinned (.plain (OpenSpec.upto topVisitsFromPlainTracksSpec)) topVisitsFromPlainTracksUptoCard

/-- THE SECOND FORM's CARD OF 'fleettop.TopCellsAndFences'. -/
def topCellsAndFencesUptoCard : Claim7 := { stood := { row := topCellsAndFencesUptoRow, standIns := [], harness := (true, "290a716007bb5662a3eccd9af62481376e24c705668d2f8fd51789eb928aeb2a"), looks := true }, kinds := [], alts := [], laidByText := true, laidKinds := [.data, .data, .data, .data, .sentinel, .sentinel, .pinned], laidTests := true, laidLooks := .later }
def TopCellsAndFencesUptoCardSaid : Prop := Claim7.holds Tryz.pinned (.plain (OpenSpec.upto topCellsAndFencesSpec)) topCellsAndFencesUptoCard
end Rows
end Go.Proofs.YtdkldbfhbpmjgaaGreatDoor
