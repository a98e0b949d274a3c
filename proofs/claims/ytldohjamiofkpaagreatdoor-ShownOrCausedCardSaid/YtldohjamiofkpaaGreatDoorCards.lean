/-
  DERIVED. GIVEN WITH THE SEED: THE CARDS: each row of YtldohjamiofkpaaGreatDoorRows.lean that lists a variable, with what it lists TIED to the program's text (the seventh form; the later family's looks); each row that meets fmt, with fmt's text TOLD by the authors' own Lean function (tested against real Go, not proved from fmt's source: count such statements apart). THE CARD IS WHAT COUNTS. Prove the row's statement (the work); the ties are given (YtldohjamiofkpaaGreatDoorTie.lean); close each card by the builder's one call (the guide's Derived/Test/ToyasCard.lean, 'card_holds'). Laid BY PROGRAM, IN A SANDBOX (cutbox-door.mjs). By AI agents, Wed Nov 11 2026. No macro, syntax, notation, axiom, sorry.
-/
import Derived.Test.YtldohjamiofkpaaGreatDoorRows
import GoSem.ClaimSeven
namespace Go.Proofs.YtldohjamiofkpaaGreatDoor
namespace Rows

/-- THE TIED CARD OF 'fleetkeep1.NoticesAreDue'. -/
def noticesAreDueCard : Claim7 := { stood := { row := noticesAreDueRow, standIns := [], harness := (true, "c867ef851dc3e97b40210077e4c7852dfe332ab29e830ac9d7d36a301a9d1ec5"), looks := false }, kinds := [], alts := [], laidByText := true, laidKinds := [.data, .data, .data, .data, .pinned], laidTests := true, laidLooks := .later }
def NoticesAreDueCardSaid : Prop := Claim7.holds Tryz.pinned (.plain (OpenSpec.ofChange noticesAreDueSpec)) noticesAreDueCard

/-- THE TIED CARD OF 'fleetkeep1.ShownOrCaused'. -/
def shownOrCausedCard : Claim7 := { stood := { row := shownOrCausedRow, standIns := [], harness := (true, "c867ef851dc3e97b40210077e4c7852dfe332ab29e830ac9d7d36a301a9d1ec5"), looks := false }, kinds := [], alts := [], laidByText := true, laidKinds := [.data, .data, .data, .data, .pinned], laidTests := true, laidLooks := .later }
def ShownOrCausedCardSaid : Prop := Claim7.holds Tryz.pinned (.plain (OpenSpec.ofChange shownOrCausedSpec)) shownOrCausedCard

/-- THE SECOND FORM's CARD OF 'fleetkeep1.NoticesAreDue'. -/
def noticesAreDueUptoCard : Claim7 := { stood := { row := noticesAreDueUptoRow, standIns := [], harness := (true, "c867ef851dc3e97b40210077e4c7852dfe332ab29e830ac9d7d36a301a9d1ec5"), looks := false }, kinds := [], alts := [], laidByText := true, laidKinds := [.data, .data, .data, .data, .pinned], laidTests := true, laidLooks := .later }
def NoticesAreDueUptoCardSaid : Prop := Claim7.holds Tryz.pinned (.plain (OpenSpec.upto noticesAreDueSpec)) noticesAreDueUptoCard

/-- THE SECOND FORM's CARD OF 'fleetkeep1.ShownOrCaused'. -/
def shownOrCausedUptoCard : Claim7 := { stood := { row := shownOrCausedUptoRow, standIns := [], harness := (true, "c867ef851dc3e97b40210077e4c7852dfe332ab29e830ac9d7d36a301a9d1ec5"), looks := false }, kinds := [], alts := [], laidByText := true, laidKinds := [.data, .data, .data, .data, .pinned], laidTests := true, laidLooks := .later }
def ShownOrCausedUptoCardSaid : Prop := Claim7.holds Tryz.pinned (.plain (OpenSpec.upto shownOrCausedSpec)) shownOrCausedUptoCard
end Rows
end Go.Proofs.YtldohjamiofkpaaGreatDoor
