/-
  DERIVED. GIVEN WITH THE SEED: THE CARDS: each row of YtkabcipccpbphaaGreatDoorRows.lean that lists a variable, with what it lists TIED to the program's text (the seventh form; the later family's looks); each row that meets fmt, with fmt's text TOLD by the authors' own Lean function (tested against real Go, not proved from fmt's source: count such statements apart). THE CARD IS WHAT COUNTS. Prove the row's statement (the work); the ties are given (YtkabcipccpbphaaGreatDoorTie.lean); close each card by the builder's one call (the guide's Derived/Test/ToyasCard.lean, 'card_holds'). Laid BY PROGRAM, IN A SANDBOX (cutbox-door.mjs). By AI agents, Wed Nov 11 2026. No macro, syntax, notation, axiom, sorry.
-/
import Derived.Test.YtkabcipccpbphaaGreatDoorRows
import GoSem.ClaimSeven
namespace Go.Proofs.YtkabcipccpbphaaGreatDoor
namespace Rows

/-- THE TIED CARD OF 'fleetkeep1.SerialsComeBack'. -/
def serialsComeBackCard : Claim7 := { stood := { row := serialsComeBackRow, standIns := [], harness := (true, "a4769c0720dce88c06ff0ae253ca28970c7e32b4de8b7e7142d0e4b6d24406b8"), looks := true }, kinds := [], alts := [], laidByText := true, laidKinds := [.data, .data, .data, .data, .sentinel, .sentinel, .pinned], laidTests := true, laidLooks := .later }
def SerialsComeBackCardSaid : Prop := Claim7.holds Tryz.pinned (.plain (OpenSpec.ofChange serialsComeBackSpec)) serialsComeBackCard

/-- THE TIED CARD OF 'fleetkeep1.AlarmsTakeTurns'. -/
def alarmsTakeTurnsCard : Claim7 := { stood := { row := alarmsTakeTurnsRow, standIns := [], harness := (true, "a4769c0720dce88c06ff0ae253ca28970c7e32b4de8b7e7142d0e4b6d24406b8"), looks := true }, kinds := [], alts := [], laidByText := true, laidKinds := [.data, .data, .data, .data, .pinned], laidTests := true, laidLooks := .later }
def AlarmsTakeTurnsCardSaid : Prop := Claim7.holds Tryz.pinned (.plain (OpenSpec.ofChange alarmsTakeTurnsSpec)) alarmsTakeTurnsCard

/-- THE TIED CARD OF 'fleetkeep1.AccountsAdd'. -/
def accountsAddCard : Claim7 := { stood := { row := accountsAddRow, standIns := [], harness := (true, "a4769c0720dce88c06ff0ae253ca28970c7e32b4de8b7e7142d0e4b6d24406b8"), looks := true }, kinds := [], alts := [], laidByText := true, laidKinds := [.data, .data, .data, .data, .pinned], laidTests := true, laidLooks := .later }
def AccountsAddCardSaid : Prop := Claim7.holds Tryz.pinned (.plain (OpenSpec.ofChange accountsAddSpec)) accountsAddCard

/-- THE TIED CARD OF 'fleetkeep1.RefusedCanGo'. -/
def refusedCanGoCard : Claim7 := { stood := { row := refusedCanGoRow, standIns := [], harness := (true, "a4769c0720dce88c06ff0ae253ca28970c7e32b4de8b7e7142d0e4b6d24406b8"), looks := true }, kinds := [], alts := [], laidByText := true, laidKinds := [.data, .data, .data, .data, .pinned], laidTests := true, laidLooks := .later }
def RefusedCanGoCardSaid : Prop := Claim7.holds Tryz.pinned (.plain (OpenSpec.ofChange refusedCanGoSpec)) refusedCanGoCard

/-- THE SECOND FORM's CARD OF 'fleetkeep1.SerialsComeBack'. -/
def serialsComeBackUptoCard : Claim7 := { stood := { row := serialsComeBackUptoRow, standIns := [], harness := (true, "a4769c0720dce88c06ff0ae253ca28970c7e32b4de8b7e7142d0e4b6d24406b8"), looks := true }, kinds := [], alts := [], laidByText := true, laidKinds := [.data, .data, .data, .data, .sentinel, .sentinel, .pinned], laidTests := true, laidLooks := .later }
def SerialsComeBackUptoCardSaid : Prop := Claim7.holds Tryz.pinned (.plain (OpenSpec.upto serialsComeBackSpec)) serialsComeBackUptoCard

/-- THE SECOND FORM's CARD OF 'fleetkeep1.AlarmsTakeTurns'. -/
def alarmsTakeTurnsUptoCard : Claim7 := { stood := { row := alarmsTakeTurnsUptoRow, standIns := [], harness := (true, "a4769c0720dce88c06ff0ae253ca28970c7e32b4de8b7e7142d0e4b6d24406b8"), looks := true }, kinds := [], alts := [], laidByText := true, laidKinds := [.data, .data, .data, .data, .pinned], laidTests := true, laidLooks := .later }
def AlarmsTakeTurnsUptoCardSaid : Prop := Claim7.holds Tryz.pinned (.plain (OpenSpec.upto alarmsTakeTurnsSpec)) alarmsTakeTurnsUptoCard

/-- THE SECOND FORM's CARD OF 'fleetkeep1.AccountsAdd'. -/
def accountsAddUptoCard : Claim7 := { stood := { row := accountsAddUptoRow, standIns := [], harness := (true, "a4769c0720dce88c06ff0ae253ca28970c7e32b4de8b7e7142d0e4b6d24406b8"), looks := true }, kinds := [], alts := [], laidByText := true, laidKinds := [.data, .data, .data, .data, .pinned], laidTests := true, laidLooks := .later }
def AccountsAddUptoCardSaid : Prop := Claim7.holds Tryz.pinned (.plain (OpenSpec.upto accountsAddSpec)) accountsAddUptoCard

/-- THE SECOND FORM's CARD OF 'fleetkeep1.RefusedCanGo'. -/
def refusedCanGoUptoCard : Claim7 := { stood := { row := refusedCanGoUptoRow, standIns := [], harness := (true, "a4769c0720dce88c06ff0ae253ca28970c7e32b4de8b7e7142d0e4b6d24406b8"), looks := true }, kinds := [], alts := [], laidByText := true, laidKinds := [.data, .data, .data, .data, .pinned], laidTests := true, laidLooks := .later }
def RefusedCanGoUptoCardSaid : Prop := Claim7.holds Tryz.pinned (.plain (OpenSpec.upto refusedCanGoSpec)) refusedCanGoUptoCard
end Rows
end Go.Proofs.YtkabcipccpbphaaGreatDoor
