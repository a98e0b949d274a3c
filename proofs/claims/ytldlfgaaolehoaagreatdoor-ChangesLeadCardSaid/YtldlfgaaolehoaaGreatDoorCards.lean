/-
  DERIVED. GIVEN WITH THE SEED: THE CARDS: each row of YtldlfgaaolehoaaGreatDoorRows.lean that lists a variable, with what it lists TIED to the program's text (the seventh form; the later family's looks); each row that meets fmt, with fmt's text TOLD by the authors' own Lean function (tested against real Go, not proved from fmt's source: count such statements apart). THE CARD IS WHAT COUNTS. Prove the row's statement (the work); the ties are given (YtldlfgaaolehoaaGreatDoorTie.lean); close each card by the builder's one call (the guide's Derived/Test/ToyasCard.lean, 'card_holds'). Laid BY PROGRAM, IN A SANDBOX (cutbox-door.mjs). By AI agents, Wed Nov 11 2026. No macro, syntax, notation, axiom, sorry.
-/
import Derived.Test.YtldlfgaaolehoaaGreatDoorRows
import GoSem.ClaimSeven
namespace Go.Proofs.YtldlfgaaolehoaaGreatDoor
namespace Rows

/-- THE TIED CARD OF 'fleetkeep2.ChangesLead'. -/
def changesLeadCard : Claim7 := { stood := { row := changesLeadRow, standIns := [], harness := (true, "bb6ce0ae1cd54dad215a0d2e62b7f33d510d67703589761971f5e97d49def48a"), looks := true }, kinds := [], alts := [], laidByText := true, laidKinds := [.data, .data, .data, .data, .sentinel, .sentinel, .pinned], laidTests := true, laidLooks := .later }
def ChangesLeadCardSaid : Prop := Claim7.holds Tryz.pinned (.plain (OpenSpec.ofChange changesLeadSpec)) changesLeadCard

/-- THE TIED CARD OF 'fleetkeep2.LettersEnd'. -/
def lettersEndCard : Claim7 := { stood := { row := lettersEndRow, standIns := [], harness := (true, "bb6ce0ae1cd54dad215a0d2e62b7f33d510d67703589761971f5e97d49def48a"), looks := true }, kinds := [], alts := [], laidByText := true, laidKinds := [.data, .data, .data, .data, .sentinel, .sentinel, .pinned], laidTests := true, laidLooks := .later }
def LettersEndCardSaid : Prop := Claim7.holds Tryz.pinned (.plain (OpenSpec.ofChange lettersEndSpec)) lettersEndCard

/-- THE TIED CARD OF 'fleetkeep2.AgesInSteps'. -/
def agesInStepsCard : Claim7 := { stood := { row := agesInStepsRow, standIns := [], harness := (true, "bb6ce0ae1cd54dad215a0d2e62b7f33d510d67703589761971f5e97d49def48a"), looks := true }, kinds := [], alts := [], laidByText := true, laidKinds := [.data, .data, .data, .data, .sentinel, .sentinel, .pinned], laidTests := true, laidLooks := .later }
def AgesInStepsCardSaid : Prop := Claim7.holds Tryz.pinned (.plain (OpenSpec.ofChange agesInStepsSpec)) agesInStepsCard

/-- THE TIED CARD OF 'fleetkeep2.FencesMeetBothWays'. -/
def fencesMeetBothWaysCard : Claim7 := { stood := { row := fencesMeetBothWaysRow, standIns := [], harness := (true, "bb6ce0ae1cd54dad215a0d2e62b7f33d510d67703589761971f5e97d49def48a"), looks := true }, kinds := [], alts := [], laidByText := true, laidKinds := [.data, .data, .data, .data, .sentinel, .sentinel, .pinned], laidTests := true, laidLooks := .later }
def FencesMeetBothWaysCardSaid : Prop := Claim7.holds Tryz.pinned (.plain (OpenSpec.ofChange fencesMeetBothWaysSpec)) fencesMeetBothWaysCard

/-- THE TIED CARD OF 'fleetkeep2.VisitsAreApart'. -/
def visitsAreApartCard : Claim7 := { stood := { row := visitsAreApartRow, standIns := [], harness := (true, "bb6ce0ae1cd54dad215a0d2e62b7f33d510d67703589761971f5e97d49def48a"), looks := true }, kinds := [], alts := [], laidByText := true, laidKinds := [.data, .data, .data, .data, .sentinel, .sentinel, .pinned], laidTests := true, laidLooks := .later }
def VisitsAreApartCardSaid : Prop := Claim7.holds Tryz.pinned (.plain (OpenSpec.ofChange visitsAreApartSpec)) visitsAreApartCard

/-- THE TIED CARD OF 'fleetkeep2.FencesAgree'. -/
def fencesAgreeCard : Claim7 := { stood := { row := fencesAgreeRow, standIns := [], harness := (true, "bb6ce0ae1cd54dad215a0d2e62b7f33d510d67703589761971f5e97d49def48a"), looks := true }, kinds := [], alts := [], laidByText := true, laidKinds := [.data, .data, .data, .data, .sentinel, .sentinel, .pinned], laidTests := true, laidLooks := .later }
def FencesAgreeCardSaid : Prop := Claim7.holds Tryz.pinned (.plain (OpenSpec.ofChange fencesAgreeSpec)) fencesAgreeCard

/-- THE TIED CARD OF 'fleetkeep2.CellsNest'. -/
def cellsNestCard : Claim7 := { stood := { row := cellsNestRow, standIns := [], harness := (true, "bb6ce0ae1cd54dad215a0d2e62b7f33d510d67703589761971f5e97d49def48a"), looks := true }, kinds := [], alts := [], laidByText := true, laidKinds := [.data, .data, .data, .data, .sentinel, .sentinel, .pinned], laidTests := true, laidLooks := .later }
def CellsNestCardSaid : Prop := Claim7.holds Tryz.pinned (.plain (OpenSpec.ofChange cellsNestSpec)) cellsNestCard

/-- THE SECOND FORM's CARD OF 'fleetkeep2.ChangesLead'. -/
def changesLeadUptoCard : Claim7 := { stood := { row := changesLeadUptoRow, standIns := [], harness := (true, "bb6ce0ae1cd54dad215a0d2e62b7f33d510d67703589761971f5e97d49def48a"), looks := true }, kinds := [], alts := [], laidByText := true, laidKinds := [.data, .data, .data, .data, .sentinel, .sentinel, .pinned], laidTests := true, laidLooks := .later }
def ChangesLeadUptoCardSaid : Prop := Claim7.holds Tryz.pinned (.plain (OpenSpec.upto changesLeadSpec)) changesLeadUptoCard

/-- THE SECOND FORM's CARD OF 'fleetkeep2.LettersEnd'. -/
def lettersEndUptoCard : Claim7 := { stood := { row := lettersEndUptoRow, standIns := [], harness := (true, "bb6ce0ae1cd54dad215a0d2e62b7f33d510d67703589761971f5e97d49def48a"), looks := true }, kinds := [], alts := [], laidByText := true, laidKinds := [.data, .data, .data, .data, .sentinel, .sentinel, .pinned], laidTests := true, laidLooks := .later }
def LettersEndUptoCardSaid : Prop := Claim7.holds Tryz.pinned (.plain (OpenSpec.upto lettersEndSpec)) lettersEndUptoCard

/-- THE SECOND FORM's CARD OF 'fleetkeep2.AgesInSteps'. -/
def agesInStepsUptoCard : Claim7 := { stood := { row := agesInStepsUptoRow, standIns := [], harness := (true, "bb6ce0ae1cd54dad215a0d2e62b7f33d510d67703589761971f5e97d49def48a"), looks := true }, kinds := [], alts := [], laidByText := true, laidKinds := [.data, .data, .data, .data, .sentinel, .sentinel, .pinned], laidTests := true, laidLooks := .later }
def AgesInStepsUptoCardSaid : Prop := Claim7.holds Tryz.pinned (.plain (OpenSpec.upto agesInStepsSpec)) agesInStepsUptoCard

/-- THE SECOND FORM's CARD OF 'fleetkeep2.FencesMeetBothWays'. -/
def fencesMeetBothWaysUptoCard : Claim7 := { stood := { row := fencesMeetBothWaysUptoRow, standIns := [], harness := (true, "bb6ce0ae1cd54dad215a0d2e62b7f33d510d67703589761971f5e97d49def48a"), looks := true }, kinds := [], alts := [], laidByText := true, laidKinds := [.data, .data, .data, .data, .sentinel, .sentinel, .pinned], laidTests := true, laidLooks := .later }
def FencesMeetBothWaysUptoCardSaid : Prop := Claim7.holds Tryz.pinned (.plain (OpenSpec.upto fencesMeetBothWaysSpec)) fencesMeetBothWaysUptoCard

/-- THE SECOND FORM's CARD OF 'fleetkeep2.VisitsAreApart'. -/
def visitsAreApartUptoCard : Claim7 := { stood := { row := visitsAreApartUptoRow, standIns := [], harness := (true, "bb6ce0ae1cd54dad215a0d2e62b7f33d510d67703589761971f5e97d49def48a"), looks := true }, kinds := [], alts := [], laidByText := true, laidKinds := [.data, .data, .data, .data, .sentinel, .sentinel, .pinned], laidTests := true, laidLooks := .later }
def VisitsAreApartUptoCardSaid : Prop := Claim7.holds Tryz.pinned (.plain (OpenSpec.upto visitsAreApartSpec)) visitsAreApartUptoCard

/-- THE SECOND FORM's CARD OF 'fleetkeep2.FencesAgree'. -/
def fencesAgreeUptoCard : Claim7 := { stood := { row := fencesAgreeUptoRow, standIns := [], harness := (true, "bb6ce0ae1cd54dad215a0d2e62b7f33d510d67703589761971f5e97d49def48a"), looks := true }, kinds := [], alts := [], laidByText := true, laidKinds := [.data, .data, .data, .data, .sentinel, .sentinel, .pinned], laidTests := true, laidLooks := .later }
def FencesAgreeUptoCardSaid : Prop := Claim7.holds Tryz.pinned (.plain (OpenSpec.upto fencesAgreeSpec)) fencesAgreeUptoCard

/-- THE SECOND FORM's CARD OF 'fleetkeep2.CellsNest'. -/
def cellsNestUptoCard : Claim7 := { stood := { row := cellsNestUptoRow, standIns := [], harness := (true, "bb6ce0ae1cd54dad215a0d2e62b7f33d510d67703589761971f5e97d49def48a"), looks := true }, kinds := [], alts := [], laidByText := true, laidKinds := [.data, .data, .data, .data, .sentinel, .sentinel, .pinned], laidTests := true, laidLooks := .later }
def CellsNestUptoCardSaid : Prop := Claim7.holds Tryz.pinned (.plain (OpenSpec.upto cellsNestSpec)) cellsNestUptoCard
end Rows
end Go.Proofs.YtldlfgaaolehoaaGreatDoor
