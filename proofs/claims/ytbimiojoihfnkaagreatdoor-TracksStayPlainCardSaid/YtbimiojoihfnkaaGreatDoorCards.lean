/-
  DERIVED. GIVEN WITH THE SEED: THE CARDS: each row of YtbimiojoihfnkaaGreatDoorRows.lean that lists a variable, with what it lists TIED to the program's text (the seventh form; the later family's looks); each row that meets fmt, with fmt's text TOLD by the authors' own Lean function (tested against real Go, not proved from fmt's source: count such statements apart). THE CARD IS WHAT COUNTS. Prove the row's statement (the work); the ties are given (YtbimiojoihfnkaaGreatDoorTie.lean); close each card by the builder's one call (the guide's Derived/Test/ToyasCard.lean, 'card_holds'). Laid BY PROGRAM, IN A SANDBOX (cutbox-door.mjs). By AI agents, Wed Nov 11 2026. No macro, syntax, notation, axiom, sorry.
-/
import Derived.Test.YtbimiojoihfnkaaGreatDoorRows
import GoSem.ClaimSeven
namespace Go.Proofs.YtbimiojoihfnkaaGreatDoor
namespace Rows

/-- THE TIED CARD OF 'fleetkeep2.StaysAreNear'. -/
def staysAreNearCard : Claim7 := { stood := { row := staysAreNearRow, standIns := [], harness := (true, "3e0e9ab24043f743b5c6158cc52124990f575a4bc56a983b4c193ec775b92621"), looks := true }, kinds := [], alts := [], laidByText := true, laidKinds := [.data, .data, .data, .data, .sentinel, .sentinel, .pinned], laidTests := true, laidLooks := .later }
def StaysAreNearCardSaid : Prop := Claim7.holds Tryz.pinned (.plain (OpenSpec.ofChange staysAreNearSpec)) staysAreNearCard

/-- THE TIED CARD OF 'fleetkeep2.DoneOnce'. -/
def doneOnceCard : Claim7 := { stood := { row := doneOnceRow, standIns := [], harness := (true, "3e0e9ab24043f743b5c6158cc52124990f575a4bc56a983b4c193ec775b92621"), looks := true }, kinds := [], alts := [], laidByText := true, laidKinds := [.data, .data, .data, .data, .sentinel, .sentinel, .pinned], laidTests := true, laidLooks := .later }
def DoneOnceCardSaid : Prop := Claim7.holds Tryz.pinned (.plain (OpenSpec.ofChange doneOnceSpec)) doneOnceCard

/-- THE TIED CARD OF 'fleetkeep2.ValuesMeet'. -/
def valuesMeetCard : Claim7 := { stood := { row := valuesMeetRow, standIns := [], harness := (true, "3e0e9ab24043f743b5c6158cc52124990f575a4bc56a983b4c193ec775b92621"), looks := true }, kinds := [], alts := [], laidByText := true, laidKinds := [.data, .data, .data, .data, .sentinel, .sentinel, .pinned], laidTests := true, laidLooks := .later }
def ValuesMeetCardSaid : Prop := Claim7.holds Tryz.pinned (.plain (OpenSpec.ofChange valuesMeetSpec)) valuesMeetCard

/-- THE TIED CARD OF 'fleetkeep2.ChangesLead'. -/
def changesLeadCard : Claim7 := { stood := { row := changesLeadRow, standIns := [], harness := (true, "3e0e9ab24043f743b5c6158cc52124990f575a4bc56a983b4c193ec775b92621"), looks := true }, kinds := [], alts := [], laidByText := true, laidKinds := [.data, .data, .data, .data, .sentinel, .sentinel, .pinned], laidTests := true, laidLooks := .later }
def ChangesLeadCardSaid : Prop := Claim7.holds Tryz.pinned (.plain (OpenSpec.ofChange changesLeadSpec)) changesLeadCard

/-- THE TIED CARD OF 'fleetkeep2.FencesMeetBothWays'. -/
def fencesMeetBothWaysCard : Claim7 := { stood := { row := fencesMeetBothWaysRow, standIns := [], harness := (true, "3e0e9ab24043f743b5c6158cc52124990f575a4bc56a983b4c193ec775b92621"), looks := true }, kinds := [], alts := [], laidByText := true, laidKinds := [.data, .data, .data, .data, .sentinel, .sentinel, .pinned], laidTests := true, laidLooks := .later }
def FencesMeetBothWaysCardSaid : Prop := Claim7.holds Tryz.pinned (.plain (OpenSpec.ofChange fencesMeetBothWaysSpec)) fencesMeetBothWaysCard

/-- THE TIED CARD OF 'fleetkeep2.TracksStayPlain'. -/
def tracksStayPlainCard : Claim7 := { stood := { row := tracksStayPlainRow, standIns := [], harness := (true, "3e0e9ab24043f743b5c6158cc52124990f575a4bc56a983b4c193ec775b92621"), looks := true }, kinds := [], alts := [], laidByText := true, laidKinds := [.data, .data, .data, .data, .sentinel, .sentinel, .pinned], laidTests := true, laidLooks := .later }
def TracksStayPlainCardSaid : Prop := Claim7.holds Tryz.pinned (.plain (OpenSpec.ofChange tracksStayPlainSpec)) tracksStayPlainCard

/-- THE TIED CARD OF 'fleetkeep2.SeriesComeBack'. -/
def seriesComeBackCard : Claim7 := { stood := { row := seriesComeBackRow, standIns := [], harness := (true, "3e0e9ab24043f743b5c6158cc52124990f575a4bc56a983b4c193ec775b92621"), looks := true }, kinds := [], alts := [], laidByText := true, laidKinds := [.data, .data, .data, .data, .sentinel, .sentinel, .pinned], laidTests := true, laidLooks := .later }
def SeriesComeBackCardSaid : Prop := Claim7.holds Tryz.pinned (.plain (OpenSpec.ofChange seriesComeBackSpec)) seriesComeBackCard

/-- THE TIED CARD OF 'fleetkeep2.LettersEnd'. -/
def lettersEndCard : Claim7 := { stood := { row := lettersEndRow, standIns := [], harness := (true, "3e0e9ab24043f743b5c6158cc52124990f575a4bc56a983b4c193ec775b92621"), looks := true }, kinds := [], alts := [], laidByText := true, laidKinds := [.data, .data, .data, .data, .sentinel, .sentinel, .pinned], laidTests := true, laidLooks := .later }
def LettersEndCardSaid : Prop := Claim7.holds Tryz.pinned (.plain (OpenSpec.ofChange lettersEndSpec)) lettersEndCard

/-- THE SECOND FORM's CARD OF 'fleetkeep2.StaysAreNear'. -/
def staysAreNearUptoCard : Claim7 := { stood := { row := staysAreNearUptoRow, standIns := [], harness := (true, "3e0e9ab24043f743b5c6158cc52124990f575a4bc56a983b4c193ec775b92621"), looks := true }, kinds := [], alts := [], laidByText := true, laidKinds := [.data, .data, .data, .data, .sentinel, .sentinel, .pinned], laidTests := true, laidLooks := .later }
def StaysAreNearUptoCardSaid : Prop := Claim7.holds Tryz.pinned (.plain (OpenSpec.upto staysAreNearSpec)) staysAreNearUptoCard

/-- THE SECOND FORM's CARD OF 'fleetkeep2.DoneOnce'. -/
def doneOnceUptoCard : Claim7 := { stood := { row := doneOnceUptoRow, standIns := [], harness := (true, "3e0e9ab24043f743b5c6158cc52124990f575a4bc56a983b4c193ec775b92621"), looks := true }, kinds := [], alts := [], laidByText := true, laidKinds := [.data, .data, .data, .data, .sentinel, .sentinel, .pinned], laidTests := true, laidLooks := .later }
def DoneOnceUptoCardSaid : Prop := Claim7.holds Tryz.pinned (.plain (OpenSpec.upto doneOnceSpec)) doneOnceUptoCard

/-- THE SECOND FORM's CARD OF 'fleetkeep2.ValuesMeet'. -/
def valuesMeetUptoCard : Claim7 := { stood := { row := valuesMeetUptoRow, standIns := [], harness := (true, "3e0e9ab24043f743b5c6158cc52124990f575a4bc56a983b4c193ec775b92621"), looks := true }, kinds := [], alts := [], laidByText := true, laidKinds := [.data, .data, .data, .data, .sentinel, .sentinel, .pinned], laidTests := true, laidLooks := .later }
def ValuesMeetUptoCardSaid : Prop := Claim7.holds Tryz.pinned (.plain (OpenSpec.upto valuesMeetSpec)) valuesMeetUptoCard

/-- THE SECOND FORM's CARD OF 'fleetkeep2.ChangesLead'. -/
def changesLeadUptoCard : Claim7 := { stood := { row := changesLeadUptoRow, standIns := [], harness := (true, "3e0e9ab24043f743b5c6158cc52124990f575a4bc56a983b4c193ec775b92621"), looks := true }, kinds := [], alts := [], laidByText := true, laidKinds := [.data, .data, .data, .data, .sentinel, .sentinel, .pinned], laidTests := true, laidLooks := .later }
def ChangesLeadUptoCardSaid : Prop := Claim7.holds Tryz.pinned (.plain (OpenSpec.upto changesLeadSpec)) changesLeadUptoCard

/-- THE SECOND FORM's CARD OF 'fleetkeep2.FencesMeetBothWays'. -/
def fencesMeetBothWaysUptoCard : Claim7 := { stood := { row := fencesMeetBothWaysUptoRow, standIns := [], harness := (true, "3e0e9ab24043f743b5c6158cc52124990f575a4bc56a983b4c193ec775b92621"), looks := true }, kinds := [], alts := [], laidByText := true, laidKinds := [.data, .data, .data, .data, .sentinel, .sentinel, .pinned], laidTests := true, laidLooks := .later }
def FencesMeetBothWaysUptoCardSaid : Prop := Claim7.holds Tryz.pinned (.plain (OpenSpec.upto fencesMeetBothWaysSpec)) fencesMeetBothWaysUptoCard

/-- THE SECOND FORM's CARD OF 'fleetkeep2.TracksStayPlain'. -/
def tracksStayPlainUptoCard : Claim7 := { stood := { row := tracksStayPlainUptoRow, standIns := [], harness := (true, "3e0e9ab24043f743b5c6158cc52124990f575a4bc56a983b4c193ec775b92621"), looks := true }, kinds := [], alts := [], laidByText := true, laidKinds := [.data, .data, .data, .data, .sentinel, .sentinel, .pinned], laidTests := true, laidLooks := .later }
def TracksStayPlainUptoCardSaid : Prop := Claim7.holds Tryz.pinned (.plain (OpenSpec.upto tracksStayPlainSpec)) tracksStayPlainUptoCard

/-- THE SECOND FORM's CARD OF 'fleetkeep2.SeriesComeBack'. -/
def seriesComeBackUptoCard : Claim7 := { stood := { row := seriesComeBackUptoRow, standIns := [], harness := (true, "3e0e9ab24043f743b5c6158cc52124990f575a4bc56a983b4c193ec775b92621"), looks := true }, kinds := [], alts := [], laidByText := true, laidKinds := [.data, .data, .data, .data, .sentinel, .sentinel, .pinned], laidTests := true, laidLooks := .later }
def SeriesComeBackUptoCardSaid : Prop := Claim7.holds Tryz.pinned (.plain (OpenSpec.upto seriesComeBackSpec)) seriesComeBackUptoCard

/-- THE SECOND FORM's CARD OF 'fleetkeep2.LettersEnd'. -/
def lettersEndUptoCard : Claim7 := { stood := { row := lettersEndUptoRow, standIns := [], harness := (true, "3e0e9ab24043f743b5c6158cc52124990f575a4bc56a983b4c193ec775b92621"), looks := true }, kinds := [], alts := [], laidByText := true, laidKinds := [.data, .data, .data, .data, .sentinel, .sentinel, .pinned], laidTests := true, laidLooks := .later }
def LettersEndUptoCardSaid : Prop := Claim7.holds Tryz.pinned (.plain (OpenSpec.upto lettersEndSpec)) lettersEndUptoCard
end Rows
end Go.Proofs.YtbimiojoihfnkaaGreatDoor
