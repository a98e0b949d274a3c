/-
  DERIVED. GIVEN WITH THE SEED: THE CARDS: each row of YtidgicbhgnbidaaGreatDoorRows.lean that lists a variable, with what it lists TIED to the program's text (the seventh form; the later family's looks); each row that meets fmt, with fmt's text TOLD by the authors' own Lean function (tested against real Go, not proved from fmt's source: count such statements apart). THE CARD IS WHAT COUNTS. Prove the row's statement (the work); the ties are given (YtidgicbhgnbidaaGreatDoorTie.lean); close each card by the builder's one call (the guide's Derived/Test/ToyasCard.lean, 'card_holds'). Laid BY PROGRAM, IN A SANDBOX (cutbox-door.mjs). By AI agents, Wed Nov 11 2026. No macro, syntax, notation, axiom, sorry.
-/
import Derived.Test.YtidgicbhgnbidaaGreatDoorRows
import GoSem.ClaimSeven
namespace Go.Proofs.YtidgicbhgnbidaaGreatDoor
namespace Rows

/-- THE TIED CARD OF 'fleetkeep2.WaysLead'. -/
def waysLeadCard : Claim7 := { stood := { row := waysLeadRow, standIns := [], harness := (true, "015b6cb8f8eb862d0c19e6fb39994984be81a0250ebd0853613333cc3451b49c"), looks := true }, kinds := [], alts := [], laidByText := true, laidKinds := [.data, .data, .data, .data, .sentinel, .sentinel, .pinned], laidTests := true, laidLooks := .later }
def WaysLeadCardSaid : Prop := Claim7.holds Tryz.pinned (.plain (OpenSpec.ofChange waysLeadSpec)) waysLeadCard

/-- THE TIED CARD OF 'fleetkeep2.PlaysAreRight'. -/
def playsAreRightCard : Claim7 := { stood := { row := playsAreRightRow, standIns := [], harness := (true, "015b6cb8f8eb862d0c19e6fb39994984be81a0250ebd0853613333cc3451b49c"), looks := true }, kinds := [], alts := [], laidByText := true, laidKinds := [.data, .data, .data, .data, .sentinel, .sentinel, .pinned], laidTests := true, laidLooks := .later }
def PlaysAreRightCardSaid : Prop := Claim7.holds Tryz.pinned (.plain (OpenSpec.ofChange playsAreRightSpec)) playsAreRightCard

/-- THE TIED CARD OF 'fleetkeep2.WavesWait'. -/
def wavesWaitCard : Claim7 := { stood := { row := wavesWaitRow, standIns := [], harness := (true, "015b6cb8f8eb862d0c19e6fb39994984be81a0250ebd0853613333cc3451b49c"), looks := true }, kinds := [], alts := [], laidByText := true, laidKinds := [.data, .data, .data, .data, .sentinel, .sentinel, .pinned], laidTests := true, laidLooks := .later }
def WavesWaitCardSaid : Prop := Claim7.holds Tryz.pinned (.plain (OpenSpec.ofChange wavesWaitSpec)) wavesWaitCard

/-- THE SECOND FORM's CARD OF 'fleetkeep2.WaysLead'. -/
def waysLeadUptoCard : Claim7 := { stood := { row := waysLeadUptoRow, standIns := [], harness := (true, "015b6cb8f8eb862d0c19e6fb39994984be81a0250ebd0853613333cc3451b49c"), looks := true }, kinds := [], alts := [], laidByText := true, laidKinds := [.data, .data, .data, .data, .sentinel, .sentinel, .pinned], laidTests := true, laidLooks := .later }
def WaysLeadUptoCardSaid : Prop := Claim7.holds Tryz.pinned (.plain (OpenSpec.upto waysLeadSpec)) waysLeadUptoCard

/-- THE SECOND FORM's CARD OF 'fleetkeep2.PlaysAreRight'. -/
def playsAreRightUptoCard : Claim7 := { stood := { row := playsAreRightUptoRow, standIns := [], harness := (true, "015b6cb8f8eb862d0c19e6fb39994984be81a0250ebd0853613333cc3451b49c"), looks := true }, kinds := [], alts := [], laidByText := true, laidKinds := [.data, .data, .data, .data, .sentinel, .sentinel, .pinned], laidTests := true, laidLooks := .later }
def PlaysAreRightUptoCardSaid : Prop := Claim7.holds Tryz.pinned (.plain (OpenSpec.upto playsAreRightSpec)) playsAreRightUptoCard

/-- THE SECOND FORM's CARD OF 'fleetkeep2.WavesWait'. -/
def wavesWaitUptoCard : Claim7 := { stood := { row := wavesWaitUptoRow, standIns := [], harness := (true, "015b6cb8f8eb862d0c19e6fb39994984be81a0250ebd0853613333cc3451b49c"), looks := true }, kinds := [], alts := [], laidByText := true, laidKinds := [.data, .data, .data, .data, .sentinel, .sentinel, .pinned], laidTests := true, laidLooks := .later }
def WavesWaitUptoCardSaid : Prop := Claim7.holds Tryz.pinned (.plain (OpenSpec.upto wavesWaitSpec)) wavesWaitUptoCard
end Rows
end Go.Proofs.YtidgicbhgnbidaaGreatDoor
