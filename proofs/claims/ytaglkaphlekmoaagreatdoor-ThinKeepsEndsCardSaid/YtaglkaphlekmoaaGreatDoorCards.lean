/-
  DERIVED. GIVEN WITH THE SEED: THE CARDS: each row of YtaglkaphlekmoaaGreatDoorRows.lean that lists a variable, with what it lists TIED to the program's text (the seventh form; the later family's looks); each row that meets fmt, with fmt's text TOLD by the authors' own Lean function (tested against real Go, not proved from fmt's source: count such statements apart). THE CARD IS WHAT COUNTS. Prove the row's statement (the work); the ties are given (YtaglkaphlekmoaaGreatDoorTie.lean); close each card by the builder's one call (the guide's Derived/Test/ToyasCard.lean, 'card_holds'). Laid BY PROGRAM, IN A SANDBOX (cutbox-door.mjs). By AI agents, Wed Nov 11 2026. No macro, syntax, notation, axiom, sorry.
-/
import Derived.Test.YtaglkaphlekmoaaGreatDoorRows
import GoSem.ClaimSeven
namespace Go.Proofs.YtaglkaphlekmoaaGreatDoor
namespace Rows

/-- THE TIED CARD OF 'fleetkeep2.StaysAreNear'. -/
def staysAreNearCard : Claim7 := { stood := { row := staysAreNearRow, standIns := [], harness := (true, "11b1fcd8163678f232c01e2db133581f250b83082a04921f3529ff5eac9ea071"), looks := true }, kinds := [], alts := [], laidByText := true, laidKinds := [.data, .data, .data, .data, .sentinel, .sentinel, .pinned], laidTests := true, laidLooks := .later }
def StaysAreNearCardSaid : Prop := Claim7.holds Tryz.pinned (.plain (OpenSpec.ofChange staysAreNearSpec)) staysAreNearCard

/-- THE TIED CARD OF 'fleetkeep2.CountersAddUp'. -/
def countersAddUpCard : Claim7 := { stood := { row := countersAddUpRow, standIns := [], harness := (true, "11b1fcd8163678f232c01e2db133581f250b83082a04921f3529ff5eac9ea071"), looks := true }, kinds := [], alts := [], laidByText := true, laidKinds := [.data, .data, .data, .data, .sentinel, .sentinel, .pinned], laidTests := true, laidLooks := .later }
def CountersAddUpCardSaid : Prop := Claim7.holds Tryz.pinned (.plain (OpenSpec.ofChange countersAddUpSpec)) countersAddUpCard

/-- THE TIED CARD OF 'fleetkeep2.DoneOnce'. -/
def doneOnceCard : Claim7 := { stood := { row := doneOnceRow, standIns := [], harness := (true, "11b1fcd8163678f232c01e2db133581f250b83082a04921f3529ff5eac9ea071"), looks := true }, kinds := [], alts := [], laidByText := true, laidKinds := [.data, .data, .data, .data, .sentinel, .sentinel, .pinned], laidTests := true, laidLooks := .later }
def DoneOnceCardSaid : Prop := Claim7.holds Tryz.pinned (.plain (OpenSpec.ofChange doneOnceSpec)) doneOnceCard

/-- THE TIED CARD OF 'fleetkeep2.ThinKeepsEnds'. -/
def thinKeepsEndsCard : Claim7 := { stood := { row := thinKeepsEndsRow, standIns := [], harness := (true, "11b1fcd8163678f232c01e2db133581f250b83082a04921f3529ff5eac9ea071"), looks := true }, kinds := [], alts := [], laidByText := true, laidKinds := [.data, .data, .data, .data, .sentinel, .sentinel, .pinned], laidTests := true, laidLooks := .later }
def ThinKeepsEndsCardSaid : Prop := Claim7.holds Tryz.pinned (.plain (OpenSpec.ofChange thinKeepsEndsSpec)) thinKeepsEndsCard

/-- THE TIED CARD OF 'fleetkeep2.ValuesMeet'. -/
def valuesMeetCard : Claim7 := { stood := { row := valuesMeetRow, standIns := [], harness := (true, "11b1fcd8163678f232c01e2db133581f250b83082a04921f3529ff5eac9ea071"), looks := true }, kinds := [], alts := [], laidByText := true, laidKinds := [.data, .data, .data, .data, .sentinel, .sentinel, .pinned], laidTests := true, laidLooks := .later }
def ValuesMeetCardSaid : Prop := Claim7.holds Tryz.pinned (.plain (OpenSpec.ofChange valuesMeetSpec)) valuesMeetCard

/-- THE TIED CARD OF 'fleetkeep2.RollUpsJoin'. -/
def rollUpsJoinCard : Claim7 := { stood := { row := rollUpsJoinRow, standIns := [], harness := (true, "11b1fcd8163678f232c01e2db133581f250b83082a04921f3529ff5eac9ea071"), looks := true }, kinds := [], alts := [], laidByText := true, laidKinds := [.data, .data, .data, .data, .sentinel, .sentinel, .pinned], laidTests := true, laidLooks := .later }
def RollUpsJoinCardSaid : Prop := Claim7.holds Tryz.pinned (.plain (OpenSpec.ofChange rollUpsJoinSpec)) rollUpsJoinCard

/-- THE SECOND FORM's CARD OF 'fleetkeep2.StaysAreNear'. -/
def staysAreNearUptoCard : Claim7 := { stood := { row := staysAreNearUptoRow, standIns := [], harness := (true, "11b1fcd8163678f232c01e2db133581f250b83082a04921f3529ff5eac9ea071"), looks := true }, kinds := [], alts := [], laidByText := true, laidKinds := [.data, .data, .data, .data, .sentinel, .sentinel, .pinned], laidTests := true, laidLooks := .later }
def StaysAreNearUptoCardSaid : Prop := Claim7.holds Tryz.pinned (.plain (OpenSpec.upto staysAreNearSpec)) staysAreNearUptoCard

/-- THE SECOND FORM's CARD OF 'fleetkeep2.CountersAddUp'. -/
def countersAddUpUptoCard : Claim7 := { stood := { row := countersAddUpUptoRow, standIns := [], harness := (true, "11b1fcd8163678f232c01e2db133581f250b83082a04921f3529ff5eac9ea071"), looks := true }, kinds := [], alts := [], laidByText := true, laidKinds := [.data, .data, .data, .data, .sentinel, .sentinel, .pinned], laidTests := true, laidLooks := .later }
def CountersAddUpUptoCardSaid : Prop := Claim7.holds Tryz.pinned (.plain (OpenSpec.upto countersAddUpSpec)) countersAddUpUptoCard

/-- THE SECOND FORM's CARD OF 'fleetkeep2.DoneOnce'. -/
def doneOnceUptoCard : Claim7 := { stood := { row := doneOnceUptoRow, standIns := [], harness := (true, "11b1fcd8163678f232c01e2db133581f250b83082a04921f3529ff5eac9ea071"), looks := true }, kinds := [], alts := [], laidByText := true, laidKinds := [.data, .data, .data, .data, .sentinel, .sentinel, .pinned], laidTests := true, laidLooks := .later }
def DoneOnceUptoCardSaid : Prop := Claim7.holds Tryz.pinned (.plain (OpenSpec.upto doneOnceSpec)) doneOnceUptoCard

/-- THE SECOND FORM's CARD OF 'fleetkeep2.ThinKeepsEnds'. -/
def thinKeepsEndsUptoCard : Claim7 := { stood := { row := thinKeepsEndsUptoRow, standIns := [], harness := (true, "11b1fcd8163678f232c01e2db133581f250b83082a04921f3529ff5eac9ea071"), looks := true }, kinds := [], alts := [], laidByText := true, laidKinds := [.data, .data, .data, .data, .sentinel, .sentinel, .pinned], laidTests := true, laidLooks := .later }
def ThinKeepsEndsUptoCardSaid : Prop := Claim7.holds Tryz.pinned (.plain (OpenSpec.upto thinKeepsEndsSpec)) thinKeepsEndsUptoCard

/-- THE SECOND FORM's CARD OF 'fleetkeep2.ValuesMeet'. -/
def valuesMeetUptoCard : Claim7 := { stood := { row := valuesMeetUptoRow, standIns := [], harness := (true, "11b1fcd8163678f232c01e2db133581f250b83082a04921f3529ff5eac9ea071"), looks := true }, kinds := [], alts := [], laidByText := true, laidKinds := [.data, .data, .data, .data, .sentinel, .sentinel, .pinned], laidTests := true, laidLooks := .later }
def ValuesMeetUptoCardSaid : Prop := Claim7.holds Tryz.pinned (.plain (OpenSpec.upto valuesMeetSpec)) valuesMeetUptoCard

/-- THE SECOND FORM's CARD OF 'fleetkeep2.RollUpsJoin'. -/
def rollUpsJoinUptoCard : Claim7 := { stood := { row := rollUpsJoinUptoRow, standIns := [], harness := (true, "11b1fcd8163678f232c01e2db133581f250b83082a04921f3529ff5eac9ea071"), looks := true }, kinds := [], alts := [], laidByText := true, laidKinds := [.data, .data, .data, .data, .sentinel, .sentinel, .pinned], laidTests := true, laidLooks := .later }
def RollUpsJoinUptoCardSaid : Prop := Claim7.holds Tryz.pinned (.plain (OpenSpec.upto rollUpsJoinSpec)) rollUpsJoinUptoCard
end Rows
end Go.Proofs.YtaglkaphlekmoaaGreatDoor
