/-
  DERIVED. GIVEN WITH THE SEED: THE CARDS: each row of YtjfjmlmnilmihaaGreatDoorRows.lean that lists a variable, with what it lists TIED to the program's text (the seventh form; the later family's looks); each row that meets fmt, with fmt's text TOLD by the authors' own Lean function (tested against real Go, not proved from fmt's source: count such statements apart). THE CARD IS WHAT COUNTS. Prove the row's statement (the work); the ties are given (YtjfjmlmnilmihaaGreatDoorTie.lean); close each card by the builder's one call (the guide's Derived/Test/ToyasCard.lean, 'card_holds'). Laid BY PROGRAM, IN A SANDBOX (cutbox-door.mjs). By AI agents, Wed Nov 11 2026. No macro, syntax, notation, axiom, sorry.
-/
import Derived.Test.YtjfjmlmnilmihaaGreatDoorRows
import GoSem.ClaimSeven
namespace Go.Proofs.YtjfjmlmnilmihaaGreatDoor
namespace Rows

/-- THE TIED CARD OF 'fleetkeep2.AgesInSteps'. -/
def agesInStepsCard : Claim7 := { stood := { row := agesInStepsRow, standIns := [], harness := (true, "d585a710f552b5f6ba9c630d170da550ba90fd4679e2289d400e97ffef46dc0e"), looks := true }, kinds := [], alts := [], laidByText := true, laidKinds := [.data, .data, .data, .data, .sentinel, .sentinel, .pinned], laidTests := true, laidLooks := .later }
def AgesInStepsCardSaid : Prop := Claim7.holds Tryz.pinned (.plain (OpenSpec.ofChange agesInStepsSpec)) agesInStepsCard

/-- THE TIED CARD OF 'fleetkeep2.LettersEnd'. -/
def lettersEndCard : Claim7 := { stood := { row := lettersEndRow, standIns := [], harness := (true, "d585a710f552b5f6ba9c630d170da550ba90fd4679e2289d400e97ffef46dc0e"), looks := true }, kinds := [], alts := [], laidByText := true, laidKinds := [.data, .data, .data, .data, .sentinel, .sentinel, .pinned], laidTests := true, laidLooks := .later }
def LettersEndCardSaid : Prop := Claim7.holds Tryz.pinned (.plain (OpenSpec.ofChange lettersEndSpec)) lettersEndCard

/-- THE SECOND FORM's CARD OF 'fleetkeep2.AgesInSteps'. -/
def agesInStepsUptoCard : Claim7 := { stood := { row := agesInStepsUptoRow, standIns := [], harness := (true, "d585a710f552b5f6ba9c630d170da550ba90fd4679e2289d400e97ffef46dc0e"), looks := true }, kinds := [], alts := [], laidByText := true, laidKinds := [.data, .data, .data, .data, .sentinel, .sentinel, .pinned], laidTests := true, laidLooks := .later }
def AgesInStepsUptoCardSaid : Prop := Claim7.holds Tryz.pinned (.plain (OpenSpec.upto agesInStepsSpec)) agesInStepsUptoCard

/-- THE SECOND FORM's CARD OF 'fleetkeep2.LettersEnd'. -/
def lettersEndUptoCard : Claim7 := { stood := { row := lettersEndUptoRow, standIns := [], harness := (true, "d585a710f552b5f6ba9c630d170da550ba90fd4679e2289d400e97ffef46dc0e"), looks := true }, kinds := [], alts := [], laidByText := true, laidKinds := [.data, .data, .data, .data, .sentinel, .sentinel, .pinned], laidTests := true, laidLooks := .later }
def LettersEndUptoCardSaid : Prop := Claim7.holds Tryz.pinned (.plain (OpenSpec.upto lettersEndSpec)) lettersEndUptoCard
end Rows
end Go.Proofs.YtjfjmlmnilmihaaGreatDoor
