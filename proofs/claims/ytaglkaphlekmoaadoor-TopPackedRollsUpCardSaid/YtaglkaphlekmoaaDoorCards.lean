/-
  DERIVED. GIVEN WITH THE SEED: THE CARDS: each row of YtaglkaphlekmoaaDoorRows.lean that lists a variable, with what it lists TIED to the program's text (the seventh form; the later family's looks); each row that meets fmt, with fmt's text TOLD by the authors' own Lean function (tested against real Go, not proved from fmt's source: count such statements apart). THE CARD IS WHAT COUNTS. Prove the row's statement (the work); the ties are given (YtaglkaphlekmoaaDoorTie.lean); close each card by the builder's one call (the guide's Derived/Test/ToyasCard.lean, 'card_holds'). Laid BY PROGRAM, IN A SANDBOX (cutbox-door.mjs). By AI agents, Wed Nov 11 2026. No macro, syntax, notation, axiom, sorry.
-/
import Derived.Test.YtaglkaphlekmoaaDoorRows
import GoSem.ClaimSeven
namespace Go.Proofs.YtaglkaphlekmoaaDoor
namespace Rows

/-- THE TIED CARD OF 'fleettop.TopPackedRollsUp'. -/
def topPackedRollsUpCard : Claim7 := { stood := { row := topPackedRollsUpRow, standIns := [], harness := (true, "10ab725eab673435bc2db2565b46cafc7f59a018dfe71033f3e2b28f0924d89d"), looks := true }, kinds := [], alts := [], laidByText := true, laidKinds := [.data, .data, .data, .data, .sentinel, .sentinel, .pinned], laidTests := true, laidLooks := .later }
def TopPackedRollsUpCardSaid : Prop := Claim7.holds Tryd.pinned (.plain (OpenSpec.ofChange topPackedRollsUpSpec)) topPackedRollsUpCard

/-- THE SECOND FORM's CARD OF 'fleettop.TopPackedRollsUp'. -/
def topPackedRollsUpUptoCard : Claim7 := { stood := { row := topPackedRollsUpUptoRow, standIns := [], harness := (true, "10ab725eab673435bc2db2565b46cafc7f59a018dfe71033f3e2b28f0924d89d"), looks := true }, kinds := [], alts := [], laidByText := true, laidKinds := [.data, .data, .data, .data, .sentinel, .sentinel, .pinned], laidTests := true, laidLooks := .later }
def TopPackedRollsUpUptoCardSaid : Prop := Claim7.holds Tryd.pinned (.plain (OpenSpec.upto topPackedRollsUpSpec)) topPackedRollsUpUptoCard
end Rows
end Go.Proofs.YtaglkaphlekmoaaDoor
