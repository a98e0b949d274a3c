/- What has grown below has grown. -/
import Derived.Test.YtnmgfnnkcenfeaaGreatDoorFxF
namespace Go.Proofs.YtnmgfnnkcenfeaaGreatDoor
open Go.RowKit

theorem bel_grown {w w' : World} (h : Below w.heap.size w w') (row : Option Nat) : w.grownBy w' row := ⟨h.os, h.tape, h.output, h.size, fun k hk _ => h.block k hk⟩
end Go.Proofs.YtnmgfnnkcenfeaaGreatDoor
