/- series.in where it says yes. -/
import Derived.Test.YtnmgfnnkcenfeaaGreatDoorMgA
namespace Go.Proofs.YtnmgfnnkcenfeaaGreatDoor
open Go.RowKit

theorem in_yes (a b t : Int) (w : World) (h1 : a ≤ t) (h2 : t < b) : Calls Tryz.prog 41 #[winV a b, .int .i64 t] w fun e w' => e = .returned (.bool true) ∧ Below w.heap.size w w' := by
  unfold winV
  go_enter Tryz.func41, Tryz.ntmps41
  go_wp2
  go_ret
  exact ⟨rfl, (Below.refl _ _).alloc (Nat.le_refl _) _⟩
end Go.Proofs.YtnmgfnnkcenfeaaGreatDoor
