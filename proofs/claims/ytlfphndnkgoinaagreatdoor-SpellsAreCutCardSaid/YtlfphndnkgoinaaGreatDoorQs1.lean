/- Stages of a region that draws and stores once: ahead of the store, behind it. No program in sight. -/
import Derived.Test.YtlfphndnkgoinaaGreatDoorMg1
namespace Go.Proofs.YtlfphndnkgoinaaGreatDoor
open Go.RowKit

def KS1 (W : World) (p : Addr) (u : Value) : Nat → World → Prop
  | 0, w => Below W.heap.size W w
  | _, w => Below W.heap.size (W.setCell p u) w
section
variable {W w : World} {p : Addr} {u : Value} {s : Nat}
theorem KS1.zero (W : World) (p : Addr) (u : Value) : KS1 W p u 0 W.drew := ⟨rfl, rfl, rfl, Nat.le_refl _, fun _ _ => rfl⟩
theorem KS1.alloc (h : KS1 W p u s w) (o : Obj) : KS1 W p u s (w.alloc o) := by
  match s, h with
  | 0, h => exact h.trans ((Below.refl _ _).alloc (Below.size h) _)
  | _ + 1, h => exact Below.trans h ((Below.refl _ _).alloc (by have := Below.size h; simpa [World.setCell] using this) _)
theorem KS1.low (h : KS1 W p u s w) (hs : s ≤ 0) : Below W.heap.size W w := by
  obtain rfl : s = 0 := by omega
  exact h
theorem KS1.store (h : KS1 W p u 0 w) (hp : p.block < W.heap.size) : KS1 W p u 1 (w.setCell p u) ∧ GrN W w (w.setCell p u) := by
  have hb : Below W.heap.size W w := h
  have hsz : (w.setCell p u).heap.size = w.heap.size := by simp [World.setCell]
  refine ⟨⟨hb.os, hb.tape, hb.output, by rw [hsz]; simpa [World.setCell] using hb.size, fun b hlt => ?_⟩, by rw [hsz]; exact Nat.le_refl _, fun b hb' _ => Below.heap_setCell _ _ _ _ (by omega)⟩
  by_cases hbp : b = p.block
  · subst hbp
    simp only [World.setCell, Array.getElem?_modify]
    rw [hb.block _ hlt]
  · rw [Below.heap_setCell _ _ _ _ hbp, Below.heap_setCell _ _ _ _ hbp]
    exact hb.block b hlt
end
end Go.Proofs.YtlfphndnkgoinaaGreatDoor
