/- unicode/utf8.ValidString at the library's tables as laid. -/
import Derived.Test.YtnnncddjcdjhoaaGreatDoorLay196
import Derived.Test.YtnnncddjcdjhoaaGreatDoorPrZ
namespace Go.Proofs.YtnnncddjcdjhoaaGreatDoor
open Go.RowKit Go.Shelf

/-- The library's two tables are as they were laid. -/
def U8T (w : World) : Prop := Lib.Utf8Tabs (lay196_ren.g 3) (lay196_ren.g 4) w
theorem U8T.below {w w' : World} (h : U8T w) (hb : Below w.heap.size w w') : U8T w' := Utf8Tabs_below h hb
theorem valid_at (s : ByteArray) (w : World) (hs : s.size ≤ 1000) (hv : Lib.validD s.data.toList = true) (hT : U8T w) : Calls Tryz.prog 100 #[.string s] w fun e w' => e = .returned (.bool true) ∧ Below w.heap.size w w' := by
  refine (Any.utf8_ValidString lay196 s w (by omega) hT).mono ?_
  rintro e w' ⟨h, hb⟩
  rw [hv] at h
  exact ⟨h, hb⟩

end Go.Proofs.YtnnncddjcdjhoaaGreatDoor
