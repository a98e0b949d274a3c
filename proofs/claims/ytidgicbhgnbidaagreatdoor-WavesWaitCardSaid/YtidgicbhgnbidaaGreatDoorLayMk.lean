/- The shelf's SlLaysF0.n20 at this program. -/
import Derived.Test.YtidgicbhgnbidaaGreatDoorProg
import Derived.Shelf.SlSortCmp.SmallK
namespace Go.Proofs.YtidgicbhgnbidaaGreatDoor
open Go.RowKit Go.Shelf

def layMk_ren : Go.Shelf.Ren := ⟨fun | 20 => 186 | n => n, fun | 24 => 64 | 22 => 57 | 3 => 3 | 25 => 156 | 4 => 4 | 0 => 0 | n => n, fun  | n => n⟩
theorem layMk : SlLaysF0.n20 Tryz.prog layMk_ren := {
  mixed := by kernel_rfl,
  f20 := ⟨Tryz.f186.name, by kernel_rfl, Tryz.func186.trans (congrArg some (by kernel_rfl))⟩,
  t0 := Tryz.underlying0,
  a0 := Tryz.isAgg0,
  z0 := Tryz.sizeOf0,
  v0 := Tryz.zeroValue0,
  t3 := Tryz.underlying3,
  a3 := Tryz.isAgg3,
  z3 := Tryz.sizeOf3,
  v3 := Tryz.zeroValue3,
  t4 := Tryz.underlying4,
  a4 := Tryz.isAgg4,
  z4 := Tryz.sizeOf4,
  v4 := Tryz.zeroValue4,
  t22 := Tryz.underlying57,
  a22 := Tryz.isAgg57,
  z22 := Tryz.sizeOf57,
  v22 := Tryz.zeroValue57,
  t25 := Tryz.underlying156,
  a25 := Tryz.isAgg156,
  z25 := Tryz.sizeOf156,
  v25 := Tryz.zeroValue156 }
end Go.Proofs.YtidgicbhgnbidaaGreatDoor
