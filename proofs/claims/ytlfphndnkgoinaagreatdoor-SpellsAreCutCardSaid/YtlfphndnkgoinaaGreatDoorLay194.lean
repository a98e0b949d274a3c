/- The shelf's Lays.n194 at this program. -/
import Derived.Test.YtlfphndnkgoinaaGreatDoorProg
import Derived.Shelf.Slices.CompactS
namespace Go.Proofs.YtlfphndnkgoinaaGreatDoor
open Go.RowKit Go.Shelf

def lay194_ren : Go.Shelf.Ren := ⟨fun | 194 => 129 | n => n, fun | 31 => 58 | 9 => 9 | 3 => 3 | 4 => 4 | 0 => 0 | n => n, fun  | n => n⟩
theorem lay194 : Lays.n194 Tryz.prog lay194_ren := {
  mixed := by kernel_rfl,
  f194 := Tryz.func129.trans (congrArg some (by kernel_rfl)),
  t0 := Tryz.underlying0,
  a0 := Tryz.isAgg0,
  z0 := Tryz.sizeOf0,
  v0 := Tryz.zeroValue0,
  t3 := Tryz.underlying3,
  a3 := Tryz.isAgg3,
  z3 := Tryz.sizeOf3,
  v3 := Tryz.zeroValue3,
  t4 := Tryz.underlying4,
  a4 := Tryz.isAgg4,
  z4 := Tryz.sizeOf4,
  v4 := Tryz.zeroValue4,
  t9 := Tryz.underlying9,
  a9 := Tryz.isAgg9,
  z9 := Tryz.sizeOf9,
  v9 := Tryz.zeroValue9,
  t31 := Tryz.underlying58,
  a31 := Tryz.isAgg58,
  z31 := Tryz.sizeOf58,
  v31 := Tryz.zeroValue58 }
end Go.Proofs.YtlfphndnkgoinaaGreatDoor
