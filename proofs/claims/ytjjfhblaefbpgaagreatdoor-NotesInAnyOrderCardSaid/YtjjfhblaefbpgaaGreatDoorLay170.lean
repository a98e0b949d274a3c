/- The shelf's Lays.n170 at this program. -/
import Derived.Test.YtjjfhblaefbpgaaGreatDoorProg
import Derived.Shelf.Strings.Builder1
namespace Go.Proofs.YtjjfhblaefbpgaaGreatDoor
open Go.RowKit Go.Shelf

def lay170_ren : Go.Shelf.Ren := ⟨fun | 170 => 38 | n => n, fun | 70 => 82 | 3 => 3 | 0 => 0 | 72 => 84 | 37 => 48 | 5 => 5 | n => n, fun  | n => n⟩
theorem lay170 : Lays.n170 Tryz.prog lay170_ren := {
  mixed := by kernel_rfl,
  f170 := Tryz.func38.trans (congrArg some (by kernel_rfl)),
  t0 := Tryz.underlying0,
  a0 := Tryz.isAgg0,
  z0 := Tryz.sizeOf0,
  v0 := Tryz.zeroValue0,
  t3 := Tryz.underlying3,
  a3 := Tryz.isAgg3,
  z3 := Tryz.sizeOf3,
  v3 := Tryz.zeroValue3,
  t37 := Tryz.underlying48,
  a37 := Tryz.isAgg48,
  z37 := Tryz.sizeOf48,
  v37 := Tryz.zeroValue48,
  t70 := Tryz.underlying82,
  a70 := Tryz.isAgg82,
  z70 := Tryz.sizeOf82,
  v70 := Tryz.zeroValue82,
  t72 := Tryz.underlying84,
  a72 := Tryz.isAgg84,
  z72 := Tryz.sizeOf84,
  v72 := Tryz.zeroValue84 }
end Go.Proofs.YtjjfhblaefbpgaaGreatDoor
