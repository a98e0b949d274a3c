/- The shelf's LaysGw.n17 at this program. -/
import Derived.Test.YtkcpfppjdjkjeaaGreatDoorProg
import Derived.Shelf.Strings.FuncGrows
namespace Go.Proofs.YtkcpfppjdjkjeaaGreatDoor
open Go.RowKit Go.Shelf

def layGw_ren : Go.Shelf.Ren := ⟨fun | 17 => 141 | 15 => 166 | 20 => 187 | n => n, fun | 9 => 9 | 23 => 180 | 4 => 4 | 3 => 3 | 0 => 0 | 21 => 21 | n => n, fun  | n => n⟩
theorem layGw : LaysGw.n17 Tryz.prog layGw_ren := {
  mixed := by kernel_rfl,
  f15 := Tryz.func166.trans (congrArg some (by kernel_rfl)),
  f17 := Tryz.func141.trans (congrArg some (by kernel_rfl)),
  f20 := Tryz.func187.trans (congrArg some (by kernel_rfl)),
  t0 := Tryz.underlying0,
  a0 := Tryz.isAgg0,
  z0 := Tryz.sizeOf0,
  v0 := Tryz.zeroValue0,
  i0 := by kernel_rfl,
  t3 := Tryz.underlying3,
  a3 := Tryz.isAgg3,
  z3 := Tryz.sizeOf3,
  v3 := Tryz.zeroValue3,
  i3 := by kernel_rfl,
  t4 := Tryz.underlying4,
  a4 := Tryz.isAgg4,
  z4 := Tryz.sizeOf4,
  v4 := Tryz.zeroValue4,
  i4 := by kernel_rfl,
  t9 := Tryz.underlying9,
  a9 := Tryz.isAgg9,
  z9 := Tryz.sizeOf9,
  v9 := Tryz.zeroValue9,
  i9 := by kernel_rfl,
  t21 := Tryz.underlying21,
  a21 := Tryz.isAgg21,
  z21 := Tryz.sizeOf21,
  v21 := Tryz.zeroValue21,
  i21 := by kernel_rfl,
  t23 := Tryz.underlying180,
  a23 := Tryz.isAgg180,
  z23 := Tryz.sizeOf180,
  v23 := Tryz.zeroValue180,
  i23 := by kernel_rfl }
end Go.Proofs.YtkcpfppjdjkjeaaGreatDoor
