/- The shelf's SlLaysF0.n20 at this program. -/
import Derived.Test.YtkcpfppjdjkjeaaGreatDoorProg
import Derived.Shelf.SlSortCmp.SmallK
namespace Go.Proofs.YtkcpfppjdjkjeaaGreatDoor
open Go.RowKit Go.Shelf

def laySI_ren : Go.Shelf.Ren := ⟨fun | 20 => 95 | n => n, fun | 24 => 41 | 22 => 26 | 3 => 3 | 25 => 62 | 4 => 4 | 0 => 0 | n => n, fun  | n => n⟩
theorem laySI : SlLaysF0.n20 Tryz.prog laySI_ren := {
  mixed := by kernel_rfl,
  f20 := ⟨Tryz.f95.name, by kernel_rfl, Tryz.func95.trans (congrArg some (by kernel_rfl))⟩,
  t0 := Tryz.underlying0,
  a0 := Tryz.isAgg0,
  z0 := Tryz.sizeOf0,
  v0 := Tryz.zeroValue0,
  t3 := Tryz.underlying3,
  a3 := Tryz.isAgg3,
  z3 := Tryz.sizeOf3,
  v3 := Tryz.zeroValue3,
  t4 := Tryz.underlying4,
  a4 := Tryz.isAgg4,
  z4 := Tryz.sizeOf4,
  v4 := Tryz.zeroValue4,
  t22 := Tryz.underlying26,
  a22 := Tryz.isAgg26,
  z22 := Tryz.sizeOf26,
  v22 := Tryz.zeroValue26,
  t25 := Tryz.underlying62,
  a25 := Tryz.isAgg62,
  z25 := Tryz.sizeOf62,
  v25 := Tryz.zeroValue62 }
end Go.Proofs.YtkcpfppjdjkjeaaGreatDoor
