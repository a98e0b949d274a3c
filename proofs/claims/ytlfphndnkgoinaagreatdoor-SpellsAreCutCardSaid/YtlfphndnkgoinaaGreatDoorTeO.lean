/- The orders of samples. Printed by gen_TeO.py. -/
import Derived.Test.YtlfphndnkgoinaaGreatDoorTeD
import Derived.Test.YtlfphndnkgoinaaGreatDoorMg0
import Derived.Test.YtlfphndnkgoinaaGreatDoorMg1
namespace Go.Proofs.YtlfphndnkgoinaaGreatDoor
open Go.RowKit

set_option maxRecDepth 100000 in
set_option maxHeartbeats 1000000 in
theorem order_te (x y : Te) (w : World) : Calls Tryz.prog 32 #[.agg (teC x).toArray, .agg (teC y).toArray] w fun e w' => e = .returned (.int .i64 (teCmp x y)) ∧ Below w.heap.size w w' := by
  have HD := Lib.hid (fun V => scompare_any (teT x.d) (teT y.d) V)
  have HR := Lib.hid (fun V => scompare_any (meT x.m) (meT y.m) V)
  have HC := Lib.hid (fun V => compare_any x.at_ y.at_ V)
  show Calls Tryz.prog 32 #[.agg #[.string (teT x.d), .string (meT x.m), .int .i64 x.at_, .int .i64 x.v], .agg #[.string (teT y.d), .string (meT y.m), .int .i64 y.at_, .int .i64 y.v]] w _
  unfold teCmp cbU
  generalize Lib.compareBytes (teT x.d).data.toList (teT y.d).data.toList = r1 at HD ⊢
  generalize Lib.compareBytes (meT x.m).data.toList (meT y.m).data.toList = r2 at HR ⊢
  generalize cmpI x.at_ y.at_ = r0 at HC ⊢
  obtain ⟨xd, xm, x2, x3⟩ := x
  obtain ⟨yd, ym, y2, y3⟩ := y
  simp only at HC HD HR ⊢
  generalize teT xd = x0 at HD ⊢
  generalize teT yd = y0 at HD ⊢
  generalize meT xm = x1 at HR ⊢
  generalize meT ym = y1 at HR ⊢
  go_enter Tryz.func32, Tryz.ntmps32
  go_wp2_with (fail)
  generalize hW : ((w.alloc (.cells #[.string x0, .string x1, .int .i64 x2, .int .i64 x3] 43)).alloc (.cells #[.string y0, .string y1, .int .i64 y2, .int .i64 y3] 43)) = W
  have HG := Lib.hid (show Below w.heap.size w W from by rw [← hW]; exact ((Below.refl _ _).alloc (Nat.le_refl _) _).alloc (by simp) _)
  have hx : W.heap[w.heap.size]? = some (.cells #[.string x0, .string x1, .int .i64 x2, .int .i64 x3] 43) := by
    rw [← hW, Below.heap_alloc _ _ _ (by simp)]; exact heap_new w _
  have hy : W.heap[w.heap.size + 1]? = some (.cells #[.string y0, .string y1, .int .i64 y2, .int .i64 y3] 43) := by
    rw [← hW]; have := heap_new (w.alloc (.cells #[.string x0, .string x1, .int .i64 x2, .int .i64 x3] 43)) (.cells #[.string y0, .string y1, .int .i64 y2, .int .i64 y3] 43); simpa using this
  have p0 : W.cell? ⟨w.heap.size, 0, none⟩ = some (.string x0) := cell_of_blk hx rfl
  have p1 : W.cell? ⟨w.heap.size, 1, none⟩ = some (.string x1) := cell_of_blk hx rfl
  have p2 : W.cell? ⟨w.heap.size, 2, none⟩ = some (.int .i64 x2) := cell_of_blk hx rfl
  have q0 : W.cell? ⟨w.heap.size + 1, 0, none⟩ = some (.string y0) := cell_of_blk hy rfl
  have q1 : W.cell? ⟨w.heap.size + 1, 1, none⟩ = some (.string y1) := cell_of_blk hy rfl
  have q2 : W.cell? ⟨w.heap.size + 1, 2, none⟩ = some (.int .i64 y2) := cell_of_blk hy rfl
  clear hW hx hy
  refine wp_region_still_tail 15 (by kernel_rfl) (by kernel_rfl) ?_
  simp only [List.take_succ_cons, List.take_zero, List.drop_succ_cons, List.drop_zero]
  change wpStill _ _ W.drew _ _ _
  repeat still_step
  still_call (flip_ (HC.out _))
  repeat still_step
  still_call (flip_ (HD.out _))
  repeat still_step
  still_call (flip_ (HR.out _))
  try refine wpStill_nil ?_
  have hsz' : W.drew.heap.size = W.heap.size := rfl
  go_wp2_with (fail)
  have hcs : Cells (W.alloc (.cells #[.int .i64 r0, .int .i64 r1, .int .i64 r2] 3)).drew W.heap.size 0 ([r0, r1, r2].map (Value.int .i64)) := Cells.new W #[.int .i64 r0, .int .i64 r1, .int .i64 r2] 3 (0, 0) _ rfl
  refine (or_any [r0, r1, r2] 3 3 W.heap.size _ rfl (by omega) hcs).mono ?_
  rintro e w' ⟨rfl, rfl⟩
  go_wp2_with (fail)
  go_ret
  refine ⟨rfl, ?_⟩
  have h1 : Below w.heap.size w (W.alloc (.cells #[.int .i64 r0, .int .i64 r1, .int .i64 r2] 3)) := HG.out.alloc HG.out.size _
  exact ⟨h1.os, h1.tape, h1.output, h1.size, h1.block⟩
set_option maxRecDepth 100000 in
set_option maxHeartbeats 1000000 in
theorem byMoment_te (x y : Te) (w : World) : Calls Tryz.prog 90 #[.agg (teC x).toArray, .agg (teC y).toArray] w fun e w' => e = .returned (.int .i64 (teCmp x y)) ∧ Below w.heap.size w w' := by
  have HD := Lib.hid (fun V => scompare_any (teT x.d) (teT y.d) V)
  have HR := Lib.hid (fun V => scompare_any (meT x.m) (meT y.m) V)
  have HC := Lib.hid (fun V => compare_any x.at_ y.at_ V)
  show Calls Tryz.prog 90 #[.agg #[.string (teT x.d), .string (meT x.m), .int .i64 x.at_, .int .i64 x.v], .agg #[.string (teT y.d), .string (meT y.m), .int .i64 y.at_, .int .i64 y.v]] w _
  unfold teCmp cbU
  generalize Lib.compareBytes (teT x.d).data.toList (teT y.d).data.toList = r1 at HD ⊢
  generalize Lib.compareBytes (meT x.m).data.toList (meT y.m).data.toList = r2 at HR ⊢
  generalize cmpI x.at_ y.at_ = r0 at HC ⊢
  obtain ⟨xd, xm, x2, x3⟩ := x
  obtain ⟨yd, ym, y2, y3⟩ := y
  simp only at HC HD HR ⊢
  generalize teT xd = x0 at HD ⊢
  generalize teT yd = y0 at HD ⊢
  generalize meT xm = x1 at HR ⊢
  generalize meT ym = y1 at HR ⊢
  go_enter Tryz.func90, Tryz.ntmps90
  go_wp2_with (fail)
  generalize hW : ((w.alloc (.cells #[.string x0, .string x1, .int .i64 x2, .int .i64 x3] 43)).alloc (.cells #[.string y0, .string y1, .int .i64 y2, .int .i64 y3] 43)) = W
  have HG := Lib.hid (show Below w.heap.size w W from by rw [← hW]; exact ((Below.refl _ _).alloc (Nat.le_refl _) _).alloc (by simp) _)
  have hx : W.heap[w.heap.size]? = some (.cells #[.string x0, .string x1, .int .i64 x2, .int .i64 x3] 43) := by
    rw [← hW, Below.heap_alloc _ _ _ (by simp)]; exact heap_new w _
  have hy : W.heap[w.heap.size + 1]? = some (.cells #[.string y0, .string y1, .int .i64 y2, .int .i64 y3] 43) := by
    rw [← hW]; have := heap_new (w.alloc (.cells #[.string x0, .string x1, .int .i64 x2, .int .i64 x3] 43)) (.cells #[.string y0, .string y1, .int .i64 y2, .int .i64 y3] 43); simpa using this
  have p0 : W.cell? ⟨w.heap.size, 0, none⟩ = some (.string x0) := cell_of_blk hx rfl
  have p1 : W.cell? ⟨w.heap.size, 1, none⟩ = some (.string x1) := cell_of_blk hx rfl
  have p2 : W.cell? ⟨w.heap.size, 2, none⟩ = some (.int .i64 x2) := cell_of_blk hx rfl
  have q0 : W.cell? ⟨w.heap.size + 1, 0, none⟩ = some (.string y0) := cell_of_blk hy rfl
  have q1 : W.cell? ⟨w.heap.size + 1, 1, none⟩ = some (.string y1) := cell_of_blk hy rfl
  have q2 : W.cell? ⟨w.heap.size + 1, 2, none⟩ = some (.int .i64 y2) := cell_of_blk hy rfl
  clear hW hx hy
  refine wp_region_still_tail 15 (by kernel_rfl) (by kernel_rfl) ?_
  simp only [List.take_succ_cons, List.take_zero, List.drop_succ_cons, List.drop_zero]
  change wpStill _ _ W.drew _ _ _
  repeat still_step
  still_call (flip_ (HC.out _))
  repeat still_step
  still_call (flip_ (HD.out _))
  repeat still_step
  still_call (flip_ (HR.out _))
  try refine wpStill_nil ?_
  have hsz' : W.drew.heap.size = W.heap.size := rfl
  go_wp2_with (fail)
  have hcs : Cells (W.alloc (.cells #[.int .i64 r0, .int .i64 r1, .int .i64 r2] 3)).drew W.heap.size 0 ([r0, r1, r2].map (Value.int .i64)) := Cells.new W #[.int .i64 r0, .int .i64 r1, .int .i64 r2] 3 (0, 0) _ rfl
  refine (or_any [r0, r1, r2] 3 3 W.heap.size _ rfl (by omega) hcs).mono ?_
  rintro e w' ⟨rfl, rfl⟩
  go_wp2_with (fail)
  go_ret
  refine ⟨rfl, ?_⟩
  have h1 : Below w.heap.size w (W.alloc (.cells #[.int .i64 r0, .int .i64 r1, .int .i64 r2] 3)) := HG.out.alloc HG.out.size _
  exact ⟨h1.os, h1.tape, h1.output, h1.size, h1.block⟩
end Go.Proofs.YtlfphndnkgoinaaGreatDoor
