/- byDevice, spot, isSpot, square, CheckFixes, trackFault of package place by their contracts. -/
import Derived.Test.YthplhibdapjjgaaGreatDoorMgC
import Derived.Test.YthplhibdapjjgaaGreatDoorMgA
import Derived.Deep.RegionHeld3
namespace Go.Proofs.YthplhibdapjjgaaGreatDoor
open Go.RowKit

theorem spot_any (x : Fx) (w : World) : Calls Tryz.prog 44 #[fxV x] w fun e w' => e = .returned (.agg #[.int .i64 x.2.1, .int .i64 x.2.2.1]) ∧ Below w.heap.size w w' := by
  obtain ⟨a, X, Y, E⟩ := x
  unfold fxV
  go_enter Tryz.func44, Tryz.ntmps44
  go_wp2_with (fail)
  have HW := Lib.hid (((Below.refl w.heap.size w).alloc (Nat.le_refl _) (.cells #[.string ⟨#[100]⟩, .int .i64 a, .int .i64 X, .int .i64 Y, .int .i64 E] 42)).alloc (by simp) (.cells #[.int .i64 X, .int .i64 Y] 37))
  have hb := heap_new (w.alloc (.cells #[.string ⟨#[100]⟩, .int .i64 a, .int .i64 X, .int .i64 Y, .int .i64 E] 42)) (.cells #[.int .i64 X, .int .i64 Y] 37)
  rw [World.size_alloc] at hb
  have r0 := cell_of_blk (j := 0) hb rfl
  have r1 := cell_of_blk (j := 1) hb rfl
  exact bodyPost_ret (v := .agg #[.int .i64 X, .int .i64 Y]) (by simp [results, Tryz.results44, go_sem, r0, r1]) rfl ⟨rfl, HW.out⟩
theorem isSpot_yes (X Y : Int) (w : World) (h1 : -10000 ≤ X) (h2 : X ≤ 10000) (h3 : -10000 ≤ Y) (h4 : Y ≤ 10000) : Calls Tryz.prog 25 #[.agg #[.int .i64 X, .int .i64 Y]] w fun e w' => e = .returned (.bool true) ∧ Below w.heap.size w w' := by
  go_enter Tryz.func25, Tryz.ntmps25
  go_wp2_with (go_at_call 41; refine (out_no _ _ _ _ (by omega) (by omega)).mono ?_; rintro e w' ⟨rfl, rfl⟩)
  go_ret
  exact ⟨rfl, (Below.refl _ _).alloc (Nat.le_refl _) _⟩
theorem square_any (a b c d : Int) (w : World) (ha : -10000 ≤ a ∧ a ≤ 10000) (hb : -10000 ≤ b ∧ b ≤ 10000) (hc : -10000 ≤ c ∧ c ≤ 10000) (hd : -10000 ≤ d ∧ d ≤ 10000) :
    Calls Tryz.prog 48 #[.agg #[.int .i64 a, .int .i64 b], .agg #[.int .i64 c, .int .i64 d]] w fun e w' => e = .returned (.int .i64 (sq2 a b c d)) ∧ Below w.heap.size w w' := by
  have s1 := sqr_le (a := a - c) (B := 20000) (by omega) (by omega)
  have s2 := sqr_le (a := b - d) (B := 20000) (by omega) (by omega)
  have w1 : IntKind.i64.wrap (a - c) = a - c := by rw [IntKind.wrap_i64]; omega
  have w2 : IntKind.i64.wrap (b - d) = b - d := by rw [IntKind.wrap_i64]; omega
  obtain ⟨p, ep⟩ : ∃ p, p = (a - c) * (a - c) := ⟨_, rfl⟩
  obtain ⟨q, eq⟩ : ∃ q, q = (b - d) * (b - d) := ⟨_, rfl⟩
  rw [← ep] at s1
  rw [← eq] at s2
  have w3 : IntKind.i64.wrap ((a - c) * (a - c)) = p := by rw [← ep, IntKind.wrap_i64]; omega
  have w4 : IntKind.i64.wrap ((b - d) * (b - d)) = q := by rw [← eq, IntKind.wrap_i64]; omega
  have w5 : IntKind.i64.wrap (p + q) = p + q := by rw [IntKind.wrap_i64]; omega
  have HE := Lib.hid (show sq2 a b c d = p + q by unfold sq2; rw [ep, eq])
  clear ep eq
  rw [HE.out]
  go_enter Tryz.func48, Tryz.ntmps48
  go_wp2_with (fail)
  go_ret
  exact ⟨rfl, ((Below.refl _ _).alloc (Nat.le_refl _) _).alloc (by simp) _⟩

set_option maxRecDepth 100000 in
set_option maxHeartbeats 1000000 in
theorem byDeviceF_any (x y : Fx) (w : World) : Calls Tryz.prog 37 #[fxV x, fxV y] w fun e w' => e = .returned (.int .i64 (cmpI x.1 y.1)) ∧ Below w.heap.size w w' := by
  obtain ⟨a, x1, x2, x3⟩ := x
  obtain ⟨c, y1, y2, y3⟩ := y
  unfold fxV
  go_enter Tryz.func37, Tryz.ntmps37
  go_wp2_with (fail)
  generalize hW : ((w.alloc (.cells #[.string { data := #[100] }, .int .i64 a, .int .i64 x1, .int .i64 x2, .int .i64 x3] 42)).alloc (.cells #[.string { data := #[100] }, .int .i64 c, .int .i64 y1, .int .i64 y2, .int .i64 y3] 42)) = W
  have hB : Below w.heap.size w W := by rw [← hW]; exact ((Below.refl _ _).alloc (Nat.le_refl _) _).alloc (by simp) _
  have hsz : w.heap.size ≤ W.heap.size := hB.size
  have hx : W.heap[w.heap.size]? = some (.cells #[.string { data := #[100] }, .int .i64 a, .int .i64 x1, .int .i64 x2, .int .i64 x3] 42) := by
    rw [← hW, Below.heap_alloc _ _ _ (by simp)]; exact heap_new w _
  have hy : W.heap[w.heap.size + 1]? = some (.cells #[.string { data := #[100] }, .int .i64 c, .int .i64 y1, .int .i64 y2, .int .i64 y3] 42) := by
    rw [← hW]; have := heap_new (w.alloc (.cells #[.string { data := #[100] }, .int .i64 a, .int .i64 x1, .int .i64 x2, .int .i64 x3] 42)) (.cells #[.string { data := #[100] }, .int .i64 c, .int .i64 y1, .int .i64 y2, .int .i64 y3] 42); simpa using this
  have p0 : W.cell? ⟨w.heap.size, 0, none⟩ = some (.string { data := #[100] }) := cell_of_blk hx rfl
  have p1 : W.cell? ⟨w.heap.size, 1, none⟩ = some (.int .i64 a) := cell_of_blk hx rfl
  have q0 : W.cell? ⟨w.heap.size + 1, 0, none⟩ = some (.string { data := #[100] }) := cell_of_blk hy rfl
  have q1 : W.cell? ⟨w.heap.size + 1, 1, none⟩ = some (.int .i64 c) := cell_of_blk hy rfl
  clear hW hx hy
  refine wp_region_still_tail 10 (by kernel_rfl) (by kernel_rfl) ?_
  simp only [List.take_succ_cons, List.take_zero, List.drop_succ_cons, List.drop_zero]
  change wpStill _ _ W.drew _ _ _
  repeat still_step
  still_call (flip_ (scompare_same _ _))
  repeat still_step
  still_call (flip_ (compare_any _ _ _))
  try refine wpStill_nil ?_
  generalize hr : cmpI a c = r
  have hsz' : W.drew.heap.size = W.heap.size := rfl
  have HR := Lib.hid (show orI [0, r] = r by unfold orI orI orI; by_cases h : r = 0 <;> simp [h])
  have HB := Lib.hid (show Below w.heap.size w (W.drew.alloc (.cells #[.int .i64 0, .int .i64 r] 3)) from (hB.drew).alloc hsz _)
  go_wp2_with (fail)
  have hcs : Cells (W.alloc (.cells #[.int .i64 0, .int .i64 r] 3)).drew W.heap.size 0 ([0, r].map (Value.int .i64)) := Cells.new W #[.int .i64 0, .int .i64 r] 3 (0, 0) _ rfl
  refine (or_any [0, r] 2 2 W.heap.size _ rfl (by omega) hcs).mono ?_
  rw [HR.out]
  rintro e w' ⟨rfl, rfl⟩
  go_wp2_with (fail)
  go_ret
  exact ⟨ret_int hr.symm, HB.out⟩
end Go.Proofs.YthplhibdapjjgaaGreatDoor
