/- Numbers, ParseVersion at 1.2.3; Cell at level 1. -/
import Derived.Test.YtbimiojoihfnkaaGreatDoorVers2
import Derived.Test.YtbimiojoihfnkaaGreatDoorAppend
import Derived.BigRegion
import Derived.Deep.RegionLawGrows
namespace Go.Proofs.YtbimiojoihfnkaaGreatDoor
open Go.RowKit

theorem Tryz.infoI : (Tryz.prog.info? 3).map (fun i => (i.zero, i.size, i.bytes)) = some (some (.int .i64 0), 1, 8) := by kernel_rfl
theorem int_one (x : Int) : ∀ u ∈ [Value.int .i64 x], u.oneCell' = true := by
  intro u hu; simp at hu; subst hu; rfl

set_option maxRecDepth 100000 in
set_option maxHeartbeats 2000000 in
theorem numbers_123 (w : World) (g : Nat) (hg : w.heap[g]? = some (.cells #[.string ⟨#[49]⟩, .string ⟨#[50]⟩, .string ⟨#[51]⟩] 9)) :
    Calls Tryz.prog 122 #[.slice (some ⟨g, 0, none⟩) 3 3, .int .i64 4] w fun e w' => ∃ A c, e = .returned (.tuple #[.slice A 3 c, .bool true]) ∧ w'.ownsRow w.heap.size 3 1 (.slice A 3 c) 3 [.int .i64 1, .int .i64 2, .int .i64 3] ∧ Below w.heap.size w w' := by
  obtain ⟨i0, hi, hz0, hz1, hz2⟩ := info_parts Tryz.infoI
  have c0 := cell_of_blk (j := 0) hg rfl
  have c1 := cell_of_blk (j := 1) hg rfl
  have c2 := cell_of_blk (j := 2) hg rfl
  have hlt := (Array.getElem?_eq_some_iff.1 hg).1
  clear hg
  go_enter Tryz.func122, Tryz.ntmps122
  go_wp2_with (fail)
  refine wp_loop_rounds 4 ?_
  rw [rounds_succ]
  go_wp2_with (fail)
  refine (number_49 w).mono ?_
  rintro e w1 ⟨rfl, hb1⟩
  have hs1 := hb1.size
  have HB1 := Lib.hid hb1
  have HO0 := Lib.hid (World.ownsRow_nil w1 w.heap.size 3 1)
  clear hb1
  go_wp2_with (at_builtin; refine wpList_append_own2 _ rfl (.tmp 25) (.tmp 27) 22 rfl w.heap.size 3 i0 (.int .i64 0) 1 8 Tryz.underlying22 hi hz0 hz1 hz2 rfl (by decide) _ _ _ rfl (HO0.out.alloc _) ⟨w1.heap.size, 0, none⟩ 1 1 [.int .i64 1] rfl rfl ?a1 ?a2 ?a3 ?a4 ?a5 ?_)
  case a1 => exact cells_add (Cells.new _ _ _ _ _ rfl)
  case a2 => exact int_one _
  case a3 => unfold maxLen; omega
  case a4 => omega
  case a5 => simp only [World.size_alloc]; omega
  intro v2 w2 hown2 hgr2 hmv2
  have hg2 := grown_of_alloc hgr2
  have hs2 := hg2.size
  have HB2 := Lib.hid (HB1.out.grown hg2 hs1 (fun k hk => by simp [Value.ownBlock] at hk))
  have HO2 := Lib.hid hown2
  have d1 := (HB2.out.cell (p := ⟨g, 1, none⟩) hlt).trans c1
  clear hown2 hgr2 hmv2 hg2
  go_wp2_with (fail)
  rw [rounds_succ]
  go_wp2_with (fail)
  refine (number_50 w2).mono ?_
  rintro e w3 ⟨rfl, hb3⟩
  have hs3 := hb3.size
  have HB3 := Lib.hid (HB2.out.trans (hb3.mono (by omega)))
  have HO3 := Lib.hid (own_below HO2.out hb3)
  clear hb3 d1
  go_wp2_with (at_builtin; refine wpList_append_own2 _ rfl (.tmp 25) (.tmp 27) 22 rfl w.heap.size 3 i0 (.int .i64 0) 1 8 Tryz.underlying22 hi hz0 hz1 hz2 rfl (by decide) _ _ _ rfl (HO3.out.alloc _) ⟨w3.heap.size, 0, none⟩ 1 1 [.int .i64 2] rfl rfl ?b1 ?b2 ?b3 ?b4 ?b5 ?_)
  case b1 => exact cells_add (Cells.new _ _ _ _ _ rfl)
  case b2 => exact int_one _
  case b3 => unfold maxLen; omega
  case b4 => omega
  case b5 => simp only [World.size_alloc]; omega
  intro v4 w4 hown4 hgr4 hmv4
  have hg4 := grown_of_alloc hgr4
  have hs4 := hg4.size
  have HB4 := Lib.hid (HB3.out.grown hg4 (by omega) (fun k hk => (HO3.out.lt k hk).1))
  have HO4 := Lib.hid hown4
  have d2 := (HB4.out.cell (p := ⟨g, 2, none⟩) hlt).trans c2
  clear hown4 hgr4 hmv4 hg4
  go_wp2_with (fail)
  rw [rounds_succ]
  go_wp2_with (fail)
  refine (number_51 w4).mono ?_
  rintro e w5 ⟨rfl, hb5⟩
  have hs5 := hb5.size
  have HB5 := Lib.hid (HB4.out.trans (hb5.mono (by omega)))
  have HO5 := Lib.hid (own_below HO4.out hb5)
  clear hb5 d2
  go_wp2_with (at_builtin; refine wpList_append_own2 _ rfl (.tmp 25) (.tmp 27) 22 rfl w.heap.size 3 i0 (.int .i64 0) 1 8 Tryz.underlying22 hi hz0 hz1 hz2 rfl (by decide) _ _ _ rfl (HO5.out.alloc _) ⟨w5.heap.size, 0, none⟩ 1 1 [.int .i64 3] rfl rfl ?e1 ?e2 ?e3 ?e4 ?e5 ?_)
  case e1 => exact cells_add (Cells.new _ _ _ _ _ rfl)
  case e2 => exact int_one _
  case e3 => unfold maxLen; omega
  case e4 => omega
  case e5 => simp only [World.size_alloc]; omega
  intro v6 w6 hown6 hgr6 hmv6
  have hg6 := grown_of_alloc hgr6
  have HB6 := Lib.hid (HB5.out.grown hg6 (by omega) (fun k hk => (HO5.out.lt k hk).1))
  obtain ⟨A6, k6, rfl⟩ := own_slice hown6
  have HO6 := Lib.hid hown6
  clear hown6 hgr6 hmv6 hg6
  go_wp2_with (fail)
  rw [rounds_succ]
  go_wp2_with (fail)
  go_ret2
  exact ⟨_, _, rfl, HO6.out, HB6.out⟩

theorem version_yes (a b c : Int) (w : World) (a1 : 0 ≤ a) (a2 : a ≤ 9999) (b1 : 0 ≤ b) (b2 : b ≤ 9999) (c1 : 0 ≤ c) (c2 : c ≤ 9999) :
    Calls Tryz.prog 142 #[.agg #[.int .i64 a, .int .i64 b, .int .i64 c]] w fun e w' => e = .returned (.bool true) ∧ Below w.heap.size w w' := by
  go_enter Tryz.func142, Tryz.ntmps142
  go_wp2_with (go_at_call 65; refine (out_no _ _ _ _ (by omega) (by omega)).mono ?_; rintro e w' ⟨rfl, rfl⟩)
  go_ret
  exact ⟨rfl, (Below.refl _ _).alloc (Nat.le_refl _) _⟩

set_option maxRecDepth 100000 in
set_option maxHeartbeats 2000000 in
theorem parse_123 (w : World) : Calls Tryz.prog 68 #[.string ⟨#[49, 46, 50, 46, 51]⟩] w fun e w' => e = .returned (.tuple #[.agg #[.int .i64 1, .int .i64 2, .int .i64 3], .int .i64 0]) ∧ Below w.heap.size w w' := by
  have hz0 := heap_new w (.cells #[.int .i64 0, .int .i64 0, .int .i64 0] 138)
  have HB0 := Lib.hid ((Below.refl w.heap.size w).alloc (Nat.le_refl _) (.cells #[.int .i64 0, .int .i64 0, .int .i64 0] 138))
  have HZ0 := Lib.hid hz0
  clear hz0
  go_enter Tryz.func68, Tryz.ntmps68
  go_wp2_with (fail)
  refine (split_123 _).mono ?_
  rintro e w1 ⟨rfl, hblk1, hb1⟩
  have hs1 := hb1.size
  simp only [World.size_alloc] at hs1 hblk1
  have HZ1 := Lib.hid ((hb1.block w.heap.size (by simp)).trans HZ0.out)
  have HB1 := Lib.hid (HB0.out.trans (hb1.mono (by simp)))
  have HBLK := Lib.hid hblk1
  clear hb1 hblk1
  go_wp2_with (fail)
  refine (numbers_123 w1 _ HBLK.out).mono ?_
  rintro e w2 ⟨A, c, rfl, hown2, hb2⟩
  have hs2 := hb2.size
  have HZ2 := Lib.hid ((hb2.block w.heap.size (by omega)).trans HZ1.out)
  have HB2 := Lib.hid (HB1.out.trans (hb2.mono (by omega)))
  have hrow := own_row hown2
  obtain ⟨b, o, rfl, hblt, hcs⟩ := hrow.resolve_left (by simp)
  have i0 := hcs 0 _ rfl
  have i1 := hcs 1 _ rfl
  have i2 := hcs 2 _ rfl
  simp only [Nat.add_zero] at i0
  clear hb2 hown2 hrow hcs
  go_wp2_with (fail)
  go_region
  go_wp2_with (fail)
  refine (version_yes 1 2 3 _ (by omega) (by omega) (by omega) (by omega) (by omega) (by omega)).mono ?_
  rintro e w3 ⟨rfl, hb3⟩
  have hs3 := hb3.size
  simp at hs3
  have HB3 := Lib.hid (show Below w.heap.size w w3 from HB2.out.trans ((((Below.refl w.heap.size w2).alloc (by omega) (.cells #[.int .i64 1, .int .i64 2, .int .i64 3] 138)).drew).trans (hb3.mono (B' := w.heap.size) (by simp; omega))))
  have hz3 : w3.heap[w.heap.size]? = some (.cells #[.int .i64 0, .int .i64 0, .int .i64 0] 138) := (hb3.block w.heap.size (by simp; omega)).trans ((Below.heap_alloc w2 _ _ (by omega)).trans HZ2.out)
  have hv3 : w3.heap[w2.heap.size]? = some (.cells #[.int .i64 1, .int .i64 2, .int .i64 3] 138) := (hb3.block w2.heap.size (by simp)).trans (heap_new w2 _)
  have z0 := cell_of_blk (j := 0) hz3 rfl
  have z1 := cell_of_blk (j := 1) hz3 rfl
  have z2 := cell_of_blk (j := 2) hz3 rfl
  have y0 := cell_of_blk (j := 0) hv3 rfl
  have y1 := cell_of_blk (j := 1) hv3 rfl
  have y2 := cell_of_blk (j := 2) hv3 rfl
  have fr : ∀ j, w3.frozen? ⟨w.heap.size, j, none⟩ = false := by intro j; simp [World.frozen?, hz3]
  have f0 := fr 0
  have f1 := fr 1
  have f2 := fr 2
  have HW : (((w3.setCell ⟨w.heap.size, 0, none⟩ (.int .i64 1)).setCell ⟨w.heap.size, 1, none⟩ (.int .i64 2)).setCell ⟨w.heap.size, 2, none⟩ (.int .i64 3)).heap[w.heap.size]? = some (.cells #[.int .i64 1, .int .i64 2, .int .i64 3] 138) := by
    simp [World.setCell, Array.getElem?_modify, hz3]
  have q0 := Lib.hid (cell_of_blk (j := 0) HW rfl)
  have q1 := Lib.hid (cell_of_blk (j := 1) HW rfl)
  have q2 := Lib.hid (cell_of_blk (j := 2) HW rfl)
  clear hb3 hz3 hv3 fr i0 i1 i2 HW
  go_wp2_with (fail)
  have r0 := q0.out
  have r1 := q1.out
  have r2 := q2.out
  refine bodyPost_ret (v := .tuple #[.agg #[.int .i64 1, .int .i64 2, .int .i64 3], .int .i64 0]) (by simp [results, Tryz.results68, go_sem, r0, r1, r2]) rfl ⟨rfl, ?_⟩
  exact ((HB3.out.setCell (by simp) _).setCell (by simp) _).setCell (by simp) _

theorem isSpot_yes (x y : Int) (w : World) (x1 : -10000 ≤ x) (x2 : x ≤ 10000) (y1 : -10000 ≤ y) (y2 : y ≤ 10000) :
    Calls Tryz.prog 143 #[.agg #[.int .i64 x, .int .i64 y]] w fun e w' => e = .returned (.bool true) ∧ Below w.heap.size w w' := by
  go_enter Tryz.func143, Tryz.ntmps143
  go_wp2_with (go_at_call 65; refine (out_no _ _ _ _ (by omega) (by omega)).mono ?_; rintro e w' ⟨rfl, rfl⟩)
  go_ret
  exact ⟨rfl, (Below.refl _ _).alloc (Nat.le_refl _) _⟩

theorem Tryz.infoU8' : (Tryz.prog.info? 5).map (fun i => (i.zero, i.size, i.bytes)) = some (some (.int .u8 0), 1, 1) := by kernel_rfl

set_option maxRecDepth 100000 in
set_option maxHeartbeats 2000000 in
/-- The cell of the spot 0, 0 at level 1 is 3. -/
theorem cell_00 (w : World) : Calls Tryz.prog 69 #[.agg #[.int .i64 0, .int .i64 0], .int .i64 1] w fun e w' => e = .returned (.tuple #[.string ⟨#[51]⟩, .int .i64 0]) ∧ Below w.heap.size w w' := by
  obtain ⟨i0, hi, hz0, hz1, hz2⟩ := info_parts Tryz.infoU8'
  have hb0 := heap_new w (.cells #[.int .i64 0, .int .i64 0] 35)
  have HB0 := Lib.hid ((Below.refl w.heap.size w).alloc (Nat.le_refl _) (.cells #[.int .i64 0, .int .i64 0] 35))
  have H0 := Lib.hid hb0
  clear hb0
  go_enter Tryz.func69, Tryz.ntmps69
  go_wp2_with (fail)
  refine (isSpot_yes 0 0 _ (by omega) (by omega) (by omega) (by omega)).mono ?_
  rintro e w1 ⟨rfl, hb1⟩
  have hs1 := hb1.size
  simp only [World.size_alloc] at hs1
  have hz1' := (hb1.block w.heap.size (by simp)).trans H0.out
  have c0 := cell_of_blk (j := 0) hz1' rfl
  have c1 := cell_of_blk (j := 1) hz1' rfl
  have HB1 := Lib.hid (HB0.out.trans (hb1.mono (by simp)))
  clear hb1 hz1'
  go_wp2_with (go_at_call 65; refine (out_no _ _ _ _ (by omega) (by omega)).mono ?_; rintro e w' ⟨rfl, rfl⟩)
  go_quiet (fail)
  go_wp2_with (fail)
  refine wp_loop_rounds 2 ?_
  rw [rounds_succ]
  go_wp2_with (fail)
  generalize hW : w1.drewN nq = W
  have hWs : W.heap.size = w1.heap.size := by rw [← hW]; rfl
  have HBW := Lib.hid (show Below w.heap.size w W by rw [← hW]; exact below_drewN HB1.out _)
  clear hW
  go_region_law (first | (refine step_append_grows rfl (.tmp 28) (.tmp 42) 99 rfl 5 i0 (.int .u8 0) 1 1 Tryz.underlying99 hi hz0 hz1 hz2 rfl (by decide) none 0 0 [] (by simp [Act.eval]) (fun _ => ⟨rfl, rfl⟩) rfl (fun b hb => by cases hb) ⟨W.heap.size, 0, none⟩ 1 1 [.int .u8 51] (by simp [Act.eval]) rfl (cells_add (show Cells (W.alloc (.cells #[.int .u8 51] 5)) W.heap.size 0 [.int .u8 51] from Cells.new W _ _ _ _ rfl)) (by intro u hu; simp at hu; subst hu; rfl) (by decide) (by unfold maxLen; omega) (by omega) ?_; intro v9 w9 ho9 hg9))
  obtain ⟨A9, c9, rfl⟩ := own_slice ho9
  obtain ⟨b9, o9, rfl, hb9, hc9⟩ := (own_row ho9).resolve_left (by simp)
  have x0 := hc9 0 _ rfl
  simp only [Nat.add_zero] at x0
  have HB9 := Lib.hid (show Below w.heap.size w w9 from HBW.out.trans ⟨hg9.os, hg9.tape, hg9.output, Nat.le_trans (by simp) hg9.size, fun k hk => (hg9.block k (by simp; omega) (by simp)).trans (Below.heap_alloc W _ k (by omega))⟩)
  have hload : (loadCells ⟨b9, o9, none⟩ 1).run Tryz.prog w9 = .ok ([51].map (Value.int .u8)).toArray w9 := by
    simp [loadCells, loadCellsFrom, go_sem, x0]
  have hconv : (convert 99 9 (.slice (some ⟨b9, o9, none⟩) 1 c9)).run Tryz.prog w9 = .ok (.string ⟨#[51]⟩) w9 := by
    rw [run_convert_bytes_string w9 99 9 5 _ _ _ Tryz.underlying99 Tryz.underlying5 Tryz.underlying9, run_bytesToString w9 _ 1 c9 [51] hload]
    rfl
  clear ho9 hg9 hc9 c0 c1 hload x0
  go_wp2_with (fail)
  rw [rounds_succ]
  go_wp2_with (fail)
  go_ret2
  exact ⟨rfl, HB9.out⟩
end Go.Proofs.YtbimiojoihfnkaaGreatDoor
