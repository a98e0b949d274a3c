/- Number and Atoi at one digit. Written by gen_vers2.py. -/
import Derived.Test.YtbimiojoihfnkaaGreatDoorVers
namespace Go.Proofs.YtbimiojoihfnkaaGreatDoor
open Go.RowKit

theorem conv_one (w : World) (d : UInt8) : ∃ c C f, (convert 9 99 (.string ⟨#[d]⟩)).run Tryz.prog w = .ok (.slice (some ⟨w.heap.size, 0, none⟩) 1 c) (w.drew.alloc (.cells C 5 f)) ∧ C[0]? = some (.int .u8 d.toNat) := by
  refine ⟨_, _, _, run_bytes_of_string (P := Tryz.prog) w 9 99 5 ⟨#[d]⟩ Tryz.underlying9 Tryz.underlying99 Tryz.underlying5, ?_⟩
  unfold bytesRow
  rw [Array.getElem?_append_left (by simp)]
  simp

set_option maxRecDepth 100000 in
set_option maxHeartbeats 1000000 in
theorem iatoi_49 (w : World) : Calls Tryz.prog 294 #[.string ⟨#[49]⟩] w fun e w' => e = .returned (.tuple #[.int .i64 1, .nilIface]) ∧ Below w.heap.size w w' := by
  obtain ⟨c, C, f, hrun, hC⟩ := conv_one w 49
  have hcell := cell_of_blk (heap_new w (.cells C 5 f)) hC
  have HB := Lib.hid (show Below w.heap.size w (w.alloc (.cells C 5 f)).drew from ((Below.refl _ _).alloc (Nat.le_refl _) _).drew)
  clear hC
  go_enter Tryz.func294, Tryz.ntmps294
  go_wp2_with (fail)
  refine wp_loop_rounds 2 ?_
  rw [rounds_succ]
  go_wp2_with (fail)
  rw [rounds_succ]
  go_wp2_with (fail)
  go_ret2
  exact ⟨rfl, HB.out⟩
theorem atoi_49 (w : World) : Calls Tryz.prog 242 #[.string ⟨#[49]⟩] w fun e w' => e = .returned (.tuple #[.int .i64 1, .nilIface]) ∧ Below w.heap.size w w' := by
  go_enter Tryz.func242, Tryz.ntmps242
  go_wp2_with (fail)
  refine (iatoi_49 w).mono ?_
  rintro e w' ⟨rfl, hb⟩
  have HB := Lib.hid hb
  clear hb
  go_wp2_with (fail)
  go_ret2
  exact ⟨rfl, HB.out⟩
theorem trim_49 (w : World) : Calls Tryz.prog 241 #[.string ⟨#[49]⟩, .string ⟨#[45]⟩] w fun e w' => e = .returned (.string ⟨#[49]⟩) ∧ w = w' := by
  have e1 : (⟨#[49]⟩ : ByteArray).extract 0 1 = ⟨#[49]⟩ := by decide
  have e2 : ((⟨#[49]⟩ : ByteArray).toList == [45]) = false := by rw [Lib.toList_data]; decide
  go_enter Tryz.func241, Tryz.ntmps241
  go_wp2
  go_ret
  exact ⟨rfl, rfl⟩
set_option maxHeartbeats 1000000 in
theorem number_49 (w : World) : Calls Tryz.prog 191 #[.string ⟨#[49]⟩, .int .i64 4] w fun e w' => e = .returned (.tuple #[.int .i64 1, .bool true]) ∧ Below w.heap.size w w' := by
  have e2 : (⟨#[49]⟩ : ByteArray).toList.isEmpty = false := by rw [Lib.toList_data]; decide
  go_enter Tryz.func191, Tryz.ntmps191
  go_wp2_with (fail)
  refine (trim_49 w).mono ?_
  rintro e w' ⟨rfl, rfl⟩
  go_wp2_with (fail)
  refine wp_loop_rounds 2 ?_
  rw [rounds_succ]
  go_wp2_with (fail)
  rw [rounds_succ]
  go_wp2_with (fail)
  refine (atoi_49 w).mono ?_
  rintro e w' ⟨rfl, hb⟩
  have HB := Lib.hid hb
  clear hb
  go_wp2_with (fail)
  go_quiet (fail)
  go_wp2_with (fail)
  go_ret2
  exact ⟨rfl, below_drewN HB.out _⟩

set_option maxRecDepth 100000 in
set_option maxHeartbeats 1000000 in
theorem iatoi_50 (w : World) : Calls Tryz.prog 294 #[.string ⟨#[50]⟩] w fun e w' => e = .returned (.tuple #[.int .i64 2, .nilIface]) ∧ Below w.heap.size w w' := by
  obtain ⟨c, C, f, hrun, hC⟩ := conv_one w 50
  have hcell := cell_of_blk (heap_new w (.cells C 5 f)) hC
  have HB := Lib.hid (show Below w.heap.size w (w.alloc (.cells C 5 f)).drew from ((Below.refl _ _).alloc (Nat.le_refl _) _).drew)
  clear hC
  go_enter Tryz.func294, Tryz.ntmps294
  go_wp2_with (fail)
  refine wp_loop_rounds 2 ?_
  rw [rounds_succ]
  go_wp2_with (fail)
  rw [rounds_succ]
  go_wp2_with (fail)
  go_ret2
  exact ⟨rfl, HB.out⟩
theorem atoi_50 (w : World) : Calls Tryz.prog 242 #[.string ⟨#[50]⟩] w fun e w' => e = .returned (.tuple #[.int .i64 2, .nilIface]) ∧ Below w.heap.size w w' := by
  go_enter Tryz.func242, Tryz.ntmps242
  go_wp2_with (fail)
  refine (iatoi_50 w).mono ?_
  rintro e w' ⟨rfl, hb⟩
  have HB := Lib.hid hb
  clear hb
  go_wp2_with (fail)
  go_ret2
  exact ⟨rfl, HB.out⟩
theorem trim_50 (w : World) : Calls Tryz.prog 241 #[.string ⟨#[50]⟩, .string ⟨#[45]⟩] w fun e w' => e = .returned (.string ⟨#[50]⟩) ∧ w = w' := by
  have e1 : (⟨#[50]⟩ : ByteArray).extract 0 1 = ⟨#[50]⟩ := by decide
  have e2 : ((⟨#[50]⟩ : ByteArray).toList == [45]) = false := by rw [Lib.toList_data]; decide
  go_enter Tryz.func241, Tryz.ntmps241
  go_wp2
  go_ret
  exact ⟨rfl, rfl⟩
set_option maxHeartbeats 1000000 in
theorem number_50 (w : World) : Calls Tryz.prog 191 #[.string ⟨#[50]⟩, .int .i64 4] w fun e w' => e = .returned (.tuple #[.int .i64 2, .bool true]) ∧ Below w.heap.size w w' := by
  have e2 : (⟨#[50]⟩ : ByteArray).toList.isEmpty = false := by rw [Lib.toList_data]; decide
  go_enter Tryz.func191, Tryz.ntmps191
  go_wp2_with (fail)
  refine (trim_50 w).mono ?_
  rintro e w' ⟨rfl, rfl⟩
  go_wp2_with (fail)
  refine wp_loop_rounds 2 ?_
  rw [rounds_succ]
  go_wp2_with (fail)
  rw [rounds_succ]
  go_wp2_with (fail)
  refine (atoi_50 w).mono ?_
  rintro e w' ⟨rfl, hb⟩
  have HB := Lib.hid hb
  clear hb
  go_wp2_with (fail)
  go_quiet (fail)
  go_wp2_with (fail)
  go_ret2
  exact ⟨rfl, below_drewN HB.out _⟩

set_option maxRecDepth 100000 in
set_option maxHeartbeats 1000000 in
theorem iatoi_51 (w : World) : Calls Tryz.prog 294 #[.string ⟨#[51]⟩] w fun e w' => e = .returned (.tuple #[.int .i64 3, .nilIface]) ∧ Below w.heap.size w w' := by
  obtain ⟨c, C, f, hrun, hC⟩ := conv_one w 51
  have hcell := cell_of_blk (heap_new w (.cells C 5 f)) hC
  have HB := Lib.hid (show Below w.heap.size w (w.alloc (.cells C 5 f)).drew from ((Below.refl _ _).alloc (Nat.le_refl _) _).drew)
  clear hC
  go_enter Tryz.func294, Tryz.ntmps294
  go_wp2_with (fail)
  refine wp_loop_rounds 2 ?_
  rw [rounds_succ]
  go_wp2_with (fail)
  rw [rounds_succ]
  go_wp2_with (fail)
  go_ret2
  exact ⟨rfl, HB.out⟩
theorem atoi_51 (w : World) : Calls Tryz.prog 242 #[.string ⟨#[51]⟩] w fun e w' => e = .returned (.tuple #[.int .i64 3, .nilIface]) ∧ Below w.heap.size w w' := by
  go_enter Tryz.func242, Tryz.ntmps242
  go_wp2_with (fail)
  refine (iatoi_51 w).mono ?_
  rintro e w' ⟨rfl, hb⟩
  have HB := Lib.hid hb
  clear hb
  go_wp2_with (fail)
  go_ret2
  exact ⟨rfl, HB.out⟩
theorem trim_51 (w : World) : Calls Tryz.prog 241 #[.string ⟨#[51]⟩, .string ⟨#[45]⟩] w fun e w' => e = .returned (.string ⟨#[51]⟩) ∧ w = w' := by
  have e1 : (⟨#[51]⟩ : ByteArray).extract 0 1 = ⟨#[51]⟩ := by decide
  have e2 : ((⟨#[51]⟩ : ByteArray).toList == [45]) = false := by rw [Lib.toList_data]; decide
  go_enter Tryz.func241, Tryz.ntmps241
  go_wp2
  go_ret
  exact ⟨rfl, rfl⟩
set_option maxHeartbeats 1000000 in
theorem number_51 (w : World) : Calls Tryz.prog 191 #[.string ⟨#[51]⟩, .int .i64 4] w fun e w' => e = .returned (.tuple #[.int .i64 3, .bool true]) ∧ Below w.heap.size w w' := by
  have e2 : (⟨#[51]⟩ : ByteArray).toList.isEmpty = false := by rw [Lib.toList_data]; decide
  go_enter Tryz.func191, Tryz.ntmps191
  go_wp2_with (fail)
  refine (trim_51 w).mono ?_
  rintro e w' ⟨rfl, rfl⟩
  go_wp2_with (fail)
  refine wp_loop_rounds 2 ?_
  rw [rounds_succ]
  go_wp2_with (fail)
  rw [rounds_succ]
  go_wp2_with (fail)
  refine (atoi_51 w).mono ?_
  rintro e w' ⟨rfl, hb⟩
  have HB := Lib.hid hb
  clear hb
  go_wp2_with (fail)
  go_quiet (fail)
  go_wp2_with (fail)
  go_ret2
  exact ⟨rfl, below_drewN HB.out _⟩
end Go.Proofs.YtbimiojoihfnkaaGreatDoor
