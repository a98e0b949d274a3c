/- twin.CheckProps, names, Differ at nothing and the flag a. -/
import Derived.Test.YtbimiojoihfnkaaGreatDoorRdB
namespace Go.Proofs.YtbimiojoihfnkaaGreatDoor
open Go.RowKit

theorem checkProps_nil (w : World) : Calls Tryz.prog 89 #[.slice none 0 0] w fun e w' => e = .returned (.int .i64 0) ∧ Below w.heap.size w w' := by
  go_enter Tryz.func89, Tryz.ntmps89
  go_wp2_with (fail)
  refine wp_loop_rounds 1 ?_
  rw [rounds_succ]
  go_wp2_with (fail)
  refine wp_loop_rounds 1 ?_
  rw [rounds_succ]
  go_wp2_with (fail)
  go_ret
  exact ⟨rfl, (Below.refl _ _).alloc (Nat.le_refl _) _⟩

theorem above_a (f : Value) (w : World) : Calls Tryz.prog 158 #[.string ⟨#[97]⟩, f] w fun e w' => e = .returned (.bool false) ∧ w = w' := by
  go_enter Tryz.func158, Tryz.ntmps158
  go_wp2_with (fail)
  refine wp_loop_rounds 2 ?_
  rw [rounds_succ]
  go_wp2_with (fail)
  rw [rounds_succ]
  go_wp2_with (fail)
  go_ret
  exact ⟨rfl, rfl⟩

set_option maxRecDepth 100000 in
set_option maxHeartbeats 1000000 in
theorem checkProps_a (b : Nat) (w : World) (hb : APr w b) : Calls Tryz.prog 89 #[.slice (some ⟨b, 0, none⟩) 1 1] w fun e w' => e = .returned (.int .i64 0) ∧ Below w.heap.size w w' := by
  have hlt := hb.lt
  have c0 := cell_of_blk (j := 0) hb rfl
  have c1 := cell_of_blk (j := 1) hb rfl
  have c2 := cell_of_blk (j := 2) hb rfl
  have c3 := cell_of_blk (j := 3) hb rfl
  have c4 := cell_of_blk (j := 4) hb rfl
  have HA := Lib.hid hb
  clear hb
  go_enter Tryz.func89, Tryz.ntmps89
  go_wp2_with (fail)
  refine wp_loop_rounds 2 ?_
  rw [rounds_succ]
  go_wp2_with (go_at_call 156; refine (isName_a _).mono ?_; rintro e w' ⟨rfl, rfl⟩)
  generalize hW : (w.alloc (.cells #[.slice (some ⟨b, 0, none⟩) 1 1] 69)).alloc (.cells #[.string ⟨#[97]⟩, .int .i64 1, .bool false, .int .i64 0, .string ⟨#[]⟩] 81) = W
  have hWs : W.heap.size = w.heap.size + 1 + 1 := by rw [← hW]; simp
  have HBW := Lib.hid (show Below w.heap.size w W by rw [← hW]; exact ((Below.refl _ _).alloc (Nat.le_refl _) _).alloc (by simp) _)
  have HQ := Lib.hid (show W.heap[w.heap.size]? = some (.cells #[.slice (some ⟨b, 0, none⟩) 1 1] 69) by rw [← hW, Below.heap_alloc _ _ _ (by simp)]; exact heap_new w _)
  have HP := Lib.hid (show W.heap[w.heap.size + 1]? = some (.cells #[.string ⟨#[97]⟩, .int .i64 1, .bool false, .int .i64 0, .string ⟨#[]⟩] 81) by rw [← hW]; have := heap_new (w.alloc (.cells #[.slice (some ⟨b, 0, none⟩) 1 1] 69)) (.cells #[.string ⟨#[97]⟩, .int .i64 1, .bool false, .int .i64 0, .string ⟨#[]⟩] 81); simpa using this)
  clear hW c0 c1 c2 c3 c4
  refine (valueFault_flag _).mono ?_
  rintro e w1 ⟨rfl, hb1⟩
  have hs1 := hb1.size
  have HB1 := Lib.hid (HBW.out.trans (hb1.mono (by omega)))
  have hq1 := (hb1.block w.heap.size (by omega)).trans HQ.out
  have hp1 := (hb1.block (w.heap.size + 1) (by omega)).trans HP.out
  have q0 := cell_of_blk (j := 0) hq1 rfl
  have p0 := cell_of_blk (j := 0) hp1 rfl
  have p1 := cell_of_blk (j := 1) hp1 rfl
  have hd : decide ((0 : Int) < 0) = false := by decide
  have HQ1 := Lib.hid hq1
  clear hb1 hp1 hq1
  go_wp2_with (fail)
  go_quiet (fail)
  generalize hV : w1.drewN nq = V
  have HBV := Lib.hid (show Below w.heap.size w V by rw [← hV]; exact below_drewN HB1.out _)
  have hVs : V.heap.size = w1.heap.size := by rw [← hV]; rfl
  have hq2 : V.heap[w.heap.size]? = some (.cells #[.slice (some ⟨b, 0, none⟩) 1 1] 69) := by rw [← hV]; exact HQ1.out
  have HA1 := HA.out.keep (HBV.out.mono (Nat.le_refl _))
  clear q0 p0 p1 hV
  have q0 := cell_of_blk (j := 0) hq2 rfl
  have d0 := cell_of_blk (j := 0) HA1 rfl
  have d1 := cell_of_blk (j := 1) HA1 rfl
  have d2 := cell_of_blk (j := 2) HA1 rfl
  have d3 := cell_of_blk (j := 3) HA1 rfl
  have d4 := cell_of_blk (j := 4) HA1 rfl
  clear HA1 hq2
  go_wp2_with (fail)
  rw [rounds_succ]
  go_wp2_with (fail)
  refine wp_loop_rounds 2 ?_
  rw [rounds_succ]
  go_wp2_with (go_at_call 158; refine (above_a _ _).mono ?_; rintro e w' ⟨rfl, rfl⟩)
  rw [rounds_succ]
  go_wp2_with (fail)
  go_ret
  exact ⟨rfl, HBV.out.alloc (by omega) _⟩
end Go.Proofs.YtbimiojoihfnkaaGreatDoor
