/- slices.Sort, slices.Compact of one string; twin.CheckProps, names, find, valueOf, Differ at nothing and the flag a. -/
import Derived.Test.YtbimiojoihfnkaaGreatDoorRdA
import Derived.Test.YtbimiojoihfnkaaGreatDoorAppend
namespace Go.Proofs.YtbimiojoihfnkaaGreatDoor
open Go.RowKit

set_option maxRecDepth 100000 in
theorem len64_1 (w : World) : Calls Tryz.prog 211 #[.int .u64 1] w fun e w' => e = .returned (.int .i64 1) ∧ w = w' := by
  go_enter Tryz.func211, Tryz.ntmps211
  go_wp2
  go_ret
  exact ⟨by first | rfl | kernel_rfl | decide, rfl⟩
theorem len_1 (w : World) : Calls Tryz.prog 150 #[.int .u64 1] w fun e w' => e = .returned (.int .i64 1) ∧ w = w' := by
  go_enter Tryz.func150, Tryz.ntmps150
  go_wp2_with (go_at_call 211; refine (len64_1 _).mono ?_; rintro e w' ⟨rfl, rfl⟩)
  go_ret
  exact ⟨rfl, rfl⟩
theorem ins_1 (A : Option Addr) (c : Nat) (w : World) : Calls Tryz.prog 274 #[.slice A 1 c, .int .i64 0, .int .i64 1] w fun e w' => e = .returned (.tuple #[]) ∧ w = w' := by
  go_enter Tryz.func274, Tryz.ntmps274
  go_wp2_with (fail)
  refine wp_loop_rounds 1 ?_
  rw [rounds_succ]
  go_wp2_with (fail)
  go_end0
  exact ⟨rfl, rfl⟩
theorem pdq_1 (A : Option Addr) (c : Nat) (w : World) : Calls Tryz.prog 222 #[.slice A 1 c, .int .i64 0, .int .i64 1, .int .i64 1] w fun e w' => e = .returned (.tuple #[]) ∧ w = w' := by
  go_enter Tryz.func222, Tryz.ntmps222
  go_wp2_with (fail)
  refine wp_loop_rounds 1 ?_
  rw [rounds_succ]
  go_wp2_with (go_at_call 274; refine (ins_1 _ _ _).mono ?_; rintro e w' ⟨rfl, rfl⟩)
  exact bodyPost_ret (results_none rfl _ _ _) rfl ⟨rfl, rfl⟩
theorem sort_1 (A : Option Addr) (c : Nat) (w : World) : Calls Tryz.prog 161 #[.slice A 1 c] w fun e w' => e = .returned (.tuple #[]) ∧ w = w' := by
  go_enter Tryz.func161, Tryz.ntmps161
  go_wp2_with (first | (go_at_call 150; refine (len_1 _).mono ?_; rintro e w' ⟨rfl, rfl⟩) | (go_at_call 222; refine (pdq_1 _ _ _).mono ?_; rintro e w' ⟨rfl, rfl⟩))
  go_end0
  exact ⟨rfl, rfl⟩
theorem compact_1 (A : Option Addr) (c : Nat) (w : World) : Calls Tryz.prog 162 #[.slice A 1 c] w fun e w' => e = .returned (.slice A 1 c) ∧ w = w' := by
  go_enter Tryz.func162, Tryz.ntmps162
  go_wp2_with (fail)
  go_ret
  exact ⟨rfl, rfl⟩

theorem find1_a (w : World) : Calls Tryz.prog 221 #[.agg #[.string ⟨#[97]⟩, .int .i64 1, .bool false, .int .i64 0, .string ⟨#[]⟩], .string ⟨#[97]⟩] w fun e w' => e = .returned (.int .i64 0) ∧ Below w.heap.size w w' := by
  go_enter Tryz.func221, Tryz.ntmps221
  go_wp2_with (go_at_call 94; refine (scompare_same _ _).mono ?_; rintro e w' ⟨rfl, rfl⟩)
  go_ret
  exact ⟨rfl, (Below.refl _ _).alloc (Nat.le_refl _) _⟩
theorem bin_nil (f : Value) (s : Value) (w : World) : Calls Tryz.prog 220 #[.slice none 0 0, s, f] w fun e w' => e = .returned (.tuple #[.int .i64 0, .bool false]) ∧ w = w' := by
  go_enter Tryz.func220, Tryz.ntmps220
  go_wp2_with (fail)
  refine wp_loop_rounds 1 ?_
  rw [rounds_succ]
  go_wp2_with (fail)
  go_ret2
  exact ⟨rfl, rfl⟩
theorem find_nil (s : Value) (w : World) : Calls Tryz.prog 160 #[.slice none 0 0, s] w fun e w' => e = .returned (.int .i64 (-1)) ∧ w = w' := by
  go_enter Tryz.func160, Tryz.ntmps160
  go_wp2_with (go_at_call 220; refine (bin_nil _ _ _).mono ?_; rintro e w' ⟨rfl, rfl⟩)
  go_ret
  exact ⟨rfl, rfl⟩

/-- Block b is the flag a. -/
def APr (w : World) (b : Nat) : Prop := w.heap[b]? = some (.cells #[.string ⟨#[97]⟩, .int .i64 1, .bool false, .int .i64 0, .string ⟨#[]⟩] 81)
theorem APr.lt {w : World} {b : Nat} (h : APr w b) : b < w.heap.size := (Array.getElem?_eq_some_iff.1 h).1
theorem APr.keep {w w' : World} {b : Nat} (h : APr w b) (hb : Below w.heap.size w w') : APr w' b := (hb.block b h.lt).trans h
theorem APr.alloc {w : World} {b : Nat} (h : APr w b) (o : Obj) : APr (w.alloc o) b := (Below.heap_alloc _ _ b h.lt).trans h

set_option maxRecDepth 100000 in
set_option maxHeartbeats 1000000 in
theorem bin_a (b : Nat) (w : World) (hb : APr w b) : Calls Tryz.prog 220 #[.slice (some ⟨b, 0, none⟩) 1 1, .string ⟨#[97]⟩, .func (.func 221) #[] #[]] w fun e w' => e = .returned (.tuple #[.int .i64 0, .bool true]) ∧ Below w.heap.size w w' := by
  have hlt := hb.lt
  have c0 := cell_of_blk (j := 0) hb rfl
  have c1 := cell_of_blk (j := 1) hb rfl
  have c2 := cell_of_blk (j := 2) hb rfl
  have c3 := cell_of_blk (j := 3) hb rfl
  have c4 := cell_of_blk (j := 4) hb rfl
  have HA := Lib.hid hb
  clear hb
  go_enter Tryz.func220, Tryz.ntmps220
  go_wp2_with (fail)
  refine wp_loop_rounds 2 ?_
  rw [rounds_succ]
  go_wp2_with (fail)
  refine (find1_a _).mono ?_
  rintro e w1 ⟨rfl, hb1⟩
  have hs1 := hb1.size
  have HA1 := Lib.hid (HA.out.keep hb1)
  have HB1 := Lib.hid hb1
  clear hb1 c0 c1 c2 c3 c4
  have c0 := cell_of_blk (j := 0) HA1.out rfl
  have c1 := cell_of_blk (j := 1) HA1.out rfl
  have c2 := cell_of_blk (j := 2) HA1.out rfl
  have c3 := cell_of_blk (j := 3) HA1.out rfl
  have c4 := cell_of_blk (j := 4) HA1.out rfl
  go_wp2_with (fail)
  rw [rounds_succ]
  go_wp2_with (fail)
  refine (find1_a _).mono ?_
  rintro e w2 ⟨rfl, hb2⟩
  have HB2 := Lib.hid (HB1.out.trans (hb2.mono hs1))
  clear hb2
  go_wp2_with (fail)
  go_ret2
  exact ⟨rfl, HB2.out⟩
theorem find_a (b : Nat) (w : World) (hb : APr w b) : Calls Tryz.prog 160 #[.slice (some ⟨b, 0, none⟩) 1 1, .string ⟨#[97]⟩] w fun e w' => e = .returned (.int .i64 0) ∧ Below w.heap.size w w' := by
  have HA := Lib.hid hb
  clear hb
  go_enter Tryz.func160, Tryz.ntmps160
  go_wp2_with (fail)
  refine (bin_a b w HA.out).mono ?_
  rintro e w1 ⟨rfl, hb1⟩
  have HB1 := Lib.hid hb1
  clear hb1
  go_wp2_with (fail)
  go_ret
  exact ⟨rfl, HB1.out⟩

set_option maxHeartbeats 1000000 in
theorem valueOf_nil (w : World) : Calls Tryz.prog 91 #[.slice none 0 0, .string ⟨#[97]⟩] w fun e w' => e = .returned (.agg #[.int .i64 0, .bool false, .int .i64 0, .string ⟨#[]⟩]) ∧ Below w.heap.size w w' := by
  go_enter Tryz.func91, Tryz.ntmps91
  go_wp2_with (go_at_call 160; refine (find_nil _ _).mono ?_; rintro e w' ⟨rfl, rfl⟩)
  refine bodyPost_ret (v := .agg #[.int .i64 0, .bool false, .int .i64 0, .string ⟨#[]⟩]) (by simp [results, Tryz.results91, go_sem]) rfl ⟨rfl, ?_⟩
  exact (Below.refl _ _).alloc (Nat.le_refl _) _
set_option maxHeartbeats 1000000 in
theorem valueOf_a (b : Nat) (w : World) (hb : APr w b) : Calls Tryz.prog 91 #[.slice (some ⟨b, 0, none⟩) 1 1, .string ⟨#[97]⟩] w fun e w' => e = .returned (.agg #[.int .i64 1, .bool false, .int .i64 0, .string ⟨#[]⟩]) ∧ Below w.heap.size w w' := by
  have HZ := Lib.hid (heap_new w (.cells #[.int .i64 0, .bool false, .int .i64 0, .string ⟨#[]⟩] 79))
  have HA := Lib.hid (hb.alloc (.cells #[.int .i64 0, .bool false, .int .i64 0, .string ⟨#[]⟩] 79))
  have HB0 := Lib.hid ((Below.refl w.heap.size w).alloc (Nat.le_refl _) (.cells #[.int .i64 0, .bool false, .int .i64 0, .string ⟨#[]⟩] 79))
  have hlt := hb.lt
  clear hb
  go_enter Tryz.func91, Tryz.ntmps91
  go_wp2_with (fail)
  refine (find_a b _ HA.out).mono ?_
  rintro e w1 ⟨rfl, hb1⟩
  have hs1 := hb1.size
  simp only [World.size_alloc] at hs1
  have HA1 := HA.out.keep hb1
  have c1 := cell_of_blk (j := 1) HA1 rfl
  have c2 := cell_of_blk (j := 2) HA1 rfl
  have c3 := cell_of_blk (j := 3) HA1 rfl
  have c4 := cell_of_blk (j := 4) HA1 rfl
  have hz1 := (hb1.block w.heap.size (by simp)).trans HZ.out
  have z0 := cell_of_blk (j := 0) hz1 rfl
  have z1 := cell_of_blk (j := 1) hz1 rfl
  have z2 := cell_of_blk (j := 2) hz1 rfl
  have z3 := cell_of_blk (j := 3) hz1 rfl
  have fr : ∀ j, w1.frozen? ⟨w.heap.size, j, none⟩ = false := by intro j; simp [World.frozen?, hz1]
  have f0 := fr 0
  have f1 := fr 1
  have f2 := fr 2
  have f3 := fr 3
  have HW : ((((w1.setCell ⟨w.heap.size, 0, none⟩ (.int .i64 1)).setCell ⟨w.heap.size, 1, none⟩ (.bool false)).setCell ⟨w.heap.size, 2, none⟩ (.int .i64 0)).setCell ⟨w.heap.size, 3, none⟩ (.string ⟨#[]⟩)).heap[w.heap.size]? = some (.cells #[.int .i64 1, .bool false, .int .i64 0, .string ⟨#[]⟩] 79) := by
    simp [World.setCell, Array.getElem?_modify, hz1]
  have q0 := Lib.hid (cell_of_blk (j := 0) HW rfl)
  have q1 := Lib.hid (cell_of_blk (j := 1) HW rfl)
  have q2 := Lib.hid (cell_of_blk (j := 2) HW rfl)
  have q3 := Lib.hid (cell_of_blk (j := 3) HW rfl)
  have HB1 := Lib.hid (HB0.out.trans (hb1.mono (by simp)))
  clear hb1 HA1 hz1 fr HW
  go_wp2_with (fail)
  have r0 := q0.out
  have r1 := q1.out
  have r2 := q2.out
  have r3 := q3.out
  refine bodyPost_ret (v := .agg #[.int .i64 1, .bool false, .int .i64 0, .string ⟨#[]⟩]) (by simp [results, Tryz.results91, go_sem, r0, r1, r2, r3]) rfl ⟨rfl, ?_⟩
  exact (((HB1.out.setCell (by simp) _).setCell (by simp) _).setCell (by simp) _).setCell (by simp) _
end Go.Proofs.YtbimiojoihfnkaaGreatDoor
