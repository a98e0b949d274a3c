/- twin.isName at the seven names, base.Unmarked at the six texts, twin.valueFault at right values. Printed by gen_PrD.py. -/
import Derived.Test.YtldlfgaaolehoaaGreatDoorPrC
import Derived.Test.YtldlfgaaolehoaaGreatDoorMgA
namespace Go.Proofs.YtldlfgaaolehoaaGreatDoor
open Go.RowKit

theorem cutN_a (w : World) : Calls Tryz.prog 250 #[.string ⟨#[97]⟩, .string ⟨#[46]⟩] w fun e w' => e = .returned (.tuple #[.string ⟨#[97]⟩, .string ⟨#[]⟩, .bool false]) ∧ Below w.heap.size w w' := by
  have H := lindex_dot ⟨#[97]⟩ (-1) w (by rw [Lib.toList_data]; decide) (by decide)
  go_enter Tryz.func250, Tryz.ntmps250
  go_wp2_with (fail)
  go_enter Tryz.func286, Tryz.ntmps286
  go_wp2_with (go_at_call 295; refine H.mono ?_; rintro e w' ⟨rfl, rfl⟩)
  go_ret3
  exact ⟨rfl, Below.refl _ _⟩
theorem cutN_a_x (w : World) : Calls Tryz.prog 250 #[.string ⟨#[97, 46, 120]⟩, .string ⟨#[46]⟩] w fun e w' => e = .returned (.tuple #[.string ⟨#[97]⟩, .string ⟨#[120]⟩, .bool true]) ∧ Below w.heap.size w w' := by
  have H := lindex_dot ⟨#[97, 46, 120]⟩ (1) w (by rw [Lib.toList_data]; decide) (by decide)
  go_enter Tryz.func250, Tryz.ntmps250
  go_wp2_with (fail)
  go_enter Tryz.func286, Tryz.ntmps286
  go_wp2_with (go_at_call 295; refine H.mono ?_; rintro e w' ⟨rfl, rfl⟩)
  go_quiet (fail)
  go_wp2_with (fail)
  go_ret3
  exact ⟨rfl, below_drewN (Below.refl _ _) _⟩
theorem cutN_x (w : World) : Calls Tryz.prog 250 #[.string ⟨#[120]⟩, .string ⟨#[46]⟩] w fun e w' => e = .returned (.tuple #[.string ⟨#[120]⟩, .string ⟨#[]⟩, .bool false]) ∧ Below w.heap.size w w' := by
  have H := lindex_dot ⟨#[120]⟩ (-1) w (by rw [Lib.toList_data]; decide) (by decide)
  go_enter Tryz.func250, Tryz.ntmps250
  go_wp2_with (fail)
  go_enter Tryz.func286, Tryz.ntmps286
  go_wp2_with (go_at_call 295; refine H.mono ?_; rintro e w' ⟨rfl, rfl⟩)
  go_ret3
  exact ⟨rfl, Below.refl _ _⟩
theorem cutN_a_x_p (w : World) : Calls Tryz.prog 250 #[.string ⟨#[97, 46, 120, 46, 112]⟩, .string ⟨#[46]⟩] w fun e w' => e = .returned (.tuple #[.string ⟨#[97]⟩, .string ⟨#[120, 46, 112]⟩, .bool true]) ∧ Below w.heap.size w w' := by
  have H := lindex_dot ⟨#[97, 46, 120, 46, 112]⟩ (1) w (by rw [Lib.toList_data]; decide) (by decide)
  go_enter Tryz.func250, Tryz.ntmps250
  go_wp2_with (fail)
  go_enter Tryz.func286, Tryz.ntmps286
  go_wp2_with (go_at_call 295; refine H.mono ?_; rintro e w' ⟨rfl, rfl⟩)
  go_quiet (fail)
  go_wp2_with (fail)
  go_ret3
  exact ⟨rfl, below_drewN (Below.refl _ _) _⟩
theorem cutN_x_p (w : World) : Calls Tryz.prog 250 #[.string ⟨#[120, 46, 112]⟩, .string ⟨#[46]⟩] w fun e w' => e = .returned (.tuple #[.string ⟨#[120]⟩, .string ⟨#[112]⟩, .bool true]) ∧ Below w.heap.size w w' := by
  have H := lindex_dot ⟨#[120, 46, 112]⟩ (1) w (by rw [Lib.toList_data]; decide) (by decide)
  go_enter Tryz.func250, Tryz.ntmps250
  go_wp2_with (fail)
  go_enter Tryz.func286, Tryz.ntmps286
  go_wp2_with (go_at_call 295; refine H.mono ?_; rintro e w' ⟨rfl, rfl⟩)
  go_quiet (fail)
  go_wp2_with (fail)
  go_ret3
  exact ⟨rfl, below_drewN (Below.refl _ _) _⟩
theorem cutN_p (w : World) : Calls Tryz.prog 250 #[.string ⟨#[112]⟩, .string ⟨#[46]⟩] w fun e w' => e = .returned (.tuple #[.string ⟨#[112]⟩, .string ⟨#[]⟩, .bool false]) ∧ Below w.heap.size w w' := by
  have H := lindex_dot ⟨#[112]⟩ (-1) w (by rw [Lib.toList_data]; decide) (by decide)
  go_enter Tryz.func250, Tryz.ntmps250
  go_wp2_with (fail)
  go_enter Tryz.func286, Tryz.ntmps286
  go_wp2_with (go_at_call 295; refine H.mono ?_; rintro e w' ⟨rfl, rfl⟩)
  go_ret3
  exact ⟨rfl, Below.refl _ _⟩
theorem cutN_a_y (w : World) : Calls Tryz.prog 250 #[.string ⟨#[97, 46, 121]⟩, .string ⟨#[46]⟩] w fun e w' => e = .returned (.tuple #[.string ⟨#[97]⟩, .string ⟨#[121]⟩, .bool true]) ∧ Below w.heap.size w w' := by
  have H := lindex_dot ⟨#[97, 46, 121]⟩ (1) w (by rw [Lib.toList_data]; decide) (by decide)
  go_enter Tryz.func250, Tryz.ntmps250
  go_wp2_with (fail)
  go_enter Tryz.func286, Tryz.ntmps286
  go_wp2_with (go_at_call 295; refine H.mono ?_; rintro e w' ⟨rfl, rfl⟩)
  go_quiet (fail)
  go_wp2_with (fail)
  go_ret3
  exact ⟨rfl, below_drewN (Below.refl _ _) _⟩
theorem cutN_y (w : World) : Calls Tryz.prog 250 #[.string ⟨#[121]⟩, .string ⟨#[46]⟩] w fun e w' => e = .returned (.tuple #[.string ⟨#[121]⟩, .string ⟨#[]⟩, .bool false]) ∧ Below w.heap.size w w' := by
  have H := lindex_dot ⟨#[121]⟩ (-1) w (by rw [Lib.toList_data]; decide) (by decide)
  go_enter Tryz.func250, Tryz.ntmps250
  go_wp2_with (fail)
  go_enter Tryz.func286, Tryz.ntmps286
  go_wp2_with (go_at_call 295; refine H.mono ?_; rintro e w' ⟨rfl, rfl⟩)
  go_ret3
  exact ⟨rfl, Below.refl _ _⟩
theorem cutN_ab (w : World) : Calls Tryz.prog 250 #[.string ⟨#[97, 98]⟩, .string ⟨#[46]⟩] w fun e w' => e = .returned (.tuple #[.string ⟨#[97, 98]⟩, .string ⟨#[]⟩, .bool false]) ∧ Below w.heap.size w w' := by
  have H := lindex_dot ⟨#[97, 98]⟩ (-1) w (by rw [Lib.toList_data]; decide) (by decide)
  go_enter Tryz.func250, Tryz.ntmps250
  go_wp2_with (fail)
  go_enter Tryz.func286, Tryz.ntmps286
  go_wp2_with (go_at_call 295; refine H.mono ?_; rintro e w' ⟨rfl, rfl⟩)
  go_ret3
  exact ⟨rfl, Below.refl _ _⟩
theorem cutN_b (w : World) : Calls Tryz.prog 250 #[.string ⟨#[98]⟩, .string ⟨#[46]⟩] w fun e w' => e = .returned (.tuple #[.string ⟨#[98]⟩, .string ⟨#[]⟩, .bool false]) ∧ Below w.heap.size w w' := by
  have H := lindex_dot ⟨#[98]⟩ (-1) w (by rw [Lib.toList_data]; decide) (by decide)
  go_enter Tryz.func250, Tryz.ntmps250
  go_wp2_with (fail)
  go_enter Tryz.func286, Tryz.ntmps286
  go_wp2_with (go_at_call 295; refine H.mono ?_; rintro e w' ⟨rfl, rfl⟩)
  go_ret3
  exact ⟨rfl, Below.refl _ _⟩
theorem cutN_b_z (w : World) : Calls Tryz.prog 250 #[.string ⟨#[98, 46, 122]⟩, .string ⟨#[46]⟩] w fun e w' => e = .returned (.tuple #[.string ⟨#[98]⟩, .string ⟨#[122]⟩, .bool true]) ∧ Below w.heap.size w w' := by
  have H := lindex_dot ⟨#[98, 46, 122]⟩ (1) w (by rw [Lib.toList_data]; decide) (by decide)
  go_enter Tryz.func250, Tryz.ntmps250
  go_wp2_with (fail)
  go_enter Tryz.func286, Tryz.ntmps286
  go_wp2_with (go_at_call 295; refine H.mono ?_; rintro e w' ⟨rfl, rfl⟩)
  go_quiet (fail)
  go_wp2_with (fail)
  go_ret3
  exact ⟨rfl, below_drewN (Below.refl _ _) _⟩
theorem cutN_z (w : World) : Calls Tryz.prog 250 #[.string ⟨#[122]⟩, .string ⟨#[46]⟩] w fun e w' => e = .returned (.tuple #[.string ⟨#[122]⟩, .string ⟨#[]⟩, .bool false]) ∧ Below w.heap.size w w' := by
  have H := lindex_dot ⟨#[122]⟩ (-1) w (by rw [Lib.toList_data]; decide) (by decide)
  go_enter Tryz.func250, Tryz.ntmps250
  go_wp2_with (fail)
  go_enter Tryz.func286, Tryz.ntmps286
  go_wp2_with (go_at_call 295; refine H.mono ?_; rintro e w' ⟨rfl, rfl⟩)
  go_ret3
  exact ⟨rfl, Below.refl _ _⟩
theorem dottedN_0 (w : World) : Calls Tryz.prog 191 #[.string ⟨#[97]⟩, .int .i64 8] w fun e w' => e = .returned (.bool true) ∧ Below w.heap.size w w' := by
  go_enter Tryz.func191, Tryz.ntmps191
  go_wp2_with (fail)
  refine wp_loop_rounds 1 ?_
  rw [rounds_succ]
  go_wp2_with (fail)
  refine (cutN_a _).mono ?_
  rintro e w1 ⟨rfl, hb1⟩
  have hs1 := hb1.size
  have HB1 := Lib.hid (hb1)
  clear hb1
  go_wp2_with (go_at_call 135; refine (key_yes _ _ (by kernel_rfl)).mono ?_; rintro e w' ⟨rfl, rfl⟩)
  go_ret
  exact ⟨rfl, HB1.out⟩
theorem dottedN_1 (w : World) : Calls Tryz.prog 191 #[.string ⟨#[97, 46, 120]⟩, .int .i64 8] w fun e w' => e = .returned (.bool true) ∧ Below w.heap.size w w' := by
  go_enter Tryz.func191, Tryz.ntmps191
  go_wp2_with (fail)
  refine wp_loop_rounds 2 ?_
  rw [rounds_succ]
  go_wp2_with (fail)
  refine (cutN_a_x _).mono ?_
  rintro e w1 ⟨rfl, hb1⟩
  have hs1 := hb1.size
  have HB1 := Lib.hid (hb1)
  clear hb1
  go_wp2_with (go_at_call 135; refine (key_yes _ _ (by kernel_rfl)).mono ?_; rintro e w' ⟨rfl, rfl⟩)
  rw [rounds_succ]
  go_wp2_with (fail)
  refine (cutN_x _).mono ?_
  rintro e w2 ⟨rfl, hb2⟩
  have hs2 := hb2.size
  have HB2 := Lib.hid (HB1.out.trans (hb2.mono hs1))
  clear hb2
  have hs2 := HB2.out.size
  go_wp2_with (go_at_call 135; refine (key_yes _ _ (by kernel_rfl)).mono ?_; rintro e w' ⟨rfl, rfl⟩)
  go_ret
  exact ⟨rfl, HB2.out⟩
theorem dottedN_2 (w : World) : Calls Tryz.prog 191 #[.string ⟨#[97, 46, 120, 46, 112]⟩, .int .i64 8] w fun e w' => e = .returned (.bool true) ∧ Below w.heap.size w w' := by
  go_enter Tryz.func191, Tryz.ntmps191
  go_wp2_with (fail)
  refine wp_loop_rounds 3 ?_
  rw [rounds_succ]
  go_wp2_with (fail)
  refine (cutN_a_x_p _).mono ?_
  rintro e w1 ⟨rfl, hb1⟩
  have hs1 := hb1.size
  have HB1 := Lib.hid (hb1)
  clear hb1
  go_wp2_with (go_at_call 135; refine (key_yes _ _ (by kernel_rfl)).mono ?_; rintro e w' ⟨rfl, rfl⟩)
  rw [rounds_succ]
  go_wp2_with (fail)
  refine (cutN_x_p _).mono ?_
  rintro e w2 ⟨rfl, hb2⟩
  have hs2 := hb2.size
  have HB2 := Lib.hid (HB1.out.trans (hb2.mono hs1))
  clear hb2
  have hs2 := HB2.out.size
  go_wp2_with (go_at_call 135; refine (key_yes _ _ (by kernel_rfl)).mono ?_; rintro e w' ⟨rfl, rfl⟩)
  rw [rounds_succ]
  go_wp2_with (fail)
  refine (cutN_p _).mono ?_
  rintro e w3 ⟨rfl, hb3⟩
  have hs3 := hb3.size
  have HB3 := Lib.hid (HB2.out.trans (hb3.mono hs2))
  clear hb3
  have hs3 := HB3.out.size
  go_wp2_with (go_at_call 135; refine (key_yes _ _ (by kernel_rfl)).mono ?_; rintro e w' ⟨rfl, rfl⟩)
  go_ret
  exact ⟨rfl, HB3.out⟩
theorem dottedN_3 (w : World) : Calls Tryz.prog 191 #[.string ⟨#[97, 46, 121]⟩, .int .i64 8] w fun e w' => e = .returned (.bool true) ∧ Below w.heap.size w w' := by
  go_enter Tryz.func191, Tryz.ntmps191
  go_wp2_with (fail)
  refine wp_loop_rounds 2 ?_
  rw [rounds_succ]
  go_wp2_with (fail)
  refine (cutN_a_y _).mono ?_
  rintro e w1 ⟨rfl, hb1⟩
  have hs1 := hb1.size
  have HB1 := Lib.hid (hb1)
  clear hb1
  go_wp2_with (go_at_call 135; refine (key_yes _ _ (by kernel_rfl)).mono ?_; rintro e w' ⟨rfl, rfl⟩)
  rw [rounds_succ]
  go_wp2_with (fail)
  refine (cutN_y _).mono ?_
  rintro e w2 ⟨rfl, hb2⟩
  have hs2 := hb2.size
  have HB2 := Lib.hid (HB1.out.trans (hb2.mono hs1))
  clear hb2
  have hs2 := HB2.out.size
  go_wp2_with (go_at_call 135; refine (key_yes _ _ (by kernel_rfl)).mono ?_; rintro e w' ⟨rfl, rfl⟩)
  go_ret
  exact ⟨rfl, HB2.out⟩
theorem dottedN_4 (w : World) : Calls Tryz.prog 191 #[.string ⟨#[97, 98]⟩, .int .i64 8] w fun e w' => e = .returned (.bool true) ∧ Below w.heap.size w w' := by
  go_enter Tryz.func191, Tryz.ntmps191
  go_wp2_with (fail)
  refine wp_loop_rounds 1 ?_
  rw [rounds_succ]
  go_wp2_with (fail)
  refine (cutN_ab _).mono ?_
  rintro e w1 ⟨rfl, hb1⟩
  have hs1 := hb1.size
  have HB1 := Lib.hid (hb1)
  clear hb1
  go_wp2_with (go_at_call 135; refine (key_yes _ _ (by kernel_rfl)).mono ?_; rintro e w' ⟨rfl, rfl⟩)
  go_ret
  exact ⟨rfl, HB1.out⟩
theorem dottedN_5 (w : World) : Calls Tryz.prog 191 #[.string ⟨#[98]⟩, .int .i64 8] w fun e w' => e = .returned (.bool true) ∧ Below w.heap.size w w' := by
  go_enter Tryz.func191, Tryz.ntmps191
  go_wp2_with (fail)
  refine wp_loop_rounds 1 ?_
  rw [rounds_succ]
  go_wp2_with (fail)
  refine (cutN_b _).mono ?_
  rintro e w1 ⟨rfl, hb1⟩
  have hs1 := hb1.size
  have HB1 := Lib.hid (hb1)
  clear hb1
  go_wp2_with (go_at_call 135; refine (key_yes _ _ (by kernel_rfl)).mono ?_; rintro e w' ⟨rfl, rfl⟩)
  go_ret
  exact ⟨rfl, HB1.out⟩
theorem dottedN_6 (w : World) : Calls Tryz.prog 191 #[.string ⟨#[98, 46, 122]⟩, .int .i64 8] w fun e w' => e = .returned (.bool true) ∧ Below w.heap.size w w' := by
  go_enter Tryz.func191, Tryz.ntmps191
  go_wp2_with (fail)
  refine wp_loop_rounds 2 ?_
  rw [rounds_succ]
  go_wp2_with (fail)
  refine (cutN_b_z _).mono ?_
  rintro e w1 ⟨rfl, hb1⟩
  have hs1 := hb1.size
  have HB1 := Lib.hid (hb1)
  clear hb1
  go_wp2_with (go_at_call 135; refine (key_yes _ _ (by kernel_rfl)).mono ?_; rintro e w' ⟨rfl, rfl⟩)
  rw [rounds_succ]
  go_wp2_with (fail)
  refine (cutN_z _).mono ?_
  rintro e w2 ⟨rfl, hb2⟩
  have hs2 := hb2.size
  have HB2 := Lib.hid (HB1.out.trans (hb2.mono hs1))
  clear hb2
  have hs2 := HB2.out.size
  go_wp2_with (go_at_call 135; refine (key_yes _ _ (by kernel_rfl)).mono ?_; rintro e w' ⟨rfl, rfl⟩)
  go_ret
  exact ⟨rfl, HB2.out⟩
theorem dotted_nm (j : Nat) (w : World) : Calls Tryz.prog 191 #[.string (nm j), .int .i64 8] w fun e w' => e = .returned (.bool true) ∧ Below w.heap.size w w' := by
  match j with
  | 0 => exact dottedN_0 w
  | 1 => exact dottedN_1 w
  | 2 => exact dottedN_2 w
  | 3 => exact dottedN_3 w
  | 4 => exact dottedN_4 w
  | 5 => exact dottedN_5 w
  | _ + 6 => exact dottedN_6 w
theorem isName_nm (j : Nat) (w : World) : Calls Tryz.prog 121 #[.string (nm j)] w fun e w' => e = .returned (.bool true) ∧ Below w.heap.size w w' := by
  go_enter Tryz.func121, Tryz.ntmps121
  go_wp2_with (fail)
  refine (dotted_nm _ _).mono ?_
  rintro e w1 ⟨rfl, hb⟩
  have HB := Lib.hid hb
  clear hb
  go_wp2_with (fail)
  go_ret
  exact ⟨rfl, HB.out⟩
end Go.Proofs.YtldlfgaaolehoaaGreatDoor
