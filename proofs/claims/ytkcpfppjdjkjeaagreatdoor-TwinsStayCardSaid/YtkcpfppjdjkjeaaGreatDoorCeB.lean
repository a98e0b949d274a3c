/- base.Below at the seven names. Printed by gen_CeB.py. -/
import Derived.Test.YtkcpfppjdjkjeaaGreatDoorMgD
namespace Go.Proofs.YtkcpfppjdjkjeaaGreatDoor
open Go.RowKit

theorem below_0_0 (w : World) : Calls Tryz.prog 37 #[.string ⟨#[97]⟩, .string ⟨#[97]⟩] w fun e w' => e = .returned (.bool false) ∧ w = w' := by
  go_enter Tryz.func37, Tryz.ntmps37
  go_wp2_with (fail)
  go_ret
  first | exact ⟨rfl, rfl⟩ | exact ⟨by simp only [Lib.toList_data]; rfl, rfl⟩
theorem below_0_1 (w : World) : Calls Tryz.prog 37 #[.string ⟨#[97]⟩, .string ⟨#[97, 46, 120]⟩] w fun e w' => e = .returned (.bool false) ∧ w = w' := by
  go_enter Tryz.func37, Tryz.ntmps37
  go_wp2_with (fail)
  go_ret
  first | exact ⟨rfl, rfl⟩ | exact ⟨by simp only [Lib.toList_data]; rfl, rfl⟩
theorem below_0_2 (w : World) : Calls Tryz.prog 37 #[.string ⟨#[97]⟩, .string ⟨#[97, 46, 120, 46, 112]⟩] w fun e w' => e = .returned (.bool false) ∧ w = w' := by
  go_enter Tryz.func37, Tryz.ntmps37
  go_wp2_with (fail)
  go_ret
  first | exact ⟨rfl, rfl⟩ | exact ⟨by simp only [Lib.toList_data]; rfl, rfl⟩
theorem below_0_3 (w : World) : Calls Tryz.prog 37 #[.string ⟨#[97]⟩, .string ⟨#[97, 46, 121]⟩] w fun e w' => e = .returned (.bool false) ∧ w = w' := by
  go_enter Tryz.func37, Tryz.ntmps37
  go_wp2_with (fail)
  go_ret
  first | exact ⟨rfl, rfl⟩ | exact ⟨by simp only [Lib.toList_data]; rfl, rfl⟩
theorem below_0_4 (w : World) : Calls Tryz.prog 37 #[.string ⟨#[97]⟩, .string ⟨#[97, 98]⟩] w fun e w' => e = .returned (.bool false) ∧ w = w' := by
  go_enter Tryz.func37, Tryz.ntmps37
  go_wp2_with (fail)
  go_ret
  first | exact ⟨rfl, rfl⟩ | exact ⟨by simp only [Lib.toList_data]; rfl, rfl⟩
theorem below_0_5 (w : World) : Calls Tryz.prog 37 #[.string ⟨#[97]⟩, .string ⟨#[98]⟩] w fun e w' => e = .returned (.bool false) ∧ w = w' := by
  go_enter Tryz.func37, Tryz.ntmps37
  go_wp2_with (fail)
  go_ret
  first | exact ⟨rfl, rfl⟩ | exact ⟨by simp only [Lib.toList_data]; rfl, rfl⟩
theorem below_0_6 (w : World) : Calls Tryz.prog 37 #[.string ⟨#[97]⟩, .string ⟨#[98, 46, 122]⟩] w fun e w' => e = .returned (.bool false) ∧ w = w' := by
  go_enter Tryz.func37, Tryz.ntmps37
  go_wp2_with (fail)
  go_ret
  first | exact ⟨rfl, rfl⟩ | exact ⟨by simp only [Lib.toList_data]; rfl, rfl⟩
theorem below_1_0 (w : World) : Calls Tryz.prog 37 #[.string ⟨#[97, 46, 120]⟩, .string ⟨#[97]⟩] w fun e w' => e = .returned (.bool true) ∧ w = w' := by
  go_enter Tryz.func37, Tryz.ntmps37
  go_wp2_with (fail)
  go_ret
  first | exact ⟨rfl, rfl⟩ | exact ⟨by simp only [Lib.toList_data]; rfl, rfl⟩
theorem below_1_1 (w : World) : Calls Tryz.prog 37 #[.string ⟨#[97, 46, 120]⟩, .string ⟨#[97, 46, 120]⟩] w fun e w' => e = .returned (.bool false) ∧ w = w' := by
  go_enter Tryz.func37, Tryz.ntmps37
  go_wp2_with (fail)
  go_ret
  first | exact ⟨rfl, rfl⟩ | exact ⟨by simp only [Lib.toList_data]; rfl, rfl⟩
theorem below_1_2 (w : World) : Calls Tryz.prog 37 #[.string ⟨#[97, 46, 120]⟩, .string ⟨#[97, 46, 120, 46, 112]⟩] w fun e w' => e = .returned (.bool false) ∧ w = w' := by
  go_enter Tryz.func37, Tryz.ntmps37
  go_wp2_with (fail)
  go_ret
  first | exact ⟨rfl, rfl⟩ | exact ⟨by simp only [Lib.toList_data]; rfl, rfl⟩
theorem below_1_3 (w : World) : Calls Tryz.prog 37 #[.string ⟨#[97, 46, 120]⟩, .string ⟨#[97, 46, 121]⟩] w fun e w' => e = .returned (.bool false) ∧ w = w' := by
  go_enter Tryz.func37, Tryz.ntmps37
  go_wp2_with (fail)
  go_ret
  first | exact ⟨rfl, rfl⟩ | exact ⟨by simp only [Lib.toList_data]; rfl, rfl⟩
theorem below_1_4 (w : World) : Calls Tryz.prog 37 #[.string ⟨#[97, 46, 120]⟩, .string ⟨#[97, 98]⟩] w fun e w' => e = .returned (.bool false) ∧ w = w' := by
  go_enter Tryz.func37, Tryz.ntmps37
  go_wp2_with (fail)
  go_ret
  first | exact ⟨rfl, rfl⟩ | exact ⟨by simp only [Lib.toList_data]; rfl, rfl⟩
theorem below_1_5 (w : World) : Calls Tryz.prog 37 #[.string ⟨#[97, 46, 120]⟩, .string ⟨#[98]⟩] w fun e w' => e = .returned (.bool false) ∧ w = w' := by
  go_enter Tryz.func37, Tryz.ntmps37
  go_wp2_with (fail)
  go_ret
  first | exact ⟨rfl, rfl⟩ | exact ⟨by simp only [Lib.toList_data]; rfl, rfl⟩
theorem below_1_6 (w : World) : Calls Tryz.prog 37 #[.string ⟨#[97, 46, 120]⟩, .string ⟨#[98, 46, 122]⟩] w fun e w' => e = .returned (.bool false) ∧ w = w' := by
  go_enter Tryz.func37, Tryz.ntmps37
  go_wp2_with (fail)
  go_ret
  first | exact ⟨rfl, rfl⟩ | exact ⟨by simp only [Lib.toList_data]; rfl, rfl⟩
theorem below_2_0 (w : World) : Calls Tryz.prog 37 #[.string ⟨#[97, 46, 120, 46, 112]⟩, .string ⟨#[97]⟩] w fun e w' => e = .returned (.bool true) ∧ w = w' := by
  go_enter Tryz.func37, Tryz.ntmps37
  go_wp2_with (fail)
  go_ret
  first | exact ⟨rfl, rfl⟩ | exact ⟨by simp only [Lib.toList_data]; rfl, rfl⟩
theorem below_2_1 (w : World) : Calls Tryz.prog 37 #[.string ⟨#[97, 46, 120, 46, 112]⟩, .string ⟨#[97, 46, 120]⟩] w fun e w' => e = .returned (.bool true) ∧ w = w' := by
  go_enter Tryz.func37, Tryz.ntmps37
  go_wp2_with (fail)
  go_ret
  first | exact ⟨rfl, rfl⟩ | exact ⟨by simp only [Lib.toList_data]; rfl, rfl⟩
theorem below_2_2 (w : World) : Calls Tryz.prog 37 #[.string ⟨#[97, 46, 120, 46, 112]⟩, .string ⟨#[97, 46, 120, 46, 112]⟩] w fun e w' => e = .returned (.bool false) ∧ w = w' := by
  go_enter Tryz.func37, Tryz.ntmps37
  go_wp2_with (fail)
  go_ret
  first | exact ⟨rfl, rfl⟩ | exact ⟨by simp only [Lib.toList_data]; rfl, rfl⟩
theorem below_2_3 (w : World) : Calls Tryz.prog 37 #[.string ⟨#[97, 46, 120, 46, 112]⟩, .string ⟨#[97, 46, 121]⟩] w fun e w' => e = .returned (.bool false) ∧ w = w' := by
  go_enter Tryz.func37, Tryz.ntmps37
  go_wp2_with (fail)
  go_ret
  first | exact ⟨rfl, rfl⟩ | exact ⟨by simp only [Lib.toList_data]; rfl, rfl⟩
theorem below_2_4 (w : World) : Calls Tryz.prog 37 #[.string ⟨#[97, 46, 120, 46, 112]⟩, .string ⟨#[97, 98]⟩] w fun e w' => e = .returned (.bool false) ∧ w = w' := by
  go_enter Tryz.func37, Tryz.ntmps37
  go_wp2_with (fail)
  go_ret
  first | exact ⟨rfl, rfl⟩ | exact ⟨by simp only [Lib.toList_data]; rfl, rfl⟩
theorem below_2_5 (w : World) : Calls Tryz.prog 37 #[.string ⟨#[97, 46, 120, 46, 112]⟩, .string ⟨#[98]⟩] w fun e w' => e = .returned (.bool false) ∧ w = w' := by
  go_enter Tryz.func37, Tryz.ntmps37
  go_wp2_with (fail)
  go_ret
  first | exact ⟨rfl, rfl⟩ | exact ⟨by simp only [Lib.toList_data]; rfl, rfl⟩
theorem below_2_6 (w : World) : Calls Tryz.prog 37 #[.string ⟨#[97, 46, 120, 46, 112]⟩, .string ⟨#[98, 46, 122]⟩] w fun e w' => e = .returned (.bool false) ∧ w = w' := by
  go_enter Tryz.func37, Tryz.ntmps37
  go_wp2_with (fail)
  go_ret
  first | exact ⟨rfl, rfl⟩ | exact ⟨by simp only [Lib.toList_data]; rfl, rfl⟩
theorem below_3_0 (w : World) : Calls Tryz.prog 37 #[.string ⟨#[97, 46, 121]⟩, .string ⟨#[97]⟩] w fun e w' => e = .returned (.bool true) ∧ w = w' := by
  go_enter Tryz.func37, Tryz.ntmps37
  go_wp2_with (fail)
  go_ret
  first | exact ⟨rfl, rfl⟩ | exact ⟨by simp only [Lib.toList_data]; rfl, rfl⟩
theorem below_3_1 (w : World) : Calls Tryz.prog 37 #[.string ⟨#[97, 46, 121]⟩, .string ⟨#[97, 46, 120]⟩] w fun e w' => e = .returned (.bool false) ∧ w = w' := by
  go_enter Tryz.func37, Tryz.ntmps37
  go_wp2_with (fail)
  go_ret
  first | exact ⟨rfl, rfl⟩ | exact ⟨by simp only [Lib.toList_data]; rfl, rfl⟩
theorem below_3_2 (w : World) : Calls Tryz.prog 37 #[.string ⟨#[97, 46, 121]⟩, .string ⟨#[97, 46, 120, 46, 112]⟩] w fun e w' => e = .returned (.bool false) ∧ w = w' := by
  go_enter Tryz.func37, Tryz.ntmps37
  go_wp2_with (fail)
  go_ret
  first | exact ⟨rfl, rfl⟩ | exact ⟨by simp only [Lib.toList_data]; rfl, rfl⟩
theorem below_3_3 (w : World) : Calls Tryz.prog 37 #[.string ⟨#[97, 46, 121]⟩, .string ⟨#[97, 46, 121]⟩] w fun e w' => e = .returned (.bool false) ∧ w = w' := by
  go_enter Tryz.func37, Tryz.ntmps37
  go_wp2_with (fail)
  go_ret
  first | exact ⟨rfl, rfl⟩ | exact ⟨by simp only [Lib.toList_data]; rfl, rfl⟩
theorem below_3_4 (w : World) : Calls Tryz.prog 37 #[.string ⟨#[97, 46, 121]⟩, .string ⟨#[97, 98]⟩] w fun e w' => e = .returned (.bool false) ∧ w = w' := by
  go_enter Tryz.func37, Tryz.ntmps37
  go_wp2_with (fail)
  go_ret
  first | exact ⟨rfl, rfl⟩ | exact ⟨by simp only [Lib.toList_data]; rfl, rfl⟩
theorem below_3_5 (w : World) : Calls Tryz.prog 37 #[.string ⟨#[97, 46, 121]⟩, .string ⟨#[98]⟩] w fun e w' => e = .returned (.bool false) ∧ w = w' := by
  go_enter Tryz.func37, Tryz.ntmps37
  go_wp2_with (fail)
  go_ret
  first | exact ⟨rfl, rfl⟩ | exact ⟨by simp only [Lib.toList_data]; rfl, rfl⟩
theorem below_3_6 (w : World) : Calls Tryz.prog 37 #[.string ⟨#[97, 46, 121]⟩, .string ⟨#[98, 46, 122]⟩] w fun e w' => e = .returned (.bool false) ∧ w = w' := by
  go_enter Tryz.func37, Tryz.ntmps37
  go_wp2_with (fail)
  go_ret
  first | exact ⟨rfl, rfl⟩ | exact ⟨by simp only [Lib.toList_data]; rfl, rfl⟩
theorem below_4_0 (w : World) : Calls Tryz.prog 37 #[.string ⟨#[97, 98]⟩, .string ⟨#[97]⟩] w fun e w' => e = .returned (.bool false) ∧ w = w' := by
  go_enter Tryz.func37, Tryz.ntmps37
  go_wp2_with (fail)
  go_ret
  first | exact ⟨rfl, rfl⟩ | exact ⟨by simp only [Lib.toList_data]; rfl, rfl⟩
theorem below_4_1 (w : World) : Calls Tryz.prog 37 #[.string ⟨#[97, 98]⟩, .string ⟨#[97, 46, 120]⟩] w fun e w' => e = .returned (.bool false) ∧ w = w' := by
  go_enter Tryz.func37, Tryz.ntmps37
  go_wp2_with (fail)
  go_ret
  first | exact ⟨rfl, rfl⟩ | exact ⟨by simp only [Lib.toList_data]; rfl, rfl⟩
theorem below_4_2 (w : World) : Calls Tryz.prog 37 #[.string ⟨#[97, 98]⟩, .string ⟨#[97, 46, 120, 46, 112]⟩] w fun e w' => e = .returned (.bool false) ∧ w = w' := by
  go_enter Tryz.func37, Tryz.ntmps37
  go_wp2_with (fail)
  go_ret
  first | exact ⟨rfl, rfl⟩ | exact ⟨by simp only [Lib.toList_data]; rfl, rfl⟩
theorem below_4_3 (w : World) : Calls Tryz.prog 37 #[.string ⟨#[97, 98]⟩, .string ⟨#[97, 46, 121]⟩] w fun e w' => e = .returned (.bool false) ∧ w = w' := by
  go_enter Tryz.func37, Tryz.ntmps37
  go_wp2_with (fail)
  go_ret
  first | exact ⟨rfl, rfl⟩ | exact ⟨by simp only [Lib.toList_data]; rfl, rfl⟩
theorem below_4_4 (w : World) : Calls Tryz.prog 37 #[.string ⟨#[97, 98]⟩, .string ⟨#[97, 98]⟩] w fun e w' => e = .returned (.bool false) ∧ w = w' := by
  go_enter Tryz.func37, Tryz.ntmps37
  go_wp2_with (fail)
  go_ret
  first | exact ⟨rfl, rfl⟩ | exact ⟨by simp only [Lib.toList_data]; rfl, rfl⟩
theorem below_4_5 (w : World) : Calls Tryz.prog 37 #[.string ⟨#[97, 98]⟩, .string ⟨#[98]⟩] w fun e w' => e = .returned (.bool false) ∧ w = w' := by
  go_enter Tryz.func37, Tryz.ntmps37
  go_wp2_with (fail)
  go_ret
  first | exact ⟨rfl, rfl⟩ | exact ⟨by simp only [Lib.toList_data]; rfl, rfl⟩
theorem below_4_6 (w : World) : Calls Tryz.prog 37 #[.string ⟨#[97, 98]⟩, .string ⟨#[98, 46, 122]⟩] w fun e w' => e = .returned (.bool false) ∧ w = w' := by
  go_enter Tryz.func37, Tryz.ntmps37
  go_wp2_with (fail)
  go_ret
  first | exact ⟨rfl, rfl⟩ | exact ⟨by simp only [Lib.toList_data]; rfl, rfl⟩
theorem below_5_0 (w : World) : Calls Tryz.prog 37 #[.string ⟨#[98]⟩, .string ⟨#[97]⟩] w fun e w' => e = .returned (.bool false) ∧ w = w' := by
  go_enter Tryz.func37, Tryz.ntmps37
  go_wp2_with (fail)
  go_ret
  first | exact ⟨rfl, rfl⟩ | exact ⟨by simp only [Lib.toList_data]; rfl, rfl⟩
theorem below_5_1 (w : World) : Calls Tryz.prog 37 #[.string ⟨#[98]⟩, .string ⟨#[97, 46, 120]⟩] w fun e w' => e = .returned (.bool false) ∧ w = w' := by
  go_enter Tryz.func37, Tryz.ntmps37
  go_wp2_with (fail)
  go_ret
  first | exact ⟨rfl, rfl⟩ | exact ⟨by simp only [Lib.toList_data]; rfl, rfl⟩
theorem below_5_2 (w : World) : Calls Tryz.prog 37 #[.string ⟨#[98]⟩, .string ⟨#[97, 46, 120, 46, 112]⟩] w fun e w' => e = .returned (.bool false) ∧ w = w' := by
  go_enter Tryz.func37, Tryz.ntmps37
  go_wp2_with (fail)
  go_ret
  first | exact ⟨rfl, rfl⟩ | exact ⟨by simp only [Lib.toList_data]; rfl, rfl⟩
theorem below_5_3 (w : World) : Calls Tryz.prog 37 #[.string ⟨#[98]⟩, .string ⟨#[97, 46, 121]⟩] w fun e w' => e = .returned (.bool false) ∧ w = w' := by
  go_enter Tryz.func37, Tryz.ntmps37
  go_wp2_with (fail)
  go_ret
  first | exact ⟨rfl, rfl⟩ | exact ⟨by simp only [Lib.toList_data]; rfl, rfl⟩
theorem below_5_4 (w : World) : Calls Tryz.prog 37 #[.string ⟨#[98]⟩, .string ⟨#[97, 98]⟩] w fun e w' => e = .returned (.bool false) ∧ w = w' := by
  go_enter Tryz.func37, Tryz.ntmps37
  go_wp2_with (fail)
  go_ret
  first | exact ⟨rfl, rfl⟩ | exact ⟨by simp only [Lib.toList_data]; rfl, rfl⟩
theorem below_5_5 (w : World) : Calls Tryz.prog 37 #[.string ⟨#[98]⟩, .string ⟨#[98]⟩] w fun e w' => e = .returned (.bool false) ∧ w = w' := by
  go_enter Tryz.func37, Tryz.ntmps37
  go_wp2_with (fail)
  go_ret
  first | exact ⟨rfl, rfl⟩ | exact ⟨by simp only [Lib.toList_data]; rfl, rfl⟩
theorem below_5_6 (w : World) : Calls Tryz.prog 37 #[.string ⟨#[98]⟩, .string ⟨#[98, 46, 122]⟩] w fun e w' => e = .returned (.bool false) ∧ w = w' := by
  go_enter Tryz.func37, Tryz.ntmps37
  go_wp2_with (fail)
  go_ret
  first | exact ⟨rfl, rfl⟩ | exact ⟨by simp only [Lib.toList_data]; rfl, rfl⟩
theorem below_6_0 (w : World) : Calls Tryz.prog 37 #[.string ⟨#[98, 46, 122]⟩, .string ⟨#[97]⟩] w fun e w' => e = .returned (.bool false) ∧ w = w' := by
  go_enter Tryz.func37, Tryz.ntmps37
  go_wp2_with (fail)
  go_ret
  first | exact ⟨rfl, rfl⟩ | exact ⟨by simp only [Lib.toList_data]; rfl, rfl⟩
theorem below_6_1 (w : World) : Calls Tryz.prog 37 #[.string ⟨#[98, 46, 122]⟩, .string ⟨#[97, 46, 120]⟩] w fun e w' => e = .returned (.bool false) ∧ w = w' := by
  go_enter Tryz.func37, Tryz.ntmps37
  go_wp2_with (fail)
  go_ret
  first | exact ⟨rfl, rfl⟩ | exact ⟨by simp only [Lib.toList_data]; rfl, rfl⟩
theorem below_6_2 (w : World) : Calls Tryz.prog 37 #[.string ⟨#[98, 46, 122]⟩, .string ⟨#[97, 46, 120, 46, 112]⟩] w fun e w' => e = .returned (.bool false) ∧ w = w' := by
  go_enter Tryz.func37, Tryz.ntmps37
  go_wp2_with (fail)
  go_ret
  first | exact ⟨rfl, rfl⟩ | exact ⟨by simp only [Lib.toList_data]; rfl, rfl⟩
theorem below_6_3 (w : World) : Calls Tryz.prog 37 #[.string ⟨#[98, 46, 122]⟩, .string ⟨#[97, 46, 121]⟩] w fun e w' => e = .returned (.bool false) ∧ w = w' := by
  go_enter Tryz.func37, Tryz.ntmps37
  go_wp2_with (fail)
  go_ret
  first | exact ⟨rfl, rfl⟩ | exact ⟨by simp only [Lib.toList_data]; rfl, rfl⟩
theorem below_6_4 (w : World) : Calls Tryz.prog 37 #[.string ⟨#[98, 46, 122]⟩, .string ⟨#[97, 98]⟩] w fun e w' => e = .returned (.bool false) ∧ w = w' := by
  go_enter Tryz.func37, Tryz.ntmps37
  go_wp2_with (fail)
  go_ret
  first | exact ⟨rfl, rfl⟩ | exact ⟨by simp only [Lib.toList_data]; rfl, rfl⟩
theorem below_6_5 (w : World) : Calls Tryz.prog 37 #[.string ⟨#[98, 46, 122]⟩, .string ⟨#[98]⟩] w fun e w' => e = .returned (.bool true) ∧ w = w' := by
  go_enter Tryz.func37, Tryz.ntmps37
  go_wp2_with (fail)
  go_ret
  first | exact ⟨rfl, rfl⟩ | exact ⟨by simp only [Lib.toList_data]; rfl, rfl⟩
theorem below_6_6 (w : World) : Calls Tryz.prog 37 #[.string ⟨#[98, 46, 122]⟩, .string ⟨#[98, 46, 122]⟩] w fun e w' => e = .returned (.bool false) ∧ w = w' := by
  go_enter Tryz.func37, Tryz.ntmps37
  go_wp2_with (fail)
  go_ret
  first | exact ⟨rfl, rfl⟩ | exact ⟨by simp only [Lib.toList_data]; rfl, rfl⟩
theorem belowF_any (i j : Nat) (hi : i < 7) (hj : j < 7) (w : World) : Calls Tryz.prog 37 #[.string (nm i), .string (nm j)] w fun e w' => e = .returned (.bool (blN i j)) ∧ w = w' := by
  have h1 : i = 0 ∨ i = 1 ∨ i = 2 ∨ i = 3 ∨ i = 4 ∨ i = 5 ∨ i = 6 := by omega
  have h2 : j = 0 ∨ j = 1 ∨ j = 2 ∨ j = 3 ∨ j = 4 ∨ j = 5 ∨ j = 6 := by omega
  rcases h1 with h | h | h | h | h | h | h <;> subst h <;> rcases h2 with h | h | h | h | h | h | h <;> subst h
  · exact below_0_0 w
  · exact below_0_1 w
  · exact below_0_2 w
  · exact below_0_3 w
  · exact below_0_4 w
  · exact below_0_5 w
  · exact below_0_6 w
  · exact below_1_0 w
  · exact below_1_1 w
  · exact below_1_2 w
  · exact below_1_3 w
  · exact below_1_4 w
  · exact below_1_5 w
  · exact below_1_6 w
  · exact below_2_0 w
  · exact below_2_1 w
  · exact below_2_2 w
  · exact below_2_3 w
  · exact below_2_4 w
  · exact below_2_5 w
  · exact below_2_6 w
  · exact below_3_0 w
  · exact below_3_1 w
  · exact below_3_2 w
  · exact below_3_3 w
  · exact below_3_4 w
  · exact below_3_5 w
  · exact below_3_6 w
  · exact below_4_0 w
  · exact below_4_1 w
  · exact below_4_2 w
  · exact below_4_3 w
  · exact below_4_4 w
  · exact below_4_5 w
  · exact below_4_6 w
  · exact below_5_0 w
  · exact below_5_1 w
  · exact below_5_2 w
  · exact below_5_3 w
  · exact below_5_4 w
  · exact below_5_5 w
  · exact below_5_6 w
  · exact below_6_0 w
  · exact below_6_1 w
  · exact below_6_2 w
  · exact below_6_3 w
  · exact below_6_4 w
  · exact below_6_5 w
  · exact below_6_6 w
end Go.Proofs.YtkcpfppjdjkjeaaGreatDoor
