/- base.First and fleetkeep2.errs without an error; strings.Cut, base.Dotted at a name of one letter; twin.valueFault at a flag. -/
import Derived.Test.YtbimiojoihfnkaaGreatDoorVers
namespace Go.Proofs.YtbimiojoihfnkaaGreatDoor
open Go.RowKit

theorem first_ok (n c g : Nat) (w : World) (hn : n ≤ 1000) (hc : Cells w g 0 (List.replicate n (.int .i64 0))) :
    Calls Tryz.prog 88 #[.slice (some ⟨g, 0, none⟩) n c] w fun e w' => e = .returned (.int .i64 0) ∧ w = w' := by
  have HC := Lib.hid hc
  clear hc
  go_enter Tryz.func88, Tryz.ntmps88
  go_wp2
  go_loop [7] (fun i => ∃ k : Nat, k ≤ n ∧ i = .int .i64 k) (fun i => n - (intOf i).toNat)
  case atStart => exact ⟨0, Nat.zero_le _, rfl⟩
  case round =>
    obtain ⟨k, hk, rfl⟩ := hrel
    by_cases hlt : k < n
    · have hcell := HC.out k (.int .i64 0) (by simp [hlt])
      simp only [Nat.zero_add] at hcell
      go_wp2
      go_round
      case rel => exact ⟨k + 1, by omega, by go_num⟩
      case measure => simp [intOf]; omega
    · go_wp2
      go_ret
      exact ⟨rfl, rfl⟩
theorem errs_ok (n c g : Nat) (w : World) (hn : n ≤ 1000) (hc : Cells w g 0 (List.replicate n (.int .i64 0))) :
    Calls Tryz.prog 24 #[.slice (some ⟨g, 0, none⟩) n c] w fun e w' => e = .returned (.int .i64 0) ∧ w = w' := by
  have HC := Lib.hid hc
  clear hc
  go_enter Tryz.func24, Tryz.ntmps24
  go_wp2
  go_loop [7] (fun i => ∃ k : Nat, k ≤ n ∧ i = .int .i64 k) (fun i => n - (intOf i).toNat)
  case atStart => exact ⟨0, Nat.zero_le _, rfl⟩
  case round =>
    obtain ⟨k, hk, rfl⟩ := hrel
    by_cases hlt : k < n
    · have hcell := HC.out k (.int .i64 0) (by simp [hlt])
      simp only [Nat.zero_add] at hcell
      go_wp2
      go_round
      case rel => exact ⟨k + 1, by omega, by go_num⟩
      case measure => simp [intOf]; omega
    · go_wp2
      go_ret
      exact ⟨rfl, rfl⟩

theorem lindex_dot (s : ByteArray) (i : Int) (w : World) (hne : ([46] == s.toList) = false) (hi : Lib.indexByte s.data.toList 46 = i) :
    Calls Tryz.prog 305 #[.string s, .string ⟨#[46]⟩] w fun e w' => e = .returned (.int .i64 i) ∧ w = w' := by
  have H := Lib.hid hi
  clear hi
  go_enter Tryz.func305, Tryz.ntmps305
  go_wp2_with (go_at_call 328; refine (lindexByte_any _ _ _).mono ?_; rintro e w' ⟨rfl, rfl⟩)
  go_ret
  exact ⟨ret_int H.out, rfl⟩
/-- Cut of the name a at a point. -/
theorem cut_a (w : World) : Calls Tryz.prog 273 #[.string ⟨#[97]⟩, .string ⟨#[46]⟩] w fun e w' => e = .returned (.tuple #[.string ⟨#[97]⟩, .string ⟨#[]⟩, .bool false]) ∧ w = w' := by
  have H := lindex_dot ⟨#[97]⟩ (-1) w (by rw [Lib.toList_data]; decide) (by decide)
  go_enter Tryz.func273, Tryz.ntmps273
  go_wp2_with (fail)
  go_enter Tryz.func309, Tryz.ntmps309
  go_wp2_with (go_at_call 305; refine H.mono ?_; rintro e w' ⟨rfl, rfl⟩)
  go_ret3
  exact ⟨rfl, rfl⟩

theorem dotted_a (w : World) : Calls Tryz.prog 219 #[.string ⟨#[97]⟩, .int .i64 8] w fun e w' => e = .returned (.bool true) ∧ w = w' := by
  go_enter Tryz.func219, Tryz.ntmps219
  go_wp2_with (fail)
  refine wp_loop_rounds 1 ?_
  rw [rounds_succ]
  go_wp2_with (first | (go_at_call 273; refine (cut_a _).mono ?_; rintro e w' ⟨rfl, rfl⟩) | (go_at_call 107; refine (key_yes _ _ (by kernel_rfl)).mono ?_; rintro e w' ⟨rfl, rfl⟩))
  go_ret
  exact ⟨rfl, rfl⟩
theorem isName_a (w : World) : Calls Tryz.prog 156 #[.string ⟨#[97]⟩] w fun e w' => e = .returned (.bool true) ∧ w = w' := by
  go_enter Tryz.func156, Tryz.ntmps156
  go_wp2_with (go_at_call 219; refine (dotted_a _).mono ?_; rintro e w' ⟨rfl, rfl⟩)
  go_ret
  exact ⟨rfl, rfl⟩

set_option maxRecDepth 100000 in
theorem valid_empty (w : World) : Calls Tryz.prog 201 #[.string ⟨#[]⟩] w fun e w' => e = .returned (.bool true) ∧ w = w' := by
  go_enter Tryz.func201, Tryz.ntmps201
  go_wp2_with (fail)
  refine wp_loop_rounds 1 ?_
  rw [rounds_succ]
  go_wp2_with (fail)
  go_ret
  exact ⟨rfl, rfl⟩
theorem unmarked_empty (w : World) : Calls Tryz.prog 145 #[.string ⟨#[]⟩] w fun e w' => e = .returned (.bool true) ∧ w = w' := by
  go_enter Tryz.func145, Tryz.ntmps145
  go_wp2_with (fail)
  refine wp_loop_rounds 1 ?_
  rw [rounds_succ]
  go_wp2_with (go_at_call 201; refine (valid_empty _).mono ?_; rintro e w' ⟨rfl, rfl⟩)
  go_ret
  exact ⟨rfl, rfl⟩

set_option maxRecDepth 100000 in
set_option maxHeartbeats 1000000 in
theorem valueFault_flag (w : World) : Calls Tryz.prog 157 #[.agg #[.int .i64 1, .bool false, .int .i64 0, .string ⟨#[]⟩]] w fun e w' => e = .returned (.int .i64 0) ∧ Below w.heap.size w w' := by
  go_enter Tryz.func157, Tryz.ntmps157
  go_wp2_with (first | (go_at_call 65; refine (out_no _ _ _ _ (by omega) (by omega)).mono ?_; rintro e w' ⟨rfl, rfl⟩) | (go_at_call 145; refine (unmarked_empty _).mono ?_; rintro e w' ⟨rfl, rfl⟩))
  go_ret
  exact ⟨rfl, ((Below.refl _ _).alloc (Nat.le_refl _) _).alloc (by simp) _⟩
end Go.Proofs.YtbimiojoihfnkaaGreatDoor
