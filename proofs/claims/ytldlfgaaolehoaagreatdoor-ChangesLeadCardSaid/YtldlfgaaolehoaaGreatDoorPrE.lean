/- base.Unmarked at the six texts, twin.valueFault at right values. Printed by gen_PrE.py. -/
import Derived.Test.YtldlfgaaolehoaaGreatDoorPrD
import Derived.Test.YtldlfgaaolehoaaGreatDoorLay196
namespace Go.Proofs.YtldlfgaaolehoaaGreatDoor
open Go.RowKit Go.Shelf

/-- The library's two tables are as they were laid. -/
def U8T (w : World) : Prop := Lib.Utf8Tabs (lay196_ren.g 3) (lay196_ren.g 4) w
theorem U8T.below {w w' : World} (h : U8T w) (hb : Below w.heap.size w w') : U8T w' := Utf8Tabs_below h hb
theorem valid_at (s : ByteArray) (w : World) (hs : s.size ≤ 1000) (hv : Lib.validD s.data.toList = true) (hT : U8T w) : Calls Tryz.prog 203 #[.string s] w fun e w' => e = .returned (.bool true) ∧ Below w.heap.size w w' := by
  refine (Any.utf8_ValidString lay196 s w (by omega) hT).mono ?_
  rintro e w' ⟨h, hb⟩
  rw [hv] at h
  exact ⟨h, hb⟩

theorem unmarked_0 (w : World) (hT : U8T w) : Calls Tryz.prog 136 #[.string ⟨#[]⟩] w fun e w' => e = .returned (.bool true) ∧ Below w.heap.size w w' := by
  have HV := Lib.hid (valid_at ⟨#[]⟩ w (by decide) (by decide) hT)
  go_enter Tryz.func136, Tryz.ntmps136
  go_wp2_with (fail)
  refine wp_loop_rounds 1 ?_
  rw [rounds_succ]
  go_wp2_with (fail)
  refine HV.out.mono ?_
  rintro e w1 ⟨rfl, hb⟩
  have HB := Lib.hid hb
  clear hb
  go_wp2_with (fail)
  go_ret
  exact ⟨rfl, HB.out⟩
theorem unmarked_1 (w : World) (hT : U8T w) : Calls Tryz.prog 136 #[.string ⟨#[120]⟩] w fun e w' => e = .returned (.bool true) ∧ Below w.heap.size w w' := by
  have HV := Lib.hid (valid_at ⟨#[120]⟩ w (by decide) (by decide) hT)
  go_enter Tryz.func136, Tryz.ntmps136
  go_wp2_with (fail)
  refine wp_loop_rounds 2 ?_
  rw [rounds_succ]
  go_wp2_with (fail)
  rw [rounds_succ]
  go_wp2_with (fail)
  refine HV.out.mono ?_
  rintro e w1 ⟨rfl, hb⟩
  have HB := Lib.hid hb
  clear hb
  go_wp2_with (fail)
  go_ret
  exact ⟨rfl, HB.out⟩
theorem unmarked_2 (w : World) (hT : U8T w) : Calls Tryz.prog 136 #[.string ⟨#[97, 32, 34, 98, 34]⟩] w fun e w' => e = .returned (.bool true) ∧ Below w.heap.size w w' := by
  have HV := Lib.hid (valid_at ⟨#[97, 32, 34, 98, 34]⟩ w (by decide) (by decide) hT)
  go_enter Tryz.func136, Tryz.ntmps136
  go_wp2_with (fail)
  refine wp_loop_rounds 6 ?_
  rw [rounds_succ]
  go_wp2_with (fail)
  rw [rounds_succ]
  go_wp2_with (fail)
  rw [rounds_succ]
  go_wp2_with (fail)
  rw [rounds_succ]
  go_wp2_with (fail)
  rw [rounds_succ]
  go_wp2_with (fail)
  rw [rounds_succ]
  go_wp2_with (fail)
  refine HV.out.mono ?_
  rintro e w1 ⟨rfl, hb⟩
  have HB := Lib.hid hb
  clear hb
  go_wp2_with (fail)
  go_ret
  exact ⟨rfl, HB.out⟩
theorem unmarked_3 (w : World) (hT : U8T w) : Calls Tryz.prog 136 #[.string ⟨#[92]⟩] w fun e w' => e = .returned (.bool true) ∧ Below w.heap.size w w' := by
  have HV := Lib.hid (valid_at ⟨#[92]⟩ w (by decide) (by decide) hT)
  go_enter Tryz.func136, Tryz.ntmps136
  go_wp2_with (fail)
  refine wp_loop_rounds 2 ?_
  rw [rounds_succ]
  go_wp2_with (fail)
  rw [rounds_succ]
  go_wp2_with (fail)
  refine HV.out.mono ?_
  rintro e w1 ⟨rfl, hb⟩
  have HB := Lib.hid hb
  clear hb
  go_wp2_with (fail)
  go_ret
  exact ⟨rfl, HB.out⟩
theorem unmarked_4 (w : World) (hT : U8T w) : Calls Tryz.prog 136 #[.string ⟨#[195, 169]⟩] w fun e w' => e = .returned (.bool true) ∧ Below w.heap.size w w' := by
  have HV := Lib.hid (valid_at ⟨#[195, 169]⟩ w (by decide) (by decide) hT)
  go_enter Tryz.func136, Tryz.ntmps136
  go_wp2_with (fail)
  refine wp_loop_rounds 3 ?_
  rw [rounds_succ]
  go_wp2_with (fail)
  rw [rounds_succ]
  go_wp2_with (fail)
  rw [rounds_succ]
  go_wp2_with (fail)
  refine HV.out.mono ?_
  rintro e w1 ⟨rfl, hb⟩
  have HB := Lib.hid hb
  clear hb
  go_wp2_with (fail)
  go_ret
  exact ⟨rfl, HB.out⟩
theorem unmarked_5 (w : World) (hT : U8T w) : Calls Tryz.prog 136 #[.string ⟨#[45, 32, 49]⟩] w fun e w' => e = .returned (.bool true) ∧ Below w.heap.size w w' := by
  have HV := Lib.hid (valid_at ⟨#[45, 32, 49]⟩ w (by decide) (by decide) hT)
  go_enter Tryz.func136, Tryz.ntmps136
  go_wp2_with (fail)
  refine wp_loop_rounds 4 ?_
  rw [rounds_succ]
  go_wp2_with (fail)
  rw [rounds_succ]
  go_wp2_with (fail)
  rw [rounds_succ]
  go_wp2_with (fail)
  rw [rounds_succ]
  go_wp2_with (fail)
  refine HV.out.mono ?_
  rintro e w1 ⟨rfl, hb⟩
  have HB := Lib.hid hb
  clear hb
  go_wp2_with (fail)
  go_ret
  exact ⟨rfl, HB.out⟩
theorem unmarked_wd (i : Nat) (w : World) (hT : U8T w) : Calls Tryz.prog 136 #[.string (wdT i)] w fun e w' => e = .returned (.bool true) ∧ Below w.heap.size w w' := by
  match i with
  | 0 => exact unmarked_0 w hT
  | 1 => exact unmarked_1 w hT
  | 2 => exact unmarked_2 w hT
  | 3 => exact unmarked_3 w hT
  | 4 => exact unmarked_4 w hT
  | _ + 5 => exact unmarked_5 w hT
theorem wdT_size (i : Nat) : (wdT i).size ≤ 5 := by
  match i with
  | 0 => exact (by decide : (wdT 0).size ≤ 5)
  | 1 => exact (by decide : (wdT 1).size ≤ 5)
  | 2 => exact (by decide : (wdT 2).size ≤ 5)
  | 3 => exact (by decide : (wdT 3).size ≤ 5)
  | 4 => exact (by decide : (wdT 4).size ≤ 5)
  | _ + 5 => exact (by decide : (wdT 5).size ≤ 5)
set_option maxRecDepth 100000 in
set_option maxHeartbeats 1000000 in
theorem valueFault_noneV  (w : World) (hT : U8T w) : Calls Tryz.prog 122 #[.agg #[.int .i64 0, .bool false, .int .i64 0, .string ⟨#[]⟩]] w fun e w' => e = .returned (.int .i64 0) ∧ Below w.heap.size w w' := by
  have HT := Lib.hid (fun V (hV : Below w.heap.size w V) => hT.below hV)
  clear hT
  go_enter Tryz.func122, Tryz.ntmps122
  go_wp2_with (go_at_call 78; refine (out_no _ _ _ _ (by omega) (by omega)).mono ?_; rintro e w' ⟨rfl, rfl⟩)
  refine (unmarked_0 _ (HT.out _ (((Below.refl _ _).alloc (Nat.le_refl _) _).alloc (by simp) _))).mono ?_
  rintro e w1 ⟨rfl, hb⟩
  have HB := Lib.hid (((((Below.refl _ _).alloc (Nat.le_refl _) _).alloc (by simp) _)).trans (hb.mono (by simp; omega)))
  clear hb
  go_wp2_with (fail)
  go_ret
  exact ⟨rfl, HB.out⟩
set_option maxRecDepth 100000 in
set_option maxHeartbeats 1000000 in
theorem valueFault_flagV (b : Bool) (w : World) (hT : U8T w) : Calls Tryz.prog 122 #[.agg #[.int .i64 1, .bool b, .int .i64 0, .string ⟨#[]⟩]] w fun e w' => e = .returned (.int .i64 0) ∧ Below w.heap.size w w' := by
  have HT := Lib.hid (fun V (hV : Below w.heap.size w V) => hT.below hV)
  clear hT
  go_enter Tryz.func122, Tryz.ntmps122
  go_wp2_with (go_at_call 78; refine (out_no _ _ _ _ (by omega) (by omega)).mono ?_; rintro e w' ⟨rfl, rfl⟩)
  refine (unmarked_0 _ (HT.out _ (((Below.refl _ _).alloc (Nat.le_refl _) _).alloc (by simp) _))).mono ?_
  rintro e w1 ⟨rfl, hb⟩
  have HB := Lib.hid (((((Below.refl _ _).alloc (Nat.le_refl _) _).alloc (by simp) _)).trans (hb.mono (by simp; omega)))
  clear hb
  go_wp2_with (fail)
  go_ret
  exact ⟨rfl, HB.out⟩
set_option maxRecDepth 100000 in
set_option maxHeartbeats 1000000 in
theorem valueFault_numberV (t : Int) (w : World) (h1 : -1000000000 ≤ t) (h2 : t ≤ 1000000000) (hT : U8T w) : Calls Tryz.prog 122 #[.agg #[.int .i64 2, .bool false, .int .i64 t, .string ⟨#[]⟩]] w fun e w' => e = .returned (.int .i64 0) ∧ Below w.heap.size w w' := by
  have HT := Lib.hid (fun V (hV : Below w.heap.size w V) => hT.below hV)
  clear hT
  go_enter Tryz.func122, Tryz.ntmps122
  go_wp2_with (go_at_call 78; refine (out_no _ _ _ _ (by omega) (by omega)).mono ?_; rintro e w' ⟨rfl, rfl⟩)
  refine (unmarked_0 _ (HT.out _ (((Below.refl _ _).alloc (Nat.le_refl _) _).alloc (by simp) _))).mono ?_
  rintro e w1 ⟨rfl, hb⟩
  have HB := Lib.hid (((((Below.refl _ _).alloc (Nat.le_refl _) _).alloc (by simp) _)).trans (hb.mono (by simp; omega)))
  clear hb
  go_wp2_with (fail)
  go_ret
  exact ⟨rfl, HB.out⟩
set_option maxRecDepth 100000 in
set_option maxHeartbeats 1000000 in
theorem valueFault_wordsV (i : Nat) (w : World) (hT : U8T w) : Calls Tryz.prog 122 #[.agg #[.int .i64 3, .bool false, .int .i64 0, .string (wdT i)]] w fun e w' => e = .returned (.int .i64 0) ∧ Below w.heap.size w w' := by
  have hsz := wdT_size i
  have hszI : ¬ ((wdT i).size : Int) > 1000 := by omega
  have hszI2 : ¬ (1000 : Int) < ((wdT i).size : Int) := by omega
  have HT := Lib.hid (fun V (hV : Below w.heap.size w V) => hT.below hV)
  clear hT
  go_enter Tryz.func122, Tryz.ntmps122
  go_wp2_with (go_at_call 78; refine (out_no _ _ _ _ (by omega) (by omega)).mono ?_; rintro e w' ⟨rfl, rfl⟩)
  refine (unmarked_wd i _ (HT.out _ (((Below.refl _ _).alloc (Nat.le_refl _) _).alloc (by simp) _))).mono ?_
  rintro e w1 ⟨rfl, hb⟩
  have HB := Lib.hid (((((Below.refl _ _).alloc (Nat.le_refl _) _).alloc (by simp) _)).trans (hb.mono (by simp; omega)))
  clear hb
  go_wp2_with (fail)
  go_ret
  exact ⟨rfl, HB.out⟩
theorem valueFault_any (v : Pv) (w : World) (hv : v = pvNone ∨ PvOk v) (hT : U8T w) : Calls Tryz.prog 122 #[.agg #[.int .i64 v.k, .bool v.f, .int .i64 v.n, .string v.s]] w fun e w' => e = .returned (.int .i64 0) ∧ Below w.heap.size w w' := by
  obtain ⟨k, f, n, s⟩ := v
  rcases hv with h | ⟨h1, h2, h3⟩ | ⟨h1, h2, h3, h4, h5⟩ | ⟨h1, h2, h3, i, h4, h5⟩
  · cases h
    exact valueFault_noneV w hT
  · simp only at h1 h2 h3
    subst h1 h2 h3
    exact valueFault_flagV f w hT
  · simp only at h1 h2 h3 h4 h5
    subst h1 h2 h3
    exact valueFault_numberV n w h4 h5 hT
  · simp only at h1 h2 h3 h5
    subst h1 h2 h3 h5
    exact valueFault_wordsV i w hT
end Go.Proofs.YtldlfgaaolehoaaGreatDoor
