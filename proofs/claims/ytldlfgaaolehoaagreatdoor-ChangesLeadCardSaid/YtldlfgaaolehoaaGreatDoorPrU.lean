/- fleetref2.PropName at the seven names: it answers a bool. Printed by gen_PrU.py. -/
import Derived.Test.YtldlfgaaolehoaaGreatDoorPrP
import Derived.Test.YtldlfgaaolehoaaGreatDoorMgA
namespace Go.Proofs.YtldlfgaaolehoaaGreatDoor
open Go.RowKit

/-- It answers a bool. -/
def AnsB (e : Ending) : Prop := ∃ b : Bool, e = .returned (.bool b)
theorem sindexByte_any (s : ByteArray) (c : Int) (w : World) : Calls Tryz.prog 284 #[.string s, .int .u8 c] w fun e w' => (∃ z : Int, e = .returned (.int .i64 z)) ∧ w = w' := by
  have hl := lindexByte_any s c w
  obtain ⟨z, ez⟩ : ∃ z, z = Lib.indexByte s.data.toList c.toNat.toUInt8 := ⟨_, rfl⟩
  rw [← ez] at hl
  clear ez
  go_enter Tryz.func284, Tryz.ntmps284
  go_wp2_with (go_at_call 302; refine hl.mono ?_; rintro e w' ⟨rfl, rfl⟩)
  go_ret
  exact ⟨⟨z, rfl⟩, rfl⟩
theorem in_yes2 (n lo hi : Int) (h1 : lo ≤ n) (h2 : n ≤ hi) (w : World) : Calls Tryz.prog 187 #[.int .i64 n, .int .i64 lo, .int .i64 hi] w fun e w' => e = .returned (.bool true) ∧ w = w' := by
  go_enter Tryz.func187, Tryz.ntmps187
  go_wp2_with (fail)
  go_ret
  exact ⟨rfl, rfl⟩
theorem in_no2 (n lo hi : Int) (h : ¬ (lo ≤ n ∧ n ≤ hi)) (w : World) : Calls Tryz.prog 187 #[.int .i64 n, .int .i64 lo, .int .i64 hi] w fun e w' => e = .returned (.bool false) ∧ w = w' := by
  by_cases h1 : lo ≤ n
  · have h2 : ¬ n ≤ hi := fun h2 => h ⟨h1, h2⟩
    clear h
    go_enter Tryz.func187, Tryz.ntmps187
    go_wp2_with (fail)
    go_ret
    exact ⟨rfl, rfl⟩
  · clear h
    go_enter Tryz.func187, Tryz.ntmps187
    go_wp2_with (fail)
    go_ret
    exact ⟨rfl, rfl⟩
set_option maxRecDepth 100000 in
theorem only_any (s t : ByteArray) (hs : s.size ≤ 100) (w : World) : Calls Tryz.prog 246 #[.string s, .string t] w fun e w' => AnsB e ∧ w = w' := by
  obtain ⟨n, en⟩ : ∃ n, n = s.size := ⟨_, rfl⟩
  go_enter Tryz.func246, Tryz.ntmps246
  go_wp2_with (fail)
  go_loopw [8] (fun i wr => ∃ k : Nat, k ≤ s.size ∧ i = .int .i64 k ∧ w = wr) (fun i _ => s.size - (intOf i).toNat)
  case atStart => exact ⟨0, Nat.zero_le _, rfl, rfl⟩
  case round =>
    obtain ⟨k, hk, rfl, rfl⟩ := hrel
    by_cases hlt : k < s.size
    · have hltI : (k : Int) < (s.size : Int) := by omega
      go_wp2_with (go_at_call 284; refine (sindexByte_any _ _ _).mono ?_; rintro e w' ⟨⟨z, rfl⟩, rfl⟩)
      · go_ret
        exact ⟨⟨false, rfl⟩, rfl⟩
      · go_roundw
        case rel => exact ⟨k + 1, by omega, by simp⟩
        case measure => simp [intOf]; omega
    · have hltI : ¬ (k : Int) < (s.size : Int) := by omega
      go_wp2_with (fail)
      go_ret
      exact ⟨⟨true, rfl⟩, rfl⟩
set_option maxRecDepth 100000 in
theorem key_any (s : ByteArray) (hs : s.size ≤ 100) (w : World) : Calls Tryz.prog 186 #[.string s] w fun e w' => AnsB e ∧ w = w' := by
  by_cases h : 1 ≤ s.size ∧ s.size ≤ 40
  · obtain ⟨h1, h2⟩ := h
    have h1I : (1 : Int) ≤ s.size := by omega
    have h2I : (s.size : Int) ≤ 40 := by omega
    go_enter Tryz.func186, Tryz.ntmps186
    go_wp2_with (go_at_call 187; refine (in_yes2 _ _ _ h1I h2I _).mono ?_; rintro e w' ⟨rfl, rfl⟩)
    refine (only_any _ _ (by simp only [ByteArray.size_extract]; omega) _).mono ?_
    rintro e w' ⟨⟨b, rfl⟩, rfl⟩
    cases b
    · go_wp2_with (fail)
      go_ret
      exact ⟨⟨false, rfl⟩, rfl⟩
    · go_wp2_with (fail)
      refine (only_any s _ hs _).mono ?_
      rintro e w' ⟨⟨b, rfl⟩, rfl⟩
      go_wp2_with (fail)
      go_ret
      exact ⟨⟨b, rfl⟩, rfl⟩
  · go_enter Tryz.func186, Tryz.ntmps186
    go_wp2_with (go_at_call 187; refine (in_no2 _ _ _ (by omega) _).mono ?_; rintro e w' ⟨rfl, rfl⟩)
    go_ret
    exact ⟨⟨false, rfl⟩, rfl⟩
theorem propName1_any (s : ByteArray) (hs : s.size ≤ 100) (w : World) : Calls Tryz.prog 185 #[.string s] w fun e w' => AnsB e ∧ w = w' := by
  go_enter Tryz.func185, Tryz.ntmps185
  go_wp2_with (fail)
  refine (key_any s hs _).mono ?_
  rintro e w' ⟨⟨b, rfl⟩, rfl⟩
  go_wp2_with (fail)
  go_ret
  exact ⟨⟨!b, rfl⟩, rfl⟩
/-- Texts in a row. -/
def StrsAt (w : World) (g o n : Nat) : Prop := ∀ j, j < n → ∃ s : ByteArray, w.cell? ⟨g, o + j, none⟩ = some (.string s) ∧ s.size ≤ 100
set_option maxRecDepth 100000 in
theorem indexF_any (g o n c : Nat) (w : World) (hn : n ≤ 100) (h : StrsAt w g o n) : Calls Tryz.prog 245 #[.slice (some ⟨g, o, none⟩) n c, .func (.func 185) #[] #[]] w fun e w' => (∃ z : Int, e = .returned (.int .i64 z)) ∧ w = w' := by
  have H := Lib.hid h
  clear h
  go_enter Tryz.func245, Tryz.ntmps245
  go_wp2_with (fail)
  go_loopw [8] (fun i wr => ∃ k : Nat, k ≤ n ∧ i = .int .i64 k ∧ w = wr) (fun i _ => n - (intOf i).toNat)
  case atStart => exact ⟨0, Nat.zero_le _, rfl, rfl⟩
  case round =>
    obtain ⟨k, hk, rfl, rfl⟩ := hrel
    by_cases hlt : k < n
    · have hltI : (k : Int) < (n : Int) := by omega
      obtain ⟨s, hc, hs⟩ := H.out k hlt
      go_wp2_with (fail)
      refine (propName1_any s hs _).mono ?_
      rintro e w' ⟨⟨b, rfl⟩, rfl⟩
      cases b
      · go_wp2_with (fail)
        go_roundw
        case rel => exact ⟨k + 1, by omega, by simp⟩
        case measure => simp [intOf]; omega
      · go_wp2_with (fail)
        go_ret
        exact ⟨⟨_, rfl⟩, rfl⟩
    · have hltI : ¬ (k : Int) < (n : Int) := by omega
      go_wp2_with (fail)
      go_ret
      exact ⟨⟨_, rfl⟩, rfl⟩
theorem containsF_any (g o n c : Nat) (w : World) (hn : n ≤ 100) (h : StrsAt w g o n) : Calls Tryz.prog 184 #[.slice (some ⟨g, o, none⟩) n c, .func (.func 185) #[] #[]] w fun e w' => AnsB e ∧ w = w' := by
  have H := Lib.hid (indexF_any g o n c w hn h)
  clear h
  go_enter Tryz.func184, Tryz.ntmps184
  go_wp2_with (fail)
  refine H.out.mono ?_
  rintro e w' ⟨⟨z, rfl⟩, rfl⟩
  go_wp2_with (fail)
  go_ret
  exact ⟨⟨_, rfl⟩, rfl⟩
def SpPost (w : World) (e : Ending) (w' : World) : Prop := ∃ n, n ≤ 3 ∧ e = .returned (.slice (some ⟨w.heap.size, 0, none⟩) n n) ∧ StrsAt w' w.heap.size 0 n ∧ Below w.heap.size w w'

set_option maxRecDepth 100000 in
set_option maxHeartbeats 1000000 in
theorem splitN_0 (w : World) : Calls Tryz.prog 132 #[.string ⟨#[97]⟩, .string ⟨#[46]⟩] w fun e w' => SpPost w e w' := by
  have hc : Lib.countByte (⟨#[97]⟩ : ByteArray).data.toList 46 = 0 := by decide
  have hmk : ∀ w : World, (Instr.makeSlice 53 (.int .i64 1) (.int .i64 1)).run Tryz.prog w = .ok (.slice (some ⟨w.heap.size, 0, none⟩) 1 1) (w.alloc (.cells #[.string ⟨#[]⟩] 9)) := fun _ => by kernel_rfl
  go_enter Tryz.func132, Tryz.ntmps132
  go_wp2_with (fail)
  go_enter Tryz.func202, Tryz.ntmps202
  go_wp2_with (fail)
  refine (count_dot _ _).mono ?_
  rw [hc]
  rintro e w' ⟨rfl, rfl⟩
  go_wp2_with (fail)
  refine wp_loop_rounds 1 ?_
  rw [rounds_succ]
  go_wp2_with (fail)
  go_ret
  refine ⟨1, by omega, rfl, ?_, (Below.refl _ _).alloc (Nat.le_refl _) _⟩
  intro j hj
  match j, hj with
  | 0, _ => exact ⟨_, cell_of_blk (j := 0) (heap_new w _) rfl, by decide⟩
set_option maxRecDepth 100000 in
set_option maxHeartbeats 1000000 in
theorem splitN_1 (w : World) : Calls Tryz.prog 132 #[.string ⟨#[97, 46, 120]⟩, .string ⟨#[46]⟩] w fun e w' => SpPost w e w' := by
  have hc : Lib.countByte (⟨#[97, 46, 120]⟩ : ByteArray).data.toList 46 = 1 := by decide
  have e1 : (⟨#[97, 46, 120]⟩ : ByteArray).extract 0 1 = ⟨#[97]⟩ := by decide
  have e2 : (⟨#[97, 46, 120]⟩ : ByteArray).extract 2 3 = ⟨#[120]⟩ := by decide
  have hmk : ∀ w : World, (Instr.makeSlice 53 (.int .i64 2) (.int .i64 2)).run Tryz.prog w = .ok (.slice (some ⟨w.heap.size, 0, none⟩) 2 2) (w.alloc (.cells #[.string ⟨#[]⟩, .string ⟨#[]⟩] 9)) := fun _ => by kernel_rfl
  go_enter Tryz.func132, Tryz.ntmps132
  go_wp2_with (fail)
  go_enter Tryz.func202, Tryz.ntmps202
  go_wp2_with (fail)
  refine (count_dot _ _).mono ?_
  rw [hc]
  rintro e w' ⟨rfl, rfl⟩
  go_wp2_with (fail)
  refine wp_loop_rounds 2 ?_
  rw [rounds_succ]
  go_wp2_with (fail)
  refine (index_dot _ 1 _ (by rw [Lib.toList_data]; decide) (by decide)).mono ?_
  rintro e w' ⟨rfl, rfl⟩
  go_wp2_with (fail)
  rw [rounds_succ]
  go_wp2_with (fail)
  go_ret
  refine ⟨2, by omega, rfl, ?_, (Below.refl _ _).alloc (Nat.le_refl _) _⟩
  intro j hj
  match j, hj with
  | 0, _ => exact ⟨_, cell_of_blk (j := 0) (heap_new w _) rfl, by decide⟩
  | 1, _ => exact ⟨_, cell_of_blk (j := 1) (heap_new w _) rfl, by decide⟩
set_option maxRecDepth 100000 in
set_option maxHeartbeats 1000000 in
theorem splitN_2 (w : World) : Calls Tryz.prog 132 #[.string ⟨#[97, 46, 120, 46, 112]⟩, .string ⟨#[46]⟩] w fun e w' => SpPost w e w' := by
  have hc : Lib.countByte (⟨#[97, 46, 120, 46, 112]⟩ : ByteArray).data.toList 46 = 2 := by decide
  have e1 : (⟨#[97, 46, 120, 46, 112]⟩ : ByteArray).extract 0 1 = ⟨#[97]⟩ := by decide
  have e2 : (⟨#[97, 46, 120, 46, 112]⟩ : ByteArray).extract 2 5 = ⟨#[120, 46, 112]⟩ := by decide
  have e3 : (⟨#[120, 46, 112]⟩ : ByteArray).extract 0 1 = ⟨#[120]⟩ := by decide
  have e4 : (⟨#[120, 46, 112]⟩ : ByteArray).extract 2 3 = ⟨#[112]⟩ := by decide
  have hmk : ∀ w : World, (Instr.makeSlice 53 (.int .i64 3) (.int .i64 3)).run Tryz.prog w = .ok (.slice (some ⟨w.heap.size, 0, none⟩) 3 3) (w.alloc (.cells #[.string ⟨#[]⟩, .string ⟨#[]⟩, .string ⟨#[]⟩] 9)) := fun _ => by kernel_rfl
  go_enter Tryz.func132, Tryz.ntmps132
  go_wp2_with (fail)
  go_enter Tryz.func202, Tryz.ntmps202
  go_wp2_with (fail)
  refine (count_dot _ _).mono ?_
  rw [hc]
  rintro e w' ⟨rfl, rfl⟩
  go_wp2_with (fail)
  refine wp_loop_rounds 3 ?_
  rw [rounds_succ]
  go_wp2_with (fail)
  refine (index_dot _ 1 _ (by rw [Lib.toList_data]; decide) (by decide)).mono ?_
  rintro e w' ⟨rfl, rfl⟩
  go_wp2_with (fail)
  rw [rounds_succ]
  go_wp2_with (fail)
  refine (index_dot _ 1 _ (by rw [Lib.toList_data]; decide) (by decide)).mono ?_
  rintro e w' ⟨rfl, rfl⟩
  go_wp2_with (fail)
  rw [rounds_succ]
  go_wp2_with (fail)
  go_ret
  refine ⟨3, by omega, rfl, ?_, (Below.refl _ _).alloc (Nat.le_refl _) _⟩
  intro j hj
  match j, hj with
  | 0, _ => exact ⟨_, cell_of_blk (j := 0) (heap_new w _) rfl, by decide⟩
  | 1, _ => exact ⟨_, cell_of_blk (j := 1) (heap_new w _) rfl, by decide⟩
  | 2, _ => exact ⟨_, cell_of_blk (j := 2) (heap_new w _) rfl, by decide⟩
set_option maxRecDepth 100000 in
set_option maxHeartbeats 1000000 in
theorem splitN_3 (w : World) : Calls Tryz.prog 132 #[.string ⟨#[97, 46, 121]⟩, .string ⟨#[46]⟩] w fun e w' => SpPost w e w' := by
  have hc : Lib.countByte (⟨#[97, 46, 121]⟩ : ByteArray).data.toList 46 = 1 := by decide
  have e1 : (⟨#[97, 46, 121]⟩ : ByteArray).extract 0 1 = ⟨#[97]⟩ := by decide
  have e2 : (⟨#[97, 46, 121]⟩ : ByteArray).extract 2 3 = ⟨#[121]⟩ := by decide
  have hmk : ∀ w : World, (Instr.makeSlice 53 (.int .i64 2) (.int .i64 2)).run Tryz.prog w = .ok (.slice (some ⟨w.heap.size, 0, none⟩) 2 2) (w.alloc (.cells #[.string ⟨#[]⟩, .string ⟨#[]⟩] 9)) := fun _ => by kernel_rfl
  go_enter Tryz.func132, Tryz.ntmps132
  go_wp2_with (fail)
  go_enter Tryz.func202, Tryz.ntmps202
  go_wp2_with (fail)
  refine (count_dot _ _).mono ?_
  rw [hc]
  rintro e w' ⟨rfl, rfl⟩
  go_wp2_with (fail)
  refine wp_loop_rounds 2 ?_
  rw [rounds_succ]
  go_wp2_with (fail)
  refine (index_dot _ 1 _ (by rw [Lib.toList_data]; decide) (by decide)).mono ?_
  rintro e w' ⟨rfl, rfl⟩
  go_wp2_with (fail)
  rw [rounds_succ]
  go_wp2_with (fail)
  go_ret
  refine ⟨2, by omega, rfl, ?_, (Below.refl _ _).alloc (Nat.le_refl _) _⟩
  intro j hj
  match j, hj with
  | 0, _ => exact ⟨_, cell_of_blk (j := 0) (heap_new w _) rfl, by decide⟩
  | 1, _ => exact ⟨_, cell_of_blk (j := 1) (heap_new w _) rfl, by decide⟩
set_option maxRecDepth 100000 in
set_option maxHeartbeats 1000000 in
theorem splitN_4 (w : World) : Calls Tryz.prog 132 #[.string ⟨#[97, 98]⟩, .string ⟨#[46]⟩] w fun e w' => SpPost w e w' := by
  have hc : Lib.countByte (⟨#[97, 98]⟩ : ByteArray).data.toList 46 = 0 := by decide
  have hmk : ∀ w : World, (Instr.makeSlice 53 (.int .i64 1) (.int .i64 1)).run Tryz.prog w = .ok (.slice (some ⟨w.heap.size, 0, none⟩) 1 1) (w.alloc (.cells #[.string ⟨#[]⟩] 9)) := fun _ => by kernel_rfl
  go_enter Tryz.func132, Tryz.ntmps132
  go_wp2_with (fail)
  go_enter Tryz.func202, Tryz.ntmps202
  go_wp2_with (fail)
  refine (count_dot _ _).mono ?_
  rw [hc]
  rintro e w' ⟨rfl, rfl⟩
  go_wp2_with (fail)
  refine wp_loop_rounds 1 ?_
  rw [rounds_succ]
  go_wp2_with (fail)
  go_ret
  refine ⟨1, by omega, rfl, ?_, (Below.refl _ _).alloc (Nat.le_refl _) _⟩
  intro j hj
  match j, hj with
  | 0, _ => exact ⟨_, cell_of_blk (j := 0) (heap_new w _) rfl, by decide⟩
set_option maxRecDepth 100000 in
set_option maxHeartbeats 1000000 in
theorem splitN_5 (w : World) : Calls Tryz.prog 132 #[.string ⟨#[98]⟩, .string ⟨#[46]⟩] w fun e w' => SpPost w e w' := by
  have hc : Lib.countByte (⟨#[98]⟩ : ByteArray).data.toList 46 = 0 := by decide
  have hmk : ∀ w : World, (Instr.makeSlice 53 (.int .i64 1) (.int .i64 1)).run Tryz.prog w = .ok (.slice (some ⟨w.heap.size, 0, none⟩) 1 1) (w.alloc (.cells #[.string ⟨#[]⟩] 9)) := fun _ => by kernel_rfl
  go_enter Tryz.func132, Tryz.ntmps132
  go_wp2_with (fail)
  go_enter Tryz.func202, Tryz.ntmps202
  go_wp2_with (fail)
  refine (count_dot _ _).mono ?_
  rw [hc]
  rintro e w' ⟨rfl, rfl⟩
  go_wp2_with (fail)
  refine wp_loop_rounds 1 ?_
  rw [rounds_succ]
  go_wp2_with (fail)
  go_ret
  refine ⟨1, by omega, rfl, ?_, (Below.refl _ _).alloc (Nat.le_refl _) _⟩
  intro j hj
  match j, hj with
  | 0, _ => exact ⟨_, cell_of_blk (j := 0) (heap_new w _) rfl, by decide⟩
set_option maxRecDepth 100000 in
set_option maxHeartbeats 1000000 in
theorem splitN_6 (w : World) : Calls Tryz.prog 132 #[.string ⟨#[98, 46, 122]⟩, .string ⟨#[46]⟩] w fun e w' => SpPost w e w' := by
  have hc : Lib.countByte (⟨#[98, 46, 122]⟩ : ByteArray).data.toList 46 = 1 := by decide
  have e1 : (⟨#[98, 46, 122]⟩ : ByteArray).extract 0 1 = ⟨#[98]⟩ := by decide
  have e2 : (⟨#[98, 46, 122]⟩ : ByteArray).extract 2 3 = ⟨#[122]⟩ := by decide
  have hmk : ∀ w : World, (Instr.makeSlice 53 (.int .i64 2) (.int .i64 2)).run Tryz.prog w = .ok (.slice (some ⟨w.heap.size, 0, none⟩) 2 2) (w.alloc (.cells #[.string ⟨#[]⟩, .string ⟨#[]⟩] 9)) := fun _ => by kernel_rfl
  go_enter Tryz.func132, Tryz.ntmps132
  go_wp2_with (fail)
  go_enter Tryz.func202, Tryz.ntmps202
  go_wp2_with (fail)
  refine (count_dot _ _).mono ?_
  rw [hc]
  rintro e w' ⟨rfl, rfl⟩
  go_wp2_with (fail)
  refine wp_loop_rounds 2 ?_
  rw [rounds_succ]
  go_wp2_with (fail)
  refine (index_dot _ 1 _ (by rw [Lib.toList_data]; decide) (by decide)).mono ?_
  rintro e w' ⟨rfl, rfl⟩
  go_wp2_with (fail)
  rw [rounds_succ]
  go_wp2_with (fail)
  go_ret
  refine ⟨2, by omega, rfl, ?_, (Below.refl _ _).alloc (Nat.le_refl _) _⟩
  intro j hj
  match j, hj with
  | 0, _ => exact ⟨_, cell_of_blk (j := 0) (heap_new w _) rfl, by decide⟩
  | 1, _ => exact ⟨_, cell_of_blk (j := 1) (heap_new w _) rfl, by decide⟩
theorem splitN_any (i : Nat) (w : World) : Calls Tryz.prog 132 #[.string (nm i), .string ⟨#[46]⟩] w fun e w' => SpPost w e w' := by
  match i with
  | 0 => exact splitN_0 w
  | 1 => exact splitN_1 w
  | 2 => exact splitN_2 w
  | 3 => exact splitN_3 w
  | 4 => exact splitN_4 w
  | 5 => exact splitN_5 w
  | _ + 6 => exact splitN_6 w
theorem propName_any (i : Nat) (w : World) : Calls Tryz.prog 116 #[.string (nm i)] w fun e w' => AnsB e ∧ Below w.heap.size w w' := by
  go_enter Tryz.func116, Tryz.ntmps116
  go_wp2_with (fail)
  refine (splitN_any i w).mono ?_
  rintro e w1 ⟨n, hn, rfl, hs, hb⟩
  have HS := Lib.hid hs
  have HB := Lib.hid hb
  clear hs hb
  have hn8 : (n : Int) ≤ 8 := by omega
  go_wp2_with (fail)
  refine (containsF_any _ _ n n w1 (by omega) HS.out).mono ?_
  rintro e w2 ⟨⟨b, rfl⟩, rfl⟩
  go_wp2_with (fail)
  go_ret
  exact ⟨⟨_, rfl⟩, HB.out⟩
end Go.Proofs.YtldlfgaaolehoaaGreatDoor
