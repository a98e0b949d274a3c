/- fleetref2.PropName at the seven names: it says yes. Printed by gen_PrU.py. -/
import Derived.Test.YtkcpfppjdjkjeaaGreatDoorMgB
import Derived.Test.YtkcpfppjdjkjeaaGreatDoorMgA
namespace Go.Proofs.YtkcpfppjdjkjeaaGreatDoor
open Go.RowKit

def smT : ByteArray := ⟨#[97, 98, 99, 100, 101, 102, 103, 104, 105, 106, 107, 108, 109, 110, 111, 112, 113, 114, 115, 116, 117, 118, 119, 120, 121, 122]⟩
def ksT : ByteArray := ⟨#[97, 98, 99, 100, 101, 102, 103, 104, 105, 106, 107, 108, 109, 110, 111, 112, 113, 114, 115, 116, 117, 118, 119, 120, 121, 122, 48, 49, 50, 51, 52, 53, 54, 55, 56, 57, 45, 95]⟩
/-- It answers a bool. -/
def AnsB (e : Ending) : Prop := ∃ b : Bool, e = .returned (.bool b)
theorem sindexByte_any (s : ByteArray) (c : Int) (w : World) : Calls Tryz.prog 164 #[.string s, .int .u8 c] w fun e w' => e = .returned (.int .i64 (Lib.indexByte s.data.toList c.toNat.toUInt8)) ∧ w = w' := by
  have hl := lindexByte_any s c w
  obtain ⟨z, ez⟩ : ∃ z, z = Lib.indexByte s.data.toList c.toNat.toUInt8 := ⟨_, rfl⟩
  rw [← ez] at hl ⊢
  clear ez
  go_enter Tryz.func164, Tryz.ntmps164
  go_wp2_with (go_at_call 186; refine hl.mono ?_; rintro e w' ⟨rfl, rfl⟩)
  go_ret
  exact ⟨rfl, rfl⟩
theorem in_yes2 (n lo hi : Int) (h1 : lo ≤ n) (h2 : n ≤ hi) (w : World) : Calls Tryz.prog 110 #[.int .i64 n, .int .i64 lo, .int .i64 hi] w fun e w' => e = .returned (.bool true) ∧ w = w' := by
  go_enter Tryz.func110, Tryz.ntmps110
  go_wp2_with (fail)
  go_ret
  exact ⟨rfl, rfl⟩
theorem in_no2 (n lo hi : Int) (h : ¬ (lo ≤ n ∧ n ≤ hi)) (w : World) : Calls Tryz.prog 110 #[.int .i64 n, .int .i64 lo, .int .i64 hi] w fun e w' => e = .returned (.bool false) ∧ w = w' := by
  by_cases h1 : lo ≤ n
  · have h2 : ¬ n ≤ hi := fun h2 => h ⟨h1, h2⟩
    clear h
    go_enter Tryz.func110, Tryz.ntmps110
    go_wp2_with (fail)
    go_ret
    exact ⟨rfl, rfl⟩
  · clear h
    go_enter Tryz.func110, Tryz.ntmps110
    go_wp2_with (fail)
    go_ret
    exact ⟨rfl, rfl⟩
/-- All bytes of a text are among some. -/
def OnY (s t : ByteArray) : Prop := ∀ c ∈ s.data.toList, 0 ≤ Lib.indexByte t.data.toList c
set_option maxRecDepth 100000 in
theorem onlyR_yes (s t : ByteArray) (hs : s.size ≤ 100) (ho : OnY s t) (w : World) : Calls Tryz.prog 139 #[.string s, .string t] w fun e w' => e = .returned (.bool true) ∧ w = w' := by
  obtain ⟨n, en⟩ : ∃ n, n = s.size := ⟨_, rfl⟩
  have HO := Lib.hid ho
  clear ho
  go_enter Tryz.func139, Tryz.ntmps139
  go_wp2_with (fail)
  go_loopw [8] (fun i wr => ∃ k : Nat, k ≤ s.size ∧ i = .int .i64 k ∧ w = wr) (fun i _ => s.size - (intOf i).toNat)
  case atStart => exact ⟨0, Nat.zero_le _, rfl, rfl⟩
  case round =>
    obtain ⟨k, hk, rfl, rfl⟩ := hrel
    by_cases hlt : k < s.size
    · have hltI : (k : Int) < (s.size : Int) := by omega
      obtain ⟨z, ez⟩ : ∃ z, z = Lib.indexByte t.data.toList ((s[k].toNat : Int)).toNat.toUInt8 := ⟨_, rfl⟩
      have hz0 : 0 ≤ z := by
        have h := HO.out s[k] (Array.mem_toList_iff.2 (Array.getElem_mem (xs := s.data) hlt))
        rw [ez]
        simpa using h
      have hzI : ¬ z < 0 := by omega
      have HS := Lib.hid (fun V => sindexByte_any t ((s[k].toNat : Int)) V)
      rw [← ez] at HS
      clear ez
      go_wp2_with (go_at_call 164; refine (HS.out _).mono ?_; rintro e w' ⟨rfl, rfl⟩)
      go_roundw
      case rel => exact ⟨k + 1, by omega, by simp⟩
      case measure => simp [intOf]; omega
    · have hltI : ¬ (k : Int) < (s.size : Int) := by omega
      go_wp2_with (fail)
      go_ret
      exact ⟨rfl, rfl⟩
/-- A key of small letters. -/
def KyY (s : ByteArray) : Prop := 1 ≤ s.size ∧ s.size ≤ 40 ∧ OnY (s.extract 0 1) smT ∧ OnY s ksT
set_option maxRecDepth 100000 in
theorem keyR_yes (s : ByteArray) (hs : KyY s) (w : World) : Calls Tryz.prog 109 #[.string s] w fun e w' => e = .returned (.bool true) ∧ w = w' := by
  obtain ⟨h1, h2, h3, h4⟩ := hs
  have h1I : (1 : Int) ≤ s.size := by omega
  have h2I : (s.size : Int) ≤ 40 := by omega
  have HA := Lib.hid (fun V => onlyR_yes (s.extract 0 1) smT (by simp only [ByteArray.size_extract]; omega) h3 V)
  have HB := Lib.hid (fun V => onlyR_yes s ksT (by omega) h4 V)
  unfold smT at HA
  unfold ksT at HB
  clear h3 h4
  go_enter Tryz.func109, Tryz.ntmps109
  go_wp2_with (go_at_call 110; refine (in_yes2 _ _ _ h1I h2I _).mono ?_; rintro e w' ⟨rfl, rfl⟩)
  refine (HA.out _).mono ?_
  rintro e w' ⟨rfl, rfl⟩
  go_wp2_with (fail)
  refine (HB.out _).mono ?_
  rintro e w' ⟨rfl, rfl⟩
  go_wp2_with (fail)
  go_ret
  exact ⟨rfl, rfl⟩
theorem propName1_no (s : ByteArray) (hs : KyY s) (w : World) : Calls Tryz.prog 108 #[.string s] w fun e w' => e = .returned (.bool false) ∧ w = w' := by
  go_enter Tryz.func108, Tryz.ntmps108
  go_wp2_with (fail)
  refine (keyR_yes s hs _).mono ?_
  rintro e w' ⟨rfl, rfl⟩
  go_wp2_with (fail)
  go_ret
  exact ⟨rfl, rfl⟩
/-- Keys in a row. -/
def StrsAt (w : World) (g o n : Nat) : Prop := ∀ j, j < n → ∃ s : ByteArray, w.cell? ⟨g, o + j, none⟩ = some (.string s) ∧ KyY s
set_option maxRecDepth 100000 in
theorem indexF_any (g o n c : Nat) (w : World) (hn : n ≤ 100) (h : StrsAt w g o n) : Calls Tryz.prog 138 #[.slice (some ⟨g, o, none⟩) n c, .func (.func 108) #[] #[]] w fun e w' => e = .returned (.int .i64 (-1)) ∧ w = w' := by
  have H := Lib.hid h
  clear h
  go_enter Tryz.func138, Tryz.ntmps138
  go_wp2_with (fail)
  go_loopw [8] (fun i wr => ∃ k : Nat, k ≤ n ∧ i = .int .i64 k ∧ w = wr) (fun i _ => n - (intOf i).toNat)
  case atStart => exact ⟨0, Nat.zero_le _, rfl, rfl⟩
  case round =>
    obtain ⟨k, hk, rfl, rfl⟩ := hrel
    by_cases hlt : k < n
    · have hltI : (k : Int) < (n : Int) := by omega
      obtain ⟨s, hc, hs⟩ := H.out k hlt
      have HS := Lib.hid hs
      clear hs
      go_wp2_with (fail)
      refine (propName1_no s HS.out _).mono ?_
      rintro e w' ⟨rfl, rfl⟩
      go_wp2_with (fail)
      go_roundw
      case rel => exact ⟨k + 1, by omega, by simp⟩
      case measure => simp [intOf]; omega
    · have hltI : ¬ (k : Int) < (n : Int) := by omega
      go_wp2_with (fail)
      go_ret
      exact ⟨rfl, rfl⟩
theorem containsF_any (g o n c : Nat) (w : World) (hn : n ≤ 100) (h : StrsAt w g o n) : Calls Tryz.prog 107 #[.slice (some ⟨g, o, none⟩) n c, .func (.func 108) #[] #[]] w fun e w' => e = .returned (.bool false) ∧ w = w' := by
  have H := Lib.hid (indexF_any g o n c w hn h)
  clear h
  go_enter Tryz.func107, Tryz.ntmps107
  go_wp2_with (fail)
  refine H.out.mono ?_
  rintro e w' ⟨rfl, rfl⟩
  go_wp2_with (fail)
  go_ret
  exact ⟨rfl, rfl⟩
def SpPost (w : World) (e : Ending) (w' : World) : Prop := ∃ n, n ≤ 3 ∧ e = .returned (.slice (some ⟨w.heap.size, 0, none⟩) n n) ∧ StrsAt w' w.heap.size 0 n ∧ Below w.heap.size w w'

set_option maxRecDepth 100000 in
set_option maxHeartbeats 1000000 in
theorem splitN_0 (w : World) : Calls Tryz.prog 85 #[.string ⟨#[97]⟩, .string ⟨#[46]⟩] w fun e w' => SpPost w e w' := by
  have hc : Lib.countByte (⟨#[97]⟩ : ByteArray).data.toList 46 = 0 := by decide
  have hmin : min (1 : Int) 2 = 1 := by decide
  have hmk : ∀ w : World, (Instr.makeSlice 112 (.int .i64 1) (.int .i64 1)).run Tryz.prog w = .ok (.slice (some ⟨w.heap.size, 0, none⟩) 1 1) (w.alloc (.cells #[.string ⟨#[]⟩] 9)) := fun _ => by kernel_rfl
  go_enter Tryz.func85, Tryz.ntmps85
  go_wp2_with (fail)
  go_enter Tryz.func129, Tryz.ntmps129
  go_wp2_with (fail)
  refine (count_dot _ _).mono ?_
  rw [hc]
  rintro e w' ⟨rfl, rfl⟩
  go_wp2_with (fail)
  refine wp_loop_rounds 1 ?_
  rw [rounds_succ]
  go_wp2_with (fail)
  go_ret
  refine ⟨1, by omega, rfl, ?_, (Below.refl _ _).alloc (Nat.le_refl _) _⟩
  intro j hj
  match j, hj with
  | 0, _ => exact ⟨_, cell_of_blk (j := 0) (heap_new w _) rfl, by unfold KyY OnY; decide +kernel⟩
set_option maxRecDepth 100000 in
set_option maxHeartbeats 1000000 in
theorem splitN_1 (w : World) : Calls Tryz.prog 85 #[.string ⟨#[97, 46, 120]⟩, .string ⟨#[46]⟩] w fun e w' => SpPost w e w' := by
  have hc : Lib.countByte (⟨#[97, 46, 120]⟩ : ByteArray).data.toList 46 = 1 := by decide
  have hmin : min (2 : Int) 4 = 2 := by decide
  have e1 : (⟨#[97, 46, 120]⟩ : ByteArray).extract 0 1 = ⟨#[97]⟩ := by decide
  have e2 : (⟨#[97, 46, 120]⟩ : ByteArray).extract 2 3 = ⟨#[120]⟩ := by decide
  have hmk : ∀ w : World, (Instr.makeSlice 112 (.int .i64 2) (.int .i64 2)).run Tryz.prog w = .ok (.slice (some ⟨w.heap.size, 0, none⟩) 2 2) (w.alloc (.cells #[.string ⟨#[]⟩, .string ⟨#[]⟩] 9)) := fun _ => by kernel_rfl
  go_enter Tryz.func85, Tryz.ntmps85
  go_wp2_with (fail)
  go_enter Tryz.func129, Tryz.ntmps129
  go_wp2_with (fail)
  refine (count_dot _ _).mono ?_
  rw [hc]
  rintro e w' ⟨rfl, rfl⟩
  go_wp2_with (fail)
  refine wp_loop_rounds 2 ?_
  rw [rounds_succ]
  go_wp2_with (fail)
  refine (index_dot _ 1 _ (by rw [Lib.toList_data]; decide) (by decide)).mono ?_
  rintro e w' ⟨rfl, rfl⟩
  go_wp2_with (fail)
  rw [rounds_succ]
  go_wp2_with (fail)
  go_ret
  refine ⟨2, by omega, rfl, ?_, (Below.refl _ _).alloc (Nat.le_refl _) _⟩
  intro j hj
  match j, hj with
  | 0, _ => exact ⟨_, cell_of_blk (j := 0) (heap_new w _) rfl, by unfold KyY OnY; decide +kernel⟩
  | 1, _ => exact ⟨_, cell_of_blk (j := 1) (heap_new w _) rfl, by unfold KyY OnY; decide +kernel⟩
set_option maxRecDepth 100000 in
set_option maxHeartbeats 1000000 in
theorem splitN_2 (w : World) : Calls Tryz.prog 85 #[.string ⟨#[97, 46, 120, 46, 112]⟩, .string ⟨#[46]⟩] w fun e w' => SpPost w e w' := by
  have hc : Lib.countByte (⟨#[97, 46, 120, 46, 112]⟩ : ByteArray).data.toList 46 = 2 := by decide
  have hmin : min (3 : Int) 6 = 3 := by decide
  have e1 : (⟨#[97, 46, 120, 46, 112]⟩ : ByteArray).extract 0 1 = ⟨#[97]⟩ := by decide
  have e2 : (⟨#[97, 46, 120, 46, 112]⟩ : ByteArray).extract 2 5 = ⟨#[120, 46, 112]⟩ := by decide
  have e3 : (⟨#[120, 46, 112]⟩ : ByteArray).extract 0 1 = ⟨#[120]⟩ := by decide
  have e4 : (⟨#[120, 46, 112]⟩ : ByteArray).extract 2 3 = ⟨#[112]⟩ := by decide
  have hmk : ∀ w : World, (Instr.makeSlice 112 (.int .i64 3) (.int .i64 3)).run Tryz.prog w = .ok (.slice (some ⟨w.heap.size, 0, none⟩) 3 3) (w.alloc (.cells #[.string ⟨#[]⟩, .string ⟨#[]⟩, .string ⟨#[]⟩] 9)) := fun _ => by kernel_rfl
  go_enter Tryz.func85, Tryz.ntmps85
  go_wp2_with (fail)
  go_enter Tryz.func129, Tryz.ntmps129
  go_wp2_with (fail)
  refine (count_dot _ _).mono ?_
  rw [hc]
  rintro e w' ⟨rfl, rfl⟩
  go_wp2_with (fail)
  refine wp_loop_rounds 3 ?_
  rw [rounds_succ]
  go_wp2_with (fail)
  refine (index_dot _ 1 _ (by rw [Lib.toList_data]; decide) (by decide)).mono ?_
  rintro e w' ⟨rfl, rfl⟩
  go_wp2_with (fail)
  rw [rounds_succ]
  go_wp2_with (fail)
  refine (index_dot _ 1 _ (by rw [Lib.toList_data]; decide) (by decide)).mono ?_
  rintro e w' ⟨rfl, rfl⟩
  go_wp2_with (fail)
  rw [rounds_succ]
  go_wp2_with (fail)
  go_ret
  refine ⟨3, by omega, rfl, ?_, (Below.refl _ _).alloc (Nat.le_refl _) _⟩
  intro j hj
  match j, hj with
  | 0, _ => exact ⟨_, cell_of_blk (j := 0) (heap_new w _) rfl, by unfold KyY OnY; decide +kernel⟩
  | 1, _ => exact ⟨_, cell_of_blk (j := 1) (heap_new w _) rfl, by unfold KyY OnY; decide +kernel⟩
  | 2, _ => exact ⟨_, cell_of_blk (j := 2) (heap_new w _) rfl, by unfold KyY OnY; decide +kernel⟩
set_option maxRecDepth 100000 in
set_option maxHeartbeats 1000000 in
theorem splitN_3 (w : World) : Calls Tryz.prog 85 #[.string ⟨#[97, 46, 121]⟩, .string ⟨#[46]⟩] w fun e w' => SpPost w e w' := by
  have hc : Lib.countByte (⟨#[97, 46, 121]⟩ : ByteArray).data.toList 46 = 1 := by decide
  have hmin : min (2 : Int) 4 = 2 := by decide
  have e1 : (⟨#[97, 46, 121]⟩ : ByteArray).extract 0 1 = ⟨#[97]⟩ := by decide
  have e2 : (⟨#[97, 46, 121]⟩ : ByteArray).extract 2 3 = ⟨#[121]⟩ := by decide
  have hmk : ∀ w : World, (Instr.makeSlice 112 (.int .i64 2) (.int .i64 2)).run Tryz.prog w = .ok (.slice (some ⟨w.heap.size, 0, none⟩) 2 2) (w.alloc (.cells #[.string ⟨#[]⟩, .string ⟨#[]⟩] 9)) := fun _ => by kernel_rfl
  go_enter Tryz.func85, Tryz.ntmps85
  go_wp2_with (fail)
  go_enter Tryz.func129, Tryz.ntmps129
  go_wp2_with (fail)
  refine (count_dot _ _).mono ?_
  rw [hc]
  rintro e w' ⟨rfl, rfl⟩
  go_wp2_with (fail)
  refine wp_loop_rounds 2 ?_
  rw [rounds_succ]
  go_wp2_with (fail)
  refine (index_dot _ 1 _ (by rw [Lib.toList_data]; decide) (by decide)).mono ?_
  rintro e w' ⟨rfl, rfl⟩
  go_wp2_with (fail)
  rw [rounds_succ]
  go_wp2_with (fail)
  go_ret
  refine ⟨2, by omega, rfl, ?_, (Below.refl _ _).alloc (Nat.le_refl _) _⟩
  intro j hj
  match j, hj with
  | 0, _ => exact ⟨_, cell_of_blk (j := 0) (heap_new w _) rfl, by unfold KyY OnY; decide +kernel⟩
  | 1, _ => exact ⟨_, cell_of_blk (j := 1) (heap_new w _) rfl, by unfold KyY OnY; decide +kernel⟩
set_option maxRecDepth 100000 in
set_option maxHeartbeats 1000000 in
theorem splitN_4 (w : World) : Calls Tryz.prog 85 #[.string ⟨#[97, 98]⟩, .string ⟨#[46]⟩] w fun e w' => SpPost w e w' := by
  have hc : Lib.countByte (⟨#[97, 98]⟩ : ByteArray).data.toList 46 = 0 := by decide
  have hmin : min (1 : Int) 3 = 1 := by decide
  have hmk : ∀ w : World, (Instr.makeSlice 112 (.int .i64 1) (.int .i64 1)).run Tryz.prog w = .ok (.slice (some ⟨w.heap.size, 0, none⟩) 1 1) (w.alloc (.cells #[.string ⟨#[]⟩] 9)) := fun _ => by kernel_rfl
  go_enter Tryz.func85, Tryz.ntmps85
  go_wp2_with (fail)
  go_enter Tryz.func129, Tryz.ntmps129
  go_wp2_with (fail)
  refine (count_dot _ _).mono ?_
  rw [hc]
  rintro e w' ⟨rfl, rfl⟩
  go_wp2_with (fail)
  refine wp_loop_rounds 1 ?_
  rw [rounds_succ]
  go_wp2_with (fail)
  go_ret
  refine ⟨1, by omega, rfl, ?_, (Below.refl _ _).alloc (Nat.le_refl _) _⟩
  intro j hj
  match j, hj with
  | 0, _ => exact ⟨_, cell_of_blk (j := 0) (heap_new w _) rfl, by unfold KyY OnY; decide +kernel⟩
set_option maxRecDepth 100000 in
set_option maxHeartbeats 1000000 in
theorem splitN_5 (w : World) : Calls Tryz.prog 85 #[.string ⟨#[98]⟩, .string ⟨#[46]⟩] w fun e w' => SpPost w e w' := by
  have hc : Lib.countByte (⟨#[98]⟩ : ByteArray).data.toList 46 = 0 := by decide
  have hmin : min (1 : Int) 2 = 1 := by decide
  have hmk : ∀ w : World, (Instr.makeSlice 112 (.int .i64 1) (.int .i64 1)).run Tryz.prog w = .ok (.slice (some ⟨w.heap.size, 0, none⟩) 1 1) (w.alloc (.cells #[.string ⟨#[]⟩] 9)) := fun _ => by kernel_rfl
  go_enter Tryz.func85, Tryz.ntmps85
  go_wp2_with (fail)
  go_enter Tryz.func129, Tryz.ntmps129
  go_wp2_with (fail)
  refine (count_dot _ _).mono ?_
  rw [hc]
  rintro e w' ⟨rfl, rfl⟩
  go_wp2_with (fail)
  refine wp_loop_rounds 1 ?_
  rw [rounds_succ]
  go_wp2_with (fail)
  go_ret
  refine ⟨1, by omega, rfl, ?_, (Below.refl _ _).alloc (Nat.le_refl _) _⟩
  intro j hj
  match j, hj with
  | 0, _ => exact ⟨_, cell_of_blk (j := 0) (heap_new w _) rfl, by unfold KyY OnY; decide +kernel⟩
set_option maxRecDepth 100000 in
set_option maxHeartbeats 1000000 in
theorem splitN_6 (w : World) : Calls Tryz.prog 85 #[.string ⟨#[98, 46, 122]⟩, .string ⟨#[46]⟩] w fun e w' => SpPost w e w' := by
  have hc : Lib.countByte (⟨#[98, 46, 122]⟩ : ByteArray).data.toList 46 = 1 := by decide
  have hmin : min (2 : Int) 4 = 2 := by decide
  have e1 : (⟨#[98, 46, 122]⟩ : ByteArray).extract 0 1 = ⟨#[98]⟩ := by decide
  have e2 : (⟨#[98, 46, 122]⟩ : ByteArray).extract 2 3 = ⟨#[122]⟩ := by decide
  have hmk : ∀ w : World, (Instr.makeSlice 112 (.int .i64 2) (.int .i64 2)).run Tryz.prog w = .ok (.slice (some ⟨w.heap.size, 0, none⟩) 2 2) (w.alloc (.cells #[.string ⟨#[]⟩, .string ⟨#[]⟩] 9)) := fun _ => by kernel_rfl
  go_enter Tryz.func85, Tryz.ntmps85
  go_wp2_with (fail)
  go_enter Tryz.func129, Tryz.ntmps129
  go_wp2_with (fail)
  refine (count_dot _ _).mono ?_
  rw [hc]
  rintro e w' ⟨rfl, rfl⟩
  go_wp2_with (fail)
  refine wp_loop_rounds 2 ?_
  rw [rounds_succ]
  go_wp2_with (fail)
  refine (index_dot _ 1 _ (by rw [Lib.toList_data]; decide) (by decide)).mono ?_
  rintro e w' ⟨rfl, rfl⟩
  go_wp2_with (fail)
  rw [rounds_succ]
  go_wp2_with (fail)
  go_ret
  refine ⟨2, by omega, rfl, ?_, (Below.refl _ _).alloc (Nat.le_refl _) _⟩
  intro j hj
  match j, hj with
  | 0, _ => exact ⟨_, cell_of_blk (j := 0) (heap_new w _) rfl, by unfold KyY OnY; decide +kernel⟩
  | 1, _ => exact ⟨_, cell_of_blk (j := 1) (heap_new w _) rfl, by unfold KyY OnY; decide +kernel⟩
theorem splitN_any (i : Nat) (w : World) : Calls Tryz.prog 85 #[.string (nm i), .string ⟨#[46]⟩] w fun e w' => SpPost w e w' := by
  match i with
  | 0 => exact splitN_0 w
  | 1 => exact splitN_1 w
  | 2 => exact splitN_2 w
  | 3 => exact splitN_3 w
  | 4 => exact splitN_4 w
  | 5 => exact splitN_5 w
  | _ + 6 => exact splitN_6 w
theorem propName_any (i : Nat) (w : World) : Calls Tryz.prog 62 #[.string (nm i)] w fun e w' => e = .returned (.bool true) ∧ Below w.heap.size w w' := by
  go_enter Tryz.func62, Tryz.ntmps62
  go_wp2_with (fail)
  refine (splitN_any i w).mono ?_
  rintro e w1 ⟨n, hn, rfl, hs, hb⟩
  have HS := Lib.hid hs
  have HB := Lib.hid hb
  clear hs hb
  have hn8 : (n : Int) ≤ 8 := by omega
  go_wp2_with (fail)
  refine (containsF_any _ _ n n w1 (by omega) HS.out).mono ?_
  rintro e w2 ⟨rfl, rfl⟩
  go_wp2_with (fail)
  go_ret
  exact ⟨rfl, HB.out⟩
end Go.Proofs.YtkcpfppjdjkjeaaGreatDoor
