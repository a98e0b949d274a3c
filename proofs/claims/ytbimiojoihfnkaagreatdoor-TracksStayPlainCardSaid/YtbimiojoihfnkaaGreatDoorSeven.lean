/- seven, doubled: numbers in sevens, below 16384. -/
import Derived.Test.YtbimiojoihfnkaaGreatDoorProg
import Derived.Test.YtbimiojoihfnkaaGreatDoorAppend
namespace Go.Proofs.YtbimiojoihfnkaaGreatDoor
open Go.RowKit

/-- A number below 16384 in sevens. -/
def sev (n : Nat) : List Int := if n < 128 then [(n : Int)] else [((n % 128 : Nat) : Int) + 128, ((n / 128 : Nat) : Int)]
theorem sev_len (n : Nat) : (sev n).length ≤ 2 := by unfold sev; split <;> simp
def bytesV (l : List Int) : List Value := l.map (Value.int .u8)
theorem bytesV_app (a b : List Int) : bytesV (a ++ b) = bytesV a ++ bytesV b := by simp [bytesV]
theorem bytesV_one (l : List Int) : ∀ u ∈ bytesV l, u.oneCell' = true := by
  intro u hu
  simp only [bytesV, List.mem_map] at hu
  obtain ⟨x, _, rfl⟩ := hu
  rfl
theorem Tryz.infoU8 : (Tryz.prog.info? 5).map (fun i => (i.zero, i.size, i.bytes)) = some (some (.int .u8 0), 1, 1) := by kernel_rfl

set_option maxRecDepth 100000 in
set_option maxHeartbeats 1000000 in
theorem seven_one (w : World) (base m n : Nat) (v : Value) (xs : List Int) (hown : w.ownsRow base 5 1 v m (bytesV xs)) (hm : m ≤ 1000000) (hn : n < 128) (hbase : base ≤ w.heap.size) :
    Calls Tryz.prog 182 #[v, .int .u64 (n : Int)] w fun e w' => ∃ v', e = .returned v' ∧ w'.ownsRow base 5 1 v' (m + 1) (bytesV (xs ++ [(n : Int)])) ∧ w.grownBy w' v.ownBlock ∧ Moved w v v' := by
  obtain ⟨i0, hi, hz0, hz1, hz2⟩ := info_parts Tryz.infoU8
  have hn' : (n : Int) < 128 := by omega
  have HO := Lib.hid hown
  clear hown
  go_enter Tryz.func182, Tryz.ntmps182
  go_wp2_with (fail)
  refine wp_loop_rounds 1 ?_
  rw [rounds_succ]
  go_wp2_with (at_builtin; refine wpList_append_own2 _ rfl _ _ 99 rfl base 5 i0 (.int .u8 0) 1 1 Tryz.underlying99 hi hz0 hz1 hz2 rfl (by decide) _ _ _ rfl (HO.out.alloc _) ⟨w.heap.size, 0, none⟩ 1 1 (bytesV [(n : Int)]) rfl rfl ?c1 ?c2 ?c3 ?c4 ?c5 ?_)
  case c1 => exact cells_add (Cells.new _ _ _ _ _ rfl)
  case c2 => exact bytesV_one _
  case c3 => unfold maxLen; omega
  case c4 => omega
  case c5 => simp only [World.size_alloc]; omega
  intro v' w1 hown1 hgr1 hmv1
  have HO1 := Lib.hid hown1
  have HG1 := Lib.hid (grown_of_alloc hgr1)
  have HM1 := Lib.hid (moved_of_alloc hmv1)
  clear hown1 hgr1 hmv1
  go_wp2_with (fail)
  go_ret
  exact ⟨_, rfl, by rw [bytesV_app]; exact HO1.out, HG1.out, HM1.out⟩

set_option maxRecDepth 100000 in
set_option maxHeartbeats 2000000 in
theorem seven_two (w : World) (base m n : Nat) (v : Value) (xs : List Int) (hown : w.ownsRow base 5 1 v m (bytesV xs)) (hm : m ≤ 1000000) (hn : 128 ≤ n) (hn2 : n < 16384) (hbase : base ≤ w.heap.size) :
    Calls Tryz.prog 182 #[v, .int .u64 (n : Int)] w fun e w' => ∃ v', e = .returned v' ∧ w'.ownsRow base 5 1 v' (m + 2) (bytesV (xs ++ [((n % 128 : Nat) : Int) + 128, ((n / 128 : Nat) : Int)])) ∧ w.grownBy w' v.ownBlock ∧ Moved w v v' := by
  obtain ⟨i0, hi, hz0, hz1, hz2⟩ := info_parts Tryz.infoU8
  have hn1 : (128 : Int) ≤ (n : Int) := by omega
  have hn3 : (n : Int) < 16384 := by omega
  obtain ⟨r, er⟩ : ∃ r, r = n % 128 := ⟨_, rfl⟩
  obtain ⟨q, eq⟩ : ∃ q, q = n / 128 := ⟨_, rfl⟩
  rw [← er, ← eq]
  have hr : r < 128 := by omega
  have hq : q < 128 := by omega
  have hq' : (q : Int) < 128 := by omega
  have hand : bits .and .u64 (n : Int) 127 = (r : Int) := by
    rw [show (127 : Int) = ((127 : Nat) : Int) from rfl, u64_and_nat n 127 (by omega) (by omega), er, show (127 : Nat) = 2 ^ 7 - 1 from rfl, Nat.and_two_pow_sub_one_eq_mod]
  have hor : bits .or .u8 (r : Int) 128 = (r : Int) + 128 := by
    rw [show (128 : Int) = ((128 : Nat) : Int) from rfl, u8_or_nat r 128 (by omega) (by omega), Nat.or_comm, nat_join 7 128 r (by decide) (by omega)]
    omega
  have hshr : (n : Int) / 128 = (q : Int) := by omega
  have HO := Lib.hid hown
  clear hown er eq
  go_enter Tryz.func182, Tryz.ntmps182
  go_wp2_with (fail)
  refine wp_loop_rounds 2 ?_
  rw [rounds_succ]
  go_wp2_with (at_builtin; refine wpList_append_own2 _ rfl (.tmp 7) (.tmp 12) 99 rfl base 5 i0 (.int .u8 0) 1 1 Tryz.underlying99 hi hz0 hz1 hz2 rfl (by decide) _ _ _ rfl (HO.out.alloc _) ⟨w.heap.size, 0, none⟩ 1 1 (bytesV [(r : Int) + 128]) rfl rfl ?c1 ?c2 ?c3 ?c4 ?c5 ?_)
  case c1 => exact cells_add (Cells.new _ _ _ _ _ rfl)
  case c2 => exact bytesV_one _
  case c3 => unfold maxLen; omega
  case c4 => omega
  case c5 => simp only [World.size_alloc]; omega
  intro v1 w1 hown1 hgr1 hmv1
  have hsz1 : w.heap.size ≤ w1.heap.size := (grown_of_alloc hgr1).size
  have HO1 := Lib.hid hown1
  have HG1 := Lib.hid (grown_of_alloc hgr1)
  have HM1 := Lib.hid (moved_of_alloc hmv1)
  clear hown1 hgr1 hmv1
  go_wp2_with (fail)
  rw [rounds_succ]
  go_wp2_with (at_builtin; refine wpList_append_own2 _ rfl (.tmp 16) (.tmp 19) 99 rfl base 5 i0 (.int .u8 0) 1 1 Tryz.underlying99 hi hz0 hz1 hz2 rfl (by decide) _ _ _ rfl (HO1.out.alloc _) ⟨w1.heap.size, 0, none⟩ 1 1 (bytesV [(q : Int)]) rfl rfl ?d1 ?d2 ?d3 ?d4 ?d5 ?_)
  case d1 => exact cells_add (Cells.new _ _ _ _ _ rfl)
  case d2 => exact bytesV_one _
  case d3 => unfold maxLen; omega
  case d4 => omega
  case d5 => simp only [World.size_alloc]; omega
  intro v2 w2 hown2 hgr2 hmv2
  have HO2 := Lib.hid hown2
  have HG2 := Lib.hid (grown_moved HG1.out HM1.out (grown_of_alloc hgr2))
  have HM2 := Lib.hid (HM1.out.trans (moved_of_alloc hmv2) hsz1)
  clear hown2 hgr2 hmv2
  go_wp2_with (fail)
  go_ret
  exact ⟨_, rfl, by rw [bytesV_app]; simpa [bytesV] using HO2.out, HG2.out, HM2.out⟩

theorem seven_any (w : World) (base m n : Nat) (v : Value) (xs : List Int) (hown : w.ownsRow base 5 1 v m (bytesV xs)) (hm : m ≤ 1000000) (hn : n < 16384) (hbase : base ≤ w.heap.size) :
    Calls Tryz.prog 182 #[v, .int .u64 (n : Int)] w fun e w' => ∃ v', e = .returned v' ∧ w'.ownsRow base 5 1 v' (m + (sev n).length) (bytesV (xs ++ sev n)) ∧ w.grownBy w' v.ownBlock ∧ Moved w v v' := by
  rcases Nat.lt_or_ge n 128 with h | h
  · have := seven_one w base m n v xs hown hm h hbase
    unfold sev; rw [if_pos h]; exact this
  · have := seven_two w base m n v xs hown hm h hn hbase
    unfold sev; rw [if_neg (by omega)]; exact this

/-- doubled's answer. -/
def dbl (n : Int) : Nat := if n < 0 then (-2 * n - 1).toNat else (2 * n).toNat
theorem dbl_lt (n : Int) (h1 : -8000 ≤ n) (h2 : n ≤ 8000) : dbl n < 16384 := by unfold dbl; split <;> omega
theorem doubled_any (n : Int) (w : World) (h1 : -8000 ≤ n) (h2 : n ≤ 8000) : Calls Tryz.prog 183 #[.int .i64 n] w fun e w' => e = .returned (.int .u64 (dbl n : Int)) ∧ w = w' := by
  have HD := Lib.hid (show (n < 0 → (dbl n : Int) = -2 * n - 1) ∧ (0 ≤ n → (dbl n : Int) = 2 * n) by unfold dbl; constructor <;> intro h <;> split <;> omega)
  obtain ⟨d, ed⟩ : ∃ d, d = (dbl n : Int) := ⟨_, rfl⟩
  rw [← ed] at HD ⊢
  clear ed
  go_enter Tryz.func183, Tryz.ntmps183
  go_wp2_with (fail)
  · go_ret
    exact ⟨by have := HD.out.1 (by assumption); simp [this], rfl⟩
  · go_ret
    exact ⟨by have := HD.out.2 (by assumption); simp [this], rfl⟩
end Go.Proofs.YtbimiojoihfnkaaGreatDoor
