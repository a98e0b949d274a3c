/- fleetkeep2.ready returns true. -/
import Derived.Test.YtbimiojoihfnkaaGreatDoorVers3
import Derived.Test.YtbimiojoihfnkaaGreatDoorPack
import Derived.Test.YtbimiojoihfnkaaGreatDoorEqual
import Derived.Test.YtbimiojoihfnkaaGreatDoorRdD
import Derived.Test.YtbimiojoihfnkaaGreatDoorRdE
namespace Go.Proofs.YtbimiojoihfnkaaGreatDoor
open Go.RowKit

theorem good_11 : GoodS [(1, 1)] := by
  refine ⟨by simp, ?_, ?_, ?_⟩
  · intro i x h
    match i, h with
    | 0, h => simp at h; subst h; simp
  · intro i x h
    match i, h with
    | 0, h => simp at h; subst h; simp
  · intro i x y h h2
    match i, h2 with
    | 0, h2 => simp at h2

set_option maxRecDepth 100000 in
set_option maxHeartbeats 4000000 in
theorem ready_yes (w : World) : Calls Tryz.prog 15 #[] w fun e w' => e = .returned (.bool true) ∧ Below w.heap.size w w' := by
  have HA := Lib.hid (show APr (w.alloc (.cells #[.string ⟨#[97]⟩, .int .i64 1, .bool false, .int .i64 0, .string ⟨#[]⟩] 81)) w.heap.size from heap_new w _)
  have HBA := Lib.hid ((Below.refl w.heap.size w).alloc (Nat.le_refl _) (.cells #[.string ⟨#[97]⟩, .int .i64 1, .bool false, .int .i64 0, .string ⟨#[]⟩] 81))
  have HPK := Lib.hid (show packL [(1, 1)] = [1, 2, 2] by decide)
  go_enter Tryz.func15, Tryz.ntmps15
  go_wp2_with (fail)
  refine (differ_a w.heap.size _ HA.out).mono ?_
  rintro e v ⟨A0, c0, rfl, hb0⟩
  have hs0 := hb0.size
  simp only [World.size_alloc] at hs0
  have HB0 := Lib.hid (HBA.out.trans (hb0.mono (by simp)))
  have HSB := Lib.hid (HB0.out.alloc (by omega) (.cells #[.string ⟨#[100]⟩, .string ⟨#[109]⟩, .int .i64 1, .int .i64 1] 56))
  have HROW0 := Lib.hid (show Row (v.alloc (.cells #[.string ⟨#[100]⟩, .string ⟨#[109]⟩, .int .i64 1, .int .i64 1] 56)) (v.alloc (.cells #[.string ⟨#[100]⟩, .string ⟨#[109]⟩, .int .i64 1, .int .i64 1] 56)).heap.size (some ⟨v.heap.size, 0, none⟩) (cellsOf [(1, 1)]) from .inr ⟨_, _, rfl, by simp, Cells.new _ _ _ _ _ rfl⟩)
  clear hb0 HA HBA
  go_wp2_with (fail)
  refine (pack_any [(1, 1)] 1 1 (some ⟨v.heap.size, 0, none⟩) _ rfl good_11 HROW0.out (by simp [StepsOk])).mono ?_
  rintro e w1 ⟨v1, rfl, hown1, hb1⟩
  rw [HPK.out] at hown1
  obtain ⟨A1, c1, rfl⟩ := own_slice hown1
  have hs1 := hb1.size
  simp only [World.size_alloc] at hs1
  have HO1 := Lib.hid hown1
  have HB1 := Lib.hid (HSB.out.trans (hb1.mono (by simp; omega)))
  clear hown1 hb1 HROW0 HSB
  go_wp2_with (fail)
  refine (parse_123 w1).mono ?_
  rintro e w2 ⟨rfl, hb2⟩
  have hs2 := hb2.size
  have HO2 := Lib.hid (own_below HO1.out hb2)
  have HB2 := Lib.hid (HB1.out.trans (hb2.mono (by omega)))
  clear hb2
  have HN2 := Lib.hid (heap_new w2 (.cells #[.int .i64 1, .int .i64 2, .int .i64 3] 138))
  have HBn := Lib.hid (HB2.out.alloc (by omega) (.cells #[.int .i64 1, .int .i64 2, .int .i64 3] 138))
  have HOn := Lib.hid (HO2.out.alloc (.cells #[.int .i64 1, .int .i64 2, .int .i64 3] 138))
  go_wp2_with (fail)
  refine (cell_00 _).mono ?_
  rintro e w3 ⟨rfl, hb3⟩
  have hs3 := hb3.size
  simp only [World.size_alloc] at hs3
  have HV3 := Lib.hid ((hb3.block w2.heap.size (by simp)).trans HN2.out)
  have HO3 := Lib.hid (own_below HOn.out hb3)
  have HB3 := Lib.hid (HBn.out.trans (hb3.mono (by simp; omega)))
  have HL := Lib.hid (show ALt (w3.alloc (.cells #[.string ⟨#[97]⟩, .string ⟨#[]⟩, .string ⟨#[]⟩, .int .i64 0, .int .i64 0, .int .i64 5] 46)) w3.heap.size from heap_new w3 _)
  have HBL := Lib.hid (HB3.out.alloc (by omega) (.cells #[.string ⟨#[97]⟩, .string ⟨#[]⟩, .string ⟨#[]⟩, .int .i64 0, .int .i64 0, .int .i64 5] 46))
  clear hb3
  go_wp2_with (fail)
  refine (order_a w3.heap.size _ HL.out).mono ?_
  rintro e w4 ⟨A4, c4, rfl, hb4⟩
  have hs4 := hb4.size
  simp only [World.size_alloc] at hs4
  have HV4 := Lib.hid ((hb4.block w2.heap.size (by simp; omega)).trans ((Below.heap_alloc w3 _ _ (by omega)).trans HV3.out))
  have HO4 := Lib.hid (own_below (HO3.out.alloc (.cells #[.string ⟨#[97]⟩, .string ⟨#[]⟩, .string ⟨#[]⟩, .int .i64 0, .int .i64 0, .int .i64 5] 46)) hb4)
  have HB4 := Lib.hid (HBL.out.trans (hb4.mono (by simp; omega)))
  have HF := Lib.hid (Cells.new w4 #[.int .i64 0, .int .i64 0, .int .i64 0, .int .i64 0, .int .i64 0] 31 (0, 0) (List.replicate 5 (.int .i64 0)) rfl)
  clear hb4 HL HBL HO3 HV3
  go_wp2_with (go_at_call 24; refine (errs_ok 5 5 _ _ (by omega) HF.out).mono ?_; rintro e w' ⟨rfl, rfl⟩)
  generalize hW : w4.alloc (.cells #[.int .i64 0, .int .i64 0, .int .i64 0, .int .i64 0, .int .i64 0] 31) = W
  have hWs : W.heap.size = w4.heap.size + 1 := by rw [← hW]; simp
  have hBW : Below w4.heap.size w4 W := hW ▸ (Below.refl _ _).alloc (Nat.le_refl _) _
  have HVW := Lib.hid ((hBW.block w2.heap.size (by omega)).trans HV4.out)
  have HOW := Lib.hid (own_below HO4.out hBW)
  have HBW := Lib.hid (HB4.out.trans (hBW.mono (by omega)))
  clear hW hBW HF
  have HR5 := Lib.hid (show Row (W.alloc (.cells #[.int .u8 1, .int .u8 2, .int .u8 2] 5)) (W.alloc (.cells #[.int .u8 1, .int .u8 2, .int .u8 2] 5)).heap.size A1 (bytesV [1, 2, 2]) from ((own_row HOW.out).keep fun b hb => Below.heap_alloc _ _ b hb).mono (by simp))
  have HR5' := Lib.hid (show Row (W.alloc (.cells #[.int .u8 1, .int .u8 2, .int .u8 2] 5)) (W.alloc (.cells #[.int .u8 1, .int .u8 2, .int .u8 2] 5)).heap.size (some ⟨w4.heap.size + 1, 0, none⟩) (bytesV [1, 2, 2]) from .inr ⟨_, _, rfl, by simp; omega, by rw [← hWs]; exact Cells.new _ _ _ _ _ rfl⟩)
  refine (eqBytes_any [1, 2, 2] 3 c1 3 A1 (some ⟨w4.heap.size + 1, 0, none⟩) _ rfl (by omega) HR5.out HR5'.out).mono ?_
  rintro e w6 ⟨rfl, hb6⟩
  have hs6 := hb6.size
  simp only [World.size_alloc] at hs6
  have hv6 := (hb6.block w2.heap.size (by simp; omega)).trans ((Below.heap_alloc W _ _ (by omega)).trans HVW.out)
  have y2 := cell_of_blk (j := 2) hv6 rfl
  have HB6 := Lib.hid ((HBW.out.alloc (by omega) (.cells #[.int .u8 1, .int .u8 2, .int .u8 2] 5)).trans (hb6.mono (by simp; omega)))
  clear hb6 hv6
  go_wp2_with (fail)
  go_ret
  exact ⟨rfl, HB6.out⟩
end Go.Proofs.YtbimiojoihfnkaaGreatDoor
