/- h10facts returns true. -/
import Derived.Test.YtaglkaphlekmoaaDoorVers3
import Derived.Test.YtaglkaphlekmoaaDoorPack
import Derived.Test.YtaglkaphlekmoaaDoorEqual
namespace Go.Proofs.YtaglkaphlekmoaaDoor
open Go.RowKit

theorem good_11 : GoodS [(1, 1)] := by
  refine ⟨by simp, ?_, ?_, ?_⟩
  · intro i x h
    match i, h with
    | 0, h => simp at h; subst h; simp
  · intro i x h
    match i, h with
    | 0, h => simp at h; subst h; simp
  · intro i x y h h2
    match i, h2 with
    | 0, h2 => simp at h2

set_option maxRecDepth 100000 in
set_option maxHeartbeats 2000000 in
theorem h10facts_yes (w : World) : Calls Tryd.prog 10 #[] w fun e w' => e = .returned (.bool true) ∧ Below w.heap.size w w' := by
  have HSB := Lib.hid ((Below.refl w.heap.size w).alloc (Nat.le_refl _) (.cells #[.string ⟨#[100]⟩, .string ⟨#[109]⟩, .int .i64 1, .int .i64 1] 41))
  have HROW0 := Lib.hid (show Row (w.alloc (.cells #[.string ⟨#[100]⟩, .string ⟨#[109]⟩, .int .i64 1, .int .i64 1] 41)) (w.alloc (.cells #[.string ⟨#[100]⟩, .string ⟨#[109]⟩, .int .i64 1, .int .i64 1] 41)).heap.size (some ⟨w.heap.size, 0, none⟩) (cellsOf [(1, 1)]) from .inr ⟨_, _, rfl, by simp, Cells.new _ _ _ _ _ rfl⟩)
  have HPK := Lib.hid (show packL [(1, 1)] = [1, 2, 2] by decide)
  go_enter Tryd.func10, Tryd.ntmps10
  go_wp2_with (fail)
  refine (pack_any [(1, 1)] 1 1 (some ⟨w.heap.size, 0, none⟩) _ rfl good_11 HROW0.out (by simp [StepsOk])).mono ?_
  rintro e w1 ⟨v1, rfl, hown1, hb1⟩
  rw [HPK.out] at hown1
  obtain ⟨A1, c1, rfl⟩ := own_slice hown1
  have hs1 := hb1.size
  simp only [World.size_alloc] at hs1
  have HO1 := Lib.hid hown1
  have HB1 := Lib.hid (HSB.out.trans (hb1.mono (by simp)))
  clear hown1 hb1
  go_wp2_with (fail)
  refine (parse_123 w1).mono ?_
  rintro e w2 ⟨rfl, hb2⟩
  have hs2 := hb2.size
  have HO2 := Lib.hid (own_below HO1.out hb2)
  have HB2 := Lib.hid (HB1.out.trans (hb2.mono (by omega)))
  clear hb2
  have hn2 := heap_new w2 (.cells #[.int .i64 1, .int .i64 2, .int .i64 3] 66)
  have HN2 := Lib.hid hn2
  have HBn := Lib.hid (HB2.out.alloc (by omega) (.cells #[.int .i64 1, .int .i64 2, .int .i64 3] 66))
  have HOn := Lib.hid (HO2.out.alloc (.cells #[.int .i64 1, .int .i64 2, .int .i64 3] 66))
  clear hn2
  go_wp2_with (fail)
  refine (cell_00 _).mono ?_
  rintro e w3 ⟨rfl, hb3⟩
  have hs3 := hb3.size
  simp only [World.size_alloc] at hs3
  have hv3 := (hb3.block w2.heap.size (by simp)).trans HN2.out
  have HO3 := Lib.hid (own_below HOn.out hb3)
  have HB3 := Lib.hid (HBn.out.trans (hb3.mono (by simp; omega)))
  have HV3 := Lib.hid hv3
  have HR3 := Lib.hid (show Row (w3.alloc (.cells #[.int .u8 1, .int .u8 2, .int .u8 2] 5)) (w3.alloc (.cells #[.int .u8 1, .int .u8 2, .int .u8 2] 5)).heap.size A1 (bytesV [1, 2, 2]) from ((own_row HO3.out).keep fun b hb => Below.heap_alloc _ _ b hb).mono (by simp))
  have HR3' := Lib.hid (show Row (w3.alloc (.cells #[.int .u8 1, .int .u8 2, .int .u8 2] 5)) (w3.alloc (.cells #[.int .u8 1, .int .u8 2, .int .u8 2] 5)).heap.size (some ⟨w3.heap.size, 0, none⟩) (bytesV [1, 2, 2]) from .inr ⟨_, _, rfl, by simp, Cells.new _ _ _ _ _ rfl⟩)
  clear hb3 hv3
  go_wp2_with (fail)
  refine (eqBytes_any [1, 2, 2] 3 c1 3 A1 (some ⟨w3.heap.size, 0, none⟩) _ rfl (by omega) HR3.out HR3'.out).mono ?_
  rintro e w4 ⟨rfl, hb4⟩
  have hs4 := hb4.size
  simp only [World.size_alloc] at hs4
  have hv4 := (hb4.block w2.heap.size (by simp; omega)).trans ((Below.heap_alloc w3 _ _ (by omega)).trans HV3.out)
  have y2 := cell_of_blk (j := 2) hv4 rfl
  have HB4 := Lib.hid ((HB3.out.alloc (by omega) (.cells #[.int .u8 1, .int .u8 2, .int .u8 2] 5)).trans (hb4.mono (by simp; omega)))
  clear hb4 hv4
  go_wp2_with (fail)
  go_ret
  exact ⟨rfl, HB4.out⟩
end Go.Proofs.YtaglkaphlekmoaaDoor
