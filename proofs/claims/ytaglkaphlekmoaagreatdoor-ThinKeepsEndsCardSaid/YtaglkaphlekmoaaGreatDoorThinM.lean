/- series.middle: by its contract. -/
import Derived.Test.YtaglkaphlekmoaaGreatDoorThinA
import Derived.Deep.RegionHeld3
import Derived.BigRegion
import Derived.Deep.RegionLawGrows
namespace Go.Proofs.YtaglkaphlekmoaaGreatDoor
open Go.RowKit

set_option maxRecDepth 100000 in
set_option maxHeartbeats 2000000 in
theorem middle_any (l : List Smp) (n c b o : Nat) (w : World) (hn : l.length = n) (hn0 : 0 < n) (hn2 : n ≤ 100) (hb : b < w.heap.size) (hc : Cells w b o (cellsOf l)) (hv : ∀ s ∈ l, (0 ≤ s.1 ∧ s.1 ≤ 20000) ∧ -1000 ≤ s.2 ∧ s.2 ≤ 1000) :
    Calls Tryz.prog 63 #[.slice (some ⟨b, o, none⟩) n c] w fun e w' => (∃ ma mv : Int, e = .returned (.agg #[.string ⟨#[]⟩, .string ⟨#[]⟩, .int .i64 ma, .int .i64 mv]) ∧ (0 ≤ ma ∧ ma ≤ 20000) ∧ -1000 ≤ mv ∧ mv ≤ 1000) ∧ Below w.heap.size w w' := by
  have HC := Lib.hid hc
  have HV := Lib.hid hv
  clear hc hv
  go_enter Tryz.func63, Tryz.ntmps63
  go_wp2_with (fail)
  generalize hW : (w.alloc (.cells #[.string ⟨#[]⟩, .string ⟨#[]⟩, .int .i64 0, .int .i64 0] 53)).alloc (.cells #[.string ⟨#[]⟩, .string ⟨#[]⟩, .int .i64 0, .int .i64 0] 53) = W
  have hWs : W.heap.size = w.heap.size + 1 + 1 := by rw [← hW]; simp
  have hBW : Below w.heap.size w W := by rw [← hW]; exact ((Below.refl _ _).alloc (Nat.le_refl _) _).alloc (by simp) _
  have hz : W.heap[w.heap.size]? = some (.cells #[.string ⟨#[]⟩, .string ⟨#[]⟩, .int .i64 0, .int .i64 0] 53) := by rw [← hW, Below.heap_alloc _ _ _ (by simp)]; exact heap_new w _
  have hm : W.heap[w.heap.size + 1]? = some (.cells #[.string ⟨#[]⟩, .string ⟨#[]⟩, .int .i64 0, .int .i64 0] 53) := by rw [← hW]; have := heap_new (w.alloc (.cells #[.string ⟨#[]⟩, .string ⟨#[]⟩, .int .i64 0, .int .i64 0] 53)) (.cells #[.string ⟨#[]⟩, .string ⟨#[]⟩, .int .i64 0, .int .i64 0] 53); simpa using this
  have HZM := Lib.hid (And.intro hz hm)
  have HBW := Lib.hid hBW
  clear hW hz hm hBW
  go_loopw [8] (fun i wr => ∃ (k : Nat) (sa sv : Int), k ≤ n ∧ i = .int .i64 k ∧ (0 ≤ sa ∧ sa ≤ 20000 * (k : Int)) ∧ (-(1000 * (k : Int)) ≤ sv ∧ sv ≤ 1000 * (k : Int)) ∧ wr.heap[w.heap.size]? = some (.cells #[.string ⟨#[]⟩, .string ⟨#[]⟩, .int .i64 0, .int .i64 0] 53) ∧
      wr.heap[w.heap.size + 1]? = some (.cells #[.string ⟨#[]⟩, .string ⟨#[]⟩, .int .i64 sa, .int .i64 sv] 53) ∧ W.heap.size ≤ wr.heap.size ∧ Below w.heap.size w wr) (fun i _ => n - (intOf i).toNat)
  case atStart => exact ⟨0, 0, 0, Nat.zero_le _, rfl, by omega, by omega, HZM.out.1, HZM.out.2, Nat.le_refl _, HBW.out⟩
  case round =>
    obtain ⟨k, sa, sv, hk, rfl, hsa, hsv, hz, hm, hsz, hbl⟩ := hrel
    have HZ := Lib.hid hz
    have HM := Lib.hid hm
    have HBL := Lib.hid hbl
    have m2 := cell_of_blk (j := 2) hm rfl
    have m3 := cell_of_blk (j := 3) hm rfl
    have fr : ∀ j, wr.frozen? ⟨w.heap.size + 1, j, none⟩ = false := by intro j; simp [World.frozen?, hm]
    have f2 := fr 2
    have f3 := fr 3
    have hqw : w.heap.size + 1 < wr.heap.size := by omega
    by_cases hlt : k < n
    · obtain ⟨x, hx⟩ : ∃ x, l[k]? = some x := ⟨_, List.getElem?_eq_getElem (by omega)⟩
      obtain ⟨s0, s1, s2, s3⟩ := smp_cells (HC.out.keep (hbl.block b hb)) k x hx
      have hxv := HV.out x (List.mem_of_getElem? hx)
      obtain ⟨xa, xv⟩ := x
      simp only at s2 s3 hxv
      have hlt' : (k : Int) < (n : Int) := by omega
      have hbw : b < wr.heap.size := by omega
      clear hz hm hbl hx fr
      go_wp2_with (fail)
      go_roundw
      case rel =>
        refine ⟨k + 1, sa + xa, sv + xv, by omega, by go_num, by omega, by omega, ?_, ?_, ?_, ?_⟩
        · rw [Below.heap_alloc _ _ _ (by simp [World.setCell]; omega), Below.heap_setCell _ ⟨w.heap.size + 1, 3, none⟩ _ _ (by show w.heap.size ≠ w.heap.size + 1; omega), Below.heap_setCell _ ⟨w.heap.size + 1, 2, none⟩ _ _ (by show w.heap.size ≠ w.heap.size + 1; omega)]
          exact HZ.out
        · rw [Below.heap_alloc _ _ _ (by simp [World.setCell]; omega)]
          simp [World.setCell, Array.getElem?_modify, HM.out]
        · simp [World.setCell]; omega
        · exact ((HBL.out.setCell (p := ⟨w.heap.size + 1, 2, none⟩) (by show w.heap.size ≤ w.heap.size + 1; omega) _).setCell (p := ⟨w.heap.size + 1, 3, none⟩) (by show w.heap.size ≤ w.heap.size + 1; omega) _).alloc (by simp [World.setCell]; omega) _
      case measure => simp [intOf]; omega
    · have hkn : k = n := by omega
      subst hkn
      clear hz hm hbl fr
      have hq1 : 0 ≤ sa / (k : Int) ∧ sa / (k : Int) ≤ 20000 := ⟨Int.ediv_nonneg (by omega) (by omega), Int.ediv_le_of_le_mul (by omega) (by omega)⟩
      have hq2 : -1000 ≤ sv / (k : Int) ∧ sv / (k : Int) ≤ 1000 := ⟨Int.le_ediv_of_mul_le (by omega) (by omega), Int.ediv_le_of_le_mul (by omega) (by omega)⟩
      obtain ⟨ma, ema⟩ : ∃ ma, ma = sa / (k : Int) := ⟨_, rfl⟩
      obtain ⟨mv, emv⟩ : ∃ mv, mv = sv / (k : Int) := ⟨_, rfl⟩
      have HD := Lib.hid (fun (V : World) => down_any sv (k : Int) V (by omega) (by omega) (by omega) (by omega))
      rw [← emv] at HD hq2
      rw [← ema] at hq1
      have hk0 : ¬ (k : Int) = 0 := by omega
      have hk0n : ¬ k = 0 := by omega
      have hwq : IntKind.i64.wrap (sa.tdiv (k : Int)) = ma := by rw [ema, Int.tdiv_eq_ediv_of_nonneg (by omega), ← ema, IntKind.wrap_i64]; omega
      clear ema emv
      go_upto_region 8 with (fail)
      go_cut [29] (fun _ wx => wx.heap[w.heap.size + 1]? = some (.cells #[.string ⟨#[]⟩, .string ⟨#[]⟩, .int .i64 ma, .int .i64 mv] 53) ∧ wx.heap[w.heap.size]? = some (.cells #[.string ⟨#[]⟩, .string ⟨#[]⟩, .int .i64 0, .int .i64 0] 53) ∧ Below w.heap.size w wx)
      case first =>
        go_region_law (first | (go_simp; go_at_call 96; refine (HD.out _).mono ?_; rintro e w' ⟨rfl, rfl⟩))
        all_goals
          go_wp2_with (fail)
          go_meet
          refine ⟨?_, ?_, ?_⟩
          · show ((wr.setCell ⟨w.heap.size + 1, 2, none⟩ (.int .i64 ma)).setCell ⟨w.heap.size + 1, 3, none⟩ (.int .i64 mv)).heap[w.heap.size + 1]? = _
            simp [World.setCell, Array.getElem?_modify, HM.out]
          · show ((wr.setCell ⟨w.heap.size + 1, 2, none⟩ (.int .i64 ma)).setCell ⟨w.heap.size + 1, 3, none⟩ (.int .i64 mv)).heap[w.heap.size]? = _
            rw [Below.heap_setCell _ ⟨w.heap.size + 1, 3, none⟩ _ _ (by show w.heap.size ≠ w.heap.size + 1; omega), Below.heap_setCell _ ⟨w.heap.size + 1, 2, none⟩ _ _ (by show w.heap.size ≠ w.heap.size + 1; omega)]
            exact HZ.out
          · exact ((HBL.out.setCell (p := ⟨w.heap.size + 1, 2, none⟩) (by show w.heap.size ≤ w.heap.size + 1; omega) _).setCell (p := ⟨w.heap.size + 1, 3, none⟩) (by show w.heap.size ≤ w.heap.size + 1; omega) _).drew
      case rest =>
        obtain ⟨hm', hz', hb'⟩ := hcut
        obtain ⟨V, rfl⟩ : ∃ V : World, V = wc := ⟨_, rfl⟩
        have HB' := Lib.hid hb'
        have x0 := cell_of_blk (j := 0) hm' rfl
        have x1 := cell_of_blk (j := 1) hm' rfl
        have x2 := cell_of_blk (j := 2) hm' rfl
        have x3 := cell_of_blk (j := 3) hm' rfl
        have z0 := cell_of_blk (j := 0) hz' rfl
        have z1 := cell_of_blk (j := 1) hz' rfl
        have z2 := cell_of_blk (j := 2) hz' rfl
        have z3 := cell_of_blk (j := 3) hz' rfl
        have fz : ∀ j, V.frozen? ⟨w.heap.size, j, none⟩ = false := by intro j; simp [World.frozen?, hz']
        have g0 := fz 0
        have g1 := fz 1
        have g2 := fz 2
        have g3 := fz 3
        have HW2 : ((((V.setCell ⟨w.heap.size, 0, none⟩ (.string ⟨#[]⟩)).setCell ⟨w.heap.size, 1, none⟩ (.string ⟨#[]⟩)).setCell ⟨w.heap.size, 2, none⟩ (.int .i64 ma)).setCell ⟨w.heap.size, 3, none⟩ (.int .i64 mv)).heap[w.heap.size]? = some (.cells #[.string ⟨#[]⟩, .string ⟨#[]⟩, .int .i64 ma, .int .i64 mv] 53) := by
          simp [World.setCell, Array.getElem?_modify, hz']
        have q0 := Lib.hid (cell_of_blk (j := 0) HW2 rfl)
        have q1 := Lib.hid (cell_of_blk (j := 1) HW2 rfl)
        have q2 := Lib.hid (cell_of_blk (j := 2) HW2 rfl)
        have q3 := Lib.hid (cell_of_blk (j := 3) HW2 rfl)
        clear hm' hz' hb' fz HW2
        go_wp2_with (fail)
        have r0 := q0.out
        have r1 := q1.out
        have r2 := q2.out
        have r3 := q3.out
        refine bodyPost_ret (v := .agg #[.string ⟨#[]⟩, .string ⟨#[]⟩, .int .i64 ma, .int .i64 mv]) (by simp [results, Tryz.results63, go_sem, r0, r1, r2, r3]) rfl ⟨⟨ma, mv, rfl, hq1, hq2⟩, ?_⟩
        exact (((HB'.out.setCell (by simp) _).setCell (by simp) _).setCell (by simp) _).setCell (by simp) _
end Go.Proofs.YtaglkaphlekmoaaGreatDoor
