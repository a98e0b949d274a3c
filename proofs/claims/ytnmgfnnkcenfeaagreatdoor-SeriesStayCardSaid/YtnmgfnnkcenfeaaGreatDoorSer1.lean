/- RightSeries by its contract. -/
import Derived.Test.YtnmgfnnkcenfeaaGreatDoorStream
namespace Go.Proofs.YtnmgfnnkcenfeaaGreatDoor
open Go.RowKit

theorem Tryz.infoS : (Tryz.prog.info? 37).map (fun i => (i.zero, i.size, i.bytes)) = some (some (.agg #[.string ⟨#[]⟩, .string ⟨#[]⟩, .int .i64 0, .int .i64 0]), 4, 48) := by kernel_rfl

set_option maxRecDepth 100000 in
set_option maxHeartbeats 2000000 in
theorem rightSeries_any (w : World) (p k m : Nat) (low : Int) (xs : LiA) (hk : k < 900000) (hm : m ≤ 1000) (hs : Strm w p xs k) :
    Calls Tryz.prog 4 #[.pointer (some ⟨p, 0, none⟩), .int .i64 (m : Int), .int .i64 low] w fun e w' =>
      ∃ v, e = .returned v ∧ w'.ownsRow w.heap.size 37 4 v (nextN xs k (m + 1)) (cellsOf (serL xs (k + 1) low (nextN xs k (m + 1)))) ∧
        Strm w' p xs (k + 1 + 2 * nextN xs k (m + 1)) ∧ w.grownBy w' (some p) := by
  obtain ⟨i0, hi, hz0, hz1, hz2⟩ := info_parts Tryz.infoS
  have hN := nextN_lt xs k (m + 1) (by omega)
  have hplt := hs.lt
  have HS := Lib.hid hs
  clear hs
  obtain ⟨N, eN⟩ : ∃ N, N = nextN xs k (m + 1) := ⟨_, rfl⟩
  rw [← eN] at hN ⊢
  have HE := Lib.hid eN
  clear eN
  go_enter Tryz.func4, Tryz.ntmps4
  go_wp2_with (fail)
  refine (range_nat w p k m xs (by omega) (by omega) HS.out).mono ?_
  rw [← HE.out]
  rintro e w1 ⟨rfl, hs1, hg1⟩
  have HS1 := Lib.hid hs1
  have HG1 := Lib.hid hg1
  have hz1' := hg1.size
  clear hs1 hg1
  go_wp2_with (fail)
  go_loopw [7, 8, 12] (fun v a i wr => ∃ j : Nat, j ≤ N ∧ i = .int .i64 j ∧ a = .int .i64 (serAt xs (k + 1) j) ∧ wr.ownsRow w.heap.size 37 4 v j (cellsOf (serL xs (k + 1) low j)) ∧
      Strm wr p xs (k + 1 + 2 * j) ∧ w.grownBy wr (some p)) (fun _ _ i _ => N - (intOf i).toNat)
  case atStart => exact ⟨0, Nat.zero_le _, rfl, rfl, World.ownsRow_nil _ _ _ _, HS1.out, HG1.out⟩
  case round =>
    obtain ⟨j, hj, rfl, rfl, hown, hsr, hgr⟩ := hrel
    have hszr := hgr.size
    by_cases hlt : j < N
    · have hat := serAt_range xs (k + 1) j
      have hst := serAt_step xs (k + 1) j
      have hv := serV_range xs (k + 1) low j
      have HA1 := Lib.hid (show serAt xs (k + 1) (j + 1) = serAt xs (k + 1) j + atPicks.getD (nextN xs (k + 1 + 2 * j) 9) 0 from rfl)
      have HV1 := Lib.hid (show serV xs (k + 1) low j = max low (valPicks.getD (nextN xs (k + 1 + 2 * j + 1) 11) 0) from rfl)
      have HL1 := Lib.hid (serL_succ xs (k + 1) low j)
      have hpr := hsr.lt
      have HSR := Lib.hid hsr
      have HGR := Lib.hid hgr
      have HOWN := Lib.hid hown
      clear hsr hgr hown
      go_wp2_with (fail)
      refine (pick_any _ p (k + 1 + 2 * j) _ 9 9 xs atPicks (by omega) rfl (by omega) (by omega) (HSR.out.keep fun b hb => Below.heap_alloc _ _ b (by omega)) (by omega) (Cells.new _ _ _ _ _ rfl)).mono ?_
      rintro e w2 ⟨rfl, hs2, hg2⟩
      have hp2 := hs2.lt
      have hsz2 := hg2.size
      have hda := atPicks_range (nextN xs (k + 1 + 2 * j) 9) (nextN_lt _ _ _ (by omega))
      generalize atPicks.getD (nextN xs (k + 1 + 2 * j) 9) 0 = da at hda HA1 ⊢
      have HS2 := Lib.hid hs2
      have HG2 := Lib.hid hg2
      clear hs2 hg2
      simp only [World.size_alloc] at hsz2
      have hat' : serAt xs (k + 1) j + da ≤ 1100000 := by omega
      go_wp2_with (fail)
      refine (pick_any _ p (k + 1 + 2 * j + 1) _ 11 11 xs valPicks (by omega) rfl (by omega) (by omega) (HS2.out.keep fun b hb => Below.heap_alloc _ _ b (by omega)) (by omega) (Cells.new _ _ _ _ _ rfl)).mono ?_
      rintro e w3 ⟨rfl, hs3, hg3⟩
      have hsz3 := hg3.size
      simp only [World.size_alloc] at hsz3
      have hown3 := own_kept (((own_kept (HOWN.out.alloc (.cells (List.map (Value.int .i64) atPicks).toArray 3)) HG2.out hplt)).alloc (.cells (List.map (Value.int .i64) valPicks).toArray 3)) hg3 hplt
      have hdv := valPicks_range (nextN xs (k + 1 + 2 * j + 1) 11) (nextN_lt _ _ _ (by omega))
      generalize valPicks.getD (nextN xs (k + 1 + 2 * j + 1) 11) 0 = dv at hdv HV1 ⊢
      have HS3 := Lib.hid hs3
      have HG3 := Lib.hid hg3
      clear hs3 hg3
      obtain ⟨vv, evv⟩ : ∃ vv, vv = max low dv := ⟨_, rfl⟩
      rw [← evv] at HV1
      have hmx : (if low < dv then dv else low) = vv := by rw [evv]; split <;> omega
      clear evv
      go_wp2_with (at_builtin; refine wpList_append_own _ rfl _ _ 26 rfl w.heap.size 37 i0 _ 4 48 Tryz.underlying26 hi hz0 hz1 hz2 rfl (by decide) _ _ _ rfl (hown3.alloc _) ⟨w3.heap.size, 0, none⟩ 1 1 (smpC (serAt xs (k + 1) j + da, vv)) rfl rfl ?c1 ?c2 ?c3 ?c4 ?c5 ?_)
      case c1 => exact cells_add (Cells.new _ _ _ _ _ rfl)
      case c2 => exact smpC_one _
      case c3 => unfold maxLen; omega
      case c4 => omega
      case c5 => simp only [World.size_alloc]; omega
      intro v' w4 hown4 hgr4 _
      have hrow : ∀ g, u7.ownBlock = some g → w.heap.size ≤ g := fun g hg => (hown3.lt g hg).1
      have hG := grown_row (grown_alloc (grown_trans (grown_alloc (grown_trans (grown_alloc HGR.out _) HG2.out) _) HG3.out) _) hgr4 hrow
      have hS := (HS3.out.alloc _).row hgr4 (fun g hg => by have := hrow g hg; omega)
      have HO := Lib.hid hown4
      have HG := Lib.hid hG
      have HS' := Lib.hid hS
      clear hown4 hgr4 hG hS hown3 hrow hmx
      go_wp2
      go_roundw
      case rel =>
        refine ⟨j + 1, by omega, by go_num, by rw [HA1.out], ?_, ?_, HG.out⟩
        · rw [HL1.out, cellsOf_snoc, HA1.out, HV1.out]; exact HO.out
        · exact HS'.out
      case measure => simp [intOf]; omega
    · have hjN : j = N := by omega
      subst hjN
      go_wp2
      go_ret
      exact ⟨_, rfl, hown, hsr, hgr⟩
end Go.Proofs.YtnmgfnnkcenfeaaGreatDoor
