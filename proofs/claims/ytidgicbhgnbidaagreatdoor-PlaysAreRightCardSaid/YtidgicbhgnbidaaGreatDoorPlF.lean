/- CheckMarks of right marks, as many as a play has. Printed by gen_PlG.py out of XCmB. -/
import Derived.Test.YtidgicbhgnbidaaGreatDoorPlC
namespace Go.Proofs.YtidgicbhgnbidaaGreatDoor
open Go.RowKit

structure MkqOk (l : List Mk) : Prop where
  n : l.length ≤ 100
  ok : ∀ m ∈ l, MkOk m
  ord : l.Pairwise mkL
set_option maxRecDepth 100000 in
set_option maxHeartbeats 4000000 in
theorem checkMarksL_any (l : List Mk) (n c : Nat) (A : Option Addr) (w : World) (hl : MkqOk l) (hn : l.length = n) (hr : Row w w.heap.size A (recs mkC l)) :
    Calls Tryz.prog 21 #[.slice A n c] w fun e w' => e = .returned (.int .i64 0) ∧ Below w.heap.size w w' := by
  have HF := Lib.hid hl
  have HN := Lib.hid hn
  have HR := Lib.hid hr
  have hn6 : n ≤ 100 := by rw [← hn]; exact hl.n
  have hnI : ¬ (3000 : Int) < (n : Int) := by omega
  clear hl hn hr
  go_enter Tryz.func21, Tryz.ntmps21
  go_wp2_with (fail)
  go_loopw [10] (fun i wr => ∃ k : Nat, k ≤ n ∧ i = .int .i64 (k : Int) ∧ Hid (Below w.heap.size w wr)) (fun i _ => n - (intOf i).toNat)
  case atStart => exact ⟨0, Nat.zero_le _, rfl, Lib.hid (Below.refl _ _)⟩
  case round =>
    obtain ⟨k, hk, rfl, HB⟩ := hrel
    by_cases hlt : k < n
    · have hltI : (k : Int) < (n : Int) := by omega
      obtain ⟨x, hx⟩ : ∃ x, l[k]? = some x := ⟨_, List.getElem?_eq_getElem (by have := HN.out; omega)⟩
      have hxo := HF.out.ok x (List.mem_of_getElem? hx)
      have hk1 := dvT_key hxo.d
      have HXK := Lib.hid hxo.d
      obtain ⟨xa, xb⟩ := hxo.at_
      obtain ⟨xc, xd⟩ := hxo.kd
      obtain ⟨b, o, rfl, hbw, hCl⟩ := (HR.out.below HB.out).posR mkC_len (by omega) (by have := HN.out; omega)
      have hbr : b < wr.heap.size := by have := HB.out.size; omega
      have HCl := Lib.hid hCl
      have HX := Lib.hid hx
      have e0 : wr.cell? ⟨b, o + k * 6, none⟩ = some (.int .i64 x.at_) := rec_cell mkC_len hCl k x hx 0 _ rfl
      have e1 := rec_cell mkC_len hCl k x hx 1 _ rfl
      have e2 := rec_cell mkC_len hCl k x hx 2 _ rfl
      have e3 := rec_cell mkC_len hCl k x hx 3 _ rfl
      have e4 := rec_cell mkC_len hCl k x hx 4 _ rfl
      have e5 := rec_cell mkC_len hCl k x hx 5 _ rfl
      have HV := Lib.hid (fun V => version_any x.v V hxo.v)
      unfold veV at HV
      clear hCl hx
      go_upto_region 6 with (fail)
      obtain ⟨gx, egx⟩ : ∃ y, y = wr.heap.size := ⟨_, rfl⟩
      obtain ⟨w1, ew1⟩ : ∃ V : World, V = wr.alloc (.cells #[.int .i64 x.at_, .string (dvT x.d), .int .i64 x.kd, .int .i64 x.v.a, .int .i64 x.v.b, .int .i64 x.v.c] 64) := ⟨_, rfl⟩
      have hb1 : Below wr.heap.size wr w1 := by rw [ew1]; exact (Below.refl _ _).alloc (Nat.le_refl _) _
      have hg1 : w1.heap[gx]? = some (mkB x) := by rw [ew1, egx]; exact heap_new wr _
      rw [← egx, ← ew1]
      have hl1 := (Array.getElem?_eq_some_iff.1 hg1).1
      have HB1 := Lib.hid (HB.out.trans (hb1.mono HB.out.size))
      have hbr1 : b < w1.heap.size := by have := hb1.size; omega
      have HCL1 := Lib.hid (fun j u hj => (hb1.cell (p := ⟨b, o + j, none⟩) hbr).trans (HCl.out j u hj))
      have HG1 := Lib.hid hg1
      have p0 := cell_of_blk (j := 0) hg1 rfl
      have p1 := cell_of_blk (j := 1) hg1 rfl
      have p2 := cell_of_blk (j := 2) hg1 rfl
      have p3 := cell_of_blk (j := 3) hg1 rfl
      have p4 := cell_of_blk (j := 4) hg1 rfl
      have p5 := cell_of_blk (j := 5) hg1 rfl
      clear egx ew1 hb1 hg1 e0 e1 e2 e3 e4 e5 hbr
      go_wp2_with (first
        | (go_at_call 69; (with_reducible refine (key_yes _ _ hk1).mono ?_); rintro e w' ⟨rfl, rfl⟩)
        | (go_at_call 68; refine (moment_yes _ _ (by omega) (by omega)).mono ?_; rintro e w' ⟨rfl, rfl⟩)
        | (go_at_call 62; refine (out_no _ _ _ _ (by omega) (by omega)).mono ?_; rintro e w' ⟨rfl, rfl⟩))
      refine (HV.out _).mono ?_
      rintro e w2 ⟨rfl, hb2⟩
      have hg2 := (hb2.block gx hl1).trans HG1.out
      have HB2 := Lib.hid (HB1.out.trans (hb2.mono HB1.out.size))
      have hl2 := (Array.getElem?_eq_some_iff.1 hg2).1
      have hbr2 : b < w2.heap.size := by have := hb2.size; omega
      have HCL2 := Lib.hid (fun j u hj => (hb2.cell (p := ⟨b, o + j, none⟩) hbr1).trans (HCL1.out j u hj))
      have HG2 := Lib.hid hg2
      clear p0 p1 p2 p3 p4 p5 hb2 hg2
      go_upto_region 14 with (fail)
      cases k with
      | zero =>
        refine qRegion (by kernel_rfl) (by kernel_rfl) ?_
        repeat (first
          | (go_big_quiet_want; refine qVal (fun V hV => (by (go_simp; try rfl))) ?_; simp only [Act.put, List.setIfInBounds_toArray, List.set_cons_zero, List.set_cons_succ]; go_big_quiet_on)
          | go_big_quiet_skip)
        refine wpQuiet_nil ?_
        intro w3 hb3
        have HB3 := Lib.hid (HB2.out.trans (hb3.mono HB2.out.size))
        clear hb3
        go_wp2_with (fail)
        go_roundw
        case rel => exact ⟨1, by omega, by go_num, HB3⟩
        case measure => simp [intOf]; omega
      | succ i =>
        obtain ⟨y, hy⟩ : ∃ y, l[i]? = some y := ⟨_, List.getElem?_eq_getElem (by have := HN.out; omega)⟩
        have hyo := HF.out.ok y (List.mem_of_getElem? hy)
        have hle : ¬ cmpM x y ≤ 0 := by
          rw [cmpM_le HXK.out hyo.d]
          have h1 := (List.pairwise_iff_getElem.1 HF.out.ord) i (i + 1) (by have := HN.out; omega) (by have := HN.out; omega) (by omega)
          have h2 := (List.getElem?_eq_some_iff.1 hy).2
          have h3 := (List.getElem?_eq_some_iff.1 HX.out).2
          rw [h2, h3] at h1
          exact fun h => h h1
        have HBM := Lib.hid (fun V => byMoment_any x y V)
        obtain ⟨z, ez⟩ : ∃ z, z = cmpM x y := ⟨_, rfl⟩
        rw [← ez] at hle HBM
        clear ez
        have hi1 : IntKind.i64.wrap ((i : Int) + 1 - 1) = (i : Int) := by rw [IntKind.wrap_i64]; omega
        have hi2 : IntKind.i64.wrap (i : Int) = (i : Int) := by rw [IntKind.wrap_i64]; omega
        have hiR : i < n := by omega
        have hiRI : (i : Int) < (n : Int) := by omega
        have HQ := Lib.hid (fun (V : World) (hV : Below w2.heap.size w2 V) => show V.cell? ⟨gx, 0, none⟩ = some (.int .i64 x.at_) ∧ V.cell? ⟨gx, 1, none⟩ = some (.string (dvT x.d)) ∧ V.cell? ⟨gx, 2, none⟩ = some (.int .i64 x.kd) ∧ V.cell? ⟨gx, 3, none⟩ = some (.int .i64 x.v.a) ∧ V.cell? ⟨gx, 4, none⟩ = some (.int .i64 x.v.b) ∧ V.cell? ⟨gx, 5, none⟩ = some (.int .i64 x.v.c) ∧
            V.cell? ⟨b, o + i * 6, none⟩ = some (.int .i64 y.at_) ∧ V.cell? ⟨b, o + i * 6 + 1, none⟩ = some (.string (dvT y.d)) ∧ V.cell? ⟨b, o + i * 6 + 2, none⟩ = some (.int .i64 y.kd) ∧ V.cell? ⟨b, o + i * 6 + 3, none⟩ = some (.int .i64 y.v.a) ∧ V.cell? ⟨b, o + i * 6 + 4, none⟩ = some (.int .i64 y.v.b) ∧ V.cell? ⟨b, o + i * 6 + 5, none⟩ = some (.int .i64 y.v.c) from by
          have h1 := (hV.block gx hl2).trans HG2.out
          have hq : ∀ j u, (recs mkC l)[j]? = some u → V.cell? ⟨b, o + j, none⟩ = some u := fun j u hj => (hV.cell (p := ⟨b, o + j, none⟩) hbr2).trans (HCL2.out j u hj)
          exact ⟨cell_of_blk (j := 0) h1 rfl, cell_of_blk (j := 1) h1 rfl, cell_of_blk (j := 2) h1 rfl, cell_of_blk (j := 3) h1 rfl, cell_of_blk (j := 4) h1 rfl, cell_of_blk (j := 5) h1 rfl, rec_cell mkC_len hq i y hy 0 _ rfl, rec_cell mkC_len hq i y hy 1 _ rfl, rec_cell mkC_len hq i y hy 2 _ rfl, rec_cell mkC_len hq i y hy 3 _ rfl, rec_cell mkC_len hq i y hy 4 _ rfl, rec_cell mkC_len hq i y hy 5 _ rfl⟩)
        unfold mkW at HBM
        clear hy
        refine qRegion (by kernel_rfl) (by kernel_rfl) ?_
        repeat (first
          | (go_big_quiet_want; refine qVal (fun V hV => (by (obtain ⟨q0, q1, q2, q3, q4, q5, p0, p1, p2, p3, p4, p5⟩ := HQ.out V hV; go_simp; try rfl))) ?_; simp only [Act.put, List.setIfInBounds_toArray, List.set_cons_zero, List.set_cons_succ]; go_big_quiet_on)
          | (go_big_quiet_want
             refine qCall (fun V hV => (by (obtain ⟨q0, q1, q2, q3, q4, q5, p0, p1, p2, p3, p4, p5⟩ := HQ.out V hV; go_simp; exact ⟨rfl, rfl⟩))) (fun V hV => (by first
               | with_reducible exact (HBM.out V).mono (fun e w' h => ⟨h.1, hV.trans (h.2.mono hV.size)⟩))) ?_
             simp only [Act.put, List.setIfInBounds_toArray, List.set_cons_zero, List.set_cons_succ]; go_big_quiet_on)
          | go_big_quiet_skip)
        refine wpQuiet_nil ?_
        intro w3 hb3
        have HB3 := Lib.hid (HB2.out.trans (hb3.mono HB2.out.size))
        clear hb3 HQ HBM
        go_wp2_with (fail)
        go_roundw
        case rel => exact ⟨i + 2, by omega, by go_num, HB3⟩
        case measure => simp [intOf]; omega
    · have hltI : ¬ (k : Int) < (n : Int) := by omega
      go_wp2_with (fail)
      go_ret
      exact ⟨rfl, HB.out⟩
end Go.Proofs.YtidgicbhgnbidaaGreatDoor
