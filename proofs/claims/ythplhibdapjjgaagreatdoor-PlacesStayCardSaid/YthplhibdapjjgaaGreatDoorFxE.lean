/- CheckFixes, trackFault of package place by their contracts. -/
import Derived.Test.YthplhibdapjjgaaGreatDoorFxC
namespace Go.Proofs.YthplhibdapjjgaaGreatDoor
open Go.RowKit

/-- The five cells of a fix. -/
theorem fix_cells {w : World} {b o : Nat} {l : List Fx} (h : Cells w b o (recs fxC l)) (k : Nat) (x : Fx) (hx : l[k]? = some x) :
    w.cell? ⟨b, o + k * 5, none⟩ = some (.string ⟨#[100]⟩) ∧ w.cell? ⟨b, o + k * 5 + 1, none⟩ = some (.int .i64 x.1) ∧ w.cell? ⟨b, o + k * 5 + 2, none⟩ = some (.int .i64 x.2.1) ∧ w.cell? ⟨b, o + k * 5 + 3, none⟩ = some (.int .i64 x.2.2.1) ∧ w.cell? ⟨b, o + k * 5 + 4, none⟩ = some (.int .i64 x.2.2.2) :=
  ⟨rec_cell fxC_len h k x hx 0 _ rfl, rec_cell fxC_len h k x hx 1 _ rfl, rec_cell fxC_len h k x hx 2 _ rfl, rec_cell fxC_len h k x hx 3 _ rfl, rec_cell fxC_len h k x hx 4 _ rfl⟩
theorem isKey_d : isKey ⟨#[100]⟩ = true := by decide
theorem cmpI_gt {a b : Int} (h : b < a) : cmpI a b = 1 := by unfold cmpI; rw [if_neg (by omega), if_pos h]

set_option maxRecDepth 100000 in
set_option maxHeartbeats 4000000 in
theorem checkFixes_any (l : List Fx) (n c : Nat) (A : Option Addr) (w : World) (hn : l.length = n) (hg : GoodF l) (hr : Row w w.heap.size A (recs fxC l)) :
    Calls Tryz.prog 34 #[.slice A n c] w fun e w' => e = .returned (.int .i64 0) ∧ Below w.heap.size w w' := by
  have hn2 : n ≤ 100 := by rw [← hn]; exact hg.len
  have HR := Lib.hid hr
  have HG := Lib.hid hg
  have HN := Lib.hid hn
  clear hr hg hn
  go_enter Tryz.func34, Tryz.ntmps34
  go_wp2_with (fail)
  go_loopw [10] (fun i wr => ∃ k : Nat, k ≤ n ∧ i = .int .i64 k ∧ Below w.heap.size w wr) (fun i _ => n - (intOf i).toNat)
  case atStart => exact ⟨0, Nat.zero_le _, rfl, Below.refl _ _⟩
  case round =>
    obtain ⟨k, hk, rfl, hbl⟩ := hrel
    have hsz := hbl.size
    have HBL := Lib.hid hbl
    by_cases hlt : k < n
    · obtain ⟨b, o, rfl, hb, hcs⟩ := Row.posR fxC_len (by omega) HR.out (by have := HN.out; omega)
      obtain ⟨x, hx⟩ : ∃ x, l[k]? = some x := ⟨_, List.getElem?_eq_getElem (by have := HN.out; omega)⟩
      have hcr := hcs.keep (hbl.block b hb)
      obtain ⟨s0, s1, s2, s3, s4⟩ := fix_cells hcr k x hx
      have ho := HG.out.get hx
      have hlt' : (k : Int) < (n : Int) := by omega
      have hbw : b < wr.heap.size := by omega
      have HCR := Lib.hid hcr
      have HX := Lib.hid hx
      obtain ⟨xa, xx, xy, xe⟩ := x
      simp only at s1 s2 s3 s4
      have o1 := ho.at0
      have o2 := ho.at1
      have o3 := ho.x0
      have o4 := ho.x1
      have o5 := ho.y0
      have o6 := ho.y1
      have o7 := ho.e0
      have o8 := ho.e1
      simp only at o1 o2 o3 o4 o5 o6 o7 o8
      have HKY := Lib.hid (fun V => key_yes ⟨#[100]⟩ V isKey_d)
      have HSP := Lib.hid (fun V => spot_any (xa, xx, xy, xe) V)
      unfold fxV at HSP
      clear hbl hcs hcr hx ho
      go_upto_region 6 with (fail)
      generalize hV : wr.alloc (.cells #[.string ⟨#[100]⟩, .int .i64 xa, .int .i64 xx, .int .i64 xy, .int .i64 xe] 42) = V
      have hVs : V.heap.size = wr.heap.size + 1 := by rw [← hV]; simp
      have hvb : V.heap[wr.heap.size]? = some (.cells #[.string ⟨#[100]⟩, .int .i64 xa, .int .i64 xx, .int .i64 xy, .int .i64 xe] 42) := by rw [← hV]; exact heap_new wr _
      have hBV : Below wr.heap.size wr V := hV ▸ (Below.refl _ _).alloc (Nat.le_refl _) _
      have v0 := cell_of_blk (j := 0) hvb rfl
      have v1 := cell_of_blk (j := 1) hvb rfl
      have v2 := cell_of_blk (j := 2) hvb rfl
      have v3 := cell_of_blk (j := 3) hvb rfl
      have v4 := cell_of_blk (j := 4) hvb rfl
      have hwv : wr.heap.size < V.heap.size := by omega
      have HVB := Lib.hid hvb
      have HBV := Lib.hid hBV
      clear hV hvb hBV s0 s1 s2 s3 s4
      go_wp2_with (first | (go_at_call 39; refine (HKY.out _).mono ?_; rintro e w' ⟨rfl, rfl⟩) | (go_at_call 69; refine (moment_yes _ _ (by omega) (by omega)).mono ?_; rintro e w' ⟨rfl, rfl⟩))
      refine (HSP.out V).mono ?_
      rintro e w2 ⟨rfl, hb2⟩
      have hs2 := hb2.size
      have HV2 := Lib.hid ((hb2.block wr.heap.size hwv).trans HVB.out)
      have HB2 := Lib.hid (HBV.out.trans (hb2.mono (by omega)))
      clear hb2 v0 v1 v2 v3 v4
      go_wp2_with (fail)
      refine (isSpot_yes xx xy w2 (by omega) (by omega) (by omega) (by omega)).mono ?_
      rintro e w3 ⟨rfl, hb3⟩
      have hs3 := hb3.size
      have hv3 := (hb3.block wr.heap.size (by omega)).trans HV2.out
      have HB3 := Lib.hid (HB2.out.trans (hb3.mono (by omega)))
      have v0 := cell_of_blk (j := 0) hv3 rfl
      have v1 := cell_of_blk (j := 1) hv3 rfl
      have v2 := cell_of_blk (j := 2) hv3 rfl
      have v3 := cell_of_blk (j := 3) hv3 rfl
      have v4 := cell_of_blk (j := 4) hv3 rfl
      have hw3 : wr.heap.size < w3.heap.size := by omega
      have hbw3 : b < w3.heap.size := by omega
      have HV3 := Lib.hid hv3
      clear hb3 hv3
      go_upto_region 10 with (go_at_call 41; refine (out_no _ _ _ _ (by omega) (by omega)).mono ?_; rintro e w' ⟨rfl, rfl⟩)
      rcases Nat.eq_zero_or_pos k with h0 | h0
      · have hd : decide ((0 : Int) < (k : Int)) = false := by simp; omega
        go_quiet (fail)
        go_wp2_with (fail)
        go_roundw
        case rel => exact ⟨k + 1, by omega, by go_num, below_drewN (HBL.out.trans (HB3.out.mono hsz)) _⟩
        case measure => simp [intOf]; omega
      · have hd : decide ((0 : Int) < (k : Int)) = true := by simp; omega
        obtain ⟨j, rfl⟩ : ∃ j, k = j + 1 := ⟨k - 1, by omega⟩
        obtain ⟨y, hy⟩ : ∃ y, l[j]? = some y := ⟨_, List.getElem?_eq_getElem (by have := HN.out; omega)⟩
        obtain ⟨t0, t1, t2, t3, t4⟩ := fix_cells (HCR.out.keep (HB3.out.block b hbw)) j y hy
        have hrise := HG.out.lt (Nat.lt_succ_self j) hy HX.out
        have HBD := Lib.hid (fun V => byDeviceF_any (xa, xx, xy, xe) y V)
        unfold fxV at HBD
        obtain ⟨ya, yx, yy, ye⟩ := y
        simp only at t1 t2 t3 t4 hrise HBD
        rw [cmpI_gt hrise] at HBD
        have hw : IntKind.i64.wrap (j : Int) = (j : Int) := by rw [IntKind.wrap_i64]; omega
        have hjn : (j : Int) < (n : Int) := by omega
        have hjn' : j < n := by omega
        clear hy hrise
        refine wp_region_still_tail 9 (by kernel_rfl) (by kernel_rfl) ?_
        simp only [List.take_succ_cons, List.take_zero, List.drop_succ_cons, List.drop_zero]
        change wpStill _ _ (World.drew _) _ _ _
        repeat still_step
        refine wpStill_nil ?_
        go_wp2_with (fail)
        refine (HBD.out _).mono ?_
        rintro e w4 ⟨rfl, hb4⟩
        have HB4 := Lib.hid (show Below w.heap.size w w4 from ((HBL.out.trans (HB3.out.mono hsz)).drew).trans (hb4.mono (by show w.heap.size ≤ w3.heap.size; omega)))
        clear hb4
        go_wp2_with (fail)
        go_roundw
        case rel => exact ⟨j + 1 + 1, by omega, by go_num, HB4.out⟩
        case measure => simp [intOf]; omega
    · have hkn : k = n := by omega
      subst hkn
      clear hbl
      go_wp2_with (fail)
      go_ret
      exact ⟨rfl, HBL.out⟩

/-- trackFault's function: no fix is of another device. -/
theorem tf1_no (x : Fx) (q n c b o : Nat) (w : World) (h0 : w.cell? ⟨q, 0, none⟩ = some (.slice (some ⟨b, o, none⟩) n c)) (hn : 0 < n) (hc : w.cell? ⟨b, o, none⟩ = some (.string ⟨#[100]⟩)) :
    Calls Tryz.prog 74 #[fxV x, .pointer (some ⟨q, 0, none⟩)] w fun e w' => e = .returned (.bool false) ∧ Below w.heap.size w w' := by
  have hq := World.block_lt_of_cell? w _ h0
  have hb := World.block_lt_of_cell? w _ hc
  simp only at hq hb
  have hn0 : (0 : Int) < (n : Int) := by omega
  obtain ⟨a, X, Y, E⟩ := x
  unfold fxV
  go_enter Tryz.func74, Tryz.ntmps74
  go_wp2_with (fail)
  go_quiet (fail)
  go_wp2_with (fail)
  go_ret
  exact ⟨rfl, below_drewN ((Below.refl _ _).alloc (Nat.le_refl _) _) _⟩

set_option maxRecDepth 100000 in
set_option maxHeartbeats 1000000 in
theorem idxF_no (l : List Fx) (q n c b o : Nat) (w : World) (hn : l.length = n) (hn5 : n ≤ 5000) (hb : b < w.heap.size) (hc : Cells w b o (recs fxC l)) (h0 : w.cell? ⟨q, 0, none⟩ = some (.slice (some ⟨b, o, none⟩) n c)) :
    Calls Tryz.prog 116 #[.slice (some ⟨b, o, none⟩) n c, .func (.func 74) #[] #[.pointer (some ⟨q, 0, none⟩)]] w fun e w' => e = .returned (.int .i64 (-1)) ∧ Below w.heap.size w w' := by
  have hq := World.block_lt_of_cell? w _ h0
  simp only at hq
  have HC := Lib.hid hc
  have H0 := Lib.hid h0
  clear hc h0
  go_enter Tryz.func116, Tryz.ntmps116
  go_wp2_with (fail)
  go_loopw [8] (fun i wr => ∃ k : Nat, k ≤ n ∧ i = .int .i64 k ∧ Below w.heap.size w wr) (fun i _ => n - (intOf i).toNat)
  case atStart => exact ⟨0, Nat.zero_le _, rfl, Below.refl _ _⟩
  case round =>
    obtain ⟨k, hk, rfl, hbl⟩ := hrel
    have hsz := hbl.size
    have HBL := Lib.hid hbl
    by_cases hlt : k < n
    · obtain ⟨x, hx⟩ : ∃ x, l[k]? = some x := ⟨_, List.getElem?_eq_getElem (by omega)⟩
      obtain ⟨y, hy⟩ : ∃ y, l[0]? = some y := ⟨_, List.getElem?_eq_getElem (by omega)⟩
      have hcr := HC.out.keep (hbl.block b hb)
      obtain ⟨c0, c1, c2, c3, c4⟩ := fix_cells hcr k x hx
      have d0 := (fix_cells hcr 0 y hy).1
      simp only [Nat.zero_mul, Nat.add_zero] at d0
      have HCALL := Lib.hid (tf1_no x q n c b o wr ((hbl.cell (p := ⟨q, 0, none⟩) hq).trans H0.out) (by omega) d0)
      unfold fxV at HCALL
      obtain ⟨a, X, Y, E⟩ := x
      simp only at c1 c2 c3 c4 HCALL
      have hlt' : (k : Int) < (n : Int) := by omega
      have hbw : b < wr.heap.size := by omega
      clear hbl hcr hx hy d0
      go_wp2_with (fail)
      refine HCALL.out.mono ?_
      rintro e w' ⟨rfl, hbw'⟩
      have HB3 := Lib.hid (show Below w.heap.size w w' from (HBL.out).trans (hbw'.mono hsz))
      clear hbw'
      go_wp2_with (fail)
      go_roundw
      case rel => exact ⟨k + 1, by omega, by go_num, HB3.out⟩
      case measure => simp [intOf]; omega
    · clear hbl
      go_wp2_with (fail)
      go_ret
      exact ⟨rfl, HBL.out⟩
theorem idxF_nil (A : Option Addr) (c : Nat) (f : Value) (w : World) : Calls Tryz.prog 116 #[.slice A 0 c, f] w fun e w' => e = .returned (.int .i64 (-1)) ∧ w = w' := by
  go_enter Tryz.func116, Tryz.ntmps116
  go_wp2_with (fail)
  refine wp_loop_rounds 1 ?_
  rw [rounds_succ]
  go_wp2_with (fail)
  go_ret
  exact ⟨rfl, rfl⟩
theorem trackFault_any (l : List Fx) (n c : Nat) (A : Option Addr) (w : World) (hn : l.length = n) (hg : GoodF l) (hr : Row w w.heap.size A (recs fxC l)) :
    Calls Tryz.prog 40 #[.slice A n c] w fun e w' => e = .returned (.int .i64 0) ∧ Below w.heap.size w w' := by
  have hn2 : n ≤ 100 := by rw [← hn]; exact hg.len
  have HR := Lib.hid hr
  have HG := Lib.hid hg
  have HN := Lib.hid hn
  clear hr hg hn
  go_enter Tryz.func40, Tryz.ntmps40
  go_wp2_with (fail)
  generalize hX : w.alloc (.cells #[.slice A n c] 30) = X
  have hXs : X.heap.size = w.heap.size + 1 := by rw [← hX]; simp
  have hBX : Below w.heap.size w X := hX ▸ (Below.refl _ _).alloc (Nat.le_refl _) _
  have hxb : X.heap[w.heap.size]? = some (.cells #[.slice A n c] 30) := by rw [← hX]; exact heap_new w _
  have HXB := Lib.hid hxb
  have HBX := Lib.hid hBX
  have HRX := Lib.hid ((HR.out.below hBX).mono (show w.heap.size ≤ X.heap.size by omega))
  clear hX hBX hxb
  refine (checkFixes_any l n c A X HN.out HG.out HRX.out).mono ?_
  rintro e w1 ⟨rfl, hb1⟩
  have hs1 := hb1.size
  have hx1 := (hb1.block w.heap.size (by omega)).trans HXB.out
  have x0 := cell_of_blk (j := 0) hx1 rfl
  have hww : w.heap.size < w1.heap.size := by omega
  have HB1 := Lib.hid (HBX.out.trans (hb1.mono (by omega)))
  have HR1 := Lib.hid ((HRX.out.below hb1).mono hs1)
  have HIDX : Hid (Calls Tryz.prog 116 #[.slice A n c, .func (.func 74) #[] #[.pointer (some ⟨w.heap.size, 0, none⟩)]] w1 fun e w' => e = .returned (.int .i64 (-1)) ∧ Below w1.heap.size w1 w') := by
    refine Lib.hid ?_
    rcases Nat.eq_zero_or_pos n with h0 | h0
    · rw [h0]
      refine (idxF_nil A c _ w1).mono ?_
      rintro e w' ⟨rfl, rfl⟩
      exact ⟨rfl, Below.refl _ _⟩
    · obtain ⟨b, o, rfl, hb, hc⟩ := Row.posR fxC_len (by omega) HR1.out (by have := HN.out; omega)
      exact idxF_no l w.heap.size n c b o w1 HN.out (by omega) hb hc x0
  have HHAS : Hid (Calls Tryz.prog 73 #[.slice A n c, .func (.func 74) #[] #[.pointer (some ⟨w.heap.size, 0, none⟩)]] w1 fun e w' => e = .returned (.bool false) ∧ Below w1.heap.size w1 w') := by
    refine Lib.hid ?_
    go_enter Tryz.func73, Tryz.ntmps73
    go_wp2_with (fail)
    refine HIDX.out.mono ?_
    rintro e w' ⟨rfl, hbw⟩
    have HB := Lib.hid hbw
    clear hbw
    go_wp2_with (fail)
    go_ret
    exact ⟨rfl, HB.out⟩
  clear hb1 hx1 HIDX
  go_wp2_with (fail)
  refine HHAS.out.mono ?_
  rintro e w2 ⟨rfl, hb2⟩
  have HB2 := Lib.hid (HB1.out.trans (hb2.mono (by omega)))
  clear hb2 x0
  go_wp2_with (fail)
  go_ret
  exact ⟨rfl, HB2.out⟩
end Go.Proofs.YthplhibdapjjgaaGreatDoor
