/- TwinsComeToRest: the law function. -/
import Derived.Test.YtccbblnlmggjbaaGreatDoorTwC
import Derived.Test.YtccbblnlmggjbaaGreatDoorMgA
namespace Go.Proofs.YtccbblnlmggjbaaGreatDoor
open Go.RowKit

theorem viT_len {l : List Ce} (h : CsOk l) : (viF l).length ≤ 7 := by
  rw [(viF_good h).1.prs]
  exact Nat.le_trans (List.length_filterMap_le _ _) (by simp)
set_option maxRecDepth 100000 in
set_option maxHeartbeats 8000000 in
theorem twL_yes (w : World) (xs : List Int) (n c : Nat) (A0 : Option Addr) (hs : ∀ (W : World), Below w.heap.size w W → W.heap[w.heap.size]? = some (.cells #[.slice A0 n c, .int .i64 0] 25) → Strm W w.heap.size xs 0) (hT : U8T w) :
    Calls Tryz.prog 5 #[.slice A0 n c] w fun e w' => e = .returned (.bool true) ∧ Below w.heap.size w w' := by
  have HS := Lib.hid hs
  have HT := Lib.hid (fun V (hV : Below w.heap.size w V) => hT.below hV)
  clear hs hT
  go_enter Tryz.func5, Tryz.ntmps5
  go_wp2_with (fail)
  generalize hW : w.alloc (.cells #[.slice A0 n c, .int .i64 0] 25) = w0
  have hsz0 : w.heap.size < w0.heap.size := by rw [← hW]; simp
  have hB0 : Below w.heap.size w w0 := hW ▸ (Below.refl _ _).alloc (Nat.le_refl _) _
  have HST0 := Lib.hid (HS.out w0 hB0 (by rw [← hW]; exact heap_new w _))
  have HB0 := Lib.hid hB0
  clear hW hB0 HS
  obtain ⟨p, ep⟩ : ∃ p, p = w.heap.size := ⟨_, rfl⟩
  have hpw : w.heap.size ≤ p := by omega
  rw [← ep] at HST0 hsz0 ⊢
  clear ep
  refine (rightTwin_any w0 p 0 xs (by omega) HST0.out).mono ?_
  rintro e w1 ⟨D, R, A, B, na, nb, ca, cb, _, rfl, hkD, hkR, _, h9, hnD, hnR, hna, hnb, hoD, hoR, _, hg⟩
  have HB1 := Lib.hid (HB0.out.grown hg HB0.out.size (fun q hq => by cases hq; exact hpw))
  have HKD := Lib.hid hkD
  have HKR := Lib.hid hkR
  have H9 := Lib.hid h9
  have HND := Lib.hid hnD
  have HNR := Lib.hid hnR
  have hcb := own_cap hoR
  have HCH := Lib.hid (owL_ok hkD hkR)
  have HCL := Lib.hid (owL_len D R)
  have HKX := Lib.hid (mgL_ok hkR (tk_ok (owL_ok hkD hkR)))
  have HDONE := Lib.hid (rest_done hkD hkR h9)
  have HHAS := Lib.hid (fun p (hp : p ∈ viF D) => vo_viF (mgL_ok hkR (tk_ok (owL_ok hkD hkR))) (rest_has hkD hkR h9 hp))
  obtain ⟨X, eX⟩ : ∃ X, X = mgL R (tkL (owL D R)) := ⟨_, rfl⟩
  have HX7 := Lib.hid (mgL_len R (tkL (owL D R)))
  have HLD := Lib.hid (fun V (hV : Below w1.heap.size w1 V) => (own_ly hoD).below hV)
  have HLR := Lib.hid (fun V (hV : Below w1.heap.size w1 V) => (own_ly hoR).below hV)
  clear hkD hkR h9 hnD hnR hoD hoR hg HST0
  go_upto_region 3 with (fail)
  obtain ⟨g1, eg1⟩ : ∃ g, g = w1.heap.size := ⟨_, rfl⟩
  generalize hw2 : w1.alloc (.cells #[.slice A na ca, .slice B nb cb] 51) = w2
  have hb2 : Below w1.heap.size w1 w2 := by rw [← hw2]; exact (Below.refl _ _).alloc (Nat.le_refl _) _
  have hx2 : w2.heap[g1]? = some (.cells #[.slice A na ca, .slice B nb cb] 51 (0, 0)) := by rw [← hw2, eg1]; exact heap_new w1 _
  have hg1 : g1 < w2.heap.size := (Array.getElem?_eq_some_iff.1 hx2).1
  rw [← eg1]
  have HB12 := Lib.hid hb2
  have HB2 := Lib.hid (HB1.out.trans (hb2.mono HB1.out.size))
  have HQ2 := Lib.hid (fun (V : World) (hV : Below w2.heap.size w2 V) => show V.cell? ⟨g1, 0, none⟩ = some (.slice A na ca) ∧ V.cell? ⟨g1, 1, none⟩ = some (.slice B nb cb) from by
    have h1 := (hV.block g1 hg1).trans hx2
    exact ⟨cell_of_blk (j := 0) h1 rfl, cell_of_blk (j := 1) h1 rfl⟩)
  clear hw2 eg1 hx2 hb2
  obtain ⟨q0, q1⟩ := HQ2.out w2 (Below.refl _ _)
  go_wp2_with (fail)
  refine (owed_any D R na nb ca cb A B w2 HKD.out HKR.out HND.out HNR.out (by omega) (by omega) (HLD.out w2 HB12.out).row_ (HLR.out w2 HB12.out).row_ (HT.out _ HB2.out)).mono ?_
  rintro e w3 ⟨C, cc, nc, rfl, hnc, hoC, hb3⟩
  have hnc7 : nc ≤ 7 := by rw [← hnc]; exact HCL.out
  have HNC := Lib.hid hnc
  have HB23 := Lib.hid hb3
  have HB13 := Lib.hid (HB12.out.trans (hb3.mono HB12.out.size))
  have HB3 := Lib.hid (HB2.out.trans (hb3.mono HB2.out.size))
  have HRC := Lib.hid (own_row hoC)
  clear hnc hoC hb3 q0 q1
  obtain ⟨q0, q1⟩ := HQ2.out w3 HB23.out
  go_wp2_with (fail)
  refine (take_any D R (owL D R) na nb nc ca cb cc A B C w3 HKD.out HKR.out H9.out HCH.out HND.out HNR.out HNC.out (by omega) (by omega) (by omega) hcb (HLD.out w3 HB13.out) (HLR.out w3 HB13.out) HRC.out (HT.out _ HB3.out)).mono ?_
  rintro e w4 ⟨A4, B4, c4, d4, m4, rfl, hm4, hoA, hoB, hb4⟩
  rw [← eX] at hm4 hoB
  have hm47 : m4 ≤ 7 := by rw [← hm4, eX]; exact HX7.out
  rw [← eX] at HKX HDONE HHAS
  have HM4 := Lib.hid hm4
  have HB24 := Lib.hid (HB23.out.trans (hb4.mono HB23.out.size))
  have HB4 := Lib.hid (HB3.out.trans (hb4.mono HB3.out.size))
  have HRA := Lib.hid (fun V (hV : Below w4.heap.size w4 V) => ((own_row hoA).below hV).mono hV.size)
  have HRB := Lib.hid (fun V (hV : Below w4.heap.size w4 V) => ((own_row hoB).below hV).mono hV.size)
  clear hm4 hoA hoB hb4 q0 q1 HX7 eX
  go_upto_region 5 with (fail)
  obtain ⟨g2, eg2⟩ : ∃ g, g = w4.heap.size := ⟨_, rfl⟩
  generalize hw5 : w4.alloc (.cells #[.slice A4 na c4, .slice B4 m4 d4] 51) = w5
  have hb5 : Below w4.heap.size w4 w5 := by rw [← hw5]; exact (Below.refl _ _).alloc (Nat.le_refl _) _
  have hx5 : w5.heap[g2]? = some (.cells #[.slice A4 na c4, .slice B4 m4 d4] 51 (0, 0)) := by rw [← hw5, eg2]; exact heap_new w4 _
  have hg2 : g2 < w5.heap.size := (Array.getElem?_eq_some_iff.1 hx5).1
  rw [← eg2]
  have HB45 := Lib.hid hb5
  have HB25 := Lib.hid (HB24.out.trans (hb5.mono HB24.out.size))
  have HB5 := Lib.hid (HB4.out.trans (hb5.mono HB4.out.size))
  have HQ5 := Lib.hid (fun (V : World) (hV : Below w5.heap.size w5 V) => show V.cell? ⟨g2, 0, none⟩ = some (.slice A4 na c4) ∧ V.cell? ⟨g2, 1, none⟩ = some (.slice B4 m4 d4) from by
    have h1 := (hV.block g2 hg2).trans hx5
    exact ⟨cell_of_blk (j := 0) h1 rfl, cell_of_blk (j := 1) h1 rfl⟩)
  clear hw5 eg2 hx5 hb5
  obtain ⟨r0, r1⟩ := HQ5.out w5 (Below.refl _ _)
  go_wp2_with (fail)
  refine (settled_any D X na m4 c4 d4 A4 B4 w5 HKD.out HKX.out HND.out HM4.out (by omega) (by omega) (HRA.out w5 HB45.out) (HRB.out w5 HB45.out) (HT.out _ HB5.out) HDONE.out).mono ?_
  rintro e w6 ⟨rfl, hb6⟩
  have HB56 := Lib.hid hb6
  have HB46 := Lib.hid (HB45.out.trans (hb6.mono HB45.out.size))
  have HB26 := Lib.hid (HB25.out.trans (hb6.mono HB25.out.size))
  have HB6 := Lib.hid (HB5.out.trans (hb6.mono HB5.out.size))
  have HB16 := Lib.hid (HB12.out.trans (HB26.out.mono HB12.out.size))
  clear hb6 r0 r1
  obtain ⟨q0, q1⟩ := HQ2.out w6 HB26.out
  go_wp2_with (fail)
  refine (visible_any D na ca A w6 HKD.out HND.out (by omega) (HLD.out w6 HB16.out).row_ (HT.out _ HB6.out)).mono ?_
  rintro e w7 ⟨V1, cv, nv, rfl, hnv, hoV, hb7⟩
  have hnv7 : nv ≤ 7 := by rw [← hnv]; exact viT_len HKD.out
  have HNV := Lib.hid hnv
  have HB57 := Lib.hid (HB56.out.trans (hb7.mono HB56.out.size))
  have HB47 := Lib.hid (HB46.out.trans (hb7.mono HB46.out.size))
  have HB7 := Lib.hid (HB6.out.trans (hb7.mono HB6.out.size))
  have HOV := Lib.hid hoV
  clear hnv hoV hb7 q0 q1
  obtain ⟨r0, r1⟩ := HQ5.out w7 HB57.out
  go_wp2_with (fail)
  refine (visible_any X m4 d4 B4 w7 HKX.out HM4.out (by omega) (HRB.out w7 HB47.out) (HT.out _ HB7.out)).mono ?_
  rintro e w8 ⟨V2, ch, nh, rfl, hnh, hoH, hb8⟩
  have hnh7 : nh ≤ 7 := by rw [← hnh]; exact viT_len HKX.out
  have HNH := Lib.hid hnh
  have HB8 := Lib.hid (HB7.out.trans (hb8.mono HB7.out.size))
  have HOV8 := Lib.hid (own_belowP HOV.out hb8)
  have HOH8 := Lib.hid hoH
  clear hnh hoH hb8 r0 r1
  go_upto_region 10 with (go_at_call 14; refine (errs_ok 5 5 _ _ (by omega) (Cells.new _ _ _ _ _ rfl)).mono ?_; rintro e w' ⟨rfl, rfl⟩)
  have hb9 : Below w8.heap.size w8 (w8.alloc (.cells #[.int .i64 0, .int .i64 0, .int .i64 0, .int .i64 0, .int .i64 0] 28)) := (Below.refl _ _).alloc (Nat.le_refl _) _
  generalize w8.alloc (.cells #[.int .i64 0, .int .i64 0, .int .i64 0, .int .i64 0, .int .i64 0] 28) = w9 at hb9 ⊢
  have HB9 := Lib.hid (HB8.out.trans (hb9.mono HB8.out.size))
  have HRV := Lib.hid (fun V (hV : Below w9.heap.size w9 V) => ((own_row (own_belowP HOV8.out hb9)).below hV).mono hV.size)
  have HRH := Lib.hid (fun V (hV : Below w9.heap.size w9 V) => ((own_row (own_belowP HOH8.out hb9)).below hV).mono hV.size)
  have HGH := Lib.hid (viF_good HKX.out)
  have HGD := Lib.hid (viF_good HKD.out)
  have hs9 := HB9.out.size
  clear hb9 HOV HOV8 HOH8
  go_wp2_with (fail)
  go_loopw [67] (fun s wr => ∃ k : Nat, k ≤ nv ∧ s = .int .i64 (k : Int) ∧ Below w9.heap.size w9 wr) (fun s _ => nv - (intOf s).toNat)
  case atStart => exact ⟨0, Nat.zero_le _, rfl, Below.refl _ _⟩
  case round =>
    obtain ⟨k, hk, rfl, hbr⟩ := hrel
    have hbs := hbr.size
    have HB := Lib.hid hbr
    have HBw := Lib.hid (HB9.out.trans (hbr.mono hs9))
    clear hbr
    by_cases hlt : k < nv
    · have hltI : (k : Int) < nv := by omega
      obtain ⟨y, hy⟩ : ∃ y, (viF D)[k]? = some y := ⟨_, List.getElem?_eq_getElem (by have := HNV.out; omega)⟩
      obtain ⟨b, o, rfl, hb, hC⟩ := (HRV.out wr HB.out).posR prC_len (by omega) (by have := HNV.out; omega)
      obtain ⟨c0, c1, c2, c3, c4'⟩ := pr_cells hC k y hy
      have hym := List.mem_of_getElem? hy
      have hy7 := (HGD.out.1.2 y hym).1
      have hvy := HHAS.out y hym
      have HY := Lib.hid hvy
      clear hC hy hym hvy
      go_upto_region 13 with (fail)
      generalize hWa : wr.alloc (.cells #[.string (nm y.1), .int .i64 y.2.k, .bool y.2.f, .int .i64 y.2.n, .string y.2.s] 35) = Wa
      have hba : Below wr.heap.size wr Wa := by rw [← hWa]; exact (Below.refl _ _).alloc (Nat.le_refl _) _
      have hxa : Wa.heap[wr.heap.size]? = some (.cells #[.string (nm y.1), .int .i64 y.2.k, .bool y.2.f, .int .i64 y.2.n, .string y.2.s] 35 (0, 0)) := by rw [← hWa]; exact heap_new wr _
      have hga : wr.heap.size < Wa.heap.size := (Array.getElem?_eq_some_iff.1 hxa).1
      have HBa := Lib.hid (HB.out.trans (hba.mono hbs))
      have HBwa := Lib.hid (HBw.out.trans (hba.mono HBw.out.size))
      have z0 := cell_of_blk (j := 0) hxa rfl
      clear hWa hba c0 c1 c2 c3 c4'
      go_wp2_with (fail)
      refine (get_any (viF X) nh ch y.1 V2 Wa HGH.out HNH.out (by omega) hy7 (HRH.out Wa HBa.out) (HT.out _ HBwa.out)).mono ?_
      rintro e w10 ⟨rfl, hb10⟩
      rw [HY.out]
      have HB10 := Lib.hid (HBa.out.trans (hb10.mono HBa.out.size))
      have hx10 := (hb10.block _ hga).trans hxa
      have y0 := cell_of_blk (j := 0) hx10 rfl
      have y1 := cell_of_blk (j := 1) hx10 rfl
      have y2 := cell_of_blk (j := 2) hx10 rfl
      have y3 := cell_of_blk (j := 3) hx10 rfl
      have y4 := cell_of_blk (j := 4) hx10 rfl
      have hlt10 : wr.heap.size < w10.heap.size := (Array.getElem?_eq_some_iff.1 hx10).1
      clear hb10 hxa hx10 z0
      go_wp2_with (fail)
      go_roundw
      case rel => exact ⟨k + 1, by omega, by simp, HB10.out.alloc HB10.out.size _⟩
      case measure => simp [intOf]; omega
    · have hltI : ¬ (k : Int) < nv := by omega
      go_wp2_with (fail)
      refine (ready_yes wr).mono ?_
      rintro e w10 ⟨rfl, hb10⟩
      have HBF := Lib.hid (HBw.out.trans (hb10.mono HBw.out.size))
      clear hb10
      go_wp2_with (fail)
      go_ret
      exact ⟨rfl, HBF.out⟩
end Go.Proofs.YtccbblnlmggjbaaGreatDoor
