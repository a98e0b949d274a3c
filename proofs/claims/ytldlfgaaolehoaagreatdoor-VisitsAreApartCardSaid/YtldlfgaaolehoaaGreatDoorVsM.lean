/- VisitsAreApart: the law function's walk. -/
import Derived.Test.YtldlfgaaolehoaaGreatDoorVsL
namespace Go.Proofs.YtldlfgaaolehoaaGreatDoor
open Go.RowKit

set_option maxRecDepth 100000 in
set_option maxHeartbeats 8000000 in
theorem vsL_yes (w : World) (xs : List Int) (n c : Nat) (A : Option Addr) (hs : ∀ (W : World), Below w.heap.size w W → W.heap[w.heap.size]? = some (.cells #[.slice A n c, .int .i64 0] 25) → Strm W w.heap.size xs 0) :
    Calls Tryz.prog 7 #[.slice A n c] w fun e w' => e = .returned (.bool true) ∧ Below w.heap.size w w' := by
  have hr1 : ∀ (args : Array Value) (V : World), (callFunc 44 args).run Tryz.prog V = .ok (.enter 44 args) V := fun args V => call_enter Tryz.func44 (by kernel_rfl) (by kernel_rfl) args V
  have hr2 : ∀ (args : Array Value) (V : World), (callFunc 46 args).run Tryz.prog V = .ok (.enter 46 args) V := fun args V => call_enter Tryz.func46 (by kernel_rfl) (by kernel_rfl) args V
  have HR1 := Lib.hid hr1
  have HR2 := Lib.hid hr2
  have HS := Lib.hid hs
  clear hs hr1 hr2
  go_enter Tryz.func7, Tryz.ntmps7
  go_wp2_with (fail)
  generalize hW : w.alloc (.cells #[.slice A n c, .int .i64 0] 25) = W
  have hWs : W.heap.size = w.heap.size + 1 := by rw [← hW]; simp
  have hB0 : Below w.heap.size w W := hW ▸ (Below.refl _ _).alloc (Nat.le_refl _) _
  have HS0 := Lib.hid (HS.out W hB0 (by rw [← hW]; exact heap_new w _))
  have HB0 := Lib.hid hB0
  obtain ⟨p, ep⟩ : ∃ p, p = w.heap.size := ⟨_, rfl⟩
  rw [← ep] at HS0 ⊢
  have hpW : p < W.heap.size := by omega
  have HP := Lib.hid ep
  clear hW hB0 HS ep
  refine (rightFence_any W p 0 xs (by omega) HS0.out).mono ?_
  rintro e w1 ⟨l, n1, c1, b1, k1, rfl, hf1, hb1, hB1, hn1, hst1, hk1, hg1⟩
  have HF1 := Lib.hid hf1
  have HFN := Lib.hid (fcN_of hB1)
  have HST1 := Lib.hid hst1
  have HG1 := Lib.hid hg1
  have hs1 := hg1.size
  clear hf1 hB1 hst1 hg1 HS0
  unfold fcV
  go_wp2_with (fail)
  refine (rightTrack_any w1 p k1 14 xs (by omega) (by omega) HST1.out).mono ?_
  rintro e w2 ⟨v2, L, a2, k2, rfl, htrk, hL14, ha2, hown2, hst2, hk2, hg2⟩
  have hs2 := hg2.size
  obtain ⟨N, eN⟩ : ∃ N, N = L.length := ⟨_, rfl⟩
  rw [← eN] at hown2 hL14 htrk
  obtain ⟨A2, c2, rfl⟩ := own_slice hown2
  have HGF := Lib.hid (htrk.good (by omega) (by omega))
  have HNA := Lib.hid htrk.narV
  have HN := Lib.hid eN.symm
  have HF2 := Lib.hid (HF1.out.grownV hg2 (by omega))
  have HRL := Lib.hid (own_row hown2)
  have HB2 := Lib.hid (HB0.out.grown (grown_trans HG1.out hg2) (by have := HP.out; omega) (fun g hg => by injection hg with hg; have := HP.out; omega))
  clear htrk hown2 hst2 hg2 HF1 HST1 HG1 eN ha2
  go_upto_region 3 with (fail)
  obtain ⟨gf, egf⟩ : ∃ g, g = w2.heap.size := ⟨_, rfl⟩
  generalize hV : w2.alloc (.cells #[.string ⟨#[102]⟩, .slice (some ⟨b1, 0, none⟩) n1 c1] 80) = V
  have hVs : V.heap.size = gf + 1 := by rw [← hV, egf]; simp
  have hBV : Below w2.heap.size w2 V := hV ▸ (Below.refl _ _).alloc (Nat.le_refl _) _
  have hfb : V.heap[gf]? = some (.cells #[.string ⟨#[102]⟩, .slice (some ⟨b1, 0, none⟩) n1 c1] 80 (0, 0)) := by rw [← hV, egf]; exact heap_new w2 _
  have HFV := Lib.hid (HF2.out.below hBV)
  have HRV := Lib.hid ((HRL.out.below hBV).mono hBV.size)
  have HBV := Lib.hid (HB2.out.trans (hBV.mono HB2.out.size))
  have HFB := Lib.hid hfb
  have q0 := cell_of_blk (j := 0) hfb rfl
  have q1 := cell_of_blk (j := 1) hfb rfl
  have hgfV : gf < V.heap.size := by omega
  rw [← egf]
  clear hV hBV hfb egf HF2 HRL HB2 hVs
  go_wp2_with (fail)
  refine (visits_any l L n1 c1 b1 0 N c2 A2 V HFV.out HFN.out HN.out HGF.out HNA.out HRV.out).mono ?_
  rintro e w4 ⟨v6, S, rfl, hvo, hown6, hb4⟩
  obtain ⟨m, em⟩ : ∃ m, m = S.length := ⟨_, rfl⟩
  rw [← em] at hown6
  obtain ⟨A6, c6, rfl⟩ := own_slice hown6
  have HM := Lib.hid em.symm
  have HVO := Lib.hid hvo
  have HRS := Lib.hid (own_row hown6)
  have HF4 := Lib.hid (HFV.out.below hb4)
  have HR4 := Lib.hid ((HRV.out.below hb4).mono hb4.size)
  have HFB4 := Lib.hid ((hb4.block gf hgfV).trans HFB.out)
  have HB4 := Lib.hid (HBV.out.trans (hb4.mono HBV.out.size))
  have hgf4 : gf < w4.heap.size := by have := hb4.size; omega
  have hm14 : m ≤ 14 := by
    have h1 := hvo.len
    have h2 := HN.out
    omega
  clear hvo hown6 hb4 em q0 q1 HFV HRV HBV HFB
  go_wp2_with (fail)
  go_loopw [8, 32] (fun la s wr => ∃ (k : Nat) (x : Int), k ≤ m ∧ s = .int .i64 (k : Int) ∧ la = .int .i64 x ∧ (∀ (u : Vis), S[k]? = some u → x < u.1) ∧ Below w4.heap.size w4 wr) (fun _ s _ => m - (intOf s).toNat)
  case atStart =>
    refine ⟨0, -1, Nat.zero_le _, rfl, rfl, ?_, Below.refl _ _⟩
    intro u hu
    obtain ⟨i, y, _, hy, hy1, _⟩ := HVO.out.from_ 0 u hu
    have := (HGF.out.get hy).at0
    omega
  case round =>
    obtain ⟨k, la, hk, rfl, rfl, hla, hbl⟩ := hrel
    have hsz := hbl.size
    have HBL := Lib.hid hbl
    by_cases hlt : k < m
    · obtain ⟨b6, o6, rfl, hb6, hc6⟩ := Row.posR viC_len (by omega) HRS.out (by have := HM.out; omega)
      obtain ⟨x, hx⟩ : ∃ x, S[k]? = some x := ⟨_, List.getElem?_eq_getElem (by have := HM.out; omega)⟩
      obtain ⟨s0, s1⟩ := vi_cells (hc6.keep (hbl.block b6 hb6)) k x hx
      have hlax := hla x hx
      obtain ⟨i, y, hi, hy, hy1, hy2⟩ := HVO.out.from_ k x hx
      have hto := HVO.out.to_ k x hx
      have HNX := Lib.hid (fun (u : Vis) (hu : S[k + 1]? = some u) => HVO.out.ord k x u hx hu)
      have hy0 := HGF.out.get hy
      have hya := hy0.at0
      have hyb := hy0.at1
      obtain ⟨b2, o2, rfl, hb2, hc2⟩ := Row.posR fxC_len (by omega) HR4.out (by have := (List.getElem?_eq_some_iff.1 hy).1; omega)
      have HC2 := Lib.hid hc2
      have hkI : (k : Int) < (m : Int) := by omega
      have hk0 : (0 : Int) ≤ (k : Int) := by omega
      have HY := Lib.hid (And.intro hy (And.intro hy1 hy2))
      have HSF := Lib.hid (fun (V : World) (z : Fx) (hz : z ∈ L) (hV : Below w4.heap.size w4 V) => surelyF_any l z n1 c1 b1 0 V (HF4.out.below hV) HFN.out (HNA.out z hz) (HGF.out.ok z hz))
      obtain ⟨xf, xt⟩ := x
      simp only at s0 s1 hlax hy1 hto HNX
      have hxf : 0 ≤ xf ∧ xf ≤ 100000 := by omega
      have hnl : ¬ xf ≤ la := by omega
      clear hbl hc6 hx hla hy hy1 hy2 hi hy0 hc2
      go_upto_region 10 with (fail)
      generalize hZ : wr.alloc (.cells #[.int .i64 xf, .int .i64 xt] 94) = Z
      obtain ⟨gv, egv⟩ : ∃ g, g = wr.heap.size := ⟨_, rfl⟩
      have hBZ : Below wr.heap.size wr Z := hZ ▸ (Below.refl _ _).alloc (Nat.le_refl _) _
      have hZs : gv < Z.heap.size := by rw [← hZ, egv]; simp
      have hzb : Z.heap[gv]? = some (.cells #[.int .i64 xf, .int .i64 xt] 94 (0, 0)) := by rw [← hZ, egv]; exact heap_new wr _
      have HBZ := Lib.hid (HBL.out.trans (hBZ.mono hsz))
      have HQ := Lib.hid (fun (V : World) (hV : Below Z.heap.size Z V) => show V.cell? ⟨gv, 0, none⟩ = some (.int .i64 xf) ∧ V.cell? ⟨gv, 1, none⟩ = some (.int .i64 xt) from by
        have h := (hV.block gv hZs).trans hzb
        exact ⟨cell_of_blk (j := 0) h rfl, cell_of_blk (j := 1) h rfl⟩)
      have hb2Z : b2 < Z.heap.size := by have := HBZ.out.size; omega
      have HC2Z := Lib.hid (fun (V : World) (hV : Below Z.heap.size Z V) => HC2.out.keep (((HBZ.out.trans (hV.mono HBZ.out.size))).block b2 hb2))
      have HIX1 := Lib.hid (idxV_any 44 (.pointer (some ⟨gv, 0, none⟩)) L (fun y => y.1 == xf) N c2 b2 o2 Z HN.out (by omega) hb2Z (HC2Z.out Z (Below.refl _ _)) HR1.out (fun V y hV => vs1_any y xf gv V (HQ.out V hV).1))
      rw [← egv]
      clear hZ hBZ hzb egv s0 s1
      go_wp2_with (fail)
      refine HIX1.out.mono ?_
      rintro e w5 ⟨r1, rfl, hr1, hb5⟩
      obtain ⟨K, rfl, hK⟩ := ix_found HGF.out HY.out.1 HY.out.2.1 hr1
      obtain ⟨q0, q1⟩ := HQ.out w5 hb5
      have HB5 := Lib.hid (HBZ.out.trans (hb5.mono HBZ.out.size))
      have HB5Z := Lib.hid hb5
      have hKN : K < N := by have := (List.getElem?_eq_some_iff.1 hK).1; have := HN.out; omega
      have hK0 : (0 : Int) ≤ (K : Int) := by omega
      have hKI : (K : Int) < (N : Int) := by omega
      have hKneg : ¬ (K : Int) < 0 := by omega
      have HSY := Lib.hid (fun (V : World) (hV : Below w4.heap.size w4 V) => by
        have h := HSF.out V y (List.mem_of_getElem? HY.out.1) hV
        rw [HY.out.2.2] at h
        exact h)
      have HSV := Lib.hid (fun (V : World) (hV : Below w5.heap.size w5 V) => HSY.out V (HB5.out.trans (hV.mono HB5.out.size)))
      have HQ5 := Lib.hid (fun (V : World) (hV : Below w5.heap.size w5 V) => show V.cell? ⟨gf, 0, none⟩ = some (.string ⟨#[102]⟩) ∧ V.cell? ⟨gf, 1, none⟩ = some (.slice (some ⟨b1, 0, none⟩) n1 c1) ∧ V.cell? ⟨b2, o2 + K * 5, none⟩ = some (.string ⟨#[100]⟩) ∧ V.cell? ⟨b2, o2 + K * 5 + 1, none⟩ = some (.int .i64 y.1) ∧ V.cell? ⟨b2, o2 + K * 5 + 2, none⟩ = some (.int .i64 y.2.1) ∧ V.cell? ⟨b2, o2 + K * 5 + 3, none⟩ = some (.int .i64 y.2.2.1) ∧ V.cell? ⟨b2, o2 + K * 5 + 4, none⟩ = some (.int .i64 y.2.2.2) from by
        have h := ((HB5.out.trans (hV.mono HB5.out.size)).block gf hgf4).trans HFB4.out
        exact ⟨cell_of_blk (j := 0) h rfl, cell_of_blk (j := 1) h rfl, fix_cells (HC2Z.out V (HB5Z.out.trans (hV.mono HB5Z.out.size))) K y hK⟩)
      obtain ⟨ya, yx, yy, ye⟩ := y
      unfold fcV fxV at HSV
      simp only at HSV HQ5
      clear hb5 hr1 hK HIX1 HSY
      rcases (show xt = -1 ∧ k + 1 = m ∨ ¬ xt = -1 ∧ xf < xt ∧ ∃ (i : Nat) (z : Fx), i < L.length ∧ L[i]? = some z ∧ z.1 = xt ∧ sureW l z = 0 from by
          rcases hto with ⟨h1, h2⟩ | ⟨h1, h2⟩
          · exact .inl ⟨h1, by have := HM.out; omega⟩
          · exact .inr ⟨by omega, h1, h2⟩) with ⟨hxt, hkm⟩ | ⟨hxt, hft, j, z, hj, hz, hz1, hz2⟩
      · subst hxt
        have hkm1 : ¬ (k : Int) < (m : Int) - 1 := by omega
        clear hto
        go_wp2_with (fail)
        go_upto_region 13 with (fail)
        refine qRegion (by kernel_rfl) (by kernel_rfl) ?_
        repeat (first
          | (go_big_quiet_want; refine qVal (fun V hV => (by (obtain ⟨q0, q1, q2, q3, q4, q5, q6⟩ := HQ5.out V hV; go_simp; try rfl))) ?_; simp only [Act.put, List.setIfInBounds_toArray, List.set_cons_zero, List.set_cons_succ]; go_big_quiet_on)
          | (go_big_quiet_want
             refine qCall (fun V hV => (by (obtain ⟨q0, q1, q2, q3, q4, q5, q6⟩ := HQ5.out V hV; go_simp; exact ⟨rfl, rfl⟩))) (fun V hV => (by first
               | with_reducible exact (HSV.out V hV).mono (fun e w' h => ⟨h.1, hV.trans (h.2.mono hV.size)⟩))) ?_
             simp only [Act.put, List.setIfInBounds_toArray, List.set_cons_zero, List.set_cons_succ]; go_big_quiet_on)
          | go_big_quiet_skip)
        refine wpQuiet_nil ?_
        intro w9 hb9
        have HB9 := Lib.hid (HB5.out.trans (hb9.mono HB5.out.size))
        have HB9Z := Lib.hid (HB5Z.out.trans (hb9.mono HB5Z.out.size))
        clear hb9 q0 q1
        have HIX2 := Lib.hid (idxV_any 46 (.pointer (some ⟨gv, 0, none⟩)) L (fun y => y.1 == -1) N c2 b2 o2 w9 HN.out (by omega) (by have := HB9Z.out.size; omega) (HC2Z.out w9 HB9Z.out) HR2.out (fun V y hV => vs2_any y (-1) gv V (HQ.out V (HB9Z.out.trans (hV.mono HB9Z.out.size))).2))
        go_wp2_with (fail)
        refine HIX2.out.mono ?_
        rintro e w10 ⟨r2, rfl, hr2, hb10⟩
        obtain ⟨q0, q1⟩ := HQ.out w10 (HB9Z.out.trans (hb10.mono HB9Z.out.size))
        have HB10 := Lib.hid (HB9.out.trans (hb10.mono HB9.out.size))
        clear hb10 hr2 HIX2
        go_wp2_with (fail)
        go_roundw
        case rel => exact ⟨k + 1, -1, by omega, by go_num, rfl, HNX.out, HB10.out⟩
        case measure => simp [intOf]; omega
      · have hxtb : (xt == -1) = false := by simpa using hxt
        have hxtn : (xt != -1) = true := by simpa using hxt
        have hftn : ¬ xt ≤ xf := by omega
        have HZ := Lib.hid (And.intro hz (And.intro hz1 hz2))
        clear hto hz hz1 hz2 hj
        go_wp2_with (fail)
        go_upto_region 13 with (fail)
        refine qRegion (by kernel_rfl) (by kernel_rfl) ?_
        repeat (first
          | (go_big_quiet_want; refine qVal (fun V hV => (by (obtain ⟨q0, q1, q2, q3, q4, q5, q6⟩ := HQ5.out V hV; go_simp; try rfl))) ?_; simp only [Act.put, List.setIfInBounds_toArray, List.set_cons_zero, List.set_cons_succ]; go_big_quiet_on)
          | (go_big_quiet_want
             refine qCall (fun V hV => (by (obtain ⟨q0, q1, q2, q3, q4, q5, q6⟩ := HQ5.out V hV; go_simp; exact ⟨rfl, rfl⟩))) (fun V hV => (by first
               | with_reducible exact (HSV.out V hV).mono (fun e w' h => ⟨h.1, hV.trans (h.2.mono hV.size)⟩))) ?_
             simp only [Act.put, List.setIfInBounds_toArray, List.set_cons_zero, List.set_cons_succ]; go_big_quiet_on)
          | go_big_quiet_skip)
        refine wpQuiet_nil ?_
        intro w9 hb9
        have HB9 := Lib.hid (HB5.out.trans (hb9.mono HB5.out.size))
        have HB9Z := Lib.hid (HB5Z.out.trans (hb9.mono HB5Z.out.size))
        clear hb9 q0 q1
        have HIX2 := Lib.hid (idxV_any 46 (.pointer (some ⟨gv, 0, none⟩)) L (fun y => y.1 == xt) N c2 b2 o2 w9 HN.out (by omega) (by have := HB9Z.out.size; omega) (HC2Z.out w9 HB9Z.out) HR2.out (fun V y hV => vs2_any y xt gv V (HQ.out V (HB9Z.out.trans (hV.mono HB9Z.out.size))).2))
        go_wp2_with (fail)
        refine HIX2.out.mono ?_
        rintro e w10 ⟨r2, rfl, hr2, hb10⟩
        obtain ⟨J, rfl, hJ⟩ := ix_found HGF.out HZ.out.1 HZ.out.2.1 hr2
        obtain ⟨q0, q1⟩ := HQ.out w10 (HB9Z.out.trans (hb10.mono HB9Z.out.size))
        have HB10 := Lib.hid (HB9.out.trans (hb10.mono HB9.out.size))
        have HB10Z := Lib.hid (HB9Z.out.trans (hb10.mono HB9Z.out.size))
        have hJN : J < N := by have := (List.getElem?_eq_some_iff.1 hJ).1; have := HN.out; omega
        have hJ0 : (0 : Int) ≤ (J : Int) := by omega
        have hJI : (J : Int) < (N : Int) := by omega
        have hJneg : ¬ (J : Int) < 0 := by omega
        have HSZ := Lib.hid (fun (V : World) (hV : Below w10.heap.size w10 V) => by
          have h := HSF.out V z (List.mem_of_getElem? HZ.out.1) (HB10.out.trans (hV.mono HB10.out.size))
          rw [HZ.out.2.2] at h
          exact h)
        have HQ10 := Lib.hid (fun (V : World) (hV : Below w10.heap.size w10 V) => show V.cell? ⟨gf, 0, none⟩ = some (.string ⟨#[102]⟩) ∧ V.cell? ⟨gf, 1, none⟩ = some (.slice (some ⟨b1, 0, none⟩) n1 c1) ∧ V.cell? ⟨b2, o2 + J * 5, none⟩ = some (.string ⟨#[100]⟩) ∧ V.cell? ⟨b2, o2 + J * 5 + 1, none⟩ = some (.int .i64 z.1) ∧ V.cell? ⟨b2, o2 + J * 5 + 2, none⟩ = some (.int .i64 z.2.1) ∧ V.cell? ⟨b2, o2 + J * 5 + 3, none⟩ = some (.int .i64 z.2.2.1) ∧ V.cell? ⟨b2, o2 + J * 5 + 4, none⟩ = some (.int .i64 z.2.2.2) from by
          have h := ((HB10.out.trans (hV.mono HB10.out.size)).block gf hgf4).trans HFB4.out
          exact ⟨cell_of_blk (j := 0) h rfl, cell_of_blk (j := 1) h rfl, fix_cells (HC2Z.out V (HB10Z.out.trans (hV.mono HB10Z.out.size))) J z hJ⟩)
        obtain ⟨za, zx, zy, ze⟩ := z
        unfold fcV fxV at HSZ
        simp only at HSZ HQ10
        clear hb10 hr2 HIX2 hJ
        go_wp2_with (fail)
        go_upto_region 20 with (fail)
        refine qRegion (by kernel_rfl) (by kernel_rfl) ?_
        repeat (first
          | (go_big_quiet_want; refine qVal (fun V hV => (by (obtain ⟨q0, q1, q2, q3, q4, q5, q6⟩ := HQ10.out V hV; go_simp; try rfl))) ?_; simp only [Act.put, List.setIfInBounds_toArray, List.set_cons_zero, List.set_cons_succ]; go_big_quiet_on)
          | (go_big_quiet_want
             refine qCall (fun V hV => (by (obtain ⟨q0, q1, q2, q3, q4, q5, q6⟩ := HQ10.out V hV; go_simp; exact ⟨rfl, rfl⟩))) (fun V hV => (by first
               | with_reducible exact (HSZ.out V hV).mono (fun e w' h => ⟨h.1, hV.trans (h.2.mono hV.size)⟩))) ?_
             simp only [Act.put, List.setIfInBounds_toArray, List.set_cons_zero, List.set_cons_succ]; go_big_quiet_on)
          | go_big_quiet_skip)
        refine wpQuiet_nil ?_
        intro w11 hb11
        have HB11 := Lib.hid (HB10.out.trans (hb11.mono HB10.out.size))
        have HB11Z := Lib.hid (HB10Z.out.trans (hb11.mono HB10Z.out.size))
        clear hb11 q0 q1
        obtain ⟨q0, q1⟩ := HQ.out w11 HB11Z.out
        go_wp2_with (fail)
        go_roundw
        case rel => exact ⟨k + 1, xt, by omega, by go_num, rfl, HNX.out, HB11.out⟩
        case measure => simp [intOf]; omega
    · clear hbl hla
      go_wp2_with (fail)
      refine (ready_yes _).mono ?_
      rintro e w9 ⟨rfl, hb9⟩
      have HB9 := Lib.hid (HB4.out.trans ((HBL.out.trans (hb9.mono hsz)).mono HB4.out.size))
      clear hb9
      go_wp2_with (fail)
      go_ret
      exact ⟨rfl, HB9.out⟩
end Go.Proofs.YtldlfgaaolehoaaGreatDoor
