/- SeriesStay: the law function. Printed by gen_SsL.py. -/
import Derived.Test.YtnmgfnnkcenfeaaGreatDoorPkD
import Derived.Test.YtnmgfnnkcenfeaaGreatDoorSxM
import Derived.Test.YtnmgfnnkcenfeaaGreatDoorThF
import Derived.Test.YtnmgfnnkcenfeaaGreatDoorSxO
import Derived.Test.YtnmgfnnkcenfeaaGreatDoorSxJ
import Derived.Test.YtnmgfnnkcenfeaaGreatDoorSxQ
import Derived.Test.YtnmgfnnkcenfeaaGreatDoorUnC
import Derived.Test.YtnmgfnnkcenfeaaGreatDoorGnSm
import Derived.Test.YtnmgfnnkcenfeaaGreatDoorGnBk
import Derived.Test.YtnmgfnnkcenfeaaGreatDoorSm
import Derived.Test.YtnmgfnnkcenfeaaGreatDoorMgA
namespace Go.Proofs.YtnmgfnnkcenfeaaGreatDoor
open Go.RowKit

theorem bel_own {B : Nat} {w0 w w' : World} {base : Nat} {e : TypeId} {size n : Nat} {v : Value} {xs : List Value} (hb : Below B w0 w) (ho : w.ownsRow base e size v n xs) (hB : B ≤ base) (hBw : B ≤ w.heap.size) (hg : w.grownBy w' v.ownBlock) : Below B w0 w' :=
  hb.grown hg hBw (fun g hg2 => Nat.le_trans hB (ho.lt g hg2).1)
/-- The rows that were made stand, whatever new blocks hold. -/
structure SsK (V : World) (B1 B2 B3 B4 B5 B6 : Nat) (X : List Smp) (Y : List Bkt) (Z : List Int) (A1 A2 A3 A4 A5 A6 : Option Addr) (n m r c1 c2 c3 c4 c5 c6 : Nat) : Prop where
  x1 : V.ownsRow B1 37 4 (.slice A1 n c1) n (recs smpC X)
  y1 : V.ownsRow B2 46 8 (.slice A2 m c2) m (bCells Y)
  z1 : V.ownsRow B3 5 1 (.slice A3 r c3) r (bytesV Z)
  x2 : V.ownsRow B4 37 4 (.slice A4 n c4) n (recs smpC X)
  y2 : V.ownsRow B5 46 8 (.slice A5 m c5) m (bCells Y)
  z2 : V.ownsRow B6 5 1 (.slice A6 r c6) r (bytesV Z)
theorem SsK.below {V W : World} {B1 B2 B3 B4 B5 B6 : Nat} {X : List Smp} {Y : List Bkt} {Z : List Int} {A1 A2 A3 A4 A5 A6 : Option Addr} {n m r c1 c2 c3 c4 c5 c6 : Nat} (h : SsK V B1 B2 B3 B4 B5 B6 X Y Z A1 A2 A3 A4 A5 A6 n m r c1 c2 c3 c4 c5 c6) (hb : Below V.heap.size V W) : SsK W B1 B2 B3 B4 B5 B6 X Y Z A1 A2 A3 A4 A5 A6 n m r c1 c2 c3 c4 c5 c6 :=
  ⟨own_below h.x1 hb, own_below h.y1 hb, own_below h.z1 hb, own_below h.x2 hb, own_below h.y2 hb, own_below h.z2 hb⟩
theorem own_alt {w : World} {base : Nat} {e : TypeId} {size n : Nat} {A : Option Addr} {c : Nat} {xs : List Value} (h : w.ownsRow base e size (.slice A n c) n xs) : (A = none ∧ n = 0 ∧ c = 0) ∨ ∃ g, A = some ⟨g, 0, none⟩ := by
  rcases h.2 with ⟨hv, hn⟩ | ⟨g, cap, cur, hv, _⟩
  · injection hv with h1 h2 h3
    exact .inl ⟨h1, hn, h3⟩
  · injection hv with h1 h2 h3
    exact .inr ⟨g, h1⟩
set_option maxRecDepth 100000 in
set_option maxHeartbeats 16000000 in
theorem ssL_yes (w : World) (xs : LiA) (n0 c0 : Nat) (A0 : Option Addr) (hs : ∀ (W : World), Below w.heap.size w W → W.heap[w.heap.size]? = some (.cells #[.slice A0 n0 c0, .int .i64 0] 25) → Strm W w.heap.size xs 0) :
    Calls Tryz.prog 3 #[.slice A0 n0 c0] w fun e w' => e = .returned (.bool true) ∧ Below w.heap.size w w' := by
  have HS := Lib.hid hs
  clear hs
  go_enter Tryz.func3, Tryz.ntmps3
  go_upto_region 2 with (fail)
  obtain ⟨p, ep⟩ : ∃ p, p = w.heap.size := ⟨_, rfl⟩
  obtain ⟨q, eq⟩ : ∃ q, q = w.heap.size + 1 := ⟨_, rfl⟩
  obtain ⟨W, hW⟩ : ∃ W, W = (w.alloc (.cells #[.slice A0 n0 c0, .int .i64 0] 25)).alloc (.cells #[.slice A0 n0 c0, .int .i64 0] 25) := ⟨_, rfl⟩
  have hB0 : Below w.heap.size w W := by rw [hW]; exact ((Below.refl _ _).alloc (Nat.le_refl _) _).alloc (by simp) _
  have hWs : W.heap.size = w.heap.size + 1 + 1 := by rw [hW]; simp
  have hp0 : W.heap[w.heap.size]? = some (.cells #[.slice A0 n0 c0, .int .i64 0] 25) := by rw [hW, Below.heap_alloc _ _ _ (by simp)]; exact heap_new w _
  have hq0 : W.heap[w.heap.size + 1]? = some (.cells #[.slice A0 n0 c0, .int .i64 0] 25) := by
    rw [hW]
    have := heap_new (w.alloc (.cells #[.slice A0 n0 c0, .int .i64 0] 25)) (.cells #[.slice A0 n0 c0, .int .i64 0] 25)
    simpa using this
  have HP0 := Lib.hid (HS.out W hB0 hp0)
  have HLO := Lib.hid HP0.out.low
  have HQ0 := Lib.hid (show Strm W (w.heap.size + 1) xs 0 from HP0.out.twin (Nat.le_succ _) (hq0.trans hp0.symm))
  have HB0 := Lib.hid hB0
  rw [← eq, ← ep, ← hW]
  rw [← eq] at HQ0
  rw [← ep] at HP0 HLO
  have hwp : w.heap.size ≤ p := by omega
  have hwq : w.heap.size ≤ q := by omega
  have hpq : p < q := by omega
  have hqW : q < W.heap.size := by omega
  clear hW hB0 HS hp0 hq0 ep eq hWs
  have hn10 := nextN_lt xs 0 10 (by omega)
  obtain ⟨n, en⟩ : ∃ n, n = nextN xs 0 10 := ⟨_, rfl⟩
  obtain ⟨X, eX⟩ : ∃ X, X = serL xs 1 (-100) n := ⟨_, rfl⟩
  obtain ⟨k1, ek1⟩ : ∃ k1, k1 = 1 + 2 * n := ⟨_, rfl⟩
  have HRS := Lib.hid (fun (U : World) (s : Nat) (hU : Strm U s xs 0) => show Calls Tryz.prog _ #[.pointer (some ⟨s, 0, none⟩), .int .i64 9, .int .i64 (-100)] U fun e w' => ∃ A c, e = .returned (.slice A n c) ∧ w'.ownsRow U.heap.size 37 4 (.slice A n c) n (recs smpC X) ∧ Strm w' s xs k1 ∧ U.grownBy w' (some s) from by
    refine (rightSeries_any U s 0 9 (-100) xs (by omega) (by omega) hU).mono ?_
    rintro e w' ⟨v, rfl, ho, hst, hg⟩
    rw [show nextN xs 0 (9 + 1) = n from en.symm, show serL xs (0 + 1) (-100) n = X from eX.symm] at ho
    rw [show nextN xs 0 (9 + 1) = n from en.symm, show 0 + 1 + 2 * n = k1 by omega] at hst
    obtain ⟨A, c, rfl⟩ := own_slice ho
    exact ⟨A, c, rfl, ho, hst, hg⟩)
  have hn9 : n ≤ 9 := by omega
  have HX := Lib.hid (show GoodS X from by rw [eX]; exact (serL_fine xs 1 n (by omega)).good)
  have HN := Lib.hid (show X.length = n from by rw [eX]; exact serL_length _ _ _ _)
  have hk1 : k1 ≤ 19 := by omega
  clear en eX ek1 hn10
  go_wp2_with (fail)
  refine (HRS.out W p HP0.out).mono ?_
  rintro e w1 ⟨A1, c1, rfl, ho, hst, hg⟩
  have hs1 := hg.size
  have HO1 := Lib.hid ho
  have HP1 := Lib.hid hst
  have HQ1 := Lib.hid (HQ0.out.other HLO.out hg (by omega))
  have HB1 := Lib.hid (HB0.out.grown hg HB0.out.size (fun g e => by cases e; exact hwp))
  clear ho hst hg HP0 HQ0 HB0
  go_wp2_with (fail)
  refine (rightBuckets_any w1 p k1 xs (by omega) HP1.out).mono ?_
  rintro e w2 ⟨Y, A2, c2, m, k2, hY, rfl, hm, hm10, ho, hst, hk2, hg⟩
  have hs2 := hg.size
  have HY := Lib.hid hY
  have HYR := Lib.hid (show BkR Y from by
    have := (Prod.mk.inj hY).1
    rw [this]
    exact boL_r xs _ _ (by have := nextN_lt xs k1 11 (by omega); omega))
  have HM := Lib.hid hm
  have HO2 := Lib.hid (own_kept HO1.out hg (by omega))
  have HR2 := Lib.hid ho
  have HP2 := Lib.hid hst
  have HQ2 := Lib.hid (HQ1.out.other HLO.out hg (by omega))
  have HB2 := Lib.hid (HB1.out.grown hg HB1.out.size (fun g e => by cases e; exact hwp))
  clear hY hm ho hst hg HP1 HQ1 HB1 HO1
  go_wp2_with (fail)
  refine (packed_any w2 p k2 xs (by omega) HP2.out).mono ?_
  rintro e w3 ⟨Z, A3, c3, r, k3, hZ, rfl, hr, hr100, hbz, ho, hg⟩
  have hs3 := hg.size
  have HZ := Lib.hid hZ
  have HBZ := Lib.hid hbz
  have HRL := Lib.hid hr
  have HO3 := Lib.hid (own_kept HO2.out hg (by omega))
  have HR3 := Lib.hid (own_kept HR2.out hg (by omega))
  have HS3 := Lib.hid ho
  have HQ3 := Lib.hid (HQ2.out.other HLO.out hg (by omega))
  have HB3 := Lib.hid (HB2.out.grown hg HB2.out.size (fun g e => by cases e; exact hwp))
  clear hZ hbz hr ho hg HP2 HQ2 HB2 HO2 HR2
  go_upto_region 3 with (fail)
  go_wp2_with (fail)
  refine (HRS.out w3 q HQ3.out).mono ?_
  rintro e w4 ⟨A4, c4, rfl, ho, hst, hg⟩
  have hs4 := hg.size
  have HO4 := Lib.hid (own_kept HO3.out hg (by omega))
  have HR4 := Lib.hid (own_kept HR3.out hg (by omega))
  have HS4 := Lib.hid (own_kept HS3.out hg (by omega))
  have HU4 := Lib.hid ho
  have HQ4 := Lib.hid hst
  have HB4 := Lib.hid (HB3.out.grown hg HB3.out.size (fun g e => by cases e; exact hwq))
  clear ho hst hg HQ3 HB3 HO3 HR3 HS3 HRS
  go_wp2_with (fail)
  refine (rightBuckets_any w4 q k1 xs (by omega) HQ4.out).mono ?_
  rintro e w5 ⟨Y', A5, c5, m', k2', hY, rfl, hm, _, ho, hst, _, hg⟩
  obtain ⟨hl1, hl2⟩ := Prod.mk.inj (HY.out.trans hY.symm)
  subst hl1
  subst hl2
  obtain rfl : m = m' := by rw [← HM.out, hm]
  have hs5 := hg.size
  have HO5 := Lib.hid (own_kept HO4.out hg (by omega))
  have HR5 := Lib.hid (own_kept HR4.out hg (by omega))
  have HS5 := Lib.hid (own_kept HS4.out hg (by omega))
  have HU5 := Lib.hid (own_kept HU4.out hg (by omega))
  have HV5 := Lib.hid ho
  have HQ5 := Lib.hid hst
  have HB5 := Lib.hid (HB4.out.grown hg HB4.out.size (fun g e => by cases e; exact hwq))
  clear hm hY ho hst hg HQ4 HB4 HO4 HR4 HS4 HU4 HY
  go_wp2_with (fail)
  refine (packed_any w5 q k2 xs (by omega) HQ5.out).mono ?_
  rintro e w6 ⟨Z', A6, c6, r', k3', hZ, rfl, hr, _, _, ho, hg⟩
  obtain ⟨hl1, hl2⟩ := Prod.mk.inj (HZ.out.trans hZ.symm)
  subst hl1
  subst hl2
  obtain rfl : r = r' := by rw [← HRL.out, hr]
  have hs6 := hg.size
  have HB6 := Lib.hid (HB5.out.grown hg HB5.out.size (fun g e => by cases e; exact hwq))
  have HK := Lib.hid (show SsK w6 W.heap.size w1.heap.size w2.heap.size w3.heap.size w4.heap.size w5.heap.size X Y Z A1 A2 A3 A4 A5 A6 n m r c1 c2 c3 c4 c5 c6 from ⟨own_kept HO5.out hg (by omega), own_kept HR5.out hg (by omega), own_kept HS5.out hg (by omega), own_kept HU5.out hg (by omega), own_kept HV5.out hg (by omega), ho⟩)
  have hcr := own_cap HK.out.z1
  have HV0 := Lib.hid (Below.refl w6.heap.size w6)
  clear hr hZ ho hg HQ5 HB5 HO5 HR5 HS5 HU5 HV5 HLO HZ
  go_upto_region 4 with (fail)
  go_wp2_with (fail)
  refine (mergeX_any X n c1 W.heap.size A1 w6 HN.out hn9 HX.out HK.out.x1).mono ?_
  rintro e w7 ⟨v7, b1, L1, rfl, hL1, hb1, ho, hb⟩
  obtain ⟨B1, d1, rfl⟩ := own_slice ho
  have HO7 := Lib.hid ho
  have HV7 := Lib.hid (HV0.out.trans (hb.mono HV0.out.size))
  have HL7 := Lib.hid (show (recs smpC L1).length = b1 * 4 from by rw [recs_length smpC_len, hL1])
  have hsp7 := HV0.out.size
  clear ho hb
  go_wp2_with (fail)
  refine (spoilSm_any (recs smpC L1) b1 w6.heap.size (.slice B1 b1 d1) w7 HL7.out (by omega) HO7.out).mono ?_
  rintro e w8 ⟨rfl, hg⟩
  have HV8 := Lib.hid (bel_own HV7.out HO7.out hsp7 HV7.out.size hg)
  clear hg HO7 HL7 hsp7
  go_wp2_with (fail)
  refine (thin_few X n 20 c1 A1 w8 HN.out (by omega) (by omega) (by omega) HX.out (own_alt HK.out.x1) (own_row (HK.out.below HV8.out).x1)).mono ?_
  rintro e w9 ⟨v9, rfl, ho, hb⟩
  obtain ⟨B2, d2, rfl⟩ := own_slice ho
  have HO9 := Lib.hid ho
  have HV9 := Lib.hid (HV8.out.trans (hb.mono HV8.out.size))
  have HL9 := Lib.hid (show (recs smpC X).length = n * 4 from by rw [recs_length smpC_len, HN.out])
  have hsp9 := HV8.out.size
  clear ho hb
  go_wp2_with (fail)
  refine (spoilSm_any (recs smpC X) n w8.heap.size (.slice B2 n d2) w9 HL9.out (by omega) HO9.out).mono ?_
  rintro e w10 ⟨rfl, hg⟩
  have HV10 := Lib.hid (bel_own HV9.out HO9.out hsp9 HV9.out.size hg)
  clear hg HO9 HL9 hsp9
  go_wp2_with (fail)
  refine (ofX_any X n c1 A1 w10 HN.out hn9 HX.out (own_row (HK.out.below HV10.out).x1)).mono ?_
  rintro e w11 ⟨v11, b3, L3, rfl, hL3, hb3, ho, hb⟩
  obtain ⟨B3, d3, rfl⟩ := own_slice ho
  have HO11 := Lib.hid ho
  have HV11 := Lib.hid (HV10.out.trans (hb.mono HV10.out.size))
  have HL11 := Lib.hid (show (recs smpC L3).length = b3 * 4 from by rw [recs_length smpC_len, hL3])
  have hsp11 := HV10.out.size
  clear ho hb
  go_wp2_with (fail)
  refine (spoilSm_any (recs smpC L3) b3 w10.heap.size (.slice B3 b3 d3) w11 HL11.out (by omega) HO11.out).mono ?_
  rintro e w12 ⟨rfl, hg⟩
  have HV12 := Lib.hid (bel_own HV11.out HO11.out hsp11 HV11.out.size hg)
  clear hg HO11 HL11 hsp11
  go_wp2_with (fail)
  refine (joinY_any Y m c2 w1.heap.size A2 w12 HM.out HYR.out (HK.out.below HV12.out).y1).mono ?_
  rintro e w13 ⟨B4, b4, d4, L4, rfl, hb4, hL4, ho, hb⟩
  have HO13 := Lib.hid ho
  have HV13 := Lib.hid (HV12.out.trans (hb.mono HV12.out.size))
  have HL13 := Lib.hid hL4
  have hsp13 := HV12.out.size
  clear ho hb
  go_wp2_with (fail)
  refine (spoilBk_any L4 b4 w12.heap.size (.slice B4 b4 d4) w13 HL13.out (by omega) HO13.out).mono ?_
  rintro e w14 ⟨rfl, hg⟩
  have HV14 := Lib.hid (bel_own HV13.out HO13.out hsp13 HV13.out.size hg)
  clear hg HO13 HL13 hsp13
  go_wp2_with (fail)
  refine (widerY_any Y m c2 w1.heap.size A2 w14 HM.out HYR.out (HK.out.below HV14.out).y1).mono ?_
  rintro e w15 ⟨B5, b5, d5, L5, rfl, hb5, hL5, ho, hb⟩
  have HO15 := Lib.hid ho
  have HV15 := Lib.hid (HV14.out.trans (hb.mono HV14.out.size))
  have HL15 := Lib.hid hL5
  have hsp15 := HV14.out.size
  clear ho hb
  go_wp2_with (fail)
  refine (spoilBk_any L5 b5 w14.heap.size (.slice B5 b5 d5) w15 HL15.out (by omega) HO15.out).mono ?_
  rintro e w16 ⟨rfl, hg⟩
  have HV16 := Lib.hid (bel_own HV15.out HO15.out hsp15 HV15.out.size hg)
  clear hg HO15 HL15 hsp15
  go_wp2_with (fail)
  refine (quantileX_any X n c1 A1 w16 HN.out hn9 HX.out (own_row (HK.out.below HV16.out).x1)).mono ?_
  rintro e w17 ⟨⟨z1, z2, rfl⟩, hb⟩
  have HV17 := Lib.hid (HV16.out.trans (hb.mono HV16.out.size))
  clear hb
  go_wp2_with (fail)
  refine (unpack_b w17 r c3 A3 Z HRL.out hr100 hcr HBZ.out (own_row (HK.out.below HV17.out).z1)).mono ?_
  rintro e w18 ⟨⟨v18, z3, rfl⟩, hb⟩
  have HV18 := Lib.hid (HV17.out.trans (hb.mono HV17.out.size))
  clear hb
  go_wp2_with (fail)
  refine (eqSm_any X n c1 c4 A1 A4 w18 HN.out (by omega) (own_row (HK.out.below HV18.out).x1) (own_row (HK.out.below HV18.out).x2)).mono ?_
  rintro e w19 ⟨rfl, hb⟩
  have HV19 := Lib.hid (HV18.out.trans (hb.mono HV18.out.size))
  clear hb
  go_wp2_with (fail)
  refine (eqB_any Y m c2 c5 A2 A5 w19 HM.out (by omega) (own_row (HK.out.below HV19.out).y1) (own_row (HK.out.below HV19.out).y2)).mono ?_
  rintro e w20 ⟨rfl, hb⟩
  have HV20 := Lib.hid (HV19.out.trans (hb.mono HV19.out.size))
  clear hb
  go_wp2_with (fail)
  refine (eqBytes_any Z r c3 c6 A3 A6 w20 HRL.out (by omega) (own_row (HK.out.below HV20.out).z1) (own_row (HK.out.below HV20.out).z2)).mono ?_
  rintro e w21 ⟨rfl, hb⟩
  have HV21 := Lib.hid (HV20.out.trans (hb.mono HV20.out.size))
  clear hb
  go_wp2_with (fail)
  refine (ready_yes w21).mono ?_
  rintro e w22 ⟨rfl, hb⟩
  have HEND := Lib.hid (show Below w.heap.size w w22 from HB6.out.trans ((HV21.out.trans (hb.mono HV21.out.size)).mono HB6.out.size))
  clear hb
  go_wp2_with (fail)
  go_ret
  exact ⟨rfl, HEND.out⟩
end Go.Proofs.YtnmgfnnkcenfeaaGreatDoor
