/- TwinsStay: the law function. Printed by gen_TsL.py. -/
import Derived.Test.YtkcpfppjdjkjeaaGreatDoorCeY
import Derived.Test.YtkcpfppjdjkjeaaGreatDoorPrQ
import Derived.Test.YtkcpfppjdjkjeaaGreatDoorPrX
import Derived.Test.YtkcpfppjdjkjeaaGreatDoorPrEq
import Derived.Test.YtkcpfppjdjkjeaaGreatDoorTsB
import Derived.Test.YtkcpfppjdjkjeaaGreatDoorTsT
import Derived.Test.YtkcpfppjdjkjeaaGreatDoorTsU
import Derived.Test.YtkcpfppjdjkjeaaGreatDoorGnCe
import Derived.Test.YtkcpfppjdjkjeaaGreatDoorGnPr
import Derived.Test.YtkcpfppjdjkjeaaGreatDoorMgA
namespace Go.Proofs.YtkcpfppjdjkjeaaGreatDoor
open Go.RowKit

theorem bel_own {B : Nat} {w0 w w' : World} {base : Nat} {e : TypeId} {size n : Nat} {v : Value} {xs : List Value} (hb : Below B w0 w) (ho : w.ownsRow base e size v n xs) (hB : B ≤ base) (hBw : B ≤ w.heap.size) (hg : w.grownBy w' v.ownBlock) : Below B w0 w' :=
  hb.grown hg hBw (fun g hg2 => Nat.le_trans hB (ho.lt g hg2).1)
theorem own_aside {w w' : World} {base : Nat} {e : TypeId} {size n : Nat} {v : Value} {xs : List Value} {row : Option Nat} (h : w.ownsRow base e size v n xs) (hg : w.grownBy w' row) (hne : ∀ q, v.ownBlock = some q → row ≠ some q) : w'.ownsRow base e size v n xs := by
  refine ⟨h.1, ?_⟩
  have hk : ∀ b, v.ownBlock = some b → w'.heap[b]? = w.heap[b]? := fun b hb => hg.block b (h.lt b hb).2 (fun e => hne b hb e.symm)
  rcases h.2 with h | ⟨g, cap, cur, hv, hb, hh, r⟩
  · exact .inl h
  · exact .inr ⟨g, cap, cur, hv, hb, (hk g (by rw [hv]; rfl)).trans hh, r⟩
/-- The rows that were made stand, whatever new blocks hold. -/
structure TsK (V : World) (B1 B2 B3 B4 B5 B6 : Nat) (X Y : List Ce) (P : List Pr) (A1 A2 A3 A4 A5 A6 : Option Addr) (n m r c1 c2 c3 c4 c5 c6 : Nat) : Prop where
  x1 : V.ownsRow B1 41 8 (.slice A1 n c1) n (recs ceC X)
  y1 : V.ownsRow B2 41 8 (.slice A2 m c2) m (recs ceC Y)
  p1 : V.ownsRow B3 37 5 (.slice A3 r c3) r (recs prC P)
  x2 : V.ownsRow B4 41 8 (.slice A4 n c4) n (recs ceC X)
  y2 : V.ownsRow B5 41 8 (.slice A5 m c5) m (recs ceC Y)
  p2 : V.ownsRow B6 37 5 (.slice A6 r c6) r (recs prC P)
theorem TsK.below {V W : World} {B1 B2 B3 B4 B5 B6 : Nat} {X Y : List Ce} {P : List Pr} {A1 A2 A3 A4 A5 A6 : Option Addr} {n m r c1 c2 c3 c4 c5 c6 : Nat} (h : TsK V B1 B2 B3 B4 B5 B6 X Y P A1 A2 A3 A4 A5 A6 n m r c1 c2 c3 c4 c5 c6) (hb : Below V.heap.size V W) : TsK W B1 B2 B3 B4 B5 B6 X Y P A1 A2 A3 A4 A5 A6 n m r c1 c2 c3 c4 c5 c6 :=
  ⟨own_below h.x1 hb, own_below h.y1 hb, own_below h.p1 hb, own_below h.x2 hb, own_below h.y2 hb, own_below h.p2 hb⟩
theorem mg_row {a b : List Ce} {w w' : World} {e : Ending} (h : MgPost a b w e w') : ∃ (A : Option Addr) (n c : Nat) (z : Int) (L : List Value), e = .returned (.tuple #[.slice A n c, .int .i64 z]) ∧ L.length = n * 8 ∧ n ≤ 7 ∧ w'.ownsRow w.heap.size 41 8 (.slice A n c) n L ∧ Below w.heap.size w w' := by
  obtain ⟨h1, hb⟩ := h
  rcases h1 with ⟨_, rfl⟩ | ⟨_, A, c, n, hn, rfl, ho⟩
  · exact ⟨none, 0, 0, 13, [], rfl, rfl, by omega, World.ownsRow_nil _ _ _ _, hb⟩
  · exact ⟨A, n, c, 0, _, rfl, by rw [recs_length ceC_len, hn], by have := mgL_len a b; omega, ho, hb⟩
theorem chs_self (v : Nat → Pv) : chs v v = [] := by
  unfold chs frn
  simp
theorem tkL_nil : tkL [] = [] := rfl
set_option maxRecDepth 100000 in
set_option maxHeartbeats 16000000 in
theorem tsL_yes (w : World) (xs : LiA) (n0 c0 : Nat) (A0 : Option Addr) (hs : ∀ (W : World), Below w.heap.size w W → W.heap[w.heap.size]? = some (.cells #[.slice A0 n0 c0, .int .i64 0] 25) → Strm W w.heap.size xs 0) (hT : U8T w) :
    Calls Tryz.prog 3 #[.slice A0 n0 c0] w fun e w' => e = .returned (.bool true) ∧ Below w.heap.size w w' := by
  have HS := Lib.hid hs
  have HT := Lib.hid (fun V (hV : Below w.heap.size w V) => hT.below hV)
  clear hs hT
  go_enter Tryz.func3, Tryz.ntmps3
  go_upto_region 2 with (fail)
  obtain ⟨p, ep⟩ : ∃ p, p = w.heap.size := ⟨_, rfl⟩
  obtain ⟨q, eq⟩ : ∃ q, q = w.heap.size + 1 := ⟨_, rfl⟩
  obtain ⟨W, hW⟩ : ∃ W, W = (w.alloc (.cells #[.slice A0 n0 c0, .int .i64 0] 25)).alloc (.cells #[.slice A0 n0 c0, .int .i64 0] 25) := ⟨_, rfl⟩
  have hB0 : Below w.heap.size w W := by rw [hW]; exact ((Below.refl _ _).alloc (Nat.le_refl _) _).alloc (by simp) _
  have hWs : W.heap.size = w.heap.size + 1 + 1 := by rw [hW]; simp
  have hp0 : W.heap[w.heap.size]? = some (.cells #[.slice A0 n0 c0, .int .i64 0] 25) := by rw [hW, Below.heap_alloc _ _ _ (by simp)]; exact heap_new w _
  have hq0 : W.heap[w.heap.size + 1]? = some (.cells #[.slice A0 n0 c0, .int .i64 0] 25) := by
    rw [hW]
    have := heap_new (w.alloc (.cells #[.slice A0 n0 c0, .int .i64 0] 25)) (.cells #[.slice A0 n0 c0, .int .i64 0] 25)
    simpa using this
  have HP0 := Lib.hid (HS.out W hB0 hp0)
  have HLO := Lib.hid HP0.out.low
  have HQ0 := Lib.hid (show Strm W (w.heap.size + 1) xs 0 from HP0.out.twin (Nat.le_succ _) (hq0.trans hp0.symm))
  have HB0 := Lib.hid hB0
  rw [← eq, ← ep, ← hW]
  rw [← eq] at HQ0
  rw [← ep] at HP0 HLO
  have hwp : w.heap.size ≤ p := by omega
  have hwq : w.heap.size ≤ q := by omega
  have hpq : p < q := by omega
  have hqW : q < W.heap.size := by omega
  clear hW hB0 HS hp0 hq0 ep eq hWs
  go_wp2_with (fail)
  refine (rightCellsF_any W p 0 xs (by omega) HP0.out).mono ?_
  rintro e w1 ⟨X, A1, c1, k1, n, rfl, hX, h9, hn, hn6, ho, hst, hk1, hg, hf⟩
  have hs1 := hg.size
  have HX := Lib.hid hX
  have H9 := Lib.hid (show Erl X from h9)
  have HN := Lib.hid hn
  have HF1 := Lib.hid hf
  have HO1 := Lib.hid ho
  have HP1 := Lib.hid hst
  have HQ1 := Lib.hid (HQ0.out.other HLO.out hg (by omega))
  have HB1 := Lib.hid (HB0.out.grown hg HB0.out.size (fun g e => by cases e; exact hwp))
  clear hX h9 hn ho hst hg hf HP0 HQ0 HB0
  go_wp2_with (fail)
  refine (rightCellsF_any w1 p k1 xs (by omega) HP1.out).mono ?_
  rintro e w2 ⟨Y, A2, c2, k2, m, rfl, hY, h9, hm, hm6, ho, hst, hk2, hg, hf⟩
  have hs2 := hg.size
  have HY := Lib.hid hY
  have H9Y := Lib.hid (show Erl Y from h9)
  have HM := Lib.hid hm
  have HF2 := Lib.hid hf
  have HO2 := Lib.hid (own_kept HO1.out hg (by omega))
  have HR2 := Lib.hid ho
  have HP2 := Lib.hid hst
  have HQ2 := Lib.hid (HQ1.out.other HLO.out hg (by omega))
  have HB2 := Lib.hid (HB1.out.grown hg HB1.out.size (fun g e => by cases e; exact hwp))
  clear hY h9 hm ho hst hg hf HP1 HQ1 HB1 HO1
  go_wp2_with (fail)
  refine (rightPropsF_any w2 p k2 xs (by omega) HP2.out (fun V hV => HT.out V (HB2.out.grown hV HB2.out.size (fun g e => by cases e; exact hwp)))).mono ?_
  rintro e w3 ⟨P, A3, c3, k3, r, rfl, hP, hr, hr5, ho, hst, hk3, hg, hf⟩
  have hs3 := hg.size
  have HPG := Lib.hid hP
  have HRL := Lib.hid hr
  have HF3 := Lib.hid hf
  have HO3 := Lib.hid (own_kept HO2.out hg (by omega))
  have HR3 := Lib.hid (own_kept HR2.out hg (by omega))
  have HS3 := Lib.hid ho
  have HQ3 := Lib.hid (HQ2.out.other HLO.out hg (by omega))
  have HB3 := Lib.hid (HB2.out.grown hg HB2.out.size (fun g e => by cases e; exact hwp))
  clear hP hr ho hst hg hf HP2 HQ2 HB2 HO2 HR2
  go_upto_region 3 with (fail)
  go_wp2_with (fail)
  refine (rightCellsF_any w3 q 0 xs (by omega) HQ3.out).mono ?_
  rintro e w4 ⟨X', A4, c4, k1', n', rfl, _, _, hn, _, ho, hst, _, hg, hf⟩
  obtain ⟨hl1, hl2⟩ := Prod.mk.inj (HF1.out.trans hf.symm)
  subst hl1
  subst hl2
  obtain rfl : n = n' := by rw [← HN.out, hn]
  have hs4 := hg.size
  have HO4 := Lib.hid (own_kept HO3.out hg (by omega))
  have HR4 := Lib.hid (own_kept HR3.out hg (by omega))
  have HS4 := Lib.hid (own_kept HS3.out hg (by omega))
  have HU4 := Lib.hid ho
  have HQ4 := Lib.hid hst
  have HB4 := Lib.hid (HB3.out.grown hg HB3.out.size (fun g e => by cases e; exact hwq))
  clear hn ho hst hg hf HQ3 HB3 HO3 HR3 HS3 HF1
  go_wp2_with (fail)
  refine (rightCellsF_any w4 q k1 xs (by omega) HQ4.out).mono ?_
  rintro e w5 ⟨Y', A5, c5, k2', m', rfl, _, _, hm, _, ho, hst, _, hg, hf⟩
  obtain ⟨hl1, hl2⟩ := Prod.mk.inj (HF2.out.trans hf.symm)
  subst hl1
  subst hl2
  obtain rfl : m = m' := by rw [← HM.out, hm]
  have hs5 := hg.size
  have HO5 := Lib.hid (own_kept HO4.out hg (by omega))
  have HR5 := Lib.hid (own_kept HR4.out hg (by omega))
  have HS5 := Lib.hid (own_kept HS4.out hg (by omega))
  have HU5 := Lib.hid (own_kept HU4.out hg (by omega))
  have HV5 := Lib.hid ho
  have HQ5 := Lib.hid hst
  have HB5 := Lib.hid (HB4.out.grown hg HB4.out.size (fun g e => by cases e; exact hwq))
  clear hm ho hst hg hf HQ4 HB4 HO4 HR4 HS4 HU4 HF2
  go_wp2_with (fail)
  refine (rightPropsF_any w5 q k2 xs (by omega) HQ5.out (fun V hV => HT.out V (HB5.out.grown hV HB5.out.size (fun g e => by cases e; exact hwq)))).mono ?_
  rintro e w6 ⟨P', A6, c6, k3', r', rfl, _, hr, _, ho, _, _, hg, hf⟩
  obtain ⟨hl1, hl2⟩ := Prod.mk.inj (HF3.out.trans hf.symm)
  subst hl1
  subst hl2
  obtain rfl : r = r' := by rw [← HRL.out, hr]
  have hs6 := hg.size
  have HB6 := Lib.hid (HB5.out.grown hg HB5.out.size (fun g e => by cases e; exact hwq))
  have HK := Lib.hid (show TsK w6 W.heap.size w1.heap.size w2.heap.size w3.heap.size w4.heap.size w5.heap.size X Y P A1 A2 A3 A4 A5 A6 n m r c1 c2 c3 c4 c5 c6 from ⟨own_kept HO5.out hg (by omega), own_kept HR5.out hg (by omega), own_kept HS5.out hg (by omega), own_kept HU5.out hg (by omega), own_kept HV5.out hg (by omega), ho⟩)
  have HTV := Lib.hid (fun V (hV : Below w6.heap.size w6 V) => HT.out V (HB6.out.trans (hV.mono HB6.out.size)))
  have hcn := own_cap HK.out.x1
  have hcm := own_cap HK.out.y1
  have HV0 := Lib.hid (Below.refl w6.heap.size w6)
  clear hr ho hg hf HQ5 HB5 HO5 HR5 HS5 HU5 HV5 HF3 HT HLO
  go_upto_region 4 with (fail)
  go_wp2_with (fail)
  refine (merge_any X Y n m c1 c2 A1 A2 w6 HX.out HY.out HN.out HM.out (by omega) (by omega) hcn hcm (own_ly HK.out.x1) (own_ly HK.out.y1) (HTV.out w6 (Below.refl _ _))).mono ?_
  intro e w7 hpo
  obtain ⟨B1, b1, d1, z1, L1, rfl, hL1, hb1, ho, hb⟩ := mg_row hpo
  clear hpo
  have HO7 := Lib.hid ho
  have HV7 := Lib.hid (HV0.out.trans (hb.mono HV0.out.size))
  have HL7 := Lib.hid hL1
  have hsp7 := HV0.out.size
  clear ho hb
  go_wp2_with (fail)
  refine (spoilCe_any L1 b1 w6.heap.size (.slice B1 b1 d1) w7 HL7.out (by omega) HO7.out).mono ?_
  rintro e w8 ⟨rfl, hg⟩
  have HV8 := Lib.hid (bel_own HV7.out HO7.out hsp7 HV7.out.size hg)
  clear hg HO7 HL7 hsp7
  go_wp2_with (fail)
  refine (compact_any X 5 n c1 A1 w8 HX.out HN.out (by omega) (own_row (HK.out.below HV8.out).x1) (by omega) (by omega) (HTV.out w8 HV8.out)).mono ?_
  rintro e w9 ⟨B2, d2, b2, rfl, hL2, ho, hb⟩
  have hb2 : b2 ≤ 6 := by have := cpL_len X 5; have := HN.out; omega
  have HO9 := Lib.hid ho
  have HV9 := Lib.hid (HV8.out.trans (hb.mono HV8.out.size))
  have HL9 := Lib.hid (show (recs ceC (cpL X 5)).length = b2 * 8 from by rw [recs_length ceC_len, hL2])
  have hsp9 := HV8.out.size
  clear ho hb
  go_wp2_with (fail)
  refine (spoilCe_any (recs ceC (cpL X 5)) b2 w8.heap.size (.slice B2 b2 d2) w9 HL9.out (by omega) HO9.out).mono ?_
  rintro e w10 ⟨rfl, hg⟩
  have HV10 := Lib.hid (bel_own HV9.out HO9.out hsp9 HV9.out.size hg)
  clear hg HO9 HL9 hsp9
  go_wp2_with (fail)
  refine (set_any X n c1 A1 w10 HX.out HN.out (by omega) hcn (own_ly (HK.out.below HV10.out).x1) (HTV.out w10 HV10.out)).mono ?_
  rintro e w11 ⟨B3, d3, L3, rfl, hL3, ho, hb⟩
  have HO11 := Lib.hid ho
  have HV11 := Lib.hid (HV10.out.trans (hb.mono HV10.out.size))
  have HL11 := Lib.hid hL3
  have hsp11 := HV10.out.size
  clear ho hb
  go_wp2_with (fail)
  refine (spoilCe_any L3 (n + 1) w10.heap.size (.slice B3 (n + 1) d3) w11 HL11.out (by omega) HO11.out).mono ?_
  rintro e w12 ⟨rfl, hg⟩
  have HV12 := Lib.hid (bel_own HV11.out HO11.out hsp11 HV11.out.size hg)
  clear hg HO11 HL11 hsp11
  go_wp2_with (fail)
  refine (under_any P r c3 A3 w12 HPG.out HRL.out (by omega) (own_row (HK.out.below HV12.out).p1) (HTV.out w12 HV12.out)).mono ?_
  rintro e w13 ⟨B4, d4, b4, L4, rfl, hL4, hb4, ho, hb⟩
  have HO13 := Lib.hid ho
  have HV13 := Lib.hid (HV12.out.trans (hb.mono HV12.out.size))
  have HL13 := Lib.hid (show (recs prC L4).length = b4 * 5 from by rw [recs_length prC_len, hL4])
  have hsp13 := HV12.out.size
  clear ho hb
  go_wp2_with (fail)
  refine (spoilPr_any (recs prC L4) b4 w12.heap.size (.slice B4 b4 d4) w13 HL13.out (by omega) HO13.out).mono ?_
  rintro e w14 ⟨rfl, hg⟩
  have HV14 := Lib.hid (bel_own HV13.out HO13.out hsp13 HV13.out.size hg)
  clear hg HO13 HL13 hsp13
  go_wp2_with (fail)
  refine (apply_any P P r 0 c3 0 A3 none w14 HPG.out HPG.out HRL.out (by rw [chs_self]; rfl) (own_row (HK.out.below HV14.out).p1) (.inl (by rw [chs_self]; rfl)) (HTV.out w14 HV14.out)).mono ?_
  rw [HRL.out]
  rintro e w15 ⟨B5, d5, rfl, ho, hb⟩
  have HO15 := Lib.hid ho
  have HV15 := Lib.hid (HV14.out.trans (hb.mono HV14.out.size))
  have HL15 := Lib.hid (show (recs prC P).length = r * 5 from by rw [recs_length prC_len, HRL.out])
  have hsp15 := HV14.out.size
  clear ho hb
  go_wp2_with (fail)
  refine (spoilPr_any (recs prC P) r w14.heap.size (.slice B5 r d5) w15 HL15.out (by omega) HO15.out).mono ?_
  rintro e w16 ⟨rfl, hg⟩
  have HV16 := Lib.hid (bel_own HV15.out HO15.out hsp15 HV15.out.size hg)
  clear hg HO15 HL15 hsp15
  go_wp2_with (fail)
  refine (take_any X Y [] n m 0 c1 c2 0 A1 A2 none w16 HX.out HY.out H9Y.out (by exact ⟨List.Pairwise.nil, fun x hx => by cases hx⟩) HN.out HM.out rfl (by omega) (by omega) (by omega) hcm (own_ly (HK.out.below HV16.out).x1) (own_ly (HK.out.below HV16.out).y1) (.inl rfl) (HTV.out w16 HV16.out)).mono ?_
  rintro e w17 ⟨B6, B7, d6, d7, b7, rfl, hL7, ho, ho7, hb, hdj⟩
  have hb7 : b7 ≤ 7 := by have := mgL_len Y (tkL []); omega
  have HO17 := Lib.hid ho
  have HP17 := Lib.hid ho7
  have HL17 := Lib.hid (show (recs ceC X).length = n * 8 from by rw [recs_length ceC_len, HN.out])
  have HM17 := Lib.hid (show (recs ceC (mgL Y (tkL []))).length = b7 * 8 from by rw [recs_length ceC_len, hL7])
  have HDJ := Lib.hid hdj
  have HV17 := Lib.hid (HV16.out.trans (hb.mono HV16.out.size))
  have hsp := HV16.out.size
  clear ho ho7 hb hdj hL7
  go_upto_region 15 with (fail)
  obtain ⟨g, eg⟩ : ∃ g, g = w17.heap.size := ⟨_, rfl⟩
  obtain ⟨w18, e18⟩ : ∃ V : World, V = w17.alloc (.cells #[.slice B6 n d6, .slice B7 b7 d7] 49) := ⟨_, rfl⟩
  have hb18 : Below w17.heap.size w17 w18 := by rw [e18]; exact (Below.refl _ _).alloc (Nat.le_refl _) _
  have hx18 : w18.heap[g]? = some (.cells #[.slice B6 n d6, .slice B7 b7 d7] 49 (0, 0)) := by rw [e18, eg]; exact heap_new w17 _
  have HV18 := Lib.hid (HV17.out.trans (hb18.mono HV17.out.size))
  have HO18 := Lib.hid (own_below HO17.out hb18)
  have HP18 := Lib.hid (own_below HP17.out hb18)
  have HG18 := Lib.hid (fun q hq => show q < g from by rw [eg]; exact (HO17.out.lt q hq).2)
  have hgl : g < w18.heap.size := (Array.getElem?_eq_some_iff.1 hx18).1
  have HX18 := Lib.hid hx18
  rw [← eg, ← e18]
  have q0 := cell_of_blk (j := 0) hx18 rfl
  clear eg e18 hb18 hx18 HO17 HP17 HV17
  go_wp2_with (fail)
  refine (spoilCe_any (recs ceC X) n w16.heap.size (.slice B6 n d6) w18 HL17.out (by omega) HO18.out).mono ?_
  rintro e w19 ⟨rfl, hg⟩
  have HV19 := Lib.hid (bel_own HV18.out HO18.out hsp HV18.out.size hg)
  have HP19 := Lib.hid (own_aside HP18.out hg (fun q hq hq2 => by have := HDJ.out q q hq2 hq; omega))
  have hx19 := (hg.block g hgl (fun e => by have := HG18.out g e.symm; omega)).trans HX18.out
  have q1 := cell_of_blk (j := 1) hx19 rfl
  have hgl2 : g < w19.heap.size := (Array.getElem?_eq_some_iff.1 hx19).1
  clear hg hx19 HO18 HP18 HG18 HX18 q0
  go_wp2_with (fail)
  refine (spoilCe_any (recs ceC (mgL Y (tkL []))) b7 w16.heap.size (.slice B7 b7 d7) w19 HM17.out (by omega) HP19.out).mono ?_
  rintro e w20 ⟨rfl, hg⟩
  have HV20 := Lib.hid (bel_own HV19.out HP19.out hsp HV19.out.size hg)
  clear hg HP19 q1
  go_wp2_with (fail)
  refine (eqCe_any X n c1 c4 A1 A4 w20 HN.out (by omega) (own_row (HK.out.below HV20.out).x1) (own_row (HK.out.below HV20.out).x2)).mono ?_
  rintro e w21 ⟨rfl, hb⟩
  have HV21 := Lib.hid (HV20.out.trans (hb.mono HV20.out.size))
  clear hb
  go_wp2_with (fail)
  refine (eqCe_any Y m c2 c5 A2 A5 w21 HM.out (by omega) (own_row (HK.out.below HV21.out).y1) (own_row (HK.out.below HV21.out).y2)).mono ?_
  rintro e w22 ⟨rfl, hb⟩
  have HV22 := Lib.hid (HV21.out.trans (hb.mono HV21.out.size))
  clear hb
  go_wp2_with (fail)
  refine (eqP_any P r c3 c6 A3 A6 w22 HRL.out (by omega) (own_row (HK.out.below HV22.out).p1) (own_row (HK.out.below HV22.out).p2)).mono ?_
  rintro e w23 ⟨rfl, hb⟩
  have HV23 := Lib.hid (HV22.out.trans (hb.mono HV22.out.size))
  clear hb
  go_wp2_with (fail)
  refine (ready_yes w23).mono ?_
  rintro e w24 ⟨rfl, hb⟩
  have HEND := Lib.hid (show Below w.heap.size w w24 from HB6.out.trans ((HV23.out.trans (hb.mono HV23.out.size)).mono HB6.out.size))
  clear hb
  go_wp2_with (fail)
  go_ret
  exact ⟨rfl, HEND.out⟩
end Go.Proofs.YtkcpfppjdjkjeaaGreatDoor
