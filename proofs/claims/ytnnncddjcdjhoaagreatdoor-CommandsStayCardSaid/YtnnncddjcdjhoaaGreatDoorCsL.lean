/- CommandsStay: the law function. Printed by gen_CsL.py. -/
import Derived.Test.YtnnncddjcdjhoaaGreatDoorLrN
import Derived.Test.YtnnncddjcdjhoaaGreatDoorLrO
import Derived.Test.YtnnncddjcdjhoaaGreatDoorLrM
import Derived.Test.YtnnncddjcdjhoaaGreatDoorLrP
import Derived.Test.YtnnncddjcdjhoaaGreatDoorGnLr
import Derived.Test.YtnnncddjcdjhoaaGreatDoorGnNr
import Derived.Test.YtnnncddjcdjhoaaGreatDoorGnTx
import Derived.Test.YtnnncddjcdjhoaaGreatDoorEqLr
import Derived.Test.YtnnncddjcdjhoaaGreatDoorEqNr
import Derived.Test.YtnnncddjcdjhoaaGreatDoorEqNm
import Derived.Test.YtnnncddjcdjhoaaGreatDoorMgA
namespace Go.Proofs.YtnnncddjcdjhoaaGreatDoor
open Go.RowKit

/-- An office keeps what it is while a row of cells that is not its own is written over. -/
theorem ofI_spoil {w w' : World} {o m ck base size n : Nat} {M : Mp} {p : Po} {tm : Int} {e : TypeId} {v : Value} {xs : List Value} (h : OfI w o m ck M p tm) (ho : w.ownsRow base e size v n xs) (hb : o < base) (hg : w.grownBy w' v.ownBlock) : OfI w' o m ck M p tm := by
  have hl := h.lt
  have hm := h.map
  unfold MpI at hm
  have hml := (Array.getElem?_eq_some_iff.1 hm).1
  obtain ⟨A, c, rfl⟩ := own_slice ho
  rcases own_two ho with ⟨rfl, _, _⟩ | ⟨g, rfl, hg1, _⟩
  · exact h.keep (hg.block o hl (by simp [Value.ownBlock])) (hg.block m hml (by simp [Value.ownBlock]))
  · obtain ⟨cs, hcs⟩ := own_blk ho
    refine h.keep (hg.block o hl (fun e => absurd (show o = g by simpa [Value.ownBlock] using e) (by omega))) (hg.block m hml (fun e => ?_))
    have e : m = g := by simpa [Value.ownBlock] using e
    rw [e, hcs] at hm
    cases hm
theorem doer_spoil {w w' : World} {g r base size n : Nat} {L : List Nat} {t : Int} {e : TypeId} {v : Value} {xs : List Value} (h : Doer w g g r L t) (ho : w.ownsRow base e size v n xs) (he : e ≠ 95) (hb : g < base) (hg : w.grownBy w' v.ownBlock) : Doer w' g g r L t := by
  refine h.row hg (fun p hp => ?_)
  have h1 := (ho.lt p hp).1
  refine ⟨by omega, .inr (fun cs hcs => ?_)⟩
  obtain ⟨A, c, rfl⟩ := own_slice ho
  rcases own_two ho with ⟨rfl, _, _⟩ | ⟨b, rfl, _, _⟩
  · simp [Value.ownBlock] at hp
  · obtain ⟨cs2, hcs2⟩ := own_blk ho
    have hpb : b = p := by simpa [Value.ownBlock] using hp
    rw [← hpb, hcs2] at hcs
    injection hcs with hcs
    injection hcs with _ h2 _
    exact he h2
theorem bel_own {B : Nat} {w0 w w' : World} {base : Nat} {e : TypeId} {size n : Nat} {v : Value} {xs : List Value} (hb : Below B w0 w) (ho : w.ownsRow base e size v n xs) (hB : B ≤ base) (hBw : B ≤ w.heap.size) (hg : w.grownBy w' v.ownBlock) : Below B w0 w' :=
  hb.grown hg hBw (fun g hg2 => Nat.le_trans hB (ho.lt g hg2).1)
/-- The rows that were made stand, whatever new blocks hold. -/
structure CsK (V : World) (B1 B2 B3 B4 : Nat) (L : List Lr) (A A' : Option Addr) (n c c' : Nat) (N : List Nr) (C C' : Option Addr) (m d d' : Nat) : Prop where
  l1 : V.ownsRow B1 35 6 (.slice A n c) n (recs lrC L)
  l2 : V.ownsRow B2 35 6 (.slice A' n c') n (recs lrC L)
  n1 : V.ownsRow B3 40 9 (.slice C m d) m (recs nrC N)
  n2 : V.ownsRow B4 40 9 (.slice C' m d') m (recs nrC N)
theorem CsK.below {V W : World} {B1 B2 B3 B4 : Nat} {L : List Lr} {A A' : Option Addr} {n c c' : Nat} {N : List Nr} {C C' : Option Addr} {m d d' : Nat} (h : CsK V B1 B2 B3 B4 L A A' n c c' N C C' m d d') (hb : Below V.heap.size V W) : CsK W B1 B2 B3 B4 L A A' n c c' N C C' m d d' :=
  ⟨own_below h.l1 hb, own_below h.l2 hb, own_below h.n1 hb, own_below h.n2 hb⟩
set_option maxRecDepth 100000 in
set_option maxHeartbeats 16000000 in
theorem csL_yes (w : World) (xs : LiA) (n0 c0 : Nat) (A0 : Option Addr) (hs : ∀ (W : World), Below w.heap.size w W → W.heap[w.heap.size]? = some (.cells #[.slice A0 n0 c0, .int .i64 0] 25) → Strm W w.heap.size xs 0) (hT : U8T w) :
    Calls Tryz.prog 3 #[.slice A0 n0 c0] w fun e w' => e = .returned (.bool true) ∧ Below w.heap.size w w' := by
  have HS := Lib.hid hs
  have HT := Lib.hid (fun V (hV : Below w.heap.size w V) => hT.below hV)
  clear hs hT
  go_enter Tryz.func3, Tryz.ntmps3
  go_upto_region 2 with (fail)
  obtain ⟨p, ep⟩ : ∃ p, p = w.heap.size := ⟨_, rfl⟩
  obtain ⟨q, eq⟩ : ∃ q, q = w.heap.size + 1 := ⟨_, rfl⟩
  obtain ⟨W, hW⟩ : ∃ W, W = (w.alloc (.cells #[.slice A0 n0 c0, .int .i64 0] 25)).alloc (.cells #[.slice A0 n0 c0, .int .i64 0] 25) := ⟨_, rfl⟩
  have hB0 : Below w.heap.size w W := by rw [hW]; exact ((Below.refl _ _).alloc (Nat.le_refl _) _).alloc (by simp) _
  have hWs : W.heap.size = w.heap.size + 1 + 1 := by rw [hW]; simp
  have hp0 : W.heap[w.heap.size]? = some (.cells #[.slice A0 n0 c0, .int .i64 0] 25) := by rw [hW, Below.heap_alloc _ _ _ (by simp)]; exact heap_new w _
  have hq0 : W.heap[w.heap.size + 1]? = some (.cells #[.slice A0 n0 c0, .int .i64 0] 25) := by
    rw [hW]
    have := heap_new (w.alloc (.cells #[.slice A0 n0 c0, .int .i64 0] 25)) (.cells #[.slice A0 n0 c0, .int .i64 0] 25)
    simpa using this
  have HP0 := Lib.hid (HS.out W hB0 hp0)
  have HLO := Lib.hid HP0.out.low
  have HQ0 := Lib.hid (show Strm W (w.heap.size + 1) xs 0 from HP0.out.twin (Nat.le_succ _) (hq0.trans hp0.symm))
  have HB0 := Lib.hid hB0
  rw [← eq, ← ep, ← hW]
  rw [← eq] at HQ0
  rw [← ep] at HP0 HLO
  have hwp : w.heap.size ≤ p := by omega
  have hwq : w.heap.size ≤ q := by omega
  have hpq : p < q := by omega
  have hqW : q < W.heap.size := by omega
  clear hW hB0 HS hp0 hq0 ep eq hWs
  go_wp2_with (fail)
  refine (letters_any W p 0 5 xs (by omega) (by omega) HP0.out).mono ?_
  rintro e w1 ⟨L, A, c, k1, n, hf1, rfl, hk1, hln1, hn5, ho1, hst1, hkk, hg1⟩
  have hs1 := hg1.size
  have HF1 := Lib.hid hf1
  have HLK := Lib.hid hk1
  have HLN := Lib.hid hln1
  have HO1 := Lib.hid ho1
  have HP1 := Lib.hid hst1
  have HQ1 := Lib.hid (HQ0.out.other HLO.out hg1 (by omega))
  have HB1 := Lib.hid (HB0.out.grown hg1 HB0.out.size (fun g e => by cases e; exact hwp))
  clear hf1 hk1 hln1 ho1 hst1 hg1 HP0 HQ0 HB0
  go_wp2_with (fail)
  refine (letters_any w1 q 0 5 xs (by omega) (by omega) HQ1.out).mono ?_
  rintro e w2 ⟨L', A', c', k1', n', hf2, rfl, _, hln2, _, ho2, hst2, _, hg2⟩
  obtain ⟨hl1, hl2⟩ := Prod.mk.inj (HF1.out.symm.trans hf2)
  subst hl1
  subst hl2
  obtain rfl : n = n' := by rw [← HLN.out, hln2]
  have hs2 := hg2.size
  have HO2 := Lib.hid (own_kept HO1.out hg2 (by omega))
  have HR2 := Lib.hid ho2
  have HQ2 := Lib.hid hst2
  have HP2 := Lib.hid (HP1.out.row hg2 (fun g e => by cases e; exact hpq))
  have HB2 := Lib.hid (HB1.out.grown hg2 HB1.out.size (fun g e => by cases e; exact hwq))
  clear hf2 hln2 ho2 hst2 hg2 HP1 HQ1 HB1 HO1 HF1
  go_wp2_with (fail)
  refine (notesS_any w2 p k1 xs (by omega) HP2.out).mono ?_
  rintro e w3 ⟨N, C, d, k2, m, hf3, rfl, hnk, hnn, hm4, ho3, hst3, _, hg3⟩
  have hs3 := hg3.size
  have HF3 := Lib.hid hf3
  have HNK := Lib.hid hnk
  have HNN := Lib.hid hnn
  have HO3 := Lib.hid (own_kept HO2.out hg3 (by omega))
  have HR3 := Lib.hid (own_kept HR2.out hg3 (by omega))
  have HN3 := Lib.hid ho3
  have HQ3 := Lib.hid (HQ2.out.other HLO.out hg3 (by omega))
  have HB3 := Lib.hid (HB2.out.grown hg3 HB2.out.size (fun g e => by cases e; exact hwp))
  clear hf3 hnk hnn ho3 hst3 hg3 HP2 HQ2 HB2 HO2 HR2
  go_wp2_with (fail)
  refine (notesS_any w3 q k1 xs (by omega) HQ3.out).mono ?_
  rintro e w4 ⟨N', C', d', k2', m', hf4, rfl, _, hnn2, _, ho4, _, _, hg4⟩
  obtain ⟨hl1, hl2⟩ := Prod.mk.inj (HF3.out.symm.trans hf4)
  subst hl1
  subst hl2
  obtain rfl : m = m' := by rw [← HNN.out, hnn2]
  have hs4 := hg4.size
  have HB4 := Lib.hid (HB3.out.grown hg4 HB3.out.size (fun g e => by cases e; exact hwq))
  have HK := Lib.hid (show CsK w4 W.heap.size w1.heap.size w2.heap.size w3.heap.size L A A' n c c' N C C' m d d' from ⟨own_kept HO3.out hg4 (by omega), own_kept HR3.out hg4 (by omega), own_kept HN3.out hg4 (by omega), ho4⟩)
  have HTV := Lib.hid (fun V (hV : Below w4.heap.size w4 V) => HT.out V (HB4.out.trans (hV.mono HB4.out.size)))
  clear hf4 hnn2 ho4 hg4 HQ3 HB3 HO3 HR3 HN3 HF3 HT HLO
  go_wp2_with (fail)
  refine (order_b L n c W.heap.size A w4 HLN.out hn5 HLK.out HK.out.l1 (HTV.out w4 (Below.refl _ _))).mono ?_
  rintro e w5 ⟨oA, on, oc, oz, OL, rfl, hol, hon, hoo, hb5⟩
  have HV5 := Lib.hid hb5
  have HOO := Lib.hid hoo
  have HOL := Lib.hid (show (recs lrC OL).length = on * 6 from by rw [recs_length lrC_len, hol])
  clear hb5 hoo hol
  go_wp2_with (fail)
  refine (spoilLr_any (recs lrC OL) on w4.heap.size (.slice oA on oc) w5 HOL.out (by omega) HOO.out).mono ?_
  rintro e w6 ⟨rfl, hg6⟩
  have HV6 := Lib.hid (bel_own HV5.out HOO.out (Nat.le_refl _) HV5.out.size hg6)
  clear hg6 HOO HOL HV5
  go_wp2_with (fail)
  refine (merge_b N m d w2.heap.size C w6 HNN.out (by omega) HNK.out (HK.out.below HV6.out).n1 (HTV.out w6 HV6.out)).mono ?_
  rintro e w7 ⟨mA, mn, mc, mz, ML, rfl, hml, hmn, hmo, hb7⟩
  have HV7 := Lib.hid (HV6.out.trans (hb7.mono HV6.out.size))
  have HMO := Lib.hid hmo
  have HML := Lib.hid (show (recs nrC ML).length = mn * 9 from by rw [recs_length nrC_len, hml])
  have h67 := hb7.size
  clear hb7 hmo hml
  go_wp2_with (fail)
  refine (spoilNr_any (recs nrC ML) mn w6.heap.size (.slice mA mn mc) w7 HML.out (by omega) HMO.out).mono ?_
  rintro e w8 ⟨rfl, hg8⟩
  have HV8 := Lib.hid (bel_own HV7.out HMO.out HV6.out.size HV7.out.size hg8)
  clear hg8 HMO HML HV7 h67
  have HNEW := Lib.hid (show Calls Tryz.prog 10 #[.agg #[.int .i64 5, .int .i64 10, .int .i64 2, .int .i64 5]] w8 _ from new_any ofP w8 ofP_ok)
  go_wp2_with (fail)
  refine HNEW.out.mono ?_
  rintro e w9 ⟨o, m0, rfl, hof, hb9, ho8, hm8⟩
  have HOF9 := Lib.hid hof
  have HV9 := Lib.hid (HV8.out.trans (hb9.mono HV8.out.size))
  have h89 := hb9.size
  have hol9 := hof.lt
  clear hof hb9 HNEW
  go_wp2_with (fail)
  refine (newDoer_any 5 w9 (by omega) (by omega)).mono ?_
  rintro e w10 ⟨g, rfl, hg9, hgb, hb10⟩
  have hog : o < g := by omega
  have HDO := Lib.hid (show Doer w10 g g 5 [] 0 from ⟨⟨none, 0, hgb, .inl ⟨rfl, rfl, rfl, rfl⟩⟩, by simp, by simp, by omega, Nat.le_refl _⟩)
  have hgl := (Array.getElem?_eq_some_iff.1 hgb).1
  have HOF10 := Lib.hid (HOF9.out.below hb10)
  have HV10 := Lib.hid (HV9.out.trans (hb10.mono HV9.out.size))
  have h48 := HV8.out.size
  have h910 := hb10.size
  clear hgb hb10 HOF9
  have HPUT := Lib.hid (show Calls Tryz.prog 12 #[.pointer (some ⟨o, 0, none⟩), .agg #[.string ⟨#[108, 97]⟩, .string ⟨#[]⟩, .string ⟨#[]⟩, .int .i64 0, .int .i64 0, .int .i64 50]] w10 _ from put_any w10 o m0 0 [] ofP 0 ofX HOF10.out ofP_ok (by constructor <;> intro i <;> simp [fM]) ofX_ok (by decide) (HTV.out w10 HV10.out))
  go_wp2_with (fail)
  refine HPUT.out.mono ?_
  rintro e w11 ⟨h, m1, ck1, M1, tm1, hag, rfl, hof, hg11, hcs⟩
  obtain ⟨hz, hM⟩ := put_one hag
  obtain ⟨hM1, rfl⟩ : fM M1 = one ofN1 ∧ tm1 = 0 := by
    rcases hcs with ⟨_, h2, h3⟩ | ⟨h1, _⟩
    · exact ⟨h2.trans hM, h3⟩
    · exact absurd hz h1
  rw [hz]
  have HM1 := Lib.hid hM1
  have HOF11 := Lib.hid hof
  have HDO11 := Lib.hid (HDO.out.grown hg11 hog)
  have HV11 := Lib.hid (HV10.out.grown hg11 HV10.out.size (fun b e => by cases e; omega))
  have h1011 := hg11.size
  clear hag hof hg11 hcs hz hM hM1 HPUT HOF10 HDO HV10
  go_wp2_with (fail)
  refine (notes_any w11 o m1 ck1 M1 ofP 0 0 HOF11.out ofP_ok (by rw [HM1.out]; exact ofOk_n1 0 (by omega)) (by omega) (by omega)).mono ?_
  rintro e w12 ⟨h, L1, v1, m2, ck2, M2, hag, hnl, rfl, ho12, hof, hg12, hM2⟩
  have HM2 := Lib.hid (show fM M2 = one ofN1 from by rw [HM1.out] at hag; rw [hM2]; exact aged_one (by decide) (by decide) hag)
  have HO12 := Lib.hid ho12
  have HOF12 := Lib.hid hof
  have HDO12 := Lib.hid (HDO11.out.grown hg12 hog)
  have HV12 := Lib.hid (HV11.out.grown hg12 HV11.out.size (fun b e => by cases e; omega))
  have h1112 := hg12.size
  have HL1 := Lib.hid (show L1 = [ofN1] from note_one (by rw [HM1.out] at hag; rw [aged_one (by decide) (by decide) hag] at hnl; exact hnl))
  clear hag hnl ho12 hof hg12 hM2 HOF11 HDO11
  have hL1n : L1.length = 1 := by rw [HL1.out]; rfl
  rw [hL1n] at HO12
  clear hL1n
  go_wp2_with (fail)
  refine (spoilNr_any (recs onC L1) 1 w11.heap.size v1 w12 (by rw [HL1.out]; rfl) (by omega) HO12.out).mono ?_
  rintro e w13 ⟨rfl, hg13⟩
  have HOF13 := Lib.hid (ofI_spoil HOF12.out HO12.out (by omega) hg13)
  have HDO13 := Lib.hid (doer_spoil HDO12.out HO12.out (by decide) (by omega) hg13)
  have HV13 := Lib.hid (bel_own HV12.out HO12.out HV11.out.size HV12.out.size hg13)
  have h1213 := hg13.size
  clear hg13 HO12 HOF12 HDO12 HV12
  have HFET := Lib.hid (show Calls Tryz.prog _ #[.pointer (some ⟨o, 0, none⟩), .int .i64 1, .int .i64 5] w13 _ from fetch_any w13 o m2 ck2 M2 ofP 0 1 5 HOF13.out ofP_ok (by rw [HM2.out]; exact ofOk_n1 0 (by omega)) (by omega) (by omega) (by omega))
  go_wp2_with (fail)
  refine HFET.out.mono ?_
  rintro e w14 ⟨h, WL, v2, m3, ck3, M3, hag, _, rfl, ho14, hof, hg14, hM3⟩
  obtain ⟨n2, HN2⟩ : ∃ n2 : On, Hid (fM M3 = one n2 ∧ OfOk ofP (one n2) 1 ∧ enB n2.s = false ∧ 1 < tuN ofP n2 ∧ n2.l = ofX) := by
    rw [HM2.out] at hag
    rcases fetch_one (ls := WL.take 5) hag with h1 | h1
    · exact ⟨ofN1, Lib.hid ⟨hM3.trans h1, ofOk_n1 1 (by omega), by decide, by decide, rfl⟩⟩
    · exact ⟨ofN2, Lib.hid ⟨hM3.trans h1, ofOk_n2 1 (by omega), by decide, by decide, rfl⟩⟩
  obtain ⟨wn, ewn⟩ : ∃ k, k = min 5 WL.length := ⟨_, rfl⟩
  rw [← ewn] at ho14
  have HWN := Lib.hid (show (recs olC (WL.take 5)).length = wn * 6 from by rw [recs_length olC_len, List.length_take, ewn])
  have hwn5 : wn ≤ 5 := by omega
  obtain ⟨A2, c2, rfl⟩ := own_slice ho14
  have HO14 := Lib.hid ho14
  have HOF14 := Lib.hid hof
  have HDO14 := Lib.hid (HDO13.out.grown hg14 hog)
  have HV14 := Lib.hid (HV13.out.grown hg14 HV13.out.size (fun b e => by cases e; omega))
  have h1314 := hg14.size
  clear hag ho14 hof hg14 hM3 ewn HFET HOF13 HDO13
  go_wp2_with (fail)
  refine (spoilLr_any (recs olC (WL.take 5)) wn w13.heap.size (.slice A2 wn c2) w14 HWN.out (by omega) HO14.out).mono ?_
  rintro e w15 ⟨rfl, hg15⟩
  have HOF15 := Lib.hid (ofI_spoil HOF14.out HO14.out (by omega) hg15)
  have HDO15 := Lib.hid (doer_spoil HDO14.out HO14.out (by decide) (by omega) hg15)
  have HV15 := Lib.hid (bel_own HV14.out HO14.out HV13.out.size HV14.out.size hg15)
  have h1415 := hg15.size
  clear hg15 HO14 HOF14 HDO14 HV14 HWN
  go_wp2_with (fail)
  refine (notes_any w15 o m3 ck3 M3 ofP 1 1 HOF15.out ofP_ok (by rw [HN2.out.1]; exact HN2.out.2.1) (by omega) (by omega)).mono ?_
  rintro e w16 ⟨h, L2, v3, m4, ck4, M4, hag, hnl, rfl, ho16, _, hg16, _⟩
  have hL2 : L2 = [n2] := note_one (by rw [HN2.out.1] at hag; rw [aged_one HN2.out.2.2.1 HN2.out.2.2.2.1 hag] at hnl; exact hnl)
  subst hL2
  obtain ⟨A3, c3, rfl⟩ := own_slice ho16
  have HO16 := Lib.hid (show w16.ownsRow w15.heap.size 40 9 (.slice A3 1 c3) 1 (recs onC [n2]) from ho16)
  have HDO16 := Lib.hid (HDO15.out.grown hg16 hog)
  have HV16 := Lib.hid (HV15.out.grown hg16 HV15.out.size (fun b e => by cases e; omega))
  have h1516 := hg16.size
  clear hag hnl ho16 hg16 HOF15 HDO15
  have HDOC := Lib.hid (show Calls Tryz.prog 15 #[.pointer (some ⟨g, 0, none⟩), .agg #[.string ⟨#[108, 97]⟩, .string ⟨#[]⟩, .string ⟨#[]⟩, .int .i64 0, .int .i64 0, .int .i64 50], .int .i64 1] w16 _ from do_any [] 0 5 g g 0 1 w16 HDO16.out (by omega) (by omega) (by omega) (by omega))
  go_wp2_with (fail)
  refine HDOC.out.mono ?_
  rintro e w17 ⟨ok, er, ND, t', rfl, hd17, _, hg17, hans⟩
  have hND : ND = [0] := by
    rcases hans with ⟨_, _, _, _, _, h | h⟩ | ⟨_, _, _, h | h | h⟩
    · simpa using h
    · simp at h
    · exact absurd h (by decide)
    · cases h
    · simp at h
  subst hND
  have HDO17 := Lib.hid hd17
  have HO17 := Lib.hid (own_kept HO16.out hg17 (by omega))
  have HV17 := Lib.hid (HV16.out.grown hg17 HV16.out.size (fun b e => by cases e; omega))
  have h1617 := hg17.size
  clear hd17 hg17 hans HDOC HO16 HDO16
  go_wp2_with (fail)
  refine (done_any [0] 5 g g t' w17 HDO17.out (by omega)).mono ?_
  rintro e w18 ⟨v5, rfl, ho18, hb18⟩
  obtain ⟨A5, c5, rfl⟩ := own_slice ho18
  have HO18 := Lib.hid (show w18.ownsRow w17.heap.size 9 1 (.slice A5 1 c5) 1 (recs nmC [0]) from ho18)
  have HB18 := Lib.hid hb18
  clear ho18 hb18
  go_wp2_with (fail)
  refine (spoilTx_any (recs nmC [0]) 1 w17.heap.size (.slice A5 1 c5) w18 rfl (by omega) HO18.out).mono ?_
  rintro e w19 ⟨rfl, hg19⟩
  have hb19 := bel_own HB18.out HO18.out (Nat.le_refl _) HB18.out.size hg19
  have HDO19 := Lib.hid (HDO17.out.keep hb19)
  have HO19 := Lib.hid (own_below HO17.out hb19)
  have HV19 := Lib.hid (HV17.out.trans (hb19.mono HV17.out.size))
  clear hg19 hb19 HDO17 HO17 HO18 HB18
  obtain ⟨g3, rfl, hg3l⟩ : ∃ g3, A3 = some ⟨g3, 0, none⟩ ∧ g3 < w19.heap.size := by
    rcases own_two HO19.out with ⟨_, h0, _⟩ | ⟨g3, h1, _, h2⟩
    · omega
    · exact ⟨g3, h1, h2⟩
  have hid0 : w19.cell? ⟨g3, 0, none⟩ = some (.string ⟨#[108, 97]⟩) := by
    have h := own_cells0 HO19.out 0 (.string (idL n2.l.id)) rfl
    rw [Nat.zero_add, HN2.out.2.2.2.2] at h
    exact h
  have hla : ((⟨#[108, 97]⟩ : ByteArray).toList == [108, 97]) = true := by decide +kernel
  go_wp2_with (fail)
  refine (done_any [0] 5 g g t' w19 HDO19.out (by omega)).mono ?_
  rintro e w20 ⟨v6, rfl, ho20, hb20⟩
  obtain ⟨A6, c6, rfl⟩ := own_slice ho20
  have HO20 := Lib.hid (show w20.ownsRow w19.heap.size 9 1 (.slice A6 1 c6) 1 (recs nmC [0]) from ho20)
  have HV20 := Lib.hid (HV19.out.trans (hb20.mono HV19.out.size))
  clear ho20 hb20 HDO19 hid0
  go_wp2_with (fail)
  have HE := Lib.hid (show Calls Tryz.prog 18 #[.slice A6 1 c6, .slice (some ⟨w20.heap.size, 0, none⟩) 1 1] (w20.alloc (.cells #[.string ⟨#[108, 97]⟩] 9)) _ from
    eqNmQ_any [0] 1 c6 1 A6 (some ⟨w20.heap.size, 0, none⟩) (w20.alloc (.cells #[.string ⟨#[108, 97]⟩] 9)) rfl (by omega) (own_row (own_below HO20.out ((Below.refl _ _).alloc (Nat.le_refl _) _))) (.inr ⟨w20.heap.size, 0, rfl, by simp, Cells.new _ _ _ _ _ rfl⟩))
  have HVA := Lib.hid (HV20.out.alloc HV20.out.size (.cells #[.string ⟨#[108, 97]⟩] 9))
  refine HE.out.mono ?_
  rintro e w21 ⟨rfl, hb21⟩
  have HV21 := Lib.hid (HVA.out.trans (hb21.mono HVA.out.size))
  clear hb21 HE HVA
  go_wp2_with (fail)
  refine (eqEqLr_any L n c c' A A' w21 HLN.out (by omega) (own_row (HK.out.below HV21.out).l1) (own_row (HK.out.below HV21.out).l2)).mono ?_
  rintro e w22 ⟨rfl, hb22⟩
  have HV22 := Lib.hid (HV21.out.trans (hb22.mono HV21.out.size))
  clear hb22
  go_wp2_with (fail)
  refine (eqEqNr_any N m d d' C C' w22 HNN.out (by omega) (own_row (HK.out.below HV22.out).n1) (own_row (HK.out.below HV22.out).n2)).mono ?_
  rintro e w23 ⟨rfl, hb23⟩
  have HV23 := Lib.hid (HV22.out.trans (hb23.mono HV22.out.size))
  clear hb23
  go_wp2_with (fail)
  refine (ready_yes w23).mono ?_
  rintro e w24 ⟨rfl, hb24⟩
  have HEND := Lib.hid (show Below w.heap.size w w24 from HB4.out.trans ((HV23.out.trans (hb24.mono HV23.out.size)).mono HB4.out.size))
  clear hb24
  go_wp2_with (fail)
  go_ret
  exact ⟨rfl, HEND.out⟩
end Go.Proofs.YtnnncddjcdjhoaaGreatDoor
