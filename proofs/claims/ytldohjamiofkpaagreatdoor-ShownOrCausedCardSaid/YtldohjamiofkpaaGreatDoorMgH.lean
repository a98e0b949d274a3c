/- Several texts in one: ShL. -/
import Derived.Test.YtldohjamiofkpaaGreatDoorMgG
import Derived.Test.YtldohjamiofkpaaGreatDoorMgA

/- ShownOrCaused: the law function. -/
namespace Go.Proofs.YtldohjamiofkpaaGreatDoor
open Go.RowKit

/-- The alarms that the law counts. -/
def cntB (fm fw fc : Int) (L : List Lk) (G : List Gr) (l : List Sg) (t : Int) (a : Am) : Bool := (cauO fm fw fc L G l t a.d).isNone && liveB fm fw fc l t a
theorem cnt_all (fm fw fc : Int) (L : List Lk) (G : List Gr) (l : List Sg) (t : Int) : (amsL l t).filter (cntB fm fw fc L G l t) = shwL fm fw fc L G l t := by
  unfold shwL liveL
  rw [List.filter_filter]
  rfl
set_option maxRecDepth 100000 in
set_option maxHeartbeats 8000000 in
theorem shL_yes (w : World) (xs : List Int) (n c : Nat) (A0 : Option Addr) (hs : ∀ (W : World), Below w.heap.size w W → W.heap[w.heap.size]? = some (.cells #[.slice A0 n c, .int .i64 0] 25) → Strm W w.heap.size xs 0) (hT : RkW w) :
    Calls Tryz.prog 4 #[.slice A0 n c] w fun e w' => e = .returned (.bool true) ∧ Below w.heap.size w w' := by
  have HS := Lib.hid hs
  have HT := Lib.hid (fun V (hV : Below w.heap.size w V) => hT.below hV)
  clear hs hT
  go_enter Tryz.func4, Tryz.ntmps4
  go_upto_region 2 with (fail)
  generalize hW : w.alloc (.cells #[.slice A0 n c, .int .i64 0] 25) = w0
  have hsz0 : w.heap.size < w0.heap.size := by rw [← hW]; simp
  have hB0 : Below w.heap.size w w0 := hW ▸ (Below.refl _ _).alloc (Nat.le_refl _) _
  have HST0 := Lib.hid (HS.out w0 hB0 (by rw [← hW]; exact heap_new w _))
  have HB0 := Lib.hid hB0
  clear hW hB0 HS
  obtain ⟨p, ep⟩ : ∃ p, p = w.heap.size := ⟨_, rfl⟩
  have hpw : w.heap.size ≤ p := by omega
  rw [← ep] at HST0 hsz0 ⊢
  clear ep
  go_wp2_with (fail)
  refine (board_any w0 p 0 xs (by omega) HST0.out).mono ?_
  rintro e w1 ⟨fm, fw, fc, L, G, LA, GA, lc, gc, ln, gn, k1, rfl, hF, hL, hG, hln, hgn, hl4, hg2, hLo, hGo, hst1, hk1, hg1⟩
  have HST1 := Lib.hid hst1
  have HB1 := Lib.hid (HB0.out.grown hg1 HB0.out.size (fun q hq => by cases hq; exact hpw))
  have hsz1 : p < w1.heap.size := Nat.lt_of_lt_of_le hsz0 hg1.size
  have HBO := Lib.hid (And.intro hF (And.intro hL (And.intro hG (And.intro hln hgn))))
  have HLO1 := Lib.hid (And.intro hLo hGo)
  clear hst1 hg1 hF hL hG hln hgn hLo hGo
  go_wp2_with (fail)
  refine (range_nat w1 p k1 14 xs (by omega) (by omega) HST1.out).mono ?_
  have hNl := nextN_lt xs k1 15 (by omega)
  obtain ⟨N, eN⟩ : ∃ N, N = nextN xs k1 15 := ⟨_, rfl⟩
  rw [← eN] at hNl ⊢
  clear eN
  rintro e w2 ⟨rfl, hst2, hg2'⟩
  have HST2 := Lib.hid hst2
  have HB2 := Lib.hid (HB1.out.grown hg2' HB1.out.size (fun q hq => by cases hq; exact hpw))
  have hsz2 : p < w2.heap.size := Nat.lt_of_lt_of_le hsz1 hg2'.size
  have HLO2 := Lib.hid (And.intro (own_kept HLO1.out.1 hg2' hsz0) (own_kept HLO1.out.2 hg2' hsz0))
  clear hst2 hg2' HLO1
  go_wp2_with (fail)
  refine (signals_any w2 p (k1 + 1) N xs (by omega) (by omega) HST2.out).mono ?_
  rintro e w3 ⟨l, A, cl, k3, m, rfl, hG3, hlen, hmN, ho, hst3, hk3, hg3⟩
  have HB3 := Lib.hid (HB2.out.grown hg3 HB2.out.size (fun q hq => by cases hq; exact hpw))
  have HO3 := Lib.hid ho
  have HST3 := Lib.hid hst3
  have HLN := Lib.hid hlen
  have HGG := Lib.hid hG3
  have HLO3 := Lib.hid (And.intro (own_kept HLO2.out.1 hg3 hsz0) (own_kept HLO2.out.2 hg3 hsz0))
  have hm14 : m ≤ 14 := by omega
  clear ho hst3 hg3 hlen hG3 HLO2
  go_wp2_with (fail)
  refine (next_any w3 p k3 xs 200 (by omega) (by omega) HST3.out).mono ?_
  have ht := nextV_range xs k3 200 (by omega)
  obtain ⟨t, et⟩ : ∃ t, t = nextV xs k3 200 := ⟨_, rfl⟩
  rw [← et] at ht ⊢
  clear et
  rintro e w4 ⟨rfl, _, hg4⟩
  have HB4 := Lib.hid (HB3.out.grown hg4 HB3.out.size (fun q hq => by cases hq; exact hpw))
  have HO4 := Lib.hid (own_kept HO3.out hg4 hsz2)
  have HLO4 := Lib.hid (And.intro (own_kept HLO3.out.1 hg4 hsz0) (own_kept HLO3.out.2 hg4 hsz0))
  clear hg4 HO3 HLO3 HST3
  go_upto_region 3 with (fail)
  obtain ⟨gb, egb⟩ : ∃ g, g = w4.heap.size := ⟨_, rfl⟩
  obtain ⟨gi, egi⟩ : ∃ g, g = w4.heap.size + 1 := ⟨_, rfl⟩
  obtain ⟨w5, e5⟩ : ∃ V : World, V = (w4.alloc (.cells #[.int .i64 fm, .int .i64 fw, .int .i64 fc, .slice LA ln lc, .slice GA gn gc] 57)).alloc (.cells #[.int .i64 t] 3) := ⟨_, rfl⟩
  rw [← egi, ← egb, ← e5]
  have hb5 : Below w4.heap.size w4 w5 := by rw [e5]; exact ((Below.refl _ _).alloc (Nat.le_refl _) _).alloc (by simp) _
  have hgb5 : w5.heap[gb]? = some (.cells #[.int .i64 fm, .int .i64 fw, .int .i64 fc, .slice LA ln lc, .slice GA gn gc] 57 (0, 0)) := by rw [e5, egb, Below.heap_alloc _ _ _ (by simp)]; exact heap_new w4 _
  have hgi5 : w5.heap[gi]? = some (.cells #[.int .i64 t] 3 (0, 0)) := by
    rw [e5, egi]
    have := heap_new (w4.alloc (.cells #[.int .i64 fm, .int .i64 fw, .int .i64 fc, .slice LA ln lc, .slice GA gn gc] 57)) (.cells #[.int .i64 t] 3)
    simpa using this
  have hltb := (Array.getElem?_eq_some_iff.1 hgb5).1
  have hlti := (Array.getElem?_eq_some_iff.1 hgi5).1
  have HBOX := Lib.hid (fun (V : World) (hV : Below w5.heap.size w5 V) => And.intro (box5 ((hV.block gb hltb).trans hgb5)) (And.intro (show V.cell? ⟨gi, 0, none⟩ = some (.int .i64 t) from cell_of_blk (j := 0) ((hV.block gi hlti).trans hgi5) rfl) (And.intro (Nat.lt_of_lt_of_le hltb hV.size) (Nat.lt_of_lt_of_le hlti hV.size))))
  have HB5 := Lib.hid (HB4.out.trans (hb5.mono HB4.out.size))
  have HROW := Lib.hid (fun (V : World) (hV : Below w5.heap.size w5 V) => show Row V V.heap.size A (recs sgC l) from ((row_ownN HO4.out HLN.out).below (hb5.trans (hV.mono hb5.size))).mono (hb5.trans (hV.mono hb5.size)).size)
  have HBA := Lib.hid (show BoArg fm fw fc L G LA GA ln gn w5 from ⟨HBO.out.1, HBO.out.2.1, HBO.out.2.2.1, HBO.out.2.2.2.1, HBO.out.2.2.2.2, hl4, hg2, ((row_ownN HLO4.out.1 HBO.out.2.2.2.1).below hb5).mono hb5.size, ((row_ownN HLO4.out.2 HBO.out.2.2.2.2).below hb5).mono hb5.size⟩)
  clear egb egi e5 hb5 hgb5 hgi5 HO4 HLO4
  go_wp2_with (fail)
  refine (sigsFault_any l m cl A w5 HLN.out (by omega) (HROW.out w5 (Below.refl _ _)) HGG.out).mono ?_
  rintro e w6 ⟨z, rfl, hz, hb6⟩
  have HZ := Lib.hid hz
  have HB6 := Lib.hid hb6
  have hs6 := hb6.size
  clear hb6 hz
  by_cases hz0 : z = 0
  case neg =>
    have hzb : (z != 0) = true := by simpa using hz0
    have HBW := Lib.hid (HB5.out.trans (HB6.out.mono HB5.out.size))
    have HR := Lib.hid (ready1_yes w6 (HT.out _ HBW.out))
    go_wp2_with (fail)
    refine HR.out.mono ?_
    rintro e w7 ⟨rfl, hb7⟩
    have HF := Lib.hid (HBW.out.trans (hb7.mono HBW.out.size))
    clear hb7
    go_wp2_with (fail)
    go_ret
    exact ⟨rfl, HF.out⟩
  subst hz0
  have HOK := Lib.hid (HZ.out rfl)
  have HSA := Lib.hid (show SgArg l m A w5 from ⟨HOK.out, HLN.out, by omega, HROW.out w5 (Below.refl _ _)⟩)
  obtain ⟨⟨k0, k1', k2, k3', k4⟩, ki, klb, kli⟩ := HBOX.out w6 HB6.out
  go_wp2_with (fail)
  refine (show_any fm fw fc L G LA GA ln lc gn gc l m cl A t w6 (HBA.out.below HB6.out) (HSA.out.below HB6.out) (by omega) (by omega)).mono ?_
  rintro e w7 ⟨QA, qc, qn, Q, rfl, hQn, hq6, hQo, hQp, hb7⟩
  have hs7 := hb7.size
  have HB7 := Lib.hid (HB6.out.trans (hb7.mono HB6.out.size))
  have HQR := Lib.hid (fun (V : World) (hV : Below w7.heap.size w7 V) => show Row V V.heap.size QA (recs shC Q) from ((row_ownN hQo hQn).below hV).mono hV.size)
  have HQN := Lib.hid (And.intro hQn hQp)
  clear hQn hQo hQp hb7 k0 k1' k2 k3' k4 ki klb kli
  obtain ⟨⟨k0, k1', k2, k3', k4⟩, ki, klb, kli⟩ := HBOX.out w7 HB7.out
  go_wp2_with (fail)
  refine (alarms_any l m cl t A w7 HOK.out HLN.out (by omega) (HROW.out w7 HB7.out) (by omega) (by omega)).mono ?_
  unfold AmsP
  obtain ⟨V, eV⟩ : ∃ V, V = amsL l t := ⟨_, rfl⟩
  have HNM := Lib.hid (fun a (ha : a ∈ amsL l t) => ams_nm ha)
  rw [← eV] at HNM ⊢
  obtain ⟨vn, evn⟩ : ∃ n, n = V.length := ⟨_, rfl⟩
  rw [← evn]
  have HV := Lib.hid (And.intro eV evn)
  have hv6 : vn ≤ 6 := by
    rw [evn, eV]
    unfold amsL
    exact Nat.le_trans (List.length_filter_le _ _) (by rw [List.length_map]; decide)
  clear eV evn
  rintro e w8 ⟨VA, vc, rfl, hVo, hb8⟩
  have hs8 := hb8.size
  have HB8 := Lib.hid (HB7.out.trans (hb8.mono HB7.out.size))
  have HVR := Lib.hid (fun (T : World) (hT : Below w8.heap.size w8 T) => show Row T T.heap.size VA (recs amC V) from ((row_ownN hVo HV.out.2.symm).below hT).mono hT.size)
  have HQR8 := Lib.hid (fun (T : World) (hT : Below w8.heap.size w8 T) => HQR.out T (hb8.trans (hT.mono hb8.size)))
  have HBW8 := Lib.hid (HB5.out.trans (HB8.out.mono HB5.out.size))
  clear hVo hb8 k0 k1' k2 k3' k4 ki klb kli
  obtain ⟨PP, ePP⟩ : ∃ P, P = cntB fm fw fc L G l t := ⟨_, rfl⟩
  have HPP := Lib.hid ePP
  clear ePP
  go_wp2_with (fail)
  go_loopw [11, 55] (fun v s wr => ∃ (i : Nat), i ≤ vn ∧ s = .int .i64 (i : Int) ∧ v = .int .i64 ((((V.take i).filter PP).length : Nat) : Int) ∧ Below w8.heap.size w8 wr) (fun _ s _ => vn - (intOf s).toNat)
  case atStart => exact ⟨0, by omega, rfl, rfl, Below.refl _ _⟩
  case round =>
    obtain ⟨i, hin, rfl, rfl, hbr⟩ := hrel
    have hbs := hbr.size
    have HB := Lib.hid hbr
    have HB5r := Lib.hid (HB8.out.trans (hbr.mono HB8.out.size))
    have HBW := Lib.hid (HBW8.out.trans (hbr.mono HBW8.out.size))
    obtain ⟨cn, ecn⟩ : ∃ c, c = ((V.take i).filter PP).length := ⟨_, rfl⟩
    have hcn : cn ≤ 6 := by
      rw [ecn]
      refine Nat.le_trans (List.length_filter_le _ _) ?_
      rw [List.length_take]; omega
    rw [← ecn]
    have HCN := Lib.hid ecn
    clear hbr ecn
    by_cases hlt : i < vn
    · have hltI : (i : Int) < vn := by omega
      obtain ⟨a, ha⟩ : ∃ a, V[i]? = some a := ⟨_, List.getElem?_eq_getElem (by have := HV.out.2; omega)⟩
      obtain ⟨had, har⟩ := HNM.out a (List.mem_of_getElem? ha)
      obtain ⟨b, o, rfl, hb, hC⟩ := (HVR.out wr HB.out).posR amC_len (by omega) (by have := HV.out.2; omega)
      obtain ⟨c0, c1, c2, c3, c4, c5⟩ := am_cells hC i a ha
      have HSN := Lib.hid (filter_snocQ V PP ha)
      have HMEM := Lib.hid (List.mem_of_getElem? ha)
      clear ha hC
      go_upto_region 13 with (fail)
      obtain ⟨ga, ega⟩ : ∃ g, g = wr.heap.size := ⟨_, rfl⟩
      obtain ⟨w9, e9⟩ : ∃ T : World, T = wr.alloc (.cells #[.string (aldT a.d), .string (alrT a.r), .int .i64 a.st, .int .i64 a.si, .int .i64 a.n, .int .i64 a.sh] 46) := ⟨_, rfl⟩
      rw [← ega, ← e9]
      have hb9 : Below wr.heap.size wr w9 := by rw [e9]; exact (Below.refl _ _).alloc (Nat.le_refl _) _
      have hg9 : w9.heap[ga]? = some (amBk a) := by rw [e9, ega]; exact heap_new wr _
      have hlt9 := (Array.getElem?_eq_some_iff.1 hg9).1
      have hs9 := hb9.size
      have HB9 := Lib.hid (And.intro (HB.out.trans (hb9.mono hbs)) (HB5r.out.trans (hb9.mono HB5r.out.size)))
      have HG9 := Lib.hid hg9
      obtain ⟨q0, q1, q2, q3, q4, q5⟩ := box6 hg9
      obtain ⟨⟨k0, k1', k2, k3', k4⟩, ki, klb, kli⟩ := HBOX.out w9 HB9.out.2
      clear ega e9 hb9 hg9 c0 c1 c2 c3 c4 c5
      have HFG := Lib.hid (flapping_any fm fw fc l m cl a.d a.r A w9 HBO.out.1 HOK.out HLN.out (by omega) (HROW.out w9 HB9.out.2) ⟨had, har⟩)
      unfold FlapQ at HFG
      obtain ⟨R, eR⟩ : ∃ R, R = flR fm fw fc (lifeAt l 345686400000 (a.d, a.r)).ra := ⟨_, rfl⟩
      rw [← eR] at HFG
      have HFL := Lib.hid (show R.any (inF t) = flA fm fw fc (lifeAt l t (a.d, a.r)).ra t ∧ R.length ≤ 1000 from by
        rw [eR]
        obtain ⟨more, e1, e2⟩ := ra_more (a.d, a.r) t HOK.out
        refine ⟨?_, ?_⟩
        · show flA fm fw fc (lifeAt l 345686400000 (a.d, a.r)).ra t = _
          rw [e1]
          exact flA_more e2 HBO.out.1.c.1 (by omega)
        · unfold flR
          rw [List.length_map]
          have h1 := flF_len fm fw fc (lifeAt l 345686400000 (a.d, a.r)).ra (lifeAt l 345686400000 (a.d, a.r)).ra.length
          have h2 := (lifeAt_ok 345686400000 (a.d, a.r) l (fun s hs => (HOK.out.1 s hs).v)).len 0 (by omega)
          have h3 := HLN.out
          have h4 : (lifeAt l 345686400000 (a.d, a.r)).ra.length ≤ l.length := h2
          omega)
      clear eR
      go_wp2_with (fail)
      refine HFG.out.mono ?_
      rintro e w10 ⟨RA, rc, rn, rfl, hRn, hRo, hb10⟩
      have hs10 := hb10.size
      have HB10 := Lib.hid (And.intro (HB9.out.1.trans (hb10.mono HB9.out.1.size)) (HB9.out.2.trans (hb10.mono HB9.out.2.size)))
      have HG10 := Lib.hid ((hb10.block ga hlt9).trans HG9.out)
      have HRR := Lib.hid (fun (T : World) (hT : Below w10.heap.size w10 T) => show Row T T.heap.size RA (recs alW R) from ((row_ownN hRo hRn).below hT).mono hT.size)
      have HRN := Lib.hid hRn
      clear hRo hRn hb10 q0 q1 q2 q3 q4 q5 k0 k1' k2 k3' k4 ki klb kli
      obtain ⟨q0, q1, q2, q3, q4, q5⟩ := box6 HG10.out
      have hlt10 := (Array.getElem?_eq_some_iff.1 HG10.out).1
      obtain ⟨⟨k0, k1', k2, k3', k4⟩, ki, klb, kli⟩ := HBOX.out w10 HB10.out.2
      have HCA := Lib.hid (causeOf_any fm fw fc L G LA GA ln lc gn gc l m cl A a.d t w10 (HBA.out.below HB10.out.2) (HSA.out.below HB10.out.2) (by omega) (by omega) (by omega))
      rw [← bd_ald a.d had] at HCA
      unfold CauP at HCA
      obtain ⟨O, eO⟩ : ∃ O, O = cauO fm fw fc L G l t a.d := ⟨_, rfl⟩
      rw [← eO] at HCA
      obtain ⟨T, eT⟩ : ∃ T, T = opT O := ⟨_, rfl⟩
      rw [← eT] at HCA
      obtain ⟨ca, eca⟩ : ∃ b, b = O.isSome := ⟨_, rfl⟩
      rw [← eca] at HCA
      have HCE := Lib.hid (show cntB fm fw fc L G l t a = (!ca && liveB fm fw fc l t a) from by
        unfold cntB
        rw [← eO, eca]
        cases O <;> rfl)
      clear eO eT eca
      go_wp2_with (fail)
      refine HCA.out.mono ?_
      rintro e w11 ⟨rfl, hb11⟩
      have hs11 := hb11.size
      have HB11 := Lib.hid (And.intro (HB10.out.1.trans (hb11.mono HB10.out.1.size)) (HB10.out.2.trans (hb11.mono HB10.out.2.size)))
      have HG11 := Lib.hid ((hb11.block ga hlt10).trans HG10.out)
      have HRR11 := Lib.hid (HRR.out w11 hb11)
      clear hb11 q0 q1 q2 q3 q4 q5 k0 k1' k2 k3' k4 ki klb kli
      obtain ⟨q0, q1, q2, q3, q4, q5⟩ := box6 HG11.out
      have hlt11 := (Array.getElem?_eq_some_iff.1 HG11.out).1
      obtain ⟨_, ki, _, kli⟩ := HBOX.out w11 HB11.out.2
      have HCW := Lib.hid (inB_any R rn rc gi t RA w11 HRN.out (by have := HFL.out.2; have := HRN.out; omega) HRR11.out ki kli)
      rw [HFL.out.1] at HCW
      obtain ⟨fl, efl⟩ : ∃ b, b = flA fm fw fc (lifeAt l t (a.d, a.r)).ra t := ⟨_, rfl⟩
      rw [← efl] at HCW
      have HSKIP := Lib.hid (fun (h : cntB fm fw fc L G l t a = false) => show ((V.take (i + 1)).filter PP).length = cn from by
        rw [HSN.out, HPP.out, h, ← HPP.out, HCN.out]
        simp)
      have HEF := Lib.hid efl
      clear efl
      by_cases h0 : a.st = 0
      · have hd : (a.st == 0) = true := by simpa using h0
        have HNE := Lib.hid (HSKIP.out (by rw [HCE.out, liveB_not (.inl h0), Bool.and_false]))
        go_wp2_with (fail)
        go_roundw
        case rel => exact ⟨i + 1, by omega, by go_num, by rw [HNE.out], HB11.out.1⟩
        case measure => simp [intOf]; omega
      have hd : (a.st == 0) = false := by simpa using h0
      by_cases h1 : 0 < a.sh
      · have hd1 : decide (0 < a.sh) = true := decide_eq_true h1
        have HNE := Lib.hid (HSKIP.out (by rw [HCE.out, liveB_not (.inr (.inl h1)), Bool.and_false]))
        go_wp2_with (fail)
        go_roundw
        case rel => exact ⟨i + 1, by omega, by go_num, by rw [HNE.out], HB11.out.1⟩
        case measure => simp [intOf]; omega
      have hd1 : decide (0 < a.sh) = false := decide_eq_false h1
      cases ca with
      | true =>
        have HNE := Lib.hid (HSKIP.out (by rw [HCE.out]; rfl))
        go_wp2_with (fail)
        go_roundw
        case rel => exact ⟨i + 1, by omega, by go_num, by rw [HNE.out], HB11.out.1⟩
        case measure => simp [intOf]; omega
      | false =>
      go_wp2_with (fail)
      refine HCW.out.mono ?_
      rintro e w12 ⟨rfl, hb12⟩
      have hs12 := hb12.size
      have HB12 := Lib.hid (And.intro (HB11.out.1.trans (hb12.mono HB11.out.1.size)) (HB11.out.2.trans (hb12.mono HB11.out.2.size)))
      have HG12 := Lib.hid ((hb12.block ga hlt11).trans HG11.out)
      clear hb12 q0 q1 q2 q3 q4 q5 ki kli
      cases fl with
      | true =>
        have HNE := Lib.hid (HSKIP.out (by rw [HCE.out, liveB_not (.inr (.inr HEF.out.symm)), Bool.and_false]))
        go_wp2_with (fail)
        go_roundw
        case rel => exact ⟨i + 1, by omega, by go_num, by rw [HNE.out], HB12.out.1⟩
        case measure => simp [intOf]; omega
      | false =>
      have hct : cntB fm fw fc L G l t a = true := by rw [HCE.out, liveB_yes h0 (by omega) HEF.out.symm]; rfl
      have HNE := Lib.hid (show ((V.take (i + 1)).filter PP).length = cn + 1 from by
        rw [HSN.out, HPP.out, hct, ← HPP.out, List.length_append, HCN.out]
        rfl)
      have HHS := Lib.hid (shHas_any Q a qn qc ga QA w12 HQN.out.1 (by omega) ((HQR8.out w12 HB12.out.1)) HG12.out (by
        have h1 : a ∈ shwL fm fw fc L G l t := by
          rw [← cnt_all]
          exact List.mem_filter.2 ⟨by rw [← HV.out.1]; exact HMEM.out, hct⟩
        have h2 := HQN.out.2.mem_iff.2 h1
        obtain ⟨x, hx, he⟩ := List.mem_map.1 h2
        exact ⟨x, hx, he⟩))
      have hwn : IntKind.i64.wrap ((cn : Int) + 1) = (cn : Int) + 1 := by rw [IntKind.wrap_i64]; omega
      clear hct
      go_wp2_with (fail)
      refine HHS.out.mono ?_
      rintro e w13 ⟨rfl, hb13⟩
      have HB13 := Lib.hid (HB12.out.1.trans (hb13.mono HB12.out.1.size))
      clear hb13
      go_wp2_with (fail)
      go_roundw
      case rel => exact ⟨i + 1, by omega, by go_num, by rw [HNE.out]; simp, HB13.out⟩
      case measure => simp [intOf]; omega
    · have hltI : ¬ (i : Int) < vn := by omega
      have hin' : i = vn := by omega
      have HEQ := Lib.hid (show cn = qn from by
        have h1 : (V.take i).filter PP = shwL fm fw fc L G l t := by
          rw [hin', HV.out.2, List.take_length, HPP.out, HV.out.1]
          exact cnt_all fm fw fc L G l t
        rw [HCN.out, h1, ← HQN.out.2.length_eq, List.length_map]
        exact HQN.out.1)
      have hcq : ((cn : Int) == (qn : Int)) = true := by rw [HEQ.out]; simp
      have hcq2 : (cn : Int) = (qn : Int) := by rw [HEQ.out]
      have HR := Lib.hid (ready1_yes wr (HT.out _ HBW.out))
      go_wp2_with (fail)
      refine HR.out.mono ?_
      rintro e w9 ⟨rfl, hb9⟩
      have HF := Lib.hid (HBW.out.trans (hb9.mono HBW.out.size))
      clear hb9
      go_wp2_with (fail)
      go_ret
      exact ⟨rfl, HF.out⟩
end Go.Proofs.YtldohjamiofkpaaGreatDoor
