/- AlarmsStay: the law function. Printed by gen_AsL.py. -/
import Derived.Test.YtgdnedhcbjonkaaGreatDoorMsM
import Derived.Test.YtgdnedhcbjonkaaGreatDoorAsE
import Derived.Test.YtgdnedhcbjonkaaGreatDoorEqG
import Derived.Test.YtgdnedhcbjonkaaGreatDoorEqLk
import Derived.Test.YtgdnedhcbjonkaaGreatDoorEqGr
import Derived.Test.YtgdnedhcbjonkaaGreatDoorEqSf
import Derived.Test.YtgdnedhcbjonkaaGreatDoorGnH
import Derived.Test.YtgdnedhcbjonkaaGreatDoorMgE
import Derived.Test.YtgdnedhcbjonkaaGreatDoorMgG
import Derived.Test.YtgdnedhcbjonkaaGreatDoorMgH
import Derived.Test.YtgdnedhcbjonkaaGreatDoorMgF
import Derived.Test.YtgdnedhcbjonkaaGreatDoorMgA
namespace Go.Proofs.YtgdnedhcbjonkaaGreatDoor
open Go.RowKit

def bdO (fm fw fc : Int) (LA GA : Option Addr) (ln lc gn gc : Nat) : Obj := .cells #[.int .i64 fm, .int .i64 fw, .int .i64 fc, .slice LA ln lc, .slice GA gn gc] 33 (0, 0)
/-- What stands when all is made: the two sets of signals, links, grades, ladders, shifts. -/
structure AsK (V : World) (l : List Sg) (A A' : Option Addr) (n c c' : Nat) (L : List Lk) (LA LA' : Option Addr) (ln lc lc' : Nat) (G : List Gr) (GA GA' : Option Addr) (gn gc gc' : Nat) (D D' : List Ld) (DA DA' : Option Addr) (S : List Sf) (SA SA' : Option Addr) (gb gd B : Nat) (fm fw fc fm' fw' fc' : Int) : Prop where
  own : V.ownsRow B 47 6 (.slice A n c) n (recs sgC l)
  own' : Row V V.heap.size A' (recs sgC l)
  lk : Row V V.heap.size LA (recs lkC L)
  lk' : Row V V.heap.size LA' (recs lkC L)
  gr : Row V V.heap.size GA (recs grC G)
  gr' : Row V V.heap.size GA' (recs grC G)
  ld : Row V V.heap.size DA (recs ldC D)
  ld' : Row V V.heap.size DA' (recs ldC D')
  rg : ∀ x ∈ D, Row V V.heap.size x.A (recs rgC x.g)
  rg' : ∀ x ∈ D', Row V V.heap.size x.A (recs rgC x.g)
  sf : Row V V.heap.size SA (recs sfC S)
  sf' : Row V V.heap.size SA' (recs sfC S)
  bb : V.heap[gb]? = some (bdO fm fw fc LA GA ln lc gn gc)
  bd : V.heap[gd]? = some (bdO fm' fw' fc' LA' GA' ln lc' gn gc')
theorem AsK.below {V V' : World} {l : List Sg} {A A' : Option Addr} {n c c' : Nat} {L : List Lk} {LA LA' : Option Addr} {ln lc lc' : Nat} {G : List Gr} {GA GA' : Option Addr} {gn gc gc' : Nat} {D D' : List Ld} {DA DA' : Option Addr} {S : List Sf} {SA SA' : Option Addr} {gb gd B : Nat} {fm fw fc fm' fw' fc' : Int}
    (h : AsK V l A A' n c c' L LA LA' ln lc lc' G GA GA' gn gc gc' D D' DA DA' S SA SA' gb gd B fm fw fc fm' fw' fc') (hb : Below V.heap.size V V') : AsK V' l A A' n c c' L LA LA' ln lc lc' G GA GA' gn gc gc' D D' DA DA' S SA SA' gb gd B fm fw fc fm' fw' fc' :=
  ⟨own_below h.own hb, (h.own'.below hb).mono hb.size, (h.lk.below hb).mono hb.size, (h.lk'.below hb).mono hb.size, (h.gr.below hb).mono hb.size, (h.gr'.below hb).mono hb.size, (h.ld.below hb).mono hb.size, (h.ld'.below hb).mono hb.size,
    fun x hx => ((h.rg x hx).below hb).mono hb.size, fun x hx => ((h.rg' x hx).below hb).mono hb.size, (h.sf.below hb).mono hb.size, (h.sf'.below hb).mono hb.size,
    (hb.block gb (Array.getElem?_eq_some_iff.1 h.bb).1).trans h.bb, (hb.block gd (Array.getElem?_eq_some_iff.1 h.bd).1).trans h.bd⟩
set_option maxRecDepth 100000 in
set_option maxHeartbeats 16000000 in
theorem asL_yes (w : World) (xs : LiA) (n0 c0 : Nat) (A0 : Option Addr) (hs : ∀ (W : World), Below w.heap.size w W → W.heap[w.heap.size]? = some (.cells #[.slice A0 n0 c0, .int .i64 0] 25) → Strm W w.heap.size xs 0) (hT : RkW w) :
    Calls Tryz.prog 3 #[.slice A0 n0 c0] w fun e w' => e = .returned (.bool true) ∧ Below w.heap.size w w' := by
  have HS := Lib.hid hs
  have HT := Lib.hid (fun V (hV : Below w.heap.size w V) => hT.below hV)
  clear hs hT
  go_enter Tryz.func3, Tryz.ntmps3
  go_upto_region 2 with (fail)
  obtain ⟨p, ep⟩ : ∃ p, p = w.heap.size := ⟨_, rfl⟩
  obtain ⟨q, eq⟩ : ∃ q, q = w.heap.size + 1 := ⟨_, rfl⟩
  obtain ⟨W, hW⟩ : ∃ W, W = (w.alloc (.cells #[.slice A0 n0 c0, .int .i64 0] 25)).alloc (.cells #[.slice A0 n0 c0, .int .i64 0] 25) := ⟨_, rfl⟩
  have hB0 : Below w.heap.size w W := by rw [hW]; exact ((Below.refl _ _).alloc (Nat.le_refl _) _).alloc (by simp) _
  have hWs : W.heap.size = w.heap.size + 1 + 1 := by rw [hW]; simp
  have hp0 : W.heap[w.heap.size]? = some (.cells #[.slice A0 n0 c0, .int .i64 0] 25) := by rw [hW, Below.heap_alloc _ _ _ (by simp)]; exact heap_new w _
  have hq0 : W.heap[w.heap.size + 1]? = some (.cells #[.slice A0 n0 c0, .int .i64 0] 25) := by
    rw [hW]
    have := heap_new (w.alloc (.cells #[.slice A0 n0 c0, .int .i64 0] 25)) (.cells #[.slice A0 n0 c0, .int .i64 0] 25)
    simpa using this
  have HP0 := Lib.hid (HS.out W hB0 hp0)
  have HLO := Lib.hid HP0.out.low
  have HQ0 := Lib.hid (show Strm W (w.heap.size + 1) xs 0 from HP0.out.twin (Nat.le_succ _) (hq0.trans hp0.symm))
  have HB0 := Lib.hid hB0
  rw [← eq, ← ep, ← hW]
  rw [← eq] at HQ0
  rw [← ep] at HP0 HLO
  have hwp : w.heap.size ≤ p := by omega
  have hwq : w.heap.size ≤ q := by omega
  have hpq : p < q := by omega
  have hqW : q < W.heap.size := by omega
  clear hW hB0 HS hp0 hq0 ep eq hWs
  go_wp2_with (fail)
  refine (signalsX_any W p 0 8 xs (by omega) (by omega) HP0.out).mono ?_
  rintro e w1 ⟨l, A, c, k1, n, hf1, rfl, hsg1, hln1, hn8, ho1, hst1, hk1, hg1⟩
  have hs1 := hg1.size
  have HF1 := Lib.hid hf1
  have HSG := Lib.hid hsg1
  have HLN := Lib.hid hln1
  have HO1 := Lib.hid ho1
  have HP1 := Lib.hid hst1
  have HQ1 := Lib.hid (HQ0.out.other HLO.out hg1 (by omega))
  have HB1 := Lib.hid (HB0.out.grown hg1 HB0.out.size (fun g e => by cases e; exact hwp))
  clear hf1 hsg1 hln1 ho1 hst1 hg1 HP0 HQ0 HB0
  go_wp2_with (fail)
  refine (signalsX_any w1 q 0 8 xs (by omega) (by omega) HQ1.out).mono ?_
  rintro e w2 ⟨l', A', c', k1', n', hf2, rfl, _, hln2, _, ho2, hst2, _, hg2⟩
  obtain ⟨hl1, hl2⟩ := Prod.mk.inj (HF1.out.symm.trans hf2)
  subst hl1
  subst hl2
  obtain rfl : n = n' := by rw [← HLN.out, hln2]
  have hs2 := hg2.size
  have HO2 := Lib.hid (own_kept HO1.out hg2 (by omega))
  have HR2 := Lib.hid ho2
  have HQ2 := Lib.hid hst2
  have HP2 := Lib.hid (HP1.out.row hg2 (fun g e => by cases e; exact hpq))
  have HB2 := Lib.hid (HB1.out.grown hg2 HB1.out.size (fun g e => by cases e; exact hwq))
  clear hf2 hln2 ho2 hst2 hg2 HP1 HQ1 HB1 HO1 HF1
  go_wp2_with (fail)
  refine (boardX_any w2 p k1 xs (by omega) HP2.out).mono ?_
  rintro e w3 ⟨fm, fw, fc, L, G, LA, GA, lc, gc, ln, gn, k2, hf3, rfl, hF, hL, hG, hln, hgn, hl4, hg22, hLo, hGo, hst3, hk2, hg3⟩
  have hs3 := hg3.size
  have HF3 := Lib.hid hf3
  have HBO := Lib.hid (And.intro hF (And.intro hL (And.intro hG (And.intro hln hgn))))
  have HO3 := Lib.hid (own_kept HO2.out hg3 (by omega))
  have HR3 := Lib.hid (own_kept HR2.out hg3 (by omega))
  have HL3 := Lib.hid hLo
  have HG3 := Lib.hid hGo
  have HP3 := Lib.hid hst3
  have HQ3 := Lib.hid (HQ2.out.other HLO.out hg3 (by omega))
  have HB3 := Lib.hid (HB2.out.grown hg3 HB2.out.size (fun g e => by cases e; exact hwp))
  clear hf3 hF hL hG hln hgn hLo hGo hst3 hg3 HO2 HR2 HP2 HQ2 HB2
  go_wp2_with (fail)
  refine (boardX_any w3 q k1 xs (by omega) HQ3.out).mono ?_
  rintro e w4 ⟨fm', fw', fc', L', G', LA', GA', lc', gc', ln', gn', k2', hf4, rfl, _, _, _, hln', hgn', _, _, hLo', hGo', hst4, _, hg4⟩
  obtain ⟨hl1, hl2⟩ := Prod.mk.inj (HF3.out.symm.trans hf4)
  obtain ⟨hl2, hl3⟩ := Prod.mk.inj hl2
  subst hl1
  subst hl2
  subst hl3
  obtain rfl : ln = ln' := by rw [← HBO.out.2.2.2.1, hln']
  obtain rfl : gn = gn' := by rw [← HBO.out.2.2.2.2, hgn']
  have hs4 := hg4.size
  have HO4 := Lib.hid (own_kept HO3.out hg4 (by omega))
  have HR4 := Lib.hid (own_kept HR3.out hg4 (by omega))
  have HL4 := Lib.hid (own_kept HL3.out hg4 (by omega))
  have HG4 := Lib.hid (own_kept HG3.out hg4 (by omega))
  have HM4 := Lib.hid hLo'
  have HN4 := Lib.hid hGo'
  have HQ4 := Lib.hid hst4
  have HP4 := Lib.hid (HP3.out.row hg4 (fun g e => by cases e; exact hpq))
  have HB4 := Lib.hid (HB3.out.grown hg4 HB3.out.size (fun g e => by cases e; exact hwq))
  clear hf4 hln' hgn' hLo' hGo' hst4 hg4 HO3 HR3 HL3 HG3 HP3 HQ3 HB3 HF3
  go_upto_region 4 with (fail)
  obtain ⟨gb, egb⟩ : ∃ g, g = w4.heap.size := ⟨_, rfl⟩
  obtain ⟨gd, egd⟩ : ∃ g, g = w4.heap.size + 1 := ⟨_, rfl⟩
  obtain ⟨w5, e5⟩ : ∃ V : World, V = (w4.alloc (bdO fm fw fc LA GA ln lc gn gc)).alloc (bdO fm' fw' fc' LA' GA' ln lc' gn gc') := ⟨_, rfl⟩
  have hb5 : Below w4.heap.size w4 w5 := by rw [e5]; exact ((Below.refl _ _).alloc (Nat.le_refl _) _).alloc (by simp) _
  have hs5 : w5.heap.size = gb + 1 + 1 := by rw [e5, egb]; simp
  have hgd1 : gb + 1 ≤ gd := by omega
  have hgd2 : gd < gb + 2 := by omega
  have hbb5 : w5.heap[gb]? = some (bdO fm fw fc LA GA ln lc gn gc) := by rw [e5, egb, Below.heap_alloc _ _ _ (by simp)]; exact heap_new w4 _
  have hbd5 : w5.heap[gd]? = some (bdO fm' fw' fc' LA' GA' ln lc' gn gc') := by
    rw [e5, egd]
    have := heap_new (w4.alloc (bdO fm fw fc LA GA ln lc gn gc)) (bdO fm' fw' fc' LA' GA' ln lc' gn gc')
    simpa using this
  have hgb4 : w4.heap.size ≤ gb := by omega
  have HO5 := Lib.hid (own_below HO4.out hb5)
  have HR5 := Lib.hid (own_below HR4.out hb5)
  have HL5 := Lib.hid (own_below HL4.out hb5)
  have HG5 := Lib.hid (own_below HG4.out hb5)
  have HM5 := Lib.hid (own_below HM4.out hb5)
  have HN5 := Lib.hid (own_below HN4.out hb5)
  have HP5 := Lib.hid (HP4.out.below hb5)
  have HQ5 := Lib.hid (HQ4.out.below hb5)
  have HB5 := Lib.hid (HB4.out.trans (hb5.mono HB4.out.size))
  have HBB5 := Lib.hid (And.intro hbb5 hbd5)
  unfold bdO at e5
  rw [← egd, ← egb, ← e5]
  have hs5' : gb + 2 ≤ w5.heap.size := by omega
  clear hs5 e5 egb egd hb5 hbb5 hbd5 HO4 HR4 HL4 HG4 HM4 HN4 HP4 HQ4 HB4
  go_wp2_with (fail)
  refine (ladders_any w5 p k2 xs (by omega) HP5.out).mono ?_
  rintro e w6 ⟨D, DA, dc, k3, dn, hf6, rfl, hdg, hdn, hd2, hDo, hDI, hst6, hk3, hg6⟩
  have hs6 := hg6.size
  have HF6 := Lib.hid hf6
  have HDG := Lib.hid (And.intro hdg hdn)
  have HO6 := Lib.hid (own_kept HO5.out hg6 (by omega))
  have HR6 := Lib.hid (own_kept HR5.out hg6 (by omega))
  have HL6 := Lib.hid (own_kept HL5.out hg6 (by omega))
  have HG6 := Lib.hid (own_kept HG5.out hg6 (by omega))
  have HM6 := Lib.hid (own_kept HM5.out hg6 (by omega))
  have HN6 := Lib.hid (own_kept HN5.out hg6 (by omega))
  have HBB6 := Lib.hid (And.intro ((hg6.block gb (by omega) (fun e => by cases e; omega)).trans HBB5.out.1) ((hg6.block gd (by omega) (fun e => by cases e; omega)).trans HBB5.out.2))
  have HD6 := Lib.hid (And.intro hDo hDI)
  have HP6 := Lib.hid hst6
  have HQ6 := Lib.hid (HQ5.out.other HLO.out hg6 (by omega))
  have HB6 := Lib.hid (HB5.out.grown hg6 HB5.out.size (fun g e => by cases e; exact hwp))
  clear hf6 hdg hdn hDo hDI hst6 hg6 HO5 HR5 HL5 HG5 HM5 HN5 HP5 HQ5 HB5 HBB5
  go_wp2_with (fail)
  refine (ladders_any w6 q k2 xs (by omega) HQ6.out).mono ?_
  rintro e w7 ⟨D', DA', dc', k3', dn', hf7, rfl, _, hdn', _, hDo', hDI', hst7, _, hg7⟩
  obtain ⟨hl1, hl2⟩ := Prod.mk.inj (HF6.out.symm.trans hf7)
  subst hl2
  obtain rfl : dn = dn' := by
    have := congrArg List.length hl1
    rw [List.length_map, List.length_map] at this
    rw [← HDG.out.2, ← hdn', this]
  have hs7 := hg7.size
  have HDD := Lib.hid (And.intro hl1 hdn')
  have HO7 := Lib.hid (own_kept HO6.out hg7 (by omega))
  have HR7 := Lib.hid (own_kept HR6.out hg7 (by omega))
  have HL7 := Lib.hid (own_kept HL6.out hg7 (by omega))
  have HG7 := Lib.hid (own_kept HG6.out hg7 (by omega))
  have HM7 := Lib.hid (own_kept HM6.out hg7 (by omega))
  have HN7 := Lib.hid (own_kept HN6.out hg7 (by omega))
  have HBB7 := Lib.hid (And.intro ((hg7.block gb (by omega) (fun e => by cases e; omega)).trans HBB6.out.1) ((hg7.block gd (by omega) (fun e => by cases e; omega)).trans HBB6.out.2))
  have HD7 := Lib.hid (And.intro (own_kept HD6.out.1 hg7 (by omega)) (HD6.out.2.kept hg7 (by omega)))
  have HE7 := Lib.hid (And.intro hDo' hDI')
  have HQ7 := Lib.hid hst7
  have HP7 := Lib.hid (HP6.out.row hg7 (fun g e => by cases e; exact hpq))
  have HB7 := Lib.hid (HB6.out.grown hg7 HB6.out.size (fun g e => by cases e; exact hwq))
  clear hf7 hl1 hdn' hDo' hDI' hst7 hg7 HO6 HR6 HL6 HG6 HM6 HN6 HP6 HQ6 HB6 HBB6 HD6 HF6
  go_wp2_with (fail)
  refine (shifts_any w7 p k3 xs (by omega) HP7.out).mono ?_
  rintro e w8 ⟨S, SA, sc, k4, sn, hf8, rfl, _, hsn, hs6', hSo, hst8, hk4, hg8⟩
  have hs8 := hg8.size
  have HF8 := Lib.hid hf8
  have HSN := Lib.hid hsn
  have HO8 := Lib.hid (own_kept HO7.out hg8 (by omega))
  have HR8 := Lib.hid (own_kept HR7.out hg8 (by omega))
  have HL8 := Lib.hid (own_kept HL7.out hg8 (by omega))
  have HG8 := Lib.hid (own_kept HG7.out hg8 (by omega))
  have HM8 := Lib.hid (own_kept HM7.out hg8 (by omega))
  have HN8 := Lib.hid (own_kept HN7.out hg8 (by omega))
  have HBB8 := Lib.hid (And.intro ((hg8.block gb (by omega) (fun e => by cases e; omega)).trans HBB7.out.1) ((hg8.block gd (by omega) (fun e => by cases e; omega)).trans HBB7.out.2))
  have HD8 := Lib.hid (And.intro (own_kept HD7.out.1 hg8 (by omega)) (HD7.out.2.kept hg8 (by omega)))
  have HE8 := Lib.hid (And.intro (own_kept HE7.out.1 hg8 (by omega)) (HE7.out.2.kept hg8 (by omega)))
  have HS8 := Lib.hid hSo
  have HQ8 := Lib.hid (HQ7.out.other HLO.out hg8 (by omega))
  have HB8 := Lib.hid (HB7.out.grown hg8 HB7.out.size (fun g e => by cases e; exact hwp))
  clear hf8 hsn hSo hst8 hg8 HO7 HR7 HL7 HG7 HM7 HN7 HP7 HQ7 HB7 HBB7 HD7 HE7
  go_wp2_with (fail)
  refine (shifts_any w8 q k3 xs (by omega) HQ8.out).mono ?_
  rintro e w9 ⟨S', SA', sc', k4', sn', hf9, rfl, _, hsn', _, hSo', hst9, _, hg9⟩
  obtain ⟨hl1, hl2⟩ := Prod.mk.inj (HF8.out.symm.trans hf9)
  subst hl1
  obtain rfl : sn = sn' := by rw [← HSN.out, hsn']
  have hs9 := hg9.size
  have HA9 := Lib.hid (show AsK w9 l A A' n c c' L LA LA' ln lc lc' G GA GA' gn gc gc' D D' DA DA' S SA SA' gb gd W.heap.size fm fw fc fm' fw' fc' from
    ⟨own_kept HO8.out hg9 (by omega), row_ownN (own_kept HR8.out hg9 (by omega)) HLN.out, row_ownN (own_kept HL8.out hg9 (by omega)) HBO.out.2.2.2.1, row_ownN (own_kept HM8.out hg9 (by omega)) HBO.out.2.2.2.1, row_ownN (own_kept HG8.out hg9 (by omega)) HBO.out.2.2.2.2, row_ownN (own_kept HN8.out hg9 (by omega)) HBO.out.2.2.2.2,
      row_ownN (own_kept HD8.out.1 hg9 (by omega)) HDG.out.2, row_ownN (own_kept HE8.out.1 hg9 (by omega)) HDD.out.2, fun x hx => row_ownN ((HD8.out.2.kept hg9 (by omega)).row x hx) rfl, fun x hx => row_ownN ((HE8.out.2.kept hg9 (by omega)).row x hx) rfl,
      row_ownN (own_kept HS8.out hg9 (by omega)) HSN.out, row_ownN hSo' hsn', (hg9.block gb (by omega) (fun e => by cases e; omega)).trans HBB8.out.1, (hg9.block gd (by omega) (fun e => by cases e; omega)).trans HBB8.out.2⟩)
  have HB9 := Lib.hid (HB8.out.grown hg9 HB8.out.size (fun g e => by cases e; exact hwq))
  clear hf9 hl2 hsn' hSo' hst9 hg9 HO8 HR8 HL8 HG8 HM8 HN8 HQ8 HB8 HBB8 HD8 HE8 HS8 HF8
  have HV9 := Lib.hid (Below.refl w9.heap.size w9)
  have HAA := Lib.hid (fun (V : World) (hV : Below w9.heap.size w9 V) => HA9.out.below hV)
  have HRDY := Lib.hid (fun (V : World) (hV : Below w9.heap.size w9 V) => ready1_yes V (HT.out V (HB9.out.trans (hV.mono HB9.out.size))))
  go_wp2_with (fail)
  refine (sigsFault_any l n c A w9 HLN.out (by omega) (row_ownN (HA9.out.own) HLN.out) HSG.out).mono ?_
  rintro e w10 ⟨z1, rfl, hz1, hb10⟩
  have HZ1 := Lib.hid hz1
  have HV10 := Lib.hid hb10
  clear hz1 hb10
  by_cases h01 : z1 = 0
  case neg =>
    have hzb : (z1 != 0) = true := by simpa using h01
    go_wp2_with (fail)
    refine (HRDY.out w10 HV10.out).mono ?_
    rintro e w11 ⟨rfl, hb11⟩
    have HF := Lib.hid (HB9.out.trans ((HV10.out.trans (hb11.mono HV10.out.size)).mono HB9.out.size))
    clear hb11
    go_wp2_with (fail)
    go_ret
    exact ⟨rfl, HF.out⟩
  subst h01
  have HOK1 := Lib.hid (HZ1.out rfl)
  go_wp2_with (fail)
  refine (ladFault_any D dn dc DA w10 HDG.out.2 (by omega) (HAA.out w10 HV10.out).ld (HAA.out w10 HV10.out).rg HDG.out.1).mono ?_
  rintro e w11 ⟨z2, rfl, hz2, hb11⟩
  have HZ2 := Lib.hid hz2
  have HV11 := Lib.hid (HV10.out.trans (hb11.mono HV10.out.size))
  clear hz2 hb11
  by_cases h02 : z2 = 0
  case neg =>
    have hzb : (z2 != 0) = true := by simpa using h02
    go_wp2_with (fail)
    refine (HRDY.out w11 HV11.out).mono ?_
    rintro e w12 ⟨rfl, hb12⟩
    have HF := Lib.hid (HB9.out.trans ((HV11.out.trans (hb12.mono HV11.out.size)).mono HB9.out.size))
    clear hb12
    go_wp2_with (fail)
    go_ret
    exact ⟨rfl, HF.out⟩
  subst h02
  have HOK2 := Lib.hid (HZ2.out rfl)
  go_wp2_with (fail)
  refine (sftFault_any S sn sc SA w11 HSN.out (by omega) (HAA.out w11 HV11.out).sf).mono ?_
  rintro e w12 ⟨z3, rfl, hz3, hb12⟩
  have HZ3 := Lib.hid hz3
  have HV12 := Lib.hid (HV11.out.trans (hb12.mono HV11.out.size))
  clear hz3 hb12
  by_cases h03 : z3 = 0
  case neg =>
    have hzb : (z3 != 0) = true := by simpa using h03
    go_wp2_with (fail)
    refine (HRDY.out w12 HV12.out).mono ?_
    rintro e w13 ⟨rfl, hb13⟩
    have HF := Lib.hid (HB9.out.trans ((HV12.out.trans (hb13.mono HV12.out.size)).mono HB9.out.size))
    clear hb13
    go_wp2_with (fail)
    go_ret
    exact ⟨rfl, HF.out⟩
  subst h03
  have HOK3 := Lib.hid (HZ3.out rfl)
  clear HZ1 HZ2 HZ3
  go_wp2_with (fail)
  refine (mergeS_any l n c W.heap.size A w12 HLN.out (by omega) HOK1.out (HAA.out w12 HV12.out).own).mono ?_
  rintro e w13 ⟨v13, n13, L13, rfl, hL13, hn13, ho13, hb13⟩
  have HV13 := Lib.hid (HV12.out.trans (hb13.mono HV12.out.size))
  have hs12 := HV12.out.size
  obtain ⟨A13, c13, rfl⟩ := own_slice ho13
  have HO13 := Lib.hid (own_mono ho13 hs12)
  clear ho13 hb13 hL13
  go_wp2_with (fail)
  go_loopw [67] (fun s wr => ∃ i : Nat, i ≤ n13 ∧ s = .int .i64 (i : Int) ∧ Hid ((∃ cs, wr.ownsRow w9.heap.size 47 6 (.slice A13 n13 c13) n13 cs) ∧ Below w9.heap.size w9 wr)) (fun s _ => n13 - (intOf s).toNat)
  case atStart => exact ⟨0, Nat.zero_le _, rfl, Lib.hid ⟨⟨_, HO13.out⟩, HV13.out⟩⟩
  case round =>
    obtain ⟨i, hi, rfl, HR⟩ := hrel
    obtain ⟨⟨cs, hcs⟩, hbr⟩ := HR.out
    obtain ⟨wa, rfl⟩ : ∃ wy : World, wy = wr := ⟨_, rfl⟩
    by_cases hlt : i < n13
    · have hltI : (i : Int) < (n13 : Int) := by omega
      obtain ⟨h1, h2, h3⟩ | ⟨g, rfl, hg1, hg2⟩ := own_two hcs
      · omega
      have hcl := hcs.1
      obtain ⟨u2, hu2⟩ : ∃ u, cs[i * 6 + 2]? = some u := ⟨_, List.getElem?_eq_getElem (by omega)⟩
      have c2 := (hcs.cellAt (i * 6 + 2) (by omega)).trans hu2
      have f2 : wa.frozen? ⟨g, i * 6 + 2, none⟩ = false := hcs.frozenAt _
      have hst := hcs.stored (i * 6 + 2) (.string ⟨#[115, 112, 111, 105, 108, 116]⟩)
      obtain ⟨w14, e14⟩ : ∃ V : World, V = wa.setCell ⟨g, i * 6 + 2, none⟩ (.string ⟨#[115, 112, 111, 105, 108, 116]⟩) := ⟨_, rfl⟩
      rw [← e14] at hst
      have HN := Lib.hid (show (∃ cs, w14.ownsRow w9.heap.size 47 6 (.slice (some ⟨g, 0, none⟩) n13 c13) n13 cs) ∧ Below w9.heap.size w9 w14 from
        ⟨⟨_, hst.1⟩, hbr.grown hst.2 hbr.size (fun q hq => by cases hq; exact hg1)⟩)
      clear hst hcs hbr hcl hu2
      go_wp2_with (fail)
      rw [← e14]
      clear e14
      go_roundw
      case rel => exact ⟨i + 1, by omega, by go_num, HN⟩
      case measure => simp [intOf]; omega
    · have hltI : ¬ (i : Int) < (n13 : Int) := by omega
      have HV14 := Lib.hid hbr
      clear hcs hbr
      obtain ⟨w14, e14⟩ : ∃ V : World, V = wa := ⟨_, rfl⟩
      rw [← e14] at HV14 ⊢
      clear e14 HR
      have hbb := (HAA.out w14 HV14.out).bb
      unfold bdO at hbb
      have x0 := cell_of_blk (j := 0) hbb rfl
      have x1 := cell_of_blk (j := 1) hbb rfl
      have x2 := cell_of_blk (j := 2) hbb rfl
      have x3 := cell_of_blk (j := 3) hbb rfl
      have x4 := cell_of_blk (j := 4) hbb rfl
      have hgbl := (Array.getElem?_eq_some_iff.1 hbb).1
      clear hbb
      go_wp2_with (fail)
      refine (show_any fm fw fc L G LA GA ln lc gn gc l n c A 60 w14 ⟨HBO.out.1, HBO.out.2.1, HBO.out.2.2.1, HBO.out.2.2.2.1, HBO.out.2.2.2.2, hl4, hg22, (HAA.out w14 HV14.out).lk, (HAA.out w14 HV14.out).gr⟩ ⟨HOK1.out, HLN.out, by omega, row_ownN (HAA.out w14 HV14.out).own HLN.out⟩ (by omega) (by omega)).mono ?_
      rintro e w15 ⟨A15, c15, n15, Q15, rfl, _, _, _, _, hb15⟩
      have HV15 := Lib.hid (HV14.out.trans (hb15.mono HV14.out.size))
      clear hb15 x0 x1 x2 x3 x4 hgbl
      go_wp2_with (fail)
      refine (notices_any l n c A D dn dc DA S sn sc SA w15 HOK1.out HLN.out (by omega) (row_ownN (HAA.out w15 HV15.out).own HLN.out) HDG.out.2 (by omega) (HAA.out w15 HV15.out).ld (HAA.out w15 HV15.out).rg HOK2.out HSN.out (by omega) (HAA.out w15 HV15.out).sf HOK3.out).mono ?_
      rintro e w16 ⟨N16, A16, c16, n16, rfl, _, _, _, _, hb16⟩
      have HV16 := Lib.hid (HV15.out.trans (hb16.mono HV15.out.size))
      clear hb16
      go_wp2_with (fail)
      refine (eqLds_any D D' dn dc dc' DA DA' w16 HDG.out.2 (by omega) HDD.out.1 (fun x hx => by have := (HDG.out.1 x hx).n; omega) (HAA.out w16 HV16.out).ld (HAA.out w16 HV16.out).ld' (HAA.out w16 HV16.out).rg (HAA.out w16 HV16.out).rg').mono ?_
      rintro e w17 ⟨rfl, hb17⟩
      have HV17 := Lib.hid (HV16.out.trans (hb17.mono HV16.out.size))
      clear hb17
      go_wp2_with (fail)
      refine (eqEqG_any l n c c' A A' w17 HLN.out (by omega) (row_ownN (HAA.out w17 HV17.out).own HLN.out) (HAA.out w17 HV17.out).own').mono ?_
      rintro e w18 ⟨rfl, hb18⟩
      have HV18 := Lib.hid (HV17.out.trans (hb18.mono HV17.out.size))
      clear hb18
      have hbb := (HAA.out w18 HV18.out).bb
      have hbd := (HAA.out w18 HV18.out).bd
      unfold bdO at hbb hbd
      have x3 := cell_of_blk (j := 3) hbb rfl
      have y3 := cell_of_blk (j := 3) hbd rfl
      clear hbb hbd
      go_wp2_with (fail)
      refine (eqEqLk_any L ln lc lc' LA LA' w18 HBO.out.2.2.2.1 (by omega) (HAA.out w18 HV18.out).lk (HAA.out w18 HV18.out).lk').mono ?_
      rintro e w19 ⟨rfl, hb19⟩
      have HV19 := Lib.hid (HV18.out.trans (hb19.mono HV18.out.size))
      clear hb19 x3 y3
      have hbb := (HAA.out w19 HV19.out).bb
      have hbd := (HAA.out w19 HV19.out).bd
      unfold bdO at hbb hbd
      have x4 := cell_of_blk (j := 4) hbb rfl
      have y4 := cell_of_blk (j := 4) hbd rfl
      clear hbb hbd
      go_wp2_with (fail)
      refine (eqEqGr_any G gn gc gc' GA GA' w19 HBO.out.2.2.2.2 (by omega) (HAA.out w19 HV19.out).gr (HAA.out w19 HV19.out).gr').mono ?_
      rintro e w20 ⟨rfl, hb20⟩
      have HV20 := Lib.hid (HV19.out.trans (hb20.mono HV19.out.size))
      clear hb20 x4 y4
      go_wp2_with (fail)
      refine (eqEqSf_any S sn sc sc' SA SA' w20 HSN.out (by omega) (HAA.out w20 HV20.out).sf (HAA.out w20 HV20.out).sf').mono ?_
      rintro e w21 ⟨rfl, hb21⟩
      have HV21 := Lib.hid (HV20.out.trans (hb21.mono HV20.out.size))
      clear hb21
      go_wp2_with (fail)
      refine (HRDY.out w21 HV21.out).mono ?_
      rintro e w22 ⟨rfl, hb22⟩
      have HF := Lib.hid (HB9.out.trans ((HV21.out.trans (hb22.mono HV21.out.size)).mono HB9.out.size))
      clear hb22
      go_wp2_with (fail)
      go_ret
      exact ⟨rfl, HF.out⟩
end Go.Proofs.YtgdnedhcbjonkaaGreatDoor
