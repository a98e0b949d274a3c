/- RightTwin, twinFault; ContainsFunc of names, properties and cells as Owed and Take ask. Printed by gen_TwA.py. -/
import Derived.Test.YtccbblnlmggjbaaGreatDoorTwP
import Derived.Test.YtccbblnlmggjbaaGreatDoorCeH
namespace Go.Proofs.YtccbblnlmggjbaaGreatDoor
open Go.RowKit

def RtPost (w : World) (p : Nat) (xs : List Int) (e : Ending) (w' : World) : Prop :=
  ∃ (D R : List Ce) (A B : Option Addr) (n m c d k' : Nat), e = .returned (.agg #[.slice A n c, .slice B m d]) ∧ CsOk D ∧ CsOk R ∧ Erl D ∧ Erl R ∧ D.length = n ∧ R.length = m ∧ n ≤ 6 ∧ m ≤ 6 ∧ w'.ownsRow w.heap.size 39 8 (.slice A n c) n (recs ceC D) ∧ w'.ownsRow w.heap.size 39 8 (.slice B m d) m (recs ceC R) ∧ Strm w' p xs k' ∧ w.grownBy w' (some p)
set_option maxRecDepth 100000 in
set_option maxHeartbeats 2000000 in
theorem rightTwin_any (w : World) (p k : Nat) (xs : List Int) (hk : k < 1000) (hs : Strm w p xs k) :
    Calls Tryz.prog 16 #[.pointer (some ⟨p, 0, none⟩)] w fun e w' => RtPost w p xs e w' := by
  have hplt := hs.lt
  have HS := Lib.hid hs
  clear hs
  go_enter Tryz.func16, Tryz.ntmps16
  go_wp2_with (fail)
  have HB0 := Lib.hid (heap_new w (.cells #[.slice none 0 0, .slice none 0 0] 51))
  refine (rightCells_any _ p k xs (by omega) (HS.out.alloc _)).mono ?_
  rintro e w1 ⟨D, A, c, k1, n, rfl, hok, h9, hln, hn6, ho, hst, hk1, hg⟩
  have hg' := grown_of_alloc hg
  have hz1 := hg.size
  simp only [World.size_alloc] at hz1
  have HB1 := Lib.hid ((hg.block w.heap.size (by simp) (by intro e; injection e with e; omega)).trans HB0.out)
  have HG1 := Lib.hid hg'
  have HO1 := Lib.hid (own_mono ho (base' := w.heap.size + 1) (by simp))
  have HK1 := Lib.hid (And.intro hok (And.intro h9 hln))
  have HST1 := Lib.hid hst
  have hp1 : p < w.heap.size := hplt
  clear hok h9 hln ho hst hg hg' HB0
  go_wp2_with (fail)
  refine (rightCells_any _ p k1 xs (by omega) HST1.out).mono ?_
  rintro e w2 ⟨R, B, d, k2, m, rfl, hok, h9, hlm, hm6, ho, hst, hk2, hg⟩
  have hz2 := hg.size
  have HB2 := Lib.hid ((hg.block w.heap.size (by omega) (by intro e; injection e with e; omega)).trans HB1.out)
  have HG2 := Lib.hid (grown_trans HG1.out hg)
  have HO2 := Lib.hid (own_kept HO1.out hg (by omega))
  have HOR := Lib.hid (own_mono ho (base' := w.heap.size + 1) (by omega))
  have HK2 := Lib.hid (And.intro hok (And.intro h9 hlm))
  have HST2 := Lib.hid hst
  clear hok h9 hlm ho hst hg HB1
  have n0 := cell_of_blk (j := 0) HB2.out rfl
  have n1 := cell_of_blk (j := 1) HB2.out rfl
  have fr : ∀ j, w2.frozen? ⟨w.heap.size, j, none⟩ = false := by intro j; simp [World.frozen?, HB2.out]
  have f0 := fr 0
  have f1 := fr 1
  have hlt : w.heap.size < w2.heap.size := by omega
  have HG3 := Lib.hid (grown_set (grown_set (grown_refl w2 (some w.heap.size)) (q := ⟨w.heap.size, 0, none⟩) (.inl rfl) (.slice A n c)) (q := ⟨w.heap.size, 1, none⟩) (.inl rfl) (.slice B m d))
  have HB3 := Lib.hid (show ((w2.setCell ⟨w.heap.size, 0, none⟩ (.slice A n c)).setCell ⟨w.heap.size, 1, none⟩ (.slice B m d)).heap[w.heap.size]? = some (.cells #[.slice A n c, .slice B m d] 51 (0, 0)) from by simp [World.setCell, Array.getElem?_modify, HB2.out])
  have HGF := Lib.hid (grown_set (grown_set HG2.out (q := ⟨w.heap.size, 0, none⟩) (.inr (Nat.le_refl _)) (.slice A n c)) (q := ⟨w.heap.size, 1, none⟩) (.inr (Nat.le_refl _)) (.slice B m d))
  clear fr
  go_wp2_with (fail)
  have r0 := cell_of_blk (j := 0) HB3.out rfl
  have r1 := cell_of_blk (j := 1) HB3.out rfl
  have hD := own_mono (own_neG HO2.out HG3.out (fun q hq => by have := (HO2.out.lt q hq).1; omega)) (base' := w.heap.size) (by omega)
  have hR := own_mono (own_neG HOR.out HG3.out (fun q hq => by have := (HOR.out.lt q hq).1; omega)) (base' := w.heap.size) (by omega)
  have hS := HST2.out.row HG3.out (fun g e => by injection e with e; omega)
  exact bodyPost_ret (v := .agg #[.slice A n c, .slice B m d]) (by simp [results, Tryz.results16, go_sem, r0, r1]) rfl ⟨D, R, A, B, n, m, c, d, k2, rfl, HK1.out.1, HK2.out.1, HK1.out.2.1, HK2.out.2.1, HK1.out.2.2, HK2.out.2.2, hn6, hm6, hD, hR, hS, HGF.out⟩
set_option maxRecDepth 100000 in
set_option maxHeartbeats 2000000 in
theorem twinFault_any (D R : List Ce) (n m c d : Nat) (A B : Option Addr) (w : World) (hD : CsOk D) (hR : CsOk R) (hn : D.length = n) (hm : R.length = m) (hn7 : n ≤ 100) (hm7 : m ≤ 100) (hra : Row w w.heap.size A (recs ceC D)) (hrb : Row w w.heap.size B (recs ceC R)) (hT : U8T w) :
    Calls Tryz.prog 51 #[.agg #[.slice A n c, .slice B m d]] w fun e w' => e = .returned (.int .i64 0) ∧ Below w.heap.size w w' := by
  have HC1 := Lib.hid (fun V (hV : Below w.heap.size w V) => checkCells_any D n c A V hD hn hn7 ((hra.below hV).mono hV.size) (hT.below hV))
  have HC2 := Lib.hid (fun V (hV : Below w.heap.size w V) => checkCells_any R m d B V hR hm hm7 ((hrb.below hV).mono hV.size) (hT.below hV))
  clear hD hR hn hm hra hrb hT
  go_enter Tryz.func51, Tryz.ntmps51
  go_upto_region 1 with (fail)
  generalize hW : w.alloc (.cells #[.slice A n c, .slice B m d] 51) = W
  have hBW : Below w.heap.size w W := by rw [← hW]; exact (Below.refl _ _).alloc (Nat.le_refl _) _
  have ha0 : W.heap[w.heap.size]? = some (.cells #[.slice A n c, .slice B m d] 51 (0, 0)) := by rw [← hW]; exact heap_new w _
  have hWs : w.heap.size < W.heap.size := by rw [← hW]; simp
  have HBW := Lib.hid hBW
  have HV1 := Lib.hid (fun V (hV : Below W.heap.size W V) => HC1.out V (HBW.out.trans (hV.mono HBW.out.size)))
  have HV2 := Lib.hid (fun V (hV : Below W.heap.size W V) => HC2.out V (HBW.out.trans (hV.mono HBW.out.size)))
  have HQ := Lib.hid (fun (V : World) (hV : Below W.heap.size W V) => show V.cell? ⟨w.heap.size, 0, none⟩ = some (.slice A n c) ∧ V.cell? ⟨w.heap.size, 1, none⟩ = some (.slice B m d) from by
    have h1 := (hV.block w.heap.size (by omega)).trans ha0
    exact ⟨cell_of_blk (j := 0) h1 rfl, cell_of_blk (j := 1) h1 rfl⟩)
  clear hW hBW ha0 HC1 HC2
  go_upto_region 1 with (fail)
  refine qRegionTail 6 (by kernel_rfl) (by kernel_rfl) ?_
  simp only [List.take_succ_cons, List.take_zero, List.drop_succ_cons, List.drop_zero]
  repeat (first
    | (go_big_quiet_want; refine qVal (fun V hV => (by (obtain ⟨a0, a1⟩ := HQ.out V hV; go_simp; try rfl))) ?_; simp only [Act.put, List.setIfInBounds_toArray, List.set_cons_zero, List.set_cons_succ]; go_big_quiet_on)
    | (go_big_quiet_want
       refine qCall (fun V hV => (by (obtain ⟨a0, a1⟩ := HQ.out V hV; go_simp; exact ⟨rfl, rfl⟩))) (fun V hV => (by first
         | with_reducible exact (HV1.out V hV).mono (fun e w' h => ⟨h.1, hV.trans (h.2.mono hV.size)⟩)
         | with_reducible exact (HV2.out V hV).mono (fun e w' h => ⟨h.1, hV.trans (h.2.mono hV.size)⟩))) ?_
       simp only [Act.put, List.setIfInBounds_toArray, List.set_cons_zero, List.set_cons_succ]; go_big_quiet_on)
    | go_big_quiet_skip)
  refine wpQuiet_nil ?_
  intro w1 hb1
  have HB1 := Lib.hid hb1
  clear hb1
  go_wp2_with (go_at_call 29; refine (first_ok 2 2 _ _ (by omega) (Cells.new _ _ _ _ _ rfl)).mono ?_; rintro e w' ⟨rfl, rfl⟩)
  go_ret
  exact ⟨rfl, HBW.out.trans ((HB1.out.alloc HB1.out.size _).mono HBW.out.size)⟩
set_option maxRecDepth 100000 in
theorem owed1_any (x n : Nat) (gn : Nat) (w : World) (hx : x < 7) (hn : n < 7) (h : w.cell? ⟨gn, 0, none⟩ = some (.string (nm n))) : Calls Tryz.prog 56 #[.string (nm x), .pointer (some ⟨gn, 0, none⟩)] w fun e w' => e = .returned (.bool (decide (x = n) || blN n x)) ∧ Below w.heap.size w w' := by
  have HE := nm_eqv x n hx hn
  cases hd : decide (x = n)
  · rw [hd] at HE
    go_enter Tryz.func56, Tryz.ntmps56
    go_wp2_with (go_at_call 49; refine (belowF_any n x hn hx _).mono ?_; rintro e w' ⟨rfl, rfl⟩)
    go_ret
    exact ⟨rfl, Below.refl _ _⟩
  · rw [hd] at HE
    go_enter Tryz.func56, Tryz.ntmps56
    go_wp2_with (fail)
    go_ret
    exact ⟨rfl, Below.refl _ _⟩
set_option maxRecDepth 100000 in
theorem owed2_any (x : Pr) (n : Nat) (gn : Nat) (w : World) (hx : x.1 < 7) (hn : n < 7) (h : w.cell? ⟨gn, 0, none⟩ = some (.string (nm n))) (hlt : gn < w.heap.size) : Calls Tryz.prog 58 #[.agg #[.string (nm x.1), .int .i64 x.2.k, .bool x.2.f, .int .i64 x.2.n, .string x.2.s], .pointer (some ⟨gn, 0, none⟩)] w fun e w' => e = .returned (.bool (blN x.1 n)) ∧ Below w.heap.size w w' := by
  go_enter Tryz.func58, Tryz.ntmps58
  go_wp2_with (go_at_call 49; refine (belowF_any x.1 n hx hn _).mono ?_; rintro e w' ⟨rfl, rfl⟩)
  go_ret
  exact ⟨rfl, (Below.refl _ _).alloc (Nat.le_refl _) _⟩
def tkLate (x : Ce) : Bool := decide (0 ≤ cmpI (sk x.2.2) (sk tkS))
def StB (w : World) (g : Nat) : Prop := w.cell? ⟨g, 0, none⟩ = some (.int .i64 100) ∧ w.cell? ⟨g, 1, none⟩ = some (.string ⟨#[100]⟩) ∧ w.cell? ⟨g, 2, none⟩ = some (.int .i64 0)
set_option maxRecDepth 100000 in
theorem take1_any (x : Ce) (gs : Nat) (w : World) (hx : CvOk x.2) (h : StB w gs) (hlt : gs < w.heap.size) : Calls Tryz.prog 61 #[.agg #[.string (nm x.1), .int .i64 x.2.1.k, .bool x.2.1.f, .int .i64 x.2.1.n, .string x.2.1.s, .int .i64 x.2.2.at_, .string (byT x.2.2.by_), .int .i64 x.2.2.no], .pointer (some ⟨gs, 0, none⟩)] w fun e w' => e = .returned (.bool (tkLate x)) ∧ Below w.heap.size w w' := by
  obtain ⟨h0, h1, h2⟩ := h
  have HBS := Lib.hid (fun V => byStamp_any x.2.2 tkS hx.2 (by unfold SpOk tkS; simp) V)
  have HL := Lib.hid (show tkLate x = decide (0 ≤ cmpI (sk x.2.2) (sk tkS)) from rfl)
  obtain ⟨z, ez⟩ : ∃ z, z = cmpI (sk x.2.2) (sk tkS) := ⟨_, rfl⟩
  rw [← ez] at HBS HL
  clear ez hx
  go_enter Tryz.func61, Tryz.ntmps61
  go_wp2_with (fail)
  refine (HBS.out _).mono ?_
  rintro e w1 ⟨rfl, hb1⟩
  have HB1 := Lib.hid (((Below.refl w.heap.size w).alloc (Nat.le_refl _) (ceBlk x)).trans (hb1.mono (by simp)))
  clear hb1
  go_wp2_with (fail)
  go_ret
  exact ⟨by rw [HL.out]; rfl, HB1.out⟩
def gnPost (l : List Nat) (q : Nat) (e : Ending) : Prop := ∃ z : Int, e = .returned (.int .i64 z) ∧ (0 ≤ z ↔ l.any (fun x => decide (x = q) || blN q x) = true)
set_option maxRecDepth 100000 in
set_option maxHeartbeats 2000000 in
theorem gnIdx_any (l : List Nat) (q : Nat) (gn : Nat) (n c : Nat) (A : Option Addr) (w : World) (hl : ∀ x ∈ l, x < 7) (hn : l.length = n) (hn7 : n ≤ 1000) (hr : Row w w.heap.size A (recs nmC l)) (hq : q < 7) (h : w.cell? ⟨gn, 0, none⟩ = some (.string (nm q))) (hgn : gn < w.heap.size) :
    Calls Tryz.prog 90 #[.slice A n c, .func (.func 56) #[] #[.pointer (some ⟨gn, 0, none⟩)]] w fun e w' => gnPost l q e ∧ Below w.heap.size w w' := by
  have HR := Lib.hid hr
  have HN := Lib.hid hn
  have HL := Lib.hid hl
  have HH := Lib.hid (fun (x : Nat) (hx : x < 7) (V : World) (hV : Below w.heap.size w V) => owed1_any x q gn V hx hq ((hV.cell (p := ⟨gn, 0, none⟩) hgn).trans h))
  clear hr hn hl
  go_enter Tryz.func90, Tryz.ntmps90
  go_wp2_with (fail)
  go_loopw [8] (fun i wr => ∃ k : Nat, k ≤ n ∧ i = .int .i64 k ∧ Below w.heap.size w wr ∧ Hid (∀ m x, m < k → l[m]? = some x → (decide (x = q) || blN q x) = false)) (fun i _ => n - (intOf i).toNat)
  case atStart => exact ⟨0, Nat.zero_le _, rfl, Below.refl _ _, Lib.hid (fun m x hm _ => by omega)⟩
  case round =>
    obtain ⟨k, hk, rfl, hb, HK⟩ := hrel
    have hbs := hb.size
    have HB := Lib.hid hb
    by_cases hlt : k < n
    · have hltI : (k : Int) < (n : Int) := by omega
      obtain ⟨x, hx⟩ : ∃ x, l[k]? = some x := ⟨_, List.getElem?_eq_getElem (by have := HN.out; omega)⟩
      obtain ⟨b, o, rfl, hbw, hC⟩ := (HR.out.below hb).posR nmC_len (by omega) (by have := HN.out; omega)
      have c0 := nm_cell hC k x hx
      have HX := Lib.hid hx
      have HXO := Lib.hid (HL.out x (List.mem_of_getElem? hx))
      clear hC hx hb
      go_wp2_with (fail)
      refine (HH.out x HXO.out wr HB.out).mono ?_
      rintro e w1 ⟨rfl, hb1⟩
      have HB1 := Lib.hid (HB.out.trans (hb1.mono hbs))
      clear hb1
      cases hu : (decide (x = q) || blN q x)
      · have HU := Lib.hid hu
        clear hu
        go_wp2_with (fail)
        go_roundw
        case rel =>
          refine ⟨k + 1, by omega, by simp, HB1.out, Lib.hid (fun m z hm hz => ?_)⟩
          by_cases hmk : m = k
          · subst hmk
            have := HX.out
            rw [hz] at this
            cases this
            exact HU.out
          · exact HK.out m z (by omega) hz
        case measure => simp [intOf]; omega
      · have HU := Lib.hid (show l.any (fun x => decide (x = q) || blN q x) = true from by
          rw [List.any_eq_true]
          exact ⟨x, List.mem_of_getElem? HX.out, hu⟩)
        clear hu
        go_wp2_with (fail)
        go_ret
        exact ⟨⟨_, rfl, iff_of_true (by omega) HU.out⟩, HB1.out⟩
    · have hltI : ¬ (k : Int) < (n : Int) := by omega
      have hall := Lib.hid (show l.any (fun x => decide (x = q) || blN q x) = false from by
        rw [List.any_eq_false]
        intro q hq
        obtain ⟨m, hm⟩ := List.getElem?_of_mem hq
        rw [HK.out m q (by have := (List.getElem?_eq_some_iff.1 hm).1; have := HN.out; omega) hm]
        simp)
      clear hb
      go_wp2_with (fail)
      go_ret
      exact ⟨⟨_, rfl, iff_of_false (by omega) (by rw [hall.out]; simp)⟩, HB.out⟩
set_option maxRecDepth 100000 in
theorem gnHas_any (l : List Nat) (q : Nat) (gn : Nat) (n c : Nat) (A : Option Addr) (w : World) (hl : ∀ x ∈ l, x < 7) (hn : l.length = n) (hn7 : n ≤ 1000) (hr : Row w w.heap.size A (recs nmC l)) (hq : q < 7) (h : w.cell? ⟨gn, 0, none⟩ = some (.string (nm q))) (hgn : gn < w.heap.size) :
    Calls Tryz.prog 55 #[.slice A n c, .func (.func 56) #[] #[.pointer (some ⟨gn, 0, none⟩)]] w fun e w' => e = .returned (.bool (l.any (fun x => decide (x = q) || blN q x))) ∧ Below w.heap.size w w' := by
  have HI := Lib.hid (gnIdx_any l q gn n c A w hl hn hn7 hr hq h hgn)
  obtain ⟨t, et⟩ : ∃ t, t = l.any (fun x => decide (x = q) || blN q x) := ⟨_, rfl⟩
  unfold gnPost at HI
  rw [← et] at HI ⊢
  clear hl hn hr et
  go_enter Tryz.func55, Tryz.ntmps55
  go_wp2_with (fail)
  refine HI.out.mono ?_
  rintro e w1 ⟨⟨z, rfl, hz⟩, hb1⟩
  have HB1 := Lib.hid hb1
  have HZ := Lib.hid hz
  clear hz hb1
  have HD := Lib.hid (show decide (0 ≤ z) = t from by rw [Bool.eq_iff_iff, decide_eq_true_iff]; exact HZ.out)
  go_wp2_with (fail)
  go_ret
  exact ⟨by rw [← HD.out]; rfl, HB1.out⟩
def wbPost (l : List Pr) (q : Nat) (e : Ending) : Prop := ∃ z : Int, e = .returned (.int .i64 z) ∧ (0 ≤ z ↔ l.any (fun x => blN x.1 q) = true)
set_option maxRecDepth 100000 in
set_option maxHeartbeats 2000000 in
theorem wbIdx_any (l : List Pr) (q : Nat) (gn : Nat) (n c : Nat) (A : Option Addr) (w : World) (hl : ∀ x ∈ l, x.1 < 7) (hn : l.length = n) (hn7 : n ≤ 1000) (hr : Row w w.heap.size A (recs prC l)) (hq : q < 7) (h : w.cell? ⟨gn, 0, none⟩ = some (.string (nm q))) (hgn : gn < w.heap.size) :
    Calls Tryz.prog 91 #[.slice A n c, .func (.func 58) #[] #[.pointer (some ⟨gn, 0, none⟩)]] w fun e w' => wbPost l q e ∧ Below w.heap.size w w' := by
  have HR := Lib.hid hr
  have HN := Lib.hid hn
  have HL := Lib.hid hl
  have HH := Lib.hid (fun (x : Pr) (hx : x.1 < 7) (V : World) (hV : Below w.heap.size w V) => owed2_any x q gn V hx hq ((hV.cell (p := ⟨gn, 0, none⟩) hgn).trans h) (by have := hV.size; omega))
  clear hr hn hl
  go_enter Tryz.func91, Tryz.ntmps91
  go_wp2_with (fail)
  go_loopw [8] (fun i wr => ∃ k : Nat, k ≤ n ∧ i = .int .i64 k ∧ Below w.heap.size w wr ∧ Hid (∀ m x, m < k → l[m]? = some x → (blN x.1 q) = false)) (fun i _ => n - (intOf i).toNat)
  case atStart => exact ⟨0, Nat.zero_le _, rfl, Below.refl _ _, Lib.hid (fun m x hm _ => by omega)⟩
  case round =>
    obtain ⟨k, hk, rfl, hb, HK⟩ := hrel
    have hbs := hb.size
    have HB := Lib.hid hb
    by_cases hlt : k < n
    · have hltI : (k : Int) < (n : Int) := by omega
      obtain ⟨x, hx⟩ : ∃ x, l[k]? = some x := ⟨_, List.getElem?_eq_getElem (by have := HN.out; omega)⟩
      obtain ⟨b, o, rfl, hbw, hC⟩ := (HR.out.below hb).posR prC_len (by omega) (by have := HN.out; omega)
      obtain ⟨c0, c1, c2, c3, c4⟩ := pr_cells hC k x hx
      have HX := Lib.hid hx
      have HXO := Lib.hid (HL.out x (List.mem_of_getElem? hx))
      clear hC hx hb
      go_wp2_with (fail)
      refine (HH.out x HXO.out wr HB.out).mono ?_
      rintro e w1 ⟨rfl, hb1⟩
      have HB1 := Lib.hid (HB.out.trans (hb1.mono hbs))
      clear hb1
      cases hu : (blN x.1 q)
      · have HU := Lib.hid hu
        clear hu
        go_wp2_with (fail)
        go_roundw
        case rel =>
          refine ⟨k + 1, by omega, by simp, HB1.out, Lib.hid (fun m z hm hz => ?_)⟩
          by_cases hmk : m = k
          · subst hmk
            have := HX.out
            rw [hz] at this
            cases this
            exact HU.out
          · exact HK.out m z (by omega) hz
        case measure => simp [intOf]; omega
      · have HU := Lib.hid (show l.any (fun x => blN x.1 q) = true from by
          rw [List.any_eq_true]
          exact ⟨x, List.mem_of_getElem? HX.out, hu⟩)
        clear hu
        go_wp2_with (fail)
        go_ret
        exact ⟨⟨_, rfl, iff_of_true (by omega) HU.out⟩, HB1.out⟩
    · have hltI : ¬ (k : Int) < (n : Int) := by omega
      have hall := Lib.hid (show l.any (fun x => blN x.1 q) = false from by
        rw [List.any_eq_false]
        intro q hq
        obtain ⟨m, hm⟩ := List.getElem?_of_mem hq
        rw [HK.out m q (by have := (List.getElem?_eq_some_iff.1 hm).1; have := HN.out; omega) hm]
        simp)
      clear hb
      go_wp2_with (fail)
      go_ret
      exact ⟨⟨_, rfl, iff_of_false (by omega) (by rw [hall.out]; simp)⟩, HB.out⟩
set_option maxRecDepth 100000 in
theorem wbHas_any (l : List Pr) (q : Nat) (gn : Nat) (n c : Nat) (A : Option Addr) (w : World) (hl : ∀ x ∈ l, x.1 < 7) (hn : l.length = n) (hn7 : n ≤ 1000) (hr : Row w w.heap.size A (recs prC l)) (hq : q < 7) (h : w.cell? ⟨gn, 0, none⟩ = some (.string (nm q))) (hgn : gn < w.heap.size) :
    Calls Tryz.prog 57 #[.slice A n c, .func (.func 58) #[] #[.pointer (some ⟨gn, 0, none⟩)]] w fun e w' => e = .returned (.bool (l.any (fun x => blN x.1 q))) ∧ Below w.heap.size w w' := by
  have HI := Lib.hid (wbIdx_any l q gn n c A w hl hn hn7 hr hq h hgn)
  obtain ⟨t, et⟩ : ∃ t, t = l.any (fun x => blN x.1 q) := ⟨_, rfl⟩
  unfold wbPost at HI
  rw [← et] at HI ⊢
  clear hl hn hr et
  go_enter Tryz.func57, Tryz.ntmps57
  go_wp2_with (fail)
  refine HI.out.mono ?_
  rintro e w1 ⟨⟨z, rfl, hz⟩, hb1⟩
  have HB1 := Lib.hid hb1
  have HZ := Lib.hid hz
  clear hz hb1
  have HD := Lib.hid (show decide (0 ≤ z) = t from by rw [Bool.eq_iff_iff, decide_eq_true_iff]; exact HZ.out)
  go_wp2_with (fail)
  go_ret
  exact ⟨by rw [← HD.out]; rfl, HB1.out⟩
def tkPost (l : List Ce) (e : Ending) : Prop := ∃ z : Int, e = .returned (.int .i64 z) ∧ (0 ≤ z ↔ l.any (fun x => tkLate x) = true)
set_option maxRecDepth 100000 in
set_option maxHeartbeats 2000000 in
theorem tkIdx_any (l : List Ce) (gs : Nat) (n c : Nat) (A : Option Addr) (w : World) (hl : ∀ x ∈ l, CvOk x.2) (hn : l.length = n) (hn7 : n ≤ 1000) (hr : Row w w.heap.size A (recs ceC l)) (h : StB w gs) (hgs : gs < w.heap.size) :
    Calls Tryz.prog 87 #[.slice A n c, .func (.func 61) #[] #[.pointer (some ⟨gs, 0, none⟩)]] w fun e w' => tkPost l e ∧ Below w.heap.size w w' := by
  have HR := Lib.hid hr
  have HN := Lib.hid hn
  have HL := Lib.hid hl
  have HH := Lib.hid (fun (x : Ce) (hx : CvOk x.2) (V : World) (hV : Below w.heap.size w V) => take1_any x gs V hx ⟨(hV.cell (p := ⟨gs, 0, none⟩) hgs).trans h.1, (hV.cell (p := ⟨gs, 1, none⟩) hgs).trans h.2.1, (hV.cell (p := ⟨gs, 2, none⟩) hgs).trans h.2.2⟩ (by have := hV.size; omega))
  clear hr hn hl
  go_enter Tryz.func87, Tryz.ntmps87
  go_wp2_with (fail)
  go_loopw [8] (fun i wr => ∃ k : Nat, k ≤ n ∧ i = .int .i64 k ∧ Below w.heap.size w wr ∧ Hid (∀ m x, m < k → l[m]? = some x → (tkLate x) = false)) (fun i _ => n - (intOf i).toNat)
  case atStart => exact ⟨0, Nat.zero_le _, rfl, Below.refl _ _, Lib.hid (fun m x hm _ => by omega)⟩
  case round =>
    obtain ⟨k, hk, rfl, hb, HK⟩ := hrel
    have hbs := hb.size
    have HB := Lib.hid hb
    by_cases hlt : k < n
    · have hltI : (k : Int) < (n : Int) := by omega
      obtain ⟨x, hx⟩ : ∃ x, l[k]? = some x := ⟨_, List.getElem?_eq_getElem (by have := HN.out; omega)⟩
      obtain ⟨b, o, rfl, hbw, hC⟩ := (HR.out.below hb).posR ceC_len (by omega) (by have := HN.out; omega)
      obtain ⟨c0, c1, c2, c3, c4, c5, c6, c7⟩ := ce_cells hC k x hx
      have HX := Lib.hid hx
      have HXO := Lib.hid (HL.out x (List.mem_of_getElem? hx))
      clear hC hx hb
      go_wp2_with (fail)
      refine (HH.out x HXO.out wr HB.out).mono ?_
      rintro e w1 ⟨rfl, hb1⟩
      have HB1 := Lib.hid (HB.out.trans (hb1.mono hbs))
      clear hb1
      cases hu : (tkLate x)
      · have HU := Lib.hid hu
        clear hu
        go_wp2_with (fail)
        go_roundw
        case rel =>
          refine ⟨k + 1, by omega, by simp, HB1.out, Lib.hid (fun m z hm hz => ?_)⟩
          by_cases hmk : m = k
          · subst hmk
            have := HX.out
            rw [hz] at this
            cases this
            exact HU.out
          · exact HK.out m z (by omega) hz
        case measure => simp [intOf]; omega
      · have HU := Lib.hid (show l.any (fun x => tkLate x) = true from by
          rw [List.any_eq_true]
          exact ⟨x, List.mem_of_getElem? HX.out, hu⟩)
        clear hu
        go_wp2_with (fail)
        go_ret
        exact ⟨⟨_, rfl, iff_of_true (by omega) HU.out⟩, HB1.out⟩
    · have hltI : ¬ (k : Int) < (n : Int) := by omega
      have hall := Lib.hid (show l.any (fun x => tkLate x) = false from by
        rw [List.any_eq_false]
        intro q hq
        obtain ⟨m, hm⟩ := List.getElem?_of_mem hq
        rw [HK.out m q (by have := (List.getElem?_eq_some_iff.1 hm).1; have := HN.out; omega) hm]
        simp)
      clear hb
      go_wp2_with (fail)
      go_ret
      exact ⟨⟨_, rfl, iff_of_false (by omega) (by rw [hall.out]; simp)⟩, HB.out⟩
set_option maxRecDepth 100000 in
theorem tkHas_any (l : List Ce) (gs : Nat) (n c : Nat) (A : Option Addr) (w : World) (hl : ∀ x ∈ l, CvOk x.2) (hn : l.length = n) (hn7 : n ≤ 1000) (hr : Row w w.heap.size A (recs ceC l)) (h : StB w gs) (hgs : gs < w.heap.size) :
    Calls Tryz.prog 50 #[.slice A n c, .func (.func 61) #[] #[.pointer (some ⟨gs, 0, none⟩)]] w fun e w' => e = .returned (.bool (l.any (fun x => tkLate x))) ∧ Below w.heap.size w w' := by
  have HI := Lib.hid (tkIdx_any l gs n c A w hl hn hn7 hr h hgs)
  obtain ⟨t, et⟩ : ∃ t, t = l.any (fun x => tkLate x) := ⟨_, rfl⟩
  unfold tkPost at HI
  rw [← et] at HI ⊢
  clear hl hn hr et
  go_enter Tryz.func50, Tryz.ntmps50
  go_wp2_with (fail)
  refine HI.out.mono ?_
  rintro e w1 ⟨⟨z, rfl, hz⟩, hb1⟩
  have HB1 := Lib.hid hb1
  have HZ := Lib.hid hz
  clear hz hb1
  have HD := Lib.hid (show decide (0 ≤ z) = t from by rw [Bool.eq_iff_iff, decide_eq_true_iff]; exact HZ.out)
  go_wp2_with (fail)
  go_ret
  exact ⟨by rw [← HD.out]; rfl, HB1.out⟩
end Go.Proofs.YtccbblnlmggjbaaGreatDoor
