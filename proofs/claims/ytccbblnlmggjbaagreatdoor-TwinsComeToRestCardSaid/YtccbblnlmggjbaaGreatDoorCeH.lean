/- twin.hides, hidden, visible, Visible of right cells by their contracts. -/
import Derived.Test.YtccbblnlmggjbaaGreatDoorCeK
import Derived.Test.YtccbblnlmggjbaaGreatDoorCeB
import Derived.Laws.EntriesVeiled
namespace Go.Proofs.YtccbblnlmggjbaaGreatDoor
open Go.RowKit

theorem Tryz.infoPp : (Tryz.prog.info? 35).map (fun i => (i.zero, i.size, i.bytes)) = some (some (.agg #[.string ⟨#[]⟩, .int .i64 0, .bool false, .int .i64 0, .string ⟨#[]⟩]), 5, 56) := by kernel_rfl
theorem hasV_k {x : Ce} (h : CvOk x.2) : hasV x = !(decide (x.2.1.k = 0)) := by
  unfold hasV
  rcases h.1 with h | h
  · rw [h]; rfl
  · have h1 := h.ne
    have h2 := h.kne
    rw [decide_eq_false h1, decide_eq_false h2]
set_option maxRecDepth 100000 in
set_option maxHeartbeats 4000000 in
theorem hides_any (x y : Ce) (hx : x.1 < 7 ∧ CvOk x.2) (hy : y.1 < 7 ∧ CvOk y.2) (w : World) :
    Calls Tryz.prog 86 #[.agg #[.string (nm x.1), .int .i64 x.2.1.k, .bool x.2.1.f, .int .i64 x.2.1.n, .string x.2.1.s, .int .i64 x.2.2.at_, .string (byT x.2.2.by_), .int .i64 x.2.2.no], .agg #[.string (nm y.1), .int .i64 y.2.1.k, .bool y.2.1.f, .int .i64 y.2.1.n, .string y.2.1.s, .int .i64 y.2.2.at_, .string (byT y.2.2.by_), .int .i64 y.2.2.no]] w fun e w' => e = .returned (.bool (hdF x y)) ∧ Below w.heap.size w w' := by
  have HXH := Lib.hid (hasV_k hx.2)
  have HYH := Lib.hid (hasV_k hy.2)
  have HBS := Lib.hid (fun V => byStamp_any x.2.2 y.2.2 hx.2.2 hy.2.2 V)
  have HC1 := Lib.hid (fun (V : World) => show Calls Tryz.prog 49 #[.string (nm y.1), .string (nm x.1)] V fun e w' => e = .returned (.bool (blN y.1 x.1)) ∧ Below V.heap.size V w' from (belowF_any y.1 x.1 hy.1 hx.1 V).mono (fun e w' h => ⟨h.1, h.2 ▸ Below.refl _ _⟩))
  have HC2 := Lib.hid (fun (V : World) => show Calls Tryz.prog 49 #[.string (nm x.1), .string (nm y.1)] V fun e w' => e = .returned (.bool (blN x.1 y.1)) ∧ Below V.heap.size V w' from (belowF_any x.1 y.1 hx.1 hy.1 V).mono (fun e w' h => ⟨h.1, h.2 ▸ Below.refl _ _⟩))
  have HR := Lib.hid (show hdF x y = (if sk y.2.2 < sk x.2.2 then blN y.1 x.1 || (blN x.1 y.1 && hasV y) else if sk x.2.2 = sk y.2.2 then blN y.1 x.1 && hasV x && hasV y else false) from rfl)
  obtain ⟨ov, eov⟩ : ∃ t, t = blN y.1 x.1 := ⟨_, rfl⟩
  obtain ⟨un, eun⟩ : ∃ t, t = blN x.1 y.1 := ⟨_, rfl⟩
  rw [← eov] at HC1 HR
  rw [← eun] at HC2 HR
  rw [HXH.out, HYH.out] at HR
  obtain ⟨R, eR⟩ : ∃ R, R = hdF x y := ⟨_, rfl⟩
  rw [← eR] at HR ⊢
  clear hx hy HXH HYH eov eun eR
  go_enter Tryz.func86, Tryz.ntmps86
  go_upto_region 1 with (fail)
  obtain ⟨W, hW⟩ : ∃ W, W = (w.alloc (ceBlk x)).alloc (ceBlk y) := ⟨_, rfl⟩
  have hBW : Below w.heap.size w W := by rw [hW]; exact ((Below.refl _ _).alloc (Nat.le_refl _) _).alloc (by simp) _
  have ha0 : W.heap[w.heap.size]? = some (ceBlk x) := by rw [hW, Below.heap_alloc _ _ _ (by simp)]; exact heap_new w _
  have hb0 : W.heap[w.heap.size + 1]? = some (ceBlk y) := by rw [hW]; have := heap_new (w.alloc (ceBlk x)) (ceBlk y); simpa using this
  have hWs : w.heap.size + 1 < W.heap.size := by rw [hW]; simp
  have HBW := Lib.hid hBW
  have HQ := Lib.hid (fun (V : World) (hV : Below W.heap.size W V) => show CeB V w.heap.size x ∧ CeB V (w.heap.size + 1) y from
    ⟨ce_blk ((hV.block w.heap.size (by omega)).trans ha0), ce_blk ((hV.block (w.heap.size + 1) (by omega)).trans hb0)⟩)
  unfold ceBlk at hW
  rw [← hW]
  clear hW hBW ha0 hb0
  refine qRegion (by kernel_rfl) (by kernel_rfl) ?_
  repeat (first
    | (go_big_quiet_want; refine qVal (fun V hV => (by (obtain ⟨⟨x0, x1, x2, x3, x4, x5, x6, x7⟩, y0, y1, y2, y3, y4, y5, y6, y7⟩ := HQ.out V hV; go_simp; try rfl))) ?_; simp only [Act.put, List.setIfInBounds_toArray, List.set_cons_zero, List.set_cons_succ]; go_big_quiet_on)
    | (go_big_quiet_want
       refine qCall (fun V hV => (by (obtain ⟨⟨x0, x1, x2, x3, x4, x5, x6, x7⟩, y0, y1, y2, y3, y4, y5, y6, y7⟩ := HQ.out V hV; go_simp; exact ⟨rfl, rfl⟩))) (fun V hV => (by first
         | with_reducible exact (HC1.out V).mono (fun e w' h => ⟨h.1, hV.trans (h.2.mono hV.size)⟩)
         | with_reducible exact (HC2.out V).mono (fun e w' h => ⟨h.1, hV.trans (h.2.mono hV.size)⟩))) ?_
       simp only [Act.put, List.setIfInBounds_toArray, List.set_cons_zero, List.set_cons_succ]; go_big_quiet_on)
    | go_big_quiet_skip)
  refine wpQuiet_nil ?_
  intro w1 hb1
  have hs1 := hb1.size
  obtain ⟨⟨x0, x1, x2, x3, x4, x5, x6, x7⟩, y0, y1, y2, y3, y4, y5, y6, y7⟩ := HQ.out w1 hb1
  have HB1 := Lib.hid hb1
  clear hb1
  by_cases s1 : sk y.2.2 < sk x.2.2
  · have hcs : cmpI (sk x.2.2) (sk y.2.2) = 1 := by unfold cmpI; rw [if_neg (by omega), if_pos s1]
    rw [if_pos s1] at HR
    clear s1
    go_upto_region 4 with (go_at_call 62; refine (HBS.out _).mono ?_; rw [hcs]; rintro e w2 ⟨rfl, hb2⟩; have HB2 := Lib.hid (HB1.out.trans (hb2.mono (by omega))); have HBF := Lib.hid (HBW.out.trans ((HB1.out.trans (hb2.mono (by omega))).mono HBW.out.size)); clear hb2)
    obtain ⟨_, z0, z1, z2, z3, z4, z5, z6, z7⟩ := HQ.out w2 HB2.out
    clear z0 z2 z3 z4 z5 z6 z7
    cases ov
    · cases un
      · go_wp2_with (fail)
        go_ret
        exact ⟨by rw [HR.out]; rfl, HBF.out⟩
      · by_cases hy0 : y.2.1.k = 0
        · rw [decide_eq_true hy0] at HR
          go_wp2_with (fail)
          go_ret
          exact ⟨by rw [HR.out]; first | rfl | simp [hy0], HBF.out⟩
        · rw [decide_eq_false hy0] at HR
          have hy1 : (y.2.1.k != 0) = true := by simpa using hy0
          go_wp2_with (fail)
          go_ret
          exact ⟨by rw [HR.out]; first | rfl | simp [hy0], HBF.out⟩
    · go_wp2_with (fail)
      go_ret
      exact ⟨by rw [HR.out]; first | rfl | simp, HBF.out⟩
  · rw [if_neg s1] at HR
    by_cases s2 : sk x.2.2 = sk y.2.2
    · have hcs : cmpI (sk x.2.2) (sk y.2.2) = 0 := by unfold cmpI; rw [if_neg (by omega), if_neg (by omega)]
      rw [if_pos s2] at HR
      clear s1 s2
      go_upto_region 4 with (go_at_call 62; refine (HBS.out _).mono ?_; rw [hcs]; rintro e w2 ⟨rfl, hb2⟩; have HB2 := Lib.hid (HB1.out.trans (hb2.mono (by omega))); have HBF := Lib.hid (HBW.out.trans ((HB1.out.trans (hb2.mono (by omega))).mono HBW.out.size)); clear hb2)
      obtain ⟨_, z0, z1, z2, z3, z4, z5, z6, z7⟩ := HQ.out w2 HB2.out
      clear z0 z2 z3 z4 z5 z6 z7
      cases ov
      · go_wp2_with (fail)
        go_ret
        exact ⟨by rw [HR.out]; first | rfl | simp, HBF.out⟩
      · by_cases hx0 : x.2.1.k = 0
        · rw [decide_eq_true hx0] at HR
          have hx1 : (x.2.1.k != 0) = false := by simpa using hx0
          rw [hx1]
          clear hx0 hx1
          go_wp2_with (fail)
          go_ret
          exact ⟨by rw [HR.out]; first | rfl | simp, HBF.out⟩
        · rw [decide_eq_false hx0] at HR
          have hx1 : (x.2.1.k != 0) = true := by simpa using hx0
          rw [hx1]
          clear hx0 hx1
          by_cases hy0 : y.2.1.k = 0
          · rw [decide_eq_true hy0] at HR
            go_wp2_with (fail)
            go_ret
            exact ⟨by rw [HR.out]; first | rfl | simp [hy0], HBF.out⟩
          · rw [decide_eq_false hy0] at HR
            have hy1 : (y.2.1.k != 0) = true := by simpa using hy0
            go_wp2_with (fail)
            go_ret
            exact ⟨by rw [HR.out]; first | rfl | simp [hy0], HBF.out⟩
    · have hcs : cmpI (sk x.2.2) (sk y.2.2) = -1 := by unfold cmpI; rw [if_pos (by omega)]
      rw [if_neg s2] at HR
      clear s1 s2
      go_upto_region 4 with (go_at_call 62; refine (HBS.out _).mono ?_; rw [hcs]; rintro e w2 ⟨rfl, hb2⟩; have HB2 := Lib.hid (HB1.out.trans (hb2.mono (by omega))); have HBF := Lib.hid (HBW.out.trans ((HB1.out.trans (hb2.mono (by omega))).mono HBW.out.size)); clear hb2)
      obtain ⟨_, z0, z1, z2, z3, z4, z5, z6, z7⟩ := HQ.out w2 HB2.out
      clear z0 z2 z3 z4 z5 z6 z7
      go_wp2_with (fail)
      go_ret
      exact ⟨by rw [HR.out]; rfl, HBF.out⟩
theorem every_any (x : Ce) (w : World) : Calls Tryz.prog 52 #[.agg #[.string (nm x.1), .int .i64 x.2.1.k, .bool x.2.1.f, .int .i64 x.2.1.n, .string x.2.1.s, .int .i64 x.2.2.at_, .string (byT x.2.2.by_), .int .i64 x.2.2.no]] w fun e w' => e = .returned (.bool true) ∧ Below w.heap.size w w' := by
  go_enter Tryz.func52, Tryz.ntmps52
  go_wp2_with (fail)
  go_ret
  exact ⟨rfl, (Below.refl _ _).alloc (Nat.le_refl _) _⟩
set_option maxRecDepth 100000 in
set_option maxHeartbeats 1000000 in
theorem hidden1_any (x y : Ce) (hx : x.1 < 7 ∧ CvOk x.2) (hy : y.1 < 7 ∧ CvOk y.2) (gy gf : Nat) (w : World) (h : CeB w gy y) (hf : w.cell? ⟨gf, 0, none⟩ = some (.func (.func 52) #[] #[])) (hgy : gy < w.heap.size) (hgf : gf < w.heap.size) :
    Calls Tryz.prog 85 #[.agg #[.string (nm x.1), .int .i64 x.2.1.k, .bool x.2.1.f, .int .i64 x.2.1.n, .string x.2.1.s, .int .i64 x.2.2.at_, .string (byT x.2.2.by_), .int .i64 x.2.2.no], .pointer (some ⟨gy, 0, none⟩), .pointer (some ⟨gf, 0, none⟩)] w fun e w' => e = .returned (.bool (hdF x y)) ∧ Below w.heap.size w w' := by
  obtain ⟨y0, y1, y2, y3, y4, y5, y6, y7⟩ := h
  have HH := Lib.hid (fun V => hides_any x y hx hy V)
  obtain ⟨t, et⟩ : ∃ t, t = hdF x y := ⟨_, rfl⟩
  rw [← et] at HH ⊢
  clear hx hy et
  have HB0 := Lib.hid ((Below.refl w.heap.size w).alloc (Nat.le_refl _) (ceBlk x))
  have HX := Lib.hid (heap_new w (ceBlk x))
  go_enter Tryz.func85, Tryz.ntmps85
  go_wp2_with (fail)
  refine (HH.out _).mono ?_
  rintro e w1 ⟨rfl, hb1⟩
  have hs1 := hb1.size
  simp only [World.size_alloc] at hs1
  have HB1 := Lib.hid (HB0.out.trans (hb1.mono (by simp)))
  have hf1 := (HB1.out.cell (p := ⟨gf, 0, none⟩) hgf).trans hf
  have hxb : w1.heap[w.heap.size]? = some (ceBlk x) := (hb1.block w.heap.size (by simp)).trans HX.out
  obtain ⟨x0, x1, x2, x3, x4, x5, x6, x7⟩ := ce_blk hxb
  clear hb1 hxb hf y0 y1 y2 y3 y4 y5 y6 y7
  cases t
  · go_wp2_with (fail)
    go_ret
    exact ⟨rfl, HB1.out⟩
  · go_wp2_with (fail)
    refine (every_any x w1).mono ?_
    rintro e w2 ⟨rfl, hb2⟩
    have HB2 := Lib.hid (HB1.out.trans (hb2.mono (by omega)))
    clear hb2
    go_wp2_with (fail)
    go_ret
    exact ⟨rfl, HB2.out⟩
def IcPost (l : List Ce) (y : Ce) (e : Ending) : Prop := ∃ z : Int, e = .returned (.int .i64 z) ∧ (0 ≤ z ↔ l.any (fun x => hdF x y) = true)
set_option maxRecDepth 100000 in
set_option maxHeartbeats 2000000 in
theorem indexC_any (l : List Ce) (y : Ce) (n c gy gf : Nat) (A : Option Addr) (w : World) (hl : ∀ x ∈ l, x.1 < 7 ∧ CvOk x.2) (hy : y.1 < 7 ∧ CvOk y.2) (hn : l.length = n) (hn7 : n ≤ 1000) (hr : Row w w.heap.size A (recs ceC l)) (h : CeB w gy y) (hf : w.cell? ⟨gf, 0, none⟩ = some (.func (.func 52) #[] #[])) (hgy : gy < w.heap.size) (hgf : gf < w.heap.size) :
    Calls Tryz.prog 87 #[.slice A n c, .func (.func 85) #[] #[.pointer (some ⟨gy, 0, none⟩), .pointer (some ⟨gf, 0, none⟩)]] w fun e w' => IcPost l y e ∧ Below w.heap.size w w' := by
  have HR := Lib.hid hr
  have HN := Lib.hid hn
  have HL := Lib.hid hl
  have HH := Lib.hid (fun (x : Ce) (hx : x.1 < 7 ∧ CvOk x.2) (V : World) (hV : Below w.heap.size w V) => hidden1_any x y hx hy gy gf V
    (by
      obtain ⟨y0, y1, y2, y3, y4, y5, y6, y7⟩ := h
      exact ⟨(hV.cell (p := ⟨gy, 0, none⟩) hgy).trans y0, (hV.cell (p := ⟨gy, 1, none⟩) hgy).trans y1, (hV.cell (p := ⟨gy, 2, none⟩) hgy).trans y2, (hV.cell (p := ⟨gy, 3, none⟩) hgy).trans y3, (hV.cell (p := ⟨gy, 4, none⟩) hgy).trans y4, (hV.cell (p := ⟨gy, 5, none⟩) hgy).trans y5, (hV.cell (p := ⟨gy, 6, none⟩) hgy).trans y6, (hV.cell (p := ⟨gy, 7, none⟩) hgy).trans y7⟩)
    ((hV.cell (p := ⟨gf, 0, none⟩) hgf).trans hf) (by have := hV.size; omega) (by have := hV.size; omega))
  clear hr hn hl h hf
  go_enter Tryz.func87, Tryz.ntmps87
  go_wp2_with (fail)
  go_loopw [8] (fun i wr => ∃ k : Nat, k ≤ n ∧ i = .int .i64 k ∧ Below w.heap.size w wr ∧ Hid (∀ m x, m < k → l[m]? = some x → hdF x y = false)) (fun i _ => n - (intOf i).toNat)
  case atStart => exact ⟨0, Nat.zero_le _, rfl, Below.refl _ _, Lib.hid (fun m x hm _ => by omega)⟩
  case round =>
    obtain ⟨k, hk, rfl, hb, HK⟩ := hrel
    have hbs := hb.size
    have HB := Lib.hid hb
    by_cases hlt : k < n
    · have hltI : (k : Int) < (n : Int) := by omega
      obtain ⟨x, hx⟩ : ∃ x, l[k]? = some x := ⟨_, List.getElem?_eq_getElem (by have := HN.out; omega)⟩
      obtain ⟨b, o, rfl, hbw, hC⟩ := (HR.out.below hb).posR ceC_len (by omega) (by have := HN.out; omega)
      obtain ⟨c0, c1, c2, c3, c4, c5, c6, c7⟩ := ce_cells hC k x hx
      have HX := Lib.hid hx
      have HXO := Lib.hid (HL.out x (List.mem_of_getElem? hx))
      clear hC hx hb
      go_wp2_with (fail)
      refine (HH.out x HXO.out wr HB.out).mono ?_
      rintro e w1 ⟨rfl, hb1⟩
      have HB1 := Lib.hid (HB.out.trans (hb1.mono hbs))
      clear hb1
      cases hu : hdF x y
      · have HU := Lib.hid hu
        clear hu
        go_wp2_with (fail)
        go_roundw
        case rel =>
          refine ⟨k + 1, by omega, by simp, HB1.out, Lib.hid (fun m z hm hz => ?_)⟩
          by_cases hmk : m = k
          · subst hmk
            have := HX.out
            rw [hz] at this
            cases this
            exact HU.out
          · exact HK.out m z (by omega) hz
        case measure => simp [intOf]; omega
      · have HU := Lib.hid (show l.any (fun x => hdF x y) = true from by
          rw [List.any_eq_true]
          exact ⟨x, List.mem_of_getElem? HX.out, hu⟩)
        clear hu
        go_wp2_with (fail)
        go_ret
        exact ⟨⟨_, rfl, iff_of_true (by omega) HU.out⟩, HB1.out⟩
    · have hltI : ¬ (k : Int) < (n : Int) := by omega
      have hall := Lib.hid (show l.any (fun x => hdF x y) = false from by
        rw [List.any_eq_false]
        intro q hq
        obtain ⟨m, hm⟩ := List.getElem?_of_mem hq
        rw [HK.out m q (by have := (List.getElem?_eq_some_iff.1 hm).1; have := HN.out; omega) hm]
        simp)
      clear hb
      go_wp2_with (fail)
      go_ret
      exact ⟨⟨_, rfl, iff_of_false (by omega) (by rw [hall.out]; simp)⟩, HB.out⟩
set_option maxRecDepth 100000 in
set_option maxHeartbeats 1000000 in
theorem hidden_any (l : List Ce) (y : Ce) (n c : Nat) (A : Option Addr) (w : World) (hl : ∀ x ∈ l, x.1 < 7 ∧ CvOk x.2) (hy : y.1 < 7 ∧ CvOk y.2) (hn : l.length = n) (hn7 : n ≤ 1000) (hr : Row w w.heap.size A (recs ceC l)) :
    Calls Tryz.prog 47 #[.slice A n c, .agg #[.string (nm y.1), .int .i64 y.2.1.k, .bool y.2.1.f, .int .i64 y.2.1.n, .string y.2.1.s, .int .i64 y.2.2.at_, .string (byT y.2.2.by_), .int .i64 y.2.2.no], .func (.func 52) #[] #[]] w fun e w' => e = .returned (.bool (l.any (fun x => hdF x y))) ∧ Below w.heap.size w w' := by
  have HI := Lib.hid (fun (V : World) (hV : Below w.heap.size w V) gy gf h hf h1 h2 => indexC_any l y n c gy gf A V hl hy hn hn7 ((hr.below hV).mono hV.size) h hf h1 h2)
  obtain ⟨t, et⟩ : ∃ t, t = l.any (fun x => hdF x y) := ⟨_, rfl⟩
  unfold IcPost at HI
  rw [← et] at HI ⊢
  clear hl hn hr et
  go_enter Tryz.func47, Tryz.ntmps47
  go_wp2_with (fail)
  go_enter Tryz.func50, Tryz.ntmps50
  go_wp2_with (fail)
  have hBW : Below w.heap.size w ((w.alloc (ceBlk y)).alloc (.cells #[.func (.func 52) #[] #[]] 99)) := ((Below.refl _ _).alloc (Nat.le_refl _) _).alloc (by simp) _
  refine (HI.out _ hBW w.heap.size (w.heap.size + 1) (ce_blk (by rw [Below.heap_alloc _ _ _ (by simp)]; exact heap_new w _)) (by simp) (by simp; omega) (by simp)).mono ?_
  rintro e w1 ⟨⟨z, rfl, hz⟩, hb1⟩
  have HB1 := Lib.hid (hBW.trans (hb1.mono (by simp; omega)))
  have HZ := Lib.hid hz
  clear hz hb1 hBW
  have HD := Lib.hid (show decide (0 ≤ z) = t from by rw [Bool.eq_iff_iff, decide_eq_true_iff]; exact HZ.out)
  go_wp2_with (fail)
  go_ret
  exact ⟨by rw [← HD.out]; rfl, HB1.out⟩
theorem isVi_take {l : List Ce} {k : Nat} {y : Ce} (h : l[k]? = some y) : ((l.take (k + 1)).filter (isVi l)).map (fun y => (y.1, y.2.1)) = ((l.take k).filter (isVi l)).map (fun y => (y.1, y.2.1)) ++ (if isVi l y then [(y.1, y.2.1)] else []) := by
  rw [List.take_add_one, h, List.filter_append, List.map_append]
  congr 1
  simp only [Option.toList_some, List.filter_cons, List.filter_nil]
  split <;> rfl
def ViPost (l : List Ce) (w : World) (e : Ending) (w' : World) : Prop :=
  ∃ A c n, e = .returned (.slice A n c) ∧ (viF l).length = n ∧ w'.ownsRow w.heap.size 35 5 (.slice A n c) n (recs prC (viF l)) ∧ Below w.heap.size w w'
set_option maxRecDepth 100000 in
set_option maxHeartbeats 4000000 in
theorem visibleS_any (l : List Ce) (n c : Nat) (A : Option Addr) (w : World) (hl : CsOk l) (hn : l.length = n) (hn7 : n ≤ 100) (hr : Row w w.heap.size A (recs ceC l)) :
    Calls Tryz.prog 38 #[.slice A n c] w fun e w' => ViPost l w e w' := by
  obtain ⟨i0, hi0, hz0, hz1, hz2⟩ := info_parts Tryz.infoPp
  have HR := Lib.hid hr
  have HL := Lib.hid hl
  have HN := Lib.hid hn
  have HH := Lib.hid (fun (y : Ce) (hy : y ∈ l) (V : World) (hV : Below w.heap.size w V) => hidden_any l y n c A V (fun x hx => hl.2 x hx) (hl.2 y hy) hn (by omega) ((hr.below hV).mono hV.size))
  clear hr hl hn
  go_enter Tryz.func38, Tryz.ntmps38
  go_wp2_with (fail)
  go_loopw [3, 8] (fun v s wr => ∃ (i m : Nat), i ≤ n ∧ s = .int .i64 (i : Int) ∧ (((l.take i).filter (isVi l)).map (fun y => (y.1, y.2.1))).length = m ∧ m ≤ i ∧ wr.ownsRow w.heap.size 35 5 v m (recs prC (((l.take i).filter (isVi l)).map (fun y => (y.1, y.2.1)))) ∧ Below w.heap.size w wr) (fun _ s _ => n - (intOf s).toNat)
  case atStart => exact ⟨0, 0, by omega, rfl, rfl, Nat.le_refl _, World.ownsRow_nil _ _ _ _, Below.refl _ _⟩
  case round =>
    obtain ⟨i, m, hin, rfl, hlm, hmi, hown, hbr⟩ := hrel
    have hbs := hbr.size
    have HB := Lib.hid hbr
    have HLM := Lib.hid hlm
    have HO := Lib.hid hown
    by_cases hlt : i < n
    · have hltI : (i : Int) < n := by omega
      clear hown hbr hlm
      obtain ⟨y, hy⟩ : ∃ y, l[i]? = some y := ⟨_, List.getElem?_eq_getElem (by have := HN.out; omega)⟩
      obtain ⟨b, o, rfl, hb, hC⟩ := (HR.out.below HB.out).posR ceC_len (by omega) (by have := HN.out; omega)
      obtain ⟨c0, c1, c2, c3, c4, c5, c6, c7⟩ := ce_cells hC i y hy
      have HTK := Lib.hid (isVi_take hy)
      have HYM := Lib.hid (List.mem_of_getElem? hy)
      have HYV := Lib.hid (hasV_k (HL.out.2 y HYM.out).2)
      have HBA := Lib.hid (HB.out.alloc hbs (ceBlk y))
      clear hC hy
      by_cases hk : y.2.1.k = 0
      · have HVI := Lib.hid (show isVi l y = false from by unfold isVi; rw [HYV.out, decide_eq_true hk]; rfl)
        have hk1 : (y.2.1.k != 0) = false := by simpa using hk
        go_wp2_with (fail)
        go_roundw
        case rel =>
          refine ⟨i + 1, m, by omega, by simp, ?_, by omega, ?_, HB.out.alloc hbs _⟩
          · rw [HTK.out, HVI.out]; simpa using HLM.out
          · rw [HTK.out, HVI.out]
            simp only [Bool.false_eq_true, if_false, List.append_nil]
            exact HO.out.alloc _
        case measure => simp [intOf]; omega
      · have hk1 : (y.2.1.k != 0) = true := by simpa using hk
        have HHV := Lib.hid (show hasV y = true from by rw [HYV.out, decide_eq_false hk]; rfl)
        go_wp2_with (fail)
        refine (HH.out y HYM.out _ HBA.out).mono ?_
        rintro e w1 ⟨rfl, hb1⟩
        have hs1 := hb1.size
        simp only [World.size_alloc] at hs1
        have HB1 := Lib.hid (HBA.out.trans (hb1.mono (by simp; omega)))
        have HO1 := Lib.hid (own_belowP (HO.out.alloc (ceBlk y)) hb1)
        have hyb : w1.heap[wr.heap.size]? = some (ceBlk y) := (hb1.block wr.heap.size (by simp)).trans (heap_new wr _)
        obtain ⟨y0, y1, y2, y3, y4, y5, y6, y7⟩ := ce_blk hyb
        obtain ⟨t, et⟩ : ∃ t, t = l.any (fun x => hdF x y) := ⟨_, rfl⟩
        rw [← et]
        have HVI := Lib.hid (show isVi l y = !t from by unfold isVi; rw [HHV.out, ← et]; rfl)
        clear hb1 hyb et c0 c1 c2 c3 c4 c5 c6 c7 hk hk1
        cases t
        · go_wp2_with (at_builtin; refine wpList_append_own2 _ rfl _ _ 41 rfl w.heap.size 35 i0 _ 5 56 Tryz.underlying41 hi0 hz0 hz1 hz2 rfl (by decide) _ _ _ rfl (HO1.out.alloc _) ⟨_, 0, none⟩ 1 1 (prC (y.1, y.2.1)) rfl rfl ?c1 ?c2 ?c3 ?c4 ?c5 ?_)
          case c1 => exact cells_add (cells_atF (by rfl) (by first | rfl | simp))
          case c2 => exact prC_one _
          case c3 => unfold maxLen; omega
          case c4 => omega
          case c5 => have := HB1.out.size; first | omega | (simp; omega)
          intro v6 w6 ho6 hg6 hm6
          have hlo : ∀ q, u3.ownBlock = some q → w.heap.size ≤ q := fun q hq => (HO1.out.lt q hq).1
          have HB6 := Lib.hid ((HB1.out.alloc HB1.out.size _).grown hg6 (by have := HB1.out.size; first | omega | (simp; omega)) hlo)
          have HO6 := Lib.hid ho6
          clear ho6 hg6 hm6 hlo
          go_wp2_with (fail)
          go_roundw
          case rel =>
            refine ⟨i + 1, m + 1, by omega, by simp, ?_, by omega, ?_, HB6.out⟩
            · rw [HTK.out, HVI.out]
              simp only [Bool.not_false, if_true, List.length_append, HLM.out, List.length_singleton]
            · rw [HTK.out, HVI.out]
              simp only [Bool.not_false, if_true, recs_snoc]
              exact HO6.out
          case measure => simp [intOf]; omega
        · go_wp2_with (fail)
          go_roundw
          case rel =>
            refine ⟨i + 1, m, by omega, by simp, ?_, by omega, ?_, HB1.out⟩
            · rw [HTK.out, HVI.out]; simpa using HLM.out
            · rw [HTK.out, HVI.out]
              simp only [Bool.not_true, Bool.false_eq_true, if_false, List.append_nil]
              exact HO1.out
          case measure => simp [intOf]; omega
    · have hltI : ¬ (i : Int) < n := by omega
      have hin' : i = n := by omega
      subst hin'
      obtain ⟨A1, c1, rfl⟩ := own_slice hown
      have htk : ((l.take i).filter (isVi l)).map (fun y => (y.1, y.2.1)) = viF l := by
        rw [List.take_of_length_le (by rw [HN.out]; exact Nat.le_refl _)]
        rfl
      rw [htk] at hown hlm
      have HF := Lib.hid (show ViPost l w (.returned (.slice A1 m c1)) wr from ⟨A1, c1, m, rfl, hlm, hown, hbr⟩)
      clear hown hbr hlm htk
      go_wp2_with (fail)
      go_ret
      exact HF.out
def VsPost (l : List Ce) (w : World) (e : Ending) (w' : World) : Prop :=
  ∃ A c n, e = .returned (.tuple #[.slice A n c, .int .i64 0]) ∧ (viF l).length = n ∧ w'.ownsRow w.heap.size 35 5 (.slice A n c) n (recs prC (viF l)) ∧ Below w.heap.size w w'
set_option maxRecDepth 100000 in
theorem visible_any (l : List Ce) (n c : Nat) (A : Option Addr) (w : World) (hl : CsOk l) (hn : l.length = n) (hn7 : n ≤ 100) (hr : Row w w.heap.size A (recs ceC l)) (hT : U8T w) :
    Calls Tryz.prog 10 #[.slice A n c] w fun e w' => VsPost l w e w' := by
  have HR := Lib.hid (fun V (hV : Below w.heap.size w V) => (hr.below hV).mono hV.size)
  have HL := Lib.hid hl
  have HN := Lib.hid hn
  have HC := Lib.hid (checkCells_any l n c A w hl hn hn7 hr hT)
  clear hr hl hn hT
  go_enter Tryz.func10, Tryz.ntmps10
  go_wp2_with (fail)
  refine HC.out.mono ?_
  rintro e w1 ⟨rfl, hb1⟩
  have HB1 := Lib.hid hb1
  have hs1 := hb1.size
  clear hb1 HC
  go_wp2_with (fail)
  refine (visibleS_any l n c A w1 HL.out HN.out hn7 (HR.out _ HB1.out)).mono ?_
  rintro e w2 ⟨A2, c2, m, rfl, hlm, ho, hb2⟩
  have HF := Lib.hid (show VsPost l w (.returned (.tuple #[.slice A2 m c2, .int .i64 0])) w2 from ⟨A2, c2, m, rfl, hlm, own_mono ho hs1, HB1.out.trans (hb2.mono hs1)⟩)
  clear hlm ho hb2
  go_wp2_with (fail)
  go_ret2
  exact HF.out
end Go.Proofs.YtccbblnlmggjbaaGreatDoor
