/- twin.hidden by what is old, twin.Compact of right cells by their contracts. -/
import Derived.Test.YtkcpfppjdjkjeaaGreatDoorCeH
import Derived.Test.YtkcpfppjdjkjeaaGreatDoorMgD
namespace Go.Proofs.YtkcpfppjdjkjeaaGreatDoor
open Go.RowKit

set_option maxRecDepth 100000 in
theorem old_any (x : Ce) (t : Int) (gt : Nat) (w : World) (h : w.cell? ⟨gt, 0, none⟩ = some (.int .i64 t)) (hlt : gt < w.heap.size) : Calls Tryz.prog 34 #[.agg #[.string (nm x.1), .int .i64 x.2.1.k, .bool x.2.1.f, .int .i64 x.2.1.n, .string x.2.1.s, .int .i64 x.2.2.at_, .string (byT x.2.2.by_), .int .i64 x.2.2.no], .pointer (some ⟨gt, 0, none⟩)] w fun e w' => e = .returned (.bool (oldC t x)) ∧ Below w.heap.size w w' := by
  go_enter Tryz.func34, Tryz.ntmps34
  go_wp2_with (fail)
  go_ret
  exact ⟨rfl, (Below.refl _ _).alloc (Nat.le_refl _) _⟩
set_option maxRecDepth 100000 in
theorem bel_any (x y : Ce) (gy : Nat) (w : World) (hx : x.1 < 7) (hy : y.1 < 7) (h : w.cell? ⟨gy, 0, none⟩ = some (.string (nm y.1))) (hlt : gy < w.heap.size) : Calls Tryz.prog 36 #[.agg #[.string (nm x.1), .int .i64 x.2.1.k, .bool x.2.1.f, .int .i64 x.2.1.n, .string x.2.1.s, .int .i64 x.2.2.at_, .string (byT x.2.2.by_), .int .i64 x.2.2.no], .pointer (some ⟨gy, 0, none⟩)] w fun e w' => e = .returned (.bool (blN x.1 y.1)) ∧ Below w.heap.size w w' := by
  go_enter Tryz.func36, Tryz.ntmps36
  go_wp2_with (go_at_call 37; refine (belowF_any x.1 y.1 hx hy _).mono ?_; rintro e w' ⟨rfl, rfl⟩)
  go_ret
  exact ⟨rfl, (Below.refl _ _).alloc (Nat.le_refl _) _⟩
set_option maxRecDepth 100000 in
set_option maxHeartbeats 1000000 in
theorem hidden1O_any (x y : Ce) (hx : x.1 < 7 ∧ CvOk x.2) (hy : y.1 < 7 ∧ CvOk y.2) (t0 : Int) (gt gy gf : Nat) (w : World) (h : CeB w gy y) (hf : w.cell? ⟨gf, 0, none⟩ = some (.func (.func 34) #[] #[.pointer (some ⟨gt, 0, none⟩)])) (hto : w.cell? ⟨gt, 0, none⟩ = some (.int .i64 t0)) (hgt : gt < w.heap.size) (hgy : gy < w.heap.size) (hgf : gf < w.heap.size) :
    Calls Tryz.prog 69 #[.agg #[.string (nm x.1), .int .i64 x.2.1.k, .bool x.2.1.f, .int .i64 x.2.1.n, .string x.2.1.s, .int .i64 x.2.2.at_, .string (byT x.2.2.by_), .int .i64 x.2.2.no], .pointer (some ⟨gy, 0, none⟩), .pointer (some ⟨gf, 0, none⟩)] w fun e w' => e = .returned (.bool (hdF x y && oldC t0 x)) ∧ Below w.heap.size w w' := by
  obtain ⟨y0, y1, y2, y3, y4, y5, y6, y7⟩ := h
  have HH := Lib.hid (fun V => hides_any x y hx hy V)
  obtain ⟨t, et⟩ : ∃ t, t = hdF x y := ⟨_, rfl⟩
  rw [← et] at HH ⊢
  clear hx hy et
  have HB0 := Lib.hid ((Below.refl w.heap.size w).alloc (Nat.le_refl _) (ceBlk x))
  have HX := Lib.hid (heap_new w (ceBlk x))
  go_enter Tryz.func69, Tryz.ntmps69
  go_wp2_with (fail)
  refine (HH.out _).mono ?_
  rintro e w1 ⟨rfl, hb1⟩
  have hs1 := hb1.size
  simp only [World.size_alloc] at hs1
  have HB1 := Lib.hid (HB0.out.trans (hb1.mono (by simp)))
  have ht1 := (HB1.out.cell (p := ⟨gt, 0, none⟩) hgt).trans hto
  have hf1 := (HB1.out.cell (p := ⟨gf, 0, none⟩) hgf).trans hf
  have hxb : w1.heap[w.heap.size]? = some (ceBlk x) := (hb1.block w.heap.size (by simp)).trans HX.out
  obtain ⟨x0, x1, x2, x3, x4, x5, x6, x7⟩ := ce_blk hxb
  clear hb1 hxb hf hto y0 y1 y2 y3 y4 y5 y6 y7
  cases t
  · go_wp2_with (fail)
    go_ret
    exact ⟨rfl, HB1.out⟩
  · go_wp2_with (fail)
    refine (old_any x t0 gt w1 ht1 (by omega)).mono ?_
    rintro e w2 ⟨rfl, hb2⟩
    have HB2 := Lib.hid (HB1.out.trans (hb2.mono (by omega)))
    clear hb2
    go_wp2_with (fail)
    go_ret
    exact ⟨rfl, HB2.out⟩
def IoPost (l : List Ce) (y : Ce) (t0 : Int) (e : Ending) : Prop := ∃ z : Int, e = .returned (.int .i64 z) ∧ (0 ≤ z ↔ l.any (fun x => hdF x y && oldC t0 x) = true)
set_option maxRecDepth 100000 in
set_option maxHeartbeats 2000000 in
theorem indexO_any (l : List Ce) (y : Ce) (t0 : Int) (n c gt gy gf : Nat) (A : Option Addr) (w : World) (hl : ∀ x ∈ l, x.1 < 7 ∧ CvOk x.2) (hy : y.1 < 7 ∧ CvOk y.2) (hn : l.length = n) (hn7 : n ≤ 1000) (hr : Row w w.heap.size A (recs ceC l)) (h : CeB w gy y) (hf : w.cell? ⟨gf, 0, none⟩ = some (.func (.func 34) #[] #[.pointer (some ⟨gt, 0, none⟩)])) (hto : w.cell? ⟨gt, 0, none⟩ = some (.int .i64 t0)) (hgt : gt < w.heap.size) (hgy : gy < w.heap.size) (hgf : gf < w.heap.size) :
    Calls Tryz.prog 71 #[.slice A n c, .func (.func 69) #[] #[.pointer (some ⟨gy, 0, none⟩), .pointer (some ⟨gf, 0, none⟩)]] w fun e w' => IoPost l y t0 e ∧ Below w.heap.size w w' := by
  have HR := Lib.hid hr
  have HN := Lib.hid hn
  have HL := Lib.hid hl
  have HH := Lib.hid (fun (x : Ce) (hx : x.1 < 7 ∧ CvOk x.2) (V : World) (hV : Below w.heap.size w V) => hidden1O_any x y hx hy t0 gt gy gf V
    (by
      obtain ⟨y0, y1, y2, y3, y4, y5, y6, y7⟩ := h
      exact ⟨(hV.cell (p := ⟨gy, 0, none⟩) hgy).trans y0, (hV.cell (p := ⟨gy, 1, none⟩) hgy).trans y1, (hV.cell (p := ⟨gy, 2, none⟩) hgy).trans y2, (hV.cell (p := ⟨gy, 3, none⟩) hgy).trans y3, (hV.cell (p := ⟨gy, 4, none⟩) hgy).trans y4, (hV.cell (p := ⟨gy, 5, none⟩) hgy).trans y5, (hV.cell (p := ⟨gy, 6, none⟩) hgy).trans y6, (hV.cell (p := ⟨gy, 7, none⟩) hgy).trans y7⟩)
    ((hV.cell (p := ⟨gf, 0, none⟩) hgf).trans hf) ((hV.cell (p := ⟨gt, 0, none⟩) hgt).trans hto) (by have := hV.size; omega) (by have := hV.size; omega) (by have := hV.size; omega))
  clear hr hn hl h hf hto
  go_enter Tryz.func71, Tryz.ntmps71
  go_wp2_with (fail)
  go_loopw [8] (fun i wr => ∃ k : Nat, k ≤ n ∧ i = .int .i64 k ∧ Below w.heap.size w wr ∧ Hid (∀ m x, m < k → l[m]? = some x → (hdF x y && oldC t0 x) = false)) (fun i _ => n - (intOf i).toNat)
  case atStart => exact ⟨0, Nat.zero_le _, rfl, Below.refl _ _, Lib.hid (fun m x hm _ => by omega)⟩
  case round =>
    obtain ⟨k, hk, rfl, hb, HK⟩ := hrel
    have hbs := hb.size
    have HB := Lib.hid hb
    by_cases hlt : k < n
    · have hltI : (k : Int) < (n : Int) := by omega
      obtain ⟨x, hx⟩ : ∃ x, l[k]? = some x := ⟨_, List.getElem?_eq_getElem (by have := HN.out; omega)⟩
      obtain ⟨b, o, rfl, hbw, hC⟩ := (HR.out.below hb).posR ceC_len (by omega) (by have := HN.out; omega)
      obtain ⟨c0, c1, c2, c3, c4, c5, c6, c7⟩ := ce_cells hC k x hx
      have HX := Lib.hid hx
      have HXO := Lib.hid (HL.out x (List.mem_of_getElem? hx))
      clear hC hx hb
      go_wp2_with (fail)
      refine (HH.out x HXO.out wr HB.out).mono ?_
      rintro e w1 ⟨rfl, hb1⟩
      have HB1 := Lib.hid (HB.out.trans (hb1.mono hbs))
      clear hb1
      cases hu : (hdF x y && oldC t0 x)
      · have HU := Lib.hid hu
        clear hu
        go_wp2_with (fail)
        go_roundw
        case rel =>
          refine ⟨k + 1, by omega, by simp, HB1.out, Lib.hid (fun m z hm hz => ?_)⟩
          by_cases hmk : m = k
          · subst hmk
            have := HX.out
            rw [hz] at this
            cases this
            exact HU.out
          · exact HK.out m z (by omega) hz
        case measure => simp [intOf]; omega
      · have HU := Lib.hid (show l.any (fun x => hdF x y && oldC t0 x) = true from by
          rw [List.any_eq_true]
          exact ⟨x, List.mem_of_getElem? HX.out, hu⟩)
        clear hu
        go_wp2_with (fail)
        go_ret
        exact ⟨⟨_, rfl, iff_of_true (by omega) HU.out⟩, HB1.out⟩
    · have hltI : ¬ (k : Int) < (n : Int) := by omega
      have hall := Lib.hid (show l.any (fun x => hdF x y && oldC t0 x) = false from by
        rw [List.any_eq_false]
        intro q hq
        obtain ⟨m, hm⟩ := List.getElem?_of_mem hq
        rw [HK.out m q (by have := (List.getElem?_eq_some_iff.1 hm).1; have := HN.out; omega) hm]
        simp)
      clear hb
      go_wp2_with (fail)
      go_ret
      exact ⟨⟨_, rfl, iff_of_false (by omega) (by rw [hall.out]; simp)⟩, HB.out⟩
set_option maxRecDepth 100000 in
set_option maxHeartbeats 1000000 in
theorem hiddenO_any (l : List Ce) (y : Ce) (t0 : Int) (n c gt : Nat) (A : Option Addr) (w : World) (hl : ∀ x ∈ l, x.1 < 7 ∧ CvOk x.2) (hy : y.1 < 7 ∧ CvOk y.2) (hn : l.length = n) (hn7 : n ≤ 1000) (hr : Row w w.heap.size A (recs ceC l)) (hto : w.cell? ⟨gt, 0, none⟩ = some (.int .i64 t0)) (hgt : gt < w.heap.size) :
    Calls Tryz.prog 35 #[.slice A n c, .agg #[.string (nm y.1), .int .i64 y.2.1.k, .bool y.2.1.f, .int .i64 y.2.1.n, .string y.2.1.s, .int .i64 y.2.2.at_, .string (byT y.2.2.by_), .int .i64 y.2.2.no], .func (.func 34) #[] #[.pointer (some ⟨gt, 0, none⟩)]] w fun e w' => e = .returned (.bool (l.any (fun x => hdF x y && oldC t0 x))) ∧ Below w.heap.size w w' := by
  have HI := Lib.hid (fun (V : World) (hV : Below w.heap.size w V) gy gf h hf h1 h2 => indexO_any l y t0 n c gt gy gf A V hl hy hn hn7 ((hr.below hV).mono hV.size) h hf ((hV.cell (p := ⟨gt, 0, none⟩) hgt).trans hto) (by have := hV.size; omega) h1 h2)
  obtain ⟨t, et⟩ : ∃ t, t = l.any (fun x => hdF x y && oldC t0 x) := ⟨_, rfl⟩
  unfold IoPost at HI
  rw [← et] at HI ⊢
  clear hl hn hr et hto
  go_enter Tryz.func35, Tryz.ntmps35
  go_wp2_with (fail)
  go_enter Tryz.func38, Tryz.ntmps38
  go_wp2_with (fail)
  have hBW : Below w.heap.size w ((w.alloc (ceBlk y)).alloc (.cells #[.func (.func 34) #[] #[.pointer (some ⟨gt, 0, none⟩)]] 72)) := ((Below.refl _ _).alloc (Nat.le_refl _) _).alloc (by simp) _
  refine (HI.out _ hBW w.heap.size (w.heap.size + 1) (ce_blk (by rw [Below.heap_alloc _ _ _ (by simp)]; exact heap_new w _)) (by simp) (by simp; omega) (by simp)).mono ?_
  rintro e w1 ⟨⟨z, rfl, hz⟩, hb1⟩
  have HB1 := Lib.hid (hBW.trans (hb1.mono (by simp; omega)))
  have HZ := Lib.hid hz
  clear hz hb1 hBW
  have HD := Lib.hid (show decide (0 ≤ z) = t from by rw [Bool.eq_iff_iff, decide_eq_true_iff]; exact HZ.out)
  go_wp2_with (fail)
  go_ret
  exact ⟨by rw [← HD.out]; rfl, HB1.out⟩
def IbPost (l : List Ce) (y : Ce) (e : Ending) : Prop := ∃ z : Int, e = .returned (.int .i64 z) ∧ (0 ≤ z ↔ l.any (fun x => blN x.1 y.1) = true)
set_option maxRecDepth 100000 in
set_option maxHeartbeats 2000000 in
theorem indexB_any (l : List Ce) (y : Ce) (n c gy : Nat) (A : Option Addr) (w : World) (hl : ∀ x ∈ l, x.1 < 7 ∧ CvOk x.2) (hy : y.1 < 7 ∧ CvOk y.2) (hn : l.length = n) (hn7 : n ≤ 1000) (hr : Row w w.heap.size A (recs ceC l)) (h : w.cell? ⟨gy, 0, none⟩ = some (.string (nm y.1))) (hgy : gy < w.heap.size) :
    Calls Tryz.prog 71 #[.slice A n c, .func (.func 36) #[] #[.pointer (some ⟨gy, 0, none⟩)]] w fun e w' => IbPost l y e ∧ Below w.heap.size w w' := by
  have HR := Lib.hid hr
  have HN := Lib.hid hn
  have HL := Lib.hid hl
  have HH := Lib.hid (fun (x : Ce) (hx : x.1 < 7 ∧ CvOk x.2) (V : World) (hV : Below w.heap.size w V) => bel_any x y gy V hx.1 hy.1 ((hV.cell (p := ⟨gy, 0, none⟩) hgy).trans h) (by have := hV.size; omega))
  clear hr hn hl h
  go_enter Tryz.func71, Tryz.ntmps71
  go_wp2_with (fail)
  go_loopw [8] (fun i wr => ∃ k : Nat, k ≤ n ∧ i = .int .i64 k ∧ Below w.heap.size w wr ∧ Hid (∀ m x, m < k → l[m]? = some x → blN x.1 y.1 = false)) (fun i _ => n - (intOf i).toNat)
  case atStart => exact ⟨0, Nat.zero_le _, rfl, Below.refl _ _, Lib.hid (fun m x hm _ => by omega)⟩
  case round =>
    obtain ⟨k, hk, rfl, hb, HK⟩ := hrel
    have hbs := hb.size
    have HB := Lib.hid hb
    by_cases hlt : k < n
    · have hltI : (k : Int) < (n : Int) := by omega
      obtain ⟨x, hx⟩ : ∃ x, l[k]? = some x := ⟨_, List.getElem?_eq_getElem (by have := HN.out; omega)⟩
      obtain ⟨b, o, rfl, hbw, hC⟩ := (HR.out.below hb).posR ceC_len (by omega) (by have := HN.out; omega)
      obtain ⟨c0, c1, c2, c3, c4, c5, c6, c7⟩ := ce_cells hC k x hx
      have HX := Lib.hid hx
      have HXO := Lib.hid (HL.out x (List.mem_of_getElem? hx))
      clear hC hx hb
      go_wp2_with (fail)
      refine (HH.out x HXO.out wr HB.out).mono ?_
      rintro e w1 ⟨rfl, hb1⟩
      have HB1 := Lib.hid (HB.out.trans (hb1.mono hbs))
      clear hb1
      cases hu : blN x.1 y.1
      · have HU := Lib.hid hu
        clear hu
        go_wp2_with (fail)
        go_roundw
        case rel =>
          refine ⟨k + 1, by omega, by simp, HB1.out, Lib.hid (fun m z hm hz => ?_)⟩
          by_cases hmk : m = k
          · subst hmk
            have := HX.out
            rw [hz] at this
            cases this
            exact HU.out
          · exact HK.out m z (by omega) hz
        case measure => simp [intOf]; omega
      · have HU := Lib.hid (show l.any (fun x => blN x.1 y.1) = true from by
          rw [List.any_eq_true]
          exact ⟨x, List.mem_of_getElem? HX.out, hu⟩)
        clear hu
        go_wp2_with (fail)
        go_ret
        exact ⟨⟨_, rfl, iff_of_true (by omega) HU.out⟩, HB1.out⟩
    · have hltI : ¬ (k : Int) < (n : Int) := by omega
      have hall := Lib.hid (show l.any (fun x => blN x.1 y.1) = false from by
        rw [List.any_eq_false]
        intro q hq
        obtain ⟨m, hm⟩ := List.getElem?_of_mem hq
        rw [HK.out m q (by have := (List.getElem?_eq_some_iff.1 hm).1; have := HN.out; omega) hm]
        simp)
      clear hb
      go_wp2_with (fail)
      go_ret
      exact ⟨⟨_, rfl, iff_of_false (by omega) (by rw [hall.out]; simp)⟩, HB.out⟩
set_option maxRecDepth 100000 in
theorem containsB_any (l : List Ce) (y : Ce) (n c gy : Nat) (A : Option Addr) (w : World) (hl : ∀ x ∈ l, x.1 < 7 ∧ CvOk x.2) (hy : y.1 < 7 ∧ CvOk y.2) (hn : l.length = n) (hn7 : n ≤ 1000) (hr : Row w w.heap.size A (recs ceC l)) (h : w.cell? ⟨gy, 0, none⟩ = some (.string (nm y.1))) (hgy : gy < w.heap.size) :
    Calls Tryz.prog 38 #[.slice A n c, .func (.func 36) #[] #[.pointer (some ⟨gy, 0, none⟩)]] w fun e w' => e = .returned (.bool (l.any (fun x => blN x.1 y.1))) ∧ Below w.heap.size w w' := by
  have HI := Lib.hid (indexB_any l y n c gy A w hl hy hn hn7 hr h hgy)
  obtain ⟨t, et⟩ : ∃ t, t = l.any (fun x => blN x.1 y.1) := ⟨_, rfl⟩
  unfold IbPost at HI
  rw [← et] at HI ⊢
  clear hl hn hr et h
  go_enter Tryz.func38, Tryz.ntmps38
  go_wp2_with (fail)
  refine HI.out.mono ?_
  rintro e w1 ⟨⟨z, rfl, hz⟩, hb1⟩
  have HB1 := Lib.hid hb1
  have HZ := Lib.hid hz
  clear hz hb1
  have HD := Lib.hid (show decide (0 ≤ z) = t from by rw [Bool.eq_iff_iff, decide_eq_true_iff]; exact HZ.out)
  go_wp2_with (fail)
  go_ret
  exact ⟨by rw [← HD.out]; rfl, HB1.out⟩
end Go.Proofs.YtkcpfppjdjkjeaaGreatDoor
