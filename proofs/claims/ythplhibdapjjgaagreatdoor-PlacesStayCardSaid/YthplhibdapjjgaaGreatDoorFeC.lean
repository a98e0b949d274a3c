/- Fences: place.where by its contract. -/
import Derived.Test.YthplhibdapjjgaaGreatDoorFeB
namespace Go.Proofs.YthplhibdapjjgaaGreatDoor
open Go.RowKit

theorem call_enter {P : Program} {f : FuncId} {fn : Func} (h1 : P.funcs[f]? = some fn) (h2 : (fn.name == "runtime.NumGoroutine") = false) (h3 : fn.body.isSome = true) (args : Array Value) (w : World) : (callFunc f args).run P w = .ok (.enter f args) w := by
  have h4 : fn.name ≠ "runtime.NumGoroutine" := by simpa using h2
  obtain ⟨k, h5⟩ := Option.isSome_iff_exists.1 h3
  simp [callFunc, h1, h4, h5]
theorem bel_grown {w w' : World} (h : Below w.heap.size w w') (row : Option Nat) : w.grownBy w' row := ⟨h.os, h.tape, h.output, h.size, fun k hk _ => h.block k hk⟩
theorem grown_belF {a b c : World} {p : Nat} (h : a.grownBy b (some p)) (k : Below b.heap.size b c) : a.grownBy c (some p) :=
  ⟨k.os.trans h.os, k.tape.trans h.tape, k.output.trans h.output, Nat.le_trans h.size k.size, fun i hi hne => (k.block i (Nat.lt_of_lt_of_le hi h.size)).trans (h.block i hi hne)⟩
theorem gr_trF {a b c : World} {p : Nat} (h : a.grownBy b (some p)) (k : b.grownBy c (some p)) : a.grownBy c (some p) :=
  ⟨k.os.trans h.os, k.tape.trans h.tape, k.output.trans h.output, Nat.le_trans h.size k.size, fun i hi hne => (k.block i (Nat.lt_of_lt_of_le hi h.size) hne).trans (h.block i hi hne)⟩
theorem two_set (W : World) (g : Nat) (a b a' b' : Pt) (h0 : W.heap[g]? = some (.cells #[.int .i64 a.1, .int .i64 a.2] 37 (0, 0))) (h1 : W.heap[g + 1]? = some (.cells #[.int .i64 b.1, .int .i64 b.2] 37 (0, 0))) :
    ((((W.setCell ⟨g, 0, none⟩ (.int .i64 a'.1)).setCell ⟨g, 1, none⟩ (.int .i64 a'.2)).setCell ⟨g + 1, 0, none⟩ (.int .i64 b'.1)).setCell ⟨g + 1, 1, none⟩ (.int .i64 b'.2)).heap[g]? = some (.cells #[.int .i64 a'.1, .int .i64 a'.2] 37 (0, 0)) ∧
    ((((W.setCell ⟨g, 0, none⟩ (.int .i64 a'.1)).setCell ⟨g, 1, none⟩ (.int .i64 a'.2)).setCell ⟨g + 1, 0, none⟩ (.int .i64 b'.1)).setCell ⟨g + 1, 1, none⟩ (.int .i64 b'.2)).heap[g + 1]? = some (.cells #[.int .i64 b'.1, .int .i64 b'.2] 37 (0, 0)) := by
  constructor
  · simp [World.setCell, Array.getElem?_modify, h0]
  · simp [World.setCell, Array.getElem?_modify, h1]

set_option maxRecDepth 100000 in
set_option maxHeartbeats 4000000 in
theorem w2_any (a b s : Pt) (g p : Nat) (v : Bool) (w : World) (ha : SpB a) (hb : SpB b) (hs : SpB s) (h0 : w.cell? ⟨g, 0, none⟩ = some (.int .i64 s.1)) (h1 : w.cell? ⟨g, 1, none⟩ = some (.int .i64 s.2)) (hp : w.heap[p]? = some (.cells #[.bool v] 4 (0, 0))) :
    Calls Tryz.prog 121 #[ptV a, ptV b, .pointer (some ⟨g, 0, none⟩), .pointer (some ⟨p, 0, none⟩)] w fun e w' => e = .returned (.bool false) ∧ w.grownBy w' (some p) ∧ w'.heap[p]? = some (.cells #[.bool (xor v (cr a b s))] 4 (0, 0)) := by
  have hgw := World.block_lt_of_cell? w _ h0
  have hpw := (Array.getElem?_eq_some_iff.1 hp).1
  have HS1 := Lib.hid (fun V => sidePt_any a b s V ha hb hs)
  have HS2 := Lib.hid (fun V => sidePt_any b a s V hb ha hs)
  have HCR := Lib.hid (show cr a b s = if b.2 < a.2 then decide (b.2 ≤ s.2 ∧ s.2 < a.2 ∧ 0 < sd b a s) else decide (a.2 ≤ s.2 ∧ s.2 < b.2 ∧ 0 < sd a b s) from rfl)
  obtain ⟨x, ex⟩ : ∃ x, x = cr a b s := ⟨_, rfl⟩
  rw [← ex] at HCR ⊢
  obtain ⟨d1, ed1⟩ : ∃ d, d = sd a b s := ⟨_, rfl⟩
  obtain ⟨d2, ed2⟩ : ∃ d, d = sd b a s := ⟨_, rfl⟩
  rw [← ed1] at HS1 HCR
  rw [← ed2] at HS2 HCR
  obtain ⟨ax, ay⟩ := a
  obtain ⟨bx, by_⟩ := b
  obtain ⟨sx, sy⟩ := s
  unfold ptV at HS1 HS2 ⊢
  simp only at h0 h1 HS1 HS2 hgw HCR ⊢
  have HP := Lib.hid hp
  clear ha hb hs ex ed1 ed2 hp
  go_enter Tryz.func121, Tryz.ntmps121
  go_upto_region 1 with (fail)
  generalize hW : (w.alloc (.cells #[.int .i64 ax, .int .i64 ay] 37)).alloc (.cells #[.int .i64 bx, .int .i64 by_] 37) = W
  have hWs : W.heap.size = w.heap.size + 1 + 1 := by rw [← hW]; simp
  have hBW : Below w.heap.size w W := by rw [← hW]; exact ((Below.refl _ _).alloc (Nat.le_refl _) _).alloc (by simp) _
  have ha0 : W.heap[w.heap.size]? = some (.cells #[.int .i64 ax, .int .i64 ay] 37 (0, 0)) := by rw [← hW, Below.heap_alloc _ _ _ (by simp)]; exact heap_new w _
  have hb0 : W.heap[w.heap.size + 1]? = some (.cells #[.int .i64 bx, .int .i64 by_] 37 (0, 0)) := by rw [← hW]; have := heap_new (w.alloc (.cells #[.int .i64 ax, .int .i64 ay] 37)) (.cells #[.int .i64 bx, .int .i64 by_] 37); simpa using this
  have c0 := cell_of_blk (j := 0) ha0 rfl
  have c1 := cell_of_blk (j := 1) ha0 rfl
  have c2 := cell_of_blk (j := 0) hb0 rfl
  have c3 := cell_of_blk (j := 1) hb0 rfl
  have f0 : W.frozen? ⟨w.heap.size, 0, none⟩ = false := by simp [World.frozen?, ha0]
  have f1 : W.frozen? ⟨w.heap.size, 1, none⟩ = false := by simp [World.frozen?, ha0]
  have f2 : W.frozen? ⟨w.heap.size + 1, 0, none⟩ = false := by simp [World.frozen?, hb0]
  have f3 : W.frozen? ⟨w.heap.size + 1, 1, none⟩ = false := by simp [World.frozen?, hb0]
  have HA0 := Lib.hid ha0
  have HB0 := Lib.hid hb0
  have HBW := Lib.hid hBW
  clear hW hBW ha0 hb0
  have HPW := Lib.hid (fun (U : World) (hU : Below w.heap.size w U) => (hU.block p hpw).trans HP.out)
  have HGW := Lib.hid (fun (U : World) (hU : Below w.heap.size w U) => And.intro ((hU.cell (p := ⟨g, 0, none⟩) hgw).trans h0) ((hU.cell (p := ⟨g, 1, none⟩) hgw).trans h1))
  have HSTAY := Lib.hid (fun (U : World) (hU : Below w.heap.size w U) (hx : x = false) => show w.grownBy U (some p) ∧ U.heap[p]? = some (.cells #[.bool (xor v x)] 4 (0, 0)) from by
    rw [hx, Bool.xor_false]; exact ⟨bel_grown hU _, HPW.out U hU⟩)
  have HFLIP := Lib.hid (fun (U : World) (hU : Below w.heap.size w U) (hx : x = true) => show w.grownBy (U.setCell ⟨p, 0, none⟩ (.bool (!v))) (some p) ∧ (U.setCell ⟨p, 0, none⟩ (.bool (!v))).heap[p]? = some (.cells #[.bool (xor v x)] 4 (0, 0)) from by
    rw [hx, Bool.xor_true]
    exact ⟨grown_set (bel_grown hU _) (q := ⟨p, 0, none⟩) (.inl rfl) _, heap_setCell_same _ _ 0 _ _ _ (HPW.out U hU)⟩)
  clear h0 h1 HP
  by_cases hsw : by_ < ay
  · go_upto_region 3 with (fail)
    have htw := two_set W w.heap.size (ax, ay) (bx, by_) (bx, by_) (ax, ay) HA0.out HB0.out
    simp only at htw
    have hBU : Below w.heap.size w ((((W.setCell ⟨w.heap.size, 0, none⟩ (.int .i64 bx)).setCell ⟨w.heap.size, 1, none⟩ (.int .i64 by_)).setCell ⟨w.heap.size + 1, 0, none⟩ (.int .i64 ax)).setCell ⟨w.heap.size + 1, 1, none⟩ (.int .i64 ay)) :=
      (((HBW.out.setCell (p := ⟨w.heap.size, 0, none⟩) (by show w.heap.size ≤ w.heap.size; omega) _).setCell (p := ⟨w.heap.size, 1, none⟩) (by show w.heap.size ≤ w.heap.size; omega) _).setCell (p := ⟨w.heap.size + 1, 0, none⟩) (by show w.heap.size ≤ w.heap.size + 1; omega) _).setCell (p := ⟨w.heap.size + 1, 1, none⟩) (by show w.heap.size ≤ w.heap.size + 1; omega) _
    have HX := Lib.hid (show x = decide (by_ ≤ sy ∧ sy < ay ∧ 0 < d2) by rw [HCR.out, if_pos hsw])
    generalize ((((W.setCell ⟨w.heap.size, 0, none⟩ (.int .i64 bx)).setCell ⟨w.heap.size, 1, none⟩ (.int .i64 by_)).setCell ⟨w.heap.size + 1, 0, none⟩ (.int .i64 ax)).setCell ⟨w.heap.size + 1, 1, none⟩ (.int .i64 ay)) = U at htw hBU ⊢
    have k0 := cell_of_blk (j := 0) htw.1 rfl
    have k1 := cell_of_blk (j := 1) htw.1 rfl
    have k2 := cell_of_blk (j := 0) htw.2 rfl
    have k3 := cell_of_blk (j := 1) htw.2 rfl
    obtain ⟨k4, k5⟩ := HGW.out U hBU
    have HBU := Lib.hid hBU
    clear c0 c1 c2 c3 f0 f1 f2 f3 htw hBU HA0 HB0
    by_cases g1 : by_ ≤ sy
    · by_cases g2 : sy < ay
      · go_wp2_with (fail)
        refine (HS2.out U).mono ?_
        rintro e w1 ⟨rfl, hb1⟩
        have hB1 := HBU.out.trans (hb1.mono HBU.out.size)
        have HB1 := Lib.hid hB1
        have hp1 := HPW.out w1 hB1
        have p0 := cell_of_blk (j := 0) hp1 rfl
        have pf : w1.frozen? ⟨p, 0, none⟩ = false := by simp [World.frozen?, hp1]
        clear hb1 hB1 hp1 k0 k1 k2 k3 k4 k5
        by_cases g3 : 0 < d2
        · go_wp2_with (fail)
          go_ret
          exact ⟨rfl, HFLIP.out w1 HB1.out (by rw [HX.out]; exact decide_eq_true ⟨g1, g2, g3⟩)⟩
        · go_wp2_with (fail)
          go_ret
          exact ⟨rfl, HSTAY.out w1 HB1.out (by rw [HX.out]; exact decide_eq_false (fun h => by omega))⟩
      · go_wp2_with (fail)
        go_ret
        exact ⟨rfl, HSTAY.out U HBU.out (by rw [HX.out]; exact decide_eq_false (fun h => by omega))⟩
    · go_wp2_with (fail)
      go_ret
      exact ⟨rfl, HSTAY.out U HBU.out (by rw [HX.out]; exact decide_eq_false (fun h => by omega))⟩
  · have HX := Lib.hid (show x = decide (ay ≤ sy ∧ sy < by_ ∧ 0 < d1) by rw [HCR.out, if_neg hsw])
    obtain ⟨k4, k5⟩ := HGW.out W HBW.out
    clear f0 f1 f2 f3 HA0 HB0
    by_cases g1 : ay ≤ sy
    · by_cases g2 : sy < by_
      · go_wp2_with (fail)
        refine (HS1.out W).mono ?_
        rintro e w1 ⟨rfl, hb1⟩
        have hB1 := HBW.out.trans (hb1.mono HBW.out.size)
        have HB1 := Lib.hid hB1
        have hp1 := HPW.out w1 hB1
        have p0 := cell_of_blk (j := 0) hp1 rfl
        have pf : w1.frozen? ⟨p, 0, none⟩ = false := by simp [World.frozen?, hp1]
        clear hb1 hB1 hp1 c0 c1 c2 c3 k4 k5
        by_cases g3 : 0 < d1
        · go_wp2_with (fail)
          go_ret
          exact ⟨rfl, HFLIP.out w1 HB1.out (by rw [HX.out]; exact decide_eq_true ⟨g1, g2, g3⟩)⟩
        · go_wp2_with (fail)
          go_ret
          exact ⟨rfl, HSTAY.out w1 HB1.out (by rw [HX.out]; exact decide_eq_false (fun h => by omega))⟩
      · go_wp2_with (fail)
        go_ret
        exact ⟨rfl, HSTAY.out W HBW.out (by rw [HX.out]; exact decide_eq_false (fun h => by omega))⟩
    · go_wp2_with (fail)
      go_ret
      exact ⟨rfl, HSTAY.out W HBW.out (by rw [HX.out]; exact decide_eq_false (fun h => by omega))⟩

/-- Where a spot is: 1 on an edge, 2 within, 0 outside. -/
def whI (l : List Pt) (s : Pt) : Int := if anyN (fun k => onB (ed1 l k) (ed2 l k) s) l.length then 1 else if par l s then 2 else 0
theorem whI_inn (l : List Pt) (s : Pt) : whI l s ≠ 0 ↔ Inn l s := by
  unfold whI Inn
  have h := anyN_iff (fun k => onB (ed1 l k) (ed2 l k) s) l.length
  simp only [onB_iff] at h
  by_cases h1 : anyN (fun k => onB (ed1 l k) (ed2 l k) s) l.length = true
  · rw [if_pos h1]
    exact ⟨fun _ => .inl (h.1 h1), fun _ => by omega⟩
  · rw [if_neg h1]
    by_cases h2 : par l s = true
    · rw [if_pos h2]; exact ⟨fun _ => .inr h2, fun _ => by omega⟩
    · rw [if_neg h2]
      refine ⟨fun h => absurd rfl h, ?_⟩
      rintro (h3 | h3)
      · exact absurd (h.2 h3) h1
      · exact absurd h3 h2
theorem mem_ed1 {l : List Pt} {k : Nat} (h : k < l.length) : ed1 l k ∈ l := List.mem_of_getElem? (gp_lt h)
theorem mem_ed2 {l : List Pt} {k : Nat} (h : k < l.length) : ed2 l k ∈ l := List.mem_of_getElem? (gp_lt (Nat.mod_lt _ (by omega)))

set_option maxRecDepth 100000 in
set_option maxHeartbeats 4000000 in
theorem where_any (l : List Pt) (s : Pt) (n c b o : Nat) (w : World) (hn : l.length = n) (hn2 : n ≤ 1000) (hl : ∀ x ∈ l, SpB x) (hs : SpB s) (hc : Cells w b o (recs ptC l)) (hb : b < w.heap.size) :
    Calls Tryz.prog 78 #[.slice (some ⟨b, o, none⟩) n c, ptV s] w fun e w' => e = .returned (.int .i64 (whI l s)) ∧ Below w.heap.size w w' := by
  have HL := Lib.hid hl
  have HSB := Lib.hid hs
  have HC := Lib.hid hc
  have HN := Lib.hid hn
  have HW := Lib.hid (show whI l s = if anyN (fun k => onB (ed1 l k) (ed2 l k) s) n then 1 else if parN l s n then 2 else 0 by rw [← hn]; rfl)
  have hr1 : ∀ (args : Array Value) (V : World), (callFunc 120 args).run Tryz.prog V = .ok (.enter 120 args) V := fun args V => call_enter Tryz.func120 (by kernel_rfl) (by kernel_rfl) args V
  have hr2 : ∀ (args : Array Value) (V : World), (callFunc 121 args).run Tryz.prog V = .ok (.enter 121 args) V := fun args V => call_enter Tryz.func121 (by kernel_rfl) (by kernel_rfl) args V
  have HE1 := Lib.hid (fun (W : World) (q : Nat) (hW : Below w.heap.size w W) (q0 : W.heap[q]? = some (.cells #[.int .i64 s.1, .int .i64 s.2] 37 (0, 0))) =>
    edges_any 120 #[.pointer (some ⟨q, 0, none⟩)] l n c b o 0 none (fun k => onB (ed1 l k) (ed2 l k) s) (fun _ V => Below W.heap.size W V) W hn hn2 hr1 (fun g hg => by cases hg)
      (Below.refl _ _) (fun k V V' h1 h2 => h1.trans (h2.mono h1.size)) (fun k V h => ⟨hc.keep ((hW.trans (h.mono hW.size)).block b hb), by have := hW.size; have := h.size; omega, Nat.zero_le _⟩)
      (fun k V hk h => by
        have hq := (h.block q (Array.getElem?_eq_some_iff.1 q0).1).trans q0
        exact (w1_any (ed1 l k) (ed2 l k) s q V (hl _ (mem_ed1 (by omega))) (hl _ (mem_ed2 (by omega))) hs (cell_of_blk (j := 0) hq rfl) (cell_of_blk (j := 1) hq rfl)).mono (fun e w' h' => ⟨h'.1, bel_grown h'.2 _, h.trans (h'.2.mono h.size)⟩)))
  have HE2 := Lib.hid (fun (W : World) (q p : Nat) (hqp : q < p) (hW : Below w.heap.size w W) (hwp : w.heap.size ≤ q) (q0 : W.heap[q]? = some (.cells #[.int .i64 s.1, .int .i64 s.2] 37 (0, 0))) (p0 : W.heap[p]? = some (.cells #[.bool false] 4 (0, 0))) =>
    edges_any 121 #[.pointer (some ⟨q, 0, none⟩), .pointer (some ⟨p, 0, none⟩)] l n c b o W.heap.size (some p) (fun _ => false) (fun k V => W.grownBy V (some p) ∧ V.heap[p]? = some (.cells #[.bool (parN l s k)] 4 (0, 0))) W hn hn2 hr2 (fun g hg => by injection hg with hg; rw [← hg]; exact (Array.getElem?_eq_some_iff.1 p0).1)
      ⟨grown_refl _ _, p0⟩ (fun k V V' h1 h2 => ⟨grown_belF h1.1 h2, (h2.block p (Array.getElem?_eq_some_iff.1 h1.2).1).trans h1.2⟩)
      (fun k V h => ⟨hc.keep ((h.1.block b (by have := hW.size; omega) (fun e => by injection e with e; omega)).trans (hW.block b hb)), by have := hW.size; have := h.1.size; omega, h.1.size⟩)
      (fun k V hk h => by
        have hq := (h.1.block q (Array.getElem?_eq_some_iff.1 q0).1 (fun e => by injection e with e; omega)).trans q0
        exact (w2_any (ed1 l k) (ed2 l k) s q p (parN l s k) V (hl _ (mem_ed1 (by omega))) (hl _ (mem_ed2 (by omega))) hs (cell_of_blk (j := 0) hq rfl) (cell_of_blk (j := 1) hq rfl) h.2).mono (fun e w' h' => ⟨h'.1, h'.2.1, gr_trF h.1 h'.2.1, h'.2.2⟩)))
  clear hl hs hc hr1 hr2
  obtain ⟨r, er⟩ : ∃ r, r = whI l s := ⟨_, rfl⟩
  rw [← er] at HW ⊢
  obtain ⟨any, eany⟩ : ∃ r, r = anyN (fun k => onB (ed1 l k) (ed2 l k) s) n := ⟨_, rfl⟩
  rw [← eany] at HW HE1
  obtain ⟨pr, epr⟩ : ∃ r, r = parN l s n := ⟨_, rfl⟩
  rw [← epr] at HW
  have HPR := Lib.hid epr
  obtain ⟨sx, sy⟩ := s
  unfold ptV
  simp only at HE1 HE2 ⊢
  clear er eany epr
  go_enter Tryz.func78, Tryz.ntmps78
  go_upto_region 1 with (fail)
  generalize hW : w.alloc (.cells #[.int .i64 sx, .int .i64 sy] 37) = W
  have hWs : W.heap.size = w.heap.size + 1 := by rw [← hW]; simp
  have hBW : Below w.heap.size w W := by rw [← hW]; exact (Below.refl _ _).alloc (Nat.le_refl _) _
  have hq : W.heap[w.heap.size]? = some (.cells #[.int .i64 sx, .int .i64 sy] 37 (0, 0)) := by rw [← hW]; exact heap_new w _
  have HC1 := Lib.hid (HE1.out W w.heap.size hBW hq)
  have HQ := Lib.hid hq
  have HBW := Lib.hid hBW
  clear hW hBW hq HE1
  go_wp2_with (fail)
  refine HC1.out.mono ?_
  rintro e w1 ⟨rfl, k1, hk1, hb1, _⟩
  have hB1 := HBW.out.trans (hb1.mono (by omega))
  have hq1 := (hb1.block w.heap.size (by omega)).trans HQ.out
  have hs1 := hb1.size
  have HB1 := Lib.hid hB1
  cases any with
  | true =>
    clear hb1 hB1 hq1
    go_wp2_with (fail)
    go_ret
    exact ⟨ret_int (by rw [HW.out]; rfl), HB1.out⟩
  | false =>
    have HQ1 := Lib.hid hq1
    clear hb1 hB1 hq1
    go_upto_region 4 with (fail)
    generalize hV : w1.alloc (.cells #[.bool false] 4) = V
    have hVs : V.heap.size = w1.heap.size + 1 := by rw [← hV]; simp
    have hBV : Below w1.heap.size w1 V := by rw [← hV]; exact (Below.refl _ _).alloc (Nat.le_refl _) _
    have hp : V.heap[w1.heap.size]? = some (.cells #[.bool false] 4 (0, 0)) := by rw [← hV]; exact heap_new w1 _
    have hBWV := HB1.out.trans (hBV.mono HB1.out.size)
    have hqV := (hBV.block w.heap.size (by omega)).trans HQ1.out
    have HC2 := Lib.hid (HE2.out V w.heap.size w1.heap.size (by omega) hBWV (Nat.le_refl _) hqV hp)
    have HBV := Lib.hid hBWV
    clear hV hBV hp hBWV hqV
    go_wp2_with (fail)
    refine HC2.out.mono ?_
    rintro e w2 ⟨he, k2, hk2, ⟨hg2, hp2⟩, hst⟩
    have hno : anyN (fun _ => false) n = false := by
      rw [Bool.eq_false_iff]; intro h; obtain ⟨k, _, hk⟩ := (anyN_iff _ _).1 h; cases hk
    rw [hno] at he
    subst he
    rw [hst hno, ← HPR.out] at hp2
    have p0 := cell_of_blk (j := 0) hp2 rfl
    have HB2 := Lib.hid (HBV.out.grown hg2 (by have := HBV.out.size; omega) (fun g hg => by injection hg with hg; omega))
    clear hg2 hp2 hst
    cases pr with
    | true =>
      go_wp2_with (fail)
      go_ret
      exact ⟨ret_int (by rw [HW.out]; rfl), HB2.out⟩
    | false =>
      go_wp2_with (fail)
      go_ret
      exact ⟨ret_int (by rw [HW.out]; rfl), HB2.out⟩
end Go.Proofs.YthplhibdapjjgaaGreatDoor
