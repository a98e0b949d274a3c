/- Fences: place.side, on, meets by their contracts. -/
import Derived.Test.YthplhibdapjjgaaGreatDoorTpC
import Derived.Test.YthplhibdapjjgaaGreatDoorMgC
namespace Go.Proofs.YthplhibdapjjgaaGreatDoor
open Go.RowKit

theorem ret_boolB {a b : Bool} (h : a = b) : Ending.returned (.bool a) = Ending.returned (.bool b) := by rw [h]
/-- A spot of the plane, or a corner of a cell. -/
structure SpB (s : Pt) : Prop where
  x0 : -20000 ≤ s.1
  x1 : s.1 ≤ 20000
  y0 : -20000 ≤ s.2
  y1 : s.2 ≤ 20000
/-- A spot as the program takes it. -/
structure SpN (s : Pt) : Prop where
  x0 : -10000 ≤ s.1
  x1 : s.1 ≤ 10000
  y0 : -10000 ≤ s.2
  y1 : s.2 ≤ 10000
theorem SpN.wide {s : Pt} (h : SpN s) : SpB s := by
  have := h.x0; have := h.x1; have := h.y0; have := h.y1
  exact ⟨by omega, by omega, by omega, by omega⟩
def ptV (s : Pt) : Value := .agg #[.int .i64 s.1, .int .i64 s.2]
def ptC (s : Pt) : List Value := [.int .i64 s.1, .int .i64 s.2]
theorem ptC_len (s : Pt) : (ptC s).length = 2 := rfl
theorem ptC_one (s : Pt) : ∀ u ∈ ptC s, u.oneCell' = true := by
  intro u hu
  simp only [ptC, List.mem_cons, List.not_mem_nil, or_false] at hu
  rcases hu with rfl | rfl <;> rfl
instance decOnW (a b s : Pt) : Decidable (OnW a b s) := by unfold OnW; infer_instance
instance decOpp (x y : Int) : Decidable (opp x y) := by unfold opp; infer_instance
instance decMeets (a b c d : Pt) : Decidable (Meets a b c d) := by unfold Meets; infer_instance
def onB (a b s : Pt) : Bool := decide (OnW a b s)
def meB (a b c d : Pt) : Bool := decide (Meets a b c d)
theorem onB_iff {a b s : Pt} : onB a b s = true ↔ OnW a b s := decide_eq_true_iff
theorem meB_iff {a b c d : Pt} : meB a b c d = true ↔ Meets a b c d := decide_eq_true_iff
theorem sd_bound {a b s : Pt} (ha : SpB a) (hb : SpB b) (hs : SpB s) : -3200000000 ≤ sd a b s ∧ sd a b s ≤ 3200000000 := by
  have := ha.x0; have := ha.x1; have := ha.y0; have := ha.y1
  have := hb.x0; have := hb.x1; have := hb.y0; have := hb.y1
  have := hs.x0; have := hs.x1; have := hs.y0; have := hs.y1
  have p1 := prod_le (a := b.1 - a.1) (b := s.2 - a.2) (A := 40000) (B := 40000) (by omega) (by omega) (by omega) (by omega) (by omega) (by omega)
  have p2 := prod_le (a := b.2 - a.2) (b := s.1 - a.1) (A := 40000) (B := 40000) (by omega) (by omega) (by omega) (by omega) (by omega) (by omega)
  unfold sd
  omega

set_option maxHeartbeats 2000000 in
theorem sidePt_any (a b s : Pt) (w : World) (ha : SpB a) (hb : SpB b) (hs : SpB s) :
    Calls Tryz.prog 67 #[ptV a, ptV b, ptV s] w fun e w' => e = .returned (.int .i64 (sd a b s)) ∧ Below w.heap.size w w' := by
  obtain ⟨ax, ay⟩ := a
  obtain ⟨bx, by_⟩ := b
  obtain ⟨sx, sy⟩ := s
  have a1 := ha.x0; have a2 := ha.x1; have a3 := ha.y0; have a4 := ha.y1
  have b1 := hb.x0; have b2 := hb.x1; have b3 := hb.y0; have b4 := hb.y1
  have s1 := hs.x0; have s2 := hs.x1; have s3 := hs.y0; have s4 := hs.y1
  unfold ptV
  simp only at a1 a2 a3 a4 b1 b2 b3 b4 s1 s2 s3 s4 ⊢
  have w1 : IntKind.i64.wrap (bx - ax) = bx - ax := by rw [IntKind.wrap_i64]; omega
  have w2 : IntKind.i64.wrap (sy - ay) = sy - ay := by rw [IntKind.wrap_i64]; omega
  have w3 : IntKind.i64.wrap (by_ - ay) = by_ - ay := by rw [IntKind.wrap_i64]; omega
  have w4 : IntKind.i64.wrap (sx - ax) = sx - ax := by rw [IntKind.wrap_i64]; omega
  have p1 := prod_le (a := bx - ax) (b := sy - ay) (A := 40000) (B := 40000) (by omega) (by omega) (by omega) (by omega) (by omega) (by omega)
  have p2 := prod_le (a := by_ - ay) (b := sx - ax) (A := 40000) (B := 40000) (by omega) (by omega) (by omega) (by omega) (by omega) (by omega)
  obtain ⟨u, eu⟩ : ∃ u, u = (bx - ax) * (sy - ay) := ⟨_, rfl⟩
  obtain ⟨v, ev⟩ : ∃ v, v = (by_ - ay) * (sx - ax) := ⟨_, rfl⟩
  rw [← eu] at p1
  rw [← ev] at p2
  have w5 : IntKind.i64.wrap ((bx - ax) * (sy - ay)) = u := by rw [← eu, IntKind.wrap_i64]; omega
  have w6 : IntKind.i64.wrap ((by_ - ay) * (sx - ax)) = v := by rw [← ev, IntKind.wrap_i64]; omega
  have w7 : IntKind.i64.wrap (u - v) = u - v := by rw [IntKind.wrap_i64]; omega
  have HE := Lib.hid (show sd (ax, ay) (bx, by_) (sx, sy) = u - v by unfold sd; rw [eu, ev])
  rw [HE.out]
  clear eu ev ha hb hs
  go_enter Tryz.func67, Tryz.ntmps67
  go_wp2_with (fail)
  go_ret
  exact ⟨rfl, (((Below.refl _ _).alloc (Nat.le_refl _) _).alloc (by simp) _).alloc (by simp; omega) _⟩

/-- Three spots in blocks of their own. -/
def bx3 (V : World) (g : Nat) (a b s : Pt) : Prop :=
  V.cell? ⟨g, 0, none⟩ = some (.int .i64 a.1) ∧ V.cell? ⟨g, 1, none⟩ = some (.int .i64 a.2) ∧ V.cell? ⟨g + 1, 0, none⟩ = some (.int .i64 b.1) ∧ V.cell? ⟨g + 1, 1, none⟩ = some (.int .i64 b.2) ∧ V.cell? ⟨g + 1 + 1, 0, none⟩ = some (.int .i64 s.1) ∧ V.cell? ⟨g + 1 + 1, 1, none⟩ = some (.int .i64 s.2)
theorem bx3.keep {V V' : World} {g : Nat} {a b s : Pt} (h : bx3 V g a b s) (hg : g + 1 + 1 < V.heap.size) (k : Below V.heap.size V V') : bx3 V' g a b s := by
  obtain ⟨h0, h1, h2, h3, h4, h5⟩ := h
  exact ⟨(k.cell (p := ⟨g, 0, none⟩) (by show g < _; omega)).trans h0, (k.cell (p := ⟨g, 1, none⟩) (by show g < _; omega)).trans h1, (k.cell (p := ⟨g + 1, 0, none⟩) (by show g + 1 < _; omega)).trans h2, (k.cell (p := ⟨g + 1, 1, none⟩) (by show g + 1 < _; omega)).trans h3, (k.cell (p := ⟨g + 1 + 1, 0, none⟩) hg).trans h4, (k.cell (p := ⟨g + 1 + 1, 1, none⟩) hg).trans h5⟩
theorem bx3.new (w : World) (a b s : Pt) :
    bx3 (((w.alloc (.cells #[.int .i64 a.1, .int .i64 a.2] 37)).alloc (.cells #[.int .i64 b.1, .int .i64 b.2] 37)).alloc (.cells #[.int .i64 s.1, .int .i64 s.2] 37)) w.heap.size a b s := by
  have h0 : (((w.alloc (.cells #[.int .i64 a.1, .int .i64 a.2] 37)).alloc (.cells #[.int .i64 b.1, .int .i64 b.2] 37)).alloc (.cells #[.int .i64 s.1, .int .i64 s.2] 37)).heap[w.heap.size]? = some (.cells #[.int .i64 a.1, .int .i64 a.2] 37 (0, 0)) := by
    rw [Below.heap_alloc _ _ _ (by simp; omega), Below.heap_alloc _ _ _ (by simp)]; exact heap_new w _
  have h1 : (((w.alloc (.cells #[.int .i64 a.1, .int .i64 a.2] 37)).alloc (.cells #[.int .i64 b.1, .int .i64 b.2] 37)).alloc (.cells #[.int .i64 s.1, .int .i64 s.2] 37)).heap[w.heap.size + 1]? = some (.cells #[.int .i64 b.1, .int .i64 b.2] 37 (0, 0)) := by
    rw [Below.heap_alloc _ _ _ (by simp)]
    have := heap_new (w.alloc (.cells #[.int .i64 a.1, .int .i64 a.2] 37)) (.cells #[.int .i64 b.1, .int .i64 b.2] 37)
    simpa using this
  have h2 : (((w.alloc (.cells #[.int .i64 a.1, .int .i64 a.2] 37)).alloc (.cells #[.int .i64 b.1, .int .i64 b.2] 37)).alloc (.cells #[.int .i64 s.1, .int .i64 s.2] 37)).heap[w.heap.size + 1 + 1]? = some (.cells #[.int .i64 s.1, .int .i64 s.2] 37 (0, 0)) := by
    have := heap_new ((w.alloc (.cells #[.int .i64 a.1, .int .i64 a.2] 37)).alloc (.cells #[.int .i64 b.1, .int .i64 b.2] 37)) (.cells #[.int .i64 s.1, .int .i64 s.2] 37)
    simpa using this
  exact ⟨cell_of_blk (j := 0) h0 rfl, cell_of_blk (j := 1) h0 rfl, cell_of_blk (j := 0) h1 rfl, cell_of_blk (j := 1) h1 rfl, cell_of_blk (j := 0) h2 rfl, cell_of_blk (j := 1) h2 rfl⟩
theorem below3 (w : World) (o p q : Obj) : Below w.heap.size w (((w.alloc o).alloc p).alloc q) := (((Below.refl _ _).alloc (Nat.le_refl _) _).alloc (by simp) _).alloc (by simp; omega) _

set_option maxRecDepth 100000 in
set_option maxHeartbeats 4000000 in
theorem on_any (a b s : Pt) (w : World) (ha : SpB a) (hb : SpB b) (hs : SpB s) :
    Calls Tryz.prog 119 #[ptV a, ptV b, ptV s] w fun e w' => e = .returned (.bool (onB a b s)) ∧ Below w.heap.size w w' := by
  have HSD := Lib.hid (fun V => sidePt_any a b s V ha hb hs)
  obtain ⟨r, er⟩ : ∃ r, r = onB a b s := ⟨_, rfl⟩
  have HR := Lib.hid (show r = decide (sd a b s = 0 ∧ min a.1 b.1 ≤ s.1 ∧ s.1 ≤ max a.1 b.1 ∧ min a.2 b.2 ≤ s.2 ∧ s.2 ≤ max a.2 b.2) from er)
  rw [← er]
  have HBX := Lib.hid (bx3.new w a b s)
  have HBW := Lib.hid (below3 w (.cells #[.int .i64 a.1, .int .i64 a.2] 37) (.cells #[.int .i64 b.1, .int .i64 b.2] 37) (.cells #[.int .i64 s.1, .int .i64 s.2] 37))
  obtain ⟨ax, ay⟩ := a
  obtain ⟨bx, by_⟩ := b
  obtain ⟨sx, sy⟩ := s
  obtain ⟨u, eu⟩ : ∃ u, u = sd (ax, ay) (bx, by_) (sx, sy) := ⟨_, rfl⟩
  rw [← eu] at HSD HR
  unfold ptV at HSD ⊢
  simp only at HSD HR HBX HBW ⊢
  clear eu er ha hb hs
  go_enter Tryz.func119, Tryz.ntmps119
  go_wp2_with (fail)
  generalize hW : ((w.alloc (.cells #[.int .i64 ax, .int .i64 ay] 37)).alloc (.cells #[.int .i64 bx, .int .i64 by_] 37)).alloc (.cells #[.int .i64 sx, .int .i64 sy] 37) = W
  have hWs : W.heap.size = w.heap.size + 1 + 1 + 1 := by rw [← hW]; simp
  rw [hW] at HBX HBW
  clear hW
  refine (HSD.out W).mono ?_
  rintro e w1 ⟨rfl, hb1⟩
  obtain ⟨c0, c1, c2, c3, c4, c5⟩ := HBX.out.keep (by omega) hb1
  have HB1 := Lib.hid (HBW.out.trans (hb1.mono (by omega)))
  clear hb1 HSD
  go_wp2_with (fail)
  all_goals
    go_ret
    refine ⟨ret_boolB ?_, HB1.out⟩
    rw [HR.out]
    first
      | (symm; rw [decide_eq_false_iff_not]; omega)
      | (symm; rw [decide_eq_true_iff]; omega)
      | (rw [decide_eq_decide]; omega)

/-- Four spots in blocks of their own. -/
def bx4 (V : World) (g : Nat) (a b c d : Pt) : Prop :=
  V.cell? ⟨g, 0, none⟩ = some (.int .i64 a.1) ∧ V.cell? ⟨g, 1, none⟩ = some (.int .i64 a.2) ∧ V.cell? ⟨g + 1, 0, none⟩ = some (.int .i64 b.1) ∧ V.cell? ⟨g + 1, 1, none⟩ = some (.int .i64 b.2) ∧ V.cell? ⟨g + 1 + 1, 0, none⟩ = some (.int .i64 c.1) ∧ V.cell? ⟨g + 1 + 1, 1, none⟩ = some (.int .i64 c.2) ∧ V.cell? ⟨g + 1 + 1 + 1, 0, none⟩ = some (.int .i64 d.1) ∧ V.cell? ⟨g + 1 + 1 + 1, 1, none⟩ = some (.int .i64 d.2)
theorem bx4.keep {V V' : World} {g : Nat} {a b c d : Pt} (h : bx4 V g a b c d) (hg : g + 1 + 1 + 1 < V.heap.size) (k : Below V.heap.size V V') : bx4 V' g a b c d := by
  obtain ⟨h0, h1, h2, h3, h4, h5, h6, h7⟩ := h
  exact ⟨(k.cell (p := ⟨g, 0, none⟩) (by show g < _; omega)).trans h0, (k.cell (p := ⟨g, 1, none⟩) (by show g < _; omega)).trans h1, (k.cell (p := ⟨g + 1, 0, none⟩) (by show g + 1 < _; omega)).trans h2, (k.cell (p := ⟨g + 1, 1, none⟩) (by show g + 1 < _; omega)).trans h3, (k.cell (p := ⟨g + 1 + 1, 0, none⟩) (by show g + 1 + 1 < _; omega)).trans h4, (k.cell (p := ⟨g + 1 + 1, 1, none⟩) (by show g + 1 + 1 < _; omega)).trans h5, (k.cell (p := ⟨g + 1 + 1 + 1, 0, none⟩) hg).trans h6, (k.cell (p := ⟨g + 1 + 1 + 1, 1, none⟩) hg).trans h7⟩
theorem bx4.new (w : World) (a b c d : Pt) :
    bx4 ((((w.alloc (.cells #[.int .i64 a.1, .int .i64 a.2] 37)).alloc (.cells #[.int .i64 b.1, .int .i64 b.2] 37)).alloc (.cells #[.int .i64 c.1, .int .i64 c.2] 37)).alloc (.cells #[.int .i64 d.1, .int .i64 d.2] 37)) w.heap.size a b c d := by
  have h := bx3.new w a b c
  have hk := (Below.refl (((w.alloc (.cells #[.int .i64 a.1, .int .i64 a.2] 37)).alloc (.cells #[.int .i64 b.1, .int .i64 b.2] 37)).alloc (.cells #[.int .i64 c.1, .int .i64 c.2] 37)).heap.size _).alloc (Nat.le_refl _) (.cells #[.int .i64 d.1, .int .i64 d.2] 37)
  obtain ⟨h0, h1, h2, h3, h4, h5⟩ := h.keep (by simp) hk
  have hd := heap_new (((w.alloc (.cells #[.int .i64 a.1, .int .i64 a.2] 37)).alloc (.cells #[.int .i64 b.1, .int .i64 b.2] 37)).alloc (.cells #[.int .i64 c.1, .int .i64 c.2] 37)) (.cells #[.int .i64 d.1, .int .i64 d.2] 37)
  have hd' : ((((w.alloc (.cells #[.int .i64 a.1, .int .i64 a.2] 37)).alloc (.cells #[.int .i64 b.1, .int .i64 b.2] 37)).alloc (.cells #[.int .i64 c.1, .int .i64 c.2] 37)).alloc (.cells #[.int .i64 d.1, .int .i64 d.2] 37)).heap[w.heap.size + 1 + 1 + 1]? = some (.cells #[.int .i64 d.1, .int .i64 d.2] 37 (0, 0)) := by simpa using hd
  exact ⟨h0, h1, h2, h3, h4, h5, cell_of_blk (j := 0) hd' rfl, cell_of_blk (j := 1) hd' rfl⟩
theorem below4 (w : World) (o p q r : Obj) : Below w.heap.size w ((((w.alloc o).alloc p).alloc q).alloc r) := (below3 w o p q).alloc (by simp; omega) r
theorem cmp_opp {x y : Int} : cmpI x 0 * cmpI y 0 < 0 ↔ opp x y := by
  unfold cmpI opp
  split
  · split
    · simp; omega
    · split
      · simp; omega
      · simp; omega
  · split
    · split
      · simp; omega
      · split
        · simp; omega
        · simp; omega
    · simp; omega
theorem cmp_rng (x : Int) : -1 ≤ cmpI x 0 ∧ cmpI x 0 ≤ 1 := by
  unfold cmpI
  split
  · omega
  · split <;> omega

set_option maxRecDepth 100000 in
set_option maxHeartbeats 8000000 in
theorem meets_any (a b c d : Pt) (w : World) (ha : SpB a) (hb : SpB b) (hc : SpB c) (hd : SpB d) :
    Calls Tryz.prog 82 #[ptV a, ptV b, ptV c, ptV d] w fun e w' => e = .returned (.bool (meB a b c d)) ∧ Below w.heap.size w w' := by
  have HO1 := Lib.hid (fun V => on_any a b c V ha hb hc)
  have HO2 := Lib.hid (fun V => on_any a b d V ha hb hd)
  have HO3 := Lib.hid (fun V => on_any c d a V hc hd ha)
  have HO4 := Lib.hid (fun V => on_any c d b V hc hd hb)
  have HS1 := Lib.hid (fun V => sidePt_any a b c V ha hb hc)
  have HS2 := Lib.hid (fun V => sidePt_any a b d V ha hb hd)
  have HS3 := Lib.hid (fun V => sidePt_any c d a V hc hd ha)
  have HS4 := Lib.hid (fun V => sidePt_any c d b V hc hd hb)
  obtain ⟨r, er⟩ : ∃ r, r = meB a b c d := ⟨_, rfl⟩
  obtain ⟨r1, e1⟩ : ∃ r, r = onB a b c := ⟨_, rfl⟩
  obtain ⟨r2, e2⟩ : ∃ r, r = onB a b d := ⟨_, rfl⟩
  obtain ⟨r3, e3⟩ : ∃ r, r = onB c d a := ⟨_, rfl⟩
  obtain ⟨r4, e4⟩ : ∃ r, r = onB c d b := ⟨_, rfl⟩
  obtain ⟨p, ep⟩ : ∃ p, p = sd a b c := ⟨_, rfl⟩
  obtain ⟨q, eq⟩ : ∃ p, p = sd a b d := ⟨_, rfl⟩
  obtain ⟨s, es⟩ : ∃ p, p = sd c d a := ⟨_, rfl⟩
  obtain ⟨t, et⟩ : ∃ p, p = sd c d b := ⟨_, rfl⟩
  have HR := Lib.hid (show r = (r1 || r2 || r3 || r4 || decide (opp p q ∧ opp s t)) by
    rw [er, e1, e2, e3, e4, ep, eq, es, et, Bool.eq_iff_iff]
    simp only [Bool.or_eq_true, meB_iff, onB_iff, decide_eq_true_eq]
    unfold Meets
    constructor
    · rintro (h | h | h | h | h)
      · exact .inl (.inl (.inl (.inl h)))
      · exact .inl (.inl (.inl (.inr h)))
      · exact .inl (.inl (.inr h))
      · exact .inl (.inr h)
      · exact .inr h
    · rintro ((((h | h) | h) | h) | h)
      · exact .inl h
      · exact .inr (.inl h)
      · exact .inr (.inr (.inl h))
      · exact .inr (.inr (.inr (.inl h)))
      · exact .inr (.inr (.inr (.inr h))))
  rw [← er]
  rw [← e1] at HO1; rw [← e2] at HO2; rw [← e3] at HO3; rw [← e4] at HO4
  rw [← ep] at HS1; rw [← eq] at HS2; rw [← es] at HS3; rw [← et] at HS4
  have HBX := Lib.hid (bx4.new w a b c d)
  have HBW := Lib.hid (below4 w (.cells #[.int .i64 a.1, .int .i64 a.2] 37) (.cells #[.int .i64 b.1, .int .i64 b.2] 37) (.cells #[.int .i64 c.1, .int .i64 c.2] 37) (.cells #[.int .i64 d.1, .int .i64 d.2] 37))
  clear er e1 e2 e3 e4 ep eq es et ha hb hc hd
  obtain ⟨ax, ay⟩ := a
  obtain ⟨bx, by_⟩ := b
  obtain ⟨cx, cy⟩ := c
  obtain ⟨dx, dy⟩ := d
  unfold ptV at HO1 HO2 HO3 HO4 HS1 HS2 HS3 HS4 ⊢
  simp only at HO1 HO2 HO3 HO4 HS1 HS2 HS3 HS4 HBX HBW ⊢
  go_enter Tryz.func82, Tryz.ntmps82
  go_wp2_with (fail)
  generalize hW : (((w.alloc (.cells #[.int .i64 ax, .int .i64 ay] 37)).alloc (.cells #[.int .i64 bx, .int .i64 by_] 37)).alloc (.cells #[.int .i64 cx, .int .i64 cy] 37)).alloc (.cells #[.int .i64 dx, .int .i64 dy] 37) = W
  have hWs : W.heap.size = w.heap.size + 1 + 1 + 1 + 1 := by rw [← hW]; simp
  rw [hW] at HBX HBW
  clear hW
  refine (HO1.out W).mono ?_
  rintro e w1 ⟨rfl, hb1⟩
  obtain ⟨c0, c1, c2, c3, c4, c5, c6, c7⟩ := HBX.out.keep (by omega) hb1
  have HB1 := Lib.hid hb1
  have hs1 := hb1.size
  clear hb1
  cases r1 with
  | true =>
    go_wp2_with (fail)
    go_ret
    exact ⟨ret_boolB (by rw [HR.out]; rfl), HBW.out.trans (HB1.out.mono (by omega))⟩
  | false =>
    go_wp2_with (fail)
    refine (HO2.out w1).mono ?_
    rintro e w2 ⟨rfl, hb2⟩
    have HB2 := Lib.hid (HB1.out.trans (hb2.mono hs1))
    clear hb2 c0 c1 c2 c3 c4 c5 c6 c7
    obtain ⟨c0, c1, c2, c3, c4, c5, c6, c7⟩ := HBX.out.keep (by omega) HB2.out
    have hs2 := HB2.out.size
    cases r2 with
    | true =>
      go_wp2_with (fail)
      go_ret
      exact ⟨ret_boolB (by rw [HR.out]; rfl), HBW.out.trans (HB2.out.mono (by omega))⟩
    | false =>
      go_wp2_with (fail)
      refine (HO3.out w2).mono ?_
      rintro e w3 ⟨rfl, hb3⟩
      have HB3 := Lib.hid (HB2.out.trans (hb3.mono hs2))
      clear hb3 c0 c1 c2 c3 c4 c5 c6 c7
      obtain ⟨c0, c1, c2, c3, c4, c5, c6, c7⟩ := HBX.out.keep (by omega) HB3.out
      have hs3 := HB3.out.size
      cases r3 with
      | true =>
        go_wp2_with (fail)
        go_ret
        exact ⟨ret_boolB (by rw [HR.out]; rfl), HBW.out.trans (HB3.out.mono (by omega))⟩
      | false =>
        go_wp2_with (fail)
        refine (HO4.out w3).mono ?_
        rintro e w4 ⟨rfl, hb4⟩
        have HB4 := Lib.hid (HB3.out.trans (hb4.mono hs3))
        clear hb4 c0 c1 c2 c3 c4 c5 c6 c7
        obtain ⟨c0, c1, c2, c3, c4, c5, c6, c7⟩ := HBX.out.keep (by omega) HB4.out
        have hs4 := HB4.out.size
        cases r4 with
        | true =>
          go_wp2_with (fail)
          go_ret
          exact ⟨ret_boolB (by rw [HR.out]; rfl), HBW.out.trans (HB4.out.mono (by omega))⟩
        | false =>
          have g1 := cmp_rng p
          have g2 := cmp_rng q
          have g3 := cmp_rng s
          have g4 := cmp_rng t
          have HOP1 := Lib.hid (cmp_opp (x := p) (y := q))
          have HOP2 := Lib.hid (cmp_opp (x := s) (y := t))
          have HC1 := Lib.hid (fun V => compare_any p 0 V)
          have HC2 := Lib.hid (fun V => compare_any q 0 V)
          have HC3 := Lib.hid (fun V => compare_any s 0 V)
          have HC4 := Lib.hid (fun V => compare_any t 0 V)
          obtain ⟨k1, ek1⟩ : ∃ k, k = cmpI p 0 := ⟨_, rfl⟩
          obtain ⟨k2, ek2⟩ : ∃ k, k = cmpI q 0 := ⟨_, rfl⟩
          obtain ⟨k3, ek3⟩ : ∃ k, k = cmpI s 0 := ⟨_, rfl⟩
          obtain ⟨k4, ek4⟩ : ∃ k, k = cmpI t 0 := ⟨_, rfl⟩
          rw [← ek1] at g1 HC1 HOP1
          rw [← ek2] at g2 HC2 HOP1
          rw [← ek3] at g3 HC3 HOP2
          rw [← ek4] at g4 HC4 HOP2
          have m1 := prod_le (a := k1) (b := k2) (A := 1) (B := 1) (by omega) (by omega) (by omega) (by omega) (by omega) (by omega)
          have m2 := prod_le (a := k3) (b := k4) (A := 1) (B := 1) (by omega) (by omega) (by omega) (by omega) (by omega) (by omega)
          have wm1 : IntKind.i64.wrap (k1 * k2) = k1 * k2 := by rw [IntKind.wrap_i64]; omega
          have wm2 : IntKind.i64.wrap (k3 * k4) = k3 * k4 := by rw [IntKind.wrap_i64]; omega
          have HKEEP := Lib.hid (fun (V : World) (hV : Below w4.heap.size w4 V) => HBX.out.keep (by omega) (HB4.out.trans (hV.mono hs4)))
          clear ek1 ek2 ek3 ek4
          go_upto_region 3 with (fail)
          have hB0 := (Below.refl w4.heap.size w4).drew
          go_region_held3 (fun V => V.cell? ⟨w.heap.size, 0, none⟩ = some (.int .i64 ax) ∧ V.cell? ⟨w.heap.size, 1, none⟩ = some (.int .i64 ay) ∧ V.cell? ⟨w.heap.size + 1, 0, none⟩ = some (.int .i64 bx) ∧ V.cell? ⟨w.heap.size + 1, 1, none⟩ = some (.int .i64 by_) ∧ V.cell? ⟨w.heap.size + 1 + 1, 0, none⟩ = some (.int .i64 cx) ∧ V.cell? ⟨w.heap.size + 1 + 1, 1, none⟩ = some (.int .i64 cy) ∧ V.cell? ⟨w.heap.size + 1 + 1 + 1, 0, none⟩ = some (.int .i64 dx) ∧ V.cell? ⟨w.heap.size + 1 + 1 + 1, 1, none⟩ = some (.int .i64 dy))
            (first | go_keep | (exact hS))
            (first
              | (go_at_call 66; have hq := hB4; refine (HC4.out _).mono ?_; rintro e wD ⟨rfl, rfl⟩; have hS := HKEEP.out _ hB4)
              | (go_at_call 67; have hq := hB3; refine (HS4.out _).mono ?_; rintro e wD ⟨rfl, hbD⟩; have hB4 := hB3.trans (hbD.mono hB3.size); have hS := HKEEP.out wD hB4)
              | (go_at_call 66; have hq := hB3; refine (HC3.out _).mono ?_; rintro e wD ⟨rfl, rfl⟩; have hS := HKEEP.out _ hB3)
              | (go_at_call 67; have hq := hB2; refine (HS3.out _).mono ?_; rintro e wC ⟨rfl, hbC⟩; have hB3 := hB2.trans (hbC.mono hB2.size); have hS := HKEEP.out wC hB3)
              | (go_at_call 66; have hq := hB2; refine (HC2.out _).mono ?_; rintro e wD ⟨rfl, rfl⟩; have hS := HKEEP.out _ hB2)
              | (go_at_call 67; have hq := hB1; refine (HS2.out _).mono ?_; rintro e wB ⟨rfl, hbB⟩; have hB2 := hB1.trans (hbB.mono hB1.size); have hS := HKEEP.out wB hB2)
              | (go_at_call 66; have hq := hB1; refine (HC1.out _).mono ?_; rintro e wD ⟨rfl, rfl⟩; have hS := HKEEP.out _ hB1)
              | (go_at_call 67; have hq := hB0; refine (HS1.out _).mono ?_; rintro e wA ⟨rfl, hbA⟩; have hB1 := hB0.trans hbA; have hS := HKEEP.out wA hB1))
          all_goals
            have HB9 := Lib.hid (HBW.out.trans ((HB4.out.trans (hB4.mono hs4)).mono (by omega)))
            by_cases o1 : k1 * k2 < 0
            · by_cases o2 : k3 * k4 < 0
              · go_wp2_with (fail)
                go_ret
                refine ⟨ret_boolB ?_, HB9.out⟩
                rw [HR.out, decide_eq_true (And.intro (HOP1.out.1 o1) (HOP2.out.1 o2))]
                simp
              · go_wp2_with (fail)
                go_ret
                refine ⟨ret_boolB ?_, HB9.out⟩
                rw [HR.out, decide_eq_false (fun h => by have := HOP2.out.2 h.2; omega)]
                simp
            · go_wp2_with (fail)
              go_ret
              refine ⟨ret_boolB ?_, HB9.out⟩
              rw [HR.out, decide_eq_false (fun h => by have := HOP1.out.2 h.1; omega)]
              rfl
end Go.Proofs.YthplhibdapjjgaaGreatDoor
