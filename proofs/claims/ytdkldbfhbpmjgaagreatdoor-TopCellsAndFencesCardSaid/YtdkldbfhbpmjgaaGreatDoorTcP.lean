/- TopCellsAndFences: the plain law. Two fences that touch have a cell in common; a crossing of two edges is a spot of the plane with a denominator, so the plane is stretched. -/
import Derived.Test.YtdkldbfhbpmjgaaGreatDoorClP
namespace Go.Proofs.YtdkldbfhbpmjgaaGreatDoor
open Go.RowKit

/-- The plane stretched. -/
def scl (D : Int) (p : Pt) : Pt := (D * p.1, D * p.2)
theorem sd_scl (D : Int) (a b s : Pt) : sd (scl D a) (scl D b) (scl D s) = D * D * sd a b s := by unfold sd scl; grind
theorem mul_le_iff {D a b : Int} (hD : 0 < D) : D * a ≤ D * b ↔ a ≤ b := ⟨fun h => Int.le_of_mul_le_mul_left h hD, fun h => Int.mul_le_mul_of_nonneg_left h (by omega)⟩
theorem mul_lt_iff {D a b : Int} (hD : 0 < D) : D * a < D * b ↔ a < b := ⟨fun h => Int.lt_of_mul_lt_mul_left h (by omega), fun h => Int.mul_lt_mul_of_pos_left h hD⟩
theorem mul_zero_iff {D a : Int} (hD : 0 < D) : D * a = 0 ↔ a = 0 := by
  constructor
  · intro h
    rcases Int.mul_eq_zero.1 h with h | h
    · omega
    · exact h
  · intro h; rw [h, Int.mul_zero]
theorem mul_min (D a b : Int) (hD : 0 < D) : min (D * a) (D * b) = D * min a b := by
  rcases Int.le_total a b with h | h
  · rw [Int.min_eq_left h, Int.min_eq_left ((mul_le_iff hD).2 h)]
  · rw [Int.min_eq_right h, Int.min_eq_right ((mul_le_iff hD).2 h)]
theorem mul_max (D a b : Int) (hD : 0 < D) : max (D * a) (D * b) = D * max a b := by
  rcases Int.le_total a b with h | h
  · rw [Int.max_eq_right h, Int.max_eq_right ((mul_le_iff hD).2 h)]
  · rw [Int.max_eq_left h, Int.max_eq_left ((mul_le_iff hD).2 h)]
theorem on_scl {D : Int} (hD : 0 < D) {a b s : Pt} : OnW (scl D a) (scl D b) (scl D s) ↔ OnW a b s := by
  have hDD : 0 < D * D := Int.mul_pos hD hD
  unfold OnW
  rw [sd_scl, mul_zero_iff hDD]
  unfold scl
  simp only [mul_min _ _ _ hD, mul_max _ _ _ hD, mul_le_iff hD]
theorem opp_scl {D x y : Int} (hD : 0 < D) : opp (D * x) (D * y) ↔ opp x y := by
  have e : (0 : Int) = D * 0 := by rw [Int.mul_zero]
  unfold opp
  constructor
  · rintro (⟨h1, h2⟩ | ⟨h1, h2⟩)
    · rw [e, mul_lt_iff hD] at h1 h2; exact .inl ⟨h1, h2⟩
    · rw [e, mul_lt_iff hD] at h1 h2; exact .inr ⟨h1, h2⟩
  · rintro (⟨h1, h2⟩ | ⟨h1, h2⟩)
    · exact .inl ⟨by rw [e, mul_lt_iff hD]; exact h1, by rw [e, mul_lt_iff hD]; exact h2⟩
    · exact .inr ⟨by rw [e, mul_lt_iff hD]; exact h1, by rw [e, mul_lt_iff hD]; exact h2⟩
theorem meets_scl {D : Int} (hD : 0 < D) {a b c d : Pt} : Meets (scl D a) (scl D b) (scl D c) (scl D d) ↔ Meets a b c d := by
  have hDD : 0 < D * D := Int.mul_pos hD hD
  unfold Meets
  simp only [on_scl hD, sd_scl, opp_scl hDD]
theorem crU_scl {D : Int} (hD : 0 < D) {c d s : Pt} : crU (scl D c) (scl D d) (scl D s) = crU c d s := by
  have hDD : 0 < D * D := Int.mul_pos hD hD
  unfold crU
  rw [sd_scl, decide_eq_decide]
  have e : (0 : Int) = D * D * 0 := by rw [Int.mul_zero]
  have h1 : (0 < D * D * sd c d s) ↔ 0 < sd c d s := by
    constructor
    · intro h; rw [e] at h; exact (mul_lt_iff hDD).1 h
    · intro h; rw [e]; exact (mul_lt_iff hDD).2 h
  rw [h1]
  unfold scl
  simp only [mul_le_iff hD, mul_lt_iff hD]
theorem cr_scl {D : Int} (hD : 0 < D) {c d s : Pt} : cr (scl D c) (scl D d) (scl D s) = cr c d s := by
  unfold cr
  have h : (scl D d).2 < (scl D c).2 ↔ d.2 < c.2 := by unfold scl; simp only [mul_lt_iff hD]
  by_cases hd : d.2 < c.2
  · rw [if_pos (h.2 hd), if_pos hd, crU_scl hD]
  · rw [if_neg (fun x => hd (h.1 x)), if_neg hd, crU_scl hD]
theorem gp_scl {D : Int} {l : List Pt} (i : Nat) (hi : i < l.length) : gp (l.map (scl D)) i = scl D (gp l i) := by
  unfold gp
  simp [List.getD, hi]
theorem ed1_scl {D : Int} {l : List Pt} (i : Nat) (hi : i < l.length) : ed1 (l.map (scl D)) i = scl D (ed1 l i) := gp_scl i hi
theorem ed2_scl {D : Int} {l : List Pt} (i : Nat) (hi : i < l.length) : ed2 (l.map (scl D)) i = scl D (ed2 l i) := by
  unfold ed2
  rw [List.length_map]
  exact gp_scl _ (Nat.mod_lt _ (by omega))
theorem inn_scl {D : Int} (hD : 0 < D) {l : List Pt} {s : Pt} : Inn (l.map (scl D)) (scl D s) ↔ Inn l s := by
  unfold Inn
  have hp : par (l.map (scl D)) (scl D s) = par l s := by
    unfold par parN
    rw [List.length_map]
    exact xsum_congr fun i hi => by rw [ed1_scl i hi, ed2_scl i hi, cr_scl hD]
  rw [hp, List.length_map]
  constructor
  · rintro (⟨i, hi, h⟩ | h)
    · rw [ed1_scl i hi, ed2_scl i hi, on_scl hD] at h
      exact .inl ⟨i, hi, h⟩
    · exact .inr h
  · rintro (⟨i, hi, h⟩ | h)
    · exact .inl ⟨i, hi, by rw [ed1_scl i hi, ed2_scl i hi, on_scl hD]; exact h⟩
    · exact .inr h
theorem boxL_scl (D x y L : Int) : (boxL x y L).map (scl D) = boxL (D * x) (D * y) (D * L) := by
  simp [boxL, scl, Int.mul_add]
/-- A spot with a denominator that is in a fence and in a box. -/
theorem frac_touch {l : List Pt} (hl : 0 < l.length) {D : Int} (hD : 0 < D) {P : Pt} (h : Inn (l.map (scl D)) P) {x y L : Int} (hL : 0 < L) (h1 : D * x ≤ P.1) (h2 : P.1 < D * (x + L)) (h3 : D * y ≤ P.2) (h4 : P.2 < D * (y + L)) : tcB l (boxL x y L) = true := by
  have hb : Inn ((boxL x y L).map (scl D)) P := by
    rw [boxL_scl]
    exact box_inn (Int.mul_pos hD hL) h1 (by rw [← Int.mul_add]; exact h2) h3 (by rw [← Int.mul_add]; exact h4)
  rw [tcB_iff]
  rcases inn_touch h hb with h | h | ⟨i, hi, j, hj, h⟩
  · rw [gp_scl 0 (by simp [boxL]), inn_scl hD] at h
    exact .inl h
  · rw [gp_scl 0 hl, inn_scl hD] at h
    exact .inr (.inl h)
  · rw [List.length_map] at hi hj
    rw [ed1_scl i hi, ed2_scl i hi, ed1_scl j hj, ed2_scl j hj, meets_scl hD] at h
    exact .inr (.inr ⟨i, hi, j, hj, h⟩)
theorem mix_le {a b v w : Int} (hv : 0 ≤ v) (hw : 0 ≤ w) : min ((v + w) * a) ((v + w) * b) ≤ a * v + b * w ∧ a * v + b * w ≤ max ((v + w) * a) ((v + w) * b) := by
  rcases Int.le_total a b with h | h
  · have h1 : a * w ≤ b * w := Int.mul_le_mul_of_nonneg_right h hw
    have h2 : a * v ≤ b * v := Int.mul_le_mul_of_nonneg_right h hv
    have e1 : (v + w) * a = a * v + a * w := by grind
    have e2 : (v + w) * b = b * v + b * w := by grind
    rw [e1, e2]; omega
  · have h1 : b * w ≤ a * w := Int.mul_le_mul_of_nonneg_right h hw
    have h2 : b * v ≤ a * v := Int.mul_le_mul_of_nonneg_right h hv
    have e1 : (v + w) * a = a * v + a * w := by grind
    have e2 : (v + w) * b = b * v + b * w := by grind
    rw [e1, e2]; omega
theorem on_mix {a b P : Pt} {v w D : Int} (hv : 0 ≤ v) (hw : 0 ≤ w) (hD : D = v + w) (h1 : P.1 = a.1 * v + b.1 * w) (h2 : P.2 = a.2 * v + b.2 * w) : OnW (scl D a) (scl D b) P := by
  subst hD
  have m1 := mix_le (a := a.1) (b := b.1) hv hw
  have m2 := mix_le (a := a.2) (b := b.2) hv hw
  refine ⟨?_, ?_, ?_, ?_, ?_⟩
  · unfold sd scl; simp only; rw [h1, h2]; grind
  · rw [h1]; exact m1.1
  · rw [h1]; exact m1.2
  · rw [h2]; exact m2.1
  · rw [h2]; exact m2.2
/-- Two edges that cross have a spot with a denominator in common. -/
theorem cross_pt {a b c d : Pt} (h1 : opp (sd a b c) (sd a b d)) (h2 : opp (sd c d a) (sd c d b)) : ∃ (D : Int) (P : Pt), 0 < D ∧ OnW (scl D a) (scl D b) P ∧ OnW (scl D c) (scl D d) P := by
  have key : ∀ {a b c d : Pt}, 0 < sd a b c → sd a b d < 0 → opp (sd c d a) (sd c d b) → ∃ (D : Int) (P : Pt), 0 < D ∧ OnW (scl D a) (scl D b) P ∧ OnW (scl D c) (scl D d) P := by
    intro a b c d hs ht hu
    have e : sd a b c - sd a b d = sd c d b - sd c d a := by unfold sd; grind
    have huv : sd c d a < 0 ∧ 0 < sd c d b := by unfold opp at hu; omega
    refine ⟨sd a b c - sd a b d, (d.1 * sd a b c - c.1 * sd a b d, d.2 * sd a b c - c.2 * sd a b d), by omega, ?_, ?_⟩
    · refine on_mix (v := sd c d b) (w := - sd c d a) (by omega) (by omega) (by omega) ?_ ?_
      · unfold sd; simp only; grind
      · unfold sd; simp only; grind
    · refine on_mix (v := - sd a b d) (w := sd a b c) (by omega) (by omega) (by omega) ?_ ?_
      · simp only; grind
      · simp only; grind
  rcases h1 with ⟨hs, ht⟩ | ⟨hs, ht⟩
  · obtain ⟨D, P, h3, h4, h5⟩ := key (a := a) (b := b) (c := d) (d := c) ht hs (by
      rw [sd_swap c d a, sd_swap c d b]
      exact opp_neg h2)
    exact ⟨D, P, h3, h4, h5.swap⟩
  · exact key hs ht h2
/-- The cell of a spot with a denominator. -/
theorem frac_cell {l : List Pt} (hl : 0 < l.length) {D : Int} (hD : 0 < D) {P : Pt} (h : Inn (l.map (scl D)) P) (b1 : D * (-16384) ≤ P.1) (b2 : P.1 < D * 16384) (b3 : D * (-16384) ≤ P.2) (b4 : P.2 < D * 16384) (n : Nat) (hn : n ≤ 15) :
    tcB l (bxL (cellD (P.1 / D, P.2 / D) n)) = true := by
  have f1 : D * (P.1 / D) ≤ P.1 := Int.mul_ediv_self_le (by omega)
  have f2 : P.1 < D * (P.1 / D) + D := Int.lt_mul_ediv_self_add hD
  have f3 : D * (P.2 / D) ≤ P.2 := Int.mul_ediv_self_le (by omega)
  have f4 : P.2 < D * (P.2 / D) + D := Int.lt_mul_ediv_self_add hD
  have g1 : -16384 ≤ P.1 / D := Int.le_ediv_of_mul_le hD (by rw [Int.mul_comm]; exact b1)
  have g2 : P.1 / D < 16384 := Int.ediv_lt_of_lt_mul hD (by rw [Int.mul_comm]; exact b2)
  have g3 : -16384 ≤ P.2 / D := Int.le_ediv_of_mul_le hD (by rw [Int.mul_comm]; exact b3)
  have g4 : P.2 / D < 16384 := Int.ediv_lt_of_lt_mul hD (by rw [Int.mul_comm]; exact b4)
  obtain ⟨c1, c2, c3, c4⟩ := cellD_in (P.1 / D, P.2 / D) g1 g2 g3 g4 n hn
  simp only at c1 c2 c3 c4
  have hp : 0 < (bxOf (cellD (P.1 / D, P.2 / D) n)).2.2 := by omega
  refine frac_touch hl hD h hp ?_ ?_ ?_ ?_
  · exact Int.le_trans (Int.mul_le_mul_of_nonneg_left c1 (by omega)) f1
  · have h5 := Int.mul_le_mul_of_nonneg_left (show P.1 / D + 1 ≤ (bxOf (cellD (P.1 / D, P.2 / D) n)).1 + (bxOf (cellD (P.1 / D, P.2 / D) n)).2.2 by omega) (show 0 ≤ D by omega)
    rw [Int.mul_add, Int.mul_one] at h5
    exact Int.lt_of_lt_of_le f2 h5
  · exact Int.le_trans (Int.mul_le_mul_of_nonneg_left c3 (by omega)) f3
  · have h5 := Int.mul_le_mul_of_nonneg_left (show P.2 / D + 1 ≤ (bxOf (cellD (P.1 / D, P.2 / D) n)).2.1 + (bxOf (cellD (P.1 / D, P.2 / D) n)).2.2 by omega) (show 0 ≤ D by omega)
    rw [Int.mul_add, Int.mul_one] at h5
    exact Int.lt_of_lt_of_le f4 h5
/-- Two fences within bounds that touch have a cell in common. -/
theorem common_cell {l m : List Pt} (hl : 0 < l.length) (hm : 0 < m.length) (bl : ∀ x ∈ l, SpN x) (bm : ∀ x ∈ m, SpN x) (h : tcB l m = true) : ∃ p : Pt, ∀ n, n ≤ 15 → tcB l (bxL (cellD p n)) = true ∧ tcB m (bxL (cellD p n)) = true := by
  have one : ∀ p : Pt, SpN p → Inn l p → Inn m p → ∃ p : Pt, ∀ n, n ≤ 15 → tcB l (bxL (cellD p n)) = true ∧ tcB m (bxL (cellD p n)) = true := by
    intro p hp h1 h2
    have := hp.x0; have := hp.x1; have := hp.y0; have := hp.y1
    exact ⟨p, fun n hn => ⟨cell_touch h1 (by omega) (by omega) (by omega) (by omega) n hn, cell_touch h2 (by omega) (by omega) (by omega) (by omega) n hn⟩⟩
  have gl : ∀ {l : List Pt}, (∀ x ∈ l, SpN x) → ∀ i, i < l.length → SpN (ed1 l i) ∧ SpN (ed2 l i) := fun h i hi => ⟨h _ (mem_ed1 hi), h _ (mem_ed2 hi)⟩
  have e1 : ∀ {l : List Pt} {i : Nat} {p : Pt}, i < l.length → OnW (ed1 l i) (ed2 l i) p → Inn l p := fun hi h => .inl ⟨_, hi, h⟩
  rcases tcB_iff.1 h with h | h | ⟨i, hi, j, hj, h⟩
  · exact one _ (gl bm 0 hm).1 h (e1 hm (on_start _ _))
  · exact one _ (gl bl 0 hl).1 (e1 hl (on_start _ _)) h
  · rcases h with h | h | h | h | ⟨h1, h2⟩
    · exact one _ (gl bm j hj).1 (e1 hi h) (e1 hj (on_start _ _))
    · exact one _ (gl bm j hj).2 (e1 hi h) (e1 hj (on_end _ _))
    · exact one _ (gl bl i hi).1 (e1 hi (on_start _ _)) (e1 hj h)
    · exact one _ (gl bl i hi).2 (e1 hi (on_end _ _)) (e1 hj h)
    · obtain ⟨D, P, hD, h3, h4⟩ := cross_pt h1 h2
      have k1 : Inn (l.map (scl D)) P := .inl ⟨i, by rw [List.length_map]; exact hi, by rw [ed1_scl i hi, ed2_scl i hi]; exact h3⟩
      have k2 : Inn (m.map (scl D)) P := .inl ⟨j, by rw [List.length_map]; exact hj, by rw [ed1_scl j hj, ed2_scl j hj]; exact h4⟩
      obtain ⟨a1, a2⟩ := gl bl i hi
      have x0 := a1.x0; have x1 := a1.x1; have y0 := a1.y0; have y1 := a1.y1
      have z0 := a2.x0; have z1 := a2.x1; have t0 := a2.y0; have t1 := a2.y1
      obtain ⟨_, m1, m2, m3, m4⟩ := h3
      unfold scl at m1 m2 m3 m4
      simp only [mul_min _ _ _ hD, mul_max _ _ _ hD] at m1 m2 m3 m4
      have L1 := (mul_le_iff hD).2 (show (-16384 : Int) ≤ min (ed1 l i).1 (ed2 l i).1 by omega)
      have L2 := (mul_lt_iff hD).2 (show max (ed1 l i).1 (ed2 l i).1 < (16384 : Int) by omega)
      have L3 := (mul_le_iff hD).2 (show (-16384 : Int) ≤ min (ed1 l i).2 (ed2 l i).2 by omega)
      have L4 := (mul_lt_iff hD).2 (show max (ed1 l i).2 (ed2 l i).2 < (16384 : Int) by omega)
      refine ⟨(P.1 / D, P.2 / D), fun n hn => ⟨frac_cell hl hD k1 (Int.le_trans L1 m1) (Int.lt_of_le_of_lt m2 L2) (Int.le_trans L3 m3) (Int.lt_of_le_of_lt m4 L4) n hn, frac_cell hm hD k2 (Int.le_trans L1 m1) (Int.lt_of_le_of_lt m2 L2) (Int.le_trans L3 m3) (Int.lt_of_le_of_lt m4 L4) n hn⟩⟩
end Go.Proofs.YtdkldbfhbpmjgaaGreatDoor
