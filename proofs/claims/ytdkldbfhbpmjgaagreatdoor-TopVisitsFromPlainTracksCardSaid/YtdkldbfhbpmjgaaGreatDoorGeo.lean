/- Ways, edges and crossings: what is counted to the right of a spot changes only where ways meet; no program in sight. -/
import Derived.Test.YtdkldbfhbpmjgaaGreatDoorMgA
namespace Go.Proofs.YtdkldbfhbpmjgaaGreatDoor

abbrev Pt := Int × Int
/-- On which side of a way a spot is. -/
def sd (a b s : Pt) : Int := (b.1 - a.1) * (s.2 - a.2) - (b.2 - a.2) * (s.1 - a.1)
def OnW (a b s : Pt) : Prop := sd a b s = 0 ∧ min a.1 b.1 ≤ s.1 ∧ s.1 ≤ max a.1 b.1 ∧ min a.2 b.2 ≤ s.2 ∧ s.2 ≤ max a.2 b.2
def opp (x y : Int) : Prop := x < 0 ∧ 0 < y ∨ 0 < x ∧ y < 0
def Meets (a b c d : Pt) : Prop := OnW a b c ∨ OnW a b d ∨ OnW c d a ∨ OnW c d b ∨ (opp (sd a b c) (sd a b d) ∧ opp (sd c d a) (sd c d b))
theorem sd_swap (a b s : Pt) : sd b a s = - sd a b s := by unfold sd; grind
theorem OnW.swap {a b s : Pt} (h : OnW a b s) : OnW b a s := by
  obtain ⟨h1, h2, h3, h4, h5⟩ := h
  exact ⟨by rw [sd_swap, h1]; rfl, by omega, by omega, by omega, by omega⟩
theorem opp_neg {x y : Int} (h : opp x y) : opp (-x) (-y) := by unfold opp at *; omega
theorem opp_symm {x y : Int} (h : opp x y) : opp y x := by unfold opp at *; omega
theorem Meets.symm {a b c d : Pt} (h : Meets a b c d) : Meets c d a b := by
  rcases h with h | h | h | h | ⟨h, h'⟩
  · exact .inr (.inr (.inl h))
  · exact .inr (.inr (.inr (.inl h)))
  · exact .inl h
  · exact .inr (.inl h)
  · exact .inr (.inr (.inr (.inr ⟨h', h⟩)))
theorem Meets.swapL {a b c d : Pt} (h : Meets a b c d) : Meets b a c d := by
  rcases h with h | h | h | h | ⟨h, h'⟩
  · exact .inl h.swap
  · exact .inr (.inl h.swap)
  · exact .inr (.inr (.inr (.inl h)))
  · exact .inr (.inr (.inl h))
  · exact .inr (.inr (.inr (.inr ⟨by rw [sd_swap a b, sd_swap a b]; exact opp_neg h, opp_symm h'⟩)))
theorem Meets.swapR {a b c d : Pt} (h : Meets a b c d) : Meets a b d c := h.symm.swapL.symm

/-- How far the way c d is beside the way a b, at a height. -/
def vee (a b c d : Pt) (y : Int) : Int := (d.2 - y) * sd a b c + (y - c.2) * sd a b d
theorem vee_pt (a b c d p : Pt) : vee a b c d p.2 = (d.2 - c.2) * sd a b p - (b.2 - a.2) * sd c d p := by unfold vee sd; grind
theorem sd_fst (a b : Pt) : sd a b a = 0 := by unfold sd; grind
theorem sd_snd (a b : Pt) : sd a b b = 0 := by unfold sd; grind
theorem vee_a (a b c d : Pt) : vee a b c d a.2 = - ((b.2 - a.2) * sd c d a) := by rw [vee_pt, sd_fst]; omega
theorem vee_b (a b c d : Pt) : vee a b c d b.2 = - ((b.2 - a.2) * sd c d b) := by rw [vee_pt, sd_snd]; omega
theorem vee_c (a b c d : Pt) : vee a b c d c.2 = (d.2 - c.2) * sd a b c := by rw [vee_pt, sd_fst]; omega
theorem vee_d (a b c d : Pt) : vee a b c d d.2 = (d.2 - c.2) * sd a b d := by rw [vee_pt, sd_snd]; omega
theorem vee_swap (a b c d : Pt) (y : Int) : vee a b d c y = - vee a b c d y := by unfold vee; grind
theorem vee_mono (a b c d : Pt) : (∀ x y : Int, x ≤ y → vee a b c d x ≤ vee a b c d y) ∨ (∀ x y : Int, x ≤ y → vee a b c d y ≤ vee a b c d x) := by
  have e : ∀ x y : Int, vee a b c d y - vee a b c d x = (y - x) * (sd a b d - sd a b c) := by intro x y; unfold vee; grind
  rcases Int.le_total 0 (sd a b d - sd a b c) with h | h
  · left; intro x y hxy
    have := e x y
    have := Int.mul_nonneg (show 0 ≤ y - x by omega) h
    omega
  · right; intro x y hxy
    have := e x y
    have := Int.mul_nonneg (show 0 ≤ y - x by omega) (show 0 ≤ -(sd a b d - sd a b c) by omega)
    rw [Int.mul_neg] at this
    omega
theorem neg_of {h x : Int} (hh : 0 < h) (hx : h * x < 0) : x < 0 := by
  rcases Int.lt_or_le x 0 with h1 | h1
  · exact h1
  · have := Int.mul_nonneg (Int.le_of_lt hh) h1; omega
theorem pos_of {h x : Int} (hh : 0 < h) (hx : 0 < h * x) : 0 < x := by
  rcases Int.lt_or_le 0 x with h1 | h1
  · exact h1
  · have := Int.mul_nonneg (Int.le_of_lt hh) (show 0 ≤ -x by omega); rw [Int.mul_neg] at this; omega
theorem zero_of {h x : Int} (hh : 0 < h) (hx : h * x = 0) : x = 0 := by
  rcases Int.lt_trichotomy x 0 with h1 | h1 | h1
  · have := Int.mul_pos hh (show 0 < -x by omega); rw [Int.mul_neg] at this; omega
  · exact h1
  · have := Int.mul_pos hh h1; omega
theorem on_of_zero {a b s : Pt} (h : sd a b s = 0) (hab : a.2 < b.2) (h1 : a.2 ≤ s.2) (h2 : s.2 ≤ b.2) : OnW a b s := by
  obtain ⟨ax, ay⟩ := a
  obtain ⟨bx, by_⟩ := b
  obtain ⟨sx, sy⟩ := s
  simp only [sd] at h hab h1 h2
  have hx : min ax bx ≤ sx ∧ sx ≤ max ax bx := by
    have hh : 0 < by_ - ay := by omega
    rcases Int.le_total ax bx with h3 | h3
    · have p1 : 0 ≤ (bx - ax) * (sy - ay) := Int.mul_nonneg (by omega) (by omega)
      have p2 : (bx - ax) * (sy - ay) ≤ (bx - ax) * (by_ - ay) := Int.mul_le_mul_of_nonneg_left (by omega) (by omega)
      have e : (by_ - ay) * (sx - ax) = (bx - ax) * (sy - ay) := by omega
      have e2 : (by_ - ay) * (bx - ax) = (bx - ax) * (by_ - ay) := Int.mul_comm _ _
      have l1 : 0 ≤ sx - ax := Int.le_of_mul_le_mul_left (a := by_ - ay) (by omega) hh
      have l2 : sx - ax ≤ bx - ax := Int.le_of_mul_le_mul_left (a := by_ - ay) (by omega) hh
      omega
    · have p1 : 0 ≤ (ax - bx) * (sy - ay) := Int.mul_nonneg (by omega) (by omega)
      have p2 : (ax - bx) * (sy - ay) ≤ (ax - bx) * (by_ - ay) := Int.mul_le_mul_of_nonneg_left (by omega) (by omega)
      have e : (by_ - ay) * (ax - sx) = (ax - bx) * (sy - ay) := by
        have a1 : (ax - bx) * (sy - ay) = - ((bx - ax) * (sy - ay)) := by rw [← Int.neg_mul]; congr 1; omega
        have a2 : (by_ - ay) * (ax - sx) = - ((by_ - ay) * (sx - ax)) := by rw [← Int.mul_neg]; congr 1; omega
        omega
      have e2 : (by_ - ay) * (ax - bx) = (ax - bx) * (by_ - ay) := Int.mul_comm _ _
      have l1 : 0 ≤ ax - sx := Int.le_of_mul_le_mul_left (a := by_ - ay) (by omega) hh
      have l2 : ax - sx ≤ ax - bx := Int.le_of_mul_le_mul_left (a := by_ - ay) (by omega) hh
      omega
  exact ⟨h, hx.1, hx.2, by simp only; omega, by simp only; omega⟩

/-- Two ways that go up and do not meet: the one is on one side of the other at all heights that both have. -/
theorem vee_sign {a b c d : Pt} (hab : a.2 < b.2) (hcd : c.2 < d.2) (hm : ¬ Meets a b c d) :
    (∀ y, a.2 ≤ y → c.2 ≤ y → y ≤ b.2 → y ≤ d.2 → vee a b c d y < 0) ∨ (∀ y, a.2 ≤ y → c.2 ≤ y → y ≤ b.2 → y ≤ d.2 → 0 < vee a b c d y) := by
  have va := vee_a a b c d
  have vb := vee_b a b c d
  have vc := vee_c a b c d
  have vd := vee_d a b c d
  have hB : 0 < b.2 - a.2 := by omega
  have hD : 0 < d.2 - c.2 := by omega
  by_cases hJ : max a.2 c.2 ≤ min b.2 d.2
  · have nz : ∀ y, (y = a.2 ∨ y = b.2 ∨ y = c.2 ∨ y = d.2) → max a.2 c.2 ≤ y → y ≤ min b.2 d.2 → vee a b c d y ≠ 0 := by
      intro y hy h1 h2 h0
      rcases hy with rfl | rfl | rfl | rfl
      · exact hm (.inr (.inr (.inl (on_of_zero (zero_of hB (by omega)) hcd (by omega) (by omega)))))
      · exact hm (.inr (.inr (.inr (.inl (on_of_zero (zero_of hB (by omega)) hcd (by omega) (by omega))))))
      · exact hm (.inl (on_of_zero (zero_of hD (by omega)) hab (by omega) (by omega)))
      · exact hm (.inr (.inl (on_of_zero (zero_of hD (by omega)) hab (by omega) (by omega))))
    have n1 := nz (max a.2 c.2) (by omega) (Int.le_refl _) hJ
    have n2 := nz (min b.2 d.2) (by omega) hJ (Int.le_refl _)
    rcases Int.lt_or_lt_of_ne n1 with s1 | s1 <;> rcases Int.lt_or_lt_of_ne n2 with s2 | s2
    · left
      intro y h1 h2 h3 h4
      rcases vee_mono a b c d with hmo | hmo
      · have := hmo y (min b.2 d.2) (by omega); omega
      · have := hmo (max a.2 c.2) y (by omega); omega
    · exfalso
      rcases vee_mono a b c d with hmo | hmo
      · have q1 := hmo a.2 (max a.2 c.2) (by omega)
        have q2 := hmo c.2 (max a.2 c.2) (by omega)
        have q3 := hmo (min b.2 d.2) b.2 (by omega)
        have q4 := hmo (min b.2 d.2) d.2 (by omega)
        refine hm (.inr (.inr (.inr (.inr ⟨.inl ⟨neg_of hD (by omega), pos_of hD (by omega)⟩, .inr ⟨pos_of hB (by omega), neg_of hB (by omega)⟩⟩))))
      · have := hmo (max a.2 c.2) (min b.2 d.2) hJ; omega
    · exfalso
      rcases vee_mono a b c d with hmo | hmo
      · have := hmo (max a.2 c.2) (min b.2 d.2) hJ; omega
      · have q1 := hmo a.2 (max a.2 c.2) (by omega)
        have q2 := hmo c.2 (max a.2 c.2) (by omega)
        have q3 := hmo (min b.2 d.2) b.2 (by omega)
        have q4 := hmo (min b.2 d.2) d.2 (by omega)
        refine hm (.inr (.inr (.inr (.inr ⟨.inr ⟨pos_of hD (by omega), neg_of hD (by omega)⟩, .inl ⟨neg_of hB (by omega), pos_of hB (by omega)⟩⟩))))
    · right
      intro y h1 h2 h3 h4
      rcases vee_mono a b c d with hmo | hmo
      · have := hmo (max a.2 c.2) y (by omega); omega
      · have := hmo y (min b.2 d.2) (by omega); omega
  · left
    intro y h1 h2 h3 h4
    omega

/-- Is a way that goes up to the right of a spot, at its height? -/
def crU (c d s : Pt) : Bool := decide (c.2 ≤ s.2 ∧ s.2 < d.2 ∧ 0 < sd c d s)
def cr (c d s : Pt) : Bool := if d.2 < c.2 then crU d c s else crU c d s
/-- Is a way to the right of the way a b, at a height? -/
def rgU (a b c d : Pt) (y : Int) : Bool := decide (c.2 ≤ y ∧ y < d.2 ∧ vee a b c d y < 0)
def rg (a b c d : Pt) (y : Int) : Bool := if d.2 < c.2 then rgU a b d c y else rgU a b c d y
/-- Is a spot above a height, not above b, and to the right of the way a b? -/
def abv (a b : Pt) (y : Int) (z : Pt) : Bool := decide (y < z.2 ∧ z.2 ≤ b.2 ∧ sd a b z < 0)

theorem up_xor {a b c d : Pt} {y : Int} (hab : a.2 < b.2) (hcd : c.2 < d.2) (h0 : a.2 ≤ y) (h1 : y ≤ b.2) (hm : ¬ Meets a b c d) : xor (rgU a b c d y) (crU c d b) = xor (abv a b y c) (abv a b y d) := by
  have vb := vee_b a b c d
  have vc := vee_c a b c d
  have vd := vee_d a b c d
  have hB : 0 < b.2 - a.2 := by omega
  have hD : 0 < d.2 - c.2 := by omega
  have eb : 0 < sd c d b ↔ vee a b c d b.2 < 0 := by
    rw [vb]
    exact ⟨fun h => by have := Int.mul_pos hB h; omega, fun h => pos_of hB (by omega)⟩
  have ec : sd a b c < 0 ↔ vee a b c d c.2 < 0 := by
    rw [vc]
    exact ⟨fun h => by have := Int.mul_pos hD (show 0 < - sd a b c by omega); rw [Int.mul_neg] at this; omega, fun h => neg_of hD h⟩
  have ed : sd a b d < 0 ↔ vee a b c d d.2 < 0 := by
    rw [vd]
    exact ⟨fun h => by have := Int.mul_pos hD (show 0 < - sd a b d by omega); rw [Int.mul_neg] at this; omega, fun h => neg_of hD h⟩
  unfold rgU crU abv
  simp only [eb, ec, ed]
  clear vb vc vd eb ec ed
  rcases vee_sign hab hcd hm with hs | hs
  · have q1 := hs y
    have q2 := hs b.2
    have q3 := hs c.2
    have q4 := hs d.2
    generalize vee a b c d y = w1 at *
    generalize vee a b c d b.2 = w2 at *
    generalize vee a b c d c.2 = w3 at *
    generalize vee a b c d d.2 = w4 at *
    clear hs hm
    have k1 : (c.2 ≤ y ∧ y < d.2 ∧ w1 < 0) ↔ (c.2 ≤ y ∧ y < d.2) := by constructor <;> intro h <;> omega
    have k2 : (c.2 ≤ b.2 ∧ b.2 < d.2 ∧ w2 < 0) ↔ (c.2 ≤ b.2 ∧ b.2 < d.2) := by constructor <;> intro h <;> omega
    have k3 : (y < c.2 ∧ c.2 ≤ b.2 ∧ w3 < 0) ↔ (y < c.2 ∧ c.2 ≤ b.2) := by constructor <;> intro h <;> omega
    have k4 : (y < d.2 ∧ d.2 ≤ b.2 ∧ w4 < 0) ↔ (y < d.2 ∧ d.2 ≤ b.2) := by constructor <;> intro h <;> omega
    simp only [k1, k2, k3, k4]
    by_cases e1 : c.2 ≤ y ∧ y < d.2 <;> by_cases e2 : c.2 ≤ b.2 ∧ b.2 < d.2 <;> by_cases e3 : y < c.2 ∧ c.2 ≤ b.2 <;> by_cases e4 : y < d.2 ∧ d.2 ≤ b.2 <;> (first | rw [decide_eq_true e1] | rw [decide_eq_false e1]) <;> (first | rw [decide_eq_true e2] | rw [decide_eq_false e2]) <;> (first | rw [decide_eq_true e3] | rw [decide_eq_false e3]) <;> (first | rw [decide_eq_true e4] | rw [decide_eq_false e4]) <;> first | rfl | (exfalso; omega)
  · have q1 := hs y
    have q2 := hs b.2
    have q3 := hs c.2
    have q4 := hs d.2
    generalize vee a b c d y = w1 at *
    generalize vee a b c d b.2 = w2 at *
    generalize vee a b c d c.2 = w3 at *
    generalize vee a b c d d.2 = w4 at *
    clear hs hm
    have k1 : ¬ (c.2 ≤ y ∧ y < d.2 ∧ w1 < 0) := fun h => by have := q1 (by omega) (by omega) (by omega) (by omega); omega
    have k2 : ¬ (c.2 ≤ b.2 ∧ b.2 < d.2 ∧ w2 < 0) := fun h => by have := q2 (by omega) (by omega) (by omega) (by omega); omega
    have k3 : ¬ (y < c.2 ∧ c.2 ≤ b.2 ∧ w3 < 0) := fun h => by have := q3 (by omega) (by omega) (by omega) (by omega); omega
    have k4 : ¬ (y < d.2 ∧ d.2 ≤ b.2 ∧ w4 < 0) := fun h => by have := q4 (by omega) (by omega) (by omega) (by omega); omega
    simp only [k1, k2, k3, k4, decide_false]

/-- Of two spots of one height that a way joins, both are to the right of a b or neither is. -/
theorem flat_abv {a b c d : Pt} {y : Int} (hab : a.2 < b.2) (hcd : c.2 = d.2) (h0 : a.2 ≤ y) (hm : ¬ Meets a b c d) : abv a b y c = abv a b y d := by
  have key : ∀ {c d : Pt}, c.2 = d.2 → ¬ Meets a b c d → y < c.2 → c.2 ≤ b.2 → sd a b c < 0 → sd a b d < 0 := by
    intro c d hcd hm h1 h2 hc
    rcases Int.lt_trichotomy (sd a b d) 0 with h | h | h
    · exact h
    · exact absurd (.inr (.inl (on_of_zero h hab (by omega) (by omega)))) hm
    · exfalso
      have tb : sd c d b = (d.1 - c.1) * (b.2 - c.2) := by unfold sd; rw [hcd]; grind
      have ta : sd c d a = (d.1 - c.1) * (a.2 - c.2) := by unfold sd; rw [hcd]; grind
      have e : sd a b d - sd a b c = (b.2 - a.2) * (c.1 - d.1) := by unfold sd; rw [hcd]; grind
      have hx : 0 < c.1 - d.1 := pos_of (show 0 < b.2 - a.2 by omega) (by omega)
      have ta' : 0 < sd c d a := by
        rw [ta, show (d.1 - c.1) * (a.2 - c.2) = (c.1 - d.1) * (c.2 - a.2) by grind]
        exact Int.mul_pos hx (by omega)
      rcases Int.lt_or_le c.2 b.2 with h3 | h3
      · have tb' : sd c d b < 0 := by
          have := Int.mul_pos hx (show 0 < b.2 - c.2 by omega)
          have e2 : (d.1 - c.1) * (b.2 - c.2) = - ((c.1 - d.1) * (b.2 - c.2)) := by grind
          omega
        exact hm (.inr (.inr (.inr (.inr ⟨.inl ⟨hc, h⟩, .inr ⟨ta', tb'⟩⟩))))
      · have hb : c.2 = b.2 := by omega
        have sc : sd a b c = (b.2 - a.2) * (b.1 - c.1) := by unfold sd; rw [hb]; grind
        have sdd : sd a b d = (b.2 - a.2) * (b.1 - d.1) := by unfold sd; rw [← hcd, hb]; grind
        have x1 : b.1 - c.1 < 0 := neg_of (show 0 < b.2 - a.2 by omega) (by omega)
        have x2 : 0 < b.1 - d.1 := pos_of (show 0 < b.2 - a.2 by omega) (by omega)
        refine hm (.inr (.inr (.inr (.inl ⟨?_, by omega, by omega, by omega, by omega⟩))))
        rw [tb, hb]; simp
  unfold abv
  congr 1
  refine propext ⟨fun ⟨h1, h2, h3⟩ => ⟨by omega, by omega, key hcd hm h1 h2 h3⟩, fun ⟨h1, h2, h3⟩ => ⟨by omega, by omega, key hcd.symm (fun h => hm h.swapR) h1 h2 h3⟩⟩

theorem rg_xor {a b c d : Pt} {y : Int} (hab : a.2 < b.2) (h0 : a.2 ≤ y) (h1 : y ≤ b.2) (hm : ¬ Meets a b c d) : xor (rg a b c d y) (cr c d b) = xor (abv a b y c) (abv a b y d) := by
  unfold rg cr
  rcases Int.lt_trichotomy c.2 d.2 with h | h | h
  · rw [if_neg (by omega), if_neg (by omega)]
    exact up_xor hab h h0 h1 hm
  · rw [if_neg (by omega), if_neg (by omega), flat_abv hab h h0 hm]
    have e1 : rgU a b c d y = false := by unfold rgU; simp; omega
    have e2 : crU c d b = false := by unfold crU; simp; omega
    rw [e1, e2]; simp
  · rw [if_pos h, if_pos h, up_xor hab h h0 h1 (fun h => hm h.swapR), Bool.xor_comm]

theorem rg_on {a b c d p : Pt} (hab : a.2 < b.2) (hp : sd a b p = 0) : rg a b c d p.2 = cr c d p := by
  have hB : 0 < b.2 - a.2 := by omega
  have key : ∀ c d : Pt, rgU a b c d p.2 = crU c d p := by
    intro c d
    unfold rgU crU
    have e := vee_pt a b c d p
    rw [hp, Int.mul_zero, Int.zero_sub] at e
    rw [e]
    congr 1
    refine propext ⟨fun ⟨h1, h2, h3⟩ => ⟨h1, h2, pos_of hB (by omega)⟩, fun ⟨h1, h2, h3⟩ => ⟨h1, h2, by have := Int.mul_pos hB h3; omega⟩⟩
  unfold rg cr
  rw [key, key]

/-- A way along a height: what is to the right of its spots. -/
theorem flat_cr {a b p c d : Pt} (hab : a.2 = b.2) (hp : OnW a b p) (hm : ¬ Meets a b c d) : cr c d p = cr c d b := by
  have hpy : p.2 = b.2 := by obtain ⟨_, _, _, h4, h5⟩ := hp; omega
  have key : ∀ {c d : Pt}, c.2 < d.2 → ¬ Meets a b c d → crU c d p = crU c d b := by
    intro c d hcd hm
    have hD : 0 < d.2 - c.2 := by omega
    unfold crU
    rw [hpy]
    congr 1
    have ta : ∀ z : Pt, z.2 = b.2 → sd c d z = sd c d b + (d.2 - c.2) * (b.1 - z.1) := by intro z hz; unfold sd; rw [hz]; grind
    have tP := ta p hpy
    have tA := ta a hab
    by_cases hin : c.2 ≤ b.2 ∧ b.2 < d.2
    · have nb : sd c d b ≠ 0 := fun h => hm (.inr (.inr (.inr (.inl (on_of_zero h hcd (by omega) (by omega))))))
      have na : sd c d a ≠ 0 := fun h => hm (.inr (.inr (.inl (on_of_zero h hcd (by omega) (by omega)))))
      have no : ¬ opp (sd c d a) (sd c d b) := by
        intro ho
        have sc : sd a b c = (b.1 - a.1) * (c.2 - b.2) := by unfold sd; rw [hab]; grind
        have sdd : sd a b d = (b.1 - a.1) * (d.2 - b.2) := by unfold sd; rw [hab]; grind
        have tc : sd c d a - sd c d b = (d.2 - c.2) * (b.1 - a.1) := by omega
        rcases Int.lt_or_le c.2 b.2 with h | h
        · refine hm (.inr (.inr (.inr (.inr ⟨?_, ho⟩))))
          rcases ho with ho | ho
          · have hx : b.1 - a.1 < 0 := neg_of hD (by omega)
            right
            rw [sc, sdd]
            have p1 := Int.mul_pos (show 0 < -(b.1 - a.1) by omega) (show 0 < b.2 - c.2 by omega)
            have p2 := Int.mul_pos (show 0 < -(b.1 - a.1) by omega) (show 0 < d.2 - b.2 by omega)
            have e1 : (b.1 - a.1) * (c.2 - b.2) = -(b.1 - a.1) * (b.2 - c.2) := by grind
            have e2 : (b.1 - a.1) * (d.2 - b.2) = -(-(b.1 - a.1) * (d.2 - b.2)) := by grind
            omega
          · have hx : 0 < b.1 - a.1 := pos_of hD (by omega)
            left
            rw [sc, sdd]
            have p1 := Int.mul_pos hx (show 0 < b.2 - c.2 by omega)
            have p2 := Int.mul_pos hx (show 0 < d.2 - b.2 by omega)
            have e1 : (b.1 - a.1) * (c.2 - b.2) = -((b.1 - a.1) * (b.2 - c.2)) := by grind
            omega
        · have hcb : c.2 = b.2 := by omega
          have xb : sd c d b = (d.2 - c.2) * (c.1 - b.1) := by unfold sd; rw [hcb]; grind
          have xa : sd c d a = (d.2 - c.2) * (c.1 - a.1) := by unfold sd; rw [hcb, hab]; grind
          refine hm (.inl ⟨?_, ?_, ?_, by omega, by omega⟩)
          · rw [sc, hcb]; simp
          · rcases ho with ho | ho
            · have y1 : c.1 - a.1 < 0 := neg_of hD (by omega)
              have y2 : 0 < c.1 - b.1 := pos_of hD (by omega)
              omega
            · have y1 : 0 < c.1 - a.1 := pos_of hD (by omega)
              have y2 : c.1 - b.1 < 0 := neg_of hD (by omega)
              omega
          · rcases ho with ho | ho
            · have y1 : c.1 - a.1 < 0 := neg_of hD (by omega)
              have y2 : 0 < c.1 - b.1 := pos_of hD (by omega)
              omega
            · have y1 : 0 < c.1 - a.1 := pos_of hD (by omega)
              have y2 : c.1 - b.1 < 0 := neg_of hD (by omega)
              omega
      obtain ⟨_, hx1, hx2, _, _⟩ := hp
      refine propext ⟨fun ⟨h1, h2, h3⟩ => ⟨h1, h2, ?_⟩, fun ⟨h1, h2, h3⟩ => ⟨h1, h2, ?_⟩⟩
      · rcases Int.lt_or_lt_of_ne nb with h4 | h4
        · exfalso
          have hxp : 0 < b.1 - p.1 := pos_of hD (by omega)
          have hxa : b.1 - p.1 ≤ b.1 - a.1 := by omega
          have := Int.mul_le_mul_of_nonneg_left hxa (Int.le_of_lt hD)
          exact no (.inr ⟨by omega, h4⟩)
        · exact h4
      · rcases Int.lt_or_le 0 (sd c d p) with h4 | h4
        · exact h4
        · exfalso
          have hxp : b.1 - p.1 < 0 := neg_of hD (by omega)
          have hxa : b.1 - a.1 ≤ b.1 - p.1 := by omega
          have := Int.mul_le_mul_of_nonneg_left hxa (Int.le_of_lt hD)
          exact no (.inl ⟨by omega, h3⟩)
    · refine propext ⟨fun ⟨h1, h2, _⟩ => absurd ⟨h1, h2⟩ hin, fun ⟨h1, h2, _⟩ => absurd ⟨h1, h2⟩ hin⟩
  unfold cr
  rcases Int.lt_trichotomy c.2 d.2 with h | h | h
  · rw [if_neg (by omega), if_neg (by omega)]; exact key h hm
  · rw [if_neg (by omega), if_neg (by omega)]
    unfold crU
    have e : ∀ z : Pt, ¬ (c.2 ≤ z.2 ∧ z.2 < d.2 ∧ 0 < sd c d z) := fun z h => by omega
    rw [decide_eq_false (e p), decide_eq_false (e b)]
  · rw [if_pos h, if_pos h]; exact key h (fun h => hm h.swapR)
end Go.Proofs.YtdkldbfhbpmjgaaGreatDoor
