/- Fences that have a spot in common touch: the plain law; no program in sight. -/
import Derived.Test.YtdkldbfhbpmjgaaGreatDoorGeo
namespace Go.Proofs.YtdkldbfhbpmjgaaGreatDoor

theorem on_on_up {a b c d p : Pt} (h1 : OnW a b p) (h2 : OnW c d p) (hab : a.2 < b.2) (hcd : c.2 < d.2) : Meets a b c d := by
  refine Classical.byContradiction fun hm => ?_
  have e := vee_pt a b c d p
  rw [h1.1, h2.1] at e
  obtain ⟨_, _, _, p1, p2⟩ := h1
  obtain ⟨_, _, _, p3, p4⟩ := h2
  rcases vee_sign hab hcd hm with hs | hs
  · have := hs p.2 (by omega) (by omega) (by omega) (by omega); omega
  · have := hs p.2 (by omega) (by omega) (by omega) (by omega); omega
theorem on_on_flat {a b c d p : Pt} (h1 : OnW a b p) (h2 : OnW c d p) (hab : a.2 = b.2) (hcd : c.2 < d.2) : Meets a b c d := by
  obtain ⟨_, x1, x2, y1, y2⟩ := h1
  obtain ⟨hz, _, _, y3, y4⟩ := h2
  have hp : p.2 = a.2 := by omega
  have hD : 0 < d.2 - c.2 := by omega
  have ta : ∀ z : Pt, z.2 = p.2 → sd c d z = (d.2 - c.2) * (p.1 - z.1) := by
    intro z hz2
    have : sd c d z = sd c d p + (d.2 - c.2) * (p.1 - z.1) := by unfold sd; rw [hz2]; grind
    omega
  have ea := ta a hp.symm
  have eb := ta b (by omega)
  by_cases ha : p.1 = a.1
  · exact .inr (.inr (.inl (on_of_zero (by rw [ea, ha]; simp) hcd (by omega) (by omega))))
  by_cases hb : p.1 = b.1
  · exact .inr (.inr (.inr (.inl (on_of_zero (by rw [eb, hb]; simp) hcd (by omega) (by omega)))))
  have sc : sd a b c = (b.1 - a.1) * (c.2 - p.2) := by unfold sd; rw [hp, ← hab]; grind
  have sdd : sd a b d = (b.1 - a.1) * (d.2 - p.2) := by unfold sd; rw [hp, ← hab]; grind
  rcases Int.lt_or_le c.2 p.2 with h3 | h3
  · rcases Int.lt_or_le p.2 d.2 with h4 | h4
    · refine .inr (.inr (.inr (.inr ⟨?_, ?_⟩)))
      · rcases Int.lt_or_le a.1 b.1 with h5 | h5
        · left
          have q1 := Int.mul_pos (show 0 < b.1 - a.1 by omega) (show 0 < p.2 - c.2 by omega)
          have q2 := Int.mul_pos (show 0 < b.1 - a.1 by omega) (show 0 < d.2 - p.2 by omega)
          have e1 : (b.1 - a.1) * (c.2 - p.2) = -((b.1 - a.1) * (p.2 - c.2)) := by grind
          omega
        · right
          have q1 := Int.mul_pos (show 0 < a.1 - b.1 by omega) (show 0 < p.2 - c.2 by omega)
          have q2 := Int.mul_pos (show 0 < a.1 - b.1 by omega) (show 0 < d.2 - p.2 by omega)
          have e1 : (b.1 - a.1) * (c.2 - p.2) = (a.1 - b.1) * (p.2 - c.2) := by grind
          have e2 : (b.1 - a.1) * (d.2 - p.2) = -((a.1 - b.1) * (d.2 - p.2)) := by grind
          omega
      · rcases Int.lt_or_le a.1 b.1 with h5 | h5
        · right
          have q1 := Int.mul_pos hD (show 0 < p.1 - a.1 by omega)
          have q2 := Int.mul_pos hD (show 0 < b.1 - p.1 by omega)
          have e2 : (d.2 - c.2) * (p.1 - b.1) = -((d.2 - c.2) * (b.1 - p.1)) := by grind
          omega
        · left
          have q1 := Int.mul_pos hD (show 0 < a.1 - p.1 by omega)
          have q2 := Int.mul_pos hD (show 0 < p.1 - b.1 by omega)
          have e2 : (d.2 - c.2) * (p.1 - a.1) = -((d.2 - c.2) * (a.1 - p.1)) := by grind
          omega
    · have hd : d.2 = p.2 := by omega
      have := ta d hd
      rw [sd_snd] at this
      have hx : p.1 - d.1 = 0 := zero_of hD this.symm
      exact .inr (.inl ⟨by rw [sdd, hd]; simp, by omega, by omega, by omega, by omega⟩)
  · have hc : c.2 = p.2 := by omega
    have := ta c hc
    rw [sd_fst] at this
    have hx : p.1 - c.1 = 0 := zero_of hD this.symm
    exact .inl ⟨by rw [sc, hc]; simp, by omega, by omega, by omega, by omega⟩
theorem on_on_flats {a b c d p : Pt} (h1 : OnW a b p) (h2 : OnW c d p) (hab : a.2 = b.2) (hcd : c.2 = d.2) : Meets a b c d := by
  obtain ⟨_, x1, x2, y1, y2⟩ := h1
  obtain ⟨_, x3, x4, y3, y4⟩ := h2
  have z1 : ∀ z : Pt, z.2 = a.2 → sd a b z = 0 := by intro z hz; unfold sd; rw [hz, ← hab]; simp
  have z2 : ∀ z : Pt, z.2 = c.2 → sd c d z = 0 := by intro z hz; unfold sd; rw [hz, ← hcd]; simp
  by_cases k1 : min a.1 b.1 ≤ c.1 ∧ c.1 ≤ max a.1 b.1
  · exact .inl ⟨z1 c (by omega), k1.1, k1.2, by omega, by omega⟩
  by_cases k2 : min a.1 b.1 ≤ d.1 ∧ d.1 ≤ max a.1 b.1
  · exact .inr (.inl ⟨z1 d (by omega), k2.1, k2.2, by omega, by omega⟩)
  by_cases k3 : min c.1 d.1 ≤ a.1 ∧ a.1 ≤ max c.1 d.1
  · exact .inr (.inr (.inl ⟨z2 a (by omega), k3.1, k3.2, by omega, by omega⟩))
  exact .inr (.inr (.inr (.inl ⟨z2 b (by omega), by omega, by omega, by omega, by omega⟩)))
theorem on_on {a b c d p : Pt} (h1 : OnW a b p) (h2 : OnW c d p) : Meets a b c d := by
  rcases Int.lt_trichotomy a.2 b.2 with h | h | h <;> rcases Int.lt_trichotomy c.2 d.2 with k | k | k
  · exact on_on_up h1 h2 h k
  · exact (on_on_flat h2 h1 k h).symm
  · exact (on_on_up h1 h2.swap h k).swapR
  · exact on_on_flat h1 h2 h k
  · exact on_on_flats h1 h2 h k
  · exact (on_on_flat h1 h2.swap h k).swapR
  · exact (on_on_up h1.swap h2 h k).swapL
  · exact (on_on_flat h2 h1.swap k h).symm.swapL
  · exact (on_on_up h1.swap h2.swap h k).swapL.swapR

/-! ### edges of corners -/
def gp (l : List Pt) (i : Nat) : Pt := l.getD i (0, 0)
def ed1 (l : List Pt) (i : Nat) : Pt := gp l i
def ed2 (l : List Pt) (i : Nat) : Pt := gp l ((i + 1) % l.length)
def xsum (F : Nat → Bool) : Nat → Bool
  | 0 => false
  | n + 1 => xor (xsum F n) (F n)
theorem xsum_xor (F G : Nat → Bool) (n : Nat) : xor (xsum F n) (xsum G n) = xsum (fun i => xor (F i) (G i)) n := by
  induction n with
  | zero => rfl
  | succ n ih => simp only [xsum]; rw [← ih]; cases xsum F n <;> cases xsum G n <;> cases F n <;> cases G n <;> rfl
theorem xsum_congr {F G : Nat → Bool} {n : Nat} (h : ∀ i, i < n → F i = G i) : xsum F n = xsum G n := by
  induction n with
  | zero => rfl
  | succ n ih => simp only [xsum]; rw [ih (fun i hi => h i (by omega)), h n (by omega)]
theorem xsum_tel (g : Nat → Bool) (n : Nat) : xsum (fun i => xor (g i) (g (i + 1))) n = xor (g 0) (g n) := by
  induction n with
  | zero => simp [xsum]
  | succ n ih => simp only [xsum]; rw [ih]; cases g 0 <;> cases g n <;> cases g (n + 1) <;> rfl
/-- How often the edges up to number n are to the right of a spot: an odd number? -/
def parN (l : List Pt) (s : Pt) (n : Nat) : Bool := xsum (fun i => cr (ed1 l i) (ed2 l i) s) n
def par (l : List Pt) (s : Pt) : Bool := parN l s l.length
theorem round_zero (l : List Pt) (h : Pt → Bool) : xsum (fun i => xor (h (ed1 l i)) (h (ed2 l i))) l.length = false := by
  rcases Nat.eq_zero_or_pos l.length with h0 | h0
  · rw [h0]; rfl
  · have e : xsum (fun i => xor (h (ed1 l i)) (h (ed2 l i))) l.length = xsum (fun i => xor (h (gp l (i % l.length))) (h (gp l ((i + 1) % l.length)))) l.length := by
      refine xsum_congr fun i hi => ?_
      rw [Nat.mod_eq_of_lt hi]
      rfl
    rw [e, xsum_tel (fun i => h (gp l (i % l.length)))]
    simp
theorem xor_false_eq {a b : Bool} (h : xor a b = false) : a = b := by cases a <;> cases b <;> simp_all
theorem par_up {m : List Pt} {a b : Pt} {y : Int} (hab : a.2 < b.2) (h0 : a.2 ≤ y) (h1 : y ≤ b.2) (hm : ∀ i, i < m.length → ¬ Meets a b (ed1 m i) (ed2 m i)) :
    xsum (fun i => rg a b (ed1 m i) (ed2 m i) y) m.length = par m b := by
  refine xor_false_eq ?_
  unfold par parN
  rw [xsum_xor, ← round_zero m (abv a b y)]
  exact xsum_congr fun i hi => rg_xor hab h0 h1 (hm i hi)
theorem on_end (a b : Pt) : OnW a b b := ⟨sd_snd a b, by omega, by omega, by omega, by omega⟩
theorem on_start (a b : Pt) : OnW a b a := ⟨sd_fst a b, by omega, by omega, by omega, by omega⟩
theorem par_on {m : List Pt} {a b p : Pt} (hp : OnW a b p) (hm : ∀ i, i < m.length → ¬ Meets a b (ed1 m i) (ed2 m i)) : par m p = par m b := by
  have up : ∀ {a b p : Pt}, a.2 < b.2 → OnW a b p → (∀ i, i < m.length → ¬ Meets a b (ed1 m i) (ed2 m i)) → par m p = par m b := by
    intro a b p h hp hm
    obtain ⟨hz, _, _, y1, y2⟩ := hp
    rw [← par_up h (show a.2 ≤ p.2 by omega) (by omega) hm]
    exact (xsum_congr fun i _ => rg_on h hz).symm
  rcases Int.lt_trichotomy a.2 b.2 with h | h | h
  · exact up h hp hm
  · exact xsum_congr fun i hi => flat_cr h hp (hm i hi)
  · have hm' : ∀ i, i < m.length → ¬ Meets b a (ed1 m i) (ed2 m i) := fun i hi k => hm i hi k.swapL
    rw [up h hp.swap hm', up h (on_start b a) hm']

/-- Is a spot on an edge of corners, or within them? -/
def Inn (l : List Pt) (s : Pt) : Prop := (∃ i, i < l.length ∧ OnW (ed1 l i) (ed2 l i) s) ∨ par l s = true
theorem par_chain {l m : List Pt} (hm : ∀ i, i < l.length → ∀ j, j < m.length → ¬ Meets (ed1 l i) (ed2 l i) (ed1 m j) (ed2 m j)) (i : Nat) (hi : i < l.length) : par m (gp l i) = par m (gp l 0) := by
  induction i with
  | zero => rfl
  | succ i ih =>
    rw [← ih (by omega)]
    have h := par_on (on_start (ed1 l i) (ed2 l i)) (hm i (by omega))
    have e : ed2 l i = gp l (i + 1) := by unfold ed2; rw [Nat.mod_eq_of_lt hi]
    rw [e] at h
    exact h.symm
theorem ed2_gp (l : List Pt) (i : Nat) (hi : i < l.length) : ∃ k, k < l.length ∧ ed2 l i = gp l k := ⟨(i + 1) % l.length, Nat.mod_lt _ (by omega), rfl⟩

/-! ### the nearest edge to the right -/
theorem frac_trans {t1 h1 t2 h2 t3 h3 : Int} (p1 : 0 < h1) (p2 : 0 < h2) (p3 : 0 < h3) (a : t1 * h2 ≤ t2 * h1) (b : t2 * h3 ≤ t3 * h2) : t1 * h3 ≤ t3 * h1 := by
  have q1 := Int.mul_le_mul_of_nonneg_right a (Int.le_of_lt p3)
  have q2 := Int.mul_le_mul_of_nonneg_right b (Int.le_of_lt p1)
  have e1 : h2 * (t1 * h3) = t1 * h2 * h3 := by grind
  have e2 : h2 * (t3 * h1) = t3 * h2 * h1 := by grind
  have e3 : t2 * h1 * h3 = t2 * h3 * h1 := by grind
  exact Int.le_of_mul_le_mul_left (a := h2) (by omega) p2
theorem nearest (P : Nat → Prop) (T h : Nat → Int) (hh : ∀ i, P i → 0 < h i) (n : Nat) (he : ∃ i, i < n ∧ P i) : ∃ i, i < n ∧ P i ∧ ∀ j, j < n → P j → T i * h j ≤ T j * h i := by
  induction n with
  | zero => obtain ⟨i, hi, _⟩ := he; omega
  | succ n ih =>
    by_cases hp : ∃ i, i < n ∧ P i
    · obtain ⟨i, hi, hpi, hmin⟩ := ih hp
      by_cases hpn : P n
      · rcases Int.le_total (T i * h n) (T n * h i) with h1 | h1
        · refine ⟨i, by omega, hpi, fun j hj hpj => ?_⟩
          rcases Nat.lt_or_ge j n with h2 | h2
          · exact hmin j h2 hpj
          · obtain rfl : j = n := by omega
            exact h1
        · refine ⟨n, by omega, hpn, fun j hj hpj => ?_⟩
          rcases Nat.lt_or_ge j n with h2 | h2
          · exact frac_trans (hh n hpn) (hh i hpi) (hh j hpj) h1 (hmin j h2 hpj)
          · obtain rfl : j = n := by omega
            exact Int.le_refl _
      · refine ⟨i, by omega, hpi, fun j hj hpj => ?_⟩
        rcases Nat.lt_or_ge j n with h2 | h2
        · exact hmin j h2 hpj
        · obtain rfl : j = n := by omega
          exact absurd hpj hpn
    · obtain ⟨i, hi, hpi⟩ := he
      have hin : i = n := by
        rcases Nat.lt_or_ge i n with h2 | h2
        · exact absurd ⟨i, h2, hpi⟩ hp
        · omega
      subst hin
      refine ⟨i, by omega, hpi, fun j hj hpj => ?_⟩
      rcases Nat.lt_or_ge j i with h2 | h2
      · exact absurd ⟨j, h2, hpj⟩ hp
      · obtain rfl : j = i := by omega
        exact Int.le_refl _
/-- A way, turned so that it goes up. -/
def up1 (c d : Pt) : Pt := if d.2 < c.2 then d else c
def up2 (c d : Pt) : Pt := if d.2 < c.2 then c else d
theorem cr_up (c d s : Pt) : cr c d s = crU (up1 c d) (up2 c d) s := by unfold cr up1 up2; split <;> rfl
theorem rg_up (a b c d : Pt) (y : Int) : rg a b c d y = rgU a b (up1 c d) (up2 c d) y := by unfold rg up1 up2; split <;> rfl
theorem meets_up {a b c d : Pt} (h : Meets a b (up1 c d) (up2 c d)) : Meets a b c d := by
  unfold up1 up2 at h
  by_cases k : d.2 < c.2
  · rw [if_pos k, if_pos k] at h; exact h.swapR
  · rw [if_neg k, if_neg k] at h; exact h
theorem meets_up2 {a b c d : Pt} (h : Meets (up1 a b) (up2 a b) c d) : Meets a b c d := (meets_up h.symm).symm
theorem xsum_one {F : Nat → Bool} {n : Nat} (h : xsum F n = true) : ∃ i, i < n ∧ F i = true := by
  induction n with
  | zero => cases h
  | succ n ih =>
    cases e : F n with
    | true => exact ⟨n, by omega, e⟩
    | false =>
      simp only [xsum, e, Bool.xor_false] at h
      obtain ⟨i, hi, h2⟩ := ih h
      exact ⟨i, by omega, h2⟩
/-- If the nearest edge to the right is one of l, a corner of l is within m as the spot is. -/
theorem near_in {l m : List Pt} {p : Pt} {i : Nat} (hi : i < l.length) (hc : crU (up1 (ed1 l i) (ed2 l i)) (up2 (ed1 l i) (ed2 l i)) p = true)
    (hm : ∀ i, i < l.length → ∀ j, j < m.length → ¬ Meets (ed1 l i) (ed2 l i) (ed1 m j) (ed2 m j))
    (hn : ∀ j, j < m.length → crU (up1 (ed1 m j) (ed2 m j)) (up2 (ed1 m j) (ed2 m j)) p = true →
      sd (up1 (ed1 l i) (ed2 l i)) (up2 (ed1 l i) (ed2 l i)) p * ((up2 (ed1 m j) (ed2 m j)).2 - (up1 (ed1 m j) (ed2 m j)).2) ≤ sd (up1 (ed1 m j) (ed2 m j)) (up2 (ed1 m j) (ed2 m j)) p * ((up2 (ed1 l i) (ed2 l i)).2 - (up1 (ed1 l i) (ed2 l i)).2)) :
    par m p = par m (gp l 0) := by
  have hb : ∃ k, k < l.length ∧ up2 (ed1 l i) (ed2 l i) = gp l k := by
    unfold up2
    split
    · exact ⟨i, hi, rfl⟩
    · exact ed2_gp l i hi
  have hml : ∀ j, j < m.length → ¬ Meets (up1 (ed1 l i) (ed2 l i)) (up2 (ed1 l i) (ed2 l i)) (ed1 m j) (ed2 m j) := fun j hj h => hm i hi j hj (meets_up2 h)
  generalize up1 (ed1 l i) (ed2 l i) = a at hc hn hml
  generalize up2 (ed1 l i) (ed2 l i) = b at hb hc hn hml
  obtain ⟨k, hk, rfl⟩ := hb
  unfold crU at hc
  simp only [decide_eq_true_eq] at hc
  obtain ⟨y1, y2, hs⟩ := hc
  have hup := par_up (y := p.2) (show a.2 < (gp l k).2 by omega) y1 (by omega) hml
  rw [← par_chain hm k hk, ← hup]
  unfold par parN
  refine xsum_congr fun j hj => ?_
  rw [cr_up, rg_up]
  have hnj := hn j hj
  have hmj : ¬ Meets a (gp l k) (up1 (ed1 m j) (ed2 m j)) (up2 (ed1 m j) (ed2 m j)) := fun h => hml j hj (meets_up h)
  generalize up1 (ed1 m j) (ed2 m j) = c at hnj hmj
  generalize up2 (ed1 m j) (ed2 m j) = d at hnj hmj
  generalize gp l k = b at *
  have e := vee_pt a b c d p
  unfold crU rgU at *
  simp only [decide_eq_true_eq] at hnj
  by_cases hin : c.2 ≤ p.2 ∧ p.2 < d.2
  · congr 1
    have hcd : 0 < d.2 - c.2 := by omega
    have hab : 0 < b.2 - a.2 := by omega
    refine propext ⟨fun ⟨h1, h2, h3⟩ => ⟨h1, h2, ?_⟩, fun ⟨h1, h2, h3⟩ => ⟨h1, h2, ?_⟩⟩
    · have q := hnj ⟨h1, h2, h3⟩
      have q1 : sd a b p * (d.2 - c.2) = (d.2 - c.2) * sd a b p := Int.mul_comm _ _
      have q2 : sd c d p * (b.2 - a.2) = (b.2 - a.2) * sd c d p := Int.mul_comm _ _
      rcases vee_sign (by omega) (by omega) hmj with hsg | hsg
      · exact hsg p.2 (by omega) (by omega) (by omega) (by omega)
      · have := hsg p.2 (by omega) (by omega) (by omega) (by omega); omega
    · have := Int.mul_pos hcd hs
      exact pos_of hab (by omega)
  · have e1 : ∀ P : Prop, ¬ (c.2 ≤ p.2 ∧ p.2 < d.2 ∧ P) := fun P h => hin ⟨h.1, h.2.1⟩
    simp only [e1, decide_false]
theorem inn_touch {l m : List Pt} {p : Pt} (h1 : Inn l p) (h2 : Inn m p) :
    Inn l (gp m 0) ∨ Inn m (gp l 0) ∨ ∃ i, i < l.length ∧ ∃ j, j < m.length ∧ Meets (ed1 l i) (ed2 l i) (ed1 m j) (ed2 m j) := by
  by_cases hm : ∃ i, i < l.length ∧ ∃ j, j < m.length ∧ Meets (ed1 l i) (ed2 l i) (ed1 m j) (ed2 m j)
  · exact .inr (.inr hm)
  have hm1 : ∀ i, i < l.length → ∀ j, j < m.length → ¬ Meets (ed1 l i) (ed2 l i) (ed1 m j) (ed2 m j) := fun i hi j hj h => hm ⟨i, hi, j, hj, h⟩
  have hm2 : ∀ i, i < m.length → ∀ j, j < l.length → ¬ Meets (ed1 m i) (ed2 m i) (ed1 l j) (ed2 l j) := fun i hi j hj h => hm ⟨j, hj, i, hi, h.symm⟩
  rcases h1 with ⟨i, hi, h1⟩ | h1
  · rcases h2 with ⟨j, hj, h2⟩ | h2
    · exact .inr (.inr ⟨i, hi, j, hj, on_on h1 h2⟩)
    · refine .inr (.inl (.inr ?_))
      obtain ⟨k, hk, e⟩ := ed2_gp l i hi
      rw [← par_chain hm1 k hk, ← e, ← par_on h1 (hm1 i hi)]
      exact h2
  · rcases h2 with ⟨j, hj, h2⟩ | h2
    · refine .inl (.inr ?_)
      obtain ⟨k, hk, e⟩ := ed2_gp m j hj
      rw [← par_chain hm2 k hk, ← e, ← par_on h2 (hm2 j hj)]
      exact h1
    · have A : ∀ l : List Pt, par l p = true → ∃ i, i < l.length ∧ crU (up1 (ed1 l i) (ed2 l i)) (up2 (ed1 l i) (ed2 l i)) p = true ∧
          ∀ j, j < l.length → crU (up1 (ed1 l j) (ed2 l j)) (up2 (ed1 l j) (ed2 l j)) p = true →
            sd (up1 (ed1 l i) (ed2 l i)) (up2 (ed1 l i) (ed2 l i)) p * ((up2 (ed1 l j) (ed2 l j)).2 - (up1 (ed1 l j) (ed2 l j)).2) ≤ sd (up1 (ed1 l j) (ed2 l j)) (up2 (ed1 l j) (ed2 l j)) p * ((up2 (ed1 l i) (ed2 l i)).2 - (up1 (ed1 l i) (ed2 l i)).2) := by
        intro l h
        obtain ⟨i, hi, hc⟩ := xsum_one h
        rw [cr_up] at hc
        refine nearest (fun i => crU (up1 (ed1 l i) (ed2 l i)) (up2 (ed1 l i) (ed2 l i)) p = true) (fun i => sd (up1 (ed1 l i) (ed2 l i)) (up2 (ed1 l i) (ed2 l i)) p) (fun i => (up2 (ed1 l i) (ed2 l i)).2 - (up1 (ed1 l i) (ed2 l i)).2) ?_ l.length ⟨i, hi, hc⟩
        intro i hi
        unfold crU at hi
        simp only [decide_eq_true_eq] at hi
        omega
      have pos : ∀ {a b : Pt}, crU a b p = true → 0 < b.2 - a.2 := by
        intro a b h
        unfold crU at h
        simp only [decide_eq_true_eq] at h
        omega
      obtain ⟨i, hi, ci, mi⟩ := A l h1
      obtain ⟨j, hj, cj, mj⟩ := A m h2
      rcases Int.le_total (sd (up1 (ed1 l i) (ed2 l i)) (up2 (ed1 l i) (ed2 l i)) p * ((up2 (ed1 m j) (ed2 m j)).2 - (up1 (ed1 m j) (ed2 m j)).2)) (sd (up1 (ed1 m j) (ed2 m j)) (up2 (ed1 m j) (ed2 m j)) p * ((up2 (ed1 l i) (ed2 l i)).2 - (up1 (ed1 l i) (ed2 l i)).2)) with h | h
      · refine .inr (.inl (.inr ?_))
        rw [← near_in hi ci hm1 (fun k hk ck => frac_trans (pos ci) (pos cj) (pos ck) h (mj k hk ck))]
        exact h2
      · refine .inl (.inr ?_)
        rw [← near_in hj cj hm2 (fun k hk ck => frac_trans (pos cj) (pos ci) (pos ck) h (mi k hk ck))]
        exact h1
end Go.Proofs.YtdkldbfhbpmjgaaGreatDoor
