/- Cells of the plane: the plain law. Keys are lists of numbers from 0 to 3. -/
import Derived.Test.YtdkldbfhbpmjgaaGreatDoorFeT
namespace Go.Proofs.YtdkldbfhbpmjgaaGreatDoor
open Go.RowKit

/-- The four corners of a cell. -/
def boxL (x y L : Int) : List Pt := [(x, y), (x + L, y), (x + L, y + L), (x, y + L)]
theorem box_inn {x y L : Int} {p : Pt} (hL : 0 < L) (h1 : x ≤ p.1) (h2 : p.1 < x + L) (h3 : y ≤ p.2) (h4 : p.2 < y + L) : Inn (boxL x y L) p := by
  refine .inr ?_
  obtain ⟨px, py⟩ := p
  simp only at h1 h2 h3 h4
  have e1 : 0 < L * (x + L - px) := Int.mul_pos hL (by omega)
  have e2 : 0 ≤ L * (px - x) := Int.mul_nonneg (by omega) (by omega)
  have s1 : sd (x + L, y) (x + L, y + L) (px, py) = L * (x + L - px) := by unfold sd; grind
  have s2 : sd (x, y) (x, y + L) (px, py) = - (L * (px - x)) := by unfold sd; grind
  have c0 : cr (x, y) (x + L, y) (px, py) = false := by
    unfold cr; rw [if_neg (by simp only; omega)]; unfold crU; simp only; rw [decide_eq_false_iff_not]; omega
  have c1 : cr (x + L, y) (x + L, y + L) (px, py) = true := by
    unfold cr; rw [if_neg (by simp only; omega)]; unfold crU; rw [s1]; simp only; rw [decide_eq_true_iff]; omega
  have c2 : cr (x + L, y + L) (x, y + L) (px, py) = false := by
    unfold cr; rw [if_neg (by simp only; omega)]; unfold crU; simp only; rw [decide_eq_false_iff_not]; omega
  have c3 : cr (x, y + L) (x, y) (px, py) = false := by
    unfold cr; rw [if_pos (by simp only; omega)]; unfold crU; rw [s2]; simp only; rw [decide_eq_false_iff_not]; omega
  show xsum (fun i => cr (ed1 (boxL x y L) i) (ed2 (boxL x y L) i) (px, py)) 4 = true
  have g0 : cr (ed1 (boxL x y L) 0) (ed2 (boxL x y L) 0) (px, py) = false := c0
  have g1 : cr (ed1 (boxL x y L) 1) (ed2 (boxL x y L) 1) (px, py) = true := c1
  have g2 : cr (ed1 (boxL x y L) 2) (ed2 (boxL x y L) 2) (px, py) = false := c2
  have e3 : ed1 (boxL x y L) 3 = (x, y + L) := rfl
  have e4 : ed2 (boxL x y L) 3 = (x, y) := by simp [ed2, gp, boxL]
  have g3 : cr (ed1 (boxL x y L) 3) (ed2 (boxL x y L) 3) (px, py) = false := by rw [e3, e4]; exact c3
  simp only [xsum, g0, g1, g2, g3]
  rfl

/-- A box: its corner and its side. -/
abbrev Bx := Int × Int × Int
def bxStep (b : Bx) (d : Nat) : Bx := (b.1 + ((d % 2 : Nat) : Int) * (b.2.2 / 2), b.2.1 + ((d / 2 : Nat) : Int) * (b.2.2 / 2), b.2.2 / 2)
def bxOf (ds : List Nat) : Bx := ds.foldl bxStep (-16384, -16384, 32768)
theorem bxOf_snoc (ds : List Nat) (d : Nat) : bxOf (ds ++ [d]) = bxStep (bxOf ds) d := by simp [bxOf]
def bxL (ds : List Nat) : List Pt := boxL (bxOf ds).1 (bxOf ds).2.1 (bxOf ds).2.2
def isDs (ds : List Nat) : Prop := ∀ d ∈ ds, d < 4
theorem isDs.take {ds : List Nat} (h : isDs ds) (n : Nat) : isDs (ds.take n) := fun d hd => h d (List.mem_of_mem_take hd)
theorem isDs.snoc {ds : List Nat} {d : Nat} (h : isDs ds) (hd : d < 4) : isDs (ds ++ [d]) := by
  intro x hx
  rcases List.mem_append.1 hx with hx | hx
  · exact h x hx
  · rw [List.mem_singleton] at hx; omega
theorem two_pow_halve (n : Nat) (h : n < 15) : ((2 : Int) ^ (15 - n)) / 2 = (2 : Int) ^ (15 - (n + 1)) := by
  rw [show 15 - n = (15 - (n + 1)) + 1 by omega, Int.pow_succ]
  omega
theorem snoc_ind2 {α : Type} {P : List α → Prop} (h0 : P []) (hs : ∀ l a, P l → P (l ++ [a])) (l : List α) : P l := by
  have : ∀ n, ∀ l : List α, l.length = n → P l := by
    intro n
    induction n with
    | zero => intro l hl; rw [List.length_eq_zero_iff.1 hl]; exact h0
    | succ n ih =>
      intro l hl
      have hne : l ≠ [] := by intro h; rw [h] at hl; simp at hl
      rw [← List.dropLast_concat_getLast hne]
      exact hs _ _ (ih _ (by simp [hl]))
  exact this _ l rfl
/-- The side of a cell, and where its box lies. -/
theorem bx_fine (ds : List Nat) (hd : isDs ds) (hl : ds.length ≤ 15) : (bxOf ds).2.2 = (2 : Int) ^ (15 - ds.length) ∧ -16384 ≤ (bxOf ds).1 ∧ (bxOf ds).1 + (bxOf ds).2.2 ≤ 16384 ∧ -16384 ≤ (bxOf ds).2.1 ∧ (bxOf ds).2.1 + (bxOf ds).2.2 ≤ 16384 ∧ 1 ≤ (bxOf ds).2.2 := by
  induction ds using snoc_ind2 with
  | h0 => decide
  | hs l d ih =>
    simp only [List.length_append, List.length_singleton] at hl
    obtain ⟨h1, h2, h3, h4, h5, h6⟩ := ih (fun x hx => hd x (by simp [hx])) (by omega)
    have hd4 : d < 4 := hd d (by simp)
    have hp := two_pow_halve l.length (by omega)
    rw [← h1] at hp
    have hpos : (1 : Int) ≤ (2 : Int) ^ (15 - (l.length + 1)) := by have := Int.pow_pos (n := (2 : Int)) (m := 15 - (l.length + 1)) (by omega); omega
    have hdouble : (bxOf l).2.2 = 2 * ((bxOf l).2.2 / 2) := by
      rw [h1, show 15 - l.length = (15 - (l.length + 1)) + 1 by omega, Int.pow_succ]; omega
    rw [bxOf_snoc]
    unfold bxStep
    simp only [List.length_append, List.length_singleton]
    rw [hp]
    rw [hp] at hdouble
    have m1 : d % 2 = 0 ∨ d % 2 = 1 := by omega
    have m2 : d / 2 = 0 ∨ d / 2 = 1 := by omega
    rcases m1 with m1 | m1 <;> rcases m2 with m2 | m2 <;> simp only [m1, m2] <;> refine ⟨trivial, ?_, ?_, ?_, ?_, ?_⟩ <;> omega
theorem boxL_sp {ds : List Nat} (hd : isDs ds) (hl : ds.length ≤ 15) : ∀ x ∈ bxL ds, SpB x := by
  obtain ⟨_, h2, h3, h4, h5, h6⟩ := bx_fine ds hd hl
  intro x hx
  simp only [bxL, boxL, List.mem_cons, List.not_mem_nil, or_false] at hx
  rcases hx with rfl | rfl | rfl | rfl <;> exact ⟨by simp only; omega, by simp only; omega, by simp only; omega, by simp only; omega⟩

/-- The number of a cell's quarter at level k + 1. -/
def dgt (p : Pt) (k : Nat) : Nat := (((p.1 + 16384) / (2 : Int) ^ (14 - k)) % 2).toNat + 2 * (((p.2 + 16384) / (2 : Int) ^ (14 - k)) % 2).toNat
def cellD (p : Pt) (n : Nat) : List Nat := (List.range n).map (dgt p)
theorem cellD_succ (p : Pt) (n : Nat) : cellD p (n + 1) = cellD p n ++ [dgt p n] := by simp [cellD, List.range_succ]
theorem cellD_length (p : Pt) (n : Nat) : (cellD p n).length = n := by simp [cellD]
theorem cellD_take (p : Pt) (n k : Nat) (h : k ≤ n) : (cellD p n).take k = cellD p k := by
  simp only [cellD, ← List.map_take, List.take_range, Nat.min_eq_left h]
theorem dgt_lt (p : Pt) (k : Nat) : dgt p k < 4 := by
  unfold dgt
  have := Int.emod_lt_of_pos ((p.1 + 16384) / (2 : Int) ^ (14 - k)) (b := 2) (by omega)
  have := Int.emod_lt_of_pos ((p.2 + 16384) / (2 : Int) ^ (14 - k)) (b := 2) (by omega)
  have := Int.emod_nonneg ((p.1 + 16384) / (2 : Int) ^ (14 - k)) (b := 2) (by omega)
  have := Int.emod_nonneg ((p.2 + 16384) / (2 : Int) ^ (14 - k)) (b := 2) (by omega)
  omega
theorem cellD_ds (p : Pt) (n : Nat) : isDs (cellD p n) := by
  intro d hd
  simp only [cellD, List.mem_map] at hd
  obtain ⟨k, _, rfl⟩ := hd
  exact dgt_lt p k
theorem div_two (X M : Int) (hM : 0 < M) : X / (M * 2) * (M * 2) + X / M % 2 * M = X / M * M := by
  have h : X / (M * 2) = X / M / 2 := by rw [Int.ediv_ediv_of_nonneg (by omega)]
  have h2 := Int.emod_add_mul_ediv (X / M) 2
  rw [h]
  have : X / M * M = (X / M % 2 + 2 * (X / M / 2)) * M := by rw [h2]
  rw [this]
  grind
theorem cellD_box (p : Pt) (h1 : -16384 ≤ p.1) (h2 : p.1 < 16384) (h3 : -16384 ≤ p.2) (h4 : p.2 < 16384) (n : Nat) (hn : n ≤ 15) :
    (bxOf (cellD p n)).1 = -16384 + (p.1 + 16384) / (2 : Int) ^ (15 - n) * (2 : Int) ^ (15 - n) ∧ (bxOf (cellD p n)).2.1 = -16384 + (p.2 + 16384) / (2 : Int) ^ (15 - n) * (2 : Int) ^ (15 - n) ∧ (bxOf (cellD p n)).2.2 = (2 : Int) ^ (15 - n) := by
  induction n with
  | zero =>
    have e1 : (p.1 + 16384) / 32768 = 0 := by omega
    have e2 : (p.2 + 16384) / 32768 = 0 := by omega
    have e3 : (2 : Int) ^ (15 - 0) = 32768 := by decide
    rw [e3, e1, e2]
    exact ⟨rfl, rfl, rfl⟩
  | succ n ih =>
    obtain ⟨g1, g2, g3⟩ := ih (by omega)
    have hp := two_pow_halve n (by omega)
    have hM : (0 : Int) < (2 : Int) ^ (15 - (n + 1)) := Int.pow_pos (by omega)
    have hMM : (2 : Int) ^ (15 - n) = (2 : Int) ^ (15 - (n + 1)) * 2 := by rw [show 15 - n = (15 - (n + 1)) + 1 by omega, Int.pow_succ]
    have h14 : 14 - n = 15 - (n + 1) := by omega
    rw [cellD_succ, bxOf_snoc]
    unfold bxStep
    rw [g1, g2, g3, hp]
    obtain ⟨M, hMe⟩ : ∃ M, M = (2 : Int) ^ (15 - (n + 1)) := ⟨_, rfl⟩
    have d1 : ((dgt p n % 2 : Nat) : Int) = (p.1 + 16384) / M % 2 ∧ ((dgt p n / 2 : Nat) : Int) = (p.2 + 16384) / M % 2 := by
      unfold dgt
      rw [h14, ← hMe]
      have := Int.emod_lt_of_pos ((p.1 + 16384) / M) (b := 2) (by omega)
      have := Int.emod_lt_of_pos ((p.2 + 16384) / M) (b := 2) (by omega)
      have := Int.emod_nonneg ((p.1 + 16384) / M) (b := 2) (by omega)
      have := Int.emod_nonneg ((p.2 + 16384) / M) (b := 2) (by omega)
      omega
    rw [← hMe] at hM hMM hp ⊢
    rw [hMM]
    rw [d1.1, d1.2]
    have q1 := div_two (p.1 + 16384) M hM
    have q2 := div_two (p.2 + 16384) M hM
    refine ⟨?_, ?_, rfl⟩
    · simp only; omega
    · simp only; omega
/-- A spot lies in the boxes of its cells. -/
theorem cellD_in (p : Pt) (h1 : -16384 ≤ p.1) (h2 : p.1 < 16384) (h3 : -16384 ≤ p.2) (h4 : p.2 < 16384) (n : Nat) (hn : n ≤ 15) :
    (bxOf (cellD p n)).1 ≤ p.1 ∧ p.1 < (bxOf (cellD p n)).1 + (bxOf (cellD p n)).2.2 ∧ (bxOf (cellD p n)).2.1 ≤ p.2 ∧ p.2 < (bxOf (cellD p n)).2.1 + (bxOf (cellD p n)).2.2 := by
  obtain ⟨g1, g2, g3⟩ := cellD_box p h1 h2 h3 h4 n hn
  have hM : (0 : Int) < (2 : Int) ^ (15 - n) := Int.pow_pos (by omega)
  rw [g1, g2, g3]
  obtain ⟨M, hMe⟩ : ∃ M, M = (2 : Int) ^ (15 - n) := ⟨_, rfl⟩
  rw [← hMe] at hM ⊢
  have e1 := Int.mul_ediv_add_emod (p.1 + 16384) M
  have e2 := Int.mul_ediv_add_emod (p.2 + 16384) M
  have e3 := Int.emod_nonneg (p.1 + 16384) (b := M) (by omega)
  have e4 := Int.emod_nonneg (p.2 + 16384) (b := M) (by omega)
  have e5 := Int.emod_lt_of_pos (p.1 + 16384) hM
  have e6 := Int.emod_lt_of_pos (p.2 + 16384) hM
  rw [Int.mul_comm] at e1 e2
  omega
theorem cell_touch {l : List Pt} {p : Pt} (hi : Inn l p) (h1 : -16384 ≤ p.1) (h2 : p.1 < 16384) (h3 : -16384 ≤ p.2) (h4 : p.2 < 16384) (n : Nat) (hn : n ≤ 15) : tcB l (bxL (cellD p n)) = true := by
  obtain ⟨g1, g2, g3, g4⟩ := cellD_in p h1 h2 h3 h4 n hn
  have hp : 0 < (bxOf (cellD p n)).2.2 := by omega
  exact tcB_inn hi (box_inn hp g1 g2 g3 g4)

/-- What cells computes: m levels are still to come below the key; no more is added behind 1000 keys. -/
def clF (l : List Pt) : Nat → List Nat → List (List Nat) → List (List Nat)
  | 0, key, out => if 1000 < out.length ∨ tcB l (bxL key) = false then out else out ++ [key]
  | m + 1, key, out => if 1000 < out.length ∨ tcB l (bxL key) = false then out else clF l m (key ++ [3]) (clF l m (key ++ [2]) (clF l m (key ++ [1]) (clF l m (key ++ [0]) out)))
/-- The keys are sorted as texts of one length are. -/
def ltD : List Nat → List Nat → Prop := fun a b => List.Lex (· < ·) a b
theorem ltD_app (k : List Nat) {a b : List Nat} (h : ltD a b) : ltD (k ++ a) (k ++ b) := by
  induction k with
  | nil => exact h
  | cons x k ih => exact List.Lex.cons ih
structure ClOk (l : List Pt) (m : Nat) (key : List Nat) (out N : List (List Nat)) : Prop where
  shape : ∀ k ∈ N, ∃ s, k = key ++ s ∧ s.length = m ∧ isDs s
  sorted : N.Pairwise ltD
  len : (out ++ N).length ≤ max out.length 1001
  all : (out ++ N).length ≤ 1000 → ∀ s, s.length = m → isDs s → (∀ j, j ≤ m → tcB l (bxL (key ++ s.take j)) = true) → key ++ s ∈ N
theorem clF_ok (l : List Pt) (m : Nat) : ∀ key out, ∃ N, clF l m key out = out ++ N ∧ ClOk l m key out N := by
  induction m with
  | zero =>
    intro key out
    unfold clF
    by_cases hc : 1000 < out.length ∨ tcB l (bxL key) = false
    · rw [if_pos hc]
      refine ⟨[], by simp, by simp, by simp, by simp; omega, ?_⟩
      intro hl s hs hd ht
      exfalso
      have := ht 0 (Nat.le_refl _)
      simp only [List.take_zero, List.append_nil] at this hl
      rcases hc with hc | hc
      · omega
      · rw [hc] at this; cases this
    · rw [if_neg hc]
      refine ⟨[key], rfl, ?_, by simp, by simp; omega, ?_⟩
      · intro k hk
        rw [List.mem_singleton] at hk
        exact ⟨[], by simp [hk], rfl, by intro d hd; cases hd⟩
      · intro _ s hs _ _
        rw [List.length_eq_zero_iff.1 hs]
        simp
  | succ m ih =>
    intro key out
    unfold clF
    by_cases hc : 1000 < out.length ∨ tcB l (bxL key) = false
    · rw [if_pos hc]
      refine ⟨[], by simp, by simp, by simp, by simp; omega, ?_⟩
      intro hl s hs hd ht
      exfalso
      have := ht 0 (by omega)
      simp only [List.take_zero, List.append_nil] at this hl
      rcases hc with hc | hc
      · omega
      · rw [hc] at this; cases this
    · rw [if_neg hc]
      obtain ⟨N0, e0, k0⟩ := ih (key ++ [0]) out
      rw [e0]
      obtain ⟨N1, e1, k1⟩ := ih (key ++ [1]) (out ++ N0)
      rw [e1]
      obtain ⟨N2, e2, k2⟩ := ih (key ++ [2]) (out ++ N0 ++ N1)
      rw [e2]
      obtain ⟨N3, e3, k3⟩ := ih (key ++ [3]) (out ++ N0 ++ N1 ++ N2)
      rw [e3]
      refine ⟨N0 ++ N1 ++ N2 ++ N3, by simp, ?_, ?_, ?_, ?_⟩
      · have A : ∀ (N : List (List Nat)) (d : Nat), d < 4 → (∀ k ∈ N, ∃ s, k = key ++ [d] ++ s ∧ s.length = m ∧ isDs s) → ∀ k ∈ N, ∃ s, k = key ++ s ∧ s.length = m + 1 ∧ isDs s := by
          intro N d hd h k hk
          obtain ⟨s, h1, h2, h3⟩ := h k hk
          refine ⟨d :: s, by simp [h1], by simp [h2], ?_⟩
          intro x hx
          rcases List.mem_cons.1 hx with hx | hx
          · omega
          · exact h3 x hx
        intro k hk
        simp only [List.mem_append] at hk
        rcases hk with ((hk | hk) | hk) | hk
        · exact A N0 0 (by omega) k0.shape k hk
        · exact A N1 1 (by omega) k1.shape k hk
        · exact A N2 2 (by omega) k2.shape k hk
        · exact A N3 3 (by omega) k3.shape k hk
      · have A : ∀ (N M : List (List Nat)) (d e : Nat) (oN oM : List (List Nat)), d < e → ClOk l m (key ++ [d]) oN N → ClOk l m (key ++ [e]) oM M → ∀ a ∈ N, ∀ b ∈ M, ltD a b := by
          intro N M d e oN oM hde hN hM a ha b hb
          obtain ⟨s, h1, _⟩ := hN.shape a ha
          obtain ⟨t, h2, _⟩ := hM.shape b hb
          rw [h1, h2, List.append_assoc, List.append_assoc]
          exact ltD_app key (List.Lex.rel hde)
        rw [List.pairwise_append, List.pairwise_append, List.pairwise_append]
        refine ⟨⟨⟨k0.sorted, k1.sorted, A _ _ _ _ _ _ (by omega) k0 k1⟩, k2.sorted, ?_⟩, k3.sorted, ?_⟩
        · intro a ha b hb
          rcases List.mem_append.1 ha with ha | ha
          · exact A _ _ _ _ _ _ (by omega) k0 k2 a ha b hb
          · exact A _ _ _ _ _ _ (by omega) k1 k2 a ha b hb
        · intro a ha b hb
          simp only [List.mem_append] at ha
          rcases ha with (ha | ha) | ha
          · exact A _ _ _ _ _ _ (by omega) k0 k3 a ha b hb
          · exact A _ _ _ _ _ _ (by omega) k1 k3 a ha b hb
          · exact A _ _ _ _ _ _ (by omega) k2 k3 a ha b hb
      · have l0 := k0.len
        have l1 := k1.len
        have l2 := k2.len
        have l3 := k3.len
        simp only [List.length_append] at l0 l1 l2 l3 ⊢
        omega
      · intro hl s hs hd ht
        simp only [List.length_append] at hl
        cases s with
        | nil => simp at hs
        | cons d t =>
          have hd4 : d < 4 := hd d (by simp)
          have hds : isDs t := fun x hx => hd x (by simp [hx])
          have hst : t.length = m := by simpa using hs
          have htt : ∀ j, j ≤ m → tcB l (bxL (key ++ [d] ++ t.take j)) = true := by
            intro j hj
            have := ht (j + 1) (by omega)
            simpa using this
          have e : key ++ d :: t = key ++ [d] ++ t := by simp
          rw [e]
          simp only [List.mem_append]
          have hd' : d = 0 ∨ d = 1 ∨ d = 2 ∨ d = 3 := by omega
          rcases hd' with rfl | rfl | rfl | rfl
          · exact .inl (.inl (.inl (by simpa using k0.all (by simp only [List.length_append]; omega) t hst hds htt)))
          · exact .inl (.inl (.inr (by simpa using k1.all (by simp only [List.length_append]; omega) t hst hds htt)))
          · exact .inl (.inr (by simpa using k2.all (by simp only [List.length_append]; omega) t hst hds htt))
          · exact .inr (by simpa using k3.all (by simp only [List.length_append]; omega) t hst hds htt)
end Go.Proofs.YtdkldbfhbpmjgaaGreatDoor
