/- TracksStayPlain: the plain law of lengths. -/
import Derived.Test.YtdkldbfhbpmjgaaGreatDoorFxD
namespace Go.Proofs.YtdkldbfhbpmjgaaGreatDoor
open Go.RowKit

theorem sqr0 (a : Int) : 0 ≤ a * a := by
  rcases Int.le_total 0 a with h | h
  · exact Int.mul_nonneg h h
  · have e : a * a = (-a) * (-a) := by rw [Int.neg_mul_neg]
    rw [e]; exact Int.mul_nonneg (by omega) (by omega)
theorem le_of_sqr {x y : Int} (hy : 0 ≤ y) (h : x * x ≤ y * y) : x ≤ y := by
  rcases Int.lt_or_le y x with h1 | h1
  · have h2 : y * y < x * x := by
      have a1 : y * y ≤ y * x := Int.mul_le_mul_of_nonneg_left (by omega) hy
      have a2 : y * x < x * x := Int.mul_lt_mul_of_pos_right h1 (by omega)
      omega
    omega
  · exact h1
theorem cauchy (a b c d : Int) : (a * c + b * d) * (a * c + b * d) ≤ (a * a + b * b) * (c * c + d * d) := by
  have h : (a * a + b * b) * (c * c + d * d) = (a * c + b * d) * (a * c + b * d) + (a * d - b * c) * (a * d - b * c) := by grind
  have := sqr0 (a * d - b * c)
  omega
theorem tri {a b c d U V : Int} (hU : 0 ≤ U) (hV : 0 ≤ V) (h1 : a * a + b * b ≤ U * U) (h2 : c * c + d * d ≤ V * V) : (a + c) * (a + c) + (b + d) * (b + d) ≤ (U + V) * (U + V) := by
  have hc := cauchy a b c d
  have n1 : 0 ≤ a * a + b * b := by have := sqr0 a; have := sqr0 b; omega
  have n2 : 0 ≤ c * c + d * d := by have := sqr0 c; have := sqr0 d; omega
  have h3 : (a * a + b * b) * (c * c + d * d) ≤ (U * U) * (V * V) := Int.mul_le_mul h1 h2 n2 (sqr0 U)
  have h4 : (U * U) * (V * V) = (U * V) * (U * V) := by grind
  have h5 : a * c + b * d ≤ U * V := le_of_sqr (Int.mul_nonneg hU hV) (by omega)
  have h6 : (a + c) * (a + c) + (b + d) * (b + d) = (a * a + b * b) + (c * c + d * d) + 2 * (a * c + b * d) := by grind
  have h7 : (U + V) * (U + V) = U * U + V * V + 2 * (U * V) := by grind
  omega

/-- The square root, rounded down. -/
def isq : Nat → Nat
  | 0 => 0
  | n + 1 => if (isq n + 1) * (isq n + 1) ≤ n + 1 then isq n + 1 else isq n
theorem isq_spec (n : Nat) : isq n * isq n ≤ n ∧ n < (isq n + 1) * (isq n + 1) := by
  induction n with
  | zero => simp [isq]
  | succ n ih =>
    simp only [isq]
    split
    · rename_i h
      refine ⟨h, ?_⟩
      have h1 : (isq n + 1 + 1) * (isq n + 1 + 1) = (isq n + 1) * (isq n + 1) + 2 * (isq n + 1) + 1 := by grind
      omega
    · omega
theorem isq_unique {n r : Nat} (h1 : r * r ≤ n) (h2 : n < (r + 1) * (r + 1)) : isq n = r := by
  obtain ⟨a, b⟩ := isq_spec n
  have h : ∀ {p q : Nat}, p * p ≤ n → n < (q + 1) * (q + 1) → p ≤ q := by
    intro p q hp hq
    rcases Nat.lt_or_ge q p with h | h
    · have : (q + 1) * (q + 1) ≤ p * p := Nat.mul_le_mul h h
      omega
    · exact h
  exact Nat.le_antisymm (h a h2) (h h1 b)
theorem isq_le {n U : Nat} (h : n ≤ U * U) : isq n ≤ U := by
  obtain ⟨a, b⟩ := isq_spec n
  rcases Nat.lt_or_ge U (isq n) with h1 | h1
  · have : (U + 1) * (U + 1) ≤ isq n * isq n := Nat.mul_le_mul h1 h1
    have : (U + 1) * (U + 1) = U * U + 2 * U + 1 := by grind
    omega
  · exact h1
/-- How long the way between two fixes is, rounded down. -/
def dst (x y : Fx) : Nat := isq (sq2 x.2.1 x.2.2.1 y.2.1 y.2.2.1).toNat
theorem sq2_nonneg (a b c d : Int) : 0 ≤ sq2 a b c d := by
  have := sqr0 (a - c); have := sqr0 (b - d); unfold sq2; omega
def getF (l : List Fx) (i : Nat) : Fx := l.getD i (0, 0, 0, 0)
/-- How long the ways from fix to fix are together. -/
def lenW (l : List Fx) : Nat → Nat
  | 0 => 0
  | i + 1 => lenW l i + dst (getF l i) (getF l (i + 1))
theorem way_le (l : List Fx) (p d : Nat) : sq2 (getF l p).2.1 (getF l p).2.2.1 (getF l (p + d)).2.1 (getF l (p + d)).2.2.1 ≤ ((lenW l (p + d) + d - lenW l p : Nat) : Int) * ((lenW l (p + d) + d - lenW l p : Nat) : Int) := by
  have hm : ∀ d, lenW l p ≤ lenW l (p + d) := by
    intro d
    induction d with
    | zero => simp
    | succ d ih => rw [← Nat.add_assoc]; simp only [lenW]; omega
  induction d with
  | zero => simp [sq2]
  | succ d ih =>
    have hd := hm d
    have hs := isq_spec (sq2 (getF l (p + d)).2.1 (getF l (p + d)).2.2.1 (getF l (p + d + 1)).2.1 (getF l (p + d + 1)).2.2.1).toNat
    have h0 := sq2_nonneg (getF l (p + d)).2.1 (getF l (p + d)).2.2.1 (getF l (p + d + 1)).2.1 (getF l (p + d + 1)).2.2.1
    obtain ⟨r, er⟩ : ∃ r, r = dst (getF l (p + d)) (getF l (p + d + 1)) := ⟨_, rfl⟩
    have hs2 : sq2 (getF l (p + d)).2.1 (getF l (p + d)).2.2.1 (getF l (p + d + 1)).2.1 (getF l (p + d + 1)).2.2.1 ≤ ((r + 1 : Nat) : Int) * ((r + 1 : Nat) : Int) := by
      have h2 := hs.2
      have : isq (sq2 (getF l (p + d)).2.1 (getF l (p + d)).2.2.1 (getF l (p + d + 1)).2.1 (getF l (p + d + 1)).2.2.1).toNat = r := er.symm
      rw [this] at h2
      have h3 : (((r + 1) * (r + 1) : Nat) : Int) = ((r + 1 : Nat) : Int) * ((r + 1 : Nat) : Int) := by rw [Int.natCast_mul]
      omega
    have hl : lenW l (p + (d + 1)) = lenW l (p + d) + r := by rw [← Nat.add_assoc, er]; rfl
    have hn : ((lenW l (p + (d + 1)) + (d + 1) - lenW l p : Nat) : Int) = ((lenW l (p + d) + d - lenW l p : Nat) : Int) + ((r + 1 : Nat) : Int) := by omega
    rw [hn, ← Nat.add_assoc]
    unfold sq2 at ih hs2 ⊢
    have ht := tri (by omega) (by omega) ih hs2
    have e1 : ∀ x y z : Int, x - y + (y - z) = x - z := fun x y z => by omega
    rw [e1, e1] at ht
    exact ht
theorem dst_le (l : List Fx) (p q : Nat) (h : p ≤ q) : dst (getF l p) (getF l q) + lenW l p ≤ lenW l q + (q - p) := by
  obtain ⟨d, rfl⟩ : ∃ d, q = p + d := ⟨q - p, by omega⟩
  have hm : lenW l p ≤ lenW l (p + d) := by
    induction d with
    | zero => simp
    | succ d ih => have := ih (by omega); rw [← Nat.add_assoc]; simp only [lenW]; omega
  have hw := way_le l p d
  have hi : (sq2 (getF l p).2.1 (getF l p).2.2.1 (getF l (p + d)).2.1 (getF l (p + d)).2.2.1).toNat ≤ (lenW l (p + d) + d - lenW l p) * (lenW l (p + d) + d - lenW l p) := by
    have h3 : (((lenW l (p + d) + d - lenW l p) * (lenW l (p + d) + d - lenW l p) : Nat) : Int) = ((lenW l (p + d) + d - lenW l p : Nat) : Int) * ((lenW l (p + d) + d - lenW l p : Nat) : Int) := by rw [Int.natCast_mul]
    omega
  have := isq_le hi
  unfold dst
  omega
/-- The fixes with some numbers. -/
def atF (l : List Fx) (is : List Nat) : List Fx := is.map (getF l)
/-- The way over some of the fixes is not much longer. -/
theorem len_at (l : List Fx) (is : List Nat) (hr : is.Pairwise (· < ·)) (k : Nat) (hk : k < is.length) : lenW (atF l is) k + lenW l (is.getD 0 0) + is.getD 0 0 ≤ lenW l (is.getD k 0) + is.getD k 0 := by
  induction k with
  | zero => simp [lenW]
  | succ k ih =>
    have ih := ih (by omega)
    rw [List.pairwise_iff_getElem] at hr
    have hlt := hr k (k + 1) (by omega) hk (by omega)
    have e1 : is.getD k 0 = is[k] := by simp [List.getD, List.getElem?_eq_getElem (show k < is.length by omega)]
    have e2 : is.getD (k + 1) 0 = is[k + 1] := by simp [List.getD, List.getElem?_eq_getElem hk]
    have g1 : getF (atF l is) k = getF l is[k] := by simp [getF, atF, List.getD, List.getElem?_eq_getElem (show k < is.length by omega)]
    have g2 : getF (atF l is) (k + 1) = getF l is[k + 1] := by simp [getF, atF, List.getD, List.getElem?_eq_getElem hk]
    have hd := dst_le l is[k] is[k + 1] (by omega)
    simp only [lenW, g1, g2]
    rw [e1] at ih
    rw [e2]
    omega
end Go.Proofs.YtdkldbfhbpmjgaaGreatDoor
