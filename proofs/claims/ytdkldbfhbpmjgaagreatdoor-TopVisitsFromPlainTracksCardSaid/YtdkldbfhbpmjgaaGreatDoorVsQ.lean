/- VisitsAreApart: where a device surely was, in plain words. -/
import Derived.Test.YtdkldbfhbpmjgaaGreatDoorTpK
import Derived.Test.YtdkldbfhbpmjgaaGreatDoorFeD
namespace Go.Proofs.YtdkldbfhbpmjgaaGreatDoor
open Go.RowKit

/-- A corner as a fix. -/
def ptF (p : Pt) : Fx := (0, p.1, p.2, 0)
instance decNearW (far : Int) (a b s : Fx) : Decidable (nearW far a b s) := by unfold nearW; infer_instance
def nearB (far : Int) (a b s : Fx) : Bool := decide (nearW far a b s)
theorem farIs_near {far : Int} {a b s : Fx} {p q : Int} (h : farIs a b s p q) : far * far * q < p ↔ nearB far a b s = false := by
  unfold nearB
  rw [decide_eq_false_iff_not]
  constructor
  · intro hlt hn
    unfold farIs at h
    unfold nearW at hn
    by_cases h1 : alongW a b s ≤ 0
    · rw [if_pos h1] at h hn
      rw [sq2_symm, ← h.1] at hn
      rw [h.2] at hlt
      omega
    · rw [if_neg h1] at h hn
      by_cases h2 : longW a b ≤ alongW a b s
      · rw [if_pos h2] at h hn
        rw [sq2_symm, ← h.1] at hn
        rw [h.2] at hlt
        omega
      · rw [if_neg h2] at h hn
        obtain ⟨g, g1, g2, g3, g4⟩ := h
        rw [← g2, ← g3] at hn
        have e : far * far * (q * g) = far * far * q * g := by rw [Int.mul_assoc, Int.mul_assoc, Int.mul_assoc]
        rw [e] at hn
        have := Int.le_of_mul_le_mul_right hn (by omega)
        omega
  · intro hn
    rcases Int.lt_or_le (far * far * q) p with h1 | h1
    · exact h1
    · exact absurd (nearW_of h h1) hn
/-- The lesser of two fractions is greater than a number just if both are. -/
theorem min_frac {E p q p' q' : Int} (hq : 1 ≤ q) (hq' : 1 ≤ q') (h : p' * q < p * q') : (E * q' < p' ↔ (E * q < p ∧ E * q' < p')) := by
  constructor
  · intro h1
    refine ⟨?_, h1⟩
    have h2 : E * q' * q < p' * q := Int.mul_lt_mul_of_pos_right h1 (by omega)
    have h3 : E * q * q' < p * q' := by
      have : E * q * q' = E * q' * q := by rw [Int.mul_assoc, Int.mul_comm q q', ← Int.mul_assoc]
      omega
    exact Int.lt_of_mul_lt_mul_right h3 (by omega)
  · exact fun h => h.2
theorem min_frac2 {E p q p' q' : Int} (hq : 1 ≤ q) (hq' : 1 ≤ q') (h : ¬ p' * q < p * q') : (E * q < p ↔ (E * q < p ∧ E * q' < p')) := by
  constructor
  · intro h1
    refine ⟨h1, ?_⟩
    have h2 : E * q * q' < p * q' := Int.mul_lt_mul_of_pos_right h1 (by omega)
    have h3 : E * q' * q < p' * q := by
      have : E * q * q' = E * q' * q := by rw [Int.mul_assoc, Int.mul_comm q q', ← Int.mul_assoc]
      omega
    exact Int.lt_of_mul_lt_mul_right h3 (by omega)
  · exact fun h => h.1
/-- Where a device surely was: 0 outside, 2 within, 3 nobody knows. -/
def sureW (l : List Pt) (x : Fx) : Int := if whI l (x.2.1, x.2.2.1) = 1 then 3 else if anyN (fun k => nearB x.2.2.2 (ptF (ed1 l k)) (ptF (ed2 l k)) x) l.length = true then 3 else whI l (x.2.1, x.2.2.1)
end Go.Proofs.YtdkldbfhbpmjgaaGreatDoor
