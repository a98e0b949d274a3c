/- Fences as the maker checks them: what its answers say. -/
import Derived.Test.YthplhibdapjjgaaGreatDoorFeR
namespace Go.Proofs.YthplhibdapjjgaaGreatDoor
open Go.RowKit

def owB (a b s : Pt) : Bool := decide (sgI (sd a b s) = 0) && decide (dotP (mnP a s) (mnP b s) ≤ 0)


theorem sg_rng (x : Int) : -1 ≤ sgI x ∧ sgI x ≤ 1 := by
  unfold sgI
  split
  · omega
  · split <;> omega
theorem sg_zero {x : Int} : sgI x = 0 ↔ x = 0 := by
  unfold sgI
  split
  · omega
  · split <;> omega
theorem sg_opp {x y : Int} : sgI x * sgI y < 0 ↔ opp x y := by
  unfold sgI opp
  split
  · split
    · simp; omega
    · split
      · simp; omega
      · simp; omega
  · split
    · split
      · simp; omega
      · split
        · simp; omega
        · simp; omega
    · simp; omega
theorem btw_prod {a b s : Int} (h1 : min a b ≤ s) (h2 : s ≤ max a b) : (a - s) * (b - s) ≤ 0 := by
  rcases Int.le_total a b with h | h
  · exact Int.mul_nonpos_of_nonpos_of_nonneg (by omega) (by omega)
  · exact Int.mul_nonpos_of_nonneg_of_nonpos (by omega) (by omega)
theorem ow_on {a b s : Pt} (h : OnW a b s) : owB a b s = true := by
  obtain ⟨h0, h1, h2, h3, h4⟩ := h
  have e1 := btw_prod h1 h2
  have e2 := btw_prod h3 h4
  unfold owB
  rw [decide_eq_true (sg_zero.2 h0), decide_eq_true (by unfold dotP mnP; simp only; omega)]
  rfl
def toB (a b c d : Pt) : Bool := owB a b c || owB a b d || owB c d a || owB c d b || decide (opp (sd a b c) (sd a b d) ∧ opp (sd c d a) (sd c d b))
theorem to_me {a b c d : Pt} (h : Meets a b c d) : toB a b c d = true := by
  unfold toB
  rcases h with h | h | h | h | h
  · rw [ow_on h]; rfl
  · rw [ow_on h]; simp
  · rw [ow_on h]; simp
  · rw [ow_on h]; simp
  · rw [decide_eq_true h]; simp
end Go.Proofs.YthplhibdapjjgaaGreatDoor
