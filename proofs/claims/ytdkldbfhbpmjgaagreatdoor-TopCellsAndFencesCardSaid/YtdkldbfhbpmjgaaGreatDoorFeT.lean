/- Fences that touch: the plain law. -/
import Derived.Test.YtdkldbfhbpmjgaaGreatDoorFeD
namespace Go.Proofs.YtdkldbfhbpmjgaaGreatDoor
open Go.RowKit

theorem tcB_inn {l m : List Pt} {p : Pt} (h1 : Inn l p) (h2 : Inn m p) : tcB l m = true := by
  unfold tcB
  rcases inn_touch h1 h2 with h | h | ⟨i, hi, j, hj, h⟩
  · rw [decide_eq_true ((whI_inn l _).2 h)]; rfl
  · rw [decide_eq_true ((whI_inn m _).2 h)]; simp
  · have : anyN (fun i => anyN (fun j => meB (ed1 l i) (ed2 l i) (ed1 m j) (ed2 m j)) m.length) l.length = true := anyN_of hi (anyN_of hj (meB_iff.2 h))
    rw [this]; simp

theorem tcB_iff {l m : List Pt} : tcB l m = true ↔ Inn l (gp m 0) ∨ Inn m (gp l 0) ∨ ∃ i, i < l.length ∧ ∃ j, j < m.length ∧ Meets (ed1 l i) (ed2 l i) (ed1 m j) (ed2 m j) := by
  unfold tcB
  rw [Bool.or_eq_true, Bool.or_eq_true, decide_eq_true_iff, decide_eq_true_iff, whI_inn, whI_inn, anyN_iff, or_assoc]
  simp only [anyN_iff, meB_iff]
theorem tcB_symm (l m : List Pt) : tcB m l = tcB l m := by
  rw [Bool.eq_iff_iff, tcB_iff, tcB_iff]
  constructor
  · rintro (h | h | ⟨i, hi, j, hj, h⟩)
    · exact .inr (.inl h)
    · exact .inl h
    · exact .inr (.inr ⟨j, hj, i, hi, h.symm⟩)
  · rintro (h | h | ⟨i, hi, j, hj, h⟩)
    · exact .inr (.inl h)
    · exact .inl h
    · exact .inr (.inr ⟨j, hj, i, hi, h.symm⟩)
theorem tcB_self {l : List Pt} (h : 0 < l.length) : tcB l l = true := tcB_iff.2 (.inl (.inl ⟨0, h, on_start _ _⟩))
end Go.Proofs.YtdkldbfhbpmjgaaGreatDoor
