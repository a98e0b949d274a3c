/- Which cells are visible, as data: what is visible is good. -/
import Derived.Test.YtccbblnlmggjbaaGreatDoorCeP
import Derived.Test.YtccbblnlmggjbaaGreatDoorMgB
import Derived.Test.YtccbblnlmggjbaaGreatDoorPrZ
namespace Go.Proofs.YtccbblnlmggjbaaGreatDoor
open Go.RowKit

/-- The name of rank i is below that of rank j. -/
def blN (i j : Nat) : Bool := (ups i).contains j
def hasV (x : Ce) : Bool := !decide (x.2.1 = pvNone)
/-- x hides y. -/
def hdF (x y : Ce) : Bool :=
  if sk y.2.2 < sk x.2.2 then blN y.1 x.1 || (blN x.1 y.1 && hasV y) else if sk x.2.2 = sk y.2.2 then blN y.1 x.1 && hasV x && hasV y else false
def isVi (l : List Ce) (y : Ce) : Bool := hasV y && !l.any (fun x => hdF x y)
def viF (l : List Ce) : List Pr := (l.filter (isVi l)).map (fun y => (y.1, y.2.1))
theorem viF_good {l : List Ce} (h : CsOk l) : PrsGood (viF l) := by
  refine ⟨⟨?_, ?_⟩, ?_⟩
  · unfold viF
    rw [List.pairwise_map]
    exact h.1.filter _
  · intro x hx
    unfold viF at hx
    rw [List.mem_map] at hx
    obtain ⟨y, hy, rfl⟩ := hx
    rw [List.mem_filter] at hy
    have hy2 := hy.2
    unfold isVi hasV at hy2
    have hne : y.2.1 ≠ pvNone := by
      intro e
      simp [e] at hy2
    exact ⟨(h.2 y hy.1).1, (h.2 y hy.1).2.1.resolve_left hne⟩
  · refine cpF_no (fun k p hp => ?_)
    have hp' := List.mem_of_getElem? hp
    unfold viF at hp'
    rw [List.mem_map] at hp'
    obtain ⟨y, hy, rfl⟩ := hp'
    rw [List.mem_filter] at hy
    unfold abvF
    rw [List.any_eq_false]
    intro j hj hin
    unfold inF at hin
    rw [List.any_eq_true] at hin
    obtain ⟨q, hq, e⟩ := hin
    unfold viF at hq
    rw [List.mem_map] at hq
    obtain ⟨z, hz, rfl⟩ := hq
    rw [List.mem_filter] at hz
    have e' : z.1 = j := by simpa using e
    have hb : blN y.1 z.1 = true := by
      unfold blN
      rw [List.contains_iff_mem, e']
      exact hj
    obtain ⟨hy1, hy2⟩ := hy
    obtain ⟨hz1, hz2⟩ := hz
    unfold isVi at hy2 hz2
    rw [Bool.and_eq_true, Bool.not_eq_true', List.any_eq_false] at hy2 hz2
    have h1 := hy2.2 z hz1
    have h2 := hz2.2 y hy1
    unfold hdF at h1 h2
    rcases Int.lt_trichotomy (sk y.2.2) (sk z.2.2) with hc | hc | hc
    · rw [if_pos hc, hb] at h1
      simp at h1
    · rw [if_neg (by omega), if_pos hc.symm, hb, hy2.1, hz2.1] at h1
      simp at h1
    · rw [if_pos hc, hb, hz2.1] at h2
      simp at h2
end Go.Proofs.YtccbblnlmggjbaaGreatDoor
