/- TopVisitsFromPlainTracks: plain facts. -/
import Derived.Test.YtdkldbfhbpmjgaaGreatDoorTpK
import Derived.Test.YtdkldbfhbpmjgaaGreatDoorVsP
namespace Go.Proofs.YtdkldbfhbpmjgaaGreatDoor
open Go.RowKit

/-- Fixes at rising places are some of the fixes. -/
theorem atF_sub (l : List Fx) (is : List Nat) : ∀ k, is.Pairwise (· < ·) → (∀ i ∈ is, k ≤ i ∧ i < l.length) → (atF l is).Sublist (l.drop k) := by
  induction is with
  | nil => intro k _ _; exact List.nil_sublist _
  | cons i is ih =>
    intro k hp hk
    rw [List.pairwise_cons] at hp
    obtain ⟨hi1, hi2⟩ := hk i (by simp)
    have h1 := ih (i + 1) hp.2 (fun j hj => ⟨hp.1 j hj, (hk j (by simp [hj])).2⟩)
    have h2 : l.drop i = getF l i :: l.drop (i + 1) := by
      rw [List.drop_eq_getElem_cons hi2]
      congr 1
      simp [getF, List.getD, hi2]
    have h3 : (atF l (i :: is)).Sublist (l.drop i) := by
      rw [h2]
      exact h1.cons_cons _
    have h4 : (l.drop i).Sublist (l.drop k) := by
      have e : l.drop i = (l.drop k).drop (i - k) := by rw [List.drop_drop]; congr 1; omega
      rw [e]
      exact List.drop_sublist _ _
    exact h3.trans h4
theorem goodF_set {l : List Fx} (h : GoodF l) {j : Nat} {x y : Fx} (hx : l[j]? = some x) (he : y.1 = x.1) (hy : OkF y) : GoodF (l.set j y) := by
  refine ⟨by rw [List.length_set]; exact h.len, ?_, ?_⟩
  · intro z hz
    rcases List.mem_or_eq_of_mem_set hz with hz | hz
    · exact h.ok z hz
    · rw [hz]; exact hy
  · rw [List.pairwise_iff_getElem]
    intro a b ha hb hab
    rw [List.length_set] at ha hb
    have hr := h.rise
    rw [List.pairwise_iff_getElem] at hr
    have h0 := hr a b ha hb hab
    obtain ⟨hj, hjx⟩ := List.getElem?_eq_some_iff.1 hx
    rw [List.getElem_set, List.getElem_set]
    split
    · rename_i h1
      subst h1
      rw [if_neg (by omega), he]
      rw [hjx] at h0
      exact h0
    · split
      · rename_i h1 h2
        subst h2
        rw [he]
        rw [hjx] at h0
        exact h0
      · exact h0
theorem recs_set4 (l : List Fx) (i : Nat) (x : Fx) (a : Int) (hx : l[i]? = some x) : (recs fxC l).set (i * 5 + 4) (.int .i64 a) = recs fxC (l.set i (x.1, x.2.1, x.2.2.1, a)) := by
  induction l generalizing i with
  | nil => simp at hx
  | cons y l ih =>
    cases i with
    | zero =>
      simp only [List.getElem?_cons_zero, Option.some.injEq] at hx
      subst hx
      simp [recs, fxC]
    | succ i =>
      simp only [List.getElem?_cons_succ] at hx
      have h := ih i hx
      simp only [recs, List.flatMap_cons, List.set_cons_succ] at h ⊢
      rw [← h]
      have e : (i + 1) * 5 + 4 = (fxC y).length + (i * 5 + 4) := by rw [fxC_len]; omega
      rw [e, List.set_append_right _ _ (by omega)]
      congr 2
      omega
end Go.Proofs.YtdkldbfhbpmjgaaGreatDoor
