/- A sorted list, each name once: the plain law of slices.CompactFunc; no program in sight. -/
import Derived.Test.YtccbblnlmggjbaaGreatDoorCeP
namespace Go.Proofs.YtccbblnlmggjbaaGreatDoor

/-- What is kept after j elements. -/
def CpI (l P : List Ce) (j : Nat) : Prop := P.Pairwise (fun x y => x.1 < y.1) ∧ (∀ x ∈ P, x ∈ l) ∧ (∀ x ∈ P, ∀ z, l[j - 1]? = some z → x.1 ≤ z.1)
theorem CpI.start {l : List Ce} {x : Ce} (h : l[0]? = some x) : CpI l (l.take 1) 1 := by
  cases l with
  | nil => simp at h
  | cons y l =>
    refine ⟨by simp, by simp, ?_⟩
    intro a ha z hz
    simp at ha hz
    rw [ha, hz]
    exact Nat.le_refl _
theorem sorted_get {l : List Ce} (h : l.Pairwise (fun x y => x.1 ≤ y.1)) {i j : Nat} {x y : Ce} (hi : l[i]? = some x) (hj : l[j]? = some y) (hij : i ≤ j) : x.1 ≤ y.1 := by
  obtain ⟨h1, rfl⟩ := List.getElem?_eq_some_iff.1 hi
  obtain ⟨h2, rfl⟩ := List.getElem?_eq_some_iff.1 hj
  rcases Nat.lt_or_eq_of_le hij with hl | hl
  · exact (List.pairwise_iff_getElem.1 h) i j h1 h2 hl
  · subst hl; exact Nat.le_refl _
theorem CpI.same {l P : List Ce} {j : Nat} (hs : l.Pairwise (fun x y => x.1 ≤ y.1)) (h : CpI l P j) (hj : 1 ≤ j) {x y : Ce} (hx : l[j]? = some x) (hy : l[j - 1]? = some y) : CpI l P (j + 1) := by
  refine ⟨h.1, h.2.1, ?_⟩
  intro a ha z hz
  rw [Nat.add_sub_cancel, hx] at hz
  cases hz
  have h1 := h.2.2 a ha y hy
  have h2 := sorted_get hs hy hx (by omega)
  omega
theorem CpI.new {l P : List Ce} {j : Nat} (hs : l.Pairwise (fun x y => x.1 ≤ y.1)) (h : CpI l P j) (hj : 1 ≤ j) {x y : Ce} (hx : l[j]? = some x) (hy : l[j - 1]? = some y) (hne : x.1 ≠ y.1) : CpI l (P ++ [x]) (j + 1) := by
  have h2 := sorted_get hs hy hx (by omega)
  refine ⟨?_, ?_, ?_⟩
  · rw [List.pairwise_append]
    refine ⟨h.1, List.pairwise_singleton _ _, ?_⟩
    intro a ha b hb
    rw [List.mem_singleton] at hb
    subst hb
    have h1 := h.2.2 a ha y hy
    omega
  · intro a ha
    rw [List.mem_append, List.mem_singleton] at ha
    rcases ha with ha | rfl
    · exact h.2.1 a ha
    · exact List.mem_of_getElem? hx
  · intro a ha z hz
    rw [Nat.add_sub_cancel, hx] at hz
    cases hz
    rw [List.mem_append, List.mem_singleton] at ha
    rcases ha with ha | rfl
    · have h1 := h.2.2 a ha y hy
      omega
    · exact Nat.le_refl _
/-- What the row holds. -/
def cpR (l P : List Ce) : List Ce := P ++ l.drop P.length
theorem cpR_len {l P : List Ce} (h : P.length ≤ l.length) : (cpR l P).length = l.length := by
  unfold cpR
  rw [List.length_append, List.length_drop]; omega
theorem cpR_get {l P : List Ce} {j : Nat} (h : P.length ≤ j) : (cpR l P)[j]? = l[j]? := by
  unfold cpR
  rw [List.getElem?_append_right h, List.getElem?_drop]
  congr 1; omega
theorem cpR_take (l : List Ce) (k : Nat) (h : k ≤ l.length) : cpR l (l.take k) = l := by
  unfold cpR
  rw [List.length_take, Nat.min_eq_left h, List.take_append_drop]
theorem cpR_set {l P : List Ce} {x : Ce} (h : P.length < l.length) : (cpR l P).set P.length x = cpR l (P ++ [x]) := by
  unfold cpR
  rw [List.set_append_right _ _ (Nat.le_refl _), Nat.sub_self, List.length_append, List.length_singleton, List.append_assoc]
  congr 1
  rw [List.drop_eq_getElem_cons h, List.set_cons_zero]
  rfl
theorem cpR_prefix (l P : List Ce) : (cpR l P).take P.length = P := by
  unfold cpR
  rw [List.take_left']
  rfl
end Go.Proofs.YtccbblnlmggjbaaGreatDoor
