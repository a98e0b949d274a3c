/- Buckets of a series as data: the plain law. -/
import Derived.Test.YtaglkaphlekmoaaGreatDoorBktD
import Derived.Test.YtaglkaphlekmoaaGreatDoorSer2
namespace Go.Proofs.YtaglkaphlekmoaaGreatDoor
open Go.RowKit

theorem snoc_ind {α : Type} {p : List α → Prop} (h0 : p []) (h1 : ∀ l s, p l → p (l ++ [s])) (l : List α) : p l := by
  have h : ∀ r : List α, p r.reverse := by
    intro r
    induction r with
    | nil => exact h0
    | cons x r ih => rw [List.reverse_cons]; exact h1 _ _ ih
  have := h l.reverse
  rwa [List.reverse_reverse] at this
/-- What series.added answers. -/
def addB (l : List Bkt) (b : Bkt) : List Bkt := match l.getLast? with
  | none => [b]
  | some x => if x.fr = b.fr then l.dropLast ++ [mergeB x b] else l ++ [b]
theorem addB_nil (b : Bkt) : addB [] b = [b] := rfl
theorem addB_same (l : List Bkt) (x b : Bkt) (h : x.fr = b.fr) : addB (l ++ [x]) b = l ++ [mergeB x b] := by simp [addB, h]
theorem addB_new (l : List Bkt) (x b : Bkt) (h : x.fr ≠ b.fr) : addB (l ++ [x]) b = l ++ [x, b] := by simp [addB, h]
theorem addB_length (l : List Bkt) (b : Bkt) : (addB l b).length ≤ l.length + 1 := by
  rcases List.eq_nil_or_concat l with rfl | ⟨l, x, rfl⟩
  · simp [addB]
  · rw [List.concat_eq_append]
    by_cases h : x.fr = b.fr
    · rw [addB_same _ _ _ h]; simp
    · rw [addB_new _ _ _ h]; simp

/-- The bucket of one sample in a grid of length L. -/
def smpB (L : Int) (s : Smp) : Bkt := ⟨s.1 / L * L, s.1 / L * L + L, 1, s.2, s.2, s.2, s.2, s.2⟩
def bktsOf (L : Int) (l : List Smp) : List Bkt := l.foldl (fun bs s => addB bs (smpB L s)) []
theorem bktsOf_snoc (L : Int) (l : List Smp) (s : Smp) : bktsOf L (l ++ [s]) = addB (bktsOf L l) (smpB L s) := by simp [bktsOf]

/-- What is so of each bucket of k samples. -/
structure BOk (L : Int) (k : Nat) (x : Bkt) : Prop where
  to_ : x.to_ = x.fr + L
  c0 : 1 ≤ x.cnt
  c1 : x.cnt ≤ k
  s0 : -(1000000000 * (k : Int)) ≤ x.sum
  s1 : x.sum ≤ 1000000000 * (k : Int)
theorem BOk.mono {L : Int} {k m : Nat} {x : Bkt} (h : BOk L k x) (hk : k ≤ m) : BOk L m x :=
  ⟨h.to_, h.c0, by have := h.c1; omega, by have := h.s0; omega, by have := h.s1; omega⟩
theorem BOk.merge {L : Int} {k m : Nat} {x b : Bkt} (h : BOk L k x) (h' : BOk L m b) : BOk L (k + m) (mergeB x b) := by
  refine ⟨h.to_, ?_, ?_, ?_, ?_⟩ <;> simp only [mergeB] <;> have := h.c0 <;> have := h.c1 <;> have := h.s0 <;> have := h.s1 <;> have := h'.c0 <;> have := h'.c1 <;> have := h'.s0 <;> have := h'.s1 <;> omega
theorem addB_ok {L : Int} {k m : Nat} {l : List Bkt} {b : Bkt} (h : ∀ x ∈ l, BOk L k x) (hb : BOk L m b) : ∀ x ∈ addB l b, BOk L (k + m) x := by
  intro y hy
  rcases List.eq_nil_or_concat l with rfl | ⟨l, x, rfl⟩
  · simp only [addB_nil, List.mem_singleton] at hy
    subst hy; exact hb.mono (by omega)
  · rw [List.concat_eq_append] at hy h
    by_cases e : x.fr = b.fr
    · rw [addB_same _ _ _ e, List.mem_append, List.mem_singleton] at hy
      rcases hy with hy | rfl
      · exact (h y (by simp [hy])).mono (by omega)
      · exact (h x (by simp)).merge hb
    · rw [addB_new _ _ _ e] at hy
      simp only [List.mem_append, List.mem_cons, List.not_mem_nil, or_false] at hy
      rcases hy with hy | rfl | rfl
      · exact (h y (by simp [hy])).mono (by omega)
      · exact (h y (by simp)).mono (by omega)
      · exact hb.mono (by omega)
theorem smpB_ok (L : Int) (s : Smp) (h1 : -1000000000 ≤ s.2) (h2 : s.2 ≤ 1000000000) : BOk L 1 (smpB L s) := ⟨rfl, by simp [smpB], by simp [smpB], by simp [smpB]; omega, by simp [smpB]; omega⟩
theorem bktsOf_ok (L : Int) (l : List Smp) (hv : ∀ s ∈ l, -1000000000 ≤ s.2 ∧ s.2 ≤ 1000000000) : ∀ x ∈ bktsOf L l, BOk L l.length x := by
  revert hv
  refine snoc_ind (p := fun l => (∀ s ∈ l, -1000000000 ≤ s.2 ∧ s.2 ≤ 1000000000) → ∀ x ∈ bktsOf L l, BOk L l.length x) ?_ ?_ l
  · intro _ x hx; simp [bktsOf] at hx
  · intro l s ih hv
    rw [bktsOf_snoc, List.length_append]
    exact addB_ok (ih fun y hy => hv y (by simp [hy])) (smpB_ok L s (hv s (by simp)).1 (hv s (by simp)).2)
theorem bktsOf_length (L : Int) (l : List Smp) : (bktsOf L l).length ≤ l.length := by
  refine snoc_ind (p := fun l => (bktsOf L l).length ≤ l.length) ?_ ?_ l
  · simp [bktsOf]
  · intro l s ih
    rw [bktsOf_snoc, List.length_append]
    have := addB_length (bktsOf L l) (smpB L s)
    simp only [List.length_cons, List.length_nil]
    omega
end Go.Proofs.YtaglkaphlekmoaaGreatDoor
