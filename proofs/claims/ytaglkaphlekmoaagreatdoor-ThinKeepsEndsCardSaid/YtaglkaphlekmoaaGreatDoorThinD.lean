/- What Thin hands back, as data. -/
import Derived.Test.YtaglkaphlekmoaaGreatDoorThinC
namespace Go.Proofs.YtaglkaphlekmoaaGreatDoor
open Go.RowKit

/-- The measurements with some numbers. -/
def atI (l : List Smp) (is : List Nat) : List Smp := is.map fun i => l.getD i (0, 0)
theorem atI_snoc (l : List Smp) (is : List Nat) (i : Nat) : atI l (is ++ [i]) = atI l is ++ [l.getD i (0, 0)] := by simp [atI]
theorem atI_length (l : List Smp) (is : List Nat) : (atI l is).length = is.length := by simp [atI]
theorem atI_get (l : List Smp) (is : List Nat) (k i : Nat) (h : is[k]? = some i) (hi : i < l.length) : (atI l is)[k]? = l[i]? := by
  simp [atI, h, List.getD, List.getElem?_eq_getElem hi]
theorem atI_mem (l : List Smp) (is : List Nat) (hlt : ∀ i ∈ is, i < l.length) : ∀ x ∈ atI l is, x ∈ l := by
  intro x hx
  simp only [atI, List.mem_map] at hx
  obtain ⟨i, hi, rfl⟩ := hx
  simp [List.getD, List.getElem?_eq_getElem (hlt i hi)]
theorem atI_range (l : List Smp) : atI l (List.range l.length) = l := by
  refine List.ext_getElem? fun k => ?_
  by_cases hk : k < l.length
  · rw [atI_get l (List.range l.length) k k (by simp [hk]) hk]
  · rw [List.getElem?_eq_none (by rw [atI_length]; simp; omega), List.getElem?_eq_none (by omega)]
theorem goodS_pairwise {l : List Smp} (h : GoodS l) : ∀ i j : Nat, i < j → ∀ (x y : Smp), l[i]? = some x → l[j]? = some y → x.1 < y.1 := by
  intro i j hij
  induction j with
  | zero => omega
  | succ j ih =>
    intro x y hx hy
    have hj : j < l.length := by have := (List.getElem?_eq_some_iff.1 hy).1; omega
    have h1 := h.rise j l[j] y (List.getElem?_eq_getElem hj) hy
    rcases Nat.lt_or_ge i j with h2 | h2
    · have := ih h2 x l[j] hx (List.getElem?_eq_getElem hj); omega
    · obtain rfl : i = j := by omega
      rw [List.getElem?_eq_getElem hj] at hx
      injection hx with hx
      rw [← hx]; exact h1
theorem atI_good (l : List Smp) (is : List Nat) (h : GoodS l) (hr : is.Pairwise (· < ·)) (hlt : ∀ i ∈ is, i < l.length) (hn : is.length ≤ 5000) : GoodS (atI l is) := by
  have hk : ∀ (k : Nat) (x : Smp), (atI l is)[k]? = some x → ∃ i, is[k]? = some i ∧ l[i]? = some x := by
    intro k x hx
    have hkl : k < is.length := by have := (List.getElem?_eq_some_iff.1 hx).1; rw [atI_length] at this; exact this
    refine ⟨is[k], List.getElem?_eq_getElem hkl, ?_⟩
    rw [← atI_get l is k is[k] (List.getElem?_eq_getElem hkl) (hlt _ (List.getElem_mem hkl))]
    exact hx
  refine ⟨by rw [atI_length]; exact hn, ?_, ?_, ?_⟩
  · intro k x hx
    obtain ⟨i, _, h2⟩ := hk k x hx
    exact h.at_ i x h2
  · intro k x hx
    obtain ⟨i, _, h2⟩ := hk k x hx
    exact h.val i x h2
  · intro k x y hx hy
    obtain ⟨i, h1, h2⟩ := hk k x hx
    obtain ⟨j, h3, h4⟩ := hk (k + 1) y hy
    obtain ⟨a1, a2⟩ := List.getElem?_eq_some_iff.1 h1
    obtain ⟨b1, b2⟩ := List.getElem?_eq_some_iff.1 h3
    rw [List.pairwise_iff_getElem] at hr
    have := hr k (k + 1) a1 b1 (by omega)
    rw [a2, b2] at this
    exact goodS_pairwise h i j this x y h2 h4

/-- Numbers of some of n measurements that rise, from the first to the last one. -/
structure Kept (is : List Nat) (len n : Nat) : Prop where
  len : is.length = len
  rise : is.Pairwise (· < ·)
  lt : ∀ i ∈ is, i < n
  head : 0 < n → is.head? = some 0
  last : 0 < n → is.getLast? = some (n - 1)
theorem kept_range (n : Nat) : Kept (List.range n) n n := by
  refine ⟨by simp, List.pairwise_lt_range, by simp, ?_, ?_⟩
  · intro h; cases n <;> simp_all [List.range_succ_eq_map]
  · intro h; cases n <;> simp_all [List.range_succ]
end Go.Proofs.YtaglkaphlekmoaaGreatDoor
