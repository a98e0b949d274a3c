/- Fences: the maker's own four fences are right; corners within bounds; plain. -/
import Derived.Test.YthplhibdapjjgaaGreatDoorFeI
namespace Go.Proofs.YthplhibdapjjgaaGreatDoor
open Go.RowKit

def dfl0 : List Pt := [(0, 0), (10, 0), (10, 10), (0, 10)]
def dfl1 : List Pt := [(0, 0), (10, 0), (10, 10), (5, 3), (0, 10)]
def dfl2 : List Pt := [(0, 10), (10, 10), (10, 0), (0, 0)]
def dfl3 : List Pt := [(0, 0), (8, 0), (8, 2), (2, 2), (2, 6), (8, 6), (8, 8), (0, 8)]
instance decPrOk (l : List Pt) (i k : Nat) : Decidable (PrOk l i k) := by unfold PrOk; infer_instance
theorem spN_of {s : Pt} (h : (decide (-10000 ≤ s.1) && decide (s.1 ≤ 10000) && decide (-10000 ≤ s.2) && decide (s.2 ≤ 10000)) = true) : SpN s := by
  simp only [Bool.and_eq_true, decide_eq_true_eq] at h
  exact ⟨h.1.1.1, h.1.1.2, h.1.2, h.2⟩
theorem fok_of {l : List Pt} (h1 : 3 ≤ l.length) (h2 : l.length ≤ 200) (h3 : l.all (fun s => decide (-10000 ≤ s.1) && decide (s.1 ≤ 10000) && decide (-10000 ≤ s.2) && decide (s.2 ≤ 10000)) = true) (h4 : l.Nodup)
    (h5 : ∀ i, i < l.length → ∀ k, k < l.length → PrOk l i k) : FOk l :=
  ⟨h1, h2, fun x hx => spN_of (List.all_eq_true.1 h3 x hx), h4, h5⟩
theorem dfl0_ok : FOk dfl0 := fok_of (by decide) (by decide) (by decide) (by decide) (by decide)
theorem dfl1_ok : FOk dfl1 := fok_of (by decide) (by decide) (by decide) (by decide) (by decide)
theorem dfl2_ok : FOk dfl2 := fok_of (by decide) (by decide) (by decide) (by decide) (by decide)
theorem dfl3_ok : FOk dfl3 := fok_of (by decide) (by decide) (by decide) (by decide) (by decide)
/-- Corners as the maker draws them, and as it keeps them. -/
def B1 (x : Pt) : Prop := -5 ≤ x.1 ∧ x.1 ≤ 20 ∧ -5 ≤ x.2 ∧ x.2 ≤ 20
def B2 (x : Pt) : Prop := -8000 ≤ x.1 ∧ x.1 ≤ 2000 ∧ -5 ≤ x.2 ∧ x.2 ≤ 20
instance decB2 (x : Pt) : Decidable (B2 x) := by unfold B2; infer_instance
theorem B1.two {x : Pt} (h : B1 x) : B2 x := by unfold B1 at h; unfold B2; omega
theorem B2.sp {x : Pt} (h : B2 x) : SpN x := by unfold B2 at h; exact ⟨by omega, by omega, by omega, by omega⟩
theorem recs_set0 (l : List Pt) (i : Nat) (x : Pt) (a : Int) (hx : l[i]? = some x) : (recs ptC l).set (i * 2) (.int .i64 a) = recs ptC (l.set i (a, x.2)) := by
  induction l generalizing i with
  | nil => simp at hx
  | cons y l ih =>
    cases i with
    | zero =>
      simp only [List.getElem?_cons_zero, Option.some.injEq] at hx
      subst hx
      simp [recs, ptC]
    | succ i =>
      simp only [List.getElem?_cons_succ] at hx
      have h := ih i hx
      simp only [recs, List.flatMap_cons, List.set_cons_succ] at h ⊢
      rw [← h]
      have e : (i + 1) * 2 = (ptC y).length + i * 2 := by rw [ptC_len]; omega
      rw [e, List.set_append_right _ _ (by omega)]
      congr 2
      omega
/-- The first j corners are changed. -/
structure Chg (l : List Pt) (N j : Nat) : Prop where
  len : l.length = N
  old : ∀ i x, l[i]? = some x → j ≤ i → B1 x
  all : ∀ x ∈ l, B2 x
theorem Chg.start {l : List Pt} {N : Nat} (h : l.length = N) (hb : ∀ x ∈ l, B1 x) : Chg l N 0 := ⟨h, fun _ x hx _ => hb x (List.mem_of_getElem? hx), fun x hx => (hb x hx).two⟩
theorem Chg.step {l : List Pt} {N j : Nat} {x : Pt} {a : Int} (h : Chg l N j) (hx : l[j]? = some x) (ha : -8000 ≤ a ∧ a ≤ 2000) : Chg (l.set j (a, x.2)) N (j + 1) := by
  have hb := h.old j x hx (Nat.le_refl _)
  unfold B1 at hb
  refine ⟨by rw [List.length_set]; exact h.len, ?_, ?_⟩
  · intro i y hy hi
    rw [List.getElem?_set_ne (by omega)] at hy
    exact h.old i y hy (by omega)
  · intro y hy
    rcases List.mem_or_eq_of_mem_set hy with hy | hy
    · exact h.all y hy
    · subst hy
      exact ⟨by simp only; omega, by simp only; omega, by simp only; omega, by simp only; omega⟩
end Go.Proofs.YthplhibdapjjgaaGreatDoor
