/- VisitsAreApart: the plain law of visits. -/
import Derived.Test.YtldlfgaaolehoaaGreatDoorFxD
namespace Go.Proofs.YtldlfgaaolehoaaGreatDoor
open Go.RowKit

/-- A visit: from, to. -/
abbrev Vis := Int × Int
def viC (v : Vis) : List Value := [.int .i64 v.1, .int .i64 v.2]
theorem viC_len (v : Vis) : (viC v).length = 2 := rfl
theorem viC_one (v : Vis) : ∀ u ∈ viC v, u.oneCell' = true := by
  intro u hu
  simp only [viC, List.mem_cons, List.not_mem_nil, or_false] at hu
  rcases hu with rfl | rfl <;> rfl
/-- Visits as they stand behind k fixes; cls says where a device surely was. -/
structure VOk (cls : Fx → Int) (l : List Fx) (k : Nat) (S : List Vis) : Prop where
  len : S.length ≤ k
  from_ : ∀ (j : Nat) (v : Vis), S[j]? = some v → ∃ (i : Nat) (x : Fx), i < k ∧ l[i]? = some x ∧ x.1 = v.1 ∧ cls x = 2
  to_ : ∀ (j : Nat) (v : Vis), S[j]? = some v → (v.2 = -1 ∧ j + 1 = S.length) ∨ (v.1 < v.2 ∧ ∃ (i : Nat) (x : Fx), i < k ∧ l[i]? = some x ∧ x.1 = v.2 ∧ cls x = 0)
  ord : ∀ (j : Nat) (v u : Vis), S[j]? = some v → S[j + 1]? = some u → v.2 < u.1
theorem VOk.nil (cls : Fx → Int) (l : List Fx) : VOk cls l 0 [] := ⟨by simp, by simp, by simp, by simp⟩
theorem VOk.keep {cls : Fx → Int} {l : List Fx} {k : Nat} {S : List Vis} (h : VOk cls l k S) : VOk cls l (k + 1) S := by
  refine ⟨by have := h.len; omega, ?_, ?_, h.ord⟩
  · intro j v hv
    obtain ⟨i, x, h1, h2⟩ := h.from_ j v hv
    exact ⟨i, x, by omega, h2⟩
  · intro j v hv
    rcases h.to_ j v hv with h1 | ⟨h0, i, x, h1, h2⟩
    · exact .inl h1
    · exact .inr ⟨h0, i, x, by omega, h2⟩
theorem snoc_cases {α : Type} {S : List α} {y v : α} {j : Nat} (h : (S ++ [y])[j]? = some v) : (j < S.length ∧ S[j]? = some v) ∨ (j = S.length ∧ v = y) := by
  rcases Nat.lt_trichotomy j S.length with h1 | h1 | h1
  · rw [List.getElem?_append_left h1] at h
    exact .inl ⟨h1, h⟩
  · subst h1
    simp at h
    exact .inr ⟨rfl, h.symm⟩
  · rw [List.getElem?_append_right (by omega)] at h
    have h2 := (List.getElem?_eq_some_iff.1 h).1
    simp at h2
    omega
theorem VOk.begin {cls : Fx → Int} {l : List Fx} {k : Nat} {S : List Vis} {x : Fx} (h : VOk cls l k S) (hg : GoodF l) (hx : l[k]? = some x) (hc : cls x = 2) (ho : ∀ (v : Vis), S[S.length - 1]? = some v → 0 ≤ v.2) : VOk cls l (k + 1) (S ++ [(x.1, -1)]) := by
  have hk := h.keep
  have hcl : ∀ (j : Nat) (v : Vis), j < S.length → S[j]? = some v → v.1 < v.2 ∧ ∃ (i : Nat) (x : Fx), i < k ∧ l[i]? = some x ∧ x.1 = v.2 ∧ cls x = 0 := by
    intro j v hj hv
    rcases h.to_ j v hv with ⟨h1, h2⟩ | h1
    · obtain rfl : j = S.length - 1 := by omega
      have := ho v hv
      omega
    · exact h1
  refine ⟨by simp; exact h.len, ?_, ?_, ?_⟩
  · intro j v hv
    rcases snoc_cases hv with ⟨h1, h2⟩ | ⟨h1, h2⟩
    · exact hk.from_ j v h2
    · exact ⟨k, x, by omega, hx, by rw [h2], hc⟩
  · intro j v hv
    rcases snoc_cases hv with ⟨h1, h2⟩ | ⟨h1, h2⟩
    · obtain ⟨g1, i, y, g2, g3⟩ := hcl j v h1 h2
      exact .inr ⟨g1, i, y, by omega, g3⟩
    · exact .inl ⟨by rw [h2], by simp [h1]⟩
  · intro j v u hv hu
    rcases snoc_cases hu with ⟨h1, h2⟩ | ⟨h1, h2⟩
    · rw [List.getElem?_append_left (by omega)] at hv
      exact h.ord j v u hv h2
    · rcases snoc_cases hv with ⟨g1, g2⟩ | ⟨g1, g2⟩
      · obtain ⟨_, i, y, q1, q2, q3, _⟩ := hcl j v g1 g2
        have := hg.lt q1 q2 hx
        rw [h2]
        simp only
        omega
      · omega
theorem VOk.close {cls : Fx → Int} {l : List Fx} {k : Nat} {T : List Vis} {f : Int} {x : Fx} (h : VOk cls l k (T ++ [(f, -1)])) (hg : GoodF l) (hx : l[k]? = some x) (hc : cls x = 0) : VOk cls l (k + 1) (T ++ [(f, x.1)]) := by
  have hk := h.keep
  have hlen := h.len
  simp only [List.length_append, List.length_singleton] at hlen
  refine ⟨by simp; omega, ?_, ?_, ?_⟩
  · intro j v hv
    rcases snoc_cases hv with ⟨h1, h2⟩ | ⟨h1, h2⟩
    · exact hk.from_ j v (by rw [List.getElem?_append_left h1]; exact h2)
    · have := hk.from_ j (f, -1) (by rw [h1]; simp)
      rw [h2]
      exact this
  · intro j v hv
    rcases snoc_cases hv with ⟨h1, h2⟩ | ⟨h1, h2⟩
    · rcases h.to_ j v (by rw [List.getElem?_append_left h1]; exact h2) with ⟨g1, g2⟩ | ⟨g1, i, y, g2, g3⟩
      · simp only [List.length_append, List.length_singleton] at g2
        omega
      · exact .inr ⟨g1, i, y, by omega, g3⟩
    · obtain ⟨i, y, g1, g2, g3, _⟩ := h.from_ j (f, -1) (by rw [h1]; simp)
      have := hg.lt g1 g2 hx
      simp only at g3
      rw [h2]
      exact .inr ⟨by simp only; omega, k, x, by omega, hx, rfl, hc⟩
  · intro j v u hv hu
    rcases snoc_cases hu with ⟨h1, h2⟩ | ⟨h1, h2⟩
    · rw [List.getElem?_append_left (by omega)] at hv
      exact h.ord j v u (by rw [List.getElem?_append_left (by omega)]; exact hv) (by rw [List.getElem?_append_left h1]; exact h2)
    · rcases snoc_cases hv with ⟨g1, g2⟩ | ⟨g1, g2⟩
      · have := h.ord j v (f, -1) (by rw [List.getElem?_append_left g1]; exact g2) (by rw [h1]; simp)
        rw [h2]
        exact this
      · omega
theorem recs_close (T : List Vis) (f t a : Int) : (recs viC (T ++ [(f, t)])).set (T.length * 2 + 1) (.int .i64 a) = recs viC (T ++ [(f, a)]) := by
  rw [recs_snoc, recs_snoc]
  have h : (recs viC T).length = T.length * 2 := recs_length viC_len T
  rw [List.set_append_right _ _ (by omega), h]
  have e : T.length * 2 + 1 - T.length * 2 = 1 := by omega
  rw [e]
  rfl
/-- Empty, closed or open at its end. -/
theorem vis_cases (S : List Vis) : S = [] ∨ (∃ T u, S = T ++ [u]) := by
  rcases List.eq_nil_or_concat S with h | ⟨T, u, h⟩
  · exact .inl h
  · exact .inr ⟨T, u, by simpa using h⟩
end Go.Proofs.YtldlfgaaolehoaaGreatDoor
