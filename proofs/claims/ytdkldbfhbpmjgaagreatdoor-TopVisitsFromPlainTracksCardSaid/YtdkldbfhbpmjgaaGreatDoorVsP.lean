/- VisitsAreApart: the plain law of visits. -/
import Derived.Test.YtdkldbfhbpmjgaaGreatDoorFxD
namespace Go.Proofs.YtdkldbfhbpmjgaaGreatDoor
open Go.RowKit

/-- A visit: from, to. -/
abbrev Vis := Int × Int
def viC (v : Vis) : List Value := [.int .i64 v.1, .int .i64 v.2]
theorem viC_len (v : Vis) : (viC v).length = 2 := rfl
theorem viC_one (v : Vis) : ∀ u ∈ viC v, u.oneCell' = true := by
  intro u hu
  simp only [viC, List.mem_cons, List.not_mem_nil, or_false] at hu
  rcases hu with rfl | rfl <;> rfl
/-- Has the last visit no end? -/
def opn (S : List Vis) : Bool := match S[S.length - 1]? with
  | some v => decide (v.2 < 0)
  | none => false
theorem opn_snoc (T : List Vis) (u : Vis) : opn (T ++ [u]) = decide (u.2 < 0) := by simp [opn]
theorem opn_no {S : List Vis} (h : ∀ (v : Vis), S[S.length - 1]? = some v → 0 ≤ v.2) : opn S = false := by
  unfold opn
  split
  · rename_i v hv
    have := h v hv
    rw [decide_eq_false_iff_not]; omega
  · rfl
/-- How many visits there are, and whether the last one goes on. -/
def vStep (cls : Fx → Int) (s : Nat × Bool) (x : Fx) : Nat × Bool := if cls x = 2 then (if s.2 = true then s else (s.1 + 1, true)) else if cls x = 0 then (s.1, false) else s
def visN (cls : Fx → Int) (L : List Fx) : Nat × Bool := L.foldl (vStep cls) (0, false)
theorem visN_take {cls : Fx → Int} {l : List Fx} {k : Nat} {x : Fx} (hx : l[k]? = some x) : visN cls (l.take (k + 1)) = vStep cls (visN cls (l.take k)) x := by
  unfold visN
  rw [List.take_add_one, hx, List.foldl_append]
  rfl
/-- The visits of some of the fixes are no more than those of all. -/
theorem visN_sub (cls : Fx → Int) {a b : List Fx} (h : a.Sublist b) : (visN cls a).1 ≤ (visN cls b).1 := by
  have : ∀ (s t : Nat × Bool), s.1 ≤ t.1 ∧ (s.1 = t.1 → t.2 = true → s.2 = true) → (a.foldl (vStep cls) s).1 ≤ (b.foldl (vStep cls) t).1 := by
    induction h with
    | slnil => exact fun s t h => h.1
    | cons x _ ih =>
      rintro ⟨n1, o1⟩ ⟨n2, o2⟩ hst
      refine ih _ _ ?_
      simp only at hst
      unfold vStep
      by_cases h2 : cls x = 2
      · rw [if_pos h2]
        cases o2 with
        | true => rw [if_pos rfl]; exact hst
        | false => rw [if_neg (by simp)]; exact ⟨by simp only; omega, fun h => by simp only at h; omega⟩
      · rw [if_neg h2]
        by_cases h0 : cls x = 0
        · rw [if_pos h0]; exact ⟨hst.1, fun _ h => by cases h⟩
        · rw [if_neg h0]; exact hst
    | cons_cons x _ ih =>
      rintro ⟨n1, o1⟩ ⟨n2, o2⟩ hst
      refine ih _ _ ?_
      simp only at hst
      unfold vStep
      by_cases h2 : cls x = 2
      · rw [if_pos h2, if_pos h2]
        cases o1 with
        | true =>
          rw [if_pos rfl]
          cases o2 with
          | true => rw [if_pos rfl]; exact ⟨hst.1, fun _ _ => rfl⟩
          | false => rw [if_neg (by simp)]; exact ⟨by simp only; omega, fun _ _ => rfl⟩
        | false =>
          rw [if_neg (by simp)]
          cases o2 with
          | true =>
            rw [if_pos rfl]
            refine ⟨?_, fun _ _ => rfl⟩
            simp only
            rcases Nat.lt_or_ge n1 n2 with h | h
            · omega
            · have := hst.2 (by omega) rfl
              cases this
          | false => rw [if_neg (by simp)]; exact ⟨by simp only; omega, fun _ _ => rfl⟩
      · rw [if_neg h2, if_neg h2]
        by_cases h0 : cls x = 0
        · rw [if_pos h0, if_pos h0]; exact ⟨hst.1, fun _ h => by cases h⟩
        · rw [if_neg h0, if_neg h0]; exact hst
  exact this _ _ ⟨Nat.le_refl _, fun _ h => by cases h⟩
/-- Visits as they stand behind k fixes; cls says where a device surely was. -/
structure VOk (cls : Fx → Int) (l : List Fx) (k : Nat) (S : List Vis) : Prop where
  len : S.length ≤ k
  from_ : ∀ (j : Nat) (v : Vis), S[j]? = some v → ∃ (i : Nat) (x : Fx), i < k ∧ l[i]? = some x ∧ x.1 = v.1 ∧ cls x = 2
  to_ : ∀ (j : Nat) (v : Vis), S[j]? = some v → (v.2 = -1 ∧ j + 1 = S.length) ∨ (v.1 < v.2 ∧ ∃ (i : Nat) (x : Fx), i < k ∧ l[i]? = some x ∧ x.1 = v.2 ∧ cls x = 0)
  ord : ∀ (j : Nat) (v u : Vis), S[j]? = some v → S[j + 1]? = some u → v.2 < u.1
  cnt : visN cls (l.take k) = (S.length, opn S)
theorem VOk.nil (cls : Fx → Int) (l : List Fx) : VOk cls l 0 [] := ⟨by simp, by simp, by simp, by simp, by simp [visN, opn]⟩
theorem VOk.keep {cls : Fx → Int} {l : List Fx} {k : Nat} {S : List Vis} {x : Fx} (h : VOk cls l k S) (hx : l[k]? = some x) (hc : (cls x = 2 → opn S = true) ∧ (cls x = 0 → opn S = false)) : VOk cls l (k + 1) S := by
  refine ⟨by have := h.len; omega, ?_, ?_, h.ord, ?_⟩
  · intro j v hv
    obtain ⟨i, x, h1, h2⟩ := h.from_ j v hv
    exact ⟨i, x, by omega, h2⟩
  · intro j v hv
    rcases h.to_ j v hv with h1 | ⟨h0, i, x, h1, h2⟩
    · exact .inl h1
    · exact .inr ⟨h0, i, x, by omega, h2⟩
  · rw [visN_take hx, h.cnt]
    unfold vStep
    by_cases h2 : cls x = 2
    · rw [if_pos h2, if_pos (hc.1 h2)]
    · rw [if_neg h2]
      by_cases h0 : cls x = 0
      · rw [if_pos h0, hc.2 h0]
      · rw [if_neg h0]
theorem snoc_cases {α : Type} {S : List α} {y v : α} {j : Nat} (h : (S ++ [y])[j]? = some v) : (j < S.length ∧ S[j]? = some v) ∨ (j = S.length ∧ v = y) := by
  rcases Nat.lt_trichotomy j S.length with h1 | h1 | h1
  · rw [List.getElem?_append_left h1] at h
    exact .inl ⟨h1, h⟩
  · subst h1
    simp at h
    exact .inr ⟨rfl, h.symm⟩
  · rw [List.getElem?_append_right (by omega)] at h
    have h2 := (List.getElem?_eq_some_iff.1 h).1
    simp at h2
    omega
theorem VOk.begin {cls : Fx → Int} {l : List Fx} {k : Nat} {S : List Vis} {x : Fx} (h : VOk cls l k S) (hg : GoodF l) (hx : l[k]? = some x) (hc : cls x = 2) (ho : ∀ (v : Vis), S[S.length - 1]? = some v → 0 ≤ v.2) : VOk cls l (k + 1) (S ++ [(x.1, -1)]) := by
  have hk1 : ∀ (j : Nat) (v : Vis), S[j]? = some v → ∃ (i : Nat) (x : Fx), i < k + 1 ∧ l[i]? = some x ∧ x.1 = v.1 ∧ cls x = 2 := fun j v hv => by
    obtain ⟨i, x, h1, h2⟩ := h.from_ j v hv
    exact ⟨i, x, by omega, h2⟩
  have hcl : ∀ (j : Nat) (v : Vis), j < S.length → S[j]? = some v → v.1 < v.2 ∧ ∃ (i : Nat) (x : Fx), i < k ∧ l[i]? = some x ∧ x.1 = v.2 ∧ cls x = 0 := by
    intro j v hj hv
    rcases h.to_ j v hv with ⟨h1, h2⟩ | h1
    · obtain rfl : j = S.length - 1 := by omega
      have := ho v hv
      omega
    · exact h1
  refine ⟨by simp; exact h.len, ?_, ?_, ?_, by rw [visN_take hx, h.cnt]; unfold vStep; rw [if_pos hc, if_neg (by rw [opn_no ho]; simp), opn_snoc]; simp⟩
  · intro j v hv
    rcases snoc_cases hv with ⟨h1, h2⟩ | ⟨h1, h2⟩
    · exact hk1 j v h2
    · exact ⟨k, x, by omega, hx, by rw [h2], hc⟩
  · intro j v hv
    rcases snoc_cases hv with ⟨h1, h2⟩ | ⟨h1, h2⟩
    · obtain ⟨g1, i, y, g2, g3⟩ := hcl j v h1 h2
      exact .inr ⟨g1, i, y, by omega, g3⟩
    · exact .inl ⟨by rw [h2], by simp [h1]⟩
  · intro j v u hv hu
    rcases snoc_cases hu with ⟨h1, h2⟩ | ⟨h1, h2⟩
    · rw [List.getElem?_append_left (by omega)] at hv
      exact h.ord j v u hv h2
    · rcases snoc_cases hv with ⟨g1, g2⟩ | ⟨g1, g2⟩
      · obtain ⟨_, i, y, q1, q2, q3, _⟩ := hcl j v g1 g2
        have := hg.lt q1 q2 hx
        rw [h2]
        simp only
        omega
      · omega
theorem VOk.close {cls : Fx → Int} {l : List Fx} {k : Nat} {T : List Vis} {f : Int} {x : Fx} (h : VOk cls l k (T ++ [(f, -1)])) (hg : GoodF l) (hx : l[k]? = some x) (hc : cls x = 0) : VOk cls l (k + 1) (T ++ [(f, x.1)]) := by
  have hk1 : ∀ (j : Nat) (v : Vis), (T ++ [(f, -1)])[j]? = some v → ∃ (i : Nat) (x : Fx), i < k + 1 ∧ l[i]? = some x ∧ x.1 = v.1 ∧ cls x = 2 := fun j v hv => by
    obtain ⟨i, x, h1, h2⟩ := h.from_ j v hv
    exact ⟨i, x, by omega, h2⟩
  have hx0 := (hg.get hx).at0
  have hlen := h.len
  simp only [List.length_append, List.length_singleton] at hlen
  refine ⟨by simp; omega, ?_, ?_, ?_, by rw [visN_take hx, h.cnt]; unfold vStep; rw [if_neg (by omega), if_pos hc, show opn (T ++ [(f, x.1)]) = false by rw [opn_snoc]; exact decide_eq_false (show ¬ x.1 < 0 by omega)]; simp⟩
  · intro j v hv
    rcases snoc_cases hv with ⟨h1, h2⟩ | ⟨h1, h2⟩
    · exact hk1 j v (by rw [List.getElem?_append_left h1]; exact h2)
    · have := hk1 j (f, -1) (by rw [h1]; simp)
      rw [h2]
      exact this
  · intro j v hv
    rcases snoc_cases hv with ⟨h1, h2⟩ | ⟨h1, h2⟩
    · rcases h.to_ j v (by rw [List.getElem?_append_left h1]; exact h2) with ⟨g1, g2⟩ | ⟨g1, i, y, g2, g3⟩
      · simp only [List.length_append, List.length_singleton] at g2
        omega
      · exact .inr ⟨g1, i, y, by omega, g3⟩
    · obtain ⟨i, y, g1, g2, g3, _⟩ := h.from_ j (f, -1) (by rw [h1]; simp)
      have := hg.lt g1 g2 hx
      simp only at g3
      rw [h2]
      exact .inr ⟨by simp only; omega, k, x, by omega, hx, rfl, hc⟩
  · intro j v u hv hu
    rcases snoc_cases hu with ⟨h1, h2⟩ | ⟨h1, h2⟩
    · rw [List.getElem?_append_left (by omega)] at hv
      exact h.ord j v u (by rw [List.getElem?_append_left (by omega)]; exact hv) (by rw [List.getElem?_append_left h1]; exact h2)
    · rcases snoc_cases hv with ⟨g1, g2⟩ | ⟨g1, g2⟩
      · have := h.ord j v (f, -1) (by rw [List.getElem?_append_left g1]; exact g2) (by rw [h1]; simp)
        rw [h2]
        exact this
      · omega
theorem recs_close (T : List Vis) (f t a : Int) : (recs viC (T ++ [(f, t)])).set (T.length * 2 + 1) (.int .i64 a) = recs viC (T ++ [(f, a)]) := by
  rw [recs_snoc, recs_snoc]
  have h : (recs viC T).length = T.length * 2 := recs_length viC_len T
  rw [List.set_append_right _ _ (by omega), h]
  have e : T.length * 2 + 1 - T.length * 2 = 1 := by omega
  rw [e]
  rfl
/-- Empty, closed or open at its end. -/
theorem vis_cases (S : List Vis) : S = [] ∨ (∃ T u, S = T ++ [u]) := by
  rcases List.eq_nil_or_concat S with h | ⟨T, u, h⟩
  · exact .inl h
  · exact .inr ⟨T, u, by simpa using h⟩
end Go.Proofs.YtdkldbfhbpmjgaaGreatDoor
