/- Devices sorted and each once: what the library's sort and compact make of them; no program in sight. -/
import Derived.Test.YtlfphndnkgoinaaGreatDoorTeD
import Derived.Test.YtlfphndnkgoinaaGreatDoorPrP
import Derived.Sort.OwnSorted
import Derived.Lib.SlicesCompact
namespace Go.Proofs.YtlfphndnkgoinaaGreatDoor
open Go.RowKit

def dvL (i : Nat) : List UInt8 := (teT i).data.toList
theorem two2 (i : Nat) (h : i < 2) : i = 0 ∨ i = 1 := by omega
theorem dvL_inj (i j : Nat) (hi : i < 2) (hj : j < 2) (h : dvL i = dvL j) : i = j := by
  rcases two2 i hi with e | e <;> subst e <;> rcases two2 j hj with e | e <;> subst e <;> first | rfl | (exact absurd h (by decide))
theorem dvL_le (i j : Nat) (hi : i < 2) (hj : j < 2) : decide (i ≤ j) = decide (dvL i ≤ dvL j) := by
  rcases two2 i hi with e | e <;> subst e <;> rcases two2 j hj with e | e <;> subst e <;> decide
theorem sort_dv (r : List Nat) (h2d : ∀ i ∈ r, i < 2) : (r.map dvL).mergeSort (fun x y => decide (x ≤ y)) = (r.mergeSort (fun x y => decide (x ≤ y))).map dvL :=
  (List.map_mergeSort (fun a ha b hb => dvL_le a b (h2d a ha) (h2d b hb))).symm
/-- The ranks that occur, each once. -/
def dvF (r : List Nat) : List Nat := (List.range 2).filter (fun i => r.contains i)
theorem mem_dvF (r : List Nat) (i : Nat) : i ∈ dvF r ↔ i < 2 ∧ i ∈ r := by simp [dvF, List.mem_filter]
theorem dvF_rising (r : List Nat) : (dvF r).Pairwise (· < ·) := List.Pairwise.filter _ (range_rising 2)
theorem compact_dv (r : List Nat) (hs : r.Pairwise (· ≤ ·)) (h2d : ∀ i ∈ r, i < 2) : Lib.compact (r.map dvL) = (dvF r).map dvL := by
  have hget : ∀ q, q < r.length → (r.map dvL).toArray[q]! = dvL (r.getD q 0) := by
    intro q hq
    simp [getElem!_pos, hq, List.getD_eq_getElem?_getD]
  have key : ∀ m, m ≤ r.length → ∃ u : List Nat, Lib.compactUpTo (r.map dvL).toArray m = u.map dvL ∧ u.Pairwise (· < ·) ∧ ∀ i, i ∈ u ↔ i ∈ r.take m := by
    intro m
    induction m with
    | zero => intro _; exact ⟨[], rfl, List.Pairwise.nil, by simp⟩
    | succ m ih =>
      intro hm
      obtain ⟨u, hu1, hu2, hu3⟩ := ih (by omega)
      have hr : r[m]? = some (r.getD m 0) := by
        rw [List.getD_eq_getElem?_getD, List.getElem?_eq_getElem (by omega)]; rfl
      have htake : r.take (m + 1) = r.take m ++ [r.getD m 0] := by rw [List.take_add_one, hr]; rfl
      have hx2 : r.getD m 0 < 2 := h2d _ (List.mem_of_getElem? hr)
      rw [Lib.compactUpTo_succ, hu1, htake]
      by_cases hk : m = 0 ∨ r.getD m 0 ≠ r.getD (m - 1) 0
      · have hkeep : Lib.keeps (r.map dvL).toArray m = true := by
          unfold Lib.keeps
          rw [decide_eq_true_iff]
          rcases hk with hk | hk
          · exact .inl hk
          · by_cases h0 : m = 0
            · exact .inl h0
            · refine .inr (fun e => hk ?_)
              rw [hget m (by omega), hget (m - 1) (by omega)] at e
              have hr1 : r[m - 1]? = some (r.getD (m - 1) 0) := by
                rw [List.getD_eq_getElem?_getD, List.getElem?_eq_getElem (by omega)]; rfl
              exact dvL_inj _ _ hx2 (h2d _ (List.mem_of_getElem? hr1)) e
        rw [hkeep, if_pos rfl, hget m (by omega)]
        refine ⟨u ++ [r.getD m 0], by simp, ?_, fun i => by simp [hu3]⟩
        rw [List.pairwise_append]
        refine ⟨hu2, List.pairwise_singleton _ _, fun a ha b hb => ?_⟩
        rw [List.mem_singleton] at hb
        subst hb
        rw [hu3, List.mem_take_iff_getElem] at ha
        obtain ⟨q, hq, rfl⟩ := ha
        have hq' : q < m ∧ q < r.length := by omega
        have hm0 : m ≠ 0 := by omega
        have hne : r.getD m 0 ≠ r.getD (m - 1) 0 := hk.resolve_left hm0
        have h1 : r[q]'hq'.2 ≤ r.getD (m - 1) 0 := by
          rw [List.getD_eq_getElem?_getD, List.getElem?_eq_getElem (show m - 1 < r.length by omega)]
          by_cases e : q = m - 1
          · subst e; exact Nat.le_refl _
          · exact (List.pairwise_iff_getElem.1 hs) q (m - 1) hq'.2 (by omega) (by omega)
        have h2 : r.getD (m - 1) 0 ≤ r.getD m 0 := by
          rw [List.getD_eq_getElem?_getD, List.getElem?_eq_getElem (show m - 1 < r.length by omega), List.getD_eq_getElem?_getD, List.getElem?_eq_getElem (show m < r.length by omega)]
          exact (List.pairwise_iff_getElem.1 hs) (m - 1) m (by omega) (by omega) (by omega)
        omega
      · have hm0 : m ≠ 0 := fun e => hk (.inl e)
        have he : r.getD m 0 = r.getD (m - 1) 0 := by
          by_cases e : r.getD m 0 = r.getD (m - 1) 0
          · exact e
          · exact absurd (.inr e) hk
        have hkeep : Lib.keeps (r.map dvL).toArray m = false := by
          unfold Lib.keeps
          rw [decide_eq_false_iff_not]
          rintro (h | h)
          · exact hm0 h
          · rw [hget m (by omega), hget (m - 1) (by omega), he] at h
            exact h rfl
        rw [hkeep, if_neg (by simp)]
        refine ⟨u, by simp, hu2, fun i => ?_⟩
        rw [hu3, List.mem_append, List.mem_singleton]
        constructor
        · exact .inl
        · rintro (h | h)
          · exact h
          · rw [h, he, List.mem_take_iff_getElem]
            refine ⟨m - 1, by omega, ?_⟩
            rw [List.getD_eq_getElem?_getD, List.getElem?_eq_getElem (show m - 1 < r.length by omega)]; rfl
  obtain ⟨u, hu1, hu2, hu3⟩ := key r.length (Nat.le_refl _)
  have : u = dvF r := by
    refine ext_rising id _ _ hu2 (dvF_rising r) (fun x => ?_)
    rw [hu3, mem_dvF, List.take_length]
    exact ⟨fun h => ⟨h2d x h, h⟩, fun h => h.2⟩
  unfold Lib.compact
  rw [← this, ← hu1, List.length_map]
end Go.Proofs.YtlfphndnkgoinaaGreatDoor
