/- Names sorted and each once, by rank: what the library's sort and compact make of them; no program in sight. -/
import Derived.Test.YtccbblnlmggjbaaGreatDoorMgB
import Derived.Sort.OwnSorted
import Derived.Lib.SlicesCompact
namespace Go.Proofs.YtccbblnlmggjbaaGreatDoor
open Go.RowKit

def nmL (i : Nat) : List UInt8 := (nm i).data.toList
theorem seven (i : Nat) (h : i < 7) : i = 0 ∨ i = 1 ∨ i = 2 ∨ i = 3 ∨ i = 4 ∨ i = 5 ∨ i = 6 := by omega
theorem nmL_inj (i j : Nat) (hi : i < 7) (hj : j < 7) (h : nmL i = nmL j) : i = j := by
  rcases seven i hi with e | e | e | e | e | e | e <;> subst e <;> rcases seven j hj with e | e | e | e | e | e | e <;> subst e <;> first | rfl | (exact absurd h (by decide))
theorem nmL_le (i j : Nat) (hi : i < 7) (hj : j < 7) : decide (i ≤ j) = decide (nmL i ≤ nmL j) := by
  rcases seven i hi with e | e | e | e | e | e | e <;> subst e <;> rcases seven j hj with e | e | e | e | e | e | e <;> subst e <;> decide
theorem sort_rank (r : List Nat) (h7 : ∀ i ∈ r, i < 7) : (r.map nmL).mergeSort (fun x y => decide (x ≤ y)) = (r.mergeSort (fun x y => decide (x ≤ y))).map nmL :=
  (List.map_mergeSort (fun a ha b hb => nmL_le a b (h7 a ha) (h7 b hb))).symm
/-- The ranks that occur, each once. -/
def rkF (r : List Nat) : List Nat := (List.range 7).filter (fun i => r.contains i)
theorem mem_rkF (r : List Nat) (i : Nat) : i ∈ rkF r ↔ i < 7 ∧ i ∈ r := by simp [rkF, List.mem_filter]
theorem rkF_rising (r : List Nat) : (rkF r).Pairwise (· < ·) := List.Pairwise.filter _ (range_rising 7)
theorem compact_rank (r : List Nat) (hs : r.Pairwise (· ≤ ·)) (h7 : ∀ i ∈ r, i < 7) : Lib.compact (r.map nmL) = (rkF r).map nmL := by
  have hget : ∀ q, q < r.length → (r.map nmL).toArray[q]! = nmL (r.getD q 0) := by
    intro q hq
    simp [getElem!_pos, hq, List.getD_eq_getElem?_getD]
  have key : ∀ m, m ≤ r.length → ∃ u : List Nat, Lib.compactUpTo (r.map nmL).toArray m = u.map nmL ∧ u.Pairwise (· < ·) ∧ ∀ i, i ∈ u ↔ i ∈ r.take m := by
    intro m
    induction m with
    | zero => intro _; exact ⟨[], rfl, List.Pairwise.nil, by simp⟩
    | succ m ih =>
      intro hm
      obtain ⟨u, hu1, hu2, hu3⟩ := ih (by omega)
      have hr : r[m]? = some (r.getD m 0) := by
        rw [List.getD_eq_getElem?_getD, List.getElem?_eq_getElem (by omega)]; rfl
      have htake : r.take (m + 1) = r.take m ++ [r.getD m 0] := by rw [List.take_add_one, hr]; rfl
      have hx7 : r.getD m 0 < 7 := h7 _ (List.mem_of_getElem? hr)
      rw [Lib.compactUpTo_succ, hu1, htake]
      by_cases hk : m = 0 ∨ r.getD m 0 ≠ r.getD (m - 1) 0
      · have hkeep : Lib.keeps (r.map nmL).toArray m = true := by
          unfold Lib.keeps
          rw [decide_eq_true_iff]
          rcases hk with hk | hk
          · exact .inl hk
          · by_cases h0 : m = 0
            · exact .inl h0
            · refine .inr (fun e => hk ?_)
              rw [hget m (by omega), hget (m - 1) (by omega)] at e
              have hr1 : r[m - 1]? = some (r.getD (m - 1) 0) := by
                rw [List.getD_eq_getElem?_getD, List.getElem?_eq_getElem (by omega)]; rfl
              exact nmL_inj _ _ hx7 (h7 _ (List.mem_of_getElem? hr1)) e
        rw [hkeep, if_pos rfl, hget m (by omega)]
        refine ⟨u ++ [r.getD m 0], by simp, ?_, fun i => by simp [hu3]⟩
        rw [List.pairwise_append]
        refine ⟨hu2, List.pairwise_singleton _ _, fun a ha b hb => ?_⟩
        rw [List.mem_singleton] at hb
        subst hb
        rw [hu3, List.mem_take_iff_getElem] at ha
        obtain ⟨q, hq, rfl⟩ := ha
        have hq' : q < m ∧ q < r.length := by omega
        have hm0 : m ≠ 0 := by omega
        have hne : r.getD m 0 ≠ r.getD (m - 1) 0 := hk.resolve_left hm0
        have h1 : r[q]'hq'.2 ≤ r.getD (m - 1) 0 := by
          rw [List.getD_eq_getElem?_getD, List.getElem?_eq_getElem (show m - 1 < r.length by omega)]
          by_cases e : q = m - 1
          · subst e; exact Nat.le_refl _
          · exact (List.pairwise_iff_getElem.1 hs) q (m - 1) hq'.2 (by omega) (by omega)
        have h2 : r.getD (m - 1) 0 ≤ r.getD m 0 := by
          rw [List.getD_eq_getElem?_getD, List.getElem?_eq_getElem (show m - 1 < r.length by omega), List.getD_eq_getElem?_getD, List.getElem?_eq_getElem (show m < r.length by omega)]
          exact (List.pairwise_iff_getElem.1 hs) (m - 1) m (by omega) (by omega) (by omega)
        omega
      · have hm0 : m ≠ 0 := fun e => hk (.inl e)
        have he : r.getD m 0 = r.getD (m - 1) 0 := by
          by_cases e : r.getD m 0 = r.getD (m - 1) 0
          · exact e
          · exact absurd (.inr e) hk
        have hkeep : Lib.keeps (r.map nmL).toArray m = false := by
          unfold Lib.keeps
          rw [decide_eq_false_iff_not]
          rintro (h | h)
          · exact hm0 h
          · rw [hget m (by omega), hget (m - 1) (by omega), he] at h
            exact h rfl
        rw [hkeep, if_neg (by simp)]
        refine ⟨u, by simp, hu2, fun i => ?_⟩
        rw [hu3, List.mem_append, List.mem_singleton]
        constructor
        · exact .inl
        · rintro (h | h)
          · exact h
          · rw [h, he, List.mem_take_iff_getElem]
            refine ⟨m - 1, by omega, ?_⟩
            rw [List.getD_eq_getElem?_getD, List.getElem?_eq_getElem (show m - 1 < r.length by omega)]; rfl
  obtain ⟨u, hu1, hu2, hu3⟩ := key r.length (Nat.le_refl _)
  have : u = rkF r := by
    refine ext_rising id _ _ hu2 (rkF_rising r) (fun x => ?_)
    rw [hu3, mem_rkF, List.take_length]
    exact ⟨fun h => ⟨h7 x h, h⟩, fun h => h.2⟩
  unfold Lib.compact
  rw [← this, ← hu1, List.length_map]
theorem rkF_nms (ls : List (List Pr)) : rkF (ls.flatMap (fun l => l.map (·.1))) = nmsF ls := by
  refine ext_rising id _ _ (rkF_rising _) (nmsF_rising _) (fun x => ?_)
  rw [mem_rkF, mem_nmsF]
  simp only [List.mem_flatMap, List.mem_map]
end Go.Proofs.YtccbblnlmggjbaaGreatDoor
