/- Buckets that are joined, and those of a grid of a greater length: the plain law. -/
import Derived.Test.YtnmgfnnkcenfeaaGreatDoorSerP
namespace Go.Proofs.YtnmgfnnkcenfeaaGreatDoor

def joinB (A bs : List Bkt) : List Bkt := bs.foldl addB A
theorem joinB_snoc (A bs : List Bkt) (b : Bkt) : joinB A (bs ++ [b]) = addB (joinB A bs) b := by simp [joinB]
theorem joinB_append (A a b : List Bkt) : joinB A (a ++ b) = joinB (joinB A a) b := by simp [joinB]
theorem mergeB_assoc (y x b : Bkt) : mergeB (mergeB y x) b = mergeB y (mergeB x b) := by
  simp only [mergeB, Bkt.mk.injEq]
  refine ⟨trivial, trivial, ?_, ?_, ?_, ?_, trivial, trivial⟩ <;> omega
theorem addB_addB (l : List Bkt) (x b : Bkt) (h : x.fr = b.fr) : addB (addB l x) b = addB l (mergeB x b) := by
  rcases List.eq_nil_or_concat l with rfl | ⟨l, y, rfl⟩
  · rw [addB_nil, addB_nil]
    exact addB_same [] x b h
  · rw [List.concat_eq_append]
    by_cases e : y.fr = x.fr
    · rw [addB_same _ _ _ e, addB_same _ _ _ (show (mergeB y x).fr = b.fr from e.trans h), addB_same _ _ _ (show y.fr = (mergeB x b).fr from e), mergeB_assoc]
    · rw [addB_new _ _ _ e, addB_new _ _ _ (show y.fr ≠ (mergeB x b).fr from e)]
      have := addB_same (l ++ [y]) x b h
      simpa using this
theorem joinB_addB (A bs : List Bkt) (b : Bkt) : joinB A (addB bs b) = addB (joinB A bs) b := by
  rcases List.eq_nil_or_concat bs with rfl | ⟨bs, x, rfl⟩
  · simp [joinB, addB_nil]
  · rw [List.concat_eq_append]
    by_cases e : x.fr = b.fr
    · rw [addB_same _ _ _ e, joinB_snoc, joinB_snoc, addB_addB _ _ _ e]
    · rw [addB_new _ _ _ e, show bs ++ [x, b] = (bs ++ [x]) ++ [b] by simp, joinB_snoc]
theorem joinB_bkts (L : Int) (A : List Bkt) (l : List Smp) : joinB A (bktsOf L l) = l.foldl (fun bs s => addB bs (smpB L s)) A := by
  refine snoc_ind (p := fun l => joinB A (bktsOf L l) = l.foldl (fun bs s => addB bs (smpB L s)) A) ?_ ?_ l
  · simp [bktsOf, joinB]
  · intro l s ih
    rw [bktsOf_snoc, joinB_addB, ih]
    simp
theorem join_parts (L : Int) (l m : List Smp) : joinB [] (bktsOf L l ++ bktsOf L m) = bktsOf L (l ++ m) := by
  rw [joinB_append, joinB_bkts, joinB_bkts]
  simp [bktsOf]

theorem widOf_addB (M : Int) (bs : List Bkt) (b : Bkt) : widOf M (addB bs b) = addB (widOf M bs) (widB M b) := by
  rcases List.eq_nil_or_concat bs with rfl | ⟨bs, x, rfl⟩
  · simp [widOf, addB_nil]
  · rw [List.concat_eq_append]
    by_cases e : x.fr = b.fr
    · have e2 : (widB M x).fr = (widB M b).fr := by simp only [widB, e]
      rw [addB_same _ _ _ e, widOf_snoc, widOf_snoc, addB_addB _ _ _ e2]
      rfl
    · rw [addB_new _ _ _ e, show bs ++ [x, b] = (bs ++ [x]) ++ [b] by simp, widOf_snoc]
theorem wid_smpB (L t : Int) (s : Smp) (hL : 1 ≤ L) : widB (L * t) (smpB L s) = smpB (L * t) s := by
  have h : s.1 / L * L / (L * t) = s.1 / (L * t) := by
    rw [← Int.ediv_ediv_of_nonneg (by omega : (0 : Int) ≤ L), Int.mul_ediv_cancel _ (by omega : L ≠ 0), Int.ediv_ediv_of_nonneg (by omega : (0 : Int) ≤ L)]
  simp only [widB, smpB, h]
theorem widOf_bkts (L t : Int) (l : List Smp) (hL : 1 ≤ L) : widOf (L * t) (bktsOf L l) = bktsOf (L * t) l := by
  refine snoc_ind (p := fun l => widOf (L * t) (bktsOf L l) = bktsOf (L * t) l) ?_ ?_ l
  · simp [bktsOf, widOf]
  · intro l s ih
    rw [bktsOf_snoc, bktsOf_snoc, widOf_addB, ih, wid_smpB L t s hL]

theorem joinB_ok {L : Int} {k : Nat} (l : List Bkt) (h : ∀ x ∈ l, BOk L k x) : ∀ x ∈ joinB [] l, BOk L (l.length * k) x := by
  revert h
  refine snoc_ind (p := fun l => (∀ x ∈ l, BOk L k x) → ∀ x ∈ joinB [] l, BOk L (l.length * k) x) ?_ ?_ l
  · intro _ x hx; simp [joinB] at hx
  · intro l s ih h
    rw [joinB_snoc, List.length_append, Nat.add_mul]
    have := addB_ok (ih fun y hy => h y (by simp [hy])) (h s (by simp))
    simpa using this
theorem joinB_length (l : List Bkt) : (joinB [] l).length ≤ l.length := by
  refine snoc_ind (p := fun l => (joinB [] l).length ≤ l.length) ?_ ?_ l
  · simp [joinB]
  · intro l s ih
    rw [joinB_snoc, List.length_append]
    have := addB_length (joinB [] l) s
    simp only [List.length_cons, List.length_nil]
    omega
/-- The first buckets of a series' end come not before those of its beginning. -/
theorem bkts_parts_le (L : Int) (hL : 1 ≤ L) (l m : List Smp) (h : (l ++ m).Pairwise (fun s t => s.1 ≤ t.1)) (hv : ∀ s ∈ l ++ m, (0 ≤ s.1 ∧ s.1 < 345686400000) ∧ -1000000000 ≤ s.2 ∧ s.2 ≤ 1000000000) :
    ∀ x ∈ bktsOf L l, ∀ y ∈ bktsOf L m, x.fr ≤ y.fr := by
  rw [List.pairwise_append] at h
  obtain ⟨h1, h2, h3⟩ := h
  intro x hx y hy
  obtain ⟨s, hs, e⟩ := (bktsOf_good L hL l h1 (fun s hs => hv s (by simp [hs]))).2.2 x hx
  obtain ⟨t, ht, f⟩ := (bktsOf_good L hL m h2 (fun s hs => hv s (by simp [hs]))).2.2 y hy
  rw [e, f]
  exact Int.mul_le_mul_of_nonneg_right (Int.ediv_le_ediv (by omega) (h3 s hs t ht)) (by omega)
end Go.Proofs.YtnmgfnnkcenfeaaGreatDoor
