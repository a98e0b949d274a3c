/- The reference's buckets are the program's; plain, no program in sight. -/
import Derived.Test.YtnmgfnnkcenfeaaGreatDoorBktP
namespace Go.Proofs.YtnmgfnnkcenfeaaGreatDoor

def mnL : List Int → Int
  | [] => 0
  | x :: l => l.foldl min x
def mxL : List Int → Int
  | [] => 0
  | x :: l => l.foldl max x
def smL (l : List Int) : Int := l.foldl (· + ·) 0
def fiL : List Int → Int
  | [] => 0
  | x :: _ => x
def laL (l : List Int) : Int := (l.getLast?).getD 0
theorem mnL_snoc {l : List Int} (v : Int) (h : l ≠ []) : mnL (l ++ [v]) = min (mnL l) v := by
  cases l with
  | nil => exact absurd rfl h
  | cons x l => simp [mnL]
theorem mxL_snoc {l : List Int} (v : Int) (h : l ≠ []) : mxL (l ++ [v]) = max (mxL l) v := by
  cases l with
  | nil => exact absurd rfl h
  | cons x l => simp [mxL]
theorem fiL_snoc {l : List Int} (v : Int) (h : l ≠ []) : fiL (l ++ [v]) = fiL l := by
  cases l with
  | nil => exact absurd rfl h
  | cons x l => rfl
/-- The bucket of values. -/
def bkO (k : Int) (vs : List Int) : Bkt := ⟨k * 10, k * 10 + 10, vs.length, smL vs, mnL vs, mxL vs, fiL vs, laL vs⟩
theorem bkO_snoc {k : Int} {vs : List Int} (v : Int) (h : vs ≠ []) (s : Smp) (hs : s.2 = v) : mergeB (bkO k vs) (smpB 10 s) = bkO k (vs ++ [v]) := by
  unfold mergeB bkO smpB
  rw [mnL_snoc v h, mxL_snoc v h, fiL_snoc v h]
  simp [smL, laL, hs]
theorem bkO_one (s : Smp) : bkO (s.1 / 10) [s.2] = smpB 10 s := by
  unfold bkO smpB
  simp [smL, laL, mnL, mxL, fiL]
def inB (s : Smp) : Bool := decide (s.1 < 5000)
/-- The values of a bucket's time. -/
def bvL (l : List Smp) (k : Int) : List Int := (l.filter (fun s => inB s && decide (s.1 / 10 = k))).map (·.2)
theorem bvL_snoc (l : List Smp) (x : Smp) (k : Int) : bvL (l ++ [x]) k = if inB x = true ∧ x.1 / 10 = k then bvL l k ++ [x.2] else bvL l k := by
  unfold bvL
  rw [List.filter_append, List.map_append]
  by_cases h : inB x = true ∧ x.1 / 10 = k
  · rw [if_pos h]
    simp [h.1, h.2]
  · rw [if_neg h]
    have : (inB x && decide (x.1 / 10 = k)) = false := by
      cases hb : inB x
      · rfl
      · simp only [Bool.true_and]
        exact decide_eq_false (fun e => h ⟨hb, e⟩)
    simp [this]
theorem bvL_len (l : List Smp) (k : Int) : (bvL l k).length ≤ l.length := by
  unfold bvL
  rw [List.length_map]
  exact List.length_filter_le _ _
/-- The buckets' times in order. -/
def orS : List Smp → List Smp → List Int → List Int
  | _, [], o => o
  | p, x :: l, o => orS (p ++ [x]) l (if inB x = true ∧ bvL p (x.1 / 10) = [] then o ++ [x.1 / 10] else o)
def orL (l : List Smp) : List Int := orS [] l []
theorem orS_snoc (l : List Smp) (x : Smp) : ∀ (p : List Smp) (o : List Int), orS p (l ++ [x]) o = (if inB x = true ∧ bvL (p ++ l) (x.1 / 10) = [] then orS p l o ++ [x.1 / 10] else orS p l o) := by
  induction l with
  | nil => intro p o; simp [orS]
  | cons y l ih =>
    intro p o
    rw [List.cons_append, orS, ih, orS]
    simp
theorem orL_snoc (l : List Smp) (x : Smp) : orL (l ++ [x]) = if inB x = true ∧ bvL l (x.1 / 10) = [] then orL l ++ [x.1 / 10] else orL l := by
  unfold orL
  rw [orS_snoc]
  simp
theorem orL_len (l : List Smp) : (orL l).length ≤ l.length := by
  refine snoc_ind (p := fun l => (orL l).length ≤ l.length) (by simp [orL, orS]) ?_ l
  intro l s ih
  rw [orL_snoc]
  split
  · simp only [List.length_append, List.length_singleton]; omega
  · simp only [List.length_append, List.length_singleton]; omega
theorem orL_mem (l : List Smp) (k : Int) : k ∈ orL l ↔ bvL l k ≠ [] := by
  refine snoc_ind (p := fun l => k ∈ orL l ↔ bvL l k ≠ []) (by simp [orL, orS, bvL]) ?_ l
  intro l s ih
  rw [orL_snoc, bvL_snoc]
  by_cases h1 : inB s = true
  · by_cases h2 : s.1 / 10 = k
    · rw [if_pos (show inB s = true ∧ s.1 / 10 = k from ⟨h1, h2⟩)]
      by_cases h3 : bvL l (s.1 / 10) = []
      · rw [if_pos ⟨h1, h3⟩]
        simp [h2]
      · rw [if_neg (fun h => h3 h.2), ih, ← h2]
        simp [h3]
    · rw [if_neg (show ¬ (inB s = true ∧ s.1 / 10 = k) from fun h => h2 h.2), ← ih]
      by_cases h3 : bvL l (s.1 / 10) = []
      · rw [if_pos ⟨h1, h3⟩, List.mem_append, List.mem_singleton]
        exact ⟨fun h => h.resolve_right (fun e => h2 e.symm), .inl⟩
      · rw [if_neg (fun h => h3 h.2)]
  · rw [if_neg (fun h => h1 h.1), if_neg (show ¬ (inB s = true ∧ s.1 / 10 = k) from fun h => h1 h.1)]
    exact ih
theorem bvL_mem {l : List Smp} {k : Int} (h : bvL l k ≠ []) : ∃ s ∈ l, s.1 / 10 = k := by
  obtain ⟨v, hv⟩ := List.exists_mem_of_ne_nil _ h
  unfold bvL at hv
  rw [List.mem_map] at hv
  obtain ⟨s, hs, _⟩ := hv
  rw [List.mem_filter] at hs
  exact ⟨s, hs.1, by simpa using (Bool.and_eq_true_iff.1 hs.2).2⟩
theorem orL_rise {l : List Smp} (hr : l.Pairwise (fun s t => s.1 ≤ t.1)) : (orL l).Pairwise (· < ·) := by
  revert hr
  refine snoc_ind (p := fun l => l.Pairwise (fun s t => s.1 ≤ t.1) → (orL l).Pairwise (· < ·)) (by simp [orL, orS]) ?_ l
  intro l x ih hr
  rw [List.pairwise_append] at hr
  rw [orL_snoc]
  split
  · next h =>
    rw [List.pairwise_append]
    refine ⟨ih hr.1, List.pairwise_singleton _ _, fun a ha b hb => ?_⟩
    rw [List.mem_singleton] at hb
    subst hb
    have h1 := (orL_mem l a).1 ha
    obtain ⟨s, hs, e⟩ := bvL_mem h1
    have h2 := hr.2.2 s hs x (List.mem_singleton.2 rfl)
    have h3 : a ≠ x.1 / 10 := fun e => by rw [e] at h1; exact h1 h.2
    omega
  · exact ih hr.1
def boL (l : List Smp) : List Bkt := (orL l).map (fun k => bkO k (bvL l k))
theorem boL_eq {l : List Smp} (hr : l.Pairwise (fun s t => s.1 ≤ t.1)) : boL l = bktsOf 10 (l.filter inB) := by
  revert hr
  refine snoc_ind (p := fun l => l.Pairwise (fun s t => s.1 ≤ t.1) → boL l = bktsOf 10 (l.filter inB)) (by simp [boL, orL, orS, bktsOf]) ?_ l
  intro l x ih hr
  have hr0 := hr
  rw [List.pairwise_append] at hr
  have ih := ih hr.1
  rw [List.filter_append]
  by_cases h1 : inB x = true
  case neg =>
    have e1 : [x].filter inB = [] := by simp [h1]
    rw [e1, List.append_nil, ← ih]
    unfold boL
    rw [orL_snoc, if_neg (fun h => h1 h.1)]
    refine List.map_congr_left (fun k _ => ?_)
    rw [bvL_snoc, if_neg (fun h => h1 h.1)]
  have e1 : [x].filter inB = [x] := by simp [h1]
  rw [e1, bktsOf_snoc, ← ih]
  unfold boL
  rw [orL_snoc]
  by_cases h2 : bvL l (x.1 / 10) = []
  · rw [if_pos ⟨h1, h2⟩, List.map_append]
    have e2 : (orL l).map (fun k => bkO k (bvL (l ++ [x]) k)) = (orL l).map (fun k => bkO k (bvL l k)) := by
      refine List.map_congr_left (fun k hk => ?_)
      rw [bvL_snoc, if_neg (fun h => (orL_mem l k).1 hk (by rw [← h.2]; exact h2))]
    rw [e2]
    simp only [List.map_cons, List.map_nil]
    rw [bvL_snoc, if_pos ⟨h1, rfl⟩, h2, List.nil_append, bkO_one]
    rcases List.eq_nil_or_concat (orL l) with h | ⟨o, k, h⟩
    · rw [h]; rfl
    · rw [h, List.map_concat, List.concat_eq_append, addB_new]
      · simp
      · show k * 10 ≠ x.1 / 10 * 10
        intro e
        have hk : k ∈ orL l := by rw [h]; simp
        have := (orL_mem l k).1 hk
        rw [show k = x.1 / 10 by omega] at this
        exact this h2
  · rw [if_neg (fun h => h2 h.2)]
    have hk := (orL_mem l (x.1 / 10)).2 h2
    rcases List.eq_nil_or_concat (orL l) with h | ⟨o, k, h⟩
    · rw [h] at hk; simp at hk
    · rw [List.concat_eq_append] at h
      have hris := orL_rise hr.1
      rw [h] at hk hris
      rw [List.pairwise_append] at hris
      have hkm : k ∈ orL l := by rw [h]; simp
      obtain ⟨s, hs, e⟩ := bvL_mem ((orL_mem l k).1 hkm)
      have h3 := hr.2.2 s hs x (List.mem_singleton.2 rfl)
      have hkk : k = x.1 / 10 := by
        rcases List.mem_append.1 hk with hk | hk
        · have := hris.2.2 _ hk k (List.mem_singleton.2 rfl)
          omega
        · exact (List.mem_singleton.1 hk).symm
      rw [h, List.map_append, List.map_append]
      have e2 : o.map (fun k => bkO k (bvL (l ++ [x]) k)) = o.map (fun k => bkO k (bvL l k)) := by
        refine List.map_congr_left (fun j hj => ?_)
        have := hris.2.2 j hj k (List.mem_singleton.2 rfl)
        rw [bvL_snoc, if_neg (fun h => by have := h.2; omega)]
      rw [e2]
      simp only [List.map_cons, List.map_nil]
      rw [bvL_snoc, if_pos ⟨h1, hkk.symm⟩, addB_same]
      · rw [bkO_snoc x.2 (by rw [hkk]; exact h2) x rfl]
      · show k * 10 = x.1 / 10 * 10
        omega
end Go.Proofs.YtnmgfnnkcenfeaaGreatDoor
