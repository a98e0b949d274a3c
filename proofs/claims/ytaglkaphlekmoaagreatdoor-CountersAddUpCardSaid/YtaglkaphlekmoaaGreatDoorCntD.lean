/- Counters and gaps: the plain law. -/
import Derived.Test.YtaglkaphlekmoaaGreatDoorSerP
namespace Go.Proofs.YtaglkaphlekmoaaGreatDoor

/-- By how much a counter grew from one measurement to the next. -/
structure Rise where
  fr : Int
  to_ : Int
  by_ : Int
  re : Bool
def risOf (x y : Smp) : Rise := if y.2 - x.2 < 0 then ⟨x.1, y.1, y.2, true⟩ else ⟨x.1, y.1, y.2 - x.2, false⟩
def risK (l : List Smp) (k : Nat) : List Rise := (List.range k).map fun i => risOf (l.getD i (0, 0)) (l.getD (i + 1) (0, 0))
theorem risK_length (l : List Smp) (k : Nat) : (risK l k).length = k := by simp [risK]
theorem risK_succ (l : List Smp) (k : Nat) : risK l (k + 1) = risK l k ++ [risOf (l.getD k (0, 0)) (l.getD (k + 1) (0, 0))] := by simp [risK, List.range_succ]
def riseC (r : Rise) : List Value := [.int .i64 r.fr, .int .i64 r.to_, .int .i64 r.by_, .bool r.re]
def rCells (l : List Rise) : List Value := l.flatMap riseC
theorem rCells_snoc (l : List Rise) (r : Rise) : rCells (l ++ [r]) = rCells l ++ riseC r := by simp [rCells]
theorem riseC_one (r : Rise) : ∀ u ∈ riseC r, u.oneCell' = true := by
  intro u hu
  simp only [riseC, List.mem_cons, List.not_mem_nil, or_false] at hu
  rcases hu with rfl | rfl | rfl | rfl <;> rfl
theorem rCells_get (l : List Rise) (i : Nat) (x : Rise) (h : l[i]? = some x) (j : Nat) (hj : j < 4) : (rCells l)[i * 4 + j]? = (riseC x)[j]? := by
  induction l generalizing i with
  | nil => simp at h
  | cons y l ih =>
    cases i with
    | zero =>
      simp only [List.getElem?_cons_zero, Option.some.injEq] at h
      subst h
      simp only [rCells, List.flatMap_cons]
      rw [List.getElem?_append_left (by simp [riseC]; omega)]
      simp
    | succ i =>
      simp only [List.getElem?_cons_succ] at h
      have := ih i h
      simp only [rCells, List.flatMap_cons] at this ⊢
      rw [List.getElem?_append_right (by simp [riseC]; omega)]
      rw [← this]
      congr 1
      simp [riseC]; omega
theorem risK_by (l : List Smp) (k : Nat) (hk : k < l.length) (hv : ∀ s ∈ l, 0 ≤ s.2 ∧ s.2 ≤ 1000000000) : ∀ r ∈ risK l k, 0 ≤ r.by_ ∧ r.by_ ≤ 1000000000 := by
  intro r hr
  simp only [risK, List.mem_map, List.mem_range] at hr
  obtain ⟨i, hi, rfl⟩ := hr
  have h1 : l.getD i (0, 0) ∈ l := by simp [List.getD, List.getElem?_eq_getElem (show i < l.length by omega)]
  have h2 : l.getD (i + 1) (0, 0) ∈ l := by simp [List.getD, List.getElem?_eq_getElem (show i + 1 < l.length by omega)]
  have a1 := hv _ h1
  have a2 := hv _ h2
  unfold risOf
  split <;> simp only <;> omega

/-- How much of a rise lies in a window. -/
def inW (a b : Int) (r : Rise) : Int := if a < r.to_ ∧ r.to_ ≤ b then r.by_ else 0
def grown (a b : Int) (l : List Rise) : Int := tot (inW a b) l
theorem grown_add (a m b : Int) (h1 : a ≤ m) (h2 : m ≤ b) (l : List Rise) : grown a m l + grown m b l = grown a b l := by
  induction l with
  | nil => rfl
  | cons r l ih =>
    simp only [grown, tot] at ih ⊢
    have : inW a m r + inW m b r = inW a b r := by
      unfold inW
      repeat' split
      all_goals omega
    omega
theorem grown_le (a b : Int) (l : List Rise) (h : ∀ r ∈ l, 0 ≤ r.by_ ∧ r.by_ ≤ 1000000000) : 0 ≤ grown a b l ∧ grown a b l ≤ 1000000000 * (l.length : Int) := by
  induction l with
  | nil => simp [grown, tot]
  | cons x l ih =>
    have h1 := ih fun s hs => h s (by simp [hs])
    have h2 := h x (by simp)
    have h3 : 0 ≤ inW a b x ∧ inW a b x ≤ 1000000000 := by unfold inW; split <;> omega
    simp only [grown, tot, List.length_cons] at h1 ⊢
    omega
theorem grown_snoc (a b : Int) (l : List Rise) (r : Rise) : grown a b (l ++ [r]) = grown a b l + inW a b r := by simp only [grown, tot_append, tot_one]

/-! ### gaps -/
/-- The gaps of more than M between stops, the first one counted from a on. -/
def gaps (M : Int) : Int → List Int → List (Int × Int)
  | _, [] => []
  | a, t :: r => (if M < t - a then [(a, t)] else []) ++ gaps M t r
def endS : Int → List Int → Int
  | a, [] => a
  | _, t :: r => endS t r
theorem endS_snoc (r : List Int) (t : Int) : ∀ a, endS a (r ++ [t]) = t := by
  induction r with
  | nil => intro a; rfl
  | cons x r ih => intro a; exact ih x
theorem gaps_snoc (M : Int) (r : List Int) (t : Int) : ∀ a, gaps M a (r ++ [t]) = gaps M a r ++ (if M < t - endS a r then [(endS a r, t)] else []) := by
  induction r with
  | nil => intro a; by_cases h : M < t - a <;> simp [gaps, endS, h]
  | cons x r ih => intro a; by_cases h : M < t - endS x r <;> simp [gaps, endS, ih x, h]
/-- Stops that do not go back. -/
def Ups : Int → List Int → Prop
  | _, [] => True
  | a, t :: r => a ≤ t ∧ Ups t r
theorem ups_end (r : List Int) : ∀ a, Ups a r → a ≤ endS a r := by
  induction r with
  | nil => intro a _; exact Int.le_refl _
  | cons x r ih => intro a h; have := ih x h.2; have := h.1; simp only [endS]; omega
theorem ups_snoc (r : List Int) (t : Int) : ∀ a, Ups a r → endS a r ≤ t → Ups a (r ++ [t]) := by
  induction r with
  | nil => intro a _ h; exact ⟨h, trivial⟩
  | cons x r ih => intro a h h2; exact ⟨h.1, ih x h.2 h2⟩
theorem ups_all (r : List Int) : ∀ a, Ups a r → ∀ s ∈ r, a ≤ s ∧ s ≤ endS a r := by
  induction r with
  | nil => intro a _ s hs; simp at hs
  | cons x r ih =>
    intro a h s hs
    have h1 := ups_end r x h.2
    rcases List.mem_cons.1 hs with rfl | hs
    · exact ⟨h.1, h1⟩
    · have := ih x h.2 s hs
      have := h.1
      simp only [endS]
      omega
theorem gaps_fine (M : Int) (r : List Int) : ∀ a, Ups a r → (∀ p ∈ gaps M a r, a ≤ p.1 ∧ M < p.2 - p.1 ∧ p.2 ≤ endS a r ∧ ∀ s ∈ r, ¬ (p.1 < s ∧ s < p.2)) ∧ (gaps M a r).Pairwise (fun p q => p.2 ≤ q.1) := by
  induction r with
  | nil => intro a _; simp [gaps]
  | cons t r ih =>
    intro a h
    obtain ⟨i1, i2⟩ := ih t h.2
    have he := ups_end r t h.2
    have hall := ups_all r t h.2
    have hat := h.1
    refine ⟨?_, ?_⟩
    · intro p hp
      simp only [gaps, List.mem_append] at hp
      simp only [endS]
      rcases hp with hp | hp
      · split at hp
        · simp only [List.mem_singleton] at hp
          subst hp
          refine ⟨Int.le_refl _, by assumption, he, ?_⟩
          intro s hs
          rcases List.mem_cons.1 hs with rfl | hs
          · simp
          · have := hall s hs; simp only; omega
        · simp at hp
      · obtain ⟨j1, j2, j3, j4⟩ := i1 p hp
        refine ⟨by omega, j2, j3, ?_⟩
        intro s hs
        rcases List.mem_cons.1 hs with rfl | hs
        · omega
        · exact j4 s hs
    · simp only [gaps]
      rw [List.pairwise_append]
      refine ⟨by split <;> simp, i2, ?_⟩
      intro p hp q hq
      split at hp
      · simp only [List.mem_singleton] at hp
        subst hp
        exact (i1 q hq).1
      · simp at hp
theorem gaps_length (M : Int) (r : List Int) : ∀ a, (gaps M a r).length ≤ r.length := by
  induction r with
  | nil => intro a; simp [gaps]
  | cons t r ih => intro a; have := ih t; simp only [gaps, List.length_append, List.length_cons]; split <;> simp <;> omega

/-- The stops of a series in a window. -/
def stops (a b : Int) (l : List Smp) : List Int := (l.filter fun s => decide (a ≤ s.1) && decide (s.1 < b)).map (·.1)
theorem stops_snoc (a b : Int) (l : List Smp) (s : Smp) : stops a b (l ++ [s]) = stops a b l ++ (if a ≤ s.1 ∧ s.1 < b then [s.1] else []) := by
  simp only [stops, List.filter_append, List.map_append]
  congr 1
  by_cases h : a ≤ s.1 ∧ s.1 < b
  · simp [List.filter, h.1, h.2]
  · rw [if_neg h]
    have : (decide (a ≤ s.1) && decide (s.1 < b)) = false := by
      rcases Decidable.not_and_iff_or_not.1 h with h | h <;> simp [h]
    simp [List.filter, this]
theorem stops_ups (a b : Int) (l : List Smp) (hr : l.Pairwise (fun s t => s.1 ≤ t.1)) : Ups a (stops a b l) ∧ ∀ t, (∀ s ∈ l, s.1 ≤ t) → a ≤ t → endS a (stops a b l) ≤ t := by
  revert hr
  refine snoc_ind (p := fun l => l.Pairwise (fun s t => s.1 ≤ t.1) → Ups a (stops a b l) ∧ ∀ t, (∀ s ∈ l, s.1 ≤ t) → a ≤ t → endS a (stops a b l) ≤ t) ?_ ?_ l
  · intro _; exact ⟨trivial, fun t _ h => h⟩
  · intro l s ih hr
    rw [List.pairwise_append] at hr
    obtain ⟨h1, _, h2⟩ := hr
    obtain ⟨i1, i2⟩ := ih h1
    rw [stops_snoc]
    split
    · rename_i hin
      refine ⟨ups_snoc _ _ a i1 (i2 s.1 (fun x hx => h2 x hx s (by simp)) hin.1), ?_⟩
      intro t ht _
      rw [endS_snoc]
      exact ht s (by simp)
    · rw [List.append_nil]
      exact ⟨i1, fun t ht => i2 t (fun x hx => ht x (by simp [hx]))⟩
/-- All gaps of a series in a window. -/
def gapsOf (M a b : Int) (l : List Smp) : List (Int × Int) := gaps M a (stops a b l ++ [b])
theorem gapsOf_fine (M a b : Int) (hab : a ≤ b) (l : List Smp) (hr : l.Pairwise (fun s t => s.1 ≤ t.1)) :
    (∀ p ∈ gapsOf M a b l, a ≤ p.1 ∧ M < p.2 - p.1 ∧ p.2 ≤ b ∧ ∀ s ∈ l, ¬ (p.1 < s.1 ∧ s.1 < p.2)) ∧ (gapsOf M a b l).Pairwise (fun p q => p.2 ≤ q.1) := by
  have hstop : ∀ s ∈ stops a b l, s < b := by
    intro s hs
    simp only [stops, List.mem_map, List.mem_filter, Bool.and_eq_true, decide_eq_true_eq] at hs
    obtain ⟨x, ⟨_, h⟩, rfl⟩ := hs
    exact h.2
  have hend : endS a (stops a b l) ≤ b := by
    have : ∀ (r : List Int), (∀ s ∈ r, s < b) → ∀ a, a ≤ b → endS a r ≤ b := by
      intro r
      induction r with
      | nil => intro _ a h; exact h
      | cons x r ih => intro h a _; exact ih (fun s hs => h s (by simp [hs])) x (by have := h x (by simp); omega)
    exact this _ hstop a hab
  obtain ⟨h1, h2⟩ := gaps_fine M (stops a b l ++ [b]) a (ups_snoc _ _ a (stops_ups a b l hr).1 hend)
  rw [endS_snoc] at h1
  refine ⟨fun p hp => ?_, h2⟩
  obtain ⟨j1, j2, j3, j4⟩ := h1 p hp
  refine ⟨j1, j2, j3, fun s hs => ?_⟩
  by_cases hin : a ≤ s.1 ∧ s.1 < b
  · refine j4 s.1 ?_
    simp only [List.mem_append, stops, List.mem_map, List.mem_filter, Bool.and_eq_true, decide_eq_true_eq]
    exact .inl ⟨s, ⟨hs, hin⟩, rfl⟩
  · omega
theorem gapsOf_length (M a b : Int) (l : List Smp) : (gapsOf M a b l).length ≤ l.length + 1 := by
  have h1 := gaps_length M (stops a b l ++ [b]) a
  have h2 : (stops a b l).length ≤ l.length := by simp only [stops, List.length_map]; exact List.length_filter_le _ _
  simp only [List.length_append, List.length_cons, List.length_nil] at h1
  unfold gapsOf
  omega
end Go.Proofs.YtaglkaphlekmoaaGreatDoor
