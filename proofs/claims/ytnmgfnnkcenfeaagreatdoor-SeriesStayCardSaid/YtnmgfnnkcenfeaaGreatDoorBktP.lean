/- Buckets of a series: the plain law. -/
import Derived.Test.YtnmgfnnkcenfeaaGreatDoorMgB
namespace Go.Proofs.YtnmgfnnkcenfeaaGreatDoor
open Go.RowKit

/-- A sum over a list. -/
def tot {α : Type} (f : α → Int) : List α → Int
  | [] => 0
  | x :: l => f x + tot f l
theorem tot_append {α : Type} (f : α → Int) (a b : List α) : tot f (a ++ b) = tot f a + tot f b := by
  induction a with
  | nil => simp [tot]
  | cons x a ih => simp only [List.cons_append, tot, ih]; omega
theorem tot_one {α : Type} (f : α → Int) (x : α) : tot f [x] = f x := by simp [tot]

theorem addB_sum (l : List Bkt) (b : Bkt) : tot (·.sum) (addB l b) = tot (·.sum) l + b.sum := by
  rcases List.eq_nil_or_concat l with rfl | ⟨l, x, rfl⟩
  · simp [addB, tot]
  · rw [List.concat_eq_append]
    by_cases h : x.fr = b.fr
    · rw [addB_same _ _ _ h]; simp only [tot_append, tot, mergeB]; omega
    · rw [addB_new _ _ _ h]; simp only [tot_append, tot]; omega
theorem addB_cnt (l : List Bkt) (b : Bkt) : tot (·.cnt) (addB l b) = tot (·.cnt) l + b.cnt := by
  rcases List.eq_nil_or_concat l with rfl | ⟨l, x, rfl⟩
  · simp [addB, tot]
  · rw [List.concat_eq_append]
    by_cases h : x.fr = b.fr
    · rw [addB_same _ _ _ h]; simp only [tot_append, tot, mergeB]; omega
    · rw [addB_new _ _ _ h]; simp only [tot_append, tot]; omega
theorem addB_la (l : List Bkt) (b : Bkt) : (addB l b).getLast?.map (·.la) = some b.la := by
  rcases List.eq_nil_or_concat l with rfl | ⟨l, x, rfl⟩
  · simp [addB]
  · rw [List.concat_eq_append]
    by_cases h : x.fr = b.fr
    · rw [addB_same _ _ _ h]; simp [mergeB]
    · rw [addB_new _ _ _ h]; simp
theorem addB_fi (l : List Bkt) (b : Bkt) : (addB l b).head?.map (·.fi) = some ((l.head?.map (·.fi)).getD b.fi) := by
  rcases List.eq_nil_or_concat l with rfl | ⟨l, x, rfl⟩
  · simp [addB]
  · rw [List.concat_eq_append]
    by_cases h : x.fr = b.fr
    · rw [addB_same _ _ _ h]; cases l <;> simp [mergeB]
    · rw [addB_new _ _ _ h]; cases l <;> simp
theorem addB_ne (l : List Bkt) (b : Bkt) : addB l b ≠ [] := by
  rcases List.eq_nil_or_concat l with rfl | ⟨l, x, rfl⟩
  · simp [addB]
  · rw [List.concat_eq_append]
    by_cases h : x.fr = b.fr
    · rw [addB_same _ _ _ h]; simp
    · rw [addB_new _ _ _ h]; simp

theorem bktsOf_tot (L : Int) (l : List Smp) : tot (·.sum) (bktsOf L l) = tot (·.2) l ∧ tot (·.cnt) (bktsOf L l) = l.length ∧ (bktsOf L l).getLast?.map (·.la) = l.getLast?.map (·.2) ∧ (bktsOf L l).head?.map (·.fi) = l.head?.map (·.2) := by
  refine snoc_ind (p := fun l => tot (·.sum) (bktsOf L l) = tot (·.2) l ∧ tot (·.cnt) (bktsOf L l) = l.length ∧ (bktsOf L l).getLast?.map (·.la) = l.getLast?.map (·.2) ∧ (bktsOf L l).head?.map (·.fi) = l.head?.map (·.2)) ?_ ?_ l
  · simp [bktsOf, tot]
  · intro l s ⟨h1, h2, h3, h4⟩
    rw [bktsOf_snoc]
    refine ⟨?_, ?_, ?_, ?_⟩
    · rw [addB_sum, tot_append, tot_one, h1]; rfl
    · rw [addB_cnt, h2]; simp [smpB]
    · rw [addB_la]; simp [smpB]
    · rw [addB_fi, h4]
      cases l <;> simp [smpB]

/-- Buckets of times below M are one in the grid of length M. -/
theorem widOf_one (M : Int) (l : List Bkt) (h0 : ∀ x ∈ l, 0 ≤ x.fr ∧ x.fr < M) (hne : l ≠ []) :
    ∃ z, widOf M l = [z] ∧ z.fr = 0 ∧ z.sum = tot (·.sum) l ∧ z.cnt = tot (·.cnt) l ∧ some z.la = l.getLast?.map (·.la) ∧ some z.fi = l.head?.map (·.fi) := by
  revert h0 hne
  refine snoc_ind (p := fun l => (∀ x ∈ l, 0 ≤ x.fr ∧ x.fr < M) → l ≠ [] → ∃ z, widOf M l = [z] ∧ z.fr = 0 ∧ z.sum = tot (·.sum) l ∧ z.cnt = tot (·.cnt) l ∧ some z.la = l.getLast?.map (·.la) ∧ some z.fi = l.head?.map (·.fi)) ?_ ?_ l
  · intro _ h; exact absurd rfl h
  · intro l s ih h0 _
    have hs := h0 s (by simp)
    have hf : (widB M s).fr = 0 := by simp [widB, Int.ediv_eq_zero_of_lt hs.1 hs.2]
    by_cases hl : l = []
    · subst hl
      exact ⟨widB M s, by simp [widOf, addB], hf, by simp [tot, widB], by simp [tot, widB], by simp [widB], by simp [widB]⟩
    · obtain ⟨z, e, z0, z1, z2, z3, z4⟩ := ih (fun x hx => h0 x (by simp [hx])) hl
      refine ⟨mergeB z (widB M s), ?_, z0, ?_, ?_, ?_, ?_⟩
      · rw [widOf_snoc, e]
        exact addB_same [] z (widB M s) (by rw [z0, hf])
      · rw [tot_append, tot_one, ← z1]; rfl
      · rw [tot_append, tot_one, ← z2]; rfl
      · simp [mergeB, widB]
      · have : some (mergeB z (widB M s)).fi = some z.fi := rfl
        rw [this, z4]
        cases l with
        | nil => exact absurd rfl hl
        | cons y l => simp

/-- A good bucket but for its count. -/
structure GoodJ (L : Int) (x : Bkt) : Prop where
  f0 : 0 ≤ x.fr
  f1 : x.fr < 345686400000
  to_ : x.to_ = x.fr + L
  md : x.fr.tmod L = 0
  c0 : 1 ≤ x.cnt
  m0 : -1000000000 ≤ x.mn
  m1 : x.mx ≤ 1000000000
  fi0 : x.mn ≤ x.fi
  fi1 : x.fi ≤ x.mx
  la0 : x.mn ≤ x.la
  la1 : x.la ≤ x.mx
  s0 : x.cnt * x.mn ≤ x.sum
  s1 : x.sum ≤ x.cnt * x.mx
theorem GoodJ.merge {L : Int} {x b : Bkt} (h : GoodJ L x) (k : GoodJ L b) : GoodJ L (mergeB x b) := by
  have h1 : min x.mn b.mn ≤ x.mn := by omega
  have h2 : min x.mn b.mn ≤ b.mn := by omega
  have h3 : x.mx ≤ max x.mx b.mx := by omega
  have h4 : b.mx ≤ max x.mx b.mx := by omega
  have a1 := Int.mul_le_mul_of_nonneg_left h1 (show 0 ≤ x.cnt by have := h.c0; omega)
  have a2 := Int.mul_le_mul_of_nonneg_left h2 (show 0 ≤ b.cnt by have := k.c0; omega)
  have a3 := Int.mul_le_mul_of_nonneg_left h3 (show 0 ≤ x.cnt by have := h.c0; omega)
  have a4 := Int.mul_le_mul_of_nonneg_left h4 (show 0 ≤ b.cnt by have := k.c0; omega)
  obtain ⟨p0, p1, p2, p3, p4, p5, p6, p7, p8, p9, p10, p11, p12⟩ := h
  obtain ⟨q0, q1, q2, q3, q4, q5, q6, q7, q8, q9, q10, q11, q12⟩ := k
  refine ⟨p0, p1, p2, p3, ?_, ?_, ?_, ?_, ?_, ?_, ?_, ?_, ?_⟩ <;> simp only [mergeB]
  · omega
  · omega
  · omega
  · omega
  · omega
  · omega
  · omega
  · rw [Int.add_mul]; omega
  · rw [Int.add_mul]; omega
theorem smpB_good {L : Int} (s : Smp) (hL : 1 ≤ L) (h0 : 0 ≤ s.1) (h1 : s.1 < 345686400000) (h2 : -1000000000 ≤ s.2) (h3 : s.2 ≤ 1000000000) : GoodJ L (smpB L s) := by
  have e1 : 0 ≤ s.1 / L * L := Int.mul_nonneg (Int.ediv_nonneg (by omega) (by omega)) (by omega)
  have e2 : s.1 / L * L ≤ s.1 := Int.ediv_mul_le _ (by omega)
  refine ⟨e1, by simp only [smpB]; omega, rfl, ?_, by simp [smpB], h2, h3, by simp [smpB], by simp [smpB], by simp [smpB], by simp [smpB], by simp [smpB], by simp [smpB]⟩
  simp only [smpB]
  exact Int.mul_tmod_left _ _

theorem bktsOf_good (L : Int) (hL : 1 ≤ L) (l : List Smp) (hr : l.Pairwise (fun s t => s.1 ≤ t.1)) (hv : ∀ s ∈ l, (0 ≤ s.1 ∧ s.1 < 345686400000) ∧ -1000000000 ≤ s.2 ∧ s.2 ≤ 1000000000) :
    (∀ x ∈ bktsOf L l, GoodJ L x) ∧ (bktsOf L l).Pairwise (fun x y => x.fr < y.fr) ∧ (∀ x ∈ bktsOf L l, ∃ s ∈ l, x.fr = s.1 / L * L) := by
  revert hr hv
  refine snoc_ind (p := fun l => l.Pairwise (fun s t => s.1 ≤ t.1) → (∀ s ∈ l, (0 ≤ s.1 ∧ s.1 < 345686400000) ∧ -1000000000 ≤ s.2 ∧ s.2 ≤ 1000000000) → (∀ x ∈ bktsOf L l, GoodJ L x) ∧ (bktsOf L l).Pairwise (fun x y => x.fr < y.fr) ∧ (∀ x ∈ bktsOf L l, ∃ s ∈ l, x.fr = s.1 / L * L)) ?_ ?_ l
  · intro _ _; simp [bktsOf]
  · intro l s ih hr hv
    rw [List.pairwise_append] at hr
    obtain ⟨hr1, _, hr2⟩ := hr
    obtain ⟨i1, i2, i3⟩ := ih hr1 (fun x hx => hv x (by simp [hx]))
    have hs := hv s (by simp)
    have hb := smpB_good s hL hs.1.1 hs.1.2 hs.2.1 hs.2.2
    have hle : ∀ x ∈ bktsOf L l, x.fr ≤ (smpB L s).fr := by
      intro x hx
      obtain ⟨t, ht, e⟩ := i3 x hx
      rw [e]
      exact Int.mul_le_mul_of_nonneg_right (Int.ediv_le_ediv (by omega) (hr2 t ht s (by simp))) (by omega)
    rw [bktsOf_snoc]
    generalize bktsOf L l = bs at i1 i2 i3 hle ⊢
    rcases List.eq_nil_or_concat bs with rfl | ⟨bs, x, rfl⟩
    · simp only [addB_nil, List.mem_singleton]
      refine ⟨?_, by simp, ?_⟩
      · rintro x rfl; exact hb
      · rintro x rfl; exact ⟨s, by simp, rfl⟩
    · rw [List.concat_eq_append] at *
      rw [List.pairwise_append] at i2
      obtain ⟨j1, _, j2⟩ := i2
      by_cases e : x.fr = (smpB L s).fr
      · rw [addB_same _ _ _ e]
        refine ⟨?_, ?_, ?_⟩
        · intro y hy
          rw [List.mem_append, List.mem_singleton] at hy
          rcases hy with hy | rfl
          · exact i1 y (by simp [hy])
          · exact (i1 x (by simp)).merge hb
        · rw [List.pairwise_append]
          refine ⟨j1, by simp, ?_⟩
          intro a ha c hc
          rw [List.mem_singleton] at hc
          subst hc
          exact j2 a ha x (by simp)
        · intro y hy
          rw [List.mem_append, List.mem_singleton] at hy
          rcases hy with hy | rfl
          · obtain ⟨t, ht, h⟩ := i3 y (by simp [hy]); exact ⟨t, by simp [ht], h⟩
          · obtain ⟨t, ht, h⟩ := i3 x (by simp); exact ⟨t, by simp [ht], h⟩
      · have hlt : x.fr < (smpB L s).fr := by have := hle x (by simp); omega
        rw [addB_new _ _ _ e]
        refine ⟨?_, ?_, ?_⟩
        · intro y hy
          simp only [List.mem_append, List.mem_cons, List.not_mem_nil, or_false] at hy
          rcases hy with hy | rfl | rfl
          · exact i1 y (by simp [hy])
          · exact i1 y (by simp)
          · exact hb
        · rw [List.pairwise_append]
          refine ⟨j1, by simpa using hlt, ?_⟩
          intro a ha c hc
          have h := j2 a ha x (by simp)
          simp only [List.mem_cons, List.not_mem_nil, or_false] at hc
          rcases hc with rfl | rfl
          · exact h
          · omega
        · intro y hy
          simp only [List.mem_append, List.mem_cons, List.not_mem_nil, or_false] at hy
          rcases hy with hy | rfl | rfl
          · obtain ⟨t, ht, h⟩ := i3 y (by simp [hy]); exact ⟨t, by simp [ht], h⟩
          · obtain ⟨t, ht, h⟩ := i3 y (by simp); exact ⟨t, by simp [ht], h⟩
          · exact ⟨s, by simp, rfl⟩
theorem bktsOf_goodBs (L : Int) (hL : 1 ≤ L) (l : List Smp) (hn : l.length ≤ 5000) (hr : l.Pairwise (fun s t => s.1 ≤ t.1)) (hv : ∀ s ∈ l, (0 ≤ s.1 ∧ s.1 < 345686400000) ∧ -1000000000 ≤ s.2 ∧ s.2 ≤ 1000000000) : GoodBs L (bktsOf L l) := by
  obtain ⟨h1, h2, _⟩ := bktsOf_good L hL l hr hv
  refine ⟨by have := bktsOf_length L l; omega, ?_, ?_⟩
  · intro i x hx
    have hm := List.mem_of_getElem? hx
    have hc := (bktsOf_ok L l (fun s hs => (hv s hs).2) x hm).c1
    obtain ⟨p0, p1, p2, p3, p4, p5, p6, p7, p8, p9, p10, p11, p12⟩ := h1 x hm
    exact ⟨p0, p1, p2, p3, p4, by omega, p5, p6, p7, p8, p9, p10, p11, p12⟩
  · intro i x y hx hy
    rw [List.pairwise_iff_getElem] at h2
    obtain ⟨a1, a2⟩ := List.getElem?_eq_some_iff.1 hx
    obtain ⟨b1, b2⟩ := List.getElem?_eq_some_iff.1 hy
    have := h2 i (i + 1) a1 b1 (by omega)
    rw [a2, b2] at this
    exact this
end Go.Proofs.YtnmgfnnkcenfeaaGreatDoor
