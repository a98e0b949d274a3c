/- The series of a stream: what is so of it. -/
import Derived.Test.YtnmgfnnkcenfeaaGreatDoorBktP
import Derived.Test.YtnmgfnnkcenfeaaGreatDoorMgA
namespace Go.Proofs.YtnmgfnnkcenfeaaGreatDoor
open Go.RowKit

/-- Steps of 1 to 1000 from a on, and values from -100 to 1000. -/
def Chn : Int → List Smp → Prop
  | _, [] => True
  | a, x :: l => (1 ≤ x.1 - a ∧ x.1 - a ≤ 1000) ∧ (-100 ≤ x.2 ∧ x.2 ≤ 1000) ∧ Chn x.1 l
def endA : Int → List Smp → Int
  | a, [] => a
  | _, x :: l => endA x.1 l
theorem endA_snoc (l : List Smp) (x : Smp) : ∀ a, endA a (l ++ [x]) = x.1 := by
  induction l with
  | nil => intro a; rfl
  | cons y l ih => intro a; exact ih y.1
theorem chn_snoc (l : List Smp) (x : Smp) : ∀ a, Chn a l → (1 ≤ x.1 - endA a l ∧ x.1 - endA a l ≤ 1000) → (-100 ≤ x.2 ∧ x.2 ≤ 1000) → Chn a (l ++ [x]) := by
  induction l with
  | nil => intro a _ h1 h2; exact ⟨h1, h2, trivial⟩
  | cons y l ih => intro a h h1 h2; exact ⟨h.1, h.2.1, ih y.1 h.2.2 h1 h2⟩
theorem chn_steps (l : List Smp) : ∀ (a b v : Int) (f : Bool), Chn a l → (0 ≤ b ∧ b ≤ 1000) → (-100 ≤ v ∧ v ≤ 1000) → StepsOk a b v f l := by
  induction l with
  | nil => intros; trivial
  | cons x l ih =>
    intro a b v f h hb hv
    obtain ⟨h1, h2, h3⟩ := h
    refine ⟨by omega, by omega, by omega, by omega, ih x.1 _ x.2 false h3 ?_ h2⟩
    split <;> omega
theorem chn_all (l : List Smp) : ∀ a, Chn a l → l.Pairwise (fun s t => s.1 < t.1) ∧ ∀ s ∈ l, a < s.1 ∧ s.1 ≤ a + 1000 * l.length ∧ -100 ≤ s.2 ∧ s.2 ≤ 1000 := by
  induction l with
  | nil => intro a _; simp
  | cons x l ih =>
    intro a h
    obtain ⟨h1, h2, h3⟩ := h
    obtain ⟨i1, i2⟩ := ih x.1 h3
    refine ⟨List.pairwise_cons.2 ⟨fun s hs => (i2 s hs).1, i1⟩, ?_⟩
    intro s hs
    simp only [List.length_cons]
    rcases List.mem_cons.1 hs with rfl | hs
    · refine ⟨by omega, by omega, h2⟩
    · have := i2 s hs
      refine ⟨by omega, by omega, this.2.2⟩
theorem serL_chn (xs : List Int) (k n : Nat) : Chn 0 (serL xs k (-100) n) ∧ endA 0 (serL xs k (-100) n) = serAt xs k n := by
  induction n with
  | zero => exact ⟨trivial, rfl⟩
  | succ n ih =>
    rw [serL_succ, endA_snoc]
    have h1 := serAt_step xs k n
    have h2 := serV_range xs k (-100) n
    refine ⟨chn_snoc _ _ 0 ih.1 ?_ ?_, rfl⟩
    · rw [ih.2]; omega
    · simp only; omega

/-- All that the law needs to know of the series. -/
structure Fine (l : List Smp) : Prop where
  good : GoodS l
  steps : StepsOk 0 0 0 true l
  le : l.Pairwise (fun s t => s.1 ≤ t.1)
  all : ∀ s ∈ l, (0 ≤ s.1 ∧ s.1 < 100000) ∧ -100 ≤ s.2 ∧ s.2 ≤ 1000
theorem serL_fine (xs : List Int) (k n : Nat) (hn : n ≤ 90) : Fine (serL xs k (-100) n) := by
  have hc := (serL_chn xs k n).1
  have hl := serL_length xs k (-100) n
  obtain ⟨h1, h2⟩ := chn_all _ 0 hc
  have h3 : ∀ s ∈ serL xs k (-100) n, (0 ≤ s.1 ∧ s.1 < 100000) ∧ -100 ≤ s.2 ∧ s.2 ≤ 1000 := by
    intro s hs
    have := h2 s hs
    rw [hl] at this
    refine ⟨⟨by omega, by omega⟩, this.2.2⟩
  refine ⟨⟨by omega, ?_, ?_, ?_⟩, chn_steps _ 0 0 0 true hc (by omega) (by omega), h1.imp (by intro a b h; omega), h3⟩
  · intro i x hx
    have := (h3 x (List.mem_of_getElem? hx)).1
    omega
  · intro i x hx
    have := (h3 x (List.mem_of_getElem? hx)).2
    omega
  · intro i x y hx hy
    rw [List.pairwise_iff_getElem] at h1
    obtain ⟨a1, a2⟩ := List.getElem?_eq_some_iff.1 hx
    obtain ⟨b1, b2⟩ := List.getElem?_eq_some_iff.1 hy
    have := h1 i (i + 1) a1 b1 (by omega)
    rw [a2, b2] at this
    exact this
/-- Its one great bucket. -/
theorem fine_wide {l : List Smp} (h : Fine l) (hne : l ≠ []) :
    ∃ z, widOf 100000 (bktsOf 50 l) = [z] ∧ z.sum = tot (·.2) l ∧ z.cnt = l.length ∧ some z.la = l.getLast?.map (·.2) ∧ some z.fi = l.head?.map (·.2) := by
  have hv : ∀ s ∈ l, (0 ≤ s.1 ∧ s.1 < 345686400000) ∧ -1000000000 ≤ s.2 ∧ s.2 ≤ 1000000000 := fun s hs => by have := h.all s hs; omega
  obtain ⟨_, _, h3⟩ := bktsOf_good 50 (by omega) l h.le hv
  obtain ⟨t1, t2, t3, t4⟩ := bktsOf_tot 50 l
  have hb : bktsOf 50 l ≠ [] := by
    intro e
    rw [e] at t2
    simp only [tot] at t2
    exact hne (List.eq_nil_of_length_eq_zero (by omega))
  obtain ⟨z, e, _, z1, z2, z3, z4⟩ := widOf_one 100000 (bktsOf 50 l) (fun x hx => by
    obtain ⟨s, hs, e⟩ := h3 x hx
    have := (h.all s hs).1
    rw [e]
    omega) hb
  exact ⟨z, e, z1.trans t1, z2.trans t2, z3.trans t3, z4.trans t4⟩
theorem fine_goodBs {l : List Smp} (h : Fine l) : GoodBs 50 (bktsOf 50 l) :=
  bktsOf_goodBs 50 (by omega) l h.good.len h.le fun s hs => by have := h.all s hs; omega
end Go.Proofs.YtnmgfnnkcenfeaaGreatDoor
