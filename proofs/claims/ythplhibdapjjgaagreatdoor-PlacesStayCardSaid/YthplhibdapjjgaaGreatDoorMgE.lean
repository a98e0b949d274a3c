/- Several texts in one: HuR, MrA. -/
import Derived.Test.YthplhibdapjjgaaGreatDoorHuA
import Derived.Test.YthplhibdapjjgaaGreatDoorMgB

/- slices.Reverse of spots by the shelf's contract. -/
namespace Go.Proofs.YthplhibdapjjgaaGreatDoor
open Go.RowKit Go.Shelf Go.Sort

theorem revS_any (l : List Pt) (n c base g : Nat) (w : World) (hn : l.length = n) (h12 : n ≤ 5000) (ho : w.ownsRow base 37 2 (.slice (some ⟨g, 0, none⟩) n c) n (recs ptC l)) :
    Calls Tryz.prog 31 #[.slice (some ⟨g, 0, none⟩) n c] w fun e w' => e = .returned (.tuple #[]) ∧ w'.ownsRow base 37 2 (.slice (some ⟨g, 0, none⟩) n c) n (recs ptC l.reverse) ∧ w.grownBy w' (some g) := by
  have h := AnyQ.slices_Reverse lay35 2 Tryz.isAgg37 Tryz.sizeOf37 ptC ptC_len ptC_one g 0 c l.toArray w (holdsK_of_own ptC_len ho hn) (by simp; omega)
  have hsz : l.toArray.size = n := by simpa using hn
  rw [hsz] at h
  refine h.mono ?_
  rintro e w' ⟨rfl, q, rfl⟩
  have e1 : putRowK ptC 2 (Sort.ahead w q) g 0 l.toArray.reverse = sortWorldK ptC 2 w g 0 q l.reverse.toArray #[] := by
    unfold sortWorldK
    rw [grow_empty, List.reverse_toArray]
  rw [e1]
  exact ⟨rfl, own_sortedK ptC_len ho (by rw [List.length_reverse]; exact hn) q #[], grown_sortedK _⟩
end Go.Proofs.YthplhibdapjjgaaGreatDoor

/- slices.SortStableFunc of fixes: what is sorted is the same. -/
namespace Go.Proofs.YthplhibdapjjgaaGreatDoor
open Go.RowKit Go.Shelf Go.Sort

instance : Inhabited Fx := ⟨(0, 0, 0, 0)⟩
theorem cmpI_lt (a b : Int) : cmpI a b < 0 ↔ a < b := by
  unfold cmpI
  repeat' split
  all_goals omega
theorem swoF : SWO (ltOf fun x y : Fx => cmpI x.1 y.1) where
  irrefl x := by
    have := cmpI_lt x.1 x.1
    unfold ltOf
    simp
    omega
  trans x y z h1 h2 := by
    unfold ltOf at *
    have e1 := cmpI_lt x.1 y.1
    have e2 := cmpI_lt y.1 z.1
    have e3 := cmpI_lt x.1 z.1
    simp at *
    omega
  ntrans x y z h1 h2 := by
    unfold ltOf at *
    have e1 := cmpI_lt x.1 y.1
    have e2 := cmpI_lt y.1 z.1
    have e3 := cmpI_lt x.1 z.1
    simp at *
    omega
def SortFPost (l : List Fx) (n base : Nat) (v : Value) (w : World) (e : Ending) (w' : World) : Prop :=
  e = .returned (.tuple #[]) ∧ ∃ m : List Fx, m.Perm l ∧ m.length = n ∧ w'.ownsRow base 42 5 v n (recs fxC m) ∧ w.grownBy w' v.ownBlock
theorem insF_none (p : Option Addr) (cap : Nat) (fv : Value) (w : World) : Calls Tryz.prog 113 #[.slice p 0 cap, .int .i64 0, .int .i64 0, fv] w fun e w' => e = .returned (.tuple #[]) ∧ w' = w := by
  go_enter Tryz.func113, Tryz.ntmps113
  go_wp2_with (fail)
  refine wp_loop_rounds 1 ?_
  rw [rounds_succ]
  go_wp2_with (fail)
  go_end0
  exact ⟨rfl, rfl⟩
theorem insF_any (l : List Fx) (n c base : Nat) (A : Option Addr) (w : World) (hn : l.length = n) (h12 : n ≤ 19) (ho : w.ownsRow base 42 5 (.slice A n c) n (recs fxC l)) :
    Calls Tryz.prog 113 #[.slice A n c, .int .i64 0, .int .i64 (n : Int), .func (.func 37) #[] #[]] w fun e w' => SortFPost l n base (.slice A n c) w e w' := by
  by_cases hn0 : n = 0
  · subst hn0
    refine (insF_none A c _ w).mono ?_
    rintro e w' ⟨rfl, rfl⟩
    have hl := List.eq_nil_of_length_eq_zero hn
    subst hl
    exact ⟨rfl, [], List.Perm.refl _, rfl, ho, grown_refl _ _⟩
  rcases own_two ho with ⟨h1, h2, h3⟩ | ⟨b, rfl, hb, hlt⟩
  · exact absurd h2 hn0
  · have eg : ∀ args w, (callFunc 37 args).run Tryz.prog w = .ok (.enter 37 args) w := enters_of Tryz.func37 (by kernel_rfl) rfl
    have hcmp : CmpLays Tryz.prog 37 #[] fxC 5 (fun x y : Fx => cmpI x.1 y.1) b 0 l.toArray.size w := fun m os dk _ x y => byDeviceF_gr x y _
    have h := AnyQ.insertionSortCmpFunc layFx 5 Tryz.isAgg42 Tryz.sizeOf42 fxC fxC_len fxC_one (fun x y : Fx => cmpI x.1 y.1) 37 #[] b 0 c 0 l.toArray.size l.toArray w eg hcmp (holdsK_of_own fxC_len ho hn) hlt (Nat.zero_le _) (Nat.le_refl _) (by simp; omega)
    have hsz : l.toArray.size = n := by simpa using hn
    have hins := insertionSort_holds (lt := ltOf fun x y : Fx => cmpI x.1 y.1) swoF l.toArray 0 l.toArray.size (Nat.zero_le _) (Nat.le_refl _)
    rw [hsz] at h
    refine h.mono ?_
    rintro e w' ⟨rfl, q, os, rfl⟩
    obtain ⟨h1, h2, h3⟩ := sorted_list hins.1 hins.2
    rw [hsz] at h1 h2 h3
    obtain ⟨m, hm⟩ : ∃ m : List Fx, Sort.insertionSort (ltOf fun x y : Fx => cmpI x.1 y.1) l.toArray 0 n = m.toArray := ⟨(Sort.insertionSort (ltOf fun x y : Fx => cmpI x.1 y.1) l.toArray 0 n).toList, by simp⟩
    rw [hm] at h1 h2 h3 ⊢
    exact ⟨rfl, m, by simpa using h1, by simpa [hn] using h2, own_sortedK fxC_len ho (m := m) (by simpa [hn] using h2) q os, grown_sortedK _⟩
set_option maxRecDepth 100000 in
theorem sortStableF_any (l : List Fx) (n c base : Nat) (A : Option Addr) (w : World) (hn : l.length = n) (h12 : n ≤ 19) (ho : w.ownsRow base 42 5 (.slice A n c) n (recs fxC l)) :
    Calls Tryz.prog 36 #[.slice A n c, .func (.func 37) #[] #[]] w fun e w' => SortFPost l n base (.slice A n c) w e w' := by
  have HI := Lib.hid (insF_any l n c base A w hn h12 ho)
  have h1 : ¬ (20 : Int) ≤ n := by omega
  have h2 : ¬ (20 : Int) < n := by omega
  clear ho hn
  go_enter Tryz.func36, Tryz.ntmps36
  go_wp2_with (fail)
  go_enter Tryz.func71, Tryz.ntmps71
  go_wp2_with (fail)
  refine wp_loop_rounds 1 ?_
  rw [rounds_succ]
  go_wp2_with (fail)
  refine HI.out.mono ?_
  rintro e w1 ⟨rfl, hp⟩
  have HP := Lib.hid hp
  clear hp
  go_wp2_with (fail)
  refine wp_loop_rounds 1 ?_
  rw [rounds_succ]
  go_wp2_with (fail)
  go_end0
  exact ⟨rfl, HP.out⟩
end Go.Proofs.YthplhibdapjjgaaGreatDoor
