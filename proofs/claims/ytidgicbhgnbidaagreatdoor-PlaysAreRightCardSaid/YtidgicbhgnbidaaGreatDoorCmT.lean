/- slices.SortStableFunc of marks, right or not: what is sorted is the same. -/
import Derived.Test.YtidgicbhgnbidaaGreatDoorCmR
namespace Go.Proofs.YtidgicbhgnbidaaGreatDoor
open Go.RowKit Go.Shelf Go.Sort

def rkD (d : Nat) : Int := if d = 6 then -1 else d
theorem dvR_cmp {i j : Nat} (hi : i ≤ 6) (hj : j ≤ 6) : Lib.compareBytes (dvT i).data.toList (dvT j).data.toList < 0 ↔ rkD i < rkD j := by
  have h : ∀ i : Fin 7, ∀ j : Fin 7, (Lib.compareBytes (dvT i).data.toList (dvT j).data.toList < 0 ↔ rkD i < rkD j) := by decide +kernel
  exact h ⟨i, by omega⟩ ⟨j, by omega⟩
theorem lexJ (a b r : Int) : orI [cmpI a b, r] < 0 ↔ (a < b ∨ a = b ∧ r < 0) := by
  unfold cmpI orI orI
  repeat' split
  all_goals first | omega | (simp only [orI]; omega)
abbrev RwM := {m : Mk // MkRw m}
theorem swoM : SWO (ltOf fun x y : RwM => cmpM x.1 y.1) :=
  swo3 _ (fun x => x.1.at_) (fun x => rkD x.1.d) (fun _ => 0) fun x y => by
    have h1 := dvR_cmp x.2.d y.2.d
    unfold cmpM
    rw [lexJ, h1]
    constructor <;> intro h <;> omega
theorem insM_none (p : Option Addr) (cap : Nat) (fv : Value) (w : World) : Calls Tryz.prog 186 #[.slice p 0 cap, .int .i64 0, .int .i64 0, fv] w fun e w' => e = .returned (.tuple #[]) ∧ w' = w := by
  go_enter Tryz.func186, Tryz.ntmps186
  go_wp2_with (fail)
  refine wp_loop_rounds 1 ?_
  rw [rounds_succ]
  go_wp2_with (fail)
  go_end0
  exact ⟨rfl, rfl⟩
def SortMPost (l : List Mk) (n base : Nat) (v : Value) (w : World) (e : Ending) (w' : World) : Prop :=
  e = .returned (.tuple #[]) ∧ ∃ m : List Mk, m.Perm l ∧ m.length = n ∧ w'.ownsRow base 64 6 v n (recs mkC m) ∧ w.grownBy w' v.ownBlock
theorem insM_any (l : List Mk) (n c base : Nat) (A : Option Addr) (w : World) (hl : ∀ m ∈ l, MkRw m) (hn : l.length = n) (h12 : n ≤ 19) (ho : w.ownsRow base 64 6 (.slice A n c) n (recs mkC l)) :
    Calls Tryz.prog 186 #[.slice A n c, .int .i64 0, .int .i64 (n : Int), .func (.func 111) #[] #[]] w fun e w' => SortMPost l n base (.slice A n c) w e w' := by
  by_cases hn0 : n = 0
  · subst hn0
    refine (insM_none A c _ w).mono ?_
    rintro e w' ⟨rfl, rfl⟩
    have hl := List.eq_nil_of_length_eq_zero hn
    subst hl
    exact ⟨rfl, [], List.Perm.refl _, rfl, ho, grown_refl _ _⟩
  rcases own_two ho with ⟨h1, h2, h3⟩ | ⟨b, rfl, hb, hlt⟩
  · exact absurd h2 hn0
  · have eg : ∀ args w, (callFunc 111 args).run Tryz.prog w = .ok (.enter 111 args) w := enters_of Tryz.func111 (by kernel_rfl) rfl
    obtain ⟨L, hL⟩ : ∃ L : List RwM, L.map (·.1) = l := ⟨l.attach.map (fun d => ⟨d.1, hl d.1 d.2⟩), by rw [List.map_map]; simp [Function.comp_def]⟩
    have hrec : recs (fun x : RwM => mkC x.1) L = recs mkC l := by
      rw [← hL]
      unfold recs
      rw [List.flatMap_map]
    have hLn : L.length = n := by rw [← hn, ← hL, List.length_map]
    rw [← hrec] at ho
    obtain ⟨z, hz⟩ : ∃ z, L[0]? = some z := ⟨_, List.getElem?_eq_getElem (by omega)⟩
    haveI : Inhabited RwM := ⟨z⟩
    have hcmp : CmpLays Tryz.prog 111 #[] (fun x : RwM => mkC x.1) 6 (fun x y => cmpM x.1 y.1) b 0 L.toArray.size w := fun m os dk _ x y => markOrder_gr x.1 y.1 _ x.2 y.2
    have h := AnyQ.insertionSortCmpFunc layMk 6 Tryz.isAgg64 Tryz.sizeOf64 (fun x : RwM => mkC x.1) (fun x => mkC_len x.1) (fun x => mkC_one x.1) (fun x y => cmpM x.1 y.1) 111 #[] b 0 c 0 L.toArray.size L.toArray w eg hcmp (holdsK_of_own (fun x => mkC_len x.1) ho hLn) hlt (Nat.zero_le _) (Nat.le_refl _) (by simp; omega)
    have hsz : L.toArray.size = n := by simpa using hLn
    have hins := insertionSort_holds (lt := ltOf fun x y : RwM => cmpM x.1 y.1) swoM L.toArray 0 L.toArray.size (Nat.zero_le _) (Nat.le_refl _)
    rw [hsz] at h
    refine h.mono ?_
    rintro e w' ⟨rfl, q, os, rfl⟩
    obtain ⟨h1, h2, h3⟩ := sorted_list hins.1 hins.2
    rw [hsz] at h1 h2 h3
    obtain ⟨m, hm⟩ : ∃ m : List RwM, Sort.insertionSort (ltOf fun x y : RwM => cmpM x.1 y.1) L.toArray 0 n = m.toArray := ⟨(Sort.insertionSort (ltOf fun x y : RwM => cmpM x.1 y.1) L.toArray 0 n).toList, by simp⟩
    rw [hm] at h1 h2 h3 ⊢
    have h4 := own_sortedK (fun x : RwM => mkC_len x.1) ho (m := m) (by simpa [hLn] using h2) q os
    have h5 : recs (fun x : RwM => mkC x.1) m = recs mkC (m.map (·.1)) := by
      unfold recs
      rw [List.flatMap_map]
    rw [h5] at h4
    exact ⟨rfl, m.map (·.1), by rw [← hL]; exact (show m.Perm L by simpa using h1).map _, by rw [List.length_map]; simpa [hLn] using h2, h4, grown_sortedK _⟩
set_option maxRecDepth 100000 in
theorem sortStableM_any (l : List Mk) (n c base : Nat) (A : Option Addr) (w : World) (hl : ∀ m ∈ l, MkRw m) (hn : l.length = n) (h12 : n ≤ 19) (ho : w.ownsRow base 64 6 (.slice A n c) n (recs mkC l)) :
    Calls Tryz.prog 110 #[.slice A n c, .func (.func 111) #[] #[]] w fun e w' => SortMPost l n base (.slice A n c) w e w' := by
  have HI := Lib.hid (insM_any l n c base A w hl hn h12 ho)
  have h1 : ¬ (20 : Int) ≤ n := by omega
  have h2 : ¬ (20 : Int) < n := by omega
  clear ho hn hl
  go_enter Tryz.func110, Tryz.ntmps110
  go_wp2_with (fail)
  go_enter Tryz.func154, Tryz.ntmps154
  go_wp2_with (fail)
  refine wp_loop_rounds 1 ?_
  rw [rounds_succ]
  go_wp2_with (fail)
  refine HI.out.mono ?_
  rintro e w1 ⟨rfl, hp⟩
  have HP := Lib.hid hp
  clear hp
  go_wp2_with (fail)
  refine wp_loop_rounds 1 ?_
  rw [rounds_succ]
  go_wp2_with (fail)
  go_end0
  exact ⟨rfl, HP.out⟩
end Go.Proofs.YtidgicbhgnbidaaGreatDoor
