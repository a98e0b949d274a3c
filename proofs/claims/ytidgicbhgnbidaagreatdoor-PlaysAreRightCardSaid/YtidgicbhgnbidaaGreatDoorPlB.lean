/- slices.SortFunc of marks by byMoment: the sorted marks. Printed by gen_PlA.py. -/
import Derived.Test.YtidgicbhgnbidaaGreatDoorCmT
import Derived.Test.YtidgicbhgnbidaaGreatDoorMgD
namespace Go.Proofs.YtidgicbhgnbidaaGreatDoor
open Go.RowKit Go.Shelf Go.Sort

theorem bitsLenW (n : Nat) (W : World) (h : n ≤ 12) : Calls Tryz.prog (layMs_ren.f 15) #[.int .u64 n] W fun e w' => (∃ l : Int, e = .returned (.int .i64 l)) ∧ w' = W :=
  (Any.bits_Len (SlLaysF0.n15.bits (P := Tryz.prog) (ρ := layMs_ren) { layMs with }) n W (by omega) (by omega)).mono fun _ _ ⟨he, hw⟩ => ⟨⟨_, he⟩, hw⟩
theorem insW_none (p : Option Addr) (cap : Nat) (fv : Value) (w : World) : Calls Tryz.prog 186 #[.slice p 0 cap, .int .i64 0, .int .i64 0, fv] w fun e w' => e = .returned (.tuple #[]) ∧ w' = w := by
  go_enter Tryz.func186, Tryz.ntmps186
  go_wp2_with (fail)
  refine wp_loop_rounds 1 ?_
  rw [rounds_succ]
  go_wp2_with (fail)
  go_end0
  exact ⟨rfl, rfl⟩
theorem pdqW_none (p : Option Addr) (cap : Nat) (lim : Int) (fv : Value) (w : World) : Calls Tryz.prog 152 #[.slice p 0 cap, .int .i64 0, .int .i64 0, .int .i64 lim, fv] w fun e w' => e = .returned (.tuple #[]) ∧ w' = w := by
  go_enter Tryz.func152, Tryz.ntmps152
  go_wp2_with (fail)
  refine wp_loop_rounds 1 ?_
  rw [rounds_succ]
  go_wp2_with (go_at_call 186; refine (insW_none _ _ _ _).mono ?_; rintro e w' ⟨rfl, rfl⟩)
  (try simp only [Exit.inBlock, Exit.then]); refine bodyPost_ret (results_none rfl _ _ _) rfl ?_
  exact ⟨rfl, rfl⟩
theorem sortW_none (p : Option Addr) (cap : Nat) (fv : Value) (w : World) : Calls Tryz.prog 106 #[.slice p 0 cap, fv] w fun e w' => e = .returned (.tuple #[]) ∧ w' = w := by
  have hl := fun W => bitsLenW 0 W (by omega)
  change ∀ W, Calls Tryz.prog 87 _ W _ at hl
  go_enter Tryz.func106, Tryz.ntmps106
  go_wp2_with (first | (go_at_call 87; refine (hl _).mono ?_; rintro e w' ⟨⟨l, rfl⟩, rfl⟩) | (go_at_call 152; refine (pdqW_none _ _ _ _ _).mono ?_; rintro e w' ⟨rfl, rfl⟩))
  go_end0
  exact ⟨rfl, rfl⟩
def SortWPost (l : List Mk) (n base : Nat) (v : Value) (w : World) (e : Ending) (w' : World) : Prop :=
  e = .returned (.tuple #[]) ∧ ∃ m : List Mk, m.Perm l ∧ m.length = n ∧ w'.ownsRow base 64 6 v n (recs mkC m) ∧ w.grownBy w' v.ownBlock ∧ m.Pairwise (fun x y => ¬ cmpM y x < 0)
theorem sortW_any (l : List Mk) (n c base : Nat) (A : Option Addr) (w : World) (hl : ∀ m ∈ l, MkRw m) (hn : l.length = n) (h12 : n ≤ 12) (ho : w.ownsRow base 64 6 (.slice A n c) n (recs mkC l)) :
    Calls Tryz.prog 106 #[.slice A n c, .func (.func 71) #[] #[]] w fun e w' => SortWPost l n base (.slice A n c) w e w' := by
  by_cases hn0 : n = 0
  · subst hn0
    refine (sortW_none A c _ w).mono ?_
    rintro e w' ⟨rfl, rfl⟩
    have hl := List.eq_nil_of_length_eq_zero hn
    subst hl
    exact ⟨rfl, [], List.Perm.refl _, rfl, ho, grown_refl _ _, List.Pairwise.nil⟩
  rcases own_two ho with ⟨h1, h2, h3⟩ | ⟨b, rfl, hb, hlt⟩
  · exact absurd h2 hn0
  · have eg : ∀ args w, (callFunc 71 args).run Tryz.prog w = .ok (.enter 71 args) w := enters_of Tryz.func71 (by kernel_rfl) rfl
    obtain ⟨L, hL⟩ : ∃ L : List RwM, L.map (·.1) = l := ⟨l.attach.map (fun d => ⟨d.1, hl d.1 d.2⟩), by rw [List.map_map]; simp [Function.comp_def]⟩
    have hrec : recs (fun x : RwM => mkC x.1) L = recs mkC l := by
      rw [← hL]
      unfold recs
      rw [List.flatMap_map]
    have hLn : L.length = n := by rw [← hn, ← hL, List.length_map]
    rw [← hrec] at ho
    obtain ⟨z, hz⟩ : ∃ z, L[0]? = some z := ⟨_, List.getElem?_eq_getElem (by omega)⟩
    haveI : Inhabited RwM := ⟨z⟩
    have hcmp : CmpLays Tryz.prog 71 #[] (fun x : RwM => mkC x.1) 6 (fun x y => cmpM x.1 y.1) b 0 L.toArray.size w := fun m os dk _ x y => byMoment_grow x.1 y.1 _
    have h := AnyQ.slices_SortFunc layMs 6 Tryz.isAgg64 Tryz.sizeOf64 (fun x : RwM => mkC x.1) (fun x => mkC_len x.1) (fun x => mkC_one x.1) (fun x y => cmpM x.1 y.1) swoM 71 #[] b 0 c L.toArray w eg hcmp (holdsK_of_own (fun x => mkC_len x.1) ho hLn) hlt (by simp [hLn]; omega)
    have hsz : L.toArray.size = n := by simpa using hLn
    rw [hsz] at h
    refine h.mono ?_
    rintro e w' ⟨rfl, d', q, os, hp, hs, rfl⟩
    rw [← hsz] at hp hs
    obtain ⟨h1, h2, h3⟩ := sorted_list hp hs
    obtain ⟨m, rfl⟩ : ∃ m : List RwM, d' = m.toArray := ⟨d'.toList, by simp⟩
    refine ⟨rfl, m.map (·.1), by rw [← hL]; exact (show m.Perm L by simpa using h1).map _, by rw [List.length_map]; simpa [hLn] using h2, ?_, grown_sortedK _, by
      rw [List.pairwise_map]
      exact (show m.Pairwise _ by simpa using h3).imp fun {x y} h => by unfold ltOf at h; simpa using h⟩
    have h4 := own_sortedK (fun x : RwM => mkC_len x.1) ho (m := m) (by simpa [hLn] using h2) q os
    have h5 : recs (fun x : RwM => mkC x.1) m = recs mkC (m.map (·.1)) := by
      unfold recs
      rw [List.flatMap_map]
    rw [h5] at h4
    exact h4
end Go.Proofs.YtidgicbhgnbidaaGreatDoor
