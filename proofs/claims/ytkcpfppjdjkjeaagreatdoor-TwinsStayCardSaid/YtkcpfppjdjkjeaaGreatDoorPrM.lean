/- slices.SortFunc of at most 12 properties by its contract. -/
import Derived.Test.YtkcpfppjdjkjeaaGreatDoorMgB
import Derived.Test.YtkcpfppjdjkjeaaGreatDoorOwK
import Derived.Test.YtkcpfppjdjkjeaaGreatDoorLaySF
import Derived.Shelf.SlSortCmp.Xorshift
namespace Go.Proofs.YtkcpfppjdjkjeaaGreatDoor
open Go.RowKit Go.Shelf Go.Sort

instance : Inhabited Pv := ⟨pvNone⟩
def cfP (x y : Pr) : Int := Lib.compareBytes (nm x.1).data.toList (nm y.1).data.toList
theorem nm_min (i : Nat) : nm i = nm (min i 6) := by
  match i with
  | 0 => rfl
  | 1 => rfl
  | 2 => rfl
  | 3 => rfl
  | 4 => rfl
  | 5 => rfl
  | 6 => rfl
  | n + 7 => rw [show min (n + 7) 6 = 6 by omega]; rfl
theorem cfP_rank (x y : Pr) : cfP x y = cmpN (min x.1 6) (min y.1 6) := by
  unfold cfP
  rw [nm_min x.1, nm_min y.1]
  exact nm_cmp _ _ (by omega) (by omega)
theorem ltP (x y : Pr) : ltOf cfP x y = decide (min x.1 6 < min y.1 6) := by
  unfold ltOf
  rw [cfP_rank]
  unfold cmpN
  by_cases h1 : min x.1 6 < min y.1 6
  · simp [h1]
  · by_cases h2 : min x.1 6 = min y.1 6 <;> simp [h1, h2]
theorem swoP : SWO (ltOf cfP) where
  irrefl x := by rw [ltP]; simp
  trans x y z h1 h2 := by rw [ltP] at *; simp only [decide_eq_true_eq] at *; omega
  ntrans x y z h1 h2 := by rw [ltP] at *; simp only [decide_eq_false_iff_not] at *; omega
set_option maxRecDepth 100000 in
theorem order_grow (x y : Pr) (W : World) : Calls Tryz.prog 28 #[.agg (prC x).toArray, .agg (prC y).toArray] W fun e w' => e = .returned (.int .i64 (cfP x y)) ∧ ∃ q os', w' = grow (W.drewN q) os' := by
  have hcon := fun W' => scompare_any (nm x.1) (nm y.1) W'
  unfold cfP
  generalize Lib.compareBytes (nm x.1).data.toList (nm y.1).data.toList = r at hcon ⊢
  show Calls Tryz.prog 28 #[.agg #[.string (nm x.1), .int .i64 x.2.k, .bool x.2.f, .int .i64 x.2.n, .string x.2.s], .agg #[.string (nm y.1), .int .i64 y.2.k, .bool y.2.f, .int .i64 y.2.n, .string y.2.s]] W _
  go_enter Tryz.func28, Tryz.ntmps28
  go_wp2_with (go_at_call 44; refine (hcon _).mono ?_; rintro e w' ⟨rfl, rfl⟩)
  go_ret
  exact ⟨rfl, 0, _, by rw [alloc_eq_grow, alloc_eq_grow, grow_grow]; rfl⟩
set_option maxRecDepth 100000 in
theorem apply1_grow (x y : Pr) (W : World) : Calls Tryz.prog 43 #[.agg (prC x).toArray, .agg (prC y).toArray] W fun e w' => e = .returned (.int .i64 (cfP x y)) ∧ ∃ q os', w' = grow (W.drewN q) os' := by
  have hcon := fun W' => scompare_any (nm x.1) (nm y.1) W'
  unfold cfP
  generalize Lib.compareBytes (nm x.1).data.toList (nm y.1).data.toList = r at hcon ⊢
  show Calls Tryz.prog 43 #[.agg #[.string (nm x.1), .int .i64 x.2.k, .bool x.2.f, .int .i64 x.2.n, .string x.2.s], .agg #[.string (nm y.1), .int .i64 y.2.k, .bool y.2.f, .int .i64 y.2.n, .string y.2.s]] W _
  go_enter Tryz.func43, Tryz.ntmps43
  go_wp2_with (go_at_call 44; refine (hcon _).mono ?_; rintro e w' ⟨rfl, rfl⟩)
  go_ret
  exact ⟨rfl, 0, _, by rw [alloc_eq_grow, alloc_eq_grow, grow_grow]; rfl⟩
theorem bitsLen12 (n : Nat) (W : World) (h : n ≤ 12) : Calls Tryz.prog (laySF_ren.f 15) #[.int .u64 n] W fun e w' => (∃ l : Int, e = .returned (.int .i64 l)) ∧ w' = W :=
  (Any.bits_Len (SlLaysF0.n15.bits (P := Tryz.prog) (ρ := laySF_ren) { laySF with }) n W (by omega) (by omega)).mono fun _ _ ⟨he, hw⟩ => ⟨⟨_, he⟩, hw⟩
theorem ins_none (p : Option Addr) (cap : Nat) (fv : Value) (w : World) : Calls Tryz.prog 97 #[.slice p 0 cap, .int .i64 0, .int .i64 0, fv] w fun e w' => e = .returned (.tuple #[]) ∧ w' = w := by
  go_enter Tryz.func97, Tryz.ntmps97
  go_wp2_with (fail)
  refine wp_loop_rounds 1 ?_
  rw [rounds_succ]
  go_wp2_with (fail)
  go_end0
  exact ⟨rfl, rfl⟩
theorem pdq_none (p : Option Addr) (cap : Nat) (lim : Int) (fv : Value) (w : World) : Calls Tryz.prog 60 #[.slice p 0 cap, .int .i64 0, .int .i64 0, .int .i64 lim, fv] w fun e w' => e = .returned (.tuple #[]) ∧ w' = w := by
  go_enter Tryz.func60, Tryz.ntmps60
  go_wp2_with (fail)
  refine wp_loop_rounds 1 ?_
  rw [rounds_succ]
  go_wp2_with (go_at_call 97; refine (ins_none _ _ _ _).mono ?_; rintro e w' ⟨rfl, rfl⟩)
  (try simp only [Exit.inBlock, Exit.then]); refine bodyPost_ret (results_none rfl _ _ _) rfl ?_
  exact ⟨rfl, rfl⟩
theorem sort_none (p : Option Addr) (cap : Nat) (fv : Value) (w : World) : Calls Tryz.prog 27 #[.slice p 0 cap, fv] w fun e w' => e = .returned (.tuple #[]) ∧ w' = w := by
  have hl := fun W => bitsLen12 0 W (by omega)
  change ∀ W, Calls Tryz.prog 61 _ W _ at hl
  go_enter Tryz.func27, Tryz.ntmps27
  go_wp2_with (first | (go_at_call 61; refine (hl _).mono ?_; rintro e w' ⟨⟨l, rfl⟩, rfl⟩) | (go_at_call 60; refine (pdq_none _ _ _ _ _).mono ?_; rintro e w' ⟨rfl, rfl⟩))
  go_end0
  exact ⟨rfl, rfl⟩
def SortPost (l : List Pr) (n base : Nat) (v : Value) (w : World) (e : Ending) (w' : World) : Prop :=
  e = .returned (.tuple #[]) ∧ ∃ m : List Pr, m.Perm l ∧ m.length = n ∧ m.Pairwise (fun x y => min x.1 6 ≤ min y.1 6) ∧ w'.ownsRow base 37 5 v n (recs prC m) ∧ w.grownBy w' v.ownBlock
theorem sortP_any (g : Nat) (hg : g = 28 ∨ g = 43) (l : List Pr) (n c base : Nat) (A : Option Addr) (w : World) (hn : l.length = n) (h12 : n ≤ 12) (ho : w.ownsRow base 37 5 (.slice A n c) n (recs prC l)) :
    Calls Tryz.prog 27 #[.slice A n c, .func (.func g) #[] #[]] w fun e w' => SortPost l n base (.slice A n c) w e w' := by
  rcases own_two ho with ⟨rfl, rfl, rfl⟩ | ⟨b, rfl, hb, hlt⟩
  · refine (sort_none none 0 _ w).mono ?_
    rintro e w' ⟨rfl, rfl⟩
    have hl := List.eq_nil_of_length_eq_zero hn
    subst hl
    exact ⟨rfl, [], List.Perm.refl _, rfl, List.Pairwise.nil, ho, grown_refl _ _⟩
  · have eg : ∀ args w, (callFunc g args).run Tryz.prog w = .ok (.enter g args) w := by
      rcases hg with rfl | rfl
      · exact enters_of Tryz.func28 (by kernel_rfl) rfl
      · exact enters_of Tryz.func43 (by kernel_rfl) rfl
    have hcmp : CmpLays Tryz.prog g #[] prC 5 cfP b 0 l.toArray.size w := by
      intro m os dk _ x y
      rcases hg with rfl | rfl
      · exact order_grow x y _
      · exact apply1_grow x y _
    have h := AnyQ.slices_SortFunc_small_sorted laySF 5 Tryz.isAgg37 Tryz.sizeOf37 prC prC_len prC_one cfP g #[] swoP b 0 c l.toArray w eg hcmp (holdsK_of_own prC_len ho hn) hlt (by simpa [hn] using h12) bitsLen12
    have hsz : l.toArray.size = n := by simpa using hn
    rw [hsz] at h
    refine h.mono ?_
    rintro e w' ⟨rfl, d', q, os, hp, hs, rfl⟩
    rw [← hsz] at hp hs
    obtain ⟨h1, h2, h3⟩ := sorted_list hp hs
    obtain ⟨m, rfl⟩ : ∃ m : List Pr, d' = m.toArray := ⟨d'.toList, by simp⟩
    refine ⟨rfl, m, by simpa using h1, by simpa [hn] using h2, ?_, own_sortedK prC_len ho (by simpa [hn] using h2) q os, grown_sortedK _⟩
    refine List.Pairwise.imp ?_ (by simpa using h3)
    intro x y hxy
    rw [ltP] at hxy
    simpa using hxy
end Go.Proofs.YtkcpfppjdjkjeaaGreatDoor
