/- slices.SortStableFunc of at most 19 cells by its contract. -/
import Derived.Test.YtkcpfppjdjkjeaaGreatDoorMgD
import Derived.Test.YtkcpfppjdjkjeaaGreatDoorMgB
import Derived.Test.YtkcpfppjdjkjeaaGreatDoorOwK
import Derived.Test.YtkcpfppjdjkjeaaGreatDoorLaySI
namespace Go.Proofs.YtkcpfppjdjkjeaaGreatDoor
open Go.RowKit Go.Shelf Go.Sort

instance : Inhabited Cv := ⟨(pvNone, ⟨0, 0, 0⟩)⟩
def cfC (x y : Ce) : Int := Lib.compareBytes (nm x.1).data.toList (nm y.1).data.toList
theorem nm_minC (i : Nat) : nm i = nm (min i 6) := by
  match i with
  | 0 => rfl
  | 1 => rfl
  | 2 => rfl
  | 3 => rfl
  | 4 => rfl
  | 5 => rfl
  | 6 => rfl
  | n + 7 => rw [show min (n + 7) 6 = 6 by omega]; rfl
theorem ltC (x y : Ce) : ltOf cfC x y = decide (min x.1 6 < min y.1 6) := by
  have h : cfC x y = cmpN (min x.1 6) (min y.1 6) := by
    unfold cfC
    rw [nm_minC x.1, nm_minC y.1]
    exact nm_cmp _ _ (by omega) (by omega)
  unfold ltOf
  rw [h]
  unfold cmpN
  by_cases h1 : min x.1 6 < min y.1 6
  · simp [h1]
  · by_cases h2 : min x.1 6 = min y.1 6 <;> simp [h1, h2]
theorem swoC : SWO (ltOf cfC) where
  irrefl x := by rw [ltC]; simp
  trans x y z h1 h2 := by rw [ltC] at *; simp only [decide_eq_true_eq] at *; omega
  ntrans x y z h1 h2 := by rw [ltC] at *; simp only [decide_eq_false_iff_not] at *; omega
set_option maxRecDepth 100000 in
theorem cellOrder_grow (x y : Ce) (W : World) : Calls Tryz.prog 23 #[.agg (ceC x).toArray, .agg (ceC y).toArray] W fun e w' => e = .returned (.int .i64 (cfC x y)) ∧ ∃ q os', w' = grow (W.drewN q) os' := by
  have hcon := fun W' => scompare_any (nm x.1) (nm y.1) W'
  unfold cfC
  generalize Lib.compareBytes (nm x.1).data.toList (nm y.1).data.toList = r at hcon ⊢
  show Calls Tryz.prog 23 #[.agg #[.string (nm x.1), .int .i64 x.2.1.k, .bool x.2.1.f, .int .i64 x.2.1.n, .string x.2.1.s, .int .i64 x.2.2.at_, .string (byT x.2.2.by_), .int .i64 x.2.2.no], .agg #[.string (nm y.1), .int .i64 y.2.1.k, .bool y.2.1.f, .int .i64 y.2.1.n, .string y.2.1.s, .int .i64 y.2.2.at_, .string (byT y.2.2.by_), .int .i64 y.2.2.no]] W _
  go_enter Tryz.func23, Tryz.ntmps23
  go_wp2_with (go_at_call 44; refine (hcon _).mono ?_; rintro e w' ⟨rfl, rfl⟩)
  go_ret
  exact ⟨rfl, 0, _, by rw [alloc_eq_grow, alloc_eq_grow, grow_grow]; rfl⟩
theorem insC_none (p : Option Addr) (cap : Nat) (fv : Value) (w : World) : Calls Tryz.prog 95 #[.slice p 0 cap, .int .i64 0, .int .i64 0, fv] w fun e w' => e = .returned (.tuple #[]) ∧ w' = w := by
  go_enter Tryz.func95, Tryz.ntmps95
  go_wp2_with (fail)
  refine wp_loop_rounds 1 ?_
  rw [rounds_succ]
  go_wp2_with (fail)
  go_end0
  exact ⟨rfl, rfl⟩
/-- What the stable sort makes. -/
def srtC (l : List Ce) : List Ce := (Sort.insertionSort (ltOf cfC) l.toArray 0 l.length).toList
def SortCPost (l : List Ce) (n base : Nat) (v : Value) (w : World) (e : Ending) (w' : World) : Prop :=
  e = .returned (.tuple #[]) ∧ ∃ m : List Ce, m.Perm l ∧ m.length = n ∧ m.Pairwise (fun x y => min x.1 6 ≤ min y.1 6) ∧ w'.ownsRow base 41 8 v n (recs ceC m) ∧ w.grownBy w' v.ownBlock ∧ m = srtC l
theorem insC_any (l : List Ce) (n c base : Nat) (A : Option Addr) (w : World) (hn : l.length = n) (h12 : n ≤ 19) (ho : w.ownsRow base 41 8 (.slice A n c) n (recs ceC l)) :
    Calls Tryz.prog 95 #[.slice A n c, .int .i64 0, .int .i64 (n : Int), .func (.func 23) #[] #[]] w fun e w' => SortCPost l n base (.slice A n c) w e w' := by
  rcases own_two ho with ⟨rfl, rfl, rfl⟩ | ⟨b, rfl, hb, hlt⟩
  · refine (insC_none none 0 _ w).mono ?_
    rintro e w' ⟨rfl, rfl⟩
    have hl := List.eq_nil_of_length_eq_zero hn
    subst hl
    exact ⟨rfl, [], List.Perm.refl _, rfl, List.Pairwise.nil, ho, grown_refl _ _, by simp [srtC, Sort.insertionSort, Sort.insOuter]⟩
  · have eg : ∀ args w, (callFunc 23 args).run Tryz.prog w = .ok (.enter 23 args) w := enters_of Tryz.func23 (by kernel_rfl) rfl
    have hcmp : CmpLays Tryz.prog 23 #[] ceC 8 cfC b 0 l.toArray.size w := fun m os dk _ x y => cellOrder_grow x y _
    have h := AnyQ.insertionSortCmpFunc laySI 8 Tryz.isAgg41 Tryz.sizeOf41 ceC ceC_len ceC_one cfC 23 #[] b 0 c 0 l.toArray.size l.toArray w eg hcmp (holdsK_of_own ceC_len ho hn) hlt (Nat.zero_le _) (Nat.le_refl _) (by simp; omega)
    have hsz : l.toArray.size = n := by simpa using hn
    have hins := insertionSort_holds (lt := ltOf cfC) swoC l.toArray 0 l.toArray.size (Nat.zero_le _) (Nat.le_refl _)
    rw [hsz] at h
    refine h.mono ?_
    rintro e w' ⟨rfl, q, os, rfl⟩
    obtain ⟨h1, h2, h3⟩ := sorted_list hins.1 hins.2
    rw [hsz] at h1 h2 h3
    obtain ⟨m, hm⟩ : ∃ m : List Ce, Sort.insertionSort (ltOf cfC) l.toArray 0 n = m.toArray := ⟨(Sort.insertionSort (ltOf cfC) l.toArray 0 n).toList, by simp⟩
    have hsr : m = srtC l := by unfold srtC; rw [hn, hm]
    rw [hm] at h1 h2 h3 ⊢
    refine ⟨rfl, m, by simpa using h1, by simpa [hn] using h2, ?_, own_sortedK ceC_len ho (by simpa [hn] using h2) q os, grown_sortedK _, hsr⟩
    refine List.Pairwise.imp ?_ (by simpa using h3)
    intro x y hxy
    rw [ltC] at hxy
    simpa using hxy
set_option maxRecDepth 100000 in
theorem sortStable_any (l : List Ce) (n c base : Nat) (A : Option Addr) (w : World) (hn : l.length = n) (h12 : n ≤ 19) (ho : w.ownsRow base 41 8 (.slice A n c) n (recs ceC l)) :
    Calls Tryz.prog 22 #[.slice A n c, .func (.func 23) #[] #[]] w fun e w' => SortCPost l n base (.slice A n c) w e w' := by
  have HI := Lib.hid (insC_any l n c base A w hn h12 ho)
  have h1 : ¬ (20 : Int) ≤ n := by omega
  have h2 : ¬ (20 : Int) < n := by omega
  clear ho hn
  go_enter Tryz.func22, Tryz.ntmps22
  go_wp2_with (fail)
  go_enter Tryz.func59, Tryz.ntmps59
  go_wp2_with (fail)
  refine wp_loop_rounds 1 ?_
  rw [rounds_succ]
  go_wp2_with (fail)
  refine HI.out.mono ?_
  rintro e w1 ⟨rfl, hp⟩
  have HP := Lib.hid hp
  clear hp
  go_wp2_with (fail)
  refine wp_loop_rounds 1 ?_
  rw [rounds_succ]
  go_wp2_with (fail)
  go_end0
  exact ⟨rfl, HP.out⟩
end Go.Proofs.YtkcpfppjdjkjeaaGreatDoor
