/- slices.SortFunc of ranges, however many: what the row holds is the same in order. -/
import Derived.Test.YtidgicbhgnbidaaGreatDoorWyB
import Derived.Test.YtidgicbhgnbidaaGreatDoorOwK
import Derived.Test.YtidgicbhgnbidaaGreatDoorLayRg
import Derived.Shelf.SlSortCmp.Xorshift
import Derived.Shelf.SlSortCmp.WholeK
namespace Go.Proofs.YtidgicbhgnbidaaGreatDoor
open Go.RowKit Go.Shelf Go.Sort

instance : Inhabited Rg := ⟨(⟨0, 0, 0⟩, ⟨0, 0, 0⟩)⟩
def cfR (x y : Rg) : Int := cmpV x.1 y.1
theorem cmpV_lex (x y : Ve) : cmpV x y < 0 ↔ (x.a < y.a ∨ x.a = y.a ∧ (x.b < y.b ∨ x.b = y.b ∧ x.c < y.c)) := by
  rw [cmpV_eq]
  repeat' split
  all_goals constructor <;> intro h <;> omega
theorem swoR : SWO (ltOf cfR) where
  irrefl x := by
    have := cmpV_lex x.1 x.1
    unfold ltOf cfR
    simp
    omega
  trans x y z h1 h2 := by
    unfold ltOf cfR at *
    have e1 := cmpV_lex x.1 y.1
    have e2 := cmpV_lex y.1 z.1
    have e3 := cmpV_lex x.1 z.1
    simp at *
    omega
  ntrans x y z h1 h2 := by
    unfold ltOf cfR at *
    have e1 := cmpV_lex x.1 y.1
    have e2 := cmpV_lex y.1 z.1
    have e3 := cmpV_lex x.1 z.1
    simp at *
    omega
set_option maxRecDepth 100000 in
set_option maxHeartbeats 2000000 in
theorem orderR_grow (x y : Rg) (w : World) : Calls Tryz.prog 42 #[.agg (rgC x).toArray, .agg (rgC y).toArray] w fun e w' => e = .returned (.int .i64 (cfR x y)) ∧ ∃ q os', w' = grow (w.drewN q) os' := by
  show Calls Tryz.prog 42 #[rgV x, rgV y] w _
  unfold cfR
  generalize hW : ((w.alloc (rgB x)).alloc (rgB y)) = W
  have hG : W = grow (w.drewN 0) #[rgB x, rgB y] := by rw [← hW, alloc_eq_grow, alloc_eq_grow, grow_grow]; rfl
  have hx : W.heap[w.heap.size]? = some (rgB x) := by
    rw [← hW, Below.heap_alloc _ _ _ (by simp)]; exact heap_new w _
  have hy : W.heap[w.heap.size + 1]? = some (rgB y) := by
    rw [← hW]; have := heap_new (w.alloc (rgB x)) (rgB y); simpa using this
  have HC := Lib.hid (compareV_grow x.1 y.1 W)
  have p0 := cell_of_blk (j := 0) hx rfl
  have p1 := cell_of_blk (j := 1) hx rfl
  have p2 := cell_of_blk (j := 2) hx rfl
  have q0 := cell_of_blk (j := 0) hy rfl
  have q1 := cell_of_blk (j := 1) hy rfl
  have q2 := cell_of_blk (j := 2) hy rfl
  have hs1 := (Array.getElem?_eq_some_iff.1 hx).1
  have hs2 := (Array.getElem?_eq_some_iff.1 hy).1
  have HG := Lib.hid hG
  unfold rgB at hW
  unfold veV at HC
  unfold rgV
  clear hx hy hG
  go_enter Tryz.func42, Tryz.ntmps42
  go_wp2_with (fail)
  refine HC.out.mono ?_
  rintro e w' ⟨rfl, q, os, rfl⟩
  clear p0 p1 p2 q0 q1 q2 HC hW
  go_wp2_with (fail)
  go_ret
  refine ⟨rfl, 0 + q, #[rgB x, rgB y] ++ os, ?_⟩
  rw [HG.out]
  unfold grow World.drewN
  simp [Array.append_assoc]
theorem bitsLenR (n : Nat) (W : World) (h : n ≤ 12) : Calls Tryz.prog (layRg_ren.f 15) #[.int .u64 n] W fun e w' => (∃ l : Int, e = .returned (.int .i64 l)) ∧ w' = W :=
  (Any.bits_Len (SlLaysF0.n15.bits (P := Tryz.prog) (ρ := layRg_ren) { layRg with }) n W (by omega) (by omega)).mono fun _ _ ⟨he, hw⟩ => ⟨⟨_, he⟩, hw⟩
theorem insR_none (p : Option Addr) (cap : Nat) (fv : Value) (w : World) : Calls Tryz.prog 124 #[.slice p 0 cap, .int .i64 0, .int .i64 0, fv] w fun e w' => e = .returned (.tuple #[]) ∧ w' = w := by
  go_enter Tryz.func124, Tryz.ntmps124
  go_wp2_with (fail)
  refine wp_loop_rounds 1 ?_
  rw [rounds_succ]
  go_wp2_with (fail)
  go_end0
  exact ⟨rfl, rfl⟩
theorem pdqR_none (p : Option Addr) (cap : Nat) (lim : Int) (fv : Value) (w : World) : Calls Tryz.prog 86 #[.slice p 0 cap, .int .i64 0, .int .i64 0, .int .i64 lim, fv] w fun e w' => e = .returned (.tuple #[]) ∧ w' = w := by
  go_enter Tryz.func86, Tryz.ntmps86
  go_wp2_with (fail)
  refine wp_loop_rounds 1 ?_
  rw [rounds_succ]
  go_wp2_with (go_at_call 124; refine (insR_none _ _ _ _).mono ?_; rintro e w' ⟨rfl, rfl⟩)
  (try simp only [Exit.inBlock, Exit.then]); refine bodyPost_ret (results_none rfl _ _ _) rfl ?_
  exact ⟨rfl, rfl⟩
theorem sortR_none (p : Option Addr) (cap : Nat) (fv : Value) (w : World) : Calls Tryz.prog 41 #[.slice p 0 cap, fv] w fun e w' => e = .returned (.tuple #[]) ∧ w' = w := by
  have hl := fun W => bitsLenR 0 W (by omega)
  change ∀ W, Calls Tryz.prog 87 _ W _ at hl
  go_enter Tryz.func41, Tryz.ntmps41
  go_wp2_with (first | (go_at_call 87; refine (hl _).mono ?_; rintro e w' ⟨⟨l, rfl⟩, rfl⟩) | (go_at_call 86; refine (pdqR_none _ _ _ _ _).mono ?_; rintro e w' ⟨rfl, rfl⟩))
  go_end0
  exact ⟨rfl, rfl⟩
def SortRPost (l : List Rg) (n base : Nat) (v : Value) (w : World) (e : Ending) (w' : World) : Prop :=
  e = .returned (.tuple #[]) ∧ ∃ m : List Rg, m.Perm l ∧ m.length = n ∧ m.Pairwise (fun x y => ¬ cmpV y.1 x.1 < 0) ∧ w'.ownsRow base 42 6 v n (recs rgC m) ∧ w.grownBy w' v.ownBlock
theorem sortR_any (l : List Rg) (n c base : Nat) (A : Option Addr) (w : World) (hn : l.length = n) (h12 : n ≤ 2000000000000) (ho : w.ownsRow base 42 6 (.slice A n c) n (recs rgC l)) :
    Calls Tryz.prog 41 #[.slice A n c, .func (.func 42) #[] #[]] w fun e w' => SortRPost l n base (.slice A n c) w e w' := by
  rcases own_two ho with ⟨rfl, rfl, rfl⟩ | ⟨b, rfl, hb, hlt⟩
  · refine (sortR_none none 0 _ w).mono ?_
    rintro e w' ⟨rfl, rfl⟩
    have hl := List.eq_nil_of_length_eq_zero hn
    subst hl
    exact ⟨rfl, [], List.Perm.refl _, rfl, List.Pairwise.nil, ho, grown_refl _ _⟩
  · have eg : ∀ args w, (callFunc 42 args).run Tryz.prog w = .ok (.enter 42 args) w := enters_of Tryz.func42 (by kernel_rfl) rfl
    have hcmp : CmpLays Tryz.prog 42 #[] rgC 6 cfR b 0 l.toArray.size w := fun m os dk _ x y => orderR_grow x y _
    have h := AnyQ.slices_SortFunc layRg 6 Tryz.isAgg42 Tryz.sizeOf42 rgC rgC_len rgC_one cfR swoR 42 #[] b 0 c l.toArray w eg hcmp (holdsK_of_own rgC_len ho hn) hlt (by simp [hn]; omega)
    have hsz : l.toArray.size = n := by simpa using hn
    rw [hsz] at h
    refine h.mono ?_
    rintro e w' ⟨rfl, d', q, os, hp, hs, rfl⟩
    rw [← hsz] at hp hs
    obtain ⟨h1, h2, h3⟩ := sorted_list hp hs
    obtain ⟨m, rfl⟩ : ∃ m : List Rg, d' = m.toArray := ⟨d'.toList, by simp⟩
    refine ⟨rfl, m, by simpa using h1, by simpa [hn] using h2, ?_, own_sortedK rgC_len ho (by simpa [hn] using h2) q os, grown_sortedK _⟩
    refine List.Pairwise.imp ?_ (by simpa using h3)
    intro x y hxy
    unfold ltOf cfR at hxy
    simpa using hxy
end Go.Proofs.YtidgicbhgnbidaaGreatDoor
