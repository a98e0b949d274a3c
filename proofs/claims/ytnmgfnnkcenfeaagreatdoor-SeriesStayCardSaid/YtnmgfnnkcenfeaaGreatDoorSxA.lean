/- The order of samples by growth alone; slices.SortFunc of at most 12 samples by it. Printed by gen_SxA.py. -/
import Derived.Test.YtnmgfnnkcenfeaaGreatDoorMgA
import Derived.Test.YtnmgfnnkcenfeaaGreatDoorGrq
import Derived.Test.YtnmgfnnkcenfeaaGreatDoorLaySx
import Derived.Shelf.SlSortCmp.Xorshift
namespace Go.Proofs.YtnmgfnnkcenfeaaGreatDoor
open Go.RowKit Go.Shelf Go.Sort

theorem smpC_len (x : Smp) : (smpC x).length = 4 := rfl
instance : Inhabited Smp := ⟨(0, 0)⟩
theorem cmpX_lt (a b : Int) : cmpI a b < 0 ↔ a < b := by
  unfold cmpI
  repeat' split
  all_goals omega
theorem swoX : SWO (ltOf fun x y : Smp => cmpI x.1 y.1) where
  irrefl x := by
    have := cmpX_lt x.1 x.1
    unfold ltOf
    simp
    omega
  trans x y z h1 h2 := by
    unfold ltOf at *
    have e1 := cmpX_lt x.1 y.1
    have e2 := cmpX_lt y.1 z.1
    have e3 := cmpX_lt x.1 z.1
    simp at *
    omega
  ntrans x y z h1 h2 := by
    unfold ltOf at *
    have e1 := cmpX_lt x.1 y.1
    have e2 := cmpX_lt y.1 z.1
    have e3 := cmpX_lt x.1 z.1
    simp at *
    omega
set_option maxRecDepth 100000 in
set_option maxHeartbeats 1000000 in
theorem byDeviceX_gr (x y : Smp) (w : World) : Calls Tryz.prog 31 #[.agg (smpC x).toArray, .agg (smpC y).toArray] w fun e w' => e = .returned (.int .i64 (cmpI x.1 y.1)) ∧ GrW w w' := by
  obtain ⟨a, b⟩ := x
  obtain ⟨c, d⟩ := y
  show Calls Tryz.prog 31 #[.agg #[.string ⟨#[100]⟩, .string ⟨#[109]⟩, .int .i64 a, .int .i64 b], .agg #[.string ⟨#[100]⟩, .string ⟨#[109]⟩, .int .i64 c, .int .i64 d]] w fun e w' => e = .returned (.int .i64 (cmpI a c)) ∧ GrW w w'
  go_enter Tryz.func31, Tryz.ntmps31
  go_wp2_with (fail)
  generalize hW : ((w.alloc (.cells #[.string { data := #[100] }, .string { data := #[109] }, .int .i64 a, .int .i64 b] 37)).alloc (.cells #[.string { data := #[100] }, .string { data := #[109] }, .int .i64 c, .int .i64 d] 37)) = W
  have hG : GrW w W := by rw [← hW]; exact ((GrW.refl _).alloc _).alloc _
  have hx : W.heap[w.heap.size]? = some (.cells #[.string { data := #[100] }, .string { data := #[109] }, .int .i64 a, .int .i64 b] 37) := by
    rw [← hW, Below.heap_alloc _ _ _ (by simp)]; exact heap_new w _
  have hy : W.heap[w.heap.size + 1]? = some (.cells #[.string { data := #[100] }, .string { data := #[109] }, .int .i64 c, .int .i64 d] 37) := by
    rw [← hW]; have := heap_new (w.alloc (.cells #[.string { data := #[100] }, .string { data := #[109] }, .int .i64 a, .int .i64 b] 37)) (.cells #[.string { data := #[100] }, .string { data := #[109] }, .int .i64 c, .int .i64 d] 37); simpa using this
  have x0 : W.cell? ⟨w.heap.size, 0, none⟩ = some (.string { data := #[100] }) := cell_of_blk hx rfl
  have x1 : W.cell? ⟨w.heap.size, 1, none⟩ = some (.string { data := #[109] }) := cell_of_blk hx rfl
  have x2 : W.cell? ⟨w.heap.size, 2, none⟩ = some (.int .i64 a) := cell_of_blk hx rfl
  have y0 : W.cell? ⟨w.heap.size + 1, 0, none⟩ = some (.string { data := #[100] }) := cell_of_blk hy rfl
  have y1 : W.cell? ⟨w.heap.size + 1, 1, none⟩ = some (.string { data := #[109] }) := cell_of_blk hy rfl
  have y2 : W.cell? ⟨w.heap.size + 1, 2, none⟩ = some (.int .i64 c) := cell_of_blk hy rfl
  clear hW hx hy
  refine wp_region_still_tail 15 (by kernel_rfl) (by kernel_rfl) ?_
  simp only [List.take_succ_cons, List.take_zero, List.drop_succ_cons, List.drop_zero]
  change wpStill _ _ W.drew _ _ _
  repeat still_step
  still_call (flip_ (scompare_same _ _))
  repeat still_step
  still_call (flip_ (scompare_same _ _))
  repeat still_step
  still_call (flip_ (compare_any _ _ _))
  try refine wpStill_nil ?_
  generalize hr : cmpI a c = r
  have HR := Lib.hid (show orI [0, 0, r] = r by unfold orI orI orI orI; by_cases h : r = 0 <;> simp [h])
  have HB := Lib.hid (show GrW w (W.drew.alloc (.cells #[.int .i64 0, .int .i64 0, .int .i64 r] 3)) from hG.drew.alloc _)
  go_wp2_with (fail)
  have hcs : Cells (W.alloc (.cells #[.int .i64 0, .int .i64 0, .int .i64 r] 3)).drew W.heap.size 0 ([0, 0, r].map (Value.int .i64)) := Cells.new W #[.int .i64 0, .int .i64 0, .int .i64 r] 3 (0, 0) _ rfl
  refine (or_any [0, 0, r] 3 3 W.heap.size _ rfl (by omega) hcs).mono ?_
  rw [HR.out]
  rintro e w' ⟨rfl, rfl⟩
  go_wp2_with (fail)
  go_ret
  exact ⟨ret_int hr.symm, HB.out⟩

theorem bitsLenX (n : Nat) (W : World) (h : n ≤ 12) : Calls Tryz.prog (laySx_ren.f 15) #[.int .u64 n] W fun e w' => (∃ l : Int, e = .returned (.int .i64 l)) ∧ w' = W :=
  (Any.bits_Len (SlLaysF0.n15.bits (P := Tryz.prog) (ρ := laySx_ren) { laySx with }) n W (by omega) (by omega)).mono fun _ _ ⟨he, hw⟩ => ⟨⟨_, he⟩, hw⟩
theorem insX_none (p : Option Addr) (cap : Nat) (fv : Value) (w : World) : Calls Tryz.prog 89 #[.slice p 0 cap, .int .i64 0, .int .i64 0, fv] w fun e w' => e = .returned (.tuple #[]) ∧ w' = w := by
  go_enter Tryz.func89, Tryz.ntmps89
  go_wp2_with (fail)
  refine wp_loop_rounds 1 ?_
  rw [rounds_succ]
  go_wp2_with (fail)
  go_end0
  exact ⟨rfl, rfl⟩
theorem pdqX_none (p : Option Addr) (cap : Nat) (lim : Int) (fv : Value) (w : World) : Calls Tryz.prog 63 #[.slice p 0 cap, .int .i64 0, .int .i64 0, .int .i64 lim, fv] w fun e w' => e = .returned (.tuple #[]) ∧ w' = w := by
  go_enter Tryz.func63, Tryz.ntmps63
  go_wp2_with (fail)
  refine wp_loop_rounds 1 ?_
  rw [rounds_succ]
  go_wp2_with (go_at_call 89; refine (insX_none _ _ _ _).mono ?_; rintro e w' ⟨rfl, rfl⟩)
  (try simp only [Exit.inBlock, Exit.then]); refine bodyPost_ret (results_none rfl _ _ _) rfl ?_
  exact ⟨rfl, rfl⟩
theorem sortX_none (p : Option Addr) (cap : Nat) (fv : Value) (w : World) : Calls Tryz.prog 30 #[.slice p 0 cap, fv] w fun e w' => e = .returned (.tuple #[]) ∧ w' = w := by
  have hl := fun W => bitsLenX 0 W (by omega)
  change ∀ W, Calls Tryz.prog 64 _ W _ at hl
  go_enter Tryz.func30, Tryz.ntmps30
  go_wp2_with (first | (go_at_call 64; refine (hl _).mono ?_; rintro e w' ⟨⟨l, rfl⟩, rfl⟩) | (go_at_call 63; refine (pdqX_none _ _ _ _ _).mono ?_; rintro e w' ⟨rfl, rfl⟩))
  go_end0
  exact ⟨rfl, rfl⟩
def SortXPost (l : List Smp) (n base : Nat) (v : Value) (w : World) (e : Ending) (w' : World) : Prop :=
  e = .returned (.tuple #[]) ∧ ∃ m : List Smp, m.Perm l ∧ m.length = n ∧ w'.ownsRow base 37 4 v n (recs smpC m) ∧ w.grownBy w' v.ownBlock
theorem sortX_any (l : List Smp) (n c base : Nat) (A : Option Addr) (w : World) (hn : l.length = n) (h12 : n ≤ 12) (ho : w.ownsRow base 37 4 (.slice A n c) n (recs smpC l)) :
    Calls Tryz.prog 30 #[.slice A n c, .func (.func 31) #[] #[]] w fun e w' => SortXPost l n base (.slice A n c) w e w' := by
  rcases own_two ho with ⟨rfl, rfl, rfl⟩ | ⟨b, rfl, hb, hlt⟩
  · refine (sortX_none none 0 _ w).mono ?_
    rintro e w' ⟨rfl, rfl⟩
    have hl := List.eq_nil_of_length_eq_zero hn
    subst hl
    exact ⟨rfl, [], List.Perm.refl _, rfl, ho, grown_refl _ _⟩
  · have eg : ∀ args w, (callFunc 31 args).run Tryz.prog w = .ok (.enter 31 args) w := enters_of Tryz.func31 (by kernel_rfl) rfl
    have hcmp : CmpLays Tryz.prog 31 #[] smpC 4 (fun x y : Smp => cmpI x.1 y.1) b 0 l.toArray.size w := fun m os dk _ x y => byDeviceX_gr x y _
    have h := AnyQ.slices_SortFunc_small_sorted laySx 4 Tryz.isAgg37 Tryz.sizeOf37 smpC smpC_len smpC_one (fun x y : Smp => cmpI x.1 y.1) 31 #[] swoX b 0 c l.toArray w eg hcmp (holdsK_of_own smpC_len ho hn) hlt (by simpa [hn] using h12) bitsLenX
    have hsz : l.toArray.size = n := by simpa using hn
    rw [hsz] at h
    refine h.mono ?_
    rintro e w' ⟨rfl, d', q, os, hp, hs, rfl⟩
    rw [← hsz] at hp hs
    obtain ⟨h1, h2, h3⟩ := sorted_list hp hs
    obtain ⟨m, rfl⟩ : ∃ m : List Smp, d' = m.toArray := ⟨d'.toList, by simp⟩
    exact ⟨rfl, m, by simpa using h1, by simpa [hn] using h2, own_sortedK smpC_len ho (by simpa [hn] using h2) q os, grown_sortedK _⟩
end Go.Proofs.YtnmgfnnkcenfeaaGreatDoor
