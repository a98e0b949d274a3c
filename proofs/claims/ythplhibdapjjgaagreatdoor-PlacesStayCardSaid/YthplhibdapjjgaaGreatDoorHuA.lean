/- The order of spots; slices.SortFunc of spots by it; the order of fixes. -/
import Derived.Test.YthplhibdapjjgaaGreatDoorMgB
import Derived.Test.YthplhibdapjjgaaGreatDoorFxC
import Derived.Test.YthplhibdapjjgaaGreatDoorFeA
import Derived.Shelf.SlSortCmp.Xorshift
namespace Go.Proofs.YthplhibdapjjgaaGreatDoor
open Go.RowKit Go.Shelf Go.Sort

instance : Inhabited Pt := ⟨(0, 0)⟩
def cfS (x y : Pt) : Int := orI [cmpI x.1 y.1, cmpI x.2 y.2]
theorem cfS_lex (x y : Pt) : cfS x y < 0 ↔ (x.1 < y.1 ∨ x.1 = y.1 ∧ x.2 < y.2) := by
  unfold cfS cmpI orI orI orI
  repeat' split
  all_goals first | omega | (simp; omega)
theorem swoS : SWO (ltOf cfS) where
  irrefl x := by
    have := cfS_lex x x
    unfold ltOf
    simp
    omega
  trans x y z h1 h2 := by
    unfold ltOf at *
    have e1 := cfS_lex x y
    have e2 := cfS_lex y z
    have e3 := cfS_lex x z
    simp at *
    omega
  ntrans x y z h1 h2 := by
    unfold ltOf at *
    have e1 := cfS_lex x y
    have e2 := cfS_lex y z
    have e3 := cfS_lex x z
    simp at *
    omega
set_option maxRecDepth 100000 in
set_option maxHeartbeats 1000000 in
theorem bySpot_gr (x y : Pt) (w : World) : Calls Tryz.prog 28 #[.agg (ptC x).toArray, .agg (ptC y).toArray] w fun e w' => e = .returned (.int .i64 (cfS x y)) ∧ Gr w w' := by
  obtain ⟨a, x1⟩ := x
  obtain ⟨c, y1⟩ := y
  unfold cfS
  show Calls Tryz.prog 28 #[.agg #[.int .i64 a, .int .i64 x1], .agg #[.int .i64 c, .int .i64 y1]] w fun e w' => e = .returned (.int .i64 (orI [cmpI a c, cmpI x1 y1])) ∧ Gr w w'
  go_enter Tryz.func28, Tryz.ntmps28
  go_wp2_with (fail)
  generalize hW : ((w.alloc (.cells #[.int .i64 a, .int .i64 x1] 37)).alloc (.cells #[.int .i64 c, .int .i64 y1] 37)) = W
  have hG : Gr w W := by rw [← hW]; exact ((Gr.refl _).alloc _).alloc _
  have hx : W.heap[w.heap.size]? = some (.cells #[.int .i64 a, .int .i64 x1] 37 (0, 0)) := by
    rw [← hW, Below.heap_alloc _ _ _ (by simp)]; exact heap_new w _
  have hy : W.heap[w.heap.size + 1]? = some (.cells #[.int .i64 c, .int .i64 y1] 37 (0, 0)) := by
    rw [← hW]; have := heap_new (w.alloc (.cells #[.int .i64 a, .int .i64 x1] 37)) (.cells #[.int .i64 c, .int .i64 y1] 37); simpa using this
  have p0 : W.cell? ⟨w.heap.size, 0, none⟩ = some (.int .i64 a) := cell_of_blk hx rfl
  have p1 : W.cell? ⟨w.heap.size, 1, none⟩ = some (.int .i64 x1) := cell_of_blk hx rfl
  have q0 : W.cell? ⟨w.heap.size + 1, 0, none⟩ = some (.int .i64 c) := cell_of_blk hy rfl
  have q1 : W.cell? ⟨w.heap.size + 1, 1, none⟩ = some (.int .i64 y1) := cell_of_blk hy rfl
  clear hW hx hy
  refine wp_region_still_tail 10 (by kernel_rfl) (by kernel_rfl) ?_
  simp only [List.take_succ_cons, List.take_zero, List.drop_succ_cons, List.drop_zero]
  change wpStill _ _ W.drew _ _ _
  repeat still_step
  still_call (flip_ (compare_any _ _ _))
  repeat still_step
  still_call (flip_ (compare_any _ _ _))
  try refine wpStill_nil ?_
  generalize hr : cmpI a c = r
  generalize hs : cmpI x1 y1 = s
  have HB := Lib.hid (show Gr w (W.drew.alloc (.cells #[.int .i64 r, .int .i64 s] 3)) from hG.drew.alloc _)
  go_wp2_with (fail)
  have hcs : Cells (W.alloc (.cells #[.int .i64 r, .int .i64 s] 3)).drew W.heap.size 0 ([r, s].map (Value.int .i64)) := Cells.new W #[.int .i64 r, .int .i64 s] 3 (0, 0) _ rfl
  refine (or_any [r, s] 2 2 W.heap.size _ rfl (by omega) hcs).mono ?_
  rintro e w' ⟨rfl, rfl⟩
  go_wp2_with (fail)
  subst hr hs
  go_ret
  exact ⟨rfl, HB.out⟩
set_option maxRecDepth 100000 in
set_option maxHeartbeats 1000000 in
theorem byDeviceF_gr (x y : Fx) (w : World) : Calls Tryz.prog 37 #[.agg (fxC x).toArray, .agg (fxC y).toArray] w fun e w' => e = .returned (.int .i64 (cmpI x.1 y.1)) ∧ Gr w w' := by
  obtain ⟨a, x1, x2, x3⟩ := x
  obtain ⟨c, y1, y2, y3⟩ := y
  show Calls Tryz.prog 37 #[.agg #[.string ⟨#[100]⟩, .int .i64 a, .int .i64 x1, .int .i64 x2, .int .i64 x3], .agg #[.string ⟨#[100]⟩, .int .i64 c, .int .i64 y1, .int .i64 y2, .int .i64 y3]] w fun e w' => e = .returned (.int .i64 (cmpI a c)) ∧ Gr w w'
  go_enter Tryz.func37, Tryz.ntmps37
  go_wp2_with (fail)
  generalize hW : ((w.alloc (.cells #[.string { data := #[100] }, .int .i64 a, .int .i64 x1, .int .i64 x2, .int .i64 x3] 42)).alloc (.cells #[.string { data := #[100] }, .int .i64 c, .int .i64 y1, .int .i64 y2, .int .i64 y3] 42)) = W
  have hG : Gr w W := by rw [← hW]; exact ((Gr.refl _).alloc _).alloc _
  have hx : W.heap[w.heap.size]? = some (.cells #[.string { data := #[100] }, .int .i64 a, .int .i64 x1, .int .i64 x2, .int .i64 x3] 42) := by
    rw [← hW, Below.heap_alloc _ _ _ (by simp)]; exact heap_new w _
  have hy : W.heap[w.heap.size + 1]? = some (.cells #[.string { data := #[100] }, .int .i64 c, .int .i64 y1, .int .i64 y2, .int .i64 y3] 42) := by
    rw [← hW]; have := heap_new (w.alloc (.cells #[.string { data := #[100] }, .int .i64 a, .int .i64 x1, .int .i64 x2, .int .i64 x3] 42)) (.cells #[.string { data := #[100] }, .int .i64 c, .int .i64 y1, .int .i64 y2, .int .i64 y3] 42); simpa using this
  have p0 : W.cell? ⟨w.heap.size, 0, none⟩ = some (.string { data := #[100] }) := cell_of_blk hx rfl
  have p1 : W.cell? ⟨w.heap.size, 1, none⟩ = some (.int .i64 a) := cell_of_blk hx rfl
  have q0 : W.cell? ⟨w.heap.size + 1, 0, none⟩ = some (.string { data := #[100] }) := cell_of_blk hy rfl
  have q1 : W.cell? ⟨w.heap.size + 1, 1, none⟩ = some (.int .i64 c) := cell_of_blk hy rfl
  clear hW hx hy
  refine wp_region_still_tail 10 (by kernel_rfl) (by kernel_rfl) ?_
  simp only [List.take_succ_cons, List.take_zero, List.drop_succ_cons, List.drop_zero]
  change wpStill _ _ W.drew _ _ _
  repeat still_step
  still_call (flip_ (scompare_same _ _))
  repeat still_step
  still_call (flip_ (compare_any _ _ _))
  try refine wpStill_nil ?_
  generalize hr : cmpI a c = r
  have HR := Lib.hid (show orI [0, r] = r by unfold orI orI orI; by_cases h : r = 0 <;> simp [h])
  have HB := Lib.hid (show Gr w (W.drew.alloc (.cells #[.int .i64 0, .int .i64 r] 3)) from hG.drew.alloc _)
  go_wp2_with (fail)
  have hcs : Cells (W.alloc (.cells #[.int .i64 0, .int .i64 r] 3)).drew W.heap.size 0 ([0, r].map (Value.int .i64)) := Cells.new W #[.int .i64 0, .int .i64 r] 3 (0, 0) _ rfl
  refine (or_any [0, r] 2 2 W.heap.size _ rfl (by omega) hcs).mono ?_
  rw [HR.out]
  rintro e w' ⟨rfl, rfl⟩
  go_wp2_with (fail)
  go_ret
  exact ⟨ret_int hr.symm, HB.out⟩
theorem bitsLen12 (n : Nat) (W : World) (h : n ≤ 12) : Calls Tryz.prog (laySp_ren.f 15) #[.int .u64 n] W fun e w' => (∃ l : Int, e = .returned (.int .i64 l)) ∧ w' = W :=
  (Any.bits_Len (SlLaysF0.n15.bits (P := Tryz.prog) (ρ := laySp_ren) { laySp with }) n W (by omega) (by omega)).mono fun _ _ ⟨he, hw⟩ => ⟨⟨_, he⟩, hw⟩
def SortSPost (l : List Pt) (n base : Nat) (v : Value) (w : World) (e : Ending) (w' : World) : Prop :=
  e = .returned (.tuple #[]) ∧ ∃ m : List Pt, m.Perm l ∧ m.length = n ∧ w'.ownsRow base 37 2 v n (recs ptC m) ∧ w.grownBy w' v.ownBlock
theorem sortS_any (l : List Pt) (n c base : Nat) (A : Option Addr) (w : World) (hn : l.length = n) (h12 : n ≤ 12) (h0 : 0 < n) (ho : w.ownsRow base 37 2 (.slice A n c) n (recs ptC l)) :
    Calls Tryz.prog 27 #[.slice A n c, .func (.func 28) #[] #[]] w fun e w' => SortSPost l n base (.slice A n c) w e w' := by
  rcases own_two ho with ⟨rfl, rfl, rfl⟩ | ⟨b, rfl, hb, hlt⟩
  · omega
  · have eg : ∀ args w, (callFunc 28 args).run Tryz.prog w = .ok (.enter 28 args) w := enters_of Tryz.func28 (by kernel_rfl) rfl
    have hcmp : CmpLays Tryz.prog 28 #[] ptC 2 cfS b 0 l.toArray.size w := fun m os dk _ x y => bySpot_gr x y _
    have h := AnyQ.slices_SortFunc_small_sorted laySp 2 Tryz.isAgg37 Tryz.sizeOf37 ptC ptC_len ptC_one cfS 28 #[] swoS b 0 c l.toArray w eg hcmp (holdsK_of_own ptC_len ho hn) hlt (by simpa [hn] using h12) bitsLen12
    have hsz : l.toArray.size = n := by simpa using hn
    rw [hsz] at h
    refine h.mono ?_
    rintro e w' ⟨rfl, d', q, os, hp, hs, rfl⟩
    rw [← hsz] at hp hs
    obtain ⟨h1, h2, h3⟩ := sorted_list hp hs
    obtain ⟨m, rfl⟩ : ∃ m : List Pt, d' = m.toArray := ⟨d'.toList, by simp⟩
    exact ⟨rfl, m, by simpa using h1, by simpa [hn] using h2, own_sortedK ptC_len ho (by simpa [hn] using h2) q os, grown_sortedK _⟩
end Go.Proofs.YthplhibdapjjgaaGreatDoor
