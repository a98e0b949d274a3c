/- slices.SortFunc of at most 12 notes, in two orders, and of letters, by contracts. Printed by gen_OfS.py. -/
import Derived.Test.YtnnncddjcdjhoaaGreatDoorOfB
import Derived.Test.YtnnncddjcdjhoaaGreatDoorOwK
import Derived.Test.YtnnncddjcdjhoaaGreatDoorLaySN
import Derived.Test.YtnnncddjcdjhoaaGreatDoorLaySL
import Derived.Shelf.SlSortCmp.Xorshift
namespace Go.Proofs.YtnnncddjcdjhoaaGreatDoor
open Go.RowKit Go.Shelf Go.Sort

theorem idL_min (i : Nat) : idL i = idL (min i 5) := by
  match i with
  | 0 => rfl
  | 1 => rfl
  | 2 => rfl
  | 3 => rfl
  | 4 => rfl
  | n + 5 => rw [show min (n + 5) 5 = 5 by omega]; rfl
def cbL (i j : Nat) : Int := Lib.compareBytes (idL i).data.toList (idL j).data.toList
theorem cbL_eq (i j : Nat) : cbL i j = cmpI ((min i 5 : Nat) : Int) ((min j 5 : Nat) : Int) := by
  unfold cbL
  rw [idL_min i, idL_min j]
  have h1 : min i 5 < 6 := by omega
  have h2 : min j 5 < 6 := by omega
  generalize min i 5 = a at h1 ⊢
  generalize min j 5 = b at h2 ⊢
  rcases six_of h1 with h | h | h | h | h | h <;> subst h <;> rcases six_of h2 with h | h | h | h | h | h <;> subst h <;> decide +kernel
def cfE (x y : On) : Int := orI [cmpI x.c y.c, cbL x.l.id y.l.id]
def cfN (x y : On) : Int := cbL x.l.id y.l.id
def cfL (x y : Ol) : Int := orI [cmpI y.pr x.pr, cmpI x.at_ y.at_, cbL x.id y.id]
theorem cfE_lt (x y : On) : cfE x y < 0 ↔ (x.c < y.c ∨ x.c = y.c ∧ min x.l.id 5 < min y.l.id 5) := by
  unfold cfE
  rw [cbL_eq]
  simp only [orI, cmpI]
  repeat' split
  all_goals omega
theorem cfN_lt (x y : On) : cfN x y < 0 ↔ min x.l.id 5 < min y.l.id 5 := by
  unfold cfN
  rw [cbL_eq]
  simp only [cmpI]
  repeat' split
  all_goals omega
theorem cfL_lt (x y : Ol) : cfL x y < 0 ↔ (y.pr < x.pr ∨ x.pr = y.pr ∧ (x.at_ < y.at_ ∨ x.at_ = y.at_ ∧ min x.id 5 < min y.id 5)) := by
  unfold cfL
  rw [cbL_eq]
  simp only [orI, cmpI]
  repeat' split
  all_goals omega

theorem swoE : SWO (ltOf cfE) where
  irrefl x := by
    unfold ltOf
    have := cfE_lt x x
    simp
    omega
  trans x y z h1 h2 := by
    unfold ltOf at *
    have e1 := cfE_lt x y
    have e2 := cfE_lt y z
    have e3 := cfE_lt x z
    simp at *
    omega
  ntrans x y z h1 h2 := by
    unfold ltOf at *
    have e1 := cfE_lt x y
    have e2 := cfE_lt y z
    have e3 := cfE_lt x z
    simp at *
    omega
theorem swoN : SWO (ltOf cfN) where
  irrefl x := by
    unfold ltOf
    have := cfN_lt x x
    simp
    omega
  trans x y z h1 h2 := by
    unfold ltOf at *
    have e1 := cfN_lt x y
    have e2 := cfN_lt y z
    have e3 := cfN_lt x z
    simp at *
    omega
  ntrans x y z h1 h2 := by
    unfold ltOf at *
    have e1 := cfN_lt x y
    have e2 := cfN_lt y z
    have e3 := cfN_lt x z
    simp at *
    omega
theorem swoL : SWO (ltOf cfL) where
  irrefl x := by
    unfold ltOf
    have := cfL_lt x x
    simp
    omega
  trans x y z h1 h2 := by
    unfold ltOf at *
    have e1 := cfL_lt x y
    have e2 := cfL_lt y z
    have e3 := cfL_lt x z
    simp at *
    omega
  ntrans x y z h1 h2 := by
    unfold ltOf at *
    have e1 := cfL_lt x y
    have e2 := cfL_lt y z
    have e3 := cfL_lt x z
    simp at *
    omega
set_option maxRecDepth 100000 in
set_option maxHeartbeats 2000000 in
theorem ordE_grow (x y : On) (w : World) : Calls Tryz.prog 78 #[.agg (onC x).toArray, .agg (onC y).toArray] w fun e w' => e = .returned (.int .i64 (cfE x y)) ∧ ∃ q os', w' = grow (w.drewN q) os' := by
  have HC := Lib.hid (fun V => compare_any x.c y.c V)
  have HD := Lib.hid (fun V => scompare_any (idL x.l.id) (idL y.l.id) V)
  show Calls Tryz.prog 78 #[.agg #[.string (idL x.l.id), .string (slL x.l.sl), .string (boL x.l.bo), .int .i64 x.l.pr, .int .i64 x.l.at_, .int .i64 x.l.un, .int .i64 x.s, .int .i64 x.t, .int .i64 x.c], .agg #[.string (idL y.l.id), .string (slL y.l.sl), .string (boL y.l.bo), .int .i64 y.l.pr, .int .i64 y.l.at_, .int .i64 y.l.un, .int .i64 y.s, .int .i64 y.t, .int .i64 y.c]] w _
  unfold cfE cbL
  generalize Lib.compareBytes (idL x.l.id).data.toList (idL y.l.id).data.toList = r1 at HD ⊢
  generalize cmpI x.c y.c = r0 at HC ⊢
  generalize idL x.l.id = x0 at HD ⊢
  generalize slL x.l.sl = x1 at ⊢
  generalize boL x.l.bo = x2 at ⊢
  generalize idL y.l.id = y0 at HD ⊢
  generalize slL y.l.sl = y1 at ⊢
  generalize boL y.l.bo = y2 at ⊢
  obtain ⟨⟨_, _, _, x3, x4, x5⟩, x6, x7, x8⟩ := x
  obtain ⟨⟨_, _, _, y3, y4, y5⟩, y6, y7, y8⟩ := y
  simp only at HC ⊢
  go_enter Tryz.func78, Tryz.ntmps78
  go_wp2_with (fail)
  generalize hW : ((w.alloc (.cells #[.string x0, .string x1, .string x2, .int .i64 x3, .int .i64 x4, .int .i64 x5, .int .i64 x6, .int .i64 x7, .int .i64 x8] 40)).alloc (.cells #[.string y0, .string y1, .string y2, .int .i64 y3, .int .i64 y4, .int .i64 y5, .int .i64 y6, .int .i64 y7, .int .i64 y8] 40)) = W
  have hG : W = grow (w.drewN 0) #[.cells #[.string x0, .string x1, .string x2, .int .i64 x3, .int .i64 x4, .int .i64 x5, .int .i64 x6, .int .i64 x7, .int .i64 x8] 40, .cells #[.string y0, .string y1, .string y2, .int .i64 y3, .int .i64 y4, .int .i64 y5, .int .i64 y6, .int .i64 y7, .int .i64 y8] 40] := by rw [← hW, alloc_eq_grow, alloc_eq_grow, grow_grow]; rfl
  have hx : W.heap[w.heap.size]? = some (.cells #[.string x0, .string x1, .string x2, .int .i64 x3, .int .i64 x4, .int .i64 x5, .int .i64 x6, .int .i64 x7, .int .i64 x8] 40) := by
    rw [← hW, Below.heap_alloc _ _ _ (by simp)]; exact heap_new w _
  have hy : W.heap[w.heap.size + 1]? = some (.cells #[.string y0, .string y1, .string y2, .int .i64 y3, .int .i64 y4, .int .i64 y5, .int .i64 y6, .int .i64 y7, .int .i64 y8] 40) := by
    rw [← hW]; have := heap_new (w.alloc (.cells #[.string x0, .string x1, .string x2, .int .i64 x3, .int .i64 x4, .int .i64 x5, .int .i64 x6, .int .i64 x7, .int .i64 x8] 40)) (.cells #[.string y0, .string y1, .string y2, .int .i64 y3, .int .i64 y4, .int .i64 y5, .int .i64 y6, .int .i64 y7, .int .i64 y8] 40); simpa using this
  have p0 : W.cell? ⟨w.heap.size, 0, none⟩ = some (.string x0) := cell_of_blk hx rfl
  have q0 : W.cell? ⟨w.heap.size + 1, 0, none⟩ = some (.string y0) := cell_of_blk hy rfl
  have p8 : W.cell? ⟨w.heap.size, 8, none⟩ = some (.int .i64 x8) := cell_of_blk hx rfl
  have q8 : W.cell? ⟨w.heap.size + 1, 8, none⟩ = some (.int .i64 y8) := cell_of_blk hy rfl
  have HG := Lib.hid hG
  clear hW hx hy hG
  refine wp_region_still_tail 12 (by kernel_rfl) (by kernel_rfl) ?_
  simp only [List.take_succ_cons, List.take_zero, List.drop_succ_cons, List.drop_zero]
  change wpStill _ _ W.drew _ _ _
  repeat still_step
  still_call (flip_ (HC.out _))
  repeat still_step
  still_call (flip_ (HD.out _))
  repeat still_step
  try refine wpStill_nil ?_
  have hsz' : W.drew.heap.size = W.heap.size := rfl
  go_wp2_with (fail)
  have hcs : Cells (W.alloc (.cells #[.int .i64 r0, .int .i64 r1] 3)).drew W.heap.size 0 ([r0, r1].map (Value.int .i64)) := Cells.new W #[.int .i64 r0, .int .i64 r1] 3 (0, 0) _ rfl
  refine (or_any [r0, r1] 2 2 W.heap.size _ rfl (by omega) hcs).mono ?_
  rintro e w' ⟨rfl, rfl⟩
  go_wp2_with (fail)
  go_ret
  refine ⟨rfl, 1, #[.cells #[.string x0, .string x1, .string x2, .int .i64 x3, .int .i64 x4, .int .i64 x5, .int .i64 x6, .int .i64 x7, .int .i64 x8] 40, .cells #[.string y0, .string y1, .string y2, .int .i64 y3, .int .i64 y4, .int .i64 y5, .int .i64 y6, .int .i64 y7, .int .i64 y8] 40] ++ #[.cells #[.int .i64 r0, .int .i64 r1] 3], ?_⟩
  rw [HG.out, alloc_eq_grow, grow_grow]
  rfl
set_option maxRecDepth 100000 in
set_option maxHeartbeats 2000000 in
theorem ordN_grow (x y : On) (w : World) : Calls Tryz.prog 50 #[.agg (onC x).toArray, .agg (onC y).toArray] w fun e w' => e = .returned (.int .i64 (cfN x y)) ∧ ∃ q os', w' = grow (w.drewN q) os' := by
  have HD := Lib.hid (fun V => scompare_any (idL x.l.id) (idL y.l.id) V)
  show Calls Tryz.prog 50 #[.agg #[.string (idL x.l.id), .string (slL x.l.sl), .string (boL x.l.bo), .int .i64 x.l.pr, .int .i64 x.l.at_, .int .i64 x.l.un, .int .i64 x.s, .int .i64 x.t, .int .i64 x.c], .agg #[.string (idL y.l.id), .string (slL y.l.sl), .string (boL y.l.bo), .int .i64 y.l.pr, .int .i64 y.l.at_, .int .i64 y.l.un, .int .i64 y.s, .int .i64 y.t, .int .i64 y.c]] w _
  unfold cfN cbL
  generalize Lib.compareBytes (idL x.l.id).data.toList (idL y.l.id).data.toList = r1 at HD ⊢
  generalize idL x.l.id = x0 at HD ⊢
  generalize slL x.l.sl = x1 at ⊢
  generalize boL x.l.bo = x2 at ⊢
  generalize idL y.l.id = y0 at HD ⊢
  generalize slL y.l.sl = y1 at ⊢
  generalize boL y.l.bo = y2 at ⊢
  obtain ⟨⟨_, _, _, x3, x4, x5⟩, x6, x7, x8⟩ := x
  obtain ⟨⟨_, _, _, y3, y4, y5⟩, y6, y7, y8⟩ := y
  simp only
  go_enter Tryz.func50, Tryz.ntmps50
  go_wp2_with (go_at_call 27; refine (HD.out _).mono ?_; rintro e w' ⟨rfl, rfl⟩)
  go_ret
  exact ⟨rfl, 0, _, by rw [alloc_eq_grow, alloc_eq_grow, grow_grow]; rfl⟩
set_option maxRecDepth 100000 in
set_option maxHeartbeats 2000000 in
theorem ordL_grow (x y : Ol) (w : World) : Calls Tryz.prog 38 #[.agg (olC x).toArray, .agg (olC y).toArray] w fun e w' => e = .returned (.int .i64 (cfL x y)) ∧ ∃ q os', w' = grow (w.drewN q) os' := by
  have HP := Lib.hid (fun V => compare_any y.pr x.pr V)
  have HC := Lib.hid (fun V => compare_any x.at_ y.at_ V)
  have HD := Lib.hid (fun V => scompare_any (idL x.id) (idL y.id) V)
  show Calls Tryz.prog 38 #[.agg #[.string (idL x.id), .string (slL x.sl), .string (boL x.bo), .int .i64 x.pr, .int .i64 x.at_, .int .i64 x.un], .agg #[.string (idL y.id), .string (slL y.sl), .string (boL y.bo), .int .i64 y.pr, .int .i64 y.at_, .int .i64 y.un]] w _
  unfold cfL cbL
  generalize Lib.compareBytes (idL x.id).data.toList (idL y.id).data.toList = r2 at HD ⊢
  generalize cmpI x.at_ y.at_ = r1 at HC ⊢
  generalize cmpI y.pr x.pr = r0 at HP ⊢
  generalize idL x.id = x0 at HD ⊢
  generalize slL x.sl = x1 at ⊢
  generalize boL x.bo = x2 at ⊢
  generalize idL y.id = y0 at HD ⊢
  generalize slL y.sl = y1 at ⊢
  generalize boL y.bo = y2 at ⊢
  obtain ⟨_, _, _, x3, x4, x5⟩ := x
  obtain ⟨_, _, _, y3, y4, y5⟩ := y
  simp only at HC HP ⊢
  go_enter Tryz.func38, Tryz.ntmps38
  go_wp2_with (fail)
  generalize hW : ((w.alloc (.cells #[.string x0, .string x1, .string x2, .int .i64 x3, .int .i64 x4, .int .i64 x5] 35)).alloc (.cells #[.string y0, .string y1, .string y2, .int .i64 y3, .int .i64 y4, .int .i64 y5] 35)) = W
  have hG : W = grow (w.drewN 0) #[.cells #[.string x0, .string x1, .string x2, .int .i64 x3, .int .i64 x4, .int .i64 x5] 35, .cells #[.string y0, .string y1, .string y2, .int .i64 y3, .int .i64 y4, .int .i64 y5] 35] := by rw [← hW, alloc_eq_grow, alloc_eq_grow, grow_grow]; rfl
  have hx : W.heap[w.heap.size]? = some (.cells #[.string x0, .string x1, .string x2, .int .i64 x3, .int .i64 x4, .int .i64 x5] 35) := by
    rw [← hW, Below.heap_alloc _ _ _ (by simp)]; exact heap_new w _
  have hy : W.heap[w.heap.size + 1]? = some (.cells #[.string y0, .string y1, .string y2, .int .i64 y3, .int .i64 y4, .int .i64 y5] 35) := by
    rw [← hW]; have := heap_new (w.alloc (.cells #[.string x0, .string x1, .string x2, .int .i64 x3, .int .i64 x4, .int .i64 x5] 35)) (.cells #[.string y0, .string y1, .string y2, .int .i64 y3, .int .i64 y4, .int .i64 y5] 35); simpa using this
  have p0 : W.cell? ⟨w.heap.size, 0, none⟩ = some (.string x0) := cell_of_blk hx rfl
  have q0 : W.cell? ⟨w.heap.size + 1, 0, none⟩ = some (.string y0) := cell_of_blk hy rfl
  have p3 : W.cell? ⟨w.heap.size, 3, none⟩ = some (.int .i64 x3) := cell_of_blk hx rfl
  have q3 : W.cell? ⟨w.heap.size + 1, 3, none⟩ = some (.int .i64 y3) := cell_of_blk hy rfl
  have p4 : W.cell? ⟨w.heap.size, 4, none⟩ = some (.int .i64 x4) := cell_of_blk hx rfl
  have q4 : W.cell? ⟨w.heap.size + 1, 4, none⟩ = some (.int .i64 y4) := cell_of_blk hy rfl
  have HG := Lib.hid hG
  clear hW hx hy hG
  refine wp_region_still_tail 15 (by kernel_rfl) (by kernel_rfl) ?_
  simp only [List.take_succ_cons, List.take_zero, List.drop_succ_cons, List.drop_zero]
  change wpStill _ _ W.drew _ _ _
  repeat still_step
  still_call (flip_ (HP.out _))
  repeat still_step
  still_call (flip_ (HC.out _))
  repeat still_step
  still_call (flip_ (HD.out _))
  repeat still_step
  try refine wpStill_nil ?_
  have hsz' : W.drew.heap.size = W.heap.size := rfl
  go_wp2_with (fail)
  have hcs : Cells (W.alloc (.cells #[.int .i64 r0, .int .i64 r1, .int .i64 r2] 3)).drew W.heap.size 0 ([r0, r1, r2].map (Value.int .i64)) := Cells.new W #[.int .i64 r0, .int .i64 r1, .int .i64 r2] 3 (0, 0) _ rfl
  refine (or_any [r0, r1, r2] 3 3 W.heap.size _ rfl (by omega) hcs).mono ?_
  rintro e w' ⟨rfl, rfl⟩
  go_wp2_with (fail)
  go_ret
  refine ⟨rfl, 1, #[.cells #[.string x0, .string x1, .string x2, .int .i64 x3, .int .i64 x4, .int .i64 x5] 35, .cells #[.string y0, .string y1, .string y2, .int .i64 y3, .int .i64 y4, .int .i64 y5] 35] ++ #[.cells #[.int .i64 r0, .int .i64 r1, .int .i64 r2] 3], ?_⟩
  rw [HG.out, alloc_eq_grow, grow_grow]
  rfl
theorem bitsLenN (n : Nat) (W : World) (h : n ≤ 12) : Calls Tryz.prog (laySN_ren.f 15) #[.int .u64 n] W fun e w' => (∃ l : Int, e = .returned (.int .i64 l)) ∧ w' = W :=
  (Any.bits_Len (SlLaysF0.n15.bits (P := Tryz.prog) (ρ := laySN_ren) { laySN with }) n W (by omega) (by omega)).mono fun _ _ ⟨he, hw⟩ => ⟨⟨_, he⟩, hw⟩
theorem insN_none (p : Option Addr) (cap : Nat) (fv : Value) (w : World) : Calls Tryz.prog 113 #[.slice p 0 cap, .int .i64 0, .int .i64 0, fv] w fun e w' => e = .returned (.tuple #[]) ∧ w' = w := by
  go_enter Tryz.func113, Tryz.ntmps113
  go_wp2_with (fail)
  refine wp_loop_rounds 1 ?_
  rw [rounds_succ]
  go_wp2_with (fail)
  go_end0
  exact ⟨rfl, rfl⟩
theorem pdqN_none (p : Option Addr) (cap : Nat) (lim : Int) (fv : Value) (w : World) : Calls Tryz.prog 79 #[.slice p 0 cap, .int .i64 0, .int .i64 0, .int .i64 lim, fv] w fun e w' => e = .returned (.tuple #[]) ∧ w' = w := by
  go_enter Tryz.func79, Tryz.ntmps79
  go_wp2_with (fail)
  refine wp_loop_rounds 1 ?_
  rw [rounds_succ]
  go_wp2_with (go_at_call 113; refine (insN_none _ _ _ _).mono ?_; rintro e w' ⟨rfl, rfl⟩)
  (try simp only [Exit.inBlock, Exit.then]); refine bodyPost_ret (results_none rfl _ _ _) rfl ?_
  exact ⟨rfl, rfl⟩
theorem sortN_none (p : Option Addr) (cap : Nat) (fv : Value) (w : World) : Calls Tryz.prog 49 #[.slice p 0 cap, fv] w fun e w' => e = .returned (.tuple #[]) ∧ w' = w := by
  have hl := fun W => bitsLenN 0 W (by omega)
  change ∀ W, Calls Tryz.prog 71 _ W _ at hl
  go_enter Tryz.func49, Tryz.ntmps49
  go_wp2_with (first | (go_at_call 71; refine (hl _).mono ?_; rintro e w' ⟨⟨l, rfl⟩, rfl⟩) | (go_at_call 79; refine (pdqN_none _ _ _ _ _).mono ?_; rintro e w' ⟨rfl, rfl⟩))
  go_end0
  exact ⟨rfl, rfl⟩
theorem bitsLenL (n : Nat) (W : World) (h : n ≤ 12) : Calls Tryz.prog (laySL_ren.f 15) #[.int .u64 n] W fun e w' => (∃ l : Int, e = .returned (.int .i64 l)) ∧ w' = W :=
  (Any.bits_Len (SlLaysF0.n15.bits (P := Tryz.prog) (ρ := laySL_ren) { laySL with }) n W (by omega) (by omega)).mono fun _ _ ⟨he, hw⟩ => ⟨⟨_, he⟩, hw⟩
theorem insL_none (p : Option Addr) (cap : Nat) (fv : Value) (w : World) : Calls Tryz.prog 97 #[.slice p 0 cap, .int .i64 0, .int .i64 0, fv] w fun e w' => e = .returned (.tuple #[]) ∧ w' = w := by
  go_enter Tryz.func97, Tryz.ntmps97
  go_wp2_with (fail)
  refine wp_loop_rounds 1 ?_
  rw [rounds_succ]
  go_wp2_with (fail)
  go_end0
  exact ⟨rfl, rfl⟩
theorem pdqL_none (p : Option Addr) (cap : Nat) (lim : Int) (fv : Value) (w : World) : Calls Tryz.prog 70 #[.slice p 0 cap, .int .i64 0, .int .i64 0, .int .i64 lim, fv] w fun e w' => e = .returned (.tuple #[]) ∧ w' = w := by
  go_enter Tryz.func70, Tryz.ntmps70
  go_wp2_with (fail)
  refine wp_loop_rounds 1 ?_
  rw [rounds_succ]
  go_wp2_with (go_at_call 97; refine (insL_none _ _ _ _).mono ?_; rintro e w' ⟨rfl, rfl⟩)
  (try simp only [Exit.inBlock, Exit.then]); refine bodyPost_ret (results_none rfl _ _ _) rfl ?_
  exact ⟨rfl, rfl⟩
theorem sortL_none (p : Option Addr) (cap : Nat) (fv : Value) (w : World) : Calls Tryz.prog 37 #[.slice p 0 cap, fv] w fun e w' => e = .returned (.tuple #[]) ∧ w' = w := by
  have hl := fun W => bitsLenL 0 W (by omega)
  change ∀ W, Calls Tryz.prog 71 _ W _ at hl
  go_enter Tryz.func37, Tryz.ntmps37
  go_wp2_with (first | (go_at_call 71; refine (hl _).mono ?_; rintro e w' ⟨⟨l, rfl⟩, rfl⟩) | (go_at_call 70; refine (pdqL_none _ _ _ _ _).mono ?_; rintro e w' ⟨rfl, rfl⟩))
  go_end0
  exact ⟨rfl, rfl⟩
instance : Inhabited Ol := ⟨⟨0, 0, 0, 0, 0, 0⟩⟩
instance : Inhabited On := ⟨⟨default, 0, 0, 0⟩⟩
def sortEPost (l : List On) (n base : Nat) (v : Value) (w : World) (e : Ending) (w' : World) : Prop :=
  e = .returned (.tuple #[]) ∧ ∃ m : List On, m.Perm l ∧ m.length = n ∧ m.Pairwise (fun x y => x.c < y.c ∨ x.c = y.c ∧ min x.l.id 5 ≤ min y.l.id 5) ∧ w'.ownsRow base 40 9 v n (recs onC m) ∧ w.grownBy w' v.ownBlock
theorem sortE_any (l : List On) (n c base : Nat) (A : Option Addr) (w : World) (hn : l.length = n) (h12 : n ≤ 12) (ho : w.ownsRow base 40 9 (.slice A n c) n (recs onC l)) :
    Calls Tryz.prog 49 #[.slice A n c, .func (.func 78) #[] #[]] w fun e w' => sortEPost l n base (.slice A n c) w e w' := by
  rcases own_two ho with ⟨rfl, rfl, rfl⟩ | ⟨b, rfl, hb, hlt⟩
  · refine (sortN_none none 0 _ w).mono ?_
    rintro e w' ⟨rfl, rfl⟩
    have hl := List.eq_nil_of_length_eq_zero hn
    subst hl
    exact ⟨rfl, [], List.Perm.refl _, rfl, List.Pairwise.nil, ho, grown_refl _ _⟩
  · have eg : ∀ args w, (callFunc 78 args).run Tryz.prog w = .ok (.enter 78 args) w := enters_of Tryz.func78 (by kernel_rfl) rfl
    have hcmp : CmpLays Tryz.prog 78 #[] onC 9 cfE b 0 l.toArray.size w := by
      intro m os dk _ x y
      exact ordE_grow x y _
    have h := AnyQ.slices_SortFunc_small_sorted laySN 9 Tryz.isAgg40 Tryz.sizeOf40 onC onC_len onC_one cfE 78 #[] swoE b 0 c l.toArray w eg hcmp (holdsK_of_own onC_len ho hn) hlt (by simpa [hn] using h12) bitsLenN
    have hsz : l.toArray.size = n := by simpa using hn
    rw [hsz] at h
    refine h.mono ?_
    rintro e w' ⟨rfl, d', q, os, hp, hs, rfl⟩
    rw [← hsz] at hp hs
    obtain ⟨h1, h2, h3⟩ := sorted_list hp hs
    obtain ⟨m, rfl⟩ : ∃ m : List On, d' = m.toArray := ⟨d'.toList, by simp⟩
    refine ⟨rfl, m, by simpa using h1, by simpa [hn] using h2, ?_, own_sortedK onC_len ho (by simpa [hn] using h2) q os, grown_sortedK _⟩
    refine List.Pairwise.imp ?_ (by simpa using h3)
    intro x y hxy
    unfold ltOf at hxy
    have := cfE_lt y x
    simp at hxy
    omega
def sortIPost (l : List On) (n base : Nat) (v : Value) (w : World) (e : Ending) (w' : World) : Prop :=
  e = .returned (.tuple #[]) ∧ ∃ m : List On, m.Perm l ∧ m.length = n ∧ m.Pairwise (fun x y => min x.l.id 5 ≤ min y.l.id 5) ∧ w'.ownsRow base 40 9 v n (recs onC m) ∧ w.grownBy w' v.ownBlock
theorem sortI_any (l : List On) (n c base : Nat) (A : Option Addr) (w : World) (hn : l.length = n) (h12 : n ≤ 12) (ho : w.ownsRow base 40 9 (.slice A n c) n (recs onC l)) :
    Calls Tryz.prog 49 #[.slice A n c, .func (.func 50) #[] #[]] w fun e w' => sortIPost l n base (.slice A n c) w e w' := by
  rcases own_two ho with ⟨rfl, rfl, rfl⟩ | ⟨b, rfl, hb, hlt⟩
  · refine (sortN_none none 0 _ w).mono ?_
    rintro e w' ⟨rfl, rfl⟩
    have hl := List.eq_nil_of_length_eq_zero hn
    subst hl
    exact ⟨rfl, [], List.Perm.refl _, rfl, List.Pairwise.nil, ho, grown_refl _ _⟩
  · have eg : ∀ args w, (callFunc 50 args).run Tryz.prog w = .ok (.enter 50 args) w := enters_of Tryz.func50 (by kernel_rfl) rfl
    have hcmp : CmpLays Tryz.prog 50 #[] onC 9 cfN b 0 l.toArray.size w := by
      intro m os dk _ x y
      exact ordN_grow x y _
    have h := AnyQ.slices_SortFunc_small_sorted laySN 9 Tryz.isAgg40 Tryz.sizeOf40 onC onC_len onC_one cfN 50 #[] swoN b 0 c l.toArray w eg hcmp (holdsK_of_own onC_len ho hn) hlt (by simpa [hn] using h12) bitsLenN
    have hsz : l.toArray.size = n := by simpa using hn
    rw [hsz] at h
    refine h.mono ?_
    rintro e w' ⟨rfl, d', q, os, hp, hs, rfl⟩
    rw [← hsz] at hp hs
    obtain ⟨h1, h2, h3⟩ := sorted_list hp hs
    obtain ⟨m, rfl⟩ : ∃ m : List On, d' = m.toArray := ⟨d'.toList, by simp⟩
    refine ⟨rfl, m, by simpa using h1, by simpa [hn] using h2, ?_, own_sortedK onC_len ho (by simpa [hn] using h2) q os, grown_sortedK _⟩
    refine List.Pairwise.imp ?_ (by simpa using h3)
    intro x y hxy
    unfold ltOf at hxy
    have := cfN_lt y x
    simp at hxy
    omega
def sortOPost (l : List Ol) (n base : Nat) (v : Value) (w : World) (e : Ending) (w' : World) : Prop :=
  e = .returned (.tuple #[]) ∧ ∃ m : List Ol, m.Perm l ∧ m.length = n ∧ m.Pairwise (fun x y => y.pr < x.pr ∨ x.pr = y.pr ∧ (x.at_ < y.at_ ∨ x.at_ = y.at_ ∧ min x.id 5 ≤ min y.id 5)) ∧ w'.ownsRow base 35 6 v n (recs olC m) ∧ w.grownBy w' v.ownBlock
theorem sortO_any (l : List Ol) (n c base : Nat) (A : Option Addr) (w : World) (hn : l.length = n) (h12 : n ≤ 12) (ho : w.ownsRow base 35 6 (.slice A n c) n (recs olC l)) :
    Calls Tryz.prog 37 #[.slice A n c, .func (.func 38) #[] #[]] w fun e w' => sortOPost l n base (.slice A n c) w e w' := by
  rcases own_two ho with ⟨rfl, rfl, rfl⟩ | ⟨b, rfl, hb, hlt⟩
  · refine (sortL_none none 0 _ w).mono ?_
    rintro e w' ⟨rfl, rfl⟩
    have hl := List.eq_nil_of_length_eq_zero hn
    subst hl
    exact ⟨rfl, [], List.Perm.refl _, rfl, List.Pairwise.nil, ho, grown_refl _ _⟩
  · have eg : ∀ args w, (callFunc 38 args).run Tryz.prog w = .ok (.enter 38 args) w := enters_of Tryz.func38 (by kernel_rfl) rfl
    have hcmp : CmpLays Tryz.prog 38 #[] olC 6 cfL b 0 l.toArray.size w := by
      intro m os dk _ x y
      exact ordL_grow x y _
    have h := AnyQ.slices_SortFunc_small_sorted laySL 6 Tryz.isAgg35 Tryz.sizeOf35 olC olC_len olC_one cfL 38 #[] swoL b 0 c l.toArray w eg hcmp (holdsK_of_own olC_len ho hn) hlt (by simpa [hn] using h12) bitsLenL
    have hsz : l.toArray.size = n := by simpa using hn
    rw [hsz] at h
    refine h.mono ?_
    rintro e w' ⟨rfl, d', q, os, hp, hs, rfl⟩
    rw [← hsz] at hp hs
    obtain ⟨h1, h2, h3⟩ := sorted_list hp hs
    obtain ⟨m, rfl⟩ : ∃ m : List Ol, d' = m.toArray := ⟨d'.toList, by simp⟩
    refine ⟨rfl, m, by simpa using h1, by simpa [hn] using h2, ?_, own_sortedK olC_len ho (by simpa [hn] using h2) q os, grown_sortedK _⟩
    refine List.Pairwise.imp ?_ (by simpa using h3)
    intro x y hxy
    unfold ltOf at hxy
    have := cfL_lt y x
    simp at hxy
    omega
end Go.Proofs.YtnnncddjcdjhoaaGreatDoor
