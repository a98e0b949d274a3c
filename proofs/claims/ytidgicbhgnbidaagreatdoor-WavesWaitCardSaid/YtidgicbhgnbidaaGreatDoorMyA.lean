/- Small functions on versions: Compare, byCost, number, numbered, base.Version, versionFault, whole, VersionOrder. -/
import Derived.Test.YtidgicbhgnbidaaGreatDoorMgB
import Derived.StillTail
import Derived.Sort.Grow
namespace Go.Proofs.YtidgicbhgnbidaaGreatDoor
open Go.RowKit Go.Sort

def veV (v : Ve) : Value := .agg #[.int .i64 v.a, .int .i64 v.b, .int .i64 v.c]
def veC (v : Ve) : List Value := [.int .i64 v.a, .int .i64 v.b, .int .i64 v.c]
def veB (v : Ve) : Obj := .cells #[.int .i64 v.a, .int .i64 v.b, .int .i64 v.c] 29 (0, 0)
theorem veC_len (v : Ve) : (veC v).length = 3 := rfl
theorem veC_one (v : Ve) : ∀ u ∈ veC v, u.oneCell' = true := by
  intro u hu
  simp only [veC, List.mem_cons, List.not_mem_nil, or_false] at hu
  rcases hu with h | h | h <;> rw [h] <;> rfl
/-- A cost: steps, size. -/
abbrev Co := Int × Int
def coV (c : Co) : Value := .agg #[.int .i64 c.1, .int .i64 c.2]
def coB (c : Co) : Obj := .cells #[.int .i64 c.1, .int .i64 c.2] 99 (0, 0)
def cmpC (x y : Co) : Int := orI [cmpI x.1 y.1, cmpI x.2 y.2]
theorem cmpC_lt (x y : Co) : cmpC x y < 0 ↔ (x.1 < y.1 ∨ x.1 = y.1 ∧ x.2 < y.2) := by
  unfold cmpC cmpI
  simp only [orI]
  repeat' split
  all_goals constructor <;> intro h <;> omega
theorem grow_below (w : World) (q : Nat) (os : Array Obj) : Below w.heap.size w (grow (w.drewN q) os) := by
  refine ⟨rfl, rfl, rfl, by simp [grow, World.drewN], fun b hb => ?_⟩
  simp [grow, World.drewN, Array.getElem?_append_left hb]
theorem cells_blkV {V : World} {b : Nat} {cs : Array Value} {t : TypeId} {f : Nat × Nat} {l : List Value} (h : V.heap[b]? = some (.cells cs t f)) (hl : cs.toList = l) : Cells V b 0 l := by
  intro j u hj
  rw [Nat.zero_add]
  exact cell_of_blk h (by rw [← hl] at hj; simpa using hj)
set_option maxRecDepth 100000 in
set_option maxHeartbeats 2000000 in
theorem compareV_grow (x y : Ve) (w : World) : Calls Tryz.prog 14 #[veV x, veV y] w fun e w' => e = .returned (.int .i64 (cmpV x y)) ∧ ∃ q os', w' = grow (w.drewN q) os' := by
  have HC0 := Lib.hid (fun V => compare_any x.a y.a V)
  have HC1 := Lib.hid (fun V => compare_any x.b y.b V)
  have HC2 := Lib.hid (fun V => compare_any x.c y.c V)
  unfold veV cmpV
  generalize cmpI x.a y.a = r0 at HC0 ⊢
  generalize cmpI x.b y.b = r1 at HC1 ⊢
  generalize cmpI x.c y.c = r2 at HC2 ⊢
  obtain ⟨x0, x1, x2⟩ := x
  obtain ⟨y0, y1, y2⟩ := y
  simp only at HC0 HC1 HC2 ⊢
  go_enter Tryz.func14, Tryz.ntmps14
  go_wp2_with (fail)
  generalize hW : ((w.alloc (.cells #[.int .i64 x0, .int .i64 x1, .int .i64 x2] 29)).alloc (.cells #[.int .i64 y0, .int .i64 y1, .int .i64 y2] 29)) = W
  have hG : W = grow (w.drewN 0) #[.cells #[.int .i64 x0, .int .i64 x1, .int .i64 x2] 29, .cells #[.int .i64 y0, .int .i64 y1, .int .i64 y2] 29] := by rw [← hW, alloc_eq_grow, alloc_eq_grow, grow_grow]; rfl
  have hx : W.heap[w.heap.size]? = some (.cells #[.int .i64 x0, .int .i64 x1, .int .i64 x2] 29) := by
    rw [← hW, Below.heap_alloc _ _ _ (by simp)]; exact heap_new w _
  have hy : W.heap[w.heap.size + 1]? = some (.cells #[.int .i64 y0, .int .i64 y1, .int .i64 y2] 29) := by
    rw [← hW]; have := heap_new (w.alloc (.cells #[.int .i64 x0, .int .i64 x1, .int .i64 x2] 29)) (.cells #[.int .i64 y0, .int .i64 y1, .int .i64 y2] 29); simpa using this
  have p0 : W.cell? ⟨w.heap.size, 0, none⟩ = some (.int .i64 x0) := cell_of_blk hx rfl
  have p1 : W.cell? ⟨w.heap.size, 1, none⟩ = some (.int .i64 x1) := cell_of_blk hx rfl
  have p2 : W.cell? ⟨w.heap.size, 2, none⟩ = some (.int .i64 x2) := cell_of_blk hx rfl
  have q0 : W.cell? ⟨w.heap.size + 1, 0, none⟩ = some (.int .i64 y0) := cell_of_blk hy rfl
  have q1 : W.cell? ⟨w.heap.size + 1, 1, none⟩ = some (.int .i64 y1) := cell_of_blk hy rfl
  have q2 : W.cell? ⟨w.heap.size + 1, 2, none⟩ = some (.int .i64 y2) := cell_of_blk hy rfl
  have HG := Lib.hid hG
  clear hW hx hy hG
  refine wp_region_still_tail 15 (by kernel_rfl) (by kernel_rfl) ?_
  simp only [List.take_succ_cons, List.take_zero, List.drop_succ_cons, List.drop_zero]
  change wpStill _ _ W.drew _ _ _
  repeat still_step
  still_call (flip_ (HC0.out _))
  repeat still_step
  still_call (flip_ (HC1.out _))
  repeat still_step
  still_call (flip_ (HC2.out _))
  try refine wpStill_nil ?_
  have hsz' : W.drew.heap.size = W.heap.size := rfl
  go_wp2_with (fail)
  have hcs : Cells (W.alloc (.cells #[.int .i64 r0, .int .i64 r1, .int .i64 r2] 3)).drew W.heap.size 0 ([r0, r1, r2].map (Value.int .i64)) := Cells.new W #[.int .i64 r0, .int .i64 r1, .int .i64 r2] 3 (0, 0) _ rfl
  refine (or_any [r0, r1, r2] 3 3 W.heap.size _ rfl (by omega) hcs).mono ?_
  rintro e w' ⟨rfl, rfl⟩
  go_wp2_with (fail)
  go_ret
  refine ⟨rfl, 1, #[.cells #[.int .i64 x0, .int .i64 x1, .int .i64 x2] 29, .cells #[.int .i64 y0, .int .i64 y1, .int .i64 y2] 29] ++ #[.cells #[.int .i64 r0, .int .i64 r1, .int .i64 r2] 3], ?_⟩
  rw [HG.out, alloc_eq_grow, grow_grow]
  rfl
theorem compareV_any (x y : Ve) (w : World) : Calls Tryz.prog 14 #[veV x, veV y] w fun e w' => e = .returned (.int .i64 (cmpV x y)) ∧ Below w.heap.size w w' := by
  refine (compareV_grow x y w).mono ?_
  rintro e w' ⟨rfl, q, os, rfl⟩
  exact ⟨rfl, grow_below w q os⟩
set_option maxRecDepth 100000 in
set_option maxHeartbeats 2000000 in
theorem byCost_any (x y : Co) (w : World) : Calls Tryz.prog 84 #[coV x, coV y] w fun e w' => e = .returned (.int .i64 (cmpC x y)) ∧ Below w.heap.size w w' := by
  have HC0 := Lib.hid (fun V => compare_any x.1 y.1 V)
  have HC1 := Lib.hid (fun V => compare_any x.2 y.2 V)
  unfold coV cmpC
  generalize cmpI x.1 y.1 = r0 at HC0 ⊢
  generalize cmpI x.2 y.2 = r1 at HC1 ⊢
  obtain ⟨x0, x1⟩ := x
  obtain ⟨y0, y1⟩ := y
  simp only at HC0 HC1 ⊢
  go_enter Tryz.func84, Tryz.ntmps84
  go_wp2_with (fail)
  generalize hW : ((w.alloc (.cells #[.int .i64 x0, .int .i64 x1] 99)).alloc (.cells #[.int .i64 y0, .int .i64 y1] 99)) = W
  have hG : Below w.heap.size w W := hW ▸ (((Below.refl _ _).alloc (Nat.le_refl _) _).alloc (by simp) _)
  have hx : W.heap[w.heap.size]? = some (.cells #[.int .i64 x0, .int .i64 x1] 99) := by
    rw [← hW, Below.heap_alloc _ _ _ (by simp)]; exact heap_new w _
  have hy : W.heap[w.heap.size + 1]? = some (.cells #[.int .i64 y0, .int .i64 y1] 99) := by
    rw [← hW]; have := heap_new (w.alloc (.cells #[.int .i64 x0, .int .i64 x1] 99)) (.cells #[.int .i64 y0, .int .i64 y1] 99); simpa using this
  have p0 : W.cell? ⟨w.heap.size, 0, none⟩ = some (.int .i64 x0) := cell_of_blk hx rfl
  have p1 : W.cell? ⟨w.heap.size, 1, none⟩ = some (.int .i64 x1) := cell_of_blk hx rfl
  have q0 : W.cell? ⟨w.heap.size + 1, 0, none⟩ = some (.int .i64 y0) := cell_of_blk hy rfl
  have q1 : W.cell? ⟨w.heap.size + 1, 1, none⟩ = some (.int .i64 y1) := cell_of_blk hy rfl
  have HG := Lib.hid hG
  clear hW hx hy hG
  refine wp_region_still_tail 10 (by kernel_rfl) (by kernel_rfl) ?_
  simp only [List.take_succ_cons, List.take_zero, List.drop_succ_cons, List.drop_zero]
  change wpStill _ _ W.drew _ _ _
  repeat still_step
  still_call (flip_ (HC0.out _))
  repeat still_step
  still_call (flip_ (HC1.out _))
  try refine wpStill_nil ?_
  have hsz' : W.drew.heap.size = W.heap.size := rfl
  go_wp2_with (fail)
  have hcs : Cells (W.alloc (.cells #[.int .i64 r0, .int .i64 r1] 3)).drew W.heap.size 0 ([r0, r1].map (Value.int .i64)) := Cells.new W #[.int .i64 r0, .int .i64 r1] 3 (0, 0) _ rfl
  refine (or_any [r0, r1] 2 2 W.heap.size _ rfl (by omega) hcs).mono ?_
  rintro e w' ⟨rfl, rfl⟩
  have HF := Lib.hid (show Below w.heap.size w (W.alloc (.cells #[.int .i64 r0, .int .i64 r1] 3)).drew from (HG.out.alloc HG.out.size _).drew)
  go_wp2_with (fail)
  go_ret
  exact ⟨rfl, HF.out⟩
set_option maxRecDepth 100000 in
theorem number_any (v : Ve) (w : World) (h : VeOk v) : Calls Tryz.prog 43 #[veV v] w fun e w' => e = .returned (.int .i64 (vn v)) ∧ Below w.heap.size w w' := by
  obtain ⟨⟨a1, a2⟩, ⟨b1, b2⟩, ⟨c1, c2⟩⟩ := h
  obtain ⟨a, b, c⟩ := v
  simp only at a1 a2 b1 b2 c1 c2
  unfold veV vn
  simp only
  have e1 : IntKind.i64.wrap (a * 10000) = a * 10000 := by rw [IntKind.wrap_i64]; omega
  have e2 : IntKind.i64.wrap (a * 10000 + b) = a * 10000 + b := by rw [IntKind.wrap_i64]; omega
  have e3 : IntKind.i64.wrap ((a * 10000 + b) * 10000) = (a * 10000 + b) * 10000 := by rw [IntKind.wrap_i64]; omega
  have e4 : IntKind.i64.wrap ((a * 10000 + b) * 10000 + c) = (a * 10000 + b) * 10000 + c := by rw [IntKind.wrap_i64]; omega
  go_enter Tryz.func43, Tryz.ntmps43
  go_wp2_with (fail)
  go_ret
  exact ⟨rfl, (Below.refl _ _).alloc (Nat.le_refl _) _⟩
theorem setblkV {w : World} {g j : Nat} {cs : Array Value} {t : TypeId} {f : Nat × Nat} (v : Value) (h : w.heap[g]? = some (.cells cs t f)) : (w.setCell ⟨g, j, none⟩ v).heap[g]? = some (.cells (cs.setIfInBounds j v) t f) := by
  simp [World.setCell, Array.getElem?_modify, h]
theorem setcV (V : World) (b j : Nat) (v : Value) (b' : Nat) (hb : b' ≠ b) : (V.setCell ⟨b, j, none⟩ v).heap[b']? = V.heap[b']? := Below.heap_setCell _ _ _ _ hb
/-- A version that is put into a new block, cell by cell. -/
theorem ve_put (w : World) (x y z : Value) : ((((w.alloc (.cells #[.int .i64 0, .int .i64 0, .int .i64 0] 29)).setCell ⟨w.heap.size, 0, none⟩ x).setCell ⟨w.heap.size, 1, none⟩ y).setCell ⟨w.heap.size, 2, none⟩ z).heap[w.heap.size]? = some (.cells #[x, y, z] 29 (0, 0)) ∧ Below w.heap.size w ((((w.alloc (.cells #[.int .i64 0, .int .i64 0, .int .i64 0] 29)).setCell ⟨w.heap.size, 0, none⟩ x).setCell ⟨w.heap.size, 1, none⟩ y).setCell ⟨w.heap.size, 2, none⟩ z) := by
  have h0 := heap_new w (.cells #[.int .i64 0, .int .i64 0, .int .i64 0] 29 (0, 0))
  have h1 : ((w.alloc (.cells #[.int .i64 0, .int .i64 0, .int .i64 0] 29)).setCell ⟨w.heap.size, 0, none⟩ x).heap[w.heap.size]? = some (.cells #[x, .int .i64 0, .int .i64 0] 29 (0, 0)) := (setblkV (j := 0) x h0).trans rfl
  have h2 : (((w.alloc (.cells #[.int .i64 0, .int .i64 0, .int .i64 0] 29)).setCell ⟨w.heap.size, 0, none⟩ x).setCell ⟨w.heap.size, 1, none⟩ y).heap[w.heap.size]? = some (.cells #[x, y, .int .i64 0] 29 (0, 0)) := (setblkV (j := 1) y h1).trans rfl
  refine ⟨(setblkV (j := 2) z h2).trans rfl, ?_⟩
  have hb : Below w.heap.size w (w.alloc (.cells #[.int .i64 0, .int .i64 0, .int .i64 0] 29)) := (Below.refl _ _).alloc (Nat.le_refl _) _
  exact ((hb.setCell (Nat.le_refl _) _).setCell (Nat.le_refl _) _).setCell (Nat.le_refl _) _
set_option maxRecDepth 100000 in
theorem numbered_any (n : Int) (w : World) (h : 0 ≤ n ∧ n ≤ 999999999999) : Calls Tryz.prog 44 #[.int .i64 n] w fun e w' => e = .returned (veV (vd n)) ∧ Below w.heap.size w w' := by
  obtain ⟨h0, h1⟩ := h
  have t1 : n.tdiv 10000 = n / 10000 := Int.tdiv_eq_ediv_of_nonneg h0
  have t2 : (n / 10000).tdiv 10000 = n / 10000 / 10000 := Int.tdiv_eq_ediv_of_nonneg (by omega)
  have t3 : (n / 10000).tmod 10000 = n / 10000 % 10000 := Int.tmod_eq_emod_of_nonneg (by omega)
  have t4 : n.tmod 10000 = n % 10000 := Int.tmod_eq_emod_of_nonneg h0
  have e1 : IntKind.i64.wrap (n / 10000) = n / 10000 := by rw [IntKind.wrap_i64]; omega
  have e2 : IntKind.i64.wrap (n / 10000 / 10000) = n / 10000 / 10000 := by rw [IntKind.wrap_i64]; omega
  have e3 : IntKind.i64.wrap (n / 10000 % 10000) = n / 10000 % 10000 := by rw [IntKind.wrap_i64]; omega
  have e4 : IntKind.i64.wrap (n % 10000) = n % 10000 := by rw [IntKind.wrap_i64]; omega
  unfold vd veV
  simp only
  have HP := Lib.hid (And.intro (heap_new w (.cells #[.int .i64 (n / 10000 / 10000), .int .i64 (n / 10000 % 10000), .int .i64 (n % 10000)] 29)) ((Below.refl w.heap.size w).alloc (Nat.le_refl _) (.cells #[.int .i64 (n / 10000 / 10000), .int .i64 (n / 10000 % 10000), .int .i64 (n % 10000)] 29)))
  go_enter Tryz.func44, Tryz.ntmps44
  go_wp2_with (fail)
  have r0 := cell_of_blk (j := 0) HP.out.1 rfl
  have r1 := cell_of_blk (j := 1) HP.out.1 rfl
  have r2 := cell_of_blk (j := 2) HP.out.1 rfl
  refine bodyPost_ret (v := .agg #[.int .i64 (n / 10000 / 10000), .int .i64 (n / 10000 % 10000), .int .i64 (n % 10000)]) (by simp [results, Tryz.results44, go_sem, r0, r1, r2]) rfl ?_
  exact ⟨rfl, HP.out.2⟩
set_option maxRecDepth 100000 in
theorem version_any (v : Ve) (w : World) (h : VeOk v) : Calls Tryz.prog 70 #[veV v] w fun e w' => e = .returned (.bool true) ∧ Below w.heap.size w w' := by
  obtain ⟨⟨a1, a2⟩, ⟨b1, b2⟩, ⟨c1, c2⟩⟩ := h
  obtain ⟨a, b, c⟩ := v
  simp only at a1 a2 b1 b2 c1 c2
  unfold veV
  simp only
  go_enter Tryz.func70, Tryz.ntmps70
  go_wp2_with (go_at_call 62; refine (out_no _ _ _ _ (by omega) (by omega)).mono ?_; rintro e w' ⟨rfl, rfl⟩)
  go_ret
  exact ⟨rfl, (Below.refl _ _).alloc (Nat.le_refl _) _⟩
set_option maxRecDepth 100000 in
theorem versionFault_any (v : Ve) (w : World) (h : VeOk v) : Calls Tryz.prog 83 #[veV v] w fun e w' => e = .returned (.int .i64 0) ∧ Below w.heap.size w w' := by
  obtain ⟨w1, e1⟩ : ∃ V : World, V = w.alloc (.cells #[.int .i64 v.a, .int .i64 v.b, .int .i64 v.c] 29) := ⟨_, rfl⟩
  have hb1 : Below w.heap.size w w1 := by rw [e1]; exact (Below.refl _ _).alloc (Nat.le_refl _) _
  have hg1 : w1.heap[w.heap.size]? = some (veB v) := by rw [e1]; exact heap_new w _
  have HB := Lib.hid hb1
  have HV := Lib.hid (version_any v w1 h)
  have k0 : w1.cell? ⟨w.heap.size, 0, none⟩ = some (.int .i64 v.a) := cell_of_blk hg1 rfl
  have k1 : w1.cell? ⟨w.heap.size, 1, none⟩ = some (.int .i64 v.b) := cell_of_blk hg1 rfl
  have k2 : w1.cell? ⟨w.heap.size, 2, none⟩ = some (.int .i64 v.c) := cell_of_blk hg1 rfl
  unfold veV at HV ⊢
  clear hb1 hg1 h
  go_enter Tryz.func83, Tryz.ntmps83
  go_upto_region 1 with (fail)
  rw [← e1]
  clear e1
  go_wp2_with (fail)
  refine HV.out.mono ?_
  rintro e w2 ⟨rfl, hb2⟩
  have HB2 := Lib.hid (HB.out.trans (hb2.mono HB.out.size))
  clear hb2
  go_wp2_with (fail)
  go_ret
  exact ⟨rfl, HB2.out⟩
set_option maxRecDepth 100000 in
theorem whole_any (n : Int) (w : World) : Calls Tryz.prog 35 #[.int .i64 n] w fun e w' => e = .returned (veV ⟨n, 0, 0⟩) ∧ Below w.heap.size w w' := by
  have HP := Lib.hid (And.intro (heap_new w (.cells #[.int .i64 n, .int .i64 0, .int .i64 0] 29)) ((Below.refl w.heap.size w).alloc (Nat.le_refl _) (.cells #[.int .i64 n, .int .i64 0, .int .i64 0] 29)))
  go_enter Tryz.func35, Tryz.ntmps35
  go_wp2_with (fail)
  have r0 := cell_of_blk (j := 0) HP.out.1 rfl
  have r1 := cell_of_blk (j := 1) HP.out.1 rfl
  have r2 := cell_of_blk (j := 2) HP.out.1 rfl
  refine bodyPost_ret (v := .agg #[.int .i64 n, .int .i64 0, .int .i64 0]) (by simp [results, Tryz.results35, go_sem, r0, r1, r2]) rfl ?_
  exact ⟨rfl, HP.out.2⟩
set_option maxRecDepth 100000 in
theorem scmp_less (a b c d e f : Int) (g h : Nat) (w : World) (hl : a < d) (hg : Cells w g 0 ([a, b, c].map (Value.int .i64))) (hh : Cells w h 0 ([d, e, f].map (Value.int .i64))) :
    Calls Tryz.prog 82 #[.slice (some ⟨g, 0, none⟩) 3 3, .slice (some ⟨h, 0, none⟩) 3 3] w fun e w' => e = .returned (.int .i64 (-1)) ∧ w = w' := by
  have a0 : w.cell? ⟨g, 0, none⟩ = some (.int .i64 a) := by have := hg 0 (.int .i64 a) rfl; simpa using this
  have d0 : w.cell? ⟨h, 0, none⟩ = some (.int .i64 d) := by have := hh 0 (.int .i64 d) rfl; simpa using this
  have HC := Lib.hid (compare_any a d w)
  have e1 : cmpI a d = -1 := by unfold cmpI; rw [if_pos hl]
  rw [e1] at HC
  have hgl := World.block_lt_of_cell? w _ a0
  have hhl := World.block_lt_of_cell? w _ d0
  simp only at hgl hhl
  clear hg hh hl e1
  go_enter Tryz.func82, Tryz.ntmps82
  go_wp2_with (fail)
  refine wp_loop_rounds 1 ?_
  rw [rounds_succ]
  go_wp2_with (fail)
  refine HC.out.mono ?_
  rintro e w' ⟨rfl, rfl⟩
  go_wp2_with (fail)
  go_ret
  exact ⟨rfl, rfl⟩
set_option maxRecDepth 100000 in
theorem versionOrder_less (x y : Ve) (w : World) (h : x.a < y.a) : Calls Tryz.prog 36 #[veV x, veV y] w fun e w' => e = .returned (.int .i64 (-1)) ∧ Below w.heap.size w w' := by
  obtain ⟨x0, x1, x2⟩ := x
  obtain ⟨y0, y1, y2⟩ := y
  simp only at h
  unfold veV
  simp only
  generalize hW : ((w.alloc (.cells #[.int .i64 x0, .int .i64 x1, .int .i64 x2] 29)).alloc (.cells #[.int .i64 y0, .int .i64 y1, .int .i64 y2] 29)) = W
  have hb : Below w.heap.size w W := hW ▸ (((Below.refl _ _).alloc (Nat.le_refl _) _).alloc (by simp) _)
  generalize hX : ((W.alloc (.cells #[.int .i64 x0, .int .i64 x1, .int .i64 x2] 3)).alloc (.cells #[.int .i64 y0, .int .i64 y1, .int .i64 y2] 3)) = X
  have hbX : Below W.heap.size W X := hX ▸ (((Below.refl _ _).alloc (Nat.le_refl _) _).alloc (by simp) _)
  have h1 : X.heap[W.heap.size]? = some (.cells #[.int .i64 x0, .int .i64 x1, .int .i64 x2] 3) := by
    rw [← hX, Below.heap_alloc _ _ _ (by simp)]; exact heap_new W _
  have h2 : X.heap[W.heap.size + 1]? = some (.cells #[.int .i64 y0, .int .i64 y1, .int .i64 y2] 3) := by
    rw [← hX]; have := heap_new (W.alloc (.cells #[.int .i64 x0, .int .i64 x1, .int .i64 x2] 3)) (.cells #[.int .i64 y0, .int .i64 y1, .int .i64 y2] 3); simpa using this
  have HS := Lib.hid (scmp_less x0 x1 x2 y0 y1 y2 W.heap.size (W.heap.size + 1) X h (cells_blkV h1 rfl) (cells_blkV h2 rfl))
  have HB := Lib.hid (hb.trans (hbX.mono hb.size))
  have hx : W.heap[w.heap.size]? = some (.cells #[.int .i64 x0, .int .i64 x1, .int .i64 x2] 29) := by
    rw [← hW, Below.heap_alloc _ _ _ (by simp)]; exact heap_new w _
  have hy : W.heap[w.heap.size + 1]? = some (.cells #[.int .i64 y0, .int .i64 y1, .int .i64 y2] 29) := by
    rw [← hW]; have := heap_new (w.alloc (.cells #[.int .i64 x0, .int .i64 x1, .int .i64 x2] 29)) (.cells #[.int .i64 y0, .int .i64 y1, .int .i64 y2] 29); simpa using this
  have p0 : W.cell? ⟨w.heap.size, 0, none⟩ = some (.int .i64 x0) := cell_of_blk hx rfl
  have p1 : W.cell? ⟨w.heap.size, 1, none⟩ = some (.int .i64 x1) := cell_of_blk hx rfl
  have p2 : W.cell? ⟨w.heap.size, 2, none⟩ = some (.int .i64 x2) := cell_of_blk hx rfl
  have q0 : W.cell? ⟨w.heap.size + 1, 0, none⟩ = some (.int .i64 y0) := cell_of_blk hy rfl
  have q1 : W.cell? ⟨w.heap.size + 1, 1, none⟩ = some (.int .i64 y1) := cell_of_blk hy rfl
  have q2 : W.cell? ⟨w.heap.size + 1, 2, none⟩ = some (.int .i64 y2) := cell_of_blk hy rfl
  have hs1 : w.heap.size < W.heap.size := by rw [← hW]; simp; omega
  have hs2 : w.heap.size + 1 < W.heap.size := by rw [← hW]; simp
  clear h1 h2 hb hbX hx hy h
  go_enter Tryz.func36, Tryz.ntmps36
  go_wp2_with (fail)
  refine HS.out.mono ?_
  rintro e w' ⟨rfl, rfl⟩
  go_wp2_with (fail)
  go_ret
  exact ⟨rfl, HB.out⟩
end Go.Proofs.YtidgicbhgnbidaaGreatDoor
