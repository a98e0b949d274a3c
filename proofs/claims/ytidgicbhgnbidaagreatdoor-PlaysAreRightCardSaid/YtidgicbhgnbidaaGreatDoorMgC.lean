/- Several texts in one: MyA, Rec, Del, MyB, MyD, MyQ. -/
import Derived.Test.YtidgicbhgnbidaaGreatDoorMgB
import Derived.StillTail
import Derived.Sort.Grow
import Derived.Test.YtidgicbhgnbidaaGreatDoorMgA
import Derived.Lib.SliceRun
import Derived.Deep.RegionLaw
import Derived.Shelf.Abstract
import Derived.Maps.OwnOps
import Derived.Laws.StructEq
import Derived.DeepKeys

/- Small functions on versions: Compare, byCost, number, numbered, base.Version, versionFault, whole, VersionOrder. -/
namespace Go.Proofs.YtidgicbhgnbidaaGreatDoor
open Go.RowKit Go.Sort

def veV (v : Ve) : Value := .agg #[.int .i64 v.a, .int .i64 v.b, .int .i64 v.c]
def veC (v : Ve) : List Value := [.int .i64 v.a, .int .i64 v.b, .int .i64 v.c]
def veB (v : Ve) : Obj := .cells #[.int .i64 v.a, .int .i64 v.b, .int .i64 v.c] 29 (0, 0)
theorem veC_len (v : Ve) : (veC v).length = 3 := rfl
theorem veC_one (v : Ve) : ∀ u ∈ veC v, u.oneCell' = true := by
  intro u hu
  simp only [veC, List.mem_cons, List.not_mem_nil, or_false] at hu
  rcases hu with h | h | h <;> rw [h] <;> rfl
/-- A cost: steps, size. -/
abbrev Co := Int × Int
def coV (c : Co) : Value := .agg #[.int .i64 c.1, .int .i64 c.2]
def coB (c : Co) : Obj := .cells #[.int .i64 c.1, .int .i64 c.2] 99 (0, 0)
def cmpC (x y : Co) : Int := orI [cmpI x.1 y.1, cmpI x.2 y.2]
theorem cmpC_lt (x y : Co) : cmpC x y < 0 ↔ (x.1 < y.1 ∨ x.1 = y.1 ∧ x.2 < y.2) := by
  unfold cmpC cmpI
  simp only [orI]
  repeat' split
  all_goals constructor <;> intro h <;> omega
theorem grow_below (w : World) (q : Nat) (os : Array Obj) : Below w.heap.size w (grow (w.drewN q) os) := by
  refine ⟨rfl, rfl, rfl, by simp [grow, World.drewN], fun b hb => ?_⟩
  simp [grow, World.drewN, Array.getElem?_append_left hb]
theorem cells_blkV {V : World} {b : Nat} {cs : Array Value} {t : TypeId} {f : Nat × Nat} {l : List Value} (h : V.heap[b]? = some (.cells cs t f)) (hl : cs.toList = l) : Cells V b 0 l := by
  intro j u hj
  rw [Nat.zero_add]
  exact cell_of_blk h (by rw [← hl] at hj; simpa using hj)
set_option maxRecDepth 100000 in
set_option maxHeartbeats 2000000 in
theorem compareV_grow (x y : Ve) (w : World) : Calls Tryz.prog 14 #[veV x, veV y] w fun e w' => e = .returned (.int .i64 (cmpV x y)) ∧ ∃ q os', w' = grow (w.drewN q) os' := by
  have HC0 := Lib.hid (fun V => compare_any x.a y.a V)
  have HC1 := Lib.hid (fun V => compare_any x.b y.b V)
  have HC2 := Lib.hid (fun V => compare_any x.c y.c V)
  unfold veV cmpV
  generalize cmpI x.a y.a = r0 at HC0 ⊢
  generalize cmpI x.b y.b = r1 at HC1 ⊢
  generalize cmpI x.c y.c = r2 at HC2 ⊢
  obtain ⟨x0, x1, x2⟩ := x
  obtain ⟨y0, y1, y2⟩ := y
  simp only at HC0 HC1 HC2 ⊢
  go_enter Tryz.func14, Tryz.ntmps14
  go_wp2_with (fail)
  generalize hW : ((w.alloc (.cells #[.int .i64 x0, .int .i64 x1, .int .i64 x2] 29)).alloc (.cells #[.int .i64 y0, .int .i64 y1, .int .i64 y2] 29)) = W
  have hG : W = grow (w.drewN 0) #[.cells #[.int .i64 x0, .int .i64 x1, .int .i64 x2] 29, .cells #[.int .i64 y0, .int .i64 y1, .int .i64 y2] 29] := by rw [← hW, alloc_eq_grow, alloc_eq_grow, grow_grow]; rfl
  have hx : W.heap[w.heap.size]? = some (.cells #[.int .i64 x0, .int .i64 x1, .int .i64 x2] 29) := by
    rw [← hW, Below.heap_alloc _ _ _ (by simp)]; exact heap_new w _
  have hy : W.heap[w.heap.size + 1]? = some (.cells #[.int .i64 y0, .int .i64 y1, .int .i64 y2] 29) := by
    rw [← hW]; have := heap_new (w.alloc (.cells #[.int .i64 x0, .int .i64 x1, .int .i64 x2] 29)) (.cells #[.int .i64 y0, .int .i64 y1, .int .i64 y2] 29); simpa using this
  have p0 : W.cell? ⟨w.heap.size, 0, none⟩ = some (.int .i64 x0) := cell_of_blk hx rfl
  have p1 : W.cell? ⟨w.heap.size, 1, none⟩ = some (.int .i64 x1) := cell_of_blk hx rfl
  have p2 : W.cell? ⟨w.heap.size, 2, none⟩ = some (.int .i64 x2) := cell_of_blk hx rfl
  have q0 : W.cell? ⟨w.heap.size + 1, 0, none⟩ = some (.int .i64 y0) := cell_of_blk hy rfl
  have q1 : W.cell? ⟨w.heap.size + 1, 1, none⟩ = some (.int .i64 y1) := cell_of_blk hy rfl
  have q2 : W.cell? ⟨w.heap.size + 1, 2, none⟩ = some (.int .i64 y2) := cell_of_blk hy rfl
  have HG := Lib.hid hG
  clear hW hx hy hG
  refine wp_region_still_tail 15 (by kernel_rfl) (by kernel_rfl) ?_
  simp only [List.take_succ_cons, List.take_zero, List.drop_succ_cons, List.drop_zero]
  change wpStill _ _ W.drew _ _ _
  repeat still_step
  still_call (flip_ (HC0.out _))
  repeat still_step
  still_call (flip_ (HC1.out _))
  repeat still_step
  still_call (flip_ (HC2.out _))
  try refine wpStill_nil ?_
  have hsz' : W.drew.heap.size = W.heap.size := rfl
  go_wp2_with (fail)
  have hcs : Cells (W.alloc (.cells #[.int .i64 r0, .int .i64 r1, .int .i64 r2] 3)).drew W.heap.size 0 ([r0, r1, r2].map (Value.int .i64)) := Cells.new W #[.int .i64 r0, .int .i64 r1, .int .i64 r2] 3 (0, 0) _ rfl
  refine (or_any [r0, r1, r2] 3 3 W.heap.size _ rfl (by omega) hcs).mono ?_
  rintro e w' ⟨rfl, rfl⟩
  go_wp2_with (fail)
  go_ret
  refine ⟨rfl, 1, #[.cells #[.int .i64 x0, .int .i64 x1, .int .i64 x2] 29, .cells #[.int .i64 y0, .int .i64 y1, .int .i64 y2] 29] ++ #[.cells #[.int .i64 r0, .int .i64 r1, .int .i64 r2] 3], ?_⟩
  rw [HG.out, alloc_eq_grow, grow_grow]
  rfl
theorem compareV_any (x y : Ve) (w : World) : Calls Tryz.prog 14 #[veV x, veV y] w fun e w' => e = .returned (.int .i64 (cmpV x y)) ∧ Below w.heap.size w w' := by
  refine (compareV_grow x y w).mono ?_
  rintro e w' ⟨rfl, q, os, rfl⟩
  exact ⟨rfl, grow_below w q os⟩
set_option maxRecDepth 100000 in
set_option maxHeartbeats 2000000 in
theorem byCost_any (x y : Co) (w : World) : Calls Tryz.prog 84 #[coV x, coV y] w fun e w' => e = .returned (.int .i64 (cmpC x y)) ∧ Below w.heap.size w w' := by
  have HC0 := Lib.hid (fun V => compare_any x.1 y.1 V)
  have HC1 := Lib.hid (fun V => compare_any x.2 y.2 V)
  unfold coV cmpC
  generalize cmpI x.1 y.1 = r0 at HC0 ⊢
  generalize cmpI x.2 y.2 = r1 at HC1 ⊢
  obtain ⟨x0, x1⟩ := x
  obtain ⟨y0, y1⟩ := y
  simp only at HC0 HC1 ⊢
  go_enter Tryz.func84, Tryz.ntmps84
  go_wp2_with (fail)
  generalize hW : ((w.alloc (.cells #[.int .i64 x0, .int .i64 x1] 99)).alloc (.cells #[.int .i64 y0, .int .i64 y1] 99)) = W
  have hG : Below w.heap.size w W := hW ▸ (((Below.refl _ _).alloc (Nat.le_refl _) _).alloc (by simp) _)
  have hx : W.heap[w.heap.size]? = some (.cells #[.int .i64 x0, .int .i64 x1] 99) := by
    rw [← hW, Below.heap_alloc _ _ _ (by simp)]; exact heap_new w _
  have hy : W.heap[w.heap.size + 1]? = some (.cells #[.int .i64 y0, .int .i64 y1] 99) := by
    rw [← hW]; have := heap_new (w.alloc (.cells #[.int .i64 x0, .int .i64 x1] 99)) (.cells #[.int .i64 y0, .int .i64 y1] 99); simpa using this
  have p0 : W.cell? ⟨w.heap.size, 0, none⟩ = some (.int .i64 x0) := cell_of_blk hx rfl
  have p1 : W.cell? ⟨w.heap.size, 1, none⟩ = some (.int .i64 x1) := cell_of_blk hx rfl
  have q0 : W.cell? ⟨w.heap.size + 1, 0, none⟩ = some (.int .i64 y0) := cell_of_blk hy rfl
  have q1 : W.cell? ⟨w.heap.size + 1, 1, none⟩ = some (.int .i64 y1) := cell_of_blk hy rfl
  have HG := Lib.hid hG
  clear hW hx hy hG
  refine wp_region_still_tail 10 (by kernel_rfl) (by kernel_rfl) ?_
  simp only [List.take_succ_cons, List.take_zero, List.drop_succ_cons, List.drop_zero]
  change wpStill _ _ W.drew _ _ _
  repeat still_step
  still_call (flip_ (HC0.out _))
  repeat still_step
  still_call (flip_ (HC1.out _))
  try refine wpStill_nil ?_
  have hsz' : W.drew.heap.size = W.heap.size := rfl
  go_wp2_with (fail)
  have hcs : Cells (W.alloc (.cells #[.int .i64 r0, .int .i64 r1] 3)).drew W.heap.size 0 ([r0, r1].map (Value.int .i64)) := Cells.new W #[.int .i64 r0, .int .i64 r1] 3 (0, 0) _ rfl
  refine (or_any [r0, r1] 2 2 W.heap.size _ rfl (by omega) hcs).mono ?_
  rintro e w' ⟨rfl, rfl⟩
  have HF := Lib.hid (show Below w.heap.size w (W.alloc (.cells #[.int .i64 r0, .int .i64 r1] 3)).drew from (HG.out.alloc HG.out.size _).drew)
  go_wp2_with (fail)
  go_ret
  exact ⟨rfl, HF.out⟩
set_option maxRecDepth 100000 in
theorem number_any (v : Ve) (w : World) (h : VeOk v) : Calls Tryz.prog 43 #[veV v] w fun e w' => e = .returned (.int .i64 (vn v)) ∧ Below w.heap.size w w' := by
  obtain ⟨⟨a1, a2⟩, ⟨b1, b2⟩, ⟨c1, c2⟩⟩ := h
  obtain ⟨a, b, c⟩ := v
  simp only at a1 a2 b1 b2 c1 c2
  unfold veV vn
  simp only
  have e1 : IntKind.i64.wrap (a * 10000) = a * 10000 := by rw [IntKind.wrap_i64]; omega
  have e2 : IntKind.i64.wrap (a * 10000 + b) = a * 10000 + b := by rw [IntKind.wrap_i64]; omega
  have e3 : IntKind.i64.wrap ((a * 10000 + b) * 10000) = (a * 10000 + b) * 10000 := by rw [IntKind.wrap_i64]; omega
  have e4 : IntKind.i64.wrap ((a * 10000 + b) * 10000 + c) = (a * 10000 + b) * 10000 + c := by rw [IntKind.wrap_i64]; omega
  go_enter Tryz.func43, Tryz.ntmps43
  go_wp2_with (fail)
  go_ret
  exact ⟨rfl, (Below.refl _ _).alloc (Nat.le_refl _) _⟩
theorem setblkV {w : World} {g j : Nat} {cs : Array Value} {t : TypeId} {f : Nat × Nat} (v : Value) (h : w.heap[g]? = some (.cells cs t f)) : (w.setCell ⟨g, j, none⟩ v).heap[g]? = some (.cells (cs.setIfInBounds j v) t f) := by
  simp [World.setCell, Array.getElem?_modify, h]
theorem setcV (V : World) (b j : Nat) (v : Value) (b' : Nat) (hb : b' ≠ b) : (V.setCell ⟨b, j, none⟩ v).heap[b']? = V.heap[b']? := Below.heap_setCell _ _ _ _ hb
/-- A version that is put into a new block, cell by cell. -/
theorem ve_put (w : World) (x y z : Value) : ((((w.alloc (.cells #[.int .i64 0, .int .i64 0, .int .i64 0] 29)).setCell ⟨w.heap.size, 0, none⟩ x).setCell ⟨w.heap.size, 1, none⟩ y).setCell ⟨w.heap.size, 2, none⟩ z).heap[w.heap.size]? = some (.cells #[x, y, z] 29 (0, 0)) ∧ Below w.heap.size w ((((w.alloc (.cells #[.int .i64 0, .int .i64 0, .int .i64 0] 29)).setCell ⟨w.heap.size, 0, none⟩ x).setCell ⟨w.heap.size, 1, none⟩ y).setCell ⟨w.heap.size, 2, none⟩ z) := by
  have h0 := heap_new w (.cells #[.int .i64 0, .int .i64 0, .int .i64 0] 29 (0, 0))
  have h1 : ((w.alloc (.cells #[.int .i64 0, .int .i64 0, .int .i64 0] 29)).setCell ⟨w.heap.size, 0, none⟩ x).heap[w.heap.size]? = some (.cells #[x, .int .i64 0, .int .i64 0] 29 (0, 0)) := (setblkV (j := 0) x h0).trans rfl
  have h2 : (((w.alloc (.cells #[.int .i64 0, .int .i64 0, .int .i64 0] 29)).setCell ⟨w.heap.size, 0, none⟩ x).setCell ⟨w.heap.size, 1, none⟩ y).heap[w.heap.size]? = some (.cells #[x, y, .int .i64 0] 29 (0, 0)) := (setblkV (j := 1) y h1).trans rfl
  refine ⟨(setblkV (j := 2) z h2).trans rfl, ?_⟩
  have hb : Below w.heap.size w (w.alloc (.cells #[.int .i64 0, .int .i64 0, .int .i64 0] 29)) := (Below.refl _ _).alloc (Nat.le_refl _) _
  exact ((hb.setCell (Nat.le_refl _) _).setCell (Nat.le_refl _) _).setCell (Nat.le_refl _) _
set_option maxRecDepth 100000 in
theorem numbered_any (n : Int) (w : World) (h : 0 ≤ n ∧ n ≤ 999999999999) : Calls Tryz.prog 44 #[.int .i64 n] w fun e w' => e = .returned (veV (vd n)) ∧ Below w.heap.size w w' := by
  obtain ⟨h0, h1⟩ := h
  have t1 : n.tdiv 10000 = n / 10000 := Int.tdiv_eq_ediv_of_nonneg h0
  have t2 : (n / 10000).tdiv 10000 = n / 10000 / 10000 := Int.tdiv_eq_ediv_of_nonneg (by omega)
  have t3 : (n / 10000).tmod 10000 = n / 10000 % 10000 := Int.tmod_eq_emod_of_nonneg (by omega)
  have t4 : n.tmod 10000 = n % 10000 := Int.tmod_eq_emod_of_nonneg h0
  have e1 : IntKind.i64.wrap (n / 10000) = n / 10000 := by rw [IntKind.wrap_i64]; omega
  have e2 : IntKind.i64.wrap (n / 10000 / 10000) = n / 10000 / 10000 := by rw [IntKind.wrap_i64]; omega
  have e3 : IntKind.i64.wrap (n / 10000 % 10000) = n / 10000 % 10000 := by rw [IntKind.wrap_i64]; omega
  have e4 : IntKind.i64.wrap (n % 10000) = n % 10000 := by rw [IntKind.wrap_i64]; omega
  unfold vd veV
  simp only
  have HP := Lib.hid (And.intro (heap_new w (.cells #[.int .i64 (n / 10000 / 10000), .int .i64 (n / 10000 % 10000), .int .i64 (n % 10000)] 29)) ((Below.refl w.heap.size w).alloc (Nat.le_refl _) (.cells #[.int .i64 (n / 10000 / 10000), .int .i64 (n / 10000 % 10000), .int .i64 (n % 10000)] 29)))
  go_enter Tryz.func44, Tryz.ntmps44
  go_wp2_with (fail)
  have r0 := cell_of_blk (j := 0) HP.out.1 rfl
  have r1 := cell_of_blk (j := 1) HP.out.1 rfl
  have r2 := cell_of_blk (j := 2) HP.out.1 rfl
  refine bodyPost_ret (v := .agg #[.int .i64 (n / 10000 / 10000), .int .i64 (n / 10000 % 10000), .int .i64 (n % 10000)]) (by simp [results, Tryz.results44, go_sem, r0, r1, r2]) rfl ?_
  exact ⟨rfl, HP.out.2⟩
set_option maxRecDepth 100000 in
theorem version_any (v : Ve) (w : World) (h : VeOk v) : Calls Tryz.prog 70 #[veV v] w fun e w' => e = .returned (.bool true) ∧ Below w.heap.size w w' := by
  obtain ⟨⟨a1, a2⟩, ⟨b1, b2⟩, ⟨c1, c2⟩⟩ := h
  obtain ⟨a, b, c⟩ := v
  simp only at a1 a2 b1 b2 c1 c2
  unfold veV
  simp only
  go_enter Tryz.func70, Tryz.ntmps70
  go_wp2_with (go_at_call 62; refine (out_no _ _ _ _ (by omega) (by omega)).mono ?_; rintro e w' ⟨rfl, rfl⟩)
  go_ret
  exact ⟨rfl, (Below.refl _ _).alloc (Nat.le_refl _) _⟩
set_option maxRecDepth 100000 in
theorem versionFault_any (v : Ve) (w : World) (h : VeOk v) : Calls Tryz.prog 83 #[veV v] w fun e w' => e = .returned (.int .i64 0) ∧ Below w.heap.size w w' := by
  obtain ⟨w1, e1⟩ : ∃ V : World, V = w.alloc (.cells #[.int .i64 v.a, .int .i64 v.b, .int .i64 v.c] 29) := ⟨_, rfl⟩
  have hb1 : Below w.heap.size w w1 := by rw [e1]; exact (Below.refl _ _).alloc (Nat.le_refl _) _
  have hg1 : w1.heap[w.heap.size]? = some (veB v) := by rw [e1]; exact heap_new w _
  have HB := Lib.hid hb1
  have HV := Lib.hid (version_any v w1 h)
  have k0 : w1.cell? ⟨w.heap.size, 0, none⟩ = some (.int .i64 v.a) := cell_of_blk hg1 rfl
  have k1 : w1.cell? ⟨w.heap.size, 1, none⟩ = some (.int .i64 v.b) := cell_of_blk hg1 rfl
  have k2 : w1.cell? ⟨w.heap.size, 2, none⟩ = some (.int .i64 v.c) := cell_of_blk hg1 rfl
  unfold veV at HV ⊢
  clear hb1 hg1 h
  go_enter Tryz.func83, Tryz.ntmps83
  go_upto_region 1 with (fail)
  rw [← e1]
  clear e1
  go_wp2_with (fail)
  refine HV.out.mono ?_
  rintro e w2 ⟨rfl, hb2⟩
  have HB2 := Lib.hid (HB.out.trans (hb2.mono HB.out.size))
  clear hb2
  go_wp2_with (fail)
  go_ret
  exact ⟨rfl, HB2.out⟩
set_option maxRecDepth 100000 in
theorem whole_any (n : Int) (w : World) : Calls Tryz.prog 35 #[.int .i64 n] w fun e w' => e = .returned (veV ⟨n, 0, 0⟩) ∧ Below w.heap.size w w' := by
  have HP := Lib.hid (And.intro (heap_new w (.cells #[.int .i64 n, .int .i64 0, .int .i64 0] 29)) ((Below.refl w.heap.size w).alloc (Nat.le_refl _) (.cells #[.int .i64 n, .int .i64 0, .int .i64 0] 29)))
  go_enter Tryz.func35, Tryz.ntmps35
  go_wp2_with (fail)
  have r0 := cell_of_blk (j := 0) HP.out.1 rfl
  have r1 := cell_of_blk (j := 1) HP.out.1 rfl
  have r2 := cell_of_blk (j := 2) HP.out.1 rfl
  refine bodyPost_ret (v := .agg #[.int .i64 n, .int .i64 0, .int .i64 0]) (by simp [results, Tryz.results35, go_sem, r0, r1, r2]) rfl ?_
  exact ⟨rfl, HP.out.2⟩
set_option maxRecDepth 100000 in
theorem scmp_less (a b c d e f : Int) (g h : Nat) (w : World) (hl : a < d) (hg : Cells w g 0 ([a, b, c].map (Value.int .i64))) (hh : Cells w h 0 ([d, e, f].map (Value.int .i64))) :
    Calls Tryz.prog 82 #[.slice (some ⟨g, 0, none⟩) 3 3, .slice (some ⟨h, 0, none⟩) 3 3] w fun e w' => e = .returned (.int .i64 (-1)) ∧ w = w' := by
  have a0 : w.cell? ⟨g, 0, none⟩ = some (.int .i64 a) := by have := hg 0 (.int .i64 a) rfl; simpa using this
  have d0 : w.cell? ⟨h, 0, none⟩ = some (.int .i64 d) := by have := hh 0 (.int .i64 d) rfl; simpa using this
  have HC := Lib.hid (compare_any a d w)
  have e1 : cmpI a d = -1 := by unfold cmpI; rw [if_pos hl]
  rw [e1] at HC
  have hgl := World.block_lt_of_cell? w _ a0
  have hhl := World.block_lt_of_cell? w _ d0
  simp only at hgl hhl
  clear hg hh hl e1
  go_enter Tryz.func82, Tryz.ntmps82
  go_wp2_with (fail)
  refine wp_loop_rounds 1 ?_
  rw [rounds_succ]
  go_wp2_with (fail)
  refine HC.out.mono ?_
  rintro e w' ⟨rfl, rfl⟩
  go_wp2_with (fail)
  go_ret
  exact ⟨rfl, rfl⟩
set_option maxRecDepth 100000 in
theorem versionOrder_less (x y : Ve) (w : World) (h : x.a < y.a) : Calls Tryz.prog 36 #[veV x, veV y] w fun e w' => e = .returned (.int .i64 (-1)) ∧ Below w.heap.size w w' := by
  obtain ⟨x0, x1, x2⟩ := x
  obtain ⟨y0, y1, y2⟩ := y
  simp only at h
  unfold veV
  simp only
  generalize hW : ((w.alloc (.cells #[.int .i64 x0, .int .i64 x1, .int .i64 x2] 29)).alloc (.cells #[.int .i64 y0, .int .i64 y1, .int .i64 y2] 29)) = W
  have hb : Below w.heap.size w W := hW ▸ (((Below.refl _ _).alloc (Nat.le_refl _) _).alloc (by simp) _)
  generalize hX : ((W.alloc (.cells #[.int .i64 x0, .int .i64 x1, .int .i64 x2] 3)).alloc (.cells #[.int .i64 y0, .int .i64 y1, .int .i64 y2] 3)) = X
  have hbX : Below W.heap.size W X := hX ▸ (((Below.refl _ _).alloc (Nat.le_refl _) _).alloc (by simp) _)
  have h1 : X.heap[W.heap.size]? = some (.cells #[.int .i64 x0, .int .i64 x1, .int .i64 x2] 3) := by
    rw [← hX, Below.heap_alloc _ _ _ (by simp)]; exact heap_new W _
  have h2 : X.heap[W.heap.size + 1]? = some (.cells #[.int .i64 y0, .int .i64 y1, .int .i64 y2] 3) := by
    rw [← hX]; have := heap_new (W.alloc (.cells #[.int .i64 x0, .int .i64 x1, .int .i64 x2] 3)) (.cells #[.int .i64 y0, .int .i64 y1, .int .i64 y2] 3); simpa using this
  have HS := Lib.hid (scmp_less x0 x1 x2 y0 y1 y2 W.heap.size (W.heap.size + 1) X h (cells_blkV h1 rfl) (cells_blkV h2 rfl))
  have HB := Lib.hid (hb.trans (hbX.mono hb.size))
  have hx : W.heap[w.heap.size]? = some (.cells #[.int .i64 x0, .int .i64 x1, .int .i64 x2] 29) := by
    rw [← hW, Below.heap_alloc _ _ _ (by simp)]; exact heap_new w _
  have hy : W.heap[w.heap.size + 1]? = some (.cells #[.int .i64 y0, .int .i64 y1, .int .i64 y2] 29) := by
    rw [← hW]; have := heap_new (w.alloc (.cells #[.int .i64 x0, .int .i64 x1, .int .i64 x2] 29)) (.cells #[.int .i64 y0, .int .i64 y1, .int .i64 y2] 29); simpa using this
  have p0 : W.cell? ⟨w.heap.size, 0, none⟩ = some (.int .i64 x0) := cell_of_blk hx rfl
  have p1 : W.cell? ⟨w.heap.size, 1, none⟩ = some (.int .i64 x1) := cell_of_blk hx rfl
  have p2 : W.cell? ⟨w.heap.size, 2, none⟩ = some (.int .i64 x2) := cell_of_blk hx rfl
  have q0 : W.cell? ⟨w.heap.size + 1, 0, none⟩ = some (.int .i64 y0) := cell_of_blk hy rfl
  have q1 : W.cell? ⟨w.heap.size + 1, 1, none⟩ = some (.int .i64 y1) := cell_of_blk hy rfl
  have q2 : W.cell? ⟨w.heap.size + 1, 2, none⟩ = some (.int .i64 y2) := cell_of_blk hy rfl
  have hs1 : w.heap.size < W.heap.size := by rw [← hW]; simp; omega
  have hs2 : w.heap.size + 1 < W.heap.size := by rw [← hW]; simp
  clear h1 h2 hb hbX hx hy h
  go_enter Tryz.func36, Tryz.ntmps36
  go_wp2_with (fail)
  refine HS.out.mono ?_
  rintro e w' ⟨rfl, rfl⟩
  go_wp2_with (fail)
  go_ret
  exact ⟨rfl, HB.out⟩
end Go.Proofs.YtidgicbhgnbidaaGreatDoor

/- Rows of records: plain lemmas on memory; no program in sight. -/
namespace Go.Proofs.YtidgicbhgnbidaaGreatDoor
open Go.RowKit

/-- The cells of records, each of k cells. -/
def recs {α : Type} (f : α → List Value) (l : List α) : List Value := l.flatMap f
theorem recs_nil {α : Type} (f : α → List Value) : recs f [] = [] := rfl
theorem recs_append {α : Type} (f : α → List Value) (a b : List α) : recs f (a ++ b) = recs f a ++ recs f b := by simp [recs]
theorem recs_snoc {α : Type} (f : α → List Value) (a : List α) (x : α) : recs f (a ++ [x]) = recs f a ++ f x := by simp [recs]
section
variable {α : Type} {f : α → List Value} {k : Nat}
theorem recs_length (hf : ∀ x, (f x).length = k) (l : List α) : (recs f l).length = l.length * k := by
  induction l with
  | nil => simp [recs]
  | cons x l ih => simp only [recs, List.flatMap_cons, List.length_append, List.length_cons] at ih ⊢; rw [ih, hf, Nat.succ_mul]; omega
theorem recs_get (hf : ∀ x, (f x).length = k) (l : List α) (i : Nat) (x : α) (h : l[i]? = some x) (j : Nat) (hj : j < k) : (recs f l)[i * k + j]? = (f x)[j]? := by
  induction l generalizing i with
  | nil => simp at h
  | cons y l ih =>
    cases i with
    | zero =>
      simp only [List.getElem?_cons_zero, Option.some.injEq] at h
      subst h
      simp only [recs, List.flatMap_cons]
      rw [List.getElem?_append_left (by rw [hf]; omega)]
      simp
    | succ i =>
      simp only [List.getElem?_cons_succ] at h
      have := ih i h
      simp only [recs, List.flatMap_cons] at this ⊢
      rw [List.getElem?_append_right (by rw [hf, Nat.succ_mul]; omega), ← this, hf]
      congr 1
      rw [Nat.succ_mul]; omega
theorem rec_cell (hf : ∀ x, (f x).length = k) {w : World} {b o : Nat} {l : List α} (h : Cells w b o (recs f l)) (i : Nat) (x : α) (hx : l[i]? = some x) (j : Nat) (u : Value) (hj : (f x)[j]? = some u) : w.cell? ⟨b, o + i * k + j, none⟩ = some u := by
  have hjk : j < k := by have := (List.getElem?_eq_some_iff.1 hj).1; rw [hf] at this; exact this
  have := h (i * k + j) u ((recs_get hf l i x hx j hjk).trans hj)
  rwa [← Nat.add_assoc] at this
theorem Row.posR (hf : ∀ x, (f x).length = k) (hk : 0 < k) {w : World} {B : Nat} {A : Option Addr} {l : List α} (h : Row w B A (recs f l)) (hl : 0 < l.length) : ∃ b o, A = some ⟨b, o, none⟩ ∧ b < B ∧ Cells w b o (recs f l) := by
  rcases h with h | h
  · have := recs_length hf l
    rw [h] at this
    simp only [List.length_nil] at this
    have := Nat.mul_pos hl hk
    omega
  · exact h
theorem recs_one (h1 : ∀ x, ∀ u ∈ f x, u.oneCell' = true) (l : List α) : ∀ u ∈ recs f l, u.oneCell' = true := by
  intro u hu
  simp only [recs, List.mem_flatMap] at hu
  obtain ⟨x, _, hx⟩ := hu
  exact h1 x u hx
theorem recs_drop (hf : ∀ x, (f x).length = k) (l : List α) (i : Nat) : (recs f l).drop (i * k) = recs f (l.drop i) := by
  induction l generalizing i with
  | nil => simp [recs]
  | cons y l ih =>
    cases i with
    | zero => simp
    | succ i =>
      simp only [recs, List.flatMap_cons, List.drop_succ_cons] at ih ⊢
      rw [Nat.succ_mul, Nat.add_comm, ← List.drop_drop, List.drop_left' (hf y), ih]
end
theorem Cells.drop {w : World} {b o : Nat} {xs : List Value} (h : Cells w b o xs) (i : Nat) : Cells w b (o + i) (xs.drop i) := by
  intro j u hu
  rw [List.getElem?_drop] at hu
  have := h (i + j) u hu
  rwa [← Nat.add_assoc] at this
theorem Cells.take {w : World} {b o : Nat} {xs : List Value} (h : Cells w b o xs) (i : Nat) : Cells w b o (xs.take i) := by
  intro j u hu
  rw [List.getElem?_take] at hu
  split at hu
  · exact h j u hu
  · cases hu
/-- A row that is owned, read from an element on. -/
theorem Row.dropR {α : Type} {f : α → List Value} {k : Nat} (hf : ∀ x, (f x).length = k) {w : World} {B b o : Nat} {l : List α} (h : Cells w b o (recs f l)) (hb : b < B) (i : Nat) : Row w B (some ⟨b, o + i * k, none⟩) (recs f (l.drop i)) := by
  have := h.drop (i * k)
  rw [recs_drop hf] at this
  exact .inr ⟨b, _, rfl, hb, this⟩
theorem own_cap {w : World} {base : Nat} {e : TypeId} {size n : Nat} {A : Option Addr} {c : Nat} {xs : List Value} (h : w.ownsRow base e size (.slice A n c) n xs) : n ≤ c := by
  rcases h.2 with ⟨hv, hn⟩ | ⟨g, cap, cur, hv, _, _, hc, _⟩
  · omega
  · injection hv with _ _ hc'
    omega
theorem own_two {w : World} {base : Nat} {e : TypeId} {size n : Nat} {A : Option Addr} {c : Nat} {xs : List Value} (h : w.ownsRow base e size (.slice A n c) n xs) : (A = none ∧ n = 0 ∧ c = 0) ∨ ∃ g, A = some ⟨g, 0, none⟩ ∧ base ≤ g ∧ g < w.heap.size := by
  rcases h.2 with ⟨hv, hn⟩ | ⟨g, cap, cur, hv, hb, hh, hc, _⟩
  · injection hv with h1 h2 h3
    exact .inl ⟨h1, hn, h3⟩
  · injection hv with h1 h2 h3
    exact .inr ⟨g, h1, hb, (Array.getElem?_eq_some_iff.1 hh).1⟩
end Go.Proofs.YtidgicbhgnbidaaGreatDoor

/- What a row holds behind stores of many cells, and behind clear; no program in sight. -/
namespace Go.Proofs.YtidgicbhgnbidaaGreatDoor
open Go.RowKit

theorem set_take_drop (xs r : List Value) (o : Nat) (v : Value) (h : o < xs.length) : (xs.set o v).take (o + 1) ++ r ++ (xs.set o v).drop (o + 1 + r.length) = xs.take o ++ v :: r ++ xs.drop (o + (v :: r).length) := by
  rw [List.set_eq_take_append_cons_drop, if_pos h]
  have h1 : (xs.take o).length = o := by simp; omega
  rw [List.take_append, List.drop_append, h1]
  have e1 : (xs.take o).take (o + 1) = xs.take o := by rw [List.take_take]; congr 1; omega
  have e2 : (xs.take o).drop (o + 1 + r.length) = [] := List.drop_eq_nil_of_le (by omega)
  rw [e1, e2, show o + 1 - o = 1 by omega, show o + 1 + r.length - o = r.length + 1 by omega]
  simp only [List.take_succ_cons, List.take_zero, List.drop_succ_cons, List.drop_drop, List.nil_append, List.append_assoc, List.cons_append, List.length_cons]
  rw [show o + 1 + r.length = o + (r.length + 1) by omega]
theorem own_setCells {base : Nat} {e : TypeId} {size g n cap : Nat} : ∀ (vs : List Value) (o : Nat) (w : World) (xs : List Value), w.ownsRow base e size (.slice (some ⟨g, 0, none⟩) n cap) n xs → o + vs.length ≤ xs.length →
    (w.setCells g o vs).ownsRow base e size (.slice (some ⟨g, 0, none⟩) n cap) n (xs.take o ++ vs ++ xs.drop (o + vs.length)) ∧ w.grownBy (w.setCells g o vs) (some g)
  | [], o, w, xs, h, _ => by simpa [World.setCells] using ⟨h, grown_refl w _⟩
  | v :: r, o, w, xs, h, hl => by
    simp only [List.length_cons] at hl
    obtain ⟨h1, h2⟩ := h.stored o v
    obtain ⟨h3, h4⟩ := own_setCells r (o + 1) _ _ h1 (by rw [List.length_set]; omega)
    rw [set_take_drop xs r o v (by omega)] at h3
    exact ⟨h3, grown_trans h2 h4⟩
theorem own_shrink {w : World} {base : Nat} {e : TypeId} {size g n cap : Nat} {xs : List Value} (h : w.ownsRow base e size (.slice (some ⟨g, 0, none⟩) n cap) n xs) (m : Nat) (hm : m ≤ n) :
    w.ownsRow base e size (.slice (some ⟨g, 0, none⟩) m cap) m (xs.take (m * size)) := by
  have hle : m * size ≤ n * size := Nat.mul_le_mul_right _ hm
  refine ⟨by rw [List.length_take, h.1]; omega, ?_⟩
  rcases h.2 with ⟨hv, _⟩ | ⟨g', cap', cur, hv, hb, hh, hc, hcm, hcs, ht⟩
  · injection hv with h1 _; cases h1
  · injection hv with h1 h2 h3
    injection h1 with h1
    injection h1 with h1 _
    subst h1 h3
    refine .inr ⟨g, cap, cur, rfl, hb, hh, by omega, hcm, hcs, ?_⟩
    rw [← ht, List.take_take]
    congr 1; omega
theorem run_clear_one {P : Program} (w : World) (t e ty : TypeId) (z : Value) (zs : List Value) (ht : P.underlying t = some (.slice e)) (hv : ∀ w, (zeroValue e).run P w = .ok z w) (hz : z.cells.toList = zs) (h1 : ∀ u ∈ zs, u.oneCell' = true) (b o c : Nat)
    (hc : ∀ j, j < zs.length → (w.cell? ⟨b, o + j, none⟩).isSome = true) (hf : ∀ j, j < zs.length → w.frozen? ⟨b, o + j, none⟩ = false) :
    (Builtin.clear_ #[t] ty #[.slice (some ⟨b, o, none⟩) 1 c]).run P w = .ok (.tuple #[]) (w.setCells b o zs) := by
  have hzc : (Builtin.zeroCells z.cells 1).toList = zs := by
    rw [← hz]
    simp [Builtin.zeroCells]
    apply List.ext_getElem
    · simp
    · intro i h1 h2
      simp at h1 h2
      simp [Nat.mod_eq_of_lt h2, getElem!_pos z.cells i h2]
  have hst := run_storeCells_cells (P := P) b o zs 0 w (by simpa using hc) (by simpa using hf) h1
  simp only [Nat.add_zero] at hst
  simp [Builtin.clear_, run_underlying ht, hv, hzc, hst]
/-- An element less: what stood behind it comes up, and nothing is left at the end. -/
theorem del_cells {α : Type} {f : α → List Value} {k : Nat} (hf : ∀ x, (f x).length = k) (l : List α) (i : Nat) (hi : i < l.length) (zs : List Value) :
    let a := (recs f l).take (i * k) ++ recs f (l.drop (i + 1)) ++ (recs f l).drop (i * k + (recs f (l.drop (i + 1))).length)
    (a.take ((l.length - 1) * k) ++ zs ++ a.drop ((l.length - 1) * k + zs.length)).take ((l.length - 1) * k) = recs f (l.eraseIdx i) := by
  intro a
  have hl := recs_length hf l
  have hd := recs_length hf (l.drop (i + 1))
  rw [List.length_drop] at hd
  have e1 : (recs f l).take (i * k) = recs f (l.take i) := by
    conv => lhs; rw [← List.take_append_drop i l, recs_append]
    rw [List.take_left' (by rw [recs_length hf, List.length_take]; congr 1; omega)]
  have hal : (recs f (l.take i) ++ recs f (l.drop (i + 1))).length = (l.length - 1) * k := by
    rw [List.length_append, recs_length hf, hd, List.length_take, ← Nat.add_mul]
    congr 1; omega
  have ha : a = recs f (l.take i) ++ recs f (l.drop (i + 1)) ++ (recs f l).drop (i * k + (recs f (l.drop (i + 1))).length) := by show _ ++ _ ++ _ = _; rw [e1]
  have hta : a.take ((l.length - 1) * k) = recs f (l.take i) ++ recs f (l.drop (i + 1)) := by rw [ha, List.take_left' hal]
  rw [hta, List.append_assoc, List.take_left' hal, ← recs_append, List.eraseIdx_eq_take_drop_succ]
/-- append to a row of the call's own, as one step of a region that draws its order. -/
theorem step_append_row {P : Program} {ops : Array Oper} {o : Oper} {a : Act} {w : World} {K : Act → World → Prop} {Q : Exit → Act → World → Prop} {E : Prop}
    (hg : o.guard = none) (s x : Operand) (t : TypeId) (hop : o.op = Op.call { callee := Callee.builtin Builtin.append, args := #[s, x], argTypes := #[t, t] })
    (base : Nat) (e : TypeId) (i : TypeInfo) (z : Value) (size bytes : Nat) (h1 : P.underlying t = some (.slice e)) (h2 : P.info? e = some i) (h3 : i.zero = some z) (h4 : i.size = size) (h5 : i.bytes = bytes) (h6 : z.cells.size = size) (h7 : 0 < size)
    (v : Value) (n : Nat) (xs : List Value) (hs : a.eval s = v) (hown : w.ownsRow base e size v n xs)
    (ad : Addr) (m c : Nat) (news : List Value) (hx : a.eval x = .slice (some ad) m c) (hn : news.length = m * size) (hc : ∀ j u, news[j]? = some u → w.cell? (ad.add j) = some u) (h1c : ∀ u ∈ news, u.oneCell' = true)
    (b1 : n + m ≤ maxLen) (b2 : (n + m) * bytes ≤ 140737488355328) (hb : base ≤ w.heap.size)
    (hK : ∀ v' w', w'.ownsRow base e size v' (n + m) (xs ++ news) → w.grownBy w' v.ownBlock → K (a.put o.dst v') w') :
    if Region.wanted o (yielded ops a.tmps) = true then Oper.wp P o a w K Q else E := by
  have hw : Region.wanted o (yielded ops a.tmps) = true := by simp [Region.wanted, hg]
  rw [if_pos hw]
  obtain ⟨v', w', hrun, r1, r2, _⟩ := run_append_own (P := P) w base t o.type e i z size bytes h1 h2 h3 h4 h5 h6 h7 v n xs hown ad m c news hn hc h1c b1 b2 hb
  unfold Oper.wp
  simp [execOp, hop, resolve, invoke, builtin, hs, hx, hrun, Result.andThen]
  exact hK v' w' r1 r2
theorem own_cells0 {w : World} {base : Nat} {e : TypeId} {size g n cap : Nat} {xs : List Value} (h : w.ownsRow base e size (.slice (some ⟨g, 0, none⟩) n cap) n xs) : Cells w g 0 xs := by
  intro j v hv
  rw [Nat.zero_add]
  exact (h.cellAt j (by rw [← h.1]; exact (List.getElem?_eq_some_iff.1 hv).1)).trans hv
theorem own_blk {w : World} {base : Nat} {e : TypeId} {size g n cap : Nat} {xs : List Value} (h : w.ownsRow base e size (.slice (some ⟨g, 0, none⟩) n cap) n xs) : ∃ cs, w.heap[g]? = some (.cells cs e (0, 0)) := by
  rcases h.2 with ⟨hv, _⟩ | ⟨g', cap', cur, hv, hb, hh, _⟩
  · injection hv with h1; cases h1
  · injection hv with h1
    injection h1 with h1
    injection h1 with h1
    subst h1
    exact ⟨cur, hh⟩
/-- How long a slice is. -/
def slLen : Value → Nat
  | .slice _ n _ => n
  | _ => 0
end Go.Proofs.YtidgicbhgnbidaaGreatDoor

/- Images in memory; whether an image is for a model; covers and taken. Printed by mdl.py out of gen_WyB.py. -/
namespace Go.Proofs.YtidgicbhgnbidaaGreatDoor
open Go.RowKit

theorem cells_atV {w : World} {cs : Array Value} {t : TypeId} {f : Nat × Nat} {xs : List Value} {n : Nat} (h : cs.toList = xs) (hn : n = w.heap.size) : Cells (w.alloc (.cells cs t f)) n 0 xs := by
  subst hn
  exact Cells.new _ _ _ _ _ h
def mdT : Nat → ByteArray
  | 0 => ⟨#[109]⟩
  | _ => ⟨#[110]⟩
def mdC (i : Nat) : List Value := [.string (mdT i)]
theorem mdC_len (i : Nat) : (mdC i).length = 1 := rfl
theorem md_beq {i j : Nat} (hi : i < 2) (hj : j < 2) : (mdT i == mdT j) = decide (i = j) ∧ ((mdT i).toList == (mdT j).toList) = decide (i = j) := by
  have h1 : i = 0 ∨ i = 1 := by omega
  have h2 : j = 0 ∨ j = 1 := by omega
  rcases h1 with h | h <;> subst h <;> rcases h2 with h | h <;> subst h <;> exact ⟨by decide +kernel, by decide +kernel⟩
def rgC (r : Rg) : List Value := [.int .i64 r.1.a, .int .i64 r.1.b, .int .i64 r.1.c, .int .i64 r.2.a, .int .i64 r.2.b, .int .i64 r.2.c]
def rgV (r : Rg) : Value := .agg #[.int .i64 r.1.a, .int .i64 r.1.b, .int .i64 r.1.c, .int .i64 r.2.a, .int .i64 r.2.b, .int .i64 r.2.c]
def rgB (r : Rg) : Obj := .cells #[.int .i64 r.1.a, .int .i64 r.1.b, .int .i64 r.1.c, .int .i64 r.2.a, .int .i64 r.2.b, .int .i64 r.2.c] 42 (0, 0)
theorem rgC_len (r : Rg) : (rgC r).length = 6 := rfl
theorem rgC_one (r : Rg) : ∀ u ∈ rgC r, u.oneCell' = true := by
  intro u hu
  simp only [rgC, List.mem_cons, List.not_mem_nil, or_false] at hu
  rcases hu with h | h | h | h | h | h <;> rw [h] <;> rfl
def imC (x : Im) : List Value := [.int .i64 x.v.a, .int .i64 x.v.b, .int .i64 x.v.c, .slice x.ma x.mo.length x.mc, .slice x.fa x.rs.length x.fc, .int .i64 x.sz]
def imV (x : Im) : Value := .agg #[.int .i64 x.v.a, .int .i64 x.v.b, .int .i64 x.v.c, .slice x.ma x.mo.length x.mc, .slice x.fa x.rs.length x.fc, .int .i64 x.sz]
def imB (x : Im) : Obj := .cells #[.int .i64 x.v.a, .int .i64 x.v.b, .int .i64 x.v.c, .slice x.ma x.mo.length x.mc, .slice x.fa x.rs.length x.fc, .int .i64 x.sz] 91 (0, 0)
theorem imC_len (x : Im) : (imC x).length = 6 := rfl
theorem imC_one (x : Im) : ∀ u ∈ imC x, u.oneCell' = true := by
  intro u hu
  simp only [imC, List.mem_cons, List.not_mem_nil, or_false] at hu
  rcases hu with h | h | h | h | h | h <;> rw [h] <;> rfl
/-- What belongs to an image: its models and its ranges, in blocks below a bound. -/
structure ImI (w : World) (b : Nat) (x : Im) : Prop where
  mo : Row w b x.ma (recs mdC x.mo)
  rs : Row w b x.fa (recs rgC x.rs)
theorem ImI.below {w w' : World} {b : Nat} {x : Im} (h : ImI w b x) (hb : Below b w w') : ImI w' b x := ⟨h.mo.below hb, h.rs.below hb⟩
theorem ImI.mono {w : World} {b c : Nat} {x : Im} (h : ImI w b x) (hb : b ≤ c) : ImI w c x := ⟨h.mo.mono hb, h.rs.mono hb⟩
theorem ImI.up {w w' : World} {x : Im} (h : ImI w w.heap.size x) (hb : Below w.heap.size w w') : ImI w' w'.heap.size x := (h.below hb).mono hb.size
/-- A list of images in memory. -/
structure ImsI (w : World) (b : Nat) (A : Option Addr) (L : List Im) : Prop where
  row : Row w b A (recs imC L)
  all : ∀ x ∈ L, ImI w b x
theorem ImsI.below {w w' : World} {b : Nat} {A : Option Addr} {L : List Im} (h : ImsI w b A L) (hb : Below b w w') : ImsI w' b A L := ⟨h.row.below hb, fun x hx => (h.all x hx).below hb⟩
theorem ImsI.mono {w : World} {b c : Nat} {A : Option Addr} {L : List Im} (h : ImsI w b A L) (hb : b ≤ c) : ImsI w c A L := ⟨h.row.mono hb, fun x hx => (h.all x hx).mono hb⟩
theorem ImsI.up {w w' : World} {A : Option Addr} {L : List Im} (h : ImsI w w.heap.size A L) (hb : Below w.heap.size w w') : ImsI w' w'.heap.size A L := (h.below hb).mono hb.size

def mdPost (D : List Nat) (j : Nat) (e : Ending) : Prop := ∃ z : Int, e = .returned (.int .i64 z) ∧ (0 ≤ z ↔ j ∈ D)
set_option maxRecDepth 100000 in
set_option maxHeartbeats 2000000 in
theorem idxM_any (D : List Nat) (n c j : Nat) (A : Option Addr) (w : World) (hn : D.length = n) (hn7 : n ≤ 1000000) (hD : ∀ i ∈ D, i < 2) (hj : j < 2) (hr : Row w w.heap.size A (recs mdC D)) :
    Calls Tryz.prog 85 #[.slice A n c, .string (mdT j)] w fun e w' => mdPost D j e ∧ w = w' := by
  have HR := Lib.hid hr
  have HN := Lib.hid hn
  have HD := Lib.hid hD
  clear hr hn hD
  go_enter Tryz.func85, Tryz.ntmps85
  go_wp2_with (fail)
  go_loopw [8] (fun s wr => ∃ k : Nat, k ≤ n ∧ s = .int .i64 k ∧ Hid (wr = w) ∧ Hid (∀ m i, m < k → D[m]? = some i → i ≠ j)) (fun s _ => n - (intOf s).toNat)
  case atStart => exact ⟨0, Nat.zero_le _, rfl, Lib.hid rfl, Lib.hid (fun m i hm _ => by omega)⟩
  case round =>
    obtain ⟨k, hk, rfl, HW, HK⟩ := hrel
    have hw := HW.out
    subst hw
    by_cases hlt : k < n
    · have hltI : (k : Int) < (n : Int) := by omega
      obtain ⟨x, hx⟩ : ∃ x, D[k]? = some x := ⟨_, List.getElem?_eq_getElem (by have := HN.out; omega)⟩
      obtain ⟨b, o, rfl, hb, hC⟩ := (HR.out).posR mdC_len (by omega) (by have := HN.out; omega)
      have c0 := rec_cell mdC_len hC k x hx 0 _ rfl
      simp only [Nat.mul_one, Nat.add_zero] at c0
      have hx6 := HD.out x (List.mem_of_getElem? hx)
      have e1 := (md_beq hj hx6).1
      have e2 := (md_beq hj hx6).2
      have HX := Lib.hid hx
      clear hC hx
      by_cases hjx : j = x
      · rw [decide_eq_true hjx] at e1 e2
        have HM := Lib.hid (show j ∈ D from by rw [hjx]; exact List.mem_of_getElem? HX.out)
        clear hjx
        go_wp2_with (fail)
        go_ret
        exact ⟨⟨_, rfl, iff_of_true (by omega) HM.out⟩, rfl⟩
      · rw [decide_eq_false hjx] at e1 e2
        have HJ := Lib.hid hjx
        clear hjx
        go_wp2_with (fail)
        go_roundw
        case rel =>
          refine ⟨k + 1, by omega, by go_num, Lib.hid (by simp), Lib.hid (fun m i hm hi => ?_)⟩
          by_cases hmk : m = k
          · subst hmk
            have h2 := HX.out
            rw [hi] at h2
            rw [Option.some.inj h2]
            exact fun e => HJ.out e.symm
          · exact HK.out m i (by omega) hi
        case measure => simp [intOf]; omega
    · have hltI : ¬ (k : Int) < (n : Int) := by omega
      have HM := Lib.hid (show j ∉ D from fun hm => by
        obtain ⟨m, hm⟩ := List.getElem?_of_mem hm
        exact HK.out m j (by have := (List.getElem?_eq_some_iff.1 hm).1; have := HN.out; omega) hm rfl)
      go_wp2_with (fail)
      go_ret
      exact ⟨⟨_, rfl, iff_of_false (by omega) HM.out⟩, rfl⟩
set_option maxRecDepth 100000 in
theorem contM_any (D : List Nat) (n c j : Nat) (A : Option Addr) (w : World) (hn : D.length = n) (hn7 : n ≤ 1000000) (hD : ∀ i ∈ D, i < 2) (hj : j < 2) (hr : Row w w.heap.size A (recs mdC D)) :
    Calls Tryz.prog 40 #[.slice A n c, .string (mdT j)] w fun e w' => e = .returned (.bool (decide (j ∈ D))) ∧ w = w' := by
  have HI := Lib.hid (idxM_any D n c j A w hn hn7 hD hj hr)
  unfold mdPost at HI
  obtain ⟨u, eu⟩ : ∃ u, u = decide (j ∈ D) := ⟨_, rfl⟩
  have HU := Lib.hid eu
  rw [← eu]
  clear hn hD hr eu
  go_enter Tryz.func40, Tryz.ntmps40
  go_wp2_with (fail)
  refine HI.out.mono ?_
  rintro e w1 ⟨⟨z, rfl, hz⟩, rfl⟩
  have HZ := Lib.hid hz
  clear hz
  have HDD := Lib.hid (show decide (0 ≤ z) = u from by rw [HU.out, decide_eq_decide]; exact HZ.out)
  go_wp2_with (fail)
  go_ret
  exact ⟨by rw [← HDD.out]; rfl, rfl⟩

/-- Where the first range stands of which q is true; -1 if there is none. -/
def fstR (q : Rg → Bool) : List Rg → Int
  | [] => -1
  | x :: l => if q x then 0 else if fstR q l = -1 then -1 else fstR q l + 1
theorem fstR_no {q : Rg → Bool} : ∀ {l : List Rg}, (∀ x ∈ l, q x = false) → fstR q l = -1
  | [], _ => rfl
  | x :: l, h => by
    rw [fstR, if_neg (by rw [h x (by simp)]; decide), fstR_no (fun y hy => h y (List.mem_cons_of_mem _ hy))]
    rfl
theorem fstR_ge (q : Rg → Bool) : ∀ (l : List Rg), -1 ≤ fstR q l
  | [] => Int.le_refl _
  | x :: l => by
    have := fstR_ge q l
    rw [fstR]; split
    · omega
    · split <;> omega
theorem fstR_at {q : Rg → Bool} : ∀ {l : List Rg} {k : Nat} {x : Rg}, l[k]? = some x → q x = true → (∀ j y, j < k → l[j]? = some y → q y = false) → fstR q l = (k : Int)
  | [], _, _, h, _, _ => by simp at h
  | y :: l, 0, x, h, hq, _ => by
    have e : y = x := by simpa using h
    rw [fstR, e, if_pos hq]; rfl
  | y :: l, k + 1, x, h, hq, hb => by
    have ih := fstR_at (l := l) (k := k) (x := x) (by simpa using h) hq (fun j z hj hz => hb (j + 1) z (by omega) (by simpa using hz))
    have h0 := hb 0 y (by omega) rfl
    rw [fstR, if_neg (by rw [h0]; decide), ih, if_neg (by omega)]
    omega
set_option maxRecDepth 100000 in
set_option maxHeartbeats 2000000 in
theorem indexR_any (F : Nat) (caps : Array Value) (l : List Rg) (q : Rg → Bool) (n c : Nat) (A : Option Addr) (w : World) (hn : l.length = n) (hn5 : n ≤ 5000) (hr : Row w w.heap.size A (recs rgC l))
    (hrun : ∀ (args : Array Value) (V : World), (callFunc F args).run Tryz.prog V = .ok (.enter F args) V)
    (hf : ∀ (V : World) (x : Rg), x ∈ l → Below w.heap.size w V → Calls Tryz.prog F (#[rgV x] ++ caps) V fun e w' => e = .returned (.bool (q x)) ∧ Below V.heap.size V w') :
    Calls Tryz.prog 45 #[.slice A n c, .func (.func F) #[] caps] w fun e w' => e = .returned (.int .i64 (fstR q l)) ∧ Below w.heap.size w w' := by
  have HR := Lib.hid hr
  have HF := Lib.hid hf
  have HN := Lib.hid hn
  clear hr hf hn
  go_enter Tryz.func45, Tryz.ntmps45
  go_wp2_with (fail)
  go_loopw [8] (fun i wr => ∃ k : Nat, k ≤ n ∧ i = .int .i64 k ∧ (∀ (j : Nat) (y : Rg), j < k → l[j]? = some y → q y = false) ∧ Below w.heap.size w wr) (fun i _ => n - (intOf i).toNat)
  case atStart => exact ⟨0, Nat.zero_le _, rfl, fun j y hj => by omega, Below.refl _ _⟩
  case round =>
    obtain ⟨k, hk, rfl, hno, hbl⟩ := hrel
    have hsz := hbl.size
    have HBL := Lib.hid hbl
    have HNO := Lib.hid hno
    by_cases hlt : k < n
    · obtain ⟨x, hx⟩ : ∃ x, l[k]? = some x := ⟨_, List.getElem?_eq_getElem (by have := HN.out; omega)⟩
      obtain ⟨b, o, rfl, hbw, hC⟩ := (HR.out.below hbl).posR rgC_len (by omega) (by have := HN.out; omega)
      have c0 : wr.cell? ⟨b, o + k * 6, none⟩ = some (.int .i64 x.1.a) := rec_cell rgC_len hC k x hx 0 _ rfl
      have c1 := rec_cell rgC_len hC k x hx 1 _ rfl
      have c2 := rec_cell rgC_len hC k x hx 2 _ rfl
      have c3 := rec_cell rgC_len hC k x hx 3 _ rfl
      have c4 := rec_cell rgC_len hC k x hx 4 _ rfl
      have c5 := rec_cell rgC_len hC k x hx 5 _ rfl
      have HX := Lib.hid hx
      have HCALL := Lib.hid (HF.out wr x (List.mem_of_getElem? hx) hbl)
      obtain ⟨t, et⟩ : ∃ t, t = q x := ⟨_, rfl⟩
      rw [← et] at HCALL
      have HT := Lib.hid et
      unfold rgV at HCALL
      have hlt' : (k : Int) < (n : Int) := by omega
      clear hbl hC hx hno et
      go_wp2_with (fail)
      refine HCALL.out.mono ?_
      rintro e w' ⟨rfl, hbw'⟩
      have HB3 := Lib.hid (show Below w.heap.size w w' from (HBL.out).trans (hbw'.mono hsz))
      clear hbw'
      cases t with
      | true =>
        have HE := Lib.hid (fstR_at HX.out HT.out.symm HNO.out)
        go_wp2_with (fail)
        go_ret
        exact ⟨by rw [HE.out]; rfl, HB3.out⟩
      | false =>
        go_wp2_with (fail)
        go_roundw
        case rel =>
          refine ⟨k + 1, by omega, by go_num, ?_, HB3.out⟩
          intro j y hj hy
          rcases Nat.lt_or_ge j k with h | h
          · exact HNO.out j y h hy
          · obtain rfl : j = k := by omega
            rw [HX.out] at hy
            injection hy with hy
            rw [← hy]
            exact HT.out.symm
        case measure => simp [intOf]; omega
    · have hlt' : ¬ (k : Int) < (n : Int) := by omega
      clear hbl hno
      go_wp2_with (fail)
      go_ret
      have hE : fstR q l = -1 := fstR_no (fun y hy => by
        obtain ⟨j, hj⟩ := List.mem_iff_getElem?.1 hy
        have := (List.getElem?_eq_some_iff.1 hj).1
        exact HNO.out j y (by have := HN.out; omega) hj)
      exact ⟨by rw [hE]; rfl, HBL.out⟩
/-- Is there such a range? -/
theorem containsR_any (F : Nat) (caps : Array Value) (l : List Rg) (q : Rg → Bool) (n c : Nat) (A : Option Addr) (w : World) (hn : l.length = n) (hn5 : n ≤ 5000) (hr : Row w w.heap.size A (recs rgC l))
    (hrun : ∀ (args : Array Value) (V : World), (callFunc F args).run Tryz.prog V = .ok (.enter F args) V)
    (hf : ∀ (V : World) (x : Rg), x ∈ l → Below w.heap.size w V → Calls Tryz.prog F (#[rgV x] ++ caps) V fun e w' => e = .returned (.bool (q x)) ∧ Below V.heap.size V w') :
    Calls Tryz.prog 12 #[.slice A n c, .func (.func F) #[] caps] w fun e w' => e = .returned (.bool (decide (0 ≤ fstR q l))) ∧ Below w.heap.size w w' := by
  have H := Lib.hid (indexR_any F caps l q n c A w hn hn5 hr hrun hf)
  clear hr hf hn hrun
  go_enter Tryz.func12, Tryz.ntmps12
  go_wp2_with (fail)
  refine H.out.mono ?_
  rintro e w1 ⟨rfl, hb⟩
  have HB := Lib.hid hb
  clear hb
  go_wp2_with (fail)
  go_ret
  exact ⟨rfl, HB.out⟩

theorem fstR_any (q : Rg → Bool) : ∀ l : List Rg, decide (0 ≤ fstR q l) = l.any q
  | [] => rfl
  | x :: l => by
    have ih := fstR_any q l
    have hg := fstR_ge q l
    rw [fstR, List.any_cons]
    cases hq : q x with
    | true => simp
    | false =>
      simp only [Bool.false_eq_true, if_false, Bool.false_or]
      rw [← ih, decide_eq_decide]
      split <;> omega
theorem inR_dec {r : Rg} {v : Ve} (hr : RgOk r) (hv : VeOk v) : inR r v = (decide (cmpV r.1 v ≤ 0) && decide (cmpV v r.2 ≤ 0)) := by
  unfold inR
  rw [decide_eq_decide.2 (cmpV_le hr.lo hv), decide_eq_decide.2 (cmpV_le hv hr.hi)]
set_option maxRecDepth 100000 in
theorem cov1_any (r : Rg) (v : Ve) (g : Nat) (w : World) (hr : RgOk r) (hv : VeOk v) (hg : w.heap[g]? = some (veB v)) : Calls Tryz.prog 134 #[rgV r, .pointer (some ⟨g, 0, none⟩)] w fun e w' => e = .returned (.bool (inR r v)) ∧ Below w.heap.size w w' := by
  rw [inR_dec hr hv]
  obtain ⟨w1, e1⟩ : ∃ V : World, V = w.alloc (rgB r) := ⟨_, rfl⟩
  have hb1 : Below w.heap.size w w1 := by rw [e1]; exact (Below.refl _ _).alloc (Nat.le_refl _) _
  have hgl := (Array.getElem?_eq_some_iff.1 hg).1
  have hg1 : w1.heap[g]? = some (veB v) := (hb1.block g hgl).trans hg
  have hn1 : w1.heap[w.heap.size]? = some (rgB r) := by rw [e1]; exact heap_new w _
  have HB1 := Lib.hid hb1
  have HG1 := Lib.hid hg1
  have HN1 := Lib.hid hn1
  have HC0 := Lib.hid (compareV_any r.1 v w1)
  have HC1 := Lib.hid (fun V => compareV_any v r.2 V)
  unfold rgB at e1
  unfold rgV
  unfold veV at HC0 HC1
  have hs1 : w.heap.size < w1.heap.size := (Array.getElem?_eq_some_iff.1 hn1).1
  have hs2 : g < w1.heap.size := (Array.getElem?_eq_some_iff.1 hg1).1
  have k0 := cell_of_blk (j := 0) hn1 rfl
  have k1 := cell_of_blk (j := 1) hn1 rfl
  have k2 := cell_of_blk (j := 2) hn1 rfl
  have v0 := cell_of_blk (j := 0) hg1 rfl
  have v1 := cell_of_blk (j := 1) hg1 rfl
  have v2 := cell_of_blk (j := 2) hg1 rfl
  clear hb1 hg hg1 hn1 hgl hr hv
  go_enter Tryz.func134, Tryz.ntmps134
  go_upto_region 1 with (fail)
  rw [← e1]
  clear e1
  go_wp2_with (fail)
  refine HC0.out.mono ?_
  rintro e w2 ⟨rfl, hb2⟩
  have hs3 := hb2.size
  have hg2 := (hb2.block g hs2).trans HG1.out
  have hn2 := (hb2.block w.heap.size hs1).trans HN1.out
  have HB2 := Lib.hid (HB1.out.trans (hb2.mono HB1.out.size))
  have hs4 : w.heap.size < w2.heap.size := by omega
  have hs5 : g < w2.heap.size := by omega
  have k3 := cell_of_blk (j := 3) hn2 rfl
  have k4 := cell_of_blk (j := 4) hn2 rfl
  have k5 := cell_of_blk (j := 5) hn2 rfl
  have u0 := cell_of_blk (j := 0) hg2 rfl
  have u1 := cell_of_blk (j := 1) hg2 rfl
  have u2 := cell_of_blk (j := 2) hg2 rfl
  clear hb2 hg2 hn2 k0 k1 k2 v0 v1 v2
  by_cases hle : cmpV r.1 v ≤ 0
  · have d1 := decide_eq_true hle
    go_wp2_with (fail)
    refine (HC1.out w2).mono ?_
    rintro e w3 ⟨rfl, hb3⟩
    have HB3 := Lib.hid (HB2.out.trans (hb3.mono HB2.out.size))
    clear hb3
    go_wp2_with (fail)
    go_ret
    exact ⟨by rw [d1, Bool.true_and]; rfl, HB3.out⟩
  · have d1 := decide_eq_false hle
    go_wp2_with (fail)
    go_ret
    exact ⟨by rw [d1, Bool.false_and]; rfl, HB2.out⟩
set_option maxRecDepth 100000 in
theorem covers_im (x : Im) (v : Ve) (w : World) (hI : ImI w w.heap.size x) (hx : ImOk x) (hv : VeOk v) : Calls Tryz.prog 89 #[imV x, veV v] w fun e w' => e = .returned (.bool (cov x v)) ∧ Below w.heap.size w w' := by
  obtain ⟨w1, e1⟩ : ∃ V : World, V = (w.alloc (imB x)).alloc (veB v) := ⟨_, rfl⟩
  have hb1 : Below w.heap.size w w1 := by rw [e1]; exact ((Below.refl _ _).alloc (Nat.le_refl _) _).alloc (by simp) _
  have hn1 : w1.heap[w.heap.size]? = some (imB x) := by rw [e1, Below.heap_alloc _ _ _ (by simp)]; exact heap_new w _
  have hg1 : w1.heap[w.heap.size + 1]? = some (veB v) := by rw [e1]; have := heap_new (w.alloc (imB x)) (veB v); simpa using this
  have hs1 := (Array.getElem?_eq_some_iff.1 hn1).1
  have hs2 := (Array.getElem?_eq_some_iff.1 hg1).1
  have HB1 := Lib.hid hb1
  have HC := Lib.hid (containsR_any 134 #[.pointer (some ⟨w.heap.size + 1, 0, none⟩)] x.rs (fun r => inR r v) x.rs.length x.fc x.fa w1 rfl (by have := hx.rl; omega) (hI.up hb1).rs
    (enters_of Tryz.func134 (by kernel_rfl) rfl) (fun V r hr hV => cov1_any r v (w.heap.size + 1) V (hx.rs r hr).1 hv ((hV.block _ hs2).trans hg1)))
  rw [fstR_any] at HC
  have k4 : w1.cell? ⟨w.heap.size, 4, none⟩ = some (.slice x.fa x.rs.length x.fc) := cell_of_blk hn1 rfl
  unfold imB veB at e1
  unfold imV veV
  change _ at HC
  clear hb1 hn1 hg1 hI hx hv
  go_enter Tryz.func89, Tryz.ntmps89
  go_upto_region 1 with (fail)
  rw [← e1]
  clear e1
  go_wp2_with (fail)
  refine HC.out.mono ?_
  rintro e w2 ⟨rfl, hb2⟩
  have HB2 := Lib.hid (HB1.out.trans (hb2.mono HB1.out.size))
  clear hb2
  go_wp2_with (fail)
  go_ret
  exact ⟨rfl, HB2.out⟩
theorem Tryz.infoIm : (Tryz.prog.info? 91).map (fun i => (i.zero, i.size, i.bytes)) = some (some (.agg #[.int .i64 0, .int .i64 0, .int .i64 0, .slice none 0 0, .slice none 0 0, .int .i64 0]), 6, 80) := by kernel_rfl
theorem hasM_mem [Mdl] (x : Im) : decide (Mdl.j ∈ x.mo) = hasM x := by
  unfold hasM
  rw [Bool.eq_iff_iff, decide_eq_true_eq, List.any_eq_true]
  exact ⟨fun h => ⟨Mdl.j, h, by simp⟩, fun ⟨i, h1, h2⟩ => by rw [beq_iff_eq] at h2; rw [← h2]; exact h1⟩
theorem mo_lt {x : Im} (h : ImOk x) : x.mo.length ≤ 2 ∧ ∀ i ∈ x.mo, i < 2 := by
  rcases h.mo with e | e | e <;> rw [e] <;> exact ⟨by decide, by decide⟩
theorem filter_snoc {α : Type} {p : α → Bool} {l : List α} {k : Nat} {x : α} (h : l[k]? = some x) : (l.take (k + 1)).filter p = (l.take k).filter p ++ (if p x = true then [x] else []) := by
  rw [List.take_add_one, h, List.filter_append]
  simp only [Option.toList, List.filter_cons, List.filter_nil]
def TakPost [Mdl] (L : List Im) (v : Ve) (w : World) (e : Ending) (w' : World) : Prop :=
  ∃ (A : Option Addr) (c n : Nat), n = (tak L v).length ∧ e = .returned (.slice A n c) ∧ w'.ownsRow w.heap.size 91 6 (.slice A n c) n (recs imC (tak L v)) ∧ Below w.heap.size w w'
set_option maxRecDepth 100000 in
set_option maxHeartbeats 4000000 in
theorem taken_any [Mdl] (L : List Im) (v : Ve) (N C : Nat) (AL : Option Addr) (w : World) (hI : ImsI w w.heap.size AL L) (hN : L.length = N) (hL : ImsOk L) (hv : VeOk v) :
    Calls Tryz.prog 48 #[.slice AL N C, .string (mdT Mdl.j), veV v] w fun e w' => TakPost L v w e w' := by
  obtain ⟨ii0, hii0, hzi0, hzi1, hzi2⟩ := info_parts Tryz.infoIm
  have hN8 : N ≤ 8 := by have := hL.len; omega
  obtain ⟨g, eg⟩ : ∃ g, g = w.heap.size := ⟨_, rfl⟩
  obtain ⟨w0, e0⟩ : ∃ V : World, V = w.alloc (veB v) := ⟨_, rfl⟩
  have hb0 : Below w.heap.size w w0 := by rw [e0]; exact (Below.refl _ _).alloc (Nat.le_refl _) _
  have hg0 : w0.heap[g]? = some (veB v) := by rw [e0, eg]; exact heap_new w _
  have hl0 := (Array.getElem?_eq_some_iff.1 hg0).1
  have HI := Lib.hid (hI.up hb0)
  have HB0 := Lib.hid hb0
  have HG0 := Lib.hid hg0
  have HN := Lib.hid hN
  have HL := Lib.hid hL
  have HV := Lib.hid hv
  have HEG := Lib.hid eg
  unfold veB at e0
  unfold veV
  clear hb0 hg0 hN hL hv hI
  go_enter Tryz.func48, Tryz.ntmps48
  go_upto_region 1 with (fail)
  rw [← eg, ← e0]
  clear e0 eg
  go_wp2_with (fail)
  go_loopw [7, 12] (fun s u wx => ∃ (k : Nat) (A : Option Addr) (c n : Nat), k ≤ N ∧ n ≤ k ∧ u = .int .i64 (k : Int) ∧ s = .slice A n c ∧ Hid ((tak (L.take k) v).length = n ∧ wx.ownsRow w0.heap.size 91 6 (.slice A n c) n (recs imC (tak (L.take k) v)) ∧ Below w0.heap.size w0 wx)) (fun _ u _ => N - (intOf u).toNat)
  case atStart => exact ⟨0, none, 0, 0, Nat.zero_le _, Nat.zero_le _, rfl, rfl, Lib.hid ⟨rfl, World.ownsRow_nil _ _ _ _, Below.refl _ _⟩⟩
  case round =>
    obtain ⟨k, A, c, n, hk, hnk, rfl, rfl, HR⟩ := hrel
    by_cases hlt : k < N
    · have hltI : (k : Int) < (N : Int) := by omega
      obtain ⟨x, hx⟩ : ∃ x, L[k]? = some x := ⟨_, List.getElem?_eq_getElem (by have := HN.out; omega)⟩
      have hrw := (HI.out.row.below HR.out.2.2)
      obtain ⟨b, o, rfl, hbw, hC⟩ := hrw.posR imC_len (by omega) (by have := HN.out; omega)
      have hbr : b < wr.heap.size := by have := HR.out.2.2.size; omega
      have c0 : wr.cell? ⟨b, o + k * 6, none⟩ = some (.int .i64 x.v.a) := rec_cell imC_len hC k x hx 0 _ rfl
      have c1 := rec_cell imC_len hC k x hx 1 _ rfl
      have c2 := rec_cell imC_len hC k x hx 2 _ rfl
      have c3 := rec_cell imC_len hC k x hx 3 _ rfl
      have c4 := rec_cell imC_len hC k x hx 4 _ rfl
      have c5 := rec_cell imC_len hC k x hx 5 _ rfl
      have hxm := List.mem_of_getElem? hx
      have HX := Lib.hid (HL.out.ok x hxm)
      have HXE := Lib.hid hx
      have HXI := Lib.hid (((HI.out.all x hxm).below HR.out.2.2).mono HR.out.2.2.size)
      clear hrw hC hx
      go_upto_region 5 with (fail)
      obtain ⟨gx, egx⟩ : ∃ y, y = wr.heap.size := ⟨_, rfl⟩
      obtain ⟨w1, e1⟩ : ∃ V : World, V = wr.alloc (.cells #[.int .i64 x.v.a, .int .i64 x.v.b, .int .i64 x.v.c, .slice x.ma x.mo.length x.mc, .slice x.fa x.rs.length x.fc, .int .i64 x.sz] 91) := ⟨_, rfl⟩
      have hb1 : Below wr.heap.size wr w1 := by rw [e1]; exact (Below.refl _ _).alloc (Nat.le_refl _) _
      have hg1 : w1.heap[gx]? = some (imB x) := by rw [e1, egx]; exact heap_new wr _
      have hgs := HR.out.2.2.size
      have hgx : w0.heap.size ≤ gx := by omega
      rw [← egx, ← e1]
      have HR1 := Lib.hid (show (tak (L.take k) v).length = n ∧ w1.ownsRow w0.heap.size 91 6 (.slice A n c) n (recs imC (tak (L.take k) v)) ∧ Below w0.heap.size w0 w1 from ⟨HR.out.1, own_below HR.out.2.1 hb1, HR.out.2.2.trans (hb1.mono HR.out.2.2.size)⟩)
      have HXI1 := Lib.hid (HXI.out.up hb1)
      have HG1 := Lib.hid hg1
      have hl1 := (Array.getElem?_eq_some_iff.1 hg1).1
      clear egx e1 hb1 c0 c1 c2 c3 c4 c5 hbr
      have k3 : w1.cell? ⟨gx, 3, none⟩ = some (.slice x.ma x.mo.length x.mc) := cell_of_blk hg1 rfl
      have HCM := Lib.hid (contM_any x.mo x.mo.length x.mc Mdl.j x.ma w1 rfl (by have := (mo_lt HX.out).1; omega) (mo_lt HX.out).2 Mdl.lt HXI1.out.mo)
      rw [hasM_mem] at HCM
      clear hg1
      go_cut [24] (fun s wx => s = .bool (hasM x && cov x v) ∧ Below w1.heap.size w1 wx)
      case first =>
        go_wp2_with (fail)
        refine HCM.out.mono ?_
        rintro e w2 ⟨rfl, rfl⟩
        cases hm : hasM x with
        | false =>
          go_wp2_with (fail)
          go_meet
          exact ⟨by rw [hm]; rfl, Below.refl _ _⟩
        | true =>
          have hg1 := HG1.out
          have k0 := cell_of_blk (j := 0) hg1 rfl
          have k1 := cell_of_blk (j := 1) hg1 rfl
          have k2 := cell_of_blk (j := 2) hg1 rfl
          have k4 := cell_of_blk (j := 4) hg1 rfl
          have k5 := cell_of_blk (j := 5) hg1 rfl
          have hv0 := (HR1.out.2.2.block g hl0).trans HG0.out
          have v0 := cell_of_blk (j := 0) hv0 rfl
          have v1 := cell_of_blk (j := 1) hv0 rfl
          have v2 := cell_of_blk (j := 2) hv0 rfl
          have hvl := (Array.getElem?_eq_some_iff.1 hv0).1
          have HCV := Lib.hid (covers_im x v w1 HXI1.out HX.out HV.out)
          unfold imV veV at HCV
          clear hg1 hv0
          go_wp2_with (fail)
          refine HCV.out.mono ?_
          rintro e w3 ⟨rfl, hb3⟩
          go_wp2_with (fail)
          go_meet
          exact ⟨by rw [hm]; simp, hb3⟩
      case rest =>
        obtain ⟨rfl, hb⟩ := hcut
        obtain ⟨w2, rfl⟩ : ∃ wy : World, wy = wc := ⟨_, rfl⟩
        have hw2 := hb.size
        have hg2 := (hb.block gx hl1).trans HG1.out
        have hl2 := (Array.getElem?_eq_some_iff.1 hg2).1
        have HR2 := Lib.hid (show (tak (L.take k) v).length = n ∧ w2.ownsRow w0.heap.size 91 6 (.slice A n c) n (recs imC (tak (L.take k) v)) ∧ Below w0.heap.size w0 w2 from ⟨HR1.out.1, own_below HR1.out.2.1 hb, HR1.out.2.2.trans (hb.mono HR1.out.2.2.size)⟩)
        have HSN := Lib.hid (show tak (L.take (k + 1)) v = tak (L.take k) v ++ (if (hasM x && cov x v) = true then [x] else []) from filter_snoc HXE.out)
        clear hb k3 HCM
        cases hmc : (hasM x && cov x v) with
        | false =>
          rw [hmc] at HSN
          have HE := Lib.hid (show tak (L.take (k + 1)) v = tak (L.take k) v from HSN.out.trans (by simp))
          clear hg2
          go_wp2_with (fail)
          go_roundw
          case rel => exact ⟨k + 1, A, c, n, by omega, by omega, by go_num, rfl, Lib.hid (by rw [HE.out]; exact HR2.out)⟩
          case measure => simp [intOf]; omega
        | true =>
          rw [hmc] at HSN
          have HE := Lib.hid (show tak (L.take (k + 1)) v = tak (L.take k) v ++ [x] from HSN.out.trans (by simp))
          have k0 := cell_of_blk (j := 0) hg2 rfl
          have k1 := cell_of_blk (j := 1) hg2 rfl
          have k2 := cell_of_blk (j := 2) hg2 rfl
          have k3 := cell_of_blk (j := 3) hg2 rfl
          have k4 := cell_of_blk (j := 4) hg2 rfl
          have k5 := cell_of_blk (j := 5) hg2 rfl
          have hba : Below w2.heap.size w2 (w2.alloc (imB x)) := (Below.refl _ _).alloc (Nat.le_refl _) _
          have HAL := Lib.hid (own_below HR2.out.2.1 hba)
          have HBA := Lib.hid (HR2.out.2.2.trans (hba.mono HR2.out.2.2.size))
          have hbs : w0.heap.size ≤ (w2.alloc (imB x)).heap.size := HBA.out.size
          clear hg2 hba
          unfold imB at hbs HAL
          go_wp2_with (at_builtin; refine wpList_append_own2 _ rfl _ _ 26 rfl w0.heap.size 91 ii0 _ 6 80 Tryz.underlying26 hii0 hzi0 hzi1 hzi2 rfl (by decide) _ _ _ rfl HAL.out ⟨_, 0, none⟩ 1 1 (imC x) rfl rfl ?c1 ?c2 ?c3 ?c4 ?c5 ?_)
          case c1 => exact fun j u h => h
          case c2 => exact imC_one x
          case c3 => unfold maxLen; omega
          case c4 => omega
          case c5 => (have := HR2.out.2.2.size; omega)
          intro v13 w13 ho13 hg13 hm13
          obtain ⟨A3, c3, rfl⟩ := own_slice ho13
          have HB3 := Lib.hid (HBA.out.grown hg13 HBA.out.size (fun q hq => (HAL.out.lt q hq).1))
          have HR3 := Lib.hid (show (tak (L.take (k + 1)) v).length = n + 1 ∧ w13.ownsRow w0.heap.size 91 6 (.slice A3 (n + 1) c3) (n + 1) (recs imC (tak (L.take (k + 1)) v)) ∧ Below w0.heap.size w0 w13 from ⟨by rw [HE.out, List.length_append, HR2.out.1]; rfl, by
            have e : recs imC (tak (L.take (k + 1)) v) = recs imC (tak (L.take k) v) ++ imC x := by rw [HE.out]; simp [recs]
            rw [e]; exact ho13, HB3.out⟩)
          clear ho13 hg13 hm13 hbs HAL HBA k0 k1 k2 k3 k4 k5
          go_wp2_with (fail)
          go_roundw
          case rel => exact ⟨k + 1, A3, c3, n + 1, by omega, by omega, by go_num, rfl, HR3⟩
          case measure => simp [intOf]; omega
    · have hltI : ¬ (k : Int) < (N : Int) := by omega
      have hkN : L.take k = L := List.take_of_length_le (by have := HN.out; omega)
      have HF := Lib.hid (show TakPost L v w (.returned (.slice A n c)) wr from by
        have h := HR.out
        rw [hkN] at h
        exact ⟨A, c, n, h.1.symm, rfl, own_mono h.2.1 HB0.out.size, HB0.out.trans (h.2.2.mono HB0.out.size)⟩)
      go_wp2_with (fail)
      go_ret
      exact HF.out
end Go.Proofs.YtidgicbhgnbidaaGreatDoor

/- Maps from versions to costs, entry by entry: look-ups and stores; versions compared by ==. -/
namespace Go.Proofs.YtidgicbhgnbidaaGreatDoor
open Go.RowKit Go.Maps Go.WideMaps

theorem eqFields_three {P : Program} {d : Nat} {xs ys : Array Value} {F1 F2 F3 : Field} {a b c a' b' c' : Value} {x y z : Bool} (w : World) (n1 : (F1.name == "_") = false) (n2 : (F2.name == "_") = false) (n3 : (F3.name == "_") = false)
    (p1 : (part F1.type xs F1.offset).run P w = .ok a w) (p2 : (part F2.type xs F2.offset).run P w = .ok b w) (p3 : (part F3.type xs F3.offset).run P w = .ok c w) (q1 : (part F1.type ys F1.offset).run P w = .ok a' w) (q2 : (part F2.type ys F2.offset).run P w = .ok b' w) (q3 : (part F3.type ys F3.offset).run P w = .ok c' w)
    (e1 : (Op.equalIn d F1.type a a').run P w = .ok x w) (e2 : (Op.equalIn d F2.type b b').run P w = .ok y w) (e3 : (Op.equalIn d F3.type c c').run P w = .ok z w) : (Op.eqFields d xs ys [F1, F2, F3]).run P w = .ok (x && (y && z)) w := by
  have m1 : F1.name ≠ "_" := by simpa using n1
  have m2 : F2.name ≠ "_" := by simpa using n2
  have m3 : F3.name ≠ "_" := by simpa using n3
  simp only [Op.eqFields, m1, m2, m3, ne_eq, not_false_eq_true, if_true, Sem.run_bind, p1, q1, e1, Result.andThen_ok]
  cases x with
  | false => simp
  | true =>
    simp only [Bool.not_true, Bool.false_eq_true, if_false, Sem.run_bind, p2, q2, e2, Result.andThen_ok]
    cases y with
    | false => simp
    | true =>
      simp only [Bool.not_true, Bool.false_eq_true, if_false, Sem.run_bind, p3, q3, e3, Result.andThen_ok]
      cases z <;> simp
theorem ve_eq (x y : Ve) : (x.a == y.a && (x.b == y.b && x.c == y.c)) = decide (x = y) := by
  obtain ⟨a, b, c⟩ := x
  obtain ⟨d, e, f⟩ := y
  rw [Bool.eq_iff_iff]
  simp only [Bool.and_eq_true, beq_iff_eq, decide_eq_true_eq, Ve.mk.injEq]
theorem ver_equal (x y : Ve) (w : World) : (Op.equal 29 (veV x) (veV y)).run Tryz.prog w = .ok (decide (x = y)) w := by
  rw [← ve_eq]
  have h := run_equalIn_agg (P := Tryz.prog) (w := w) 9999 29 #[.int .i64 x.a, .int .i64 x.b, .int .i64 x.c] #[.int .i64 y.a, .int .i64 y.b, .int .i64 y.c] (by kernel_rfl) (by kernel_rfl)
  have e : (Op.equal 29 (veV x) (veV y)).run Tryz.prog w = (Op.equalIn (9999 + 1) 29 (.agg #[.int .i64 x.a, .int .i64 x.b, .int .i64 x.c]) (.agg #[.int .i64 y.a, .int .i64 y.b, .int .i64 y.c])).run Tryz.prog w := rfl
  rw [e, h]
  have hi := fun a b => run_equalIn_int (P := Tryz.prog) (w := w) 9998 3 .i64 .i64 a b Tryz.underlying3
  have f : (Tryz.prog.fieldsOf 29).toList = [(Tryz.prog.fieldsOf 29)[0]!, (Tryz.prog.fieldsOf 29)[1]!, (Tryz.prog.fieldsOf 29)[2]!] := by kernel_rfl
  have t1 : ((Tryz.prog.fieldsOf 29)[0]!).type = 3 := by kernel_rfl
  have t2 : ((Tryz.prog.fieldsOf 29)[1]!).type = 3 := by kernel_rfl
  have t3 : ((Tryz.prog.fieldsOf 29)[2]!).type = 3 := by kernel_rfl
  rw [f]
  exact eqFields_three w (by kernel_rfl) (by kernel_rfl) (by kernel_rfl) (a := .int .i64 x.a) (b := .int .i64 x.b) (c := .int .i64 x.c) (a' := .int .i64 y.a) (b' := .int .i64 y.b) (c' := .int .i64 y.c) (by kernel_rfl) (by kernel_rfl) (by kernel_rfl) (by kernel_rfl) (by kernel_rfl) (by kernel_rfl) (by rw [t1]; exact hi _ _) (by rw [t2]; exact hi _ _) (by rw [t3]; exact hi _ _)
theorem ver_neq (x y : Ve) (w : World) : (binOp .neq 29 (veV x) (veV y)).run Tryz.prog w = .ok (.bool (!decide (x = y))) w := by
  have h := ver_equal x y w
  unfold veV at h ⊢
  simp [binOp, h, Result.andThen]
theorem ver_eql (x y : Ve) (w : World) : (binOp .eql 29 (veV x) (veV y)).run Tryz.prog w = .ok (.bool (decide (x = y))) w := by
  have h := ver_equal x y w
  unfold veV at h ⊢
  simp [binOp, h, Result.andThen]
theorem ver_check (b : Bool) (v : Ve) (w : World) : (Instr.checkKey b 10000 29 (veV v)).run Tryz.prog w = .ok () w := by
  kernel_rfl
/-- The entries. -/
abbrev VmL := List (Ve × Co)
def vmE : Nat → VmL → List MapEntry
  | _, [] => []
  | i, p :: l => { key := veV p.1, val := coV p.2, born := i } :: vmE (i + 1) l
theorem vmE_snoc (i : Nat) (l : VmL) (p : Ve × Co) : vmE i (l ++ [p]) = vmE i l ++ [{ key := veV p.1, val := coV p.2, born := i + l.length }] := by
  induction l generalizing i with
  | nil => rfl
  | cons q l ih => simp only [List.cons_append, vmE, ih, List.length_cons]; rw [show i + 1 + l.length = i + (l.length + 1) by omega]
def vmG (k : Ve) : VmL → Option Co
  | [] => none
  | p :: l => if k = p.1 then some p.2 else vmG k l
def vmU (k : Ve) (v : Co) : VmL → VmL
  | [] => [(k, v)]
  | p :: l => if k = p.1 then (k, v) :: l else p :: vmU k v l
theorem vmG_U (k q : Ve) (v : Co) (l : VmL) : vmG q (vmU k v l) = if q = k then some v else vmG q l := by
  induction l with
  | nil => simp [vmU, vmG]
  | cons p l ih =>
    unfold vmU
    by_cases h : k = p.1
    · rw [if_pos h]
      simp only [vmG]
      by_cases h2 : q = k
      · rw [if_pos h2, if_pos h2]
      · rw [if_neg h2, if_neg h2, if_neg (by rw [← h]; exact h2)]
    · rw [if_neg h]
      simp only [vmG]
      by_cases h2 : q = p.1
      · rw [if_pos h2, if_neg (by rw [h2]; exact fun e => h e.symm), if_pos h2]
      · rw [if_neg h2, ih, if_neg h2]
def VmI (w : World) (m : Nat) (l : VmL) : Prop := w.heap[m]? = some (.map (vmE 0 l).toArray l.length)
theorem VmI.lt {w : World} {m : Nat} {l : VmL} (h : VmI w m l) : m < w.heap.size := (Array.getElem?_eq_some_iff.1 h).1
theorem VmI.keep {w w' : World} {m : Nat} {l : VmL} (h : VmI w m l) (hk : w'.heap[m]? = w.heap[m]?) : VmI w' m l := hk.trans h
theorem VmI.below {w w' : World} {m : Nat} {l : VmL} (h : VmI w m l) (hb : Below w.heap.size w w') : VmI w' m l := h.keep (hb.block m h.lt)
theorem find_vm (k : Ve) (v : Co) (w : World) : ∀ (l : VmL) (i j : Nat),
    ((Instr.findAsking 29 (veV k) (vmE i l) j).run Tryz.prog w = .ok none w ∧ vmG k l = none ∧ vmU k v l = l ++ [(k, v)]) ∨
    ∃ n x, (Instr.findAsking 29 (veV k) (vmE i l) j).run Tryz.prog w = .ok (some (j + n, coV x)) w ∧ vmG k l = some x ∧ (vmE i l).modify n (fun e => { e with key := veV k, val := coV v }) = vmE i (vmU k v l) ∧ ((vmE i l)[n]?).map (·.key) = some (veV k) ∧ (vmU k v l).length = l.length
  | [], _, _ => .inl ⟨by simp [vmE, Instr.findAsking], rfl, rfl⟩
  | p :: l, i, j => by
    have he := ver_equal k p.1 w
    by_cases h : k = p.1
    · rw [decide_eq_true h] at he
      refine .inr ⟨0, p.2, ?_, ?_, ?_, ?_, ?_⟩
      · simp [vmE, Instr.findAsking, he, Result.andThen]
      · simp [vmG, h]
      · simp [vmE, vmU, h]
      · simp [vmE, h]
      · simp [vmU, h]
    · rw [decide_eq_false h] at he
      rcases find_vm k v w l (i + 1) (j + 1) with ⟨h1, h2, h3⟩ | ⟨n, x, h1, h2, h3, h4, h5⟩
      · refine .inl ⟨?_, ?_, ?_⟩
        · simp [vmE, Instr.findAsking, he, h1, Result.andThen]
        · simp [vmG, h, h2]
        · simp [vmU, h, h3]
      · refine .inr ⟨n + 1, x, ?_, ?_, ?_, ?_, ?_⟩
        · simp only [vmE]
          simp [Instr.findAsking, he, h1, Result.andThen]
          omega
        · simp [vmG, h, h2]
        · simp only [vmE, vmU, if_neg h, List.modify_succ_cons, h3]
        · simpa [vmE] using h4
        · simp [vmU, h, h5]
theorem now_vm (k : Ve) (l : VmL) (i j : Nat) : Instr.findNow (.struct (Tryz.prog.fieldsOf 29)) (veV k) (vmE i l) j = if l = [] then some none else none := by
  cases l with
  | nil => rfl
  | cons p l => rfl
theorem key_vm (k : Ve) (l : VmL) (w : World) (r : Option (Nat × Value)) (h : (Instr.findAsking 29 (veV k) (vmE 0 l) 0).run Tryz.prog w = .ok r w) : (Instr.findKey 29 (veV k) (vmE 0 l)).run Tryz.prog w = .ok r w := by
  have hu : Tryz.prog.underlying 29 = some (.struct (Tryz.prog.fieldsOf 29)) := by kernel_rfl
  cases l with
  | nil =>
    have hr : r = none := by simp [vmE, Instr.findAsking] at h; exact h.symm
    subst hr
    simp [Instr.findKey, run_underlying hu, now_vm, Result.andThen]
  | cons p l =>
    simp only [Instr.findKey, Sem.run_bind, run_underlying hu, now_vm, Result.andThen_ok]
    simpa using h
section
variable {w : World} {m : Nat} {l : VmL} {k : Ve} {v : Co}
/-- v, ok := m[k]. -/
theorem look_vm (hb : VmI w m l) : (Instr.lookup 96 (.map (some m)) (veV k) true).run Tryz.prog w = .ok (.tuple #[coV ((vmG k l).getD (0, 0)), .bool (vmG k l).isSome]) w := by
  have hz : (zeroValue 99).run Tryz.prog w = .ok (coV (0, 0)) w := by kernel_rfl
  have hc := fun b => ver_check b k w
  unfold VmI at hb
  rcases find_vm k (0, 0) w l 0 0 with ⟨h1, h2, _⟩ | ⟨n, x, h1, h2, _⟩
  · have hf := key_vm k l w none h1
    simp [Instr.lookup, run_underlying Tryz.underlying96, MapKept.run_getObj_map hb, hc, hf, hz, h2, Result.andThen]
  · have hf := key_vm k l w _ h1
    simp [Instr.lookup, run_underlying Tryz.underlying96, MapKept.run_getObj_map hb, hc, hf, h2, Result.andThen]
/-- m[k] = v. -/
theorem upd_vm (hb : VmI w m l) : (Instr.mapUpdate 96 (.map (some m)) (veV k) (coV v)).run Tryz.prog w = .ok () { w with heap := w.heap.setIfInBounds m (.map (vmE 0 (vmU k v l)).toArray (vmU k v l).length) } := by
  have hc := fun b => ver_check b k w
  unfold VmI at hb
  rcases find_vm k v w l 0 0 with ⟨h1, h2, h3⟩ | ⟨n, x, h1, h2, h3, h4, h5⟩
  · have hf := key_vm k l w none h1
    have e : (vmE 0 (vmU k v l)).toArray = (vmE 0 l).toArray.push { key := veV k, val := coV v, born := l.length } := by rw [h3, vmE_snoc]; simp
    rw [e, h3, List.length_append]
    simp [Instr.mapUpdate, run_underlying Tryz.underlying96, MapKept.run_getObj_map hb, hc, hf, MapKept.run_setObj_map _ hb, Result.andThen]
  · have hf := key_vm k l w _ h1
    have hst : (Instr.keyThatStays (((vmE 0 l)[n]?.map (·.key)).getD (veV k)) (veV k)).run Tryz.prog w = .ok (veV k) w := by
      rw [h4]
      have hsb : Instr.sameBits 10000 (veV k) (veV k) = true := by
        show Instr.sameBits (9999 + 1) (.agg #[.int .i64 k.a, .int .i64 k.b, .int .i64 k.c]) (.agg #[.int .i64 k.a, .int .i64 k.b, .int .i64 k.c]) = true
        simp [Instr.sameBits]
      simp [Instr.keyThatStays, hsb]
    rw [← h3, h5]
    simp only [Nat.zero_add] at hf
    simp [Instr.mapUpdate, run_underlying Tryz.underlying96, MapKept.run_getObj_map hb, hc, hf, hst, MapKept.run_setObj_map _ hb, Result.andThen]
theorem VmI.upd (hb : VmI w m l) : VmI { w with heap := w.heap.setIfInBounds m (.map (vmE 0 (vmU k v l)).toArray (vmU k v l).length) } m (vmU k v l) := Array.getElem?_setIfInBounds_self_of_lt hb.lt
end
end Go.Proofs.YtidgicbhgnbidaaGreatDoor

/- Plain law of costs: what a table of costs keeps, what a pass over it leaves, and what it says at its end. No function of the program in sight. Changed by mdl2.py. -/
namespace Go.Proofs.YtidgicbhgnbidaaGreatDoor
open Go.RowKit

def upN (O : List Im) (v : Ve) : Nat := (O.filter fun y => decide (vn v < vn y.v)).length
theorem upN_le (O : List Im) (v : Ve) : upN O v ≤ O.length := List.length_filter_le _ _
theorem upN_lt : ∀ {O : List Im} {y : Im} {v : Ve}, y ∈ O → vn v < vn y.v → upN O y.v + 1 ≤ upN O v
  | [], _, _, h, _ => by cases h
  | z :: O, y, v, h, hl => by
    have hmon : ∀ O' : List Im, upN O' y.v ≤ upN O' v := by
      intro O'
      unfold upN
      induction O' with
      | nil => exact Nat.le_refl _
      | cons a O' ih =>
        rw [List.filter_cons, List.filter_cons]
        by_cases h1 : vn y.v < vn a.v
        · rw [if_pos (decide_eq_true h1), if_pos (decide_eq_true (by omega))]
          simp only [List.length_cons]; omega
        · rw [if_neg (by rw [decide_eq_false h1]; decide)]
          split
          · simp only [List.length_cons]; omega
          · exact ih
    unfold upN
    rw [List.filter_cons, List.filter_cons]
    rcases List.mem_cons.1 h with rfl | h
    · rw [if_neg (by rw [decide_eq_false (by omega)]; decide), if_pos (decide_eq_true hl)]
      have := hmon O
      unfold upN at this
      simp only [List.length_cons]; omega
    · have ih := upN_lt h hl
      unfold upN at ih
      by_cases h1 : vn y.v < vn z.v
      · rw [if_pos (decide_eq_true h1), if_pos (decide_eq_true (by omega))]
        simp only [List.length_cons]; omega
      · rw [if_neg (by rw [decide_eq_false h1]; decide)]
        split
        · simp only [List.length_cons]; omega
        · exact ih
def nxC (c : Co) (y : Im) : Co := (c.1 + 1, c.2 + y.sz)
/-- The cost of a way. -/
inductive PathC [Mdl] (O : List Im) (t : Ve) : Ve → Co → Prop
  | self : PathC O t t (0, 0)
  | step {v : Ve} {y : Im} {c : Co} : y ∈ tak O v → PathC O t y.v c → PathC O t v (nxC c y)
/-- A cost as a version can have it. -/
structure CoOk [Mdl] (O : List Im) (t k : Ve) (c : Co) : Prop where
  s : 0 ≤ c.1
  z : 0 ≤ c.2 ∧ c.2 ≤ 10 * c.1
  u : c.1 ≤ upN O k
  r : Rch O t k
  p : PathC O t k c
structure TbOk [Mdl] (O : List Im) (t : Ve) (T : VmL) : Prop where
  top : vmG t T = some (0, 0)
  ok : ∀ k c, vmG k T = some c → CoOk O t k c
theorem TbOk.init [Mdl] (O : List Im) (t : Ve) : TbOk O t (vmU t (0, 0) []) := by
  refine ⟨by rw [vmG_U, if_pos rfl], fun k c h => ?_⟩
  rw [vmG_U] at h
  by_cases hk : k = t
  · rw [if_pos hk] at h
    rw [← Option.some.inj h, hk]
    exact ⟨Int.le_refl _, ⟨Int.le_refl _, by show (0 : Int) ≤ 10 * 0; omega⟩, by show (0 : Int) ≤ ((upN O t : Nat) : Int); omega, .self, .self⟩
  · rw [if_neg hk] at h
    cases h
theorem CoOk.next [Mdl] {O : List Im} {t v : Ve} {y : Im} {c : Co} (hO : ImsOk O) (h : CoOk O t y.v c) (hy : y ∈ tak O v) : CoOk O t v (nxC c y) ∧ 1 ≤ (nxC c y).1 := by
  obtain ⟨h1, h2, h3⟩ := mem_tak.1 hy
  have hok := hO.ok y h1
  have hu := upN_lt h1 (cov_lt hok h3)
  have hs := hok.sz
  have a1 := h.s
  have a2 := h.z
  have a3 := h.u
  refine ⟨⟨by show 0 ≤ c.1 + 1; omega, ⟨by show 0 ≤ c.2 + y.sz; omega, by show c.2 + y.sz ≤ 10 * (c.1 + 1); omega⟩, by show c.1 + 1 ≤ ((upN O v : Nat) : Int); omega, .step hy h.r, .step hy h.p⟩, by show 1 ≤ c.1 + 1; omega⟩
def phC : Option Co → Nat
  | none => 1000
  | some c => (c.1 * 100 + c.2).toNat
theorem phC_some (c : Co) : phC (some c) = (c.1 * 100 + c.2).toNat := rfl
theorem phC_le [Mdl] {O : List Im} {t k : Ve} {c : Co} (hO : ImsOk O) (h : CoOk O t k c) : phC (some c) < 1000 ∧ c.1 ≤ 8 ∧ c.2 ≤ 80 := by
  have h1 := upN_le O k
  have h2 := hO.len
  have h3 := h.u
  have h4 := h.z
  have h5 := h.s
  rw [phC_some]
  omega
theorem phC_lt [Mdl] {O : List Im} {t k k' : Ve} {a b : Co} (hO : ImsOk O) (ha : CoOk O t k a) (hb : CoOk O t k' b) (h : cmpC a b < 0) : phC (some a) < phC (some b) := by
  rw [cmpC_lt] at h
  have h1 := phC_le hO ha
  have h2 := phC_le hO hb
  have a1 := ha.s
  have a2 := ha.z
  have b1 := hb.s
  have b2 := hb.z
  rw [phC_some, phC_some] at *
  omega
def phT (O : List Im) (T : VmL) : Nat := (O.map fun x => phC (vmG x.v T)).sum
theorem sum_le {α : Type} {f g : α → Nat} : ∀ (l : List α), (∀ x ∈ l, f x ≤ g x) → (l.map f).sum ≤ (l.map g).sum
  | [], _ => Nat.le_refl _
  | x :: l, h => by
    have h1 := h x List.mem_cons_self
    have h2 := sum_le l (fun y hy => h y (List.mem_cons_of_mem _ hy))
    simp only [List.map_cons, List.sum_cons]
    omega
theorem sum_lt {α : Type} {f g : α → Nat} : ∀ (l : List α), (∀ x ∈ l, f x ≤ g x) → (∃ x ∈ l, f x < g x) → (l.map f).sum < (l.map g).sum
  | [], _, h => by obtain ⟨x, hx, _⟩ := h; cases hx
  | x :: l, h, ⟨y, hy, hl⟩ => by
    have h1 := h x List.mem_cons_self
    have h2 := sum_le l (fun y hy => h y (List.mem_cons_of_mem _ hy))
    simp only [List.map_cons, List.sum_cons]
    rcases List.mem_cons.1 hy with e | e
    · subst e; omega
    · have := sum_lt l (fun y hy => h y (List.mem_cons_of_mem _ hy)) ⟨y, e, hl⟩
      omega
/-- How an image's best cost stands after some of the images that can follow it. -/
structure BeI [Mdl] (O : List Im) (t : Ve) (T : VmL) (x : Im) (j : Nat) (b0 : Bool) (is : Bool) (c : Co) (b : Bool) : Prop where
  st : (b = b0 ∧ is = (vmG x.v T).isSome ∧ c = (vmG x.v T).getD (0, 0) ∧ ∀ y ∈ (tak O x.v).take j, ∀ d, vmG y.v T = some d → is = true ∧ ¬ cmpC (nxC d y) c < 0) ∨
    (b = true ∧ is = true ∧ CoOk O t x.v c ∧ phC (some c) < phC (vmG x.v T))
theorem BeI.zero [Mdl] {O : List Im} {t : Ve} {T : VmL} {x : Im} {b0 : Bool} : BeI O t T x 0 b0 (vmG x.v T).isSome ((vmG x.v T).getD (0, 0)) b0 := ⟨.inl ⟨rfl, rfl, rfl, fun y hy => by simp at hy⟩⟩
section
variable {O : List Im} {t : Ve} {T : VmL} {x y : Im} {j : Nat} {b0 is b : Bool} {c : Co}
theorem mem_take_succ {α : Type} {l : List α} {j : Nat} {y z : α} (h : l[j]? = some y) (hz : z ∈ l.take (j + 1)) : z ∈ l.take j ∨ z = y := by
  rw [List.take_add_one, h] at hz
  rcases List.mem_append.1 hz with h1 | h1
  · exact .inl h1
  · simp only [Option.toList, List.mem_singleton] at h1
    exact .inr h1
/-- The next one has no cost, or no better one. -/
theorem BeI.skip [Mdl] (h : BeI O t T x j b0 is c b) (hy : (tak O x.v)[j]? = some y) (hn : ∀ d, vmG y.v T = some d → is = true ∧ ¬ cmpC (nxC d y) c < 0) : BeI O t T x (j + 1) b0 is c b := by
  rcases h.st with ⟨h1, h2, h3, h4⟩ | h1
  · refine ⟨.inl ⟨h1, h2, h3, fun z hz => ?_⟩⟩
    rcases mem_take_succ hy hz with hz | rfl
    · exact h4 z hz
    · exact hn
  · exact ⟨.inr h1⟩
/-- The next one is better. -/
theorem BeI.take [Mdl] (h : BeI O t T x j b0 is c b) (hO : ImsOk O) (hT : TbOk O t T) (hy : y ∈ tak O x.v) {d : Co} (hd : vmG y.v T = some d) (hb : is = false ∨ cmpC (nxC d y) c < 0) : BeI O t T x (j + 1) b0 true (nxC d y) true := by
  obtain ⟨g1, g2⟩ := (hT.ok _ _ hd).next hO hy
  refine ⟨.inr ⟨rfl, rfl, g1, ?_⟩⟩
  have g3 := phC_le hO g1
  rcases h.st with ⟨h1, h2, h3, h4⟩ | ⟨h1, h2, h3, h4⟩
  · cases hx : vmG x.v T with
    | none => exact g3.1
    | some e =>
      rw [hx] at h2 h3
      rcases hb with hb | hb
      · rw [hb] at h2; cases h2
      · have e1 : c = e := h3
        rw [e1] at hb
        exact phC_lt hO g1 (hT.ok _ _ hx) hb
  · rcases hb with hb | hb
    · rw [h2] at hb; cases hb
    · exact Nat.lt_trans (phC_lt hO g1 h3 hb) h4
end
/-- How a table stands after some images of a pass. -/
structure PsI [Mdl] (O : List Im) (t : Ve) (T0 T : VmL) (i : Nat) (b : Bool) : Prop where
  ok : TbOk O t T
  le : phT O T ≤ phT O T0
  lt : b = true → phT O T < phT O T0
  no : b = false → (∀ k, vmG k T = vmG k T0) ∧ ∀ x ∈ O.take i, ∀ y ∈ tak O x.v, ∀ d, vmG y.v T0 = some d → ∃ e, vmG x.v T0 = some e ∧ ¬ cmpC (nxC d y) e < 0
theorem PsI.zero [Mdl] {O : List Im} {t : Ve} {T : VmL} (h : TbOk O t T) : PsI O t T T 0 false := ⟨h, Nat.le_refl _, (fun h => by cases h), fun _ => ⟨fun _ => rfl, fun x hx => by simp at hx⟩⟩
section
variable {O : List Im} {t : Ve} {T0 T : VmL} {x : Im} {i J : Nat} {b0 is b : Bool} {c : Co}
theorem vm_pos {v : Ve} {T : VmL} : (vmG v T).isSome = true ↔ ∃ c, vmG v T = some c := Option.isSome_iff_exists
/-- A round ends: no cost is there. -/
theorem PsI.none [Mdl] (h : PsI O t T0 T i b0) (hx : O[i]? = some x) (hJ : (tak O x.v).length ≤ J) (hb : BeI O t T x J b0 false c b) : PsI O t T0 T (i + 1) b := by
  rcases hb.st with ⟨h1, h2, h3, h4⟩ | ⟨_, h2, _⟩
  · subst h1
    refine ⟨h.ok, h.le, h.lt, fun hf => ⟨(h.no hf).1, fun z hz => ?_⟩⟩
    rcases mem_take_succ hx hz with hz | rfl
    · exact (h.no hf).2 z hz
    · intro y hy d hd
      rw [← (h.no hf).1] at hd
      have := (h4 y (by rw [List.take_of_length_le hJ]; exact hy) d hd).1
      cases this
  · cases h2
/-- A round ends: the best cost is put into the table. -/
theorem PsI.put [Mdl] (h : PsI O t T0 T i b0) (_hO : ImsOk O) (hx : O[i]? = some x) (hJ : (tak O x.v).length ≤ J) (hb : BeI O t T x J b0 true c b) : PsI O t T0 (vmU x.v c T) (i + 1) b := by
  have hxm := List.mem_of_getElem? hx
  rcases hb.st with ⟨h1, h2, h3, h4⟩ | ⟨h1, _, h3, h4⟩
  · subst h1
    obtain ⟨d, hd⟩ := vm_pos.1 h2.symm
    rw [hd] at h3
    have hcd : c = d := h3
    subst hcd
    have hsame : ∀ k, vmG k (vmU x.v c T) = vmG k T := by
      intro k
      rw [vmG_U]
      by_cases hk : k = x.v
      · rw [if_pos hk, hk, hd]
      · rw [if_neg hk]
    have hph : phT O (vmU x.v c T) = phT O T := by unfold phT; simp only [hsame]
    refine ⟨⟨by rw [hsame]; exact h.ok.top, fun k e he => h.ok.ok k e (by rw [← hsame]; exact he)⟩, by rw [hph]; exact h.le, fun hf => by rw [hph]; exact h.lt hf, fun hf => ⟨fun k => by rw [hsame]; exact (h.no hf).1 k, fun z hz => ?_⟩⟩
    rcases mem_take_succ hx hz with hz | rfl
    · exact (h.no hf).2 z hz
    · intro y hy d' hd'
      rw [← (h.no hf).1] at hd'
      have h5 := (h4 y (by rw [List.take_of_length_le hJ]; exact hy) d' hd').2
      exact ⟨c, by rw [← (h.no hf).1, hd], h5⟩
  · have hmem : ∀ y ∈ O, phC (vmG y.v (vmU x.v c T)) ≤ phC (vmG y.v T) := by
      intro y _
      rw [vmG_U]
      by_cases hk : y.v = x.v
      · rw [if_pos hk, hk]; omega
      · rw [if_neg hk]; exact Nat.le_refl _
    have hph : phT O (vmU x.v c T) < phT O T := sum_lt O hmem ⟨x, hxm, by rw [vmG_U, if_pos rfl]; exact h4⟩
    have hle := h.le
    refine ⟨⟨?_, fun k e he => ?_⟩, by omega, fun _ => by omega, fun hf => by rw [h1] at hf; cases hf⟩
    · rw [vmG_U]
      by_cases hk : t = x.v
      · rw [← hk, h.ok.top] at h4
        rw [phC_some, phC_some] at h4
        omega
      · rw [if_neg hk]; exact h.ok.top
    · rw [vmG_U] at he
      by_cases hk : k = x.v
      · rw [if_pos hk] at he
        rw [← Option.some.inj he, hk]
        exact h3
      · rw [if_neg hk] at he
        exact h.ok.ok k e he
end
/-- What a table says at its end. -/
structure CoEnd [Mdl] (L : List Im) (t : Ve) (T : VmL) : Prop where
  top : vmG t T = some (0, 0)
  ok : ∀ k c, vmG k T = some c → (0 ≤ c.1 ∧ c.1 ≤ 8) ∧ 0 ≤ c.2 ∧ c.2 ≤ 80
  rc : ∀ x ∈ L, hasM x = true → ((vmG x.v T).isSome = true ↔ Rch L t x.v)
  pc : ∀ k c, vmG k T = some c → PathC (ownI L) t k c
  mn : ∀ x ∈ ownI L, ∀ y ∈ tak (ownI L) x.v, ∀ d, vmG y.v T = some d → ∃ e, vmG x.v T = some e ∧ ¬ cmpC (nxC d y) e < 0
theorem PsI.done [Mdl] {L : List Im} {t : Ve} {T0 T : VmL} {n : Nat} (hL : ImsOk L) (h : PsI (ownI L) t T0 T n false) (hn : (ownI L).length ≤ n) : CoEnd L t T := by
  obtain ⟨h1, h2⟩ := h.no rfl
  have hO : ImsOk (ownI L) := hL.filter _
  have h2' : ∀ x ∈ ownI L, ∀ y ∈ tak (ownI L) x.v, ∀ d, vmG y.v T = some d → ∃ e, vmG x.v T = some e ∧ ¬ cmpC (nxC d y) e < 0 := fun x hx y hy d hd => by
    obtain ⟨e, he, hn2⟩ := h2 x (by rw [List.take_of_length_le hn]; exact hx) y hy d (by rw [← h1]; exact hd)
    exact ⟨e, by rw [h1]; exact he, hn2⟩
  refine ⟨h.ok.top, fun k c hk => ?_, fun x hx hm => ?_, fun k c hk => (h.ok.ok k c hk).p, h2'⟩
  · have h3 := h.ok.ok k c hk
    have h4 := phC_le hO h3
    exact ⟨⟨h3.s, h4.2.1⟩, h3.z.1, h4.2.2⟩
  · have hxo : x ∈ ownI L := List.mem_filter.2 ⟨hx, hm⟩
    constructor
    · intro hs
      obtain ⟨c, hc⟩ := vm_pos.1 hs
      exact Rch.own.1 (h.ok.ok _ c hc).r
    · intro hr
      have hr' := Rch.own.2 hr
      have key : ∀ v, Rch (ownI L) t v → ∀ x ∈ ownI L, x.v = v → (vmG x.v T).isSome = true := by
        intro v hv
        induction hv with
        | self => intro x _ e; rw [e, h.ok.top]; rfl
        | step hy hr ih =>
          intro x hx e
          obtain ⟨d, hd⟩ := vm_pos.1 (ih _ (mem_tak.1 hy).1 rfl)
          obtain ⟨e', he', _⟩ := h2' x hx _ (by rw [e]; exact hy) d hd
          rw [he']
          rfl
      exact key _ hr' x hxo rfl
theorem PathC.le [Mdl] {L : List Im} {t : Ve} {T : VmL} (h : CoEnd L t T) {v : Ve} {p : Co} (hp : PathC (ownI L) t v p) : ∀ x ∈ ownI L, x.v = v → ∃ c, vmG x.v T = some c ∧ ¬ cmpC p c < 0 := by
  induction hp with
  | self =>
    intro x _ e
    rw [e, h.top]
    exact ⟨_, rfl, by rw [cmpC_lt]; omega⟩
  | step hy hp ih =>
    intro x hx e
    obtain ⟨d, hd, hle⟩ := ih _ (mem_tak.1 hy).1 rfl
    obtain ⟨c, hc, hle2⟩ := h.mn x hx _ (by rw [e]; exact hy) d hd
    refine ⟨c, hc, ?_⟩
    rw [cmpC_lt] at hle hle2 ⊢
    unfold nxC at *
    simp only at *
    omega
/-- The table is determined. -/
theorem CoEnd.le [Mdl] {L : List Im} {t : Ve} {T T' : VmL} (h : CoEnd L t T) (h' : CoEnd L t T') {x : Im} (hx : x ∈ ownI L) {c : Co} (hc : vmG x.v T' = some c) : ∃ d, vmG x.v T = some d ∧ ¬ cmpC c d < 0 :=
  (h'.pc _ _ hc).le h x hx rfl
theorem CoEnd.uniq [Mdl] {L : List Im} {t : Ve} {T T' : VmL} (h : CoEnd L t T) (h' : CoEnd L t T') {x : Im} (hx : x ∈ ownI L) : vmG x.v T = vmG x.v T' := by
  cases hc : vmG x.v T' with
  | none =>
    cases hd : vmG x.v T with
    | none => rfl
    | some d =>
      obtain ⟨e, he, _⟩ := h'.le h hx hd
      rw [hc] at he
      cases he
  | some c =>
    obtain ⟨d, hd, h1⟩ := h.le h' hx hc
    obtain ⟨e, he, h2⟩ := h'.le h hx hd
    rw [hc] at he
    cases he
    rw [hd]
    rw [cmpC_lt] at h1 h2
    obtain ⟨c1, c2⟩ := c
    obtain ⟨d1, d2⟩ := d
    simp only at h1 h2
    rw [show d1 = c1 by omega, show d2 = c2 by omega]
/-- The best next image: the first of the best ones. -/
def nxF (T : VmL) (s : Option (Im × Co)) (y : Im) : Option (Im × Co) :=
  match vmG y.v T with
  | none => s
  | some d => match s with
    | none => some (y, nxC d y)
    | some (z, b) => if cmpC (nxC d y) b < 0 then some (y, nxC d y) else some (z, b)
def nxB (T : VmL) (l : List Im) : Option (Im × Co) := l.foldl (nxF T) none
theorem nxB_snoc {T : VmL} {l : List Im} {j : Nat} {y : Im} (h : l[j]? = some y) : nxB T (l.take (j + 1)) = nxF T (nxB T (l.take j)) y := by
  unfold nxB
  rw [List.take_add_one, h, List.foldl_append]
  rfl
theorem nxB_none {T : VmL} : ∀ {l : List Im}, (∀ y ∈ l, vmG y.v T = none) → nxB T l = none := by
  intro l
  unfold nxB
  induction l with
  | nil => intro _; rfl
  | cons y l ih =>
    intro h
    rw [List.foldl_cons, show nxF T none y = none from by unfold nxF; rw [h y List.mem_cons_self]]
    exact ih fun z hz => h z (List.mem_cons_of_mem _ hz)
theorem nxB_same {T T' : VmL} : ∀ {l : List Im} (s : Option (Im × Co)), (∀ y ∈ l, vmG y.v T = vmG y.v T') → l.foldl (nxF T) s = l.foldl (nxF T') s
  | [], _, _ => rfl
  | y :: l, s, h => by
    rw [List.foldl_cons, List.foldl_cons, show nxF T s y = nxF T' s y from by unfold nxF; rw [h y List.mem_cons_self]]
    exact nxB_same _ fun z hz => h z (List.mem_cons_of_mem _ hz)
end Go.Proofs.YtidgicbhgnbidaaGreatDoor
