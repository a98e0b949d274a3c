/- Several texts in one: SgA, LaySG, SgS, Dl2, SgF, SgO, Qp, Qst, SgG. -/
import Derived.Test.YtgdnedhcbjonkaaGreatDoorMgB
import Derived.Test.YtgdnedhcbjonkaaGreatDoorMgA
import Derived.Test.YtgdnedhcbjonkaaGreatDoorMgC
import Derived.Test.YtgdnedhcbjonkaaGreatDoorProg
import Derived.Shelf.SlSortCmp.SmallK

/- The order of signals: fleetref1.SignalOrder and alarm.byMoment. -/
namespace Go.Proofs.YtgdnedhcbjonkaaGreatDoor
open Go.RowKit Go.Shelf Go.Sort

instance : Inhabited Sg := ⟨⟨0, 0, 0, 0, 0, 0⟩⟩
def cbT (a b : ByteArray) : Int := Lib.compareBytes a.data.toList b.data.toList
theorem ald_min (i : Nat) : aldT i = aldT (min i 2) := by
  match i with
  | 0 => rfl
  | 1 => rfl
  | 2 => rfl
  | n + 3 => rw [show min (n + 3) 2 = 2 by omega]; rfl
theorem alr_min (i : Nat) : alrT i = alrT (min i 1) := by
  match i with
  | 0 => rfl
  | 1 => rfl
  | n + 2 => rw [show min (n + 2) 1 = 1 by omega]; rfl
theorem ald_cmpM (i j : Nat) : cbT (aldT i) (aldT j) = cmpI ((min i 2 : Nat) : Int) ((min j 2 : Nat) : Int) := by
  rw [ald_min i, ald_min j]
  have h1 : min i 2 = 0 ∨ min i 2 = 1 ∨ min i 2 = 2 := by omega
  have h2 : min j 2 = 0 ∨ min j 2 = 1 ∨ min j 2 = 2 := by omega
  rcases h1 with h | h | h <;> rw [h] <;> rcases h2 with h | h | h <;> rw [h] <;> rfl
theorem alr_cmpM (i j : Nat) : cbT (alrT i) (alrT j) = cmpI ((min i 1 : Nat) : Int) ((min j 1 : Nat) : Int) := by
  rw [alr_min i, alr_min j]
  have h1 : min i 1 = 0 ∨ min i 1 = 1 := by omega
  have h2 : min j 1 = 0 ∨ min j 1 = 1 := by omega
  rcases h1 with h | h <;> rw [h] <;> rcases h2 with h | h <;> rw [h] <;> rfl
/-- How two signals lie. -/
def sgCmp (x y : Sg) : Int := orI [cmpI x.at_ y.at_, cbT (aldT x.d) (aldT y.d), cbT (alrT x.r) (alrT y.r), cmpI x.kd y.kd]
def SgL (x y : Sg) : Prop := x.at_ < y.at_ ∨ x.at_ = y.at_ ∧ (min x.d 2 < min y.d 2 ∨ min x.d 2 = min y.d 2 ∧ (min x.r 1 < min y.r 1 ∨ min x.r 1 = min y.r 1 ∧ x.kd < y.kd))
theorem sgCmp_lt (x y : Sg) : sgCmp x y < 0 ↔ SgL x y := by
  unfold sgCmp SgL
  rw [ald_cmpM, alr_cmpM]
  simp only [orI, cmpI]
  repeat' split
  all_goals omega
theorem sgCmp_gt (x y : Sg) : 0 < sgCmp x y ↔ SgL y x := by
  unfold sgCmp SgL
  rw [ald_cmpM, alr_cmpM]
  simp only [orI, cmpI]
  repeat' split
  all_goals omega
set_option maxRecDepth 100000 in
set_option maxHeartbeats 1000000 in
theorem signalOrder_grow (x y : Sg) (w : World) : Calls Tryz.prog 26 #[.agg (sgC x).toArray, .agg (sgC y).toArray] w fun e w' => e = .returned (.int .i64 (sgCmp x y)) ∧ ∃ q os', w' = grow (w.drewN q) os' := by
  have HD := Lib.hid (fun V => scompare_any (aldT x.d) (aldT y.d) V)
  have HR := Lib.hid (fun V => scompare_any (alrT x.r) (alrT y.r) V)
  have HC := Lib.hid (fun V => compare_any x.at_ y.at_ V)
  have HK := Lib.hid (fun V => compare_any x.kd y.kd V)
  show Calls Tryz.prog 26 #[.agg #[.int .i64 x.at_, .int .i64 x.kd, .string (aldT x.d), .string (alrT x.r), .string (alwT x.b), .int .i64 x.un], .agg #[.int .i64 y.at_, .int .i64 y.kd, .string (aldT y.d), .string (alrT y.r), .string (alwT y.b), .int .i64 y.un]] w _
  unfold sgCmp cbT
  generalize Lib.compareBytes (aldT x.d).data.toList (aldT y.d).data.toList = r1 at HD ⊢
  generalize Lib.compareBytes (alrT x.r).data.toList (alrT y.r).data.toList = r2 at HR ⊢
  generalize cmpI x.at_ y.at_ = r0 at HC ⊢
  generalize cmpI x.kd y.kd = r3 at HK ⊢
  obtain ⟨x0, x1, xd, xr, xb, x5⟩ := x
  obtain ⟨y0, y1, yd, yr, yb, y5⟩ := y
  simp only at HC HD HR HK ⊢
  generalize aldT xd = x2 at HD ⊢
  generalize aldT yd = y2 at HD ⊢
  generalize alrT xr = x3 at HR ⊢
  generalize alrT yr = y3 at HR ⊢
  generalize alwT xb = x4
  generalize alwT yb = y4
  go_enter Tryz.func26, Tryz.ntmps26
  go_wp2_with (fail)
  generalize hW : ((w.alloc (.cells #[.int .i64 x0, .int .i64 x1, .string x2, .string x3, .string x4, .int .i64 x5] 47)).alloc (.cells #[.int .i64 y0, .int .i64 y1, .string y2, .string y3, .string y4, .int .i64 y5] 47)) = W
  have hG : W = grow (w.drewN 0) #[.cells #[.int .i64 x0, .int .i64 x1, .string x2, .string x3, .string x4, .int .i64 x5] 47, .cells #[.int .i64 y0, .int .i64 y1, .string y2, .string y3, .string y4, .int .i64 y5] 47] := by rw [← hW, alloc_eq_grow, alloc_eq_grow, grow_grow]; rfl
  have hx : W.heap[w.heap.size]? = some (.cells #[.int .i64 x0, .int .i64 x1, .string x2, .string x3, .string x4, .int .i64 x5] 47) := by
    rw [← hW, Below.heap_alloc _ _ _ (by simp)]; exact heap_new w _
  have hy : W.heap[w.heap.size + 1]? = some (.cells #[.int .i64 y0, .int .i64 y1, .string y2, .string y3, .string y4, .int .i64 y5] 47) := by
    rw [← hW]; have := heap_new (w.alloc (.cells #[.int .i64 x0, .int .i64 x1, .string x2, .string x3, .string x4, .int .i64 x5] 47)) (.cells #[.int .i64 y0, .int .i64 y1, .string y2, .string y3, .string y4, .int .i64 y5] 47); simpa using this
  have p0 : W.cell? ⟨w.heap.size, 0, none⟩ = some (.int .i64 x0) := cell_of_blk hx rfl
  have p1 : W.cell? ⟨w.heap.size, 1, none⟩ = some (.int .i64 x1) := cell_of_blk hx rfl
  have p2 : W.cell? ⟨w.heap.size, 2, none⟩ = some (.string x2) := cell_of_blk hx rfl
  have p3 : W.cell? ⟨w.heap.size, 3, none⟩ = some (.string x3) := cell_of_blk hx rfl
  have q0 : W.cell? ⟨w.heap.size + 1, 0, none⟩ = some (.int .i64 y0) := cell_of_blk hy rfl
  have q1 : W.cell? ⟨w.heap.size + 1, 1, none⟩ = some (.int .i64 y1) := cell_of_blk hy rfl
  have q2 : W.cell? ⟨w.heap.size + 1, 2, none⟩ = some (.string y2) := cell_of_blk hy rfl
  have q3 : W.cell? ⟨w.heap.size + 1, 3, none⟩ = some (.string y3) := cell_of_blk hy rfl
  have HG := Lib.hid hG
  clear hW hx hy hG
  refine wp_region_still_tail 20 (by kernel_rfl) (by kernel_rfl) ?_
  simp only [List.take_succ_cons, List.take_zero, List.drop_succ_cons, List.drop_zero]
  change wpStill _ _ W.drew _ _ _
  repeat still_step
  still_call (flip_ (HC.out _))
  repeat still_step
  still_call (flip_ (HD.out _))
  repeat still_step
  still_call (flip_ (HR.out _))
  repeat still_step
  still_call (flip_ (HK.out _))
  try refine wpStill_nil ?_
  have hsz' : W.drew.heap.size = W.heap.size := rfl
  go_wp2_with (fail)
  have hcs : Cells (W.alloc (.cells #[.int .i64 r0, .int .i64 r1, .int .i64 r2, .int .i64 r3] 3)).drew W.heap.size 0 ([r0, r1, r2, r3].map (Value.int .i64)) := Cells.new W #[.int .i64 r0, .int .i64 r1, .int .i64 r2, .int .i64 r3] 3 (0, 0) _ rfl
  refine (or_any [r0, r1, r2, r3] 4 4 W.heap.size _ rfl (by omega) hcs).mono ?_
  rintro e w' ⟨rfl, rfl⟩
  go_wp2_with (fail)
  go_ret
  refine ⟨rfl, 1, #[.cells #[.int .i64 x0, .int .i64 x1, .string x2, .string x3, .string x4, .int .i64 x5] 47, .cells #[.int .i64 y0, .int .i64 y1, .string y2, .string y3, .string y4, .int .i64 y5] 47] ++ #[.cells #[.int .i64 r0, .int .i64 r1, .int .i64 r2, .int .i64 r3] 3], ?_⟩
  rw [HG.out, alloc_eq_grow, grow_grow]
  rfl
set_option maxRecDepth 100000 in
set_option maxHeartbeats 1000000 in
theorem byMoment_grow (x y : Sg) (w : World) : Calls Tryz.prog 47 #[.agg (sgC x).toArray, .agg (sgC y).toArray] w fun e w' => e = .returned (.int .i64 (sgCmp x y)) ∧ ∃ q os', w' = grow (w.drewN q) os' := by
  have HD := Lib.hid (fun V => scompare_any (aldT x.d) (aldT y.d) V)
  have HR := Lib.hid (fun V => scompare_any (alrT x.r) (alrT y.r) V)
  have HC := Lib.hid (fun V => compare_any x.at_ y.at_ V)
  have HK := Lib.hid (fun V => compare_any x.kd y.kd V)
  show Calls Tryz.prog 47 #[.agg #[.int .i64 x.at_, .int .i64 x.kd, .string (aldT x.d), .string (alrT x.r), .string (alwT x.b), .int .i64 x.un], .agg #[.int .i64 y.at_, .int .i64 y.kd, .string (aldT y.d), .string (alrT y.r), .string (alwT y.b), .int .i64 y.un]] w _
  unfold sgCmp cbT
  generalize Lib.compareBytes (aldT x.d).data.toList (aldT y.d).data.toList = r1 at HD ⊢
  generalize Lib.compareBytes (alrT x.r).data.toList (alrT y.r).data.toList = r2 at HR ⊢
  generalize cmpI x.at_ y.at_ = r0 at HC ⊢
  generalize cmpI x.kd y.kd = r3 at HK ⊢
  obtain ⟨x0, x1, xd, xr, xb, x5⟩ := x
  obtain ⟨y0, y1, yd, yr, yb, y5⟩ := y
  simp only at HC HD HR HK ⊢
  generalize aldT xd = x2 at HD ⊢
  generalize aldT yd = y2 at HD ⊢
  generalize alrT xr = x3 at HR ⊢
  generalize alrT yr = y3 at HR ⊢
  generalize alwT xb = x4
  generalize alwT yb = y4
  go_enter Tryz.func47, Tryz.ntmps47
  go_wp2_with (fail)
  generalize hW : ((w.alloc (.cells #[.int .i64 x0, .int .i64 x1, .string x2, .string x3, .string x4, .int .i64 x5] 47)).alloc (.cells #[.int .i64 y0, .int .i64 y1, .string y2, .string y3, .string y4, .int .i64 y5] 47)) = W
  have hG : W = grow (w.drewN 0) #[.cells #[.int .i64 x0, .int .i64 x1, .string x2, .string x3, .string x4, .int .i64 x5] 47, .cells #[.int .i64 y0, .int .i64 y1, .string y2, .string y3, .string y4, .int .i64 y5] 47] := by rw [← hW, alloc_eq_grow, alloc_eq_grow, grow_grow]; rfl
  have hx : W.heap[w.heap.size]? = some (.cells #[.int .i64 x0, .int .i64 x1, .string x2, .string x3, .string x4, .int .i64 x5] 47) := by
    rw [← hW, Below.heap_alloc _ _ _ (by simp)]; exact heap_new w _
  have hy : W.heap[w.heap.size + 1]? = some (.cells #[.int .i64 y0, .int .i64 y1, .string y2, .string y3, .string y4, .int .i64 y5] 47) := by
    rw [← hW]; have := heap_new (w.alloc (.cells #[.int .i64 x0, .int .i64 x1, .string x2, .string x3, .string x4, .int .i64 x5] 47)) (.cells #[.int .i64 y0, .int .i64 y1, .string y2, .string y3, .string y4, .int .i64 y5] 47); simpa using this
  have p0 : W.cell? ⟨w.heap.size, 0, none⟩ = some (.int .i64 x0) := cell_of_blk hx rfl
  have p1 : W.cell? ⟨w.heap.size, 1, none⟩ = some (.int .i64 x1) := cell_of_blk hx rfl
  have p2 : W.cell? ⟨w.heap.size, 2, none⟩ = some (.string x2) := cell_of_blk hx rfl
  have p3 : W.cell? ⟨w.heap.size, 3, none⟩ = some (.string x3) := cell_of_blk hx rfl
  have q0 : W.cell? ⟨w.heap.size + 1, 0, none⟩ = some (.int .i64 y0) := cell_of_blk hy rfl
  have q1 : W.cell? ⟨w.heap.size + 1, 1, none⟩ = some (.int .i64 y1) := cell_of_blk hy rfl
  have q2 : W.cell? ⟨w.heap.size + 1, 2, none⟩ = some (.string y2) := cell_of_blk hy rfl
  have q3 : W.cell? ⟨w.heap.size + 1, 3, none⟩ = some (.string y3) := cell_of_blk hy rfl
  have HG := Lib.hid hG
  clear hW hx hy hG
  refine wp_region_still_tail 20 (by kernel_rfl) (by kernel_rfl) ?_
  simp only [List.take_succ_cons, List.take_zero, List.drop_succ_cons, List.drop_zero]
  change wpStill _ _ W.drew _ _ _
  repeat still_step
  still_call (flip_ (HC.out _))
  repeat still_step
  still_call (flip_ (HD.out _))
  repeat still_step
  still_call (flip_ (HR.out _))
  repeat still_step
  still_call (flip_ (HK.out _))
  try refine wpStill_nil ?_
  have hsz' : W.drew.heap.size = W.heap.size := rfl
  go_wp2_with (fail)
  have hcs : Cells (W.alloc (.cells #[.int .i64 r0, .int .i64 r1, .int .i64 r2, .int .i64 r3] 3)).drew W.heap.size 0 ([r0, r1, r2, r3].map (Value.int .i64)) := Cells.new W #[.int .i64 r0, .int .i64 r1, .int .i64 r2, .int .i64 r3] 3 (0, 0) _ rfl
  refine (or_any [r0, r1, r2, r3] 4 4 W.heap.size _ rfl (by omega) hcs).mono ?_
  rintro e w' ⟨rfl, rfl⟩
  go_wp2_with (fail)
  go_ret
  refine ⟨rfl, 1, #[.cells #[.int .i64 x0, .int .i64 x1, .string x2, .string x3, .string x4, .int .i64 x5] 47, .cells #[.int .i64 y0, .int .i64 y1, .string y2, .string y3, .string y4, .int .i64 y5] 47] ++ #[.cells #[.int .i64 r0, .int .i64 r1, .int .i64 r2, .int .i64 r3] 3], ?_⟩
  rw [HG.out, alloc_eq_grow, grow_grow]
  rfl
/-- What has only grown stays below. -/
theorem below_grow (w : World) (q : Nat) (os : Array Obj) : Below w.heap.size w (grow (w.drewN q) os) := by
  refine ⟨rfl, rfl, rfl, by simp, fun b hb => ?_⟩
  exact (heap_grow_old _ _ (by simpa using hb)).trans rfl
end Go.Proofs.YtgdnedhcbjonkaaGreatDoor

/- The shelf's SlLaysF0.n20 at this program. -/
namespace Go.Proofs.YtgdnedhcbjonkaaGreatDoor
open Go.RowKit Go.Shelf

def laySG_ren : Go.Shelf.Ren := ⟨fun | 20 => 105 | n => n, fun | 24 => 47 | 22 => 26 | 3 => 3 | 25 => 79 | 4 => 4 | 0 => 0 | n => n, fun  | n => n⟩
theorem laySG : SlLaysF0.n20 Tryz.prog laySG_ren := {
  mixed := by kernel_rfl,
  f20 := ⟨Tryz.f105.name, by kernel_rfl, Tryz.func105.trans (congrArg some (by kernel_rfl))⟩,
  t0 := Tryz.underlying0,
  a0 := Tryz.isAgg0,
  z0 := Tryz.sizeOf0,
  v0 := Tryz.zeroValue0,
  t3 := Tryz.underlying3,
  a3 := Tryz.isAgg3,
  z3 := Tryz.sizeOf3,
  v3 := Tryz.zeroValue3,
  t4 := Tryz.underlying4,
  a4 := Tryz.isAgg4,
  z4 := Tryz.sizeOf4,
  v4 := Tryz.zeroValue4,
  t22 := Tryz.underlying26,
  a22 := Tryz.isAgg26,
  z22 := Tryz.sizeOf26,
  v22 := Tryz.zeroValue26,
  t25 := Tryz.underlying79,
  a25 := Tryz.isAgg79,
  z25 := Tryz.sizeOf79,
  v25 := Tryz.zeroValue79 }
end Go.Proofs.YtgdnedhcbjonkaaGreatDoor

/- slices.SortStableFunc of at most 19 signals: the same signals in some order. -/
namespace Go.Proofs.YtgdnedhcbjonkaaGreatDoor
open Go.RowKit Go.Shelf Go.Sort

theorem ltSg (x y : Sg) : ltOf sgCmp x y = true ↔ SgL x y := by
  rw [← sgCmp_lt]
  unfold ltOf
  simp
theorem ltSg_no (x y : Sg) : ltOf sgCmp x y = false ↔ ¬ SgL x y := by
  rw [← ltSg]
  simp
theorem swoSg : SWO (ltOf sgCmp) where
  irrefl x := by rw [ltSg_no]; unfold SgL; omega
  trans x y z h1 h2 := by rw [ltSg] at *; unfold SgL at *; omega
  ntrans x y z h1 h2 := by rw [ltSg_no] at *; unfold SgL at *; omega
theorem insS_none (p : Option Addr) (cap : Nat) (fv : Value) (w : World) : Calls Tryz.prog 105 #[.slice p 0 cap, .int .i64 0, .int .i64 0, fv] w fun e w' => e = .returned (.tuple #[]) ∧ w' = w := by
  go_enter Tryz.func105, Tryz.ntmps105
  go_wp2_with (fail)
  refine wp_loop_rounds 1 ?_
  rw [rounds_succ]
  go_wp2_with (fail)
  go_end0
  exact ⟨rfl, rfl⟩
/-- What the stable sort makes. -/
def srtG (l : List Sg) : List Sg := (Sort.insertionSort (ltOf sgCmp) l.toArray 0 l.length).toList
def SortSPost (l : List Sg) (n base : Nat) (v : Value) (w : World) (e : Ending) (w' : World) : Prop :=
  e = .returned (.tuple #[]) ∧ ∃ m : List Sg, m.Perm l ∧ m.length = n ∧ w'.ownsRow base 47 6 v n (recs sgC m) ∧ w.grownBy w' v.ownBlock ∧ m = srtG l
theorem insS_any (l : List Sg) (n c base : Nat) (A : Option Addr) (w : World) (hn : l.length = n) (h12 : n ≤ 19) (ho : w.ownsRow base 47 6 (.slice A n c) n (recs sgC l)) :
    Calls Tryz.prog 105 #[.slice A n c, .int .i64 0, .int .i64 (n : Int), .func (.func 26) #[] #[]] w fun e w' => SortSPost l n base (.slice A n c) w e w' := by
  rcases own_two ho with ⟨rfl, rfl, rfl⟩ | ⟨b, rfl, hb, hlt⟩
  · refine (insS_none none 0 _ w).mono ?_
    rintro e w' ⟨rfl, rfl⟩
    have hl := List.eq_nil_of_length_eq_zero hn
    subst hl
    exact ⟨rfl, [], List.Perm.refl _, rfl, ho, grown_refl _ _, by simp [srtG, Sort.insertionSort, Sort.insOuter]⟩
  · have eg : ∀ args w, (callFunc 26 args).run Tryz.prog w = .ok (.enter 26 args) w := enters_of Tryz.func26 (by kernel_rfl) rfl
    have hcmp : CmpLays Tryz.prog 26 #[] sgC 6 sgCmp b 0 l.toArray.size w := fun m os dk _ x y => signalOrder_grow x y _
    have h := AnyQ.insertionSortCmpFunc laySG 6 Tryz.isAgg47 Tryz.sizeOf47 sgC sgC_len sgC_one sgCmp 26 #[] b 0 c 0 l.toArray.size l.toArray w eg hcmp (holdsK_of_own sgC_len ho hn) hlt (Nat.zero_le _) (Nat.le_refl _) (by simp; omega)
    have hsz : l.toArray.size = n := by simpa using hn
    have hins := insertionSort_holds (lt := ltOf sgCmp) swoSg l.toArray 0 l.toArray.size (Nat.zero_le _) (Nat.le_refl _)
    rw [hsz] at h
    refine h.mono ?_
    rintro e w' ⟨rfl, q, os, rfl⟩
    obtain ⟨h1, h2, h3⟩ := sorted_list hins.1 hins.2
    rw [hsz] at h1 h2 h3
    obtain ⟨m, hm⟩ : ∃ m : List Sg, Sort.insertionSort (ltOf sgCmp) l.toArray 0 n = m.toArray := ⟨(Sort.insertionSort (ltOf sgCmp) l.toArray 0 n).toList, by simp⟩
    have hsr : m = srtG l := by unfold srtG; rw [hn, hm]
    rw [hm] at h1 h2 h3 ⊢
    exact ⟨rfl, m, by simpa using h1, by simpa [hn] using h2, own_sortedK sgC_len ho (by simpa [hn] using h2) q os, grown_sortedK _, hsr⟩
set_option maxRecDepth 100000 in
theorem sortStableS_any (l : List Sg) (n c base : Nat) (A : Option Addr) (w : World) (hn : l.length = n) (h12 : n ≤ 19) (ho : w.ownsRow base 47 6 (.slice A n c) n (recs sgC l)) :
    Calls Tryz.prog 25 #[.slice A n c, .func (.func 26) #[] #[]] w fun e w' => SortSPost l n base (.slice A n c) w e w' := by
  have HI := Lib.hid (insS_any l n c base A w hn h12 ho)
  have h1 : ¬ (20 : Int) ≤ n := by omega
  have h2 : ¬ (20 : Int) < n := by omega
  clear ho hn
  go_enter Tryz.func25, Tryz.ntmps25
  go_wp2_with (fail)
  go_enter Tryz.func67, Tryz.ntmps67
  go_wp2_with (fail)
  refine wp_loop_rounds 1 ?_
  rw [rounds_succ]
  go_wp2_with (fail)
  refine HI.out.mono ?_
  rintro e w1 ⟨rfl, hp⟩
  have HP := Lib.hid hp
  clear hp
  go_wp2_with (fail)
  refine wp_loop_rounds 1 ?_
  rw [rounds_succ]
  go_wp2_with (fail)
  go_end0
  exact ⟨rfl, HP.out⟩
end Go.Proofs.YtgdnedhcbjonkaaGreatDoor

/- Rows of records: one record stored anew, many cleared; no program in sight. -/
namespace Go.Proofs.YtgdnedhcbjonkaaGreatDoor
open Go.RowKit

section
variable {α : Type} {f : α → List Value} {k : Nat}
theorem recs_cons (x : α) (l : List α) : recs f (x :: l) = f x ++ recs f l := by simp [recs]
theorem recs_set (hf : ∀ x, (f x).length = k) : ∀ (l : List α) (i : Nat) (x : α), i < l.length → (recs f l).take (i * k) ++ f x ++ (recs f l).drop (i * k + (f x).length) = recs f (l.set i x)
  | [], i, x, h => by simp at h
  | y :: l, 0, x, _ => by
    rw [List.set_cons_zero, recs_cons, recs_cons, Nat.zero_mul, List.take_zero, List.nil_append, Nat.zero_add, List.drop_left' (by rw [hf, hf])]
  | y :: l, i + 1, x, h => by
    have ih := recs_set hf l i x (by simpa using h)
    have e : (i + 1) * k = (f y).length + i * k := by rw [Nat.succ_mul, hf]; omega
    rw [List.set_cons_succ, recs_cons, recs_cons, e, List.take_length_add_append, Nat.add_assoc, List.drop_length_add_append, ← ih]
    simp
end
theorem run_clear_n {P : Program} (w : World) (t e : TypeId) (z : Value) (zs : List Value) (n : Nat) (ht : P.underlying t = some (.slice e)) (hv : ∀ w, (zeroValue e).run P w = .ok z w) (hz : z.cells.toList = zs) (h0 : 0 < zs.length) (h1 : ∀ u ∈ zs, u.oneCell' = true) (b o : Nat)
    (hc : ∀ j, j < n * zs.length → (w.cell? ⟨b, o + j, none⟩).isSome = true) (hf : ∀ j, j < n * zs.length → w.frozen? ⟨b, o + j, none⟩ = false) :
    ∃ vs : List Value, vs.length = n * zs.length ∧ ∀ (ty : TypeId) (c : Nat), (Builtin.clear_ #[t] ty #[.slice (some ⟨b, o, none⟩) n c]).run P w = .ok (.tuple #[]) (w.setCells b o vs) := by
  have hsz : z.cells.size = zs.length := by rw [← hz]; simp
  refine ⟨(Builtin.zeroCells z.cells n).toList, by simp [Builtin.zeroCells, hsz], ?_⟩
  have hone : ∀ u ∈ (Builtin.zeroCells z.cells n).toList, u.oneCell' = true := by
    intro u hu
    simp only [Builtin.zeroCells, Array.toList_map, List.mem_map] at hu
    obtain ⟨i, _, rfl⟩ := hu
    refine h1 _ ?_
    rw [← hz]
    have hlt : i % z.cells.size < z.cells.size := Nat.mod_lt _ (by rw [hsz]; exact h0)
    rw [getElem!_pos z.cells _ hlt]
    exact Array.getElem_mem_toList hlt
  have hlen : (Builtin.zeroCells z.cells n).toList.length = n * zs.length := by simp [Builtin.zeroCells, hsz]
  intro ty c
  have hst := run_storeCells_cells (P := P) b o (Builtin.zeroCells z.cells n).toList 0 w (by rw [hlen]; simpa using hc) (by rw [hlen]; simpa using hf) hone
  simp only [Nat.add_zero] at hst
  cases n with
  | zero => simp [Builtin.clear_, run_underlying ht, Builtin.zeroCells, World.setCells]
  | succ m => simp [Builtin.clear_, run_underlying ht, hv, hst]
end Go.Proofs.YtgdnedhcbjonkaaGreatDoor

/- slices.CompactFunc of signals: some of them, in the same memory. -/
namespace Go.Proofs.YtgdnedhcbjonkaaGreatDoor
open Go.RowKit Go.Shelf Go.Sort

def SgAt (V : World) (b o : Nat) (x : Sg) : Prop :=
  V.cell? ⟨b, o, none⟩ = some (.int .i64 x.at_) ∧ V.cell? ⟨b, o + 1, none⟩ = some (.int .i64 x.kd) ∧ V.cell? ⟨b, o + 2, none⟩ = some (.string (aldT x.d)) ∧ V.cell? ⟨b, o + 3, none⟩ = some (.string (alrT x.r)) ∧ V.cell? ⟨b, o + 4, none⟩ = some (.string (alwT x.b)) ∧ V.cell? ⟨b, o + 5, none⟩ = some (.int .i64 x.un)
theorem sg_cells {w : World} {b o : Nat} {l : List Sg} (h : Cells w b o (recs sgC l)) (i : Nat) (x : Sg) (hx : l[i]? = some x) : SgAt w b (o + i * 6) x :=
  ⟨rec_cell sgC_len h i x hx 0 _ rfl, rec_cell sgC_len h i x hx 1 _ rfl, rec_cell sgC_len h i x hx 2 _ rfl, rec_cell sgC_len h i x hx 3 _ rfl, rec_cell sgC_len h i x hx 4 _ rfl, rec_cell sgC_len h i x hx 5 _ rfl⟩
theorem SgAt.below {V V' : World} {b o : Nat} {x : Sg} {B : Nat} (h : SgAt V b o x) (hb : Below B V V') (hB : b < B) : SgAt V' b o x := by
  obtain ⟨h0, h1, h2, h3, h4, h5⟩ := h
  exact ⟨(hb.cell (p := ⟨b, o, none⟩) hB).trans h0, (hb.cell (p := ⟨b, o + 1, none⟩) hB).trans h1, (hb.cell (p := ⟨b, o + 2, none⟩) hB).trans h2, (hb.cell (p := ⟨b, o + 3, none⟩) hB).trans h3, (hb.cell (p := ⟨b, o + 4, none⟩) hB).trans h4, (hb.cell (p := ⟨b, o + 5, none⟩) hB).trans h5⟩
def SgAt2 (V : World) (b o : Nat) (x : Sg) (o2 : Nat) (y : Sg) : Prop :=
  V.cell? ⟨b, o, none⟩ = some (.int .i64 x.at_) ∧ V.cell? ⟨b, o + 1, none⟩ = some (.int .i64 x.kd) ∧ V.cell? ⟨b, o + 2, none⟩ = some (.string (aldT x.d)) ∧ V.cell? ⟨b, o + 3, none⟩ = some (.string (alrT x.r)) ∧ V.cell? ⟨b, o + 4, none⟩ = some (.string (alwT x.b)) ∧ V.cell? ⟨b, o + 5, none⟩ = some (.int .i64 x.un) ∧ V.cell? ⟨b, o2, none⟩ = some (.int .i64 y.at_) ∧ V.cell? ⟨b, o2 + 1, none⟩ = some (.int .i64 y.kd) ∧ V.cell? ⟨b, o2 + 2, none⟩ = some (.string (aldT y.d)) ∧ V.cell? ⟨b, o2 + 3, none⟩ = some (.string (alrT y.r)) ∧ V.cell? ⟨b, o2 + 4, none⟩ = some (.string (alwT y.b)) ∧ V.cell? ⟨b, o2 + 5, none⟩ = some (.int .i64 y.un)
theorem sgAt2 {V : World} {b o o2 : Nat} {x y : Sg} (h : SgAt V b o x) (k : SgAt V b o2 y) : SgAt2 V b o x o2 y :=
  ⟨h.1, h.2.1, h.2.2.1, h.2.2.2.1, h.2.2.2.2.1, h.2.2.2.2.2, k.1, k.2.1, k.2.2.1, k.2.2.2.1, k.2.2.2.2.1, k.2.2.2.2.2⟩
set_option maxRecDepth 100000 in
theorem sameS_any (x y : Sg) (w : World) : Calls Tryz.prog 29 #[.agg #[.int .i64 x.at_, .int .i64 x.kd, .string (aldT x.d), .string (alrT x.r), .string (alwT x.b), .int .i64 x.un], .agg #[.int .i64 y.at_, .int .i64 y.kd, .string (aldT y.d), .string (alrT y.r), .string (alwT y.b), .int .i64 y.un]] w fun e w' => ∃ t : Bool, t = decide (sgCmp x y = 0) ∧ e = .returned (.bool t) ∧ Below w.heap.size w w' := by
  have HG := Lib.hid (fun V => show Calls Tryz.prog 26 #[.agg #[.int .i64 x.at_, .int .i64 x.kd, .string (aldT x.d), .string (alrT x.r), .string (alwT x.b), .int .i64 x.un], .agg #[.int .i64 y.at_, .int .i64 y.kd, .string (aldT y.d), .string (alrT y.r), .string (alwT y.b), .int .i64 y.un]] V _ from signalOrder_grow x y V)
  generalize sgCmp x y = r at HG ⊢
  go_enter Tryz.func29, Tryz.ntmps29
  go_wp2_with (fail)
  refine (HG.out _).mono ?_
  rintro e w1 ⟨rfl, q, os, rfl⟩
  have hb := Lib.hid (fun (V : World) (hV : Below w.heap.size w V) => show Below w.heap.size w (grow (V.drewN q) os) from hV.trans ((below_grow V q os).mono hV.size))
  go_wp2_with (fail)
  go_ret
  exact ⟨_, by first | rfl | simp, rfl, hb.out _ (((Below.refl _ _).alloc (Nat.le_refl _) _).alloc (by simp) _)⟩
section
variable {α : Type}
/-- What is kept after j elements. -/
def CsI (l P : List α) : Prop := ∀ x ∈ P, x ∈ l
/-- What is kept after j elements, as a function. -/
def csN (sm : α → α → Bool) (l : List α) : Nat → List α
  | 0 => []
  | j + 1 => match l[j]? with
    | none => csN sm l j
    | some x => if j ≠ 0 ∧ (l[j - 1]?).any (fun y => sm x y) = true then csN sm l j else csN sm l j ++ [x]
theorem csN_one (sm : α → α → Bool) (l : List α) : csN sm l 1 = l.take 1 := by
  cases l with
  | nil => rfl
  | cons x l => simp [csN]
theorem csN_same {sm : α → α → Bool} {l : List α} {j : Nat} {x y : α} (hj : 1 ≤ j) (hx : l[j]? = some x) (hy : l[j - 1]? = some y) (h : sm x y = true) : csN sm l (j + 1) = csN sm l j := by
  rw [csN, hx]
  simp only
  rw [if_pos ⟨by omega, by rw [hy]; exact h⟩]
theorem csN_new {sm : α → α → Bool} {l : List α} {j : Nat} {x y : α} (hx : l[j]? = some x) (hy : l[j - 1]? = some y) (h : sm x y = false) : csN sm l (j + 1) = csN sm l j ++ [x] := by
  rw [csN, hx]
  simp only
  rw [if_neg (fun hh => by have := hh.2; rw [hy] at this; rw [Option.any_some, h] at this; cases this)]
def CsJ (sm : α → α → Bool) (l P : List α) (j : Nat) : Prop := CsI l P ∧ P = csN sm l j
theorem CsJ.same {sm : α → α → Bool} {l P : List α} {j : Nat} {x y : α} (h : CsJ sm l P j) (hj : 1 ≤ j) (hx : l[j]? = some x) (hy : l[j - 1]? = some y) (hs : true = sm x y) : CsJ sm l P (j + 1) :=
  ⟨h.1, by rw [csN_same hj hx hy hs.symm]; exact h.2⟩
/-- What the row holds. -/
def csR (l P : List α) : List α := P ++ l.drop P.length
theorem csR_len {l P : List α} (h : P.length ≤ l.length) : (csR l P).length = l.length := by
  unfold csR
  rw [List.length_append, List.length_drop]; omega
theorem csR_get {l P : List α} {j : Nat} (h : P.length ≤ j) : (csR l P)[j]? = l[j]? := by
  unfold csR
  rw [List.getElem?_append_right h, List.getElem?_drop]
  congr 1; omega
theorem csR_take (l : List α) (k : Nat) (h : k ≤ l.length) : csR l (l.take k) = l := by
  unfold csR
  rw [List.length_take, Nat.min_eq_left h, List.take_append_drop]
theorem csR_set {l P : List α} {x : α} (h : P.length < l.length) : (csR l P).set P.length x = csR l (P ++ [x]) := by
  unfold csR
  rw [List.set_append_right _ _ (Nat.le_refl _), Nat.sub_self, List.length_append, List.length_singleton, List.append_assoc]
  congr 1
  rw [List.drop_eq_getElem_cons h, List.set_cons_zero]
  rfl
theorem CsI.new {l P : List α} {j : Nat} {x : α} (h : CsI l P) (hx : l[j]? = some x) : CsI l (P ++ [x]) := by
  intro a ha
  rw [List.mem_append, List.mem_singleton] at ha
  rcases ha with ha | rfl
  · exact h a ha
  · exact List.mem_of_getElem? hx
theorem CsI.take (l : List α) (k : Nat) : CsI l (l.take k) := fun _ h => List.mem_of_mem_take h
theorem CsJ.new {sm : α → α → Bool} {l P : List α} {j : Nat} {x y : α} (h : CsJ sm l P j) (hx : l[j]? = some x) (hy : l[j - 1]? = some y) (hs : false = sm x y) : CsJ sm l (P ++ [x]) (j + 1) :=
  ⟨h.1.new hx, by rw [csN_new hx hy hs.symm, ← h.2]⟩
theorem CsJ.newT {sm : α → α → Bool} {l : List α} {j : Nat} {x y : α} (h : CsJ sm l (l.take j) j) (hx : l[j]? = some x) (hy : l[j - 1]? = some y) (hs : false = sm x y) : CsJ sm l (l.take (j + 1)) (j + 1) := by
  have e : l.take (j + 1) = l.take j ++ [x] := by rw [List.take_add_one, hx]; rfl
  rw [e]
  exact h.new hx hy hs
theorem CsJ.one (sm : α → α → Bool) (l : List α) : CsJ sm l (l.take 1) 1 := ⟨CsI.take l 1, (csN_one sm l).symm⟩
theorem csN_few (sm : α → α → Bool) {l : List α} (h : l.length < 2) : l = csN sm l l.length := by
  match l, h with
  | [], _ => rfl
  | [x], _ => simp [csN]
end
/-- One element stored anew. -/
theorem sg_store {W : World} {base g n cap : Nat} {L : List Sg} (h : W.ownsRow base 47 6 (.slice (some ⟨g, 0, none⟩) n cap) n (recs sgC L)) (hL : L.length = n) (i : Nat) (hi : i < n) (x : Sg) :
    ((((((W.setCell ⟨g, i * 6, none⟩ (.int .i64 x.at_)).setCell ⟨g, i * 6 + 1, none⟩ (.int .i64 x.kd)).setCell ⟨g, i * 6 + 2, none⟩ (.string (aldT x.d))).setCell ⟨g, i * 6 + 3, none⟩ (.string (alrT x.r))).setCell ⟨g, i * 6 + 4, none⟩ (.string (alwT x.b))).setCell ⟨g, i * 6 + 5, none⟩ (.int .i64 x.un)).ownsRow base 47 6 (.slice (some ⟨g, 0, none⟩) n cap) n (recs sgC (L.set i x)) ∧
    W.grownBy ((((((W.setCell ⟨g, i * 6, none⟩ (.int .i64 x.at_)).setCell ⟨g, i * 6 + 1, none⟩ (.int .i64 x.kd)).setCell ⟨g, i * 6 + 2, none⟩ (.string (aldT x.d))).setCell ⟨g, i * 6 + 3, none⟩ (.string (alrT x.r))).setCell ⟨g, i * 6 + 4, none⟩ (.string (alwT x.b))).setCell ⟨g, i * 6 + 5, none⟩ (.int .i64 x.un)) (some g) := by
  have h2 := own_setCells (sgC x) (i * 6) W (recs sgC L) h (by rw [recs_length sgC_len, sgC_len, hL]; omega)
  rw [recs_set sgC_len L i x (by omega)] at h2
  exact h2
def sgSm (x y : Sg) : Bool := decide (sgCmp x y = 0)
def CsPost2 (l : List Sg) (n c base : Nat) (A : Option Addr) (w : World) (e : Ending) (w' : World) : Prop :=
  ∃ (m : List Sg) (k : Nat), e = .returned (.slice A k c) ∧ m.length = k ∧ k ≤ n ∧ (∀ x ∈ m, x ∈ l) ∧ w'.ownsRow base 47 6 (.slice A k c) k (recs sgC m) ∧ w.grownBy w' (Value.slice A n c).ownBlock ∧ m = csN sgSm l n
set_option maxRecDepth 100000 in
set_option maxHeartbeats 4000000 in
theorem compactS_any (l : List Sg) (n c base : Nat) (A : Option Addr) (w : World) (hn : l.length = n) (hn20 : n ≤ 100) (ho : w.ownsRow base 47 6 (.slice A n c) n (recs sgC l)) :
    Calls Tryz.prog 28 #[.slice A n c, .func (.func 29) #[] #[]] w fun e w' => CsPost2 l n c base A w e w' := by
  have hcap := own_cap ho
  have HL := Lib.hid hn
  have HO := Lib.hid ho
  by_cases h2 : n < 2
  · have h2I : (n : Int) < 2 := by omega
    have HF := Lib.hid (show CsPost2 l n c base A w (.returned (.slice A n c)) w from ⟨l, n, rfl, hn, Nat.le_refl _, fun x hx => hx, ho, grown_refl _ _, by rw [← hn]; exact csN_few sgSm (by omega)⟩)
    clear ho hn
    go_enter Tryz.func28, Tryz.ntmps28
    go_wp2_with (fail)
    go_ret
    exact HF.out
  · have h2I : ¬ (n : Int) < 2 := by omega
    rcases own_two ho with ⟨_, hn0, _⟩ | ⟨g, rfl, hbg, hlt⟩
    · omega
    have HCl := Lib.hid (own_cells0 ho)
    have HST := Lib.hid (CsJ.one sgSm l)
    clear ho hn
    go_enter Tryz.func28, Tryz.ntmps28
    go_wp2_with (fail)
    go_loopw [5] (fun s wr => ∃ k : Nat, 1 ≤ k ∧ k ≤ n ∧ s = .int .i64 (k : Int) ∧ Below w.heap.size w wr ∧ Hid (CsJ sgSm l (l.take k) k)) (fun s _ => n - (intOf s).toNat)
    case atStart => exact ⟨1, Nat.le_refl _, by omega, rfl, Below.refl _ _, HST⟩
    case round =>
      obtain ⟨k, hk1, hkn, rfl, hbr, HK⟩ := hrel
      have hbs := hbr.size
      have HB := Lib.hid hbr
      clear hbr
      by_cases hlt2 : k < n
      · have hltI : (k : Int) < n := by omega
        obtain ⟨x, hx⟩ : ∃ x, l[k]? = some x := ⟨_, List.getElem?_eq_getElem (by have := HL.out; omega)⟩
        obtain ⟨y, hy⟩ : ∃ y, l[k - 1]? = some y := ⟨_, List.getElem?_eq_getElem (by have := HL.out; omega)⟩
        have HQ := Lib.hid (fun (V : World) (hV : Below wr.heap.size wr V) => show SgAt2 V g (k * 6) x ((k - 1) * 6) y from by
          have h1 := sg_cells HCl.out k x hx
          have h2 := sg_cells HCl.out (k - 1) y hy
          rw [Nat.zero_add] at h1 h2
          have hb := HB.out.trans (hV.mono hbs)
          exact sgAt2 (h1.below hb hlt) (h2.below hb hlt))
        have HX := Lib.hid hx
        have HY := Lib.hid hy
        have hwrap : (k : Int) - 1 = ((k - 1 : Nat) : Int) := by omega
        have hwr : IntKind.i64.wrap ((k - 1 : Nat) : Int) = ((k - 1 : Nat) : Int) := by rw [IntKind.wrap_i64]; omega
        have hxI : ((k - 1 : Nat) : Int) < (n : Int) := by omega
        have hxN : k - 1 < n := by omega
        clear hx hy
        go_upto_region 6 with (fail)
        refine qRegionTail 10 (by kernel_rfl) (by kernel_rfl) ?_
        simp only [List.take_succ_cons, List.take_zero, List.drop_succ_cons, List.drop_zero]
        repeat (first
          | (go_big_quiet_want; refine qVal (fun V hV => (by (obtain ⟨q0, q1, q2, q3, q4, q5, p0, p1, p2, p3, p4, p5⟩ := HQ.out V hV; go_simp; try rfl))) ?_; simp only [Act.put, List.setIfInBounds_toArray, List.set_cons_zero, List.set_cons_succ]; go_big_quiet_on)
          | go_big_quiet_skip)
        refine wpQuiet_nil ?_
        intro w1 hb1
        have hs1 := hb1.size
        have HB1 := Lib.hid (HB.out.trans (hb1.mono hbs))
        clear hb1
        go_wp2_with (fail)
        refine (sameS_any x y w1).mono ?_
        rintro e w2 ⟨bb, hbb, rfl, hb2⟩
        have HBB := Lib.hid (show bb = sgSm x y from hbb)
        clear hbb
        have hs2 := hb2.size
        have HB2 := Lib.hid (HB1.out.trans (hb2.mono (by omega)))
        clear hb2 hwr hwrap
        cases bb
        case true =>
          have HK2 := Lib.hid (HK.out.same hk1 HX.out HY.out HBB.out)
          have hck : ¬ c = k := by omega
          have hgb : w.heap.size ≤ w2.heap.size := by omega
          have HO2 := Lib.hid (show w2.ownsRow base 47 6 (.slice (some ⟨g, 0, none⟩) n c) n (recs sgC (csR l (l.take k))) from by
            rw [csR_take l k (by have := HL.out; omega)]
            exact own_belowP HO.out HB2.out)
          have htk : (l.take k).length = k := by rw [List.length_take]; have := HL.out; omega
          have HG2 := Lib.hid (show w.grownBy w2 (some g) from grown_belowP HB2.out)
          go_wp2_with (fail)
          go_loopw [5, 7] (fun s t wx => ∃ (j : Nat) (P : List Sg), 1 ≤ j ∧ j ≤ n - k ∧ t = .int .i64 (j : Int) ∧ s = .int .i64 (P.length : Int) ∧ 1 ≤ P.length ∧ P.length + 1 ≤ k + j ∧ Hid (CsJ sgSm l P (k + j)) ∧ wx.ownsRow base 47 6 (.slice (some ⟨g, 0, none⟩) n c) n (recs sgC (csR l P)) ∧ w.grownBy wx (some g)) (fun _ t _ => n - k - (intOf t).toNat)
          case atStart => exact ⟨1, l.take k, Nat.le_refl _, by omega, rfl, by rw [htk], by omega, by omega, HK2, HO2.out, HG2.out⟩
          case round =>
            obtain ⟨j, P, hj1, hjn, rfl, rfl, hP1, hPk, HKP, hown, hgr⟩ := hrel
            have HOW := Lib.hid hown
            have HGR := Lib.hid hgr
            have hgs := hgr.size
            obtain ⟨pl, epl⟩ : ∃ pl, pl = P.length := ⟨_, rfl⟩
            rw [← epl] at hP1 hPk ⊢
            have HPL := Lib.hid epl.symm
            clear hown hgr epl
            by_cases hltj : j < n - k
            · have hltI2 : (j : Int) < ((n - k : Nat) : Int) := by omega
              obtain ⟨x2, hx2⟩ : ∃ x, l[k + j]? = some x := ⟨_, List.getElem?_eq_getElem (by have := HL.out; omega)⟩
              obtain ⟨y2, hy2⟩ : ∃ y, l[k + j - 1]? = some y := ⟨_, List.getElem?_eq_getElem (by have := HL.out; omega)⟩
              have HCw := Lib.hid (own_cells0 HOW.out)
              have HQ2 := Lib.hid (fun (V : World) (hV : Below wr.heap.size wr V) => show SgAt2 V g (k * 6 + j * 6) x2 (k * 6 + (j - 1) * 6) y2 from by
                have h1 := sg_cells HCw.out (k + j) x2 (by rw [csR_get (by have := HPL.out; omega)]; exact hx2)
                have h2 := sg_cells HCw.out (k + j - 1) y2 (by rw [csR_get (by have := HPL.out; omega)]; exact hy2)
                rw [Nat.zero_add, Nat.add_mul] at h1
                rw [Nat.zero_add, show (k + j - 1) * 6 = k * 6 + (j - 1) * 6 by omega] at h2
                exact sgAt2 (h1.below hV (by omega)) (h2.below hV (by omega)))
              have HX2 := Lib.hid hx2
              have HY2 := Lib.hid hy2
              have hwrap : (j : Int) - 1 = ((j - 1 : Nat) : Int) := by omega
              have hwr : IntKind.i64.wrap ((j - 1 : Nat) : Int) = ((j - 1 : Nat) : Int) := by rw [IntKind.wrap_i64]; omega
              have hxI : ((j - 1 : Nat) : Int) < ((n - k : Nat) : Int) := by omega
              have hxN : j - 1 < n - k := by omega
              clear hx2 hy2
              go_upto_region 11 with (fail)
              refine qRegionTail 10 (by kernel_rfl) (by kernel_rfl) ?_
              simp only [List.take_succ_cons, List.take_zero, List.drop_succ_cons, List.drop_zero]
              repeat (first
                | (go_big_quiet_want; refine qVal (fun V hV => (by (obtain ⟨q0, q1, q2, q3, q4, q5, p0, p1, p2, p3, p4, p5⟩ := HQ2.out V hV; go_simp; try rfl))) ?_; simp only [Act.put, List.setIfInBounds_toArray, List.set_cons_zero, List.set_cons_succ]; go_big_quiet_on)
                | go_big_quiet_skip)
              refine wpQuiet_nil ?_
              intro w3 hb3
              have hs3 := hb3.size
              have HB3 := Lib.hid hb3
              clear hb3
              go_wp2_with (fail)
              refine (sameS_any x2 y2 w3).mono ?_
              rintro e w4 ⟨bb, hbb, rfl, hb4⟩
              have HBB2 := Lib.hid (show bb = sgSm x2 y2 from hbb)
              clear hbb
              have hs4 := hb4.size
              have HB4 := Lib.hid (HB3.out.trans (hb4.mono (by omega)))
              clear hb4 hwr hwrap
              have HG4 := Lib.hid (grown_more HGR.out (grown_belowP (r := none) HB4.out) (by simp))
              have HO4 := Lib.hid (own_belowP HOW.out HB4.out)
              cases bb
              case true =>
                have HK4 := Lib.hid (HKP.out.same (by omega) HX2.out HY2.out HBB2.out)
                go_wp2_with (fail)
                go_roundw
                case rel => exact ⟨j + 1, P, by omega, by omega, by simp, by rw [HPL.out], by have := HPL.out; omega, by have := HPL.out; omega, HK4, HO4.out, HG4.out⟩
                case measure => simp [intOf]; omega
              case false =>
                have HK4 := Lib.hid (HKP.out.new HX2.out HY2.out HBB2.out)
                obtain ⟨z, hz⟩ : ∃ z, (csR l P)[pl]? = some z := ⟨_, List.getElem?_eq_getElem (by rw [csR_len (by have := HPL.out; have := HL.out; omega)]; have := HL.out; omega)⟩
                have hzc := sg_cells (own_cells0 HO4.out) pl z hz
                rw [Nat.zero_add] at hzc
                obtain ⟨z0, z1, z2, z3, z4, z5⟩ := hzc
                obtain ⟨q0, q1, q2, q3, q4, q5, _⟩ := HQ2.out w4 HB4.out
                obtain ⟨cs, hcs⟩ := own_blk HO4.out
                have fr : ∀ j, w4.frozen? ⟨g, j, none⟩ = false := by intro j; simp [World.frozen?, hcs]
                have fr0 := fr (pl * 6)
                have fr1 := fr (pl * 6 + 1)
                have fr2 := fr (pl * 6 + 2)
                have fr3 := fr (pl * 6 + 3)
                have fr4 := fr (pl * 6 + 4)
                have fr5 := fr (pl * 6 + 5)
                have hpn : pl < n := by omega
                have hpI : (pl : Int) < (n : Int) := by omega
                clear fr hcs hz
                have HSET := Lib.hid (sg_store HO4.out (by rw [csR_len (by have := HPL.out; have := HL.out; omega)]; exact HL.out) pl hpn x2)
                go_upto_region 13 with (fail)
                generalize hW5 : (((((w4.setCell ⟨g, pl * 6, none⟩ (.int .i64 x2.at_)).setCell ⟨g, pl * 6 + 1, none⟩ (.int .i64 x2.kd)).setCell ⟨g, pl * 6 + 2, none⟩ (.string (aldT x2.d))).setCell ⟨g, pl * 6 + 3, none⟩ (.string (alrT x2.r))).setCell ⟨g, pl * 6 + 4, none⟩ (.string (alwT x2.b))).setCell ⟨g, pl * 6 + 5, none⟩ (.int .i64 x2.un) = w5 at HSET ⊢
                have HO5 := Lib.hid (show w5.ownsRow base 47 6 (.slice (some ⟨g, 0, none⟩) n c) n (recs sgC (csR l (P ++ [x2]))) from by
                  have h := HSET.out.1
                  rw [← HPL.out, csR_set (by have := HPL.out; have := HL.out; omega)] at h
                  exact h)
                have HG5 := Lib.hid (grown_trans HG4.out HSET.out.2)
                have HPL5 := Lib.hid (show (P ++ [x2]).length = pl + 1 from by rw [List.length_append, HPL.out]; rfl)
                clear hW5 HSET z0 z1 z2 z3 z4 z5 q0 q1 q2 q3 q4 q5 fr0 fr1 fr2 fr3 fr4 fr5
                go_wp2_with (fail)
                go_roundw
                case rel => exact ⟨j + 1, P ++ [x2], by omega, by omega, by simp, by rw [HPL5.out]; simp, by rw [HPL5.out]; omega, by rw [HPL5.out]; omega, HK4, HO5.out, HG5.out⟩
                case measure => simp [intOf]; omega
            · have hltI2 : ¬ (j : Int) < ((n - k : Nat) : Int) := by omega
              have hjn2 : j = n - k := by omega
              have hcp : ¬ c = pl := by omega
              have hpn : pl ≤ n := by omega
              have hpI : (pl : Int) ≤ (n : Int) := by omega
              obtain ⟨cs, hcs⟩ := own_blk HOW.out
              obtain ⟨vs, hvl, hcl⟩ := run_clear_n (P := Tryz.prog) wr 26 47 _ [.int .i64 0, .int .i64 0, .string ⟨#[]⟩, .string ⟨#[]⟩, .string ⟨#[]⟩, .int .i64 0] (n - pl) Tryz.underlying26 Tryz.zeroValue47 rfl (by simp) (by intro u hu; simp at hu; rcases hu with rfl | rfl | rfl | rfl | rfl | rfl <;> rfl) g (pl * 6)
                (fun i hi => by
                  simp at hi
                  rw [HOW.out.cellAt _ (by omega), List.getElem?_eq_getElem (by rw [recs_length sgC_len, csR_len (by have := HPL.out; have := HL.out; omega), HL.out]; omega)]
                  rfl)
                (fun i _ => HOW.out.frozenAt _)
              have hvl6 : vs.length = (n - pl) * 6 := by rw [hvl]; rfl
              have HSET := Lib.hid (own_setCells vs (pl * 6) wr (recs sgC (csR l P)) HOW.out (by rw [recs_length sgC_len, csR_len (by have := HPL.out; have := HL.out; omega), hvl6, HL.out]; omega))
              have HF := Lib.hid (show CsPost2 l n c base (some ⟨g, 0, none⟩) w (.returned (.slice (some ⟨g, 0, none⟩) pl c)) (wr.setCells g (pl * 6) vs) from by
                refine ⟨P, pl, rfl, HPL.out, hpn, HKP.out.1, ?_, grown_trans HGR.out HSET.out.2, by have h := HKP.out.2; rw [show k + j = n by omega] at h; exact h⟩
                have h := own_shrink HSET.out.1 pl hpn
                rw [List.append_assoc, List.take_append_of_le_length (by rw [List.length_take, recs_length sgC_len, csR_len (by have := HPL.out; have := HL.out; omega), HL.out]; omega), List.take_take, Nat.min_self] at h
                have h3 : (recs sgC (csR l P)).take (pl * 6) = recs sgC P := by
                  have h4 := recs_append sgC P (l.drop P.length)
                  unfold csR
                  rw [h4, List.take_append_of_le_length (by rw [recs_length sgC_len, HPL.out]; exact Nat.le_refl _), List.take_of_length_le (by rw [recs_length sgC_len, HPL.out]; exact Nat.le_refl _)]
                rw [h3] at h
                exact h)
              have hsl : ∀ ty, (Builtin.clear_ #[26] ty #[.slice (some ⟨g, pl * 6, none⟩) (n - pl) (c - pl)]).run Tryz.prog wr = .ok (.tuple #[]) (wr.setCells g (pl * 6) vs) := fun ty => hcl ty (c - pl)
              clear hcl HSET hcs hvl hvl6
              obtain ⟨W6, e6⟩ : ∃ W6, W6 = wr.setCells g (pl * 6) vs := ⟨_, rfl⟩
              rw [← e6] at hsl HF
              clear e6
              go_wp2_with (fail)
              go_ret
              exact HF.out
        case false =>
          have HK2 := Lib.hid (HK.out.newT HX.out HY.out HBB.out)
          go_wp2_with (fail)
          go_roundw
          case rel => exact ⟨k + 1, by omega, by omega, by simp, HB2.out, HK2⟩
          case measure => simp [intOf]; omega
      · have hltI : ¬ (k : Int) < n := by omega
        have hkn' : k = n := by omega
        subst hkn'
        have HF := Lib.hid (show CsPost2 l k c base (some ⟨g, 0, none⟩) w (.returned (.slice (some ⟨g, 0, none⟩) k c)) wr from by
          exact ⟨l, k, rfl, HL.out, Nat.le_refl _, fun x hx => hx, own_belowP HO.out HB.out, grown_belowP HB.out, by have h := HK.out.2; rw [List.take_of_length_le (by rw [HL.out]; exact Nat.le_refl _)] at h; exact h⟩)
        go_wp2_with (fail)
        go_ret
        exact HF.out
end Go.Proofs.YtgdnedhcbjonkaaGreatDoor

/- Flip and Odd of the stream: what they answer. -/
namespace Go.Proofs.YtgdnedhcbjonkaaGreatDoor
open Go.RowKit

theorem flipD_any (w : World) (p k : Nat) (xs : LiA) (m : Int) (hm : 1 ≤ m) (hm2 : m ≤ 1000) (hk : k < 1000000) (hs : Strm w p xs k) :
    Calls Tryz.prog 27 #[.pointer (some ⟨p, 0, none⟩), .int .i64 m] w fun e w' => e = .returned (.bool (decide (nextV xs k m = 0))) ∧ Strm w' p xs (k + 1) ∧ w.grownBy w' (some p) := by
  have HS := Lib.hid hs
  clear hs
  obtain ⟨v, ev⟩ : ∃ v, v = nextV xs k m := ⟨_, rfl⟩
  have HN := Lib.hid (next_any w p k xs m (by omega) hk HS.out)
  rw [← ev] at HN ⊢
  clear ev
  go_enter Tryz.func27, Tryz.ntmps27
  go_wp2_with (fail)
  refine HN.out.mono ?_
  rintro e w' ⟨rfl, hs', hg'⟩
  have H := Lib.hid (And.intro hs' hg')
  clear hs' hg'
  go_wp2_with (fail)
  go_ret
  exact ⟨rfl, H.out.1, H.out.2⟩
def odPk : List Int := [0, 6, 1, 5, -1099511627776, 1099511627776]
def oddV (xs : LiA) (k : Nat) : Int := if nextV xs k 12 = 0 then odPk.getD (nextN xs (k + 1) 6) 0 else 1 + nextV xs (k + 1) 5
theorem odPk_range (j : Nat) (h : j < 6) : -1099511627776 ≤ odPk.getD j 0 ∧ odPk.getD j 0 ≤ 1099511627776 := by
  have : j = 0 ∨ j = 1 ∨ j = 2 ∨ j = 3 ∨ j = 4 ∨ j = 5 := by omega
  rcases this with h | h | h | h | h | h <;> subst h <;> decide
theorem oddV_range (xs : LiA) (k : Nat) : -1099511627776 ≤ oddV xs k ∧ oddV xs k ≤ 1099511627776 := by
  unfold oddV
  split
  · exact odPk_range _ (nextN_lt _ _ _ (by omega))
  · have := nextV_range xs (k + 1) 5 (by omega)
    omega
theorem odd15_any (w : World) (p k : Nat) (xs : LiA) (hk : k < 900000) (hs : Strm w p xs k) :
    Calls Tryz.prog 30 #[.pointer (some ⟨p, 0, none⟩), .int .i64 1, .int .i64 5] w fun e w' => e = .returned (.int .i64 (oddV xs k)) ∧ Strm w' p xs (k + 2) ∧ w.grownBy w' (some p) := by
  have hplt := hs.lt
  have HS := Lib.hid hs
  clear hs
  obtain ⟨r, er⟩ : ∃ r, r = oddV xs k := ⟨_, rfl⟩
  rw [← er]
  unfold oddV at er
  go_enter Tryz.func30, Tryz.ntmps30
  go_wp2_with (fail)
  refine (flipD_any w p k xs 12 (by omega) (by omega) (by omega) HS.out).mono ?_
  rintro e w1 ⟨rfl, hst1, hg1⟩
  have HST1 := Lib.hid hst1
  have HG1 := Lib.hid hg1
  have hs1 := hg1.size
  clear hst1 hg1
  by_cases h0 : nextV xs k 12 = 0
  · rw [if_pos h0] at er
    rw [decide_eq_true h0]
    have ER := Lib.hid er
    clear h0 er
    go_wp2_with (fail)
    refine (pick_any _ p (k + 1) _ 6 6 xs odPk (by omega) rfl (by omega) (by omega) (HST1.out.alloc _) (by omega) (Cells.new _ _ _ _ _ rfl)).mono ?_
    rintro e w2 ⟨rfl, hst2, hg2⟩
    have HF := Lib.hid (And.intro hst2 (grown_trans HG1.out (grown_of_alloc hg2)))
    clear hst2 hg2
    go_wp2_with (fail)
    go_ret
    exact ⟨by rw [ER.out]; rfl, HF.out.1, HF.out.2⟩
  · rw [if_neg h0] at er
    rw [decide_eq_false h0]
    have ER := Lib.hid er
    clear h0 er
    go_wp2_with (fail)
    refine (range_any w1 p (k + 1) xs 1 5 (by omega) (by omega) (by omega) (by omega) (by omega) HST1.out).mono ?_
    rintro e w2 ⟨rfl, hst2, hg2⟩
    have HF := Lib.hid (And.intro hst2 (grown_trans HG1.out hg2))
    clear hst2 hg2
    go_wp2_with (fail)
    go_ret
    exact ⟨by rw [ER.out]; rfl, HF.out.1, HF.out.2⟩
end Go.Proofs.YtgdnedhcbjonkaaGreatDoor

/- A region that draws its order and lays new blocks beside its calls: each operation is looked at once, at the frame of the end; where the new blocks lie is a variable. No program in sight. -/
namespace Go.Proofs.YtgdnedhcbjonkaaGreatDoor
open Go.RowKit

def putL : Act → List Oper → List Value → Act
  | a, o :: os, v :: vs => putL (a.put o.dst v) os vs
  | a, _, _ => a
def putG (G : Nat → Nat) : Act → List Oper → List (Option Obj) → Nat → Act
  | a, o :: os, m :: ms, k => putG G (match m with | none => a | some _ => a.put o.dst (.pointer (some ⟨G k, 0, none⟩))) os ms (k + 1)
  | a, _, _, _ => a
def QR (P : Program) (A : Act) (o : Oper) (w : World) (v : Value) : Prop :=
  (execOp A.eval o).run P w = .ok (.value v) w ∨ ∃ f args, (execOp A.eval o).run P w = .ok (.enter f args) w ∧ Calls P f args w (fun e w' => e = .returned v ∧ Below w.heap.size w w')
def QAl (P : Program) (A : Act) (o : Oper) (ob : Obj) : Prop := ∀ w, (execOp A.eval o).run P w = .ok (.value (.pointer (some ⟨w.heap.size, 0, none⟩))) (w.alloc ob)
def QOne (P : Program) (W : World) (A : Act) (o : Oper) (v : Value) (m : Option Obj) : Prop :=
  match m with
  | none => ∀ w, Below W.heap.size W w → QR P A o w v
  | some ob => QAl P A o ob
def QOps (P : Program) (W : World) (A : Act) : List Oper → List Value → List (Option Obj) → Prop
  | o :: os, v :: vs, m :: ms => QOne P W A o v m ∧ QOps P W A os vs ms
  | _, _, _ => True
theorem QOps.get {P : Program} {W : World} {A : Act} : ∀ {os : List Oper} {vs : List Value} {ms : List (Option Obj)} {k : Nat} {o : Oper} {v : Value} {m : Option Obj}, QOps P W A os vs ms → os[k]? = some o → vs[k]? = some v → ms[k]? = some m → QOne P W A o v m
  | o :: os, v :: vs, m :: ms, 0, _, _, _, h, h1, h2, h3 => by cases h1; cases h2; cases h3; exact h.1
  | o :: os, v :: vs, m :: ms, k + 1, _, _, _, h, h1, h2, h3 => QOps.get h.2 h1 h2 h3
  | [], _, _, _, _, _, _, _, h1, _, _ => by simp at h1
  | _ :: _, [], _, _, _, _, _, _, _, h2, _ => by simp at h2
  | _ :: _, _ :: _, [], _, _, _, _, _, _, _, h3 => by simp at h3
def opB (ops : Array Oper) (n : Nat) (ms : List (Option Obj)) (i : Nat) : Bool :=
  match ops[i]? with
  | none => false
  | some o => o.guard.isNone && o.dst.isSome && o.after.all (fun e => !Region.binds .any e || decide (e.on < i)) &&
      (List.range n).all (fun k => match ops[k]? with
        | none => false
        | some p => (k == i || p.dst != o.dst) &&
          (match p.dst with
            | none => false
            | some t => !(o.looksAt ops).contains t || ((match ms[k]? with | some none => true | _ => false) && o.after.any (fun e => Region.binds .any e && e.on == k))))
def allB (m n : Nat) : Array Bool := Array.replicate n true ++ Array.replicate (m - n) false
def ptB (ops : Array Oper) (n : Nat) (ms : List (Option Obj)) : Bool :=
  Region.noSelect ops && decide (n < ops.size) && Region.sinkB .any ops n && Region.chainB .any ops n && Region.seqB .any ops (ops.size - n) n (allB ops.size n) && (List.range n).all (opB ops n ms)
structure OpOk (ops : Array Oper) (n : Nat) (ms : List (Option Obj)) (i : Nat) (o : Oper) (t : Tmp) : Prop where
  guard : o.guard = none
  dst : o.dst = some t
  back : ∀ e ∈ o.after, Region.binds .any e = true → e.on < i
  apart : ∀ k p u, k < n → ops[k]? = some p → p.dst = some u → k ≠ i → u ≠ t
  looks : ∀ k p u, k < n → ops[k]? = some p → p.dst = some u → u ∈ o.looksAt ops → ms[k]? = some none ∧ ∃ e ∈ o.after, Region.binds .any e = true ∧ e.on = k
theorem opB_spec {ops : Array Oper} {n : Nat} {ms : List (Option Obj)} {i : Nat} (h : opB ops n ms i = true) : ∃ o t, ops[i]? = some o ∧ OpOk ops n ms i o t := by
  unfold opB at h
  cases ho : ops[i]? with
  | none => rw [ho] at h; cases h
  | some o =>
    rw [ho] at h
    simp only [Bool.and_eq_true] at h
    obtain ⟨⟨⟨h1, h2⟩, h3⟩, h4⟩ := h
    obtain ⟨t, ht⟩ := Option.isSome_iff_exists.1 h2
    refine ⟨o, t, rfl, Option.isNone_iff_eq_none.1 h1, ht, ?_, ?_, ?_⟩
    · intro e he hb
      have := Array.all_eq_true_iff_forall_mem.1 h3 e he
      rw [hb] at this
      simpa using this
    · intro k p u hk hp hu hki e
      have := List.all_eq_true.1 h4 k (List.mem_range.2 hk)
      rw [hp] at this
      simp only [Bool.and_eq_true, Bool.or_eq_true, beq_iff_eq, bne_iff_ne] at this
      rcases this.1 with g | g
      · exact hki g
      · rw [hu, ht, e] at g; exact g rfl
    · intro k p u hk hp hu hm
      have := List.all_eq_true.1 h4 k (List.mem_range.2 hk)
      rw [hp] at this
      simp only [hu, Bool.and_eq_true, Bool.or_eq_true, Bool.not_eq_true'] at this
      rcases this.2 with g | ⟨g1, g2⟩
      · rw [List.contains_iff_mem.2 hm] at g; cases g
      · refine ⟨?_, ?_⟩
        · cases hms : ms[k]? with
          | none => rw [hms] at g1; cases g1
          | some m =>
            cases m with
            | none => rfl
            | some ob => rw [hms] at g1; cases g1
        · obtain ⟨j, hj, hj2⟩ := Array.any_eq_true.1 g2
          simp only [Bool.and_eq_true, beq_iff_eq] at hj2
          exact ⟨_, Array.getElem_mem hj, hj2.1, hj2.2⟩
theorem wpAny_more {P : Program} {md : Region.Mode} {ops : Array Oper} {Q : Exit → Act → World → Prop} : ∀ (f : Nat) (d : Array Bool) (a : Act) (w : World), wpAny P md ops Q f d a w → wpAny P md ops Q (f + 1) d a w
  | 0, d, a, w, h => ⟨fun _ => h.2, fun i hi => by rw [h.1] at hi; cases hi⟩
  | f + 1, d, a, w, h => ⟨h.1, fun i hi => wpOp_mono (fun a' w' h' => wpAny_more f _ a' w' h') (h.2 i hi)⟩
theorem wpAny_le {P : Program} {md : Region.Mode} {ops : Array Oper} {Q : Exit → Act → World → Prop} {f g : Nat} (hfg : f ≤ g) {d : Array Bool} {a : Act} {w : World} (h : wpAny P md ops Q f d a w) : wpAny P md ops Q g d a w := by
  induction hfg with
  | refl => exact h
  | step _ ih => exact wpAny_more _ _ _ _ ih
def cntU (d : Array Bool) : Nat → Nat
  | 0 => 0
  | k + 1 => cntU d k + (if d.getD k false = true then 0 else 1)
theorem cntU_zero {d : Array Bool} : ∀ {n : Nat}, cntU d n = 0 → ∀ k, k < n → d.getD k false = true
  | 0, _, k, hk => by omega
  | n + 1, h, k, hk => by
    simp only [cntU] at h
    split at h
    · rename_i h1
      rcases Nat.lt_or_eq_of_le (Nat.le_of_lt_succ hk) with h2 | h2
      · exact cntU_zero (by omega) k h2
      · rw [h2]; exact h1
    · omega
theorem cntU_some {d : Array Bool} : ∀ {n : Nat}, 0 < cntU d n → ∃ k, k < n ∧ d.getD k false = false ∧ ∀ j, j < k → d.getD j false = true
  | 0, h => by simp [cntU] at h
  | n + 1, h => by
    by_cases h0 : 0 < cntU d n
    · obtain ⟨k, h1, h2⟩ := cntU_some h0
      exact ⟨k, by omega, h2⟩
    · simp only [cntU] at h
      split at h
      · omega
      · rename_i h1
        exact ⟨n, by omega, by simpa using h1, fun j hj => cntU_zero (by omega) j hj⟩
theorem cntU_set {d : Array Bool} {i : Nat} (hi : i < d.size) (h : d.getD i false = false) : ∀ {n : Nat}, cntU (d.setIfInBounds i true) n = cntU d n - (if i < n then 1 else 0) ∧ (i < n → 0 < cntU d n)
  | 0 => by simp [cntU]
  | n + 1 => by
    obtain ⟨h1, h2⟩ := cntU_set hi h (n := n)
    simp only [cntU]
    by_cases hin : i = n
    · subst hin
      have e1 : (if i < i then 1 else 0 : Nat) = 0 := if_neg (Nat.lt_irrefl i)
      have e2 : (if i < i + 1 then 1 else 0 : Nat) = 1 := if_pos (Nat.lt_succ_self i)
      have e3 : (d.setIfInBounds i true).getD i false = true := by simp [hi]
      rw [h1, e1, e2, e3, h]
      simp
    · rw [h1, getD_set_ne false hin]
      by_cases hl : i < n
      · have e1 : (if i < n then 1 else 0 : Nat) = 1 := if_pos hl
        have e2 : (if i < n + 1 then 1 else 0 : Nat) = 1 := if_pos (by omega)
        have := h2 hl
        rw [e1, e2]
        exact ⟨by omega, fun _ => by omega⟩
      · have e1 : (if i < n then 1 else 0 : Nat) = 0 := if_neg hl
        have e2 : (if i < n + 1 then 1 else 0 : Nat) = 0 := if_neg (by omega)
        rw [e1, e2]
        exact ⟨by omega, fun h => by omega⟩
theorem putL_get : ∀ (os : List Oper) (vs : List Value) (a : Act) (t : Tmp), (∀ o ∈ os, o.dst ≠ some t) → (putL a os vs).tmps[t]? = a.tmps[t]?
  | [], _, a, t, _ => rfl
  | _ :: _, [], a, t, _ => rfl
  | o :: os, v :: vs, a, t, h => by
    rw [putL, putL_get os vs _ t (fun p hp => h p (List.mem_cons_of_mem _ hp))]
    have h0 := h o List.mem_cons_self
    unfold Act.put
    split
    · rename_i d hd
      rw [hd] at h0
      simp only
      rw [Array.getElem?_setIfInBounds_ne (fun e => h0 (by rw [e]))]
    · rfl
theorem put_size (a : Act) (d : Option Tmp) (v : Value) : (a.put d v).tmps.size = a.tmps.size ∧ (a.put d v).defers = a.defers := by
  unfold Act.put
  split
  · simp
  · exact ⟨rfl, rfl⟩
theorem putL_size : ∀ (os : List Oper) (vs : List Value) (a : Act), (putL a os vs).tmps.size = a.tmps.size ∧ (putL a os vs).defers = a.defers
  | [], _, a => ⟨rfl, rfl⟩
  | _ :: _, [], a => ⟨rfl, rfl⟩
  | o :: os, v :: vs, a => by
    obtain ⟨h1, h2⟩ := putL_size os vs (a.put o.dst v)
    obtain ⟨g1, g2⟩ := put_size a o.dst v
    exact ⟨h1.trans g1, h2.trans g2⟩
theorem putL_at : ∀ (os : List Oper) (vs : List Value) (a : Act) (k : Nat) (o : Oper) (v : Value) (t : Tmp), os[k]? = some o → vs[k]? = some v → o.dst = some t → t < a.tmps.size → (∀ j p, os[j]? = some p → j ≠ k → p.dst ≠ some t) → (putL a os vs).tmps[t]? = some v
  | [], _, a, k, o, v, t, h1, _, _, _, _ => by simp at h1
  | _ :: _, [], a, k, o, v, t, _, h2, _, _, _ => by simp at h2
  | p :: os, u :: vs, a, 0, o, v, t, h1, h2, h3, h4, h5 => by
    cases h1; cases h2
    rw [putL, putL_get os vs _ t (fun q hq => by
      obtain ⟨j, hj⟩ := List.getElem?_of_mem hq
      exact h5 (j + 1) q (by simpa using hj) (by omega))]
    unfold Act.put
    rw [h3]
    simp [h4]
  | p :: os, u :: vs, a, k + 1, o, v, t, h1, h2, h3, h4, h5 => by
    rw [putL]
    refine putL_at os vs _ k o v t (by simpa using h1) (by simpa using h2) h3 ?_ (fun j q hj hne => h5 (j + 1) q (by simpa using hj) (by omega))
    rw [(put_size _ _ _).1]; exact h4
structure PInv (W : World) (ops : Array Oper) (n : Nat) (ms : List (Option Obj)) (A : Act) (G : Nat → Nat) (d : Array Bool) (a : Act) (w : World) : Prop where
  head : HeadInv .any ops n d
  bel : Below W.heap.size W w
  defers : a.defers = A.defers
  size : a.tmps.size = A.tmps.size
  slot : ∀ t, (∀ k o, k < n → ops[k]? = some o → o.dst = some t → d.getD k false = true ∧ ms[k]? = some none) → a.tmps[t]? = A.tmps[t]?
  al : ∀ k o t ob, k < n → ops[k]? = some o → o.dst = some t → ms[k]? = some (some ob) → d.getD k false = true → a.tmps[t]? = some (.pointer (some ⟨G k, 0, none⟩)) ∧ W.heap.size ≤ G k ∧ w.heap[G k]? = some ob
  ne : ∀ k j ob ob', k < n → j < n → ms[k]? = some (some ob) → ms[j]? = some (some ob') → d.getD k false = true → d.getD j false = true → k ≠ j → G k ≠ G j
section
variable {P : Program} {W : World} {ops : Array Oper} {n : Nat} {vs : List Value} {ms : List (Option Obj)} {A : Act}
theorem eval_agree {a a' : Act} {x : Operand} (h : ∀ t, x = .tmp t → a.tmps[t]? = a'.tmps[t]?) : a.eval x = a'.eval x := by
  cases x with
  | tmp t =>
    have := h t rfl
    simp only [Act.eval, Array.getD_eq_getD_getElem?, this]
  | const v => rfl
  | global g => rfl
  | func f => rfl
theorem heap_keep {w w' : World} {g : Nat} {ob : Obj} (h : w.heap[g]? = some ob) (hb : Below w.heap.size w w') : w'.heap[g]? = some ob :=
  (hb.block g (Array.getElem?_eq_some_iff.1 h).1).trans h
theorem region_pt {R : Exit → Act → World → Prop} (hB : ptB ops n ms = true) (hq : QOps P W A (ops.toList.take n) vs ms) (hvs : vs.length = n) (hms : ms.length = n)
    (hA : ∀ k o v t, k < n → ops[k]? = some o → vs[k]? = some v → o.dst = some t → t < A.tmps.size ∧ (ms[k]? = some none → A.tmps[t]? = some v))
    (hend : ∀ a w G, PInv W ops n ms A G (allB ops.size n) a w → wpList P ops R (ops.toList.drop n) a w) :
    ∀ (f : Nat) (d : Array Bool) (a : Act) (w : World) (G : Nat → Nat), PInv W ops n ms A G d a w → cntU d n = f → wpAny P .any ops R (f + (ops.size - n)) d a w := by
  unfold ptB at hB
  simp only [Bool.and_eq_true, decide_eq_true_eq] at hB
  obtain ⟨⟨⟨⟨⟨hsel, hn⟩, hs⟩, hc⟩, hseq⟩, hops⟩ := hB
  have hok : ∀ i, i < n → ∃ o t, ops[i]? = some o ∧ OpOk ops n ms i o t := fun i hi => opB_spec (List.all_eq_true.1 hops i (List.mem_range.2 hi))
  have hdl : (ops.toList.drop n).length = ops.size - n := by simp
  intro f
  induction f with
  | zero =>
    intro d a w G inv hcn
    have hall := cntU_zero hcn
    have hd : d = allB ops.size n := by
      refine Array.ext (by unfold allB; rw [inv.head.size]; simp; omega) (fun i h1 h2 => ?_)
      rw [inv.head.size] at h1
      have hg : d.getD i false = (allB ops.size n).getD i false := by
        by_cases hin : i < n
        · rw [hall i hin]
          unfold allB
          simp [Array.getElem?_append, hin]
        · have h3 := getD_both (inv.head.tail i (by omega) h1)
          rw [h3]
          unfold allB
          simp only [Array.getD_eq_getD_getElem?, Array.getElem?_append, Array.size_replicate, hin, if_false, Array.getElem?_replicate]
          split <;> rfl
      have e1 : d.getD i false = d[i] := by simp [inv.head.size, h1]
      have e2 : (allB ops.size n).getD i false = (allB ops.size n)[i] := by
        rw [Array.getD_eq_getD_getElem?, Array.getElem?_eq_getElem h2]; rfl
      rw [e1, e2] at hg
      exact hg
    rw [Nat.zero_add]
    have := wpAny_of_seq (P := P) (md := .any) (Q' := R) (ops.toList.drop n) n d a w (fun j => by simp [List.getElem?_drop]) (by rw [hdl, hd]; exact hseq) (hend a w G (hd ▸ inv))
    rwa [hdl] at this
  | succ f ih =>
    intro d a w G inv hcn
    obtain ⟨k0, hk0, hk1, hk2⟩ := cntU_some (d := d) (n := n) (by omega)
    have hr0 : k0 ∈ Region.ready .any ops d := by
      obtain ⟨o, t, ho, hO⟩ := hok k0 hk0
      exact mem_ready.2 ⟨getD_in (by rw [inv.head.size]; omega) hk1, o, ho, fun e he hb => hk2 _ (hO.back e he hb)⟩
    have hlow : ∀ j ∈ Region.ready .any ops d, j < n := fun j hj => by
      rcases Nat.lt_or_ge j n with h | h
      · exact h
      · exact absurd hj (tail_waits hs hc hn inv.head _ k0 rfl hk0 (mem_ready.1 hr0).1 j h)
    rw [Nat.succ_add]
    refine ⟨fun h => (by rw [h] at hr0; cases hr0), fun i hi => ?_⟩
    have hin := hlow i hi
    obtain ⟨hiu, oi, hoi, hiall⟩ := mem_ready.1 hi
    obtain ⟨o, t, ho, hO⟩ := hok i hin
    obtain rfl : o = oi := Option.some.inj (ho.symm.trans hoi)
    have hid : d.getD i false = false := getD_both hiu
    have hisz : i < d.size := by rw [inv.head.size]; omega
    obtain ⟨v, hv⟩ : ∃ v, vs[i]? = some v := ⟨_, List.getElem?_eq_getElem (by omega)⟩
    obtain ⟨m, hm⟩ : ∃ m, ms[i]? = some m := ⟨_, List.getElem?_eq_getElem (by omega)⟩
    obtain ⟨htA, hvA⟩ := hA i o v t hin ho hv hO.dst
    have hQ := hq.get (k := i) (by rw [List.getElem?_take_of_lt hin]; simpa using ho) hv hm
    have hexec : execOp a.eval o = execOp A.eval o := by
      refine execOp_congr o (fun cs b => Region.noSelect_spec hsel i o cs b ho) (fun x hx => eval_agree (fun u hu => inv.slot u (fun k p hk hp hpu => ?_)))
      have hlook : u ∈ o.looksAt ops := by
        subst hu
        exact List.mem_append_left _ (List.mem_filterMap.2 ⟨.tmp u, by simpa using hx, rfl⟩)
      obtain ⟨g1, e, he, hb, hon⟩ := hO.looks k p u hk hp hpu hlook
      exact ⟨hon ▸ hiall e he hb, g1⟩
    have hcnt : cntU (d.setIfInBounds i true) n = f := by
      obtain ⟨h1, h2⟩ := cntU_set hisz hid (n := n)
      rw [h1, if_pos hin]; omega
    have hdset : ∀ k, (d.setIfInBounds i true).getD k false = true → k = i ∨ d.getD k false = true := fun k hk => by
      by_cases hki : i = k
      · exact .inl hki.symm
      · rw [getD_set_ne false hki] at hk; exact .inr hk
    -- the frame behind it
    have hput : ∀ (u : Value) (s : Tmp), (a.put o.dst u).tmps[s]? = if s = t then some u else a.tmps[s]? := by
      intro u s
      rw [hO.dst]
      unfold Act.put
      simp only
      by_cases hst : s = t
      · subst hst
        rw [if_pos rfl]
        simp [inv.size, htA]
      · rw [if_neg hst, Array.getElem?_setIfInBounds_ne (fun e => hst e.symm)]
    have hnew : ∀ (u : Value) (w' : World) (G' : Nat → Nat), Below w.heap.size w w' → (m = none → u = v) → (∀ ob, m = some ob → u = .pointer (some ⟨w.heap.size, 0, none⟩) ∧ w'.heap[w.heap.size]? = some ob ∧ G' i = w.heap.size) → (∀ k, k ≠ i → G' k = G k) →
        PInv W ops n ms A G' (d.setIfInBounds i true) (a.put o.dst u) w' := by
      intro u w' G' hb hu hal hGk
      refine ⟨inv.head.set hi hin, inv.bel.trans (hb.mono inv.bel.size), by rw [(put_size _ _ _).2]; exact inv.defers, by rw [(put_size _ _ _).1]; exact inv.size, ?_, ?_, ?_⟩
      · intro s hs'
        rw [hput]
        by_cases hst : s = t
        · rw [if_pos hst]
          obtain ⟨_, g2⟩ := hs' i o hin ho (by rw [hst]; exact hO.dst)
          have hmn : m = none := by rw [hm] at g2; exact Option.some.inj g2
          rw [hu hmn, hst, hvA g2]
        · rw [if_neg hst]
          refine inv.slot s (fun k p hk hp hps => ?_)
          obtain ⟨g1, g2⟩ := hs' k p hk hp hps
          rcases hdset k g1 with e | e
          · exfalso
            subst e
            have : p = o := Option.some.inj (hp.symm.trans ho)
            rw [this, hO.dst] at hps
            exact hst (Option.some.inj hps).symm
          · exact ⟨e, g2⟩
      · intro k p s ob hk hp hps hmk hdk
        by_cases hki : k = i
        · subst hki
          have hpo : p = o := Option.some.inj (hp.symm.trans ho)
          rw [hm] at hmk
          obtain ⟨g1, g2, g3⟩ := hal ob (Option.some.inj hmk)
          rw [hpo, hO.dst] at hps
          have hst : s = t := (Option.some.inj hps).symm
          rw [hput, if_pos hst, g1, g3]
          exact ⟨rfl, inv.bel.size, g2⟩
        · have hdk' : d.getD k false = true := (hdset k hdk).resolve_left hki
          obtain ⟨g1, g2, g3⟩ := inv.al k p s ob hk hp hps hmk hdk'
          have hne := hO.apart k p s hk hp hps hki
          rw [hput, if_neg hne, hGk k hki]
          exact ⟨g1, g2, heap_keep g3 hb⟩
      · intro k j ob ob' hk hj hmk hmj hdk hdj hkj
        have low : ∀ q obq, q < n → ms[q]? = some (some obq) → d.getD q false = true → G q < w.heap.size := fun q obq hqn hmq hdq => by
          obtain ⟨p, s, hp, hP⟩ := hok q hqn
          obtain ⟨_, _, g3⟩ := inv.al q p s obq hqn hp hP.dst hmq hdq
          exact (Array.getElem?_eq_some_iff.1 g3).1
        by_cases hki : k = i
        · have hji : j ≠ i := fun e => hkj (hki.trans e.symm)
          have hdj' := (hdset j hdj).resolve_left hji
          have h1 := low j ob' hj hmj hdj'
          rw [hki] at hmk
          rw [hm] at hmk
          obtain ⟨_, _, g3⟩ := hal ob (Option.some.inj hmk)
          rw [hki, g3, hGk j hji]
          omega
        · have hdk' := (hdset k hdk).resolve_left hki
          by_cases hji : j = i
          · have h1 := low k ob hk hmk hdk'
            rw [hji] at hmj
            rw [hm] at hmj
            obtain ⟨_, _, g3⟩ := hal ob' (Option.some.inj hmj)
            rw [hji, g3, hGk k hki]
            omega
          · rw [hGk k hki, hGk j hji]
            exact inv.ne k j ob ob' hk hj hmk hmj hdk' ((hdset j hdj).resolve_left hji) hkj
    unfold wpOp
    rw [ho]
    simp only
    have hw : Region.wanted o (yielded ops a.tmps) = true := by unfold Region.wanted; rw [hO.guard]
    rw [if_pos hw]
    refine .inl ?_
    unfold Oper.wp
    rw [hexec]
    cases m with
    | none =>
      have h1 := hQ w inv.bel
      rcases h1 with h1 | ⟨fn, args, h1, h2⟩
      · rw [h1]
        exact ih _ _ _ G (hnew v w G (Below.refl _ _) (fun _ => rfl) (fun ob h => by cases h) (fun _ _ => rfl)) hcnt
      · rw [h1]
        refine h2.mono (fun e w' h => ?_)
        obtain ⟨rfl, hb⟩ := h
        exact ih _ _ _ G (hnew v w' G hb (fun _ => rfl) (fun ob h => by cases h) (fun _ _ => rfl)) hcnt
    | some ob =>
      rw [hQ w]
      refine ih _ _ _ (fun k => if k = i then w.heap.size else G k) (hnew _ _ _ ((Below.refl _ _).alloc (Nat.le_refl _) _) (fun h => by cases h) (fun ob' h => ?_) (fun k hk => if_neg hk)) hcnt
      cases h
      exact ⟨rfl, heap_new w ob, if_pos rfl⟩
theorem putG_size (G : Nat → Nat) : ∀ (os : List Oper) (ms : List (Option Obj)) (a : Act) (k : Nat), (putG G a os ms k).tmps.size = a.tmps.size ∧ (putG G a os ms k).defers = a.defers
  | [], _, a, k => ⟨rfl, rfl⟩
  | _ :: _, [], a, k => ⟨rfl, rfl⟩
  | o :: os, none :: ms, a, k => putG_size G os ms a (k + 1)
  | o :: os, some ob :: ms, a, k => by
    obtain ⟨h1, h2⟩ := putG_size G os ms (a.put o.dst (.pointer (some ⟨G k, 0, none⟩))) (k + 1)
    obtain ⟨g1, g2⟩ := put_size a o.dst (.pointer (some ⟨G k, 0, none⟩))
    exact ⟨h1.trans g1, h2.trans g2⟩
theorem put_get (a : Act) (o : Oper) (v : Value) (t : Tmp) (h : o.dst ≠ some t) : (a.put o.dst v).tmps[t]? = a.tmps[t]? := by
  unfold Act.put
  split
  · rename_i d hd
    rw [hd] at h
    simp only
    rw [Array.getElem?_setIfInBounds_ne (fun e => h (by rw [e]))]
  · rfl
theorem putG_get (G : Nat → Nat) : ∀ (os : List Oper) (ms : List (Option Obj)) (a : Act) (k : Nat) (t : Tmp), (∀ (j : Nat) (o : Oper) (ob : Obj), os[j]? = some o → ms[j]? = some (some ob) → o.dst ≠ some t) → (putG G a os ms k).tmps[t]? = a.tmps[t]?
  | [], _, a, k, t, _ => rfl
  | _ :: _, [], a, k, t, _ => rfl
  | o :: os, none :: ms, a, k, t, h => putG_get G os ms a (k + 1) t (fun j p ob hp hm => h (j + 1) p ob (by simpa using hp) (by simpa using hm))
  | o :: os, some ob :: ms, a, k, t, h => by
    refine (putG_get G os ms _ (k + 1) t (fun j p ob' hp hm => h (j + 1) p ob' (by simpa using hp) (by simpa using hm))).trans ?_
    exact put_get _ _ _ _ (h 0 o ob rfl rfl)
theorem putG_at (G : Nat → Nat) : ∀ (os : List Oper) (ms : List (Option Obj)) (a : Act) (k j : Nat) (o : Oper) (ob : Obj) (t : Tmp), os[j]? = some o → ms[j]? = some (some ob) → o.dst = some t → t < a.tmps.size → (∀ i p, os[i]? = some p → i ≠ j → p.dst ≠ some t) → (putG G a os ms k).tmps[t]? = some (.pointer (some ⟨G (k + j), 0, none⟩))
  | [], _, a, k, j, o, ob, t, h, _, _, _, _ => by simp at h
  | _ :: _, [], a, k, j, o, ob, t, _, h, _, _, _ => by simp at h
  | o :: os, none :: ms, a, k, 0, _, _, t, h1, h2, _, _, _ => by simp at h2
  | o :: os, some ob :: ms, a, k, 0, _, _, t, h1, h2, h3, h4, h5 => by
    cases h1
    refine (putG_get G os ms _ (k + 1) t (fun j p ob' hp hm => h5 (j + 1) p (by simpa using hp) (by omega))).trans ?_
    unfold Act.put
    rw [h3]
    simp [h4]
  | o :: os, none :: ms, a, k, j + 1, p, ob, t, h1, h2, h3, h4, h5 => by
    have := putG_at G os ms a (k + 1) j p ob t (by simpa using h1) (by simpa using h2) h3 h4 (fun i q hq hne => h5 (i + 1) q (by simpa using hq) (by omega))
    rw [show k + (j + 1) = k + 1 + j by omega]
    exact this
  | o :: os, some ob' :: ms, a, k, j + 1, p, ob, t, h1, h2, h3, h4, h5 => by
    have := putG_at G os ms (a.put o.dst (.pointer (some ⟨G k, 0, none⟩))) (k + 1) j p ob t (by simpa using h1) (by simpa using h2) h3 (by rw [(put_size _ _ _).1]; exact h4) (fun i q hq hne => h5 (i + 1) q (by simpa using hq) (by omega))
    rw [show k + (j + 1) = k + 1 + j by omega]
    exact this
theorem cntU_le (d : Array Bool) : ∀ n, cntU d n ≤ n
  | 0 => Nat.le_refl _
  | n + 1 => by
    have := cntU_le d n
    simp only [cntU]
    split <;> omega
theorem act_ext {a b : Act} (h1 : a.defers = b.defers) (h2 : a.tmps.size = b.tmps.size) (h3 : ∀ t : Nat, a.tmps[t]? = b.tmps[t]?) : a = b := by
  cases a; cases b
  simp only at h1 h2 h3
  subst h1
  congr 1
  exact Array.ext_getElem? h3
/-- What is so of the new blocks. -/
def GOk (W : World) (ms : List (Option Obj)) (G : Nat → Nat) (w : World) : Prop :=
  (∀ k ob, ms[k]? = some (some ob) → W.heap.size ≤ G k ∧ w.heap[G k]? = some ob) ∧ (∀ k j ob ob', ms[k]? = some (some ob) → ms[j]? = some (some ob') → k ≠ j → G k ≠ G j)
/-- The first n operations in whatever order; what comes last has one order only. -/
theorem qRegionPt {id : Nat} {R : Exit → Act → World → Prop} {a : Act} {w : World} {l : List Oper} (n : Nat) (vs : List Value) (ms : List (Option Obj)) (hm : P.follows .mixedOrders = true) (hB : ptB l.toArray n ms = true)
    (hvs : vs.length = n) (hms : ms.length = n) (hsz : (l.take n).all (fun o => match o.dst with | some t => decide (t < a.tmps.size) | none => true) = true)
    (hq : QOps P w (putL a (l.take n) vs) (l.take n) vs ms)
    (h : ∀ (G : Nat → Nat) w', Below w.heap.size w w' → GOk w ms G w' → wpList P l.toArray R (l.drop n) (putG G (putL a (l.take n) vs) (l.take n) ms 0) w') : (Code.region id l.toArray true).wp P R a w := by
  refine wp_region_any hm ?_
  have hB' := hB
  unfold ptB at hB'
  simp only [Bool.and_eq_true, decide_eq_true_eq] at hB'
  obtain ⟨⟨⟨⟨⟨hsel, hn⟩, hs⟩, hc⟩, hseq⟩, hops⟩ := hB'
  have hok : ∀ i, i < n → ∃ o t, l.toArray[i]? = some o ∧ OpOk l.toArray n ms i o t := fun i hi => opB_spec (List.all_eq_true.1 hops i (List.mem_range.2 hi))
  have htk : ∀ i o, i < n → l.toArray[i]? = some o → (l.take n)[i]? = some o := fun i o hi ho => by
    rw [List.getElem?_take_of_lt hi]; simpa using ho
  have htk2 : ∀ i o, (l.take n)[i]? = some o → i < n ∧ l.toArray[i]? = some o := fun i o ho => by
    have hi : i < n := by
      have := (List.getElem?_eq_some_iff.1 ho).1
      rw [List.length_take] at this; omega
    rw [List.getElem?_take_of_lt hi] at ho
    exact ⟨hi, by simpa using ho⟩
  have hbd : ∀ k o t, k < n → l.toArray[k]? = some o → o.dst = some t → t < a.tmps.size := fun k o t hk ho ht => by
    have := List.all_eq_true.1 hsz o (List.mem_of_getElem? (htk k o hk ho))
    rw [ht] at this
    simpa using this
  have hsize := putL_size (l.take n) vs a
  have hA : ∀ k o v t, k < n → l.toArray[k]? = some o → vs[k]? = some v → o.dst = some t → t < (putL a (l.take n) vs).tmps.size ∧ (ms[k]? = some none → (putL a (l.take n) vs).tmps[t]? = some v) := fun k o v t hk ho hv ht => by
    refine ⟨by rw [hsize.1]; exact hbd k o t hk ho ht, fun _ => putL_at _ _ a k o v t (htk k o hk ho) hv ht (hbd k o t hk ho ht) (fun j p hp hne e => ?_)⟩
    obtain ⟨hj, hp'⟩ := htk2 j p hp
    obtain ⟨o', t', ho', hO⟩ := hok k hk
    have e1 : o' = o := Option.some.inj (ho'.symm.trans ho)
    have e2 : t' = t := by have := hO.dst; rw [e1, ht] at this; exact (Option.some.inj this).symm
    exact hO.apart j p t hj hp' e hne e2.symm
  have hmain := region_pt (W := w) (R := R) (vs := vs) hB (by simpa using hq) hvs hms hA (fun a' w' G inv => by
    have hend := h G w' inv.bel
    have hall : ∀ k, k < n → (allB l.toArray.size n).getD k false = true := fun k hk => by
      unfold allB
      simp [Array.getElem?_append, hk]
    have hg : GOk w ms G w' := by
      refine ⟨fun k ob hk => ?_, fun k j ob ob' hk hj hne => ?_⟩
      · have hkn : k < n := by have := (List.getElem?_eq_some_iff.1 hk).1; omega
        obtain ⟨o, t, ho, hO⟩ := hok k hkn
        exact (inv.al k o t ob hkn ho hO.dst hk (hall k hkn)).2
      · have hkn : k < n := by have := (List.getElem?_eq_some_iff.1 hk).1; omega
        have hjn : j < n := by have := (List.getElem?_eq_some_iff.1 hj).1; omega
        exact inv.ne k j ob ob' hkn hjn hk hj (hall k hkn) (hall j hjn) hne
    have e : a' = putG G (putL a (l.take n) vs) (l.take n) ms 0 := by
      have hgs := putG_size G (l.take n) ms (putL a (l.take n) vs) 0
      refine act_ext (inv.defers.trans hgs.2.symm) (inv.size.trans hgs.1.symm) (fun t => ?_)
      by_cases hx : ∃ (j : Nat) (o : Oper) (ob : Obj), (l.take n)[j]? = some o ∧ ms[j]? = some (some ob) ∧ o.dst = some t
      · obtain ⟨j, o, ob, hj, hmj, hot⟩ := hx
        obtain ⟨hjn, hj'⟩ := htk2 j o hj
        rw [(inv.al j o t ob hjn hj' hot hmj (hall j hjn)).1]
        have := putG_at G (l.take n) ms (putL a (l.take n) vs) 0 j o ob t hj hmj hot (by rw [hsize.1]; exact hbd j o t hjn hj' hot) (fun i p hp hne e => by
          obtain ⟨hi, hp'⟩ := htk2 i p hp
          obtain ⟨o', t', ho', hO⟩ := hok j hjn
          have e1 : o' = o := Option.some.inj (ho'.symm.trans hj')
          have e2 : t' = t := by have := hO.dst; rw [e1, hot] at this; exact (Option.some.inj this).symm
          exact hO.apart i p t hi hp' e hne e2.symm)
        rw [this, Nat.zero_add]
      · rw [putG_get G (l.take n) ms _ 0 t (fun j o ob hj hmj hot => hx ⟨j, o, ob, hj, hmj, hot⟩)]
        refine inv.slot t (fun k o hk ho hot => ⟨hall k hk, ?_⟩)
        cases hmk : ms[k]? with
        | none =>
          rw [List.getElem?_eq_none_iff] at hmk
          omega
        | some m =>
          cases m with
          | none => rfl
          | some ob => exact absurd ⟨k, o, ob, htk k o hk ho, hmk, hot⟩ hx
    rw [e]
    simpa using hend hg)
  have inv0 : PInv w l.toArray n ms (putL a (l.take n) vs) (fun _ => 0) (Array.replicate l.toArray.size false) a { w with drawn := w.drawn + 1 } := by
    refine ⟨⟨by simp, fun j oj _ hj => (by rw [getD_replicate_false] at hj; cases hj), fun t _ ht => getD_in (by simpa using ht) (getD_replicate_false _ _)⟩, (Below.refl _ _).drew, hsize.2.symm, hsize.1.symm, ?_, ?_, ?_⟩
    · intro t ht
      refine (putL_get _ _ a t (fun o ho e => ?_)).symm
      obtain ⟨j, hj⟩ := List.getElem?_of_mem ho
      obtain ⟨hjn, hj'⟩ := htk2 j o hj
      have := (ht j o hjn hj' e).1
      rw [getD_replicate_false] at this
      cases this
    · intro k o t ob _ _ _ _ hd
      rw [getD_replicate_false] at hd; cases hd
    · intro k j ob ob' _ _ _ _ hd
      rw [getD_replicate_false] at hd; cases hd
  have := hmain _ _ a _ _ inv0 rfl
  refine wpAny_le ?_ this
  have := cntU_le (Array.replicate l.toArray.size false) n
  omega
end
end Go.Proofs.YtgdnedhcbjonkaaGreatDoor

/- A region that draws its order and has calls and stores that come in a chain beside loads and new blocks: each operation is looked at once; the world's class goes on from stage to stage. No program in sight. -/
namespace Go.Proofs.YtgdnedhcbjonkaaGreatDoor
open Go.RowKit

/-- New blocks stay. -/
def GrN (W w w' : World) : Prop := w.heap.size ≤ w'.heap.size ∧ ∀ b, W.heap.size ≤ b → b < w.heap.size → w'.heap[b]? = w.heap[b]?
theorem GrN.refl (W w : World) : GrN W w w := ⟨Nat.le_refl _, fun _ _ _ => rfl⟩
theorem GrN.alloc (W w : World) (o : Obj) : GrN W w (w.alloc o) := ⟨by simp, fun b _ h => Below.heap_alloc _ _ _ h⟩
def hasE (o : Oper) (k : Nat) : Bool := o.after.any (fun e => Region.binds .any e && e.on == k)
theorem hasE_spec {o : Oper} {k : Nat} (h : hasE o k = true) : ∃ e ∈ o.after, Region.binds .any e = true ∧ e.on = k := by
  obtain ⟨j, hj, hj2⟩ := Array.any_eq_true.1 h
  simp only [Bool.and_eq_true, beq_iff_eq] at hj2
  exact ⟨_, Array.getElem_mem hj, hj2.1, hj2.2⟩
/-- What an operation lays: the memory, and its value for the block's number. -/
abbrev Laid := Option (Obj × (Nat → Value))
def putH (G : Nat → Nat) : Act → List Oper → List Laid → Nat → Act
  | a, o :: os, m :: ms, k => putH G (match m with | none => a | some m => a.put o.dst (m.2 (G k))) os ms (k + 1)
  | a, _, _, _ => a
theorem putH_size (G : Nat → Nat) : ∀ (os : List Oper) (ms : List Laid) (a : Act) (k : Nat), (putH G a os ms k).tmps.size = a.tmps.size ∧ (putH G a os ms k).defers = a.defers
  | [], _, a, k => ⟨rfl, rfl⟩
  | _ :: _, [], a, k => ⟨rfl, rfl⟩
  | o :: os, none :: ms, a, k => putH_size G os ms a (k + 1)
  | o :: os, some m :: ms, a, k => by
    obtain ⟨h1, h2⟩ := putH_size G os ms (a.put o.dst (m.2 (G k))) (k + 1)
    obtain ⟨g1, g2⟩ := put_size a o.dst (m.2 (G k))
    exact ⟨h1.trans g1, h2.trans g2⟩
theorem putH_get (G : Nat → Nat) : ∀ (os : List Oper) (ms : List Laid) (a : Act) (k : Nat) (t : Tmp), (∀ (j : Nat) (o : Oper) (m : Obj × (Nat → Value)), os[j]? = some o → ms[j]? = some (some m) → o.dst ≠ some t) → (putH G a os ms k).tmps[t]? = a.tmps[t]?
  | [], _, a, k, t, _ => rfl
  | _ :: _, [], a, k, t, _ => rfl
  | o :: os, none :: ms, a, k, t, h => putH_get G os ms a (k + 1) t (fun j p ob hp hm => h (j + 1) p ob (by simpa using hp) (by simpa using hm))
  | o :: os, some m :: ms, a, k, t, h => by
    refine (putH_get G os ms _ (k + 1) t (fun j p ob' hp hm => h (j + 1) p ob' (by simpa using hp) (by simpa using hm))).trans ?_
    exact put_get _ _ _ _ (h 0 o m rfl rfl)
theorem putH_at (G : Nat → Nat) : ∀ (os : List Oper) (ms : List Laid) (a : Act) (k j : Nat) (o : Oper) (m : Obj × (Nat → Value)) (t : Tmp), os[j]? = some o → ms[j]? = some (some m) → o.dst = some t → t < a.tmps.size → (∀ i p, os[i]? = some p → i ≠ j → p.dst ≠ some t) → (putH G a os ms k).tmps[t]? = some (m.2 (G (k + j)))
  | [], _, a, k, j, o, ob, t, h, _, _, _, _ => by simp at h
  | _ :: _, [], a, k, j, o, ob, t, _, h, _, _, _ => by simp at h
  | o :: os, none :: ms, a, k, 0, _, _, t, h1, h2, _, _, _ => by simp at h2
  | o :: os, some m :: ms, a, k, 0, _, _, t, h1, h2, h3, h4, h5 => by
    cases h1
    cases h2
    refine (putH_get G os ms _ (k + 1) t (fun j p ob' hp hm => h5 (j + 1) p (by simpa using hp) (by omega))).trans ?_
    unfold Act.put
    rw [h3]
    simp [h4]
  | o :: os, none :: ms, a, k, j + 1, p, ob, t, h1, h2, h3, h4, h5 => by
    have := putH_at G os ms a (k + 1) j p ob t (by simpa using h1) (by simpa using h2) h3 h4 (fun i q hq hne => h5 (i + 1) q (by simpa using hq) (by omega))
    rw [show k + (j + 1) = k + 1 + j by omega]
    exact this
  | o :: os, some m' :: ms, a, k, j + 1, p, ob, t, h1, h2, h3, h4, h5 => by
    have := putH_at G os ms (a.put o.dst (m'.2 (G k))) (k + 1) j p ob t (by simpa using h1) (by simpa using h2) h3 (by rw [(put_size _ _ _).1]; exact h4) (fun i q hq hne => h5 (i + 1) q (by simpa using hq) (by omega))
    rw [show k + (j + 1) = k + 1 + j by omega]
    exact this
/-- The new blocks that an operation may look at. -/
def LkOk (W w : World) (o : Oper) (ms : List Laid) (G : Nat → Nat) : Prop := ∀ k ob f, ms[k]? = some (some (ob, f)) → hasE o k = true → W.heap.size ≤ G k ∧ w.heap[G k]? = some ob
def StepSt (P : Program) (W : World) (a : Act) (o : Oper) (w : World) (v : Value) (K' : World → Prop) : Prop :=
  (∃ w', (execOp a.eval o).run P w = .ok (.value v) w' ∧ K' w' ∧ GrN W w w') ∨ (∃ f args, (execOp a.eval o).run P w = .ok (.enter f args) w ∧ Calls P f args w (fun e w' => e = .returned v ∧ K' w' ∧ GrN W w w')) ∨ ∃ w', (execOp a.eval o).run P w = .ok .skip w' ∧ o.dst = none ∧ K' w' ∧ GrN W w w'
def OneSt (P : Program) (W : World) (K : Nat → World → Prop) (A : Act) (l : List Oper) (ms : List Laid) (o : Oper) (v : Value) (m : Laid) (c b : Nat) : Prop :=
  ∀ (G : Nat → Nat) (s : Nat) (w : World), K s w → LkOk W w o ms G →
    match m with
    | some ob => c = 0 → s ≤ b → (execOp (putH G A l ms 0).eval o).run P w = .ok (.value (ob.2 w.heap.size)) (w.alloc ob.1)
    | none => if 0 < c then (s + 1 = c → StepSt P W (putH G A l ms 0) o w v (K c)) else (s ≤ b → StepSt P W (putH G A l ms 0) o w v (K s))
def AllSt (P : Program) (W : World) (K : Nat → World → Prop) (A : Act) (l : List Oper) (ms0 : List Laid) : List Oper → List Value → List Laid → List Nat → List Nat → Prop
  | o :: os, v :: vs, m :: ms, c :: cs, b :: bs => OneSt P W K A l ms0 o v m c b ∧ AllSt P W K A l ms0 os vs ms cs bs
  | _, _, _, _, _ => True
theorem AllSt.get {P : Program} {W : World} {K : Nat → World → Prop} {A : Act} {l : List Oper} {ms0 : List Laid} : ∀ {os : List Oper} {vs : List Value} {ms : List Laid} {cs bs : List Nat} {k : Nat} {o : Oper} {v : Value} {m : Laid} {c b : Nat}, AllSt P W K A l ms0 os vs ms cs bs → os[k]? = some o → vs[k]? = some v → ms[k]? = some m → cs[k]? = some c → bs[k]? = some b → OneSt P W K A l ms0 o v m c b
  | o :: os, v :: vs, m :: ms, c :: cs, b :: bs, 0, _, _, _, _, _, h, h1, h2, h3, h4, h5 => by cases h1; cases h2; cases h3; cases h4; cases h5; exact h.1
  | o :: os, v :: vs, m :: ms, c :: cs, b :: bs, k + 1, _, _, _, _, _, h, h1, h2, h3, h4, h5 => AllSt.get h.2 h1 h2 h3 h4 h5
  | [], _, _, _, _, _, _, _, _, _, _, _, h1, _, _, _, _ => by simp at h1
  | _ :: _, [], _, _, _, _, _, _, _, _, _, _, _, h2, _, _, _ => by simp at h2
  | _ :: _, _ :: _, [], _, _, _, _, _, _, _, _, _, _, _, h3, _, _ => by simp at h3
  | _ :: _, _ :: _, _ :: _, [], _, _, _, _, _, _, _, _, _, _, _, h4, _ => by simp at h4
  | _ :: _, _ :: _, _ :: _, _ :: _, [], _, _, _, _, _, _, _, _, _, _, _, h5 => by simp at h5
/-- What the kernel looks at, an operation. -/
def opSt (ops : Array Oper) (ms : List Laid) (cs bs : List Nat) (cm i : Nat) : Bool :=
  match ops[i]?, ms[i]?, cs[i]?, bs[i]? with
  | some o, some m, some c, some b =>
    o.guard.isNone && o.after.all (fun e => !Region.binds .any e || decide (e.on < i)) && (o.dst.isSome || m.isNone) &&
      (List.range ops.size).all (fun k => match ops[k]? with
        | none => false
        | some p => (k == i || p.dst != o.dst || p.dst.isNone) && (match p.dst with
          | none => true
          | some t => !(o.looksAt ops).contains t || hasE o k) && (k == i || c == 0 || cs[k]? != some c)) &&
      (if c = 0 then decide (cm ≤ b) || (List.range ops.size).any (fun j => cs[j]? == some (b + 1) && (match ops[j]? with | some q => hasE q i | none => false))
       else m.isNone && decide (c ≤ cm) && (c == 1 || (List.range ops.size).any (fun j => cs[j]? == some (c - 1) && hasE o j)))
  | _, _, _, _ => false
def stB (ops : Array Oper) (ms : List Laid) (cs bs : List Nat) (cm : Nat) : Bool :=
  Region.noSelect ops && (List.range ops.size).all (opSt ops ms cs bs cm) && (cm == 0 || (List.range ops.size).any (fun j => cs[j]? == some cm))
structure OpSt (ops : Array Oper) (ms : List Laid) (cs bs : List Nat) (cm i : Nat) (o : Oper) (m : Laid) (c b : Nat) : Prop where
  guard : o.guard = none
  back : ∀ e ∈ o.after, Region.binds .any e = true → e.on < i
  dst : m ≠ none → ∃ t : Tmp, o.dst = some t
  apart : ∀ (k : Nat) (p : Oper) (t : Tmp), ops[k]? = some p → p.dst = some t → o.dst = some t → k = i
  looks : ∀ (k : Nat) (p : Oper) (u : Tmp), ops[k]? = some p → p.dst = some u → u ∈ o.looksAt ops → hasE o k = true
  alone : 0 < c → ∀ k : Nat, k < ops.size → cs[k]? = some c → k = i
  low : c = 0 → b < cm → ∃ (j : Nat) (q : Oper), ops[j]? = some q ∧ cs[j]? = some (b + 1) ∧ hasE q i = true
  high : 0 < c → m = none ∧ c ≤ cm ∧ (c = 1 ∨ ∃ j : Nat, j < ops.size ∧ cs[j]? = some (c - 1) ∧ hasE o j = true)
theorem opSt_spec {ops : Array Oper} {ms : List Laid} {cs bs : List Nat} {cm i : Nat} (h : opSt ops ms cs bs cm i = true) : ∃ o m c b, ops[i]? = some o ∧ ms[i]? = some m ∧ cs[i]? = some c ∧ bs[i]? = some b ∧ OpSt ops ms cs bs cm i o m c b := by
  unfold opSt at h
  split at h
  · rename_i o m c b ho hm hc hb
    simp only [Bool.and_eq_true] at h
    obtain ⟨⟨⟨⟨h1, h2⟩, h3⟩, h4⟩, h5⟩ := h
    refine ⟨o, m, c, b, ho, hm, hc, hb, Option.isNone_iff_eq_none.1 h1, ?_, ?_, ?_, ?_, ?_, ?_, ?_⟩
    · intro e he hbd
      have := Array.all_eq_true_iff_forall_mem.1 h2 e he
      rw [hbd] at this
      simpa using this
    · intro hne
      simp only [Bool.or_eq_true] at h3
      rcases h3 with h3 | h3
      · exact Option.isSome_iff_exists.1 h3
      · exact absurd (Option.isNone_iff_eq_none.1 h3) hne
    · intro k p t hp hpt hot
      have hk : k < ops.size := (Array.getElem?_eq_some_iff.1 hp).1
      have := List.all_eq_true.1 h4 k (List.mem_range.2 hk)
      rw [hp] at this
      simp only [Bool.and_eq_true, Bool.or_eq_true, beq_iff_eq, bne_iff_ne] at this
      rcases this.1.1 with (g | g) | g
      · exact g
      · exact absurd (hpt.trans hot.symm) g
      · rw [hpt] at g; cases g
    · intro k p u hp hpu hm'
      have hk : k < ops.size := (Array.getElem?_eq_some_iff.1 hp).1
      have := List.all_eq_true.1 h4 k (List.mem_range.2 hk)
      rw [hp] at this
      simp only [hpu, Bool.and_eq_true, Bool.or_eq_true, Bool.not_eq_true'] at this
      rcases this.1.2 with g | g
      · rw [List.contains_iff_mem.2 hm'] at g; cases g
      · exact g
    · intro hc0 k hk hck
      have := List.all_eq_true.1 h4 k (List.mem_range.2 hk)
      rw [Array.getElem?_eq_getElem hk] at this
      simp only [Bool.and_eq_true, Bool.or_eq_true, beq_iff_eq, bne_iff_ne] at this
      rcases this.2 with (g | g) | g
      · exact g
      · omega
      · exact absurd hck g
    · intro hc0 hbc
      rw [if_pos hc0] at h5
      simp only [Bool.or_eq_true, decide_eq_true_eq] at h5
      rcases h5 with h5 | h5
      · omega
      · obtain ⟨j, hj, hj2⟩ := List.any_eq_true.1 h5
        simp only [Bool.and_eq_true, beq_iff_eq] at hj2
        cases hq : ops[j]? with
        | none => rw [hq] at hj2; cases hj2.2
        | some q => rw [hq] at hj2; exact ⟨j, q, hq, hj2.1, hj2.2⟩
    · intro hc0
      rw [if_neg (by omega)] at h5
      simp only [Bool.and_eq_true, Bool.or_eq_true, beq_iff_eq, decide_eq_true_eq] at h5
      obtain ⟨⟨g1, g2⟩, g3⟩ := h5
      refine ⟨Option.isNone_iff_eq_none.1 g1, g2, ?_⟩
      rcases g3 with g3 | g3
      · exact .inl g3
      · obtain ⟨j, hj, hj2⟩ := List.any_eq_true.1 g3
        simp only [Bool.and_eq_true, beq_iff_eq] at hj2
        exact .inr ⟨j, List.mem_range.1 hj, hj2.1, hj2.2⟩
  · cases h
structure SInv (W : World) (K : Nat → World → Prop) (ops : Array Oper) (ms : List Laid) (cs : List Nat) (cm : Nat) (A : Act) (G : Nat → Nat) (d : Array Bool) (a : Act) (w : World) (s : Nat) : Prop where
  dsize : d.size = ops.size
  closed : ∀ j oj, ops[j]? = some oj → d.getD j false = true → ∀ e ∈ oj.after, Region.binds .any e = true → d.getD e.on false = true
  st : K s w ∧ s ≤ cm ∧ ∀ i c, i < ops.size → cs[i]? = some c → 0 < c → (d.getD i false = true ↔ c ≤ s)
  defers : a.defers = A.defers
  size : a.tmps.size = A.tmps.size
  hsize : W.heap.size ≤ w.heap.size
  slot : ∀ t, (∀ k o, ops[k]? = some o → o.dst = some t → d.getD k false = true ∧ ms[k]? = some none) → a.tmps[t]? = A.tmps[t]?
  al : ∀ k o t ob, ops[k]? = some o → o.dst = some t → ms[k]? = some (some ob) → d.getD k false = true → a.tmps[t]? = some (ob.2 (G k)) ∧ W.heap.size ≤ G k ∧ w.heap[G k]? = some ob.1
section
variable {P : Program} {W : World} {K : Nat → World → Prop} {ops : Array Oper} {vs : List Value} {ms : List Laid} {cs bs : List Nat} {cm : Nat} {A : Act}
theorem cntU_pos {d : Array Bool} : ∀ {n : Nat} {k : Nat}, k < n → d.getD k false = false → 0 < cntU d n
  | 0, k, h, _ => by omega
  | n + 1, k, h, hk => by
    simp only [cntU]
    rcases Nat.lt_or_eq_of_le (Nat.le_of_lt_succ h) with h1 | h1
    · have := cntU_pos (d := d) h1 hk
      omega
    · subst h1
      rw [hk]
      simp
theorem region_st {R : Exit → Act → World → Prop} (hB : stB ops ms cs bs cm = true) (hq : AllSt P W K A ops.toList ms ops.toList vs ms cs bs) (hvs : vs.length = ops.size) (hms : ms.length = ops.size)
    (hKa : ∀ s w o, K s w → K s (w.alloc o)) (hA : ∀ (k : Nat) (o : Oper) (v : Value) (t : Tmp), ops[k]? = some o → vs[k]? = some v → o.dst = some t → t < A.tmps.size ∧ (ms[k]? = some none → A.tmps[t]? = some v))
    (hend : ∀ a w G, K cm w → W.heap.size ≤ w.heap.size → (∀ k ob, ms[k]? = some (some ob) → W.heap.size ≤ G k ∧ w.heap[G k]? = some ob.1) → a = putH G A ops.toList ms 0 → R .normal a w) :
    ∀ (f : Nat) (d : Array Bool) (a : Act) (w : World) (G : Nat → Nat) (s : Nat), SInv W K ops ms cs cm A G d a w s → cntU d ops.size = f → wpAny P .any ops R f d a w := by
  unfold stB at hB
  simp only [Bool.and_eq_true] at hB
  obtain ⟨⟨hsel, hops⟩, hcm⟩ := hB
  have hok : ∀ i, i < ops.size → ∃ o m c b, ops[i]? = some o ∧ ms[i]? = some m ∧ cs[i]? = some c ∧ bs[i]? = some b ∧ OpSt ops ms cs bs cm i o m c b := fun i hi => opSt_spec (List.all_eq_true.1 hops i (List.mem_range.2 hi))
  -- what a frame holds where an operation looks
  have hfr : ∀ (G : Nat → Nat) (d : Array Bool) (a : Act) (w : World) (s : Nat), SInv W K ops ms cs cm A G d a w s → ∀ t, (∀ (k : Nat) (o : Oper), ops[k]? = some o → o.dst = some t → d.getD k false = true) → a.tmps[t]? = (putH G A ops.toList ms 0).tmps[t]? := by
    intro G d a w s inv t ht
    by_cases hx : ∃ (j : Nat) (o : Oper) (ob : Obj × (Nat → Value)), ops.toList[j]? = some o ∧ ms[j]? = some (some ob) ∧ o.dst = some t
    · obtain ⟨j, o, ob, hj, hmj, hot⟩ := hx
      have hj' : ops[j]? = some o := by simpa using hj
      rw [(inv.al j o t ob hj' hot hmj (ht j o hj' hot)).1]
      have hjn : j < ops.size := (Array.getElem?_eq_some_iff.1 hj').1
      obtain ⟨o', m', c', b', ho', _, _, _, hO⟩ := hok j hjn
      obtain rfl : o' = o := Option.some.inj (ho'.symm.trans hj')
      obtain ⟨v, hv⟩ : ∃ v, vs[j]? = some v := ⟨_, List.getElem?_eq_getElem (by omega)⟩
      have := putH_at G ops.toList ms A 0 j o' ob t hj hmj hot (hA j o' v t hj' hv hot).1 (fun i p hp hne e => hne (hO.apart i p t (by simpa using hp) e hot))
      rw [this, Nat.zero_add]
    · rw [putH_get G ops.toList ms A 0 t (fun j o ob hj hmj hot => hx ⟨j, o, ob, hj, hmj, hot⟩)]
      refine inv.slot t (fun k o hk hot => ⟨ht k o hk hot, ?_⟩)
      have hkn : k < ops.size := (Array.getElem?_eq_some_iff.1 hk).1
      obtain ⟨o', m', c', b', ho', hm', _⟩ := hok k hkn
      cases m' with
      | none => exact hm'
      | some ob => exact absurd ⟨k, o, ob, by simpa using hk, hm', hot⟩ hx
  intro f
  induction f with
  | zero =>
    intro d a w G s inv hcn
    have hall := cntU_zero hcn
    refine ⟨?_, ?_⟩
    · refine List.eq_nil_iff_forall_not_mem.2 (fun i hi => ?_)
      obtain ⟨h1, o, ho, _⟩ := mem_ready.1 hi
      have hi' : i < ops.size := (Array.getElem?_eq_some_iff.1 ho).1
      have h2 := hall i hi'
      rw [getD_both h1] at h2
      cases h2
    · refine hend a w G ?_ inv.hsize ?_ ?_
      · have hs : s = cm := by
          have hle := inv.st.2.1
          simp only [Bool.or_eq_true, beq_iff_eq] at hcm
          rcases hcm with h | h
          · omega
          · obtain ⟨j, hj, hj2⟩ := List.any_eq_true.1 h
            have hjn := List.mem_range.1 hj
            rcases Nat.eq_zero_or_pos cm with h0 | h0
            · omega
            · have := (inv.st.2.2 j cm hjn (by simpa using hj2) h0).1 (hall j hjn)
              omega
        exact hs ▸ inv.st.1
      · intro k ob hk
        rcases Nat.lt_or_ge k ops.size with hkn | hkn
        · obtain ⟨o, m, c, b, ho, hm, _, _, hO⟩ := hok k hkn
          obtain ⟨t, ht⟩ := hO.dst (by rw [hk] at hm; rw [← Option.some.inj hm]; simp)
          exact (inv.al k o t ob ho ht hk (hall k hkn)).2
        · have := (List.getElem?_eq_some_iff.1 hk).1
          omega
      · have hgs := putH_size G ops.toList ms A 0
        refine act_ext (inv.defers.trans hgs.2.symm) (inv.size.trans hgs.1.symm) (fun t => ?_)
        exact hfr G d a w s inv t (fun k o hk _ => hall k (Array.getElem?_eq_some_iff.1 hk).1)
  | succ f ih =>
    intro d a w G s inv hcn
    obtain ⟨k0, hk0, hk1, hk2⟩ := cntU_some (d := d) (n := ops.size) (by omega)
    have hr0 : k0 ∈ Region.ready .any ops d := by
      obtain ⟨o, m, c, b, ho, _, _, _, hO⟩ := hok k0 hk0
      exact mem_ready.2 ⟨getD_in (by rw [inv.dsize]; omega) hk1, o, ho, fun e he hb => hk2 _ (hO.back e he hb)⟩
    refine ⟨fun h => (by rw [h] at hr0; cases hr0), fun i hi => ?_⟩
    obtain ⟨hiu, oi, hoi, hiall⟩ := mem_ready.1 hi
    have hin : i < ops.size := (Array.getElem?_eq_some_iff.1 hoi).1
    obtain ⟨o, m, c, b, ho, hm, hc, hb, hO⟩ := hok i hin
    obtain rfl : o = oi := Option.some.inj (ho.symm.trans hoi)
    have hid : d.getD i false = false := getD_both hiu
    have hisz : i < d.size := by rw [inv.dsize]; omega
    obtain ⟨v, hv⟩ : ∃ v, vs[i]? = some v := ⟨_, List.getElem?_eq_getElem (by omega)⟩
    have hQ := hq.get (k := i) (by simpa using ho) hv hm hc hb G s w inv.st.1 (by
      intro k ob f hk he
      obtain ⟨e, he1, he2, he3⟩ := hasE_spec he
      have hkn : k < ops.size := by have := hO.back e he1 he2; omega
      obtain ⟨p, m', c', b', hp, hm', _, _, hP⟩ := hok k hkn
      obtain ⟨t, ht⟩ := hP.dst (by rw [hk] at hm'; rw [← Option.some.inj hm']; simp)
      exact (inv.al k p t (ob, f) hp ht hk (he3 ▸ hiall e he1 he2)).2)
    have hexec : execOp a.eval o = execOp (putH G A ops.toList ms 0).eval o := by
      refine execOp_congr o (fun cs b => Region.noSelect_spec hsel i o cs b ho) (fun x hx => eval_agree (fun u hu => hfr G d a w s inv u (fun k p hp hpu => ?_)))
      have hlook : u ∈ o.looksAt ops := by
        subst hu
        exact List.mem_append_left _ (List.mem_filterMap.2 ⟨.tmp u, by simpa using hx, rfl⟩)
      obtain ⟨e, he, hbd, hon⟩ := hasE_spec (hO.looks k p u hp hpu hlook)
      exact hon ▸ hiall e he hbd
    have hcnt : cntU (d.setIfInBounds i true) ops.size = f := by
      obtain ⟨h1, h2⟩ := cntU_set hisz hid (n := ops.size)
      rw [h1, if_pos hin]; omega
    have hdset : ∀ k, (d.setIfInBounds i true).getD k false = true → k = i ∨ d.getD k false = true := fun k hk => by
      by_cases hki : i = k
      · exact .inl hki.symm
      · rw [getD_set_ne false hki] at hk; exact .inr hk
    have hdmono : ∀ k, d.getD k false = true → (d.setIfInBounds i true).getD k false = true := fun k hk => by
      by_cases hki : i = k
      · subst hki; rw [hid] at hk; cases hk
      · rw [getD_set_ne false hki]; exact hk
    have hdsame : (d.setIfInBounds i true).getD i false = true := by simp [hisz]
    have hput : ∀ (u : Value) (q t : Tmp), o.dst = some t → t < A.tmps.size → (a.put o.dst u).tmps[q]? = if q = t then some u else a.tmps[q]? := by
      intro u q t hot htA
      rw [hot]
      unfold Act.put
      simp only
      by_cases hst : q = t
      · subst hst
        rw [if_pos rfl]
        simp [inv.size, htA]
      · rw [if_neg hst, Array.getElem?_setIfInBounds_ne (fun e => hst e.symm)]
    have hnew : ∀ (u : Value) (w' : World) (G' : Nat → Nat) (s' : Nat), GrN W w w' → K s' w' → s' ≤ cm → (∀ j c', j < ops.size → cs[j]? = some c' → 0 < c' → ((d.setIfInBounds i true).getD j false = true ↔ c' ≤ s')) → (m = none → u = v) →
        (∀ ob, m = some ob → u = ob.2 w.heap.size ∧ w'.heap[w.heap.size]? = some ob.1 ∧ G' i = w.heap.size) → (∀ k, k ≠ i → G' k = G k) →
        SInv W K ops ms cs cm A G' (d.setIfInBounds i true) (a.put o.dst u) w' s' := by
      intro u w' G' s' hg hK hscm hst hu hal hGk
      refine ⟨by rw [Array.size_setIfInBounds]; exact inv.dsize, ?_, ⟨hK, hscm, hst⟩, by rw [(put_size _ _ _).2]; exact inv.defers, by rw [(put_size _ _ _).1]; exact inv.size, Nat.le_trans inv.hsize hg.1, ?_, ?_⟩
      · intro j oj hj hdj e he hbd
        rcases hdset j hdj with e1 | e1
        · subst e1
          obtain rfl : oj = o := Option.some.inj (hj.symm.trans ho)
          exact hdmono _ (hiall e he hbd)
        · exact hdmono _ (inv.closed j oj hj e1 e he hbd)
      · intro q hs'
        by_cases hot : ∃ t, o.dst = some t
        · obtain ⟨t, hot⟩ := hot
          obtain ⟨htA, hvA⟩ := hA i o v t ho hv hot
          rw [hput u q t hot htA]
          by_cases hqt : q = t
          · rw [if_pos hqt]
            obtain ⟨_, g2⟩ := hs' i o ho (by rw [hqt]; exact hot)
            have hmn : m = none := by rw [hm] at g2; exact Option.some.inj g2
            rw [hu hmn, hqt, hvA g2]
          · rw [if_neg hqt]
            refine inv.slot q (fun k p hp hps => ?_)
            obtain ⟨g1, g2⟩ := hs' k p hp hps
            rcases hdset k g1 with e | e
            · exfalso
              subst e
              have : p = o := Option.some.inj (hp.symm.trans ho)
              rw [this, hot] at hps
              exact hqt (Option.some.inj hps).symm
            · exact ⟨e, g2⟩
        · have hdn : o.dst = none := by
            cases h : o.dst with
            | none => rfl
            | some t => exact absurd ⟨t, h⟩ hot
          rw [show (a.put o.dst u).tmps = a.tmps by rw [hdn]; rfl]
          refine inv.slot q (fun k p hp hps => ?_)
          obtain ⟨g1, g2⟩ := hs' k p hp hps
          rcases hdset k g1 with e | e
          · exfalso
            subst e
            have : p = o := Option.some.inj (hp.symm.trans ho)
            rw [this, hdn] at hps
            cases hps
          · exact ⟨e, g2⟩
      · intro k p t ob hp hps hmk hdk
        by_cases hki : k = i
        · subst hki
          have hpo : p = o := Option.some.inj (hp.symm.trans ho)
          rw [hm] at hmk
          obtain ⟨g1, g2, g3⟩ := hal ob (Option.some.inj hmk)
          rw [hpo] at hps
          rw [hput u t t hps (hA k o v t ho hv hps).1, if_pos rfl, g1, g3]
          exact ⟨rfl, inv.hsize, g2⟩
        · have hdk' : d.getD k false = true := (hdset k hdk).resolve_left hki
          obtain ⟨g1, g2, g3⟩ := inv.al k p t ob hp hps hmk hdk'
          have hlt := (Array.getElem?_eq_some_iff.1 g3).1
          have hne : (a.put o.dst u).tmps[t]? = a.tmps[t]? := put_get _ _ _ _ (fun e => hki (hO.apart k p t hp hps e))
          rw [hne, hGk k hki]
          exact ⟨g1, g2, (hg.2 _ g2 hlt).trans g3⟩
    -- the stage behind it
    have hstay : c = 0 → ∀ j c', j < ops.size → cs[j]? = some c' → 0 < c' → ((d.setIfInBounds i true).getD j false = true ↔ c' ≤ s) := by
      intro hc0 j c' hj hcj hpos
      have hji : i ≠ j := fun e => by subst e; rw [hc] at hcj; have := Option.some.inj hcj; omega
      rw [getD_set_ne false hji]
      exact inv.st.2.2 j c' hj hcj hpos
    have hsb : c = 0 → s ≤ b := by
      intro hc0
      rcases Nat.lt_or_ge b cm with hbc | hbc
      · obtain ⟨j, q, hq', hcj, hE⟩ := hO.low hc0 hbc
        rcases Nat.lt_or_ge b s with hlt | hge
        · exfalso
          have hj : j < ops.size := (Array.getElem?_eq_some_iff.1 hq').1
          have hdone := (inv.st.2.2 j (b + 1) hj hcj (by omega)).2 (by omega)
          obtain ⟨e, he1, he2, he3⟩ := hasE_spec hE
          have := inv.closed j q hq' hdone e he1 he2
          rw [he3, hid] at this
          cases this
        · exact hge
      · have := inv.st.2.1
        omega
    unfold wpOp
    rw [ho]
    simp only
    have hw : Region.wanted o (yielded ops a.tmps) = true := by unfold Region.wanted; rw [hO.guard]
    rw [if_pos hw]
    refine .inl ?_
    unfold Oper.wp
    rw [hexec]
    by_cases hc0 : c = 0
    · cases m with
      | some ob =>
        rw [hQ hc0 (hsb hc0)]
        refine ih _ _ _ (fun k => if k = i then w.heap.size else G k) s (hnew _ _ _ s (GrN.alloc _ _ _) (hKa _ _ _ inv.st.1) inv.st.2.1 (hstay hc0) (fun h => by cases h) (fun ob' h => ?_) (fun k hk => if_neg hk)) hcnt
        cases h
        exact ⟨rfl, heap_new w ob.1, if_pos rfl⟩
      | none =>
        simp only [hc0, Nat.lt_irrefl, if_false] at hQ
        rcases hQ (hsb hc0) with ⟨w', h1, h2, h3⟩ | ⟨fn, args, h1, h2⟩ | ⟨w', h1, hdn, h2, h3⟩
        · rw [h1]
          exact ih _ _ _ G s (hnew v w' G s h3 h2 inv.st.2.1 (hstay hc0) (fun _ => rfl) (fun ob h => by cases h) (fun _ _ => rfl)) hcnt
        · rw [h1]
          refine h2.mono (fun e w' h => ?_)
          obtain ⟨rfl, hk, hg⟩ := h
          exact ih _ _ _ G s (hnew v w' G s hg hk inv.st.2.1 (hstay hc0) (fun _ => rfl) (fun ob h => by cases h) (fun _ _ => rfl)) hcnt
        · rw [h1]
          have ea : a.put o.dst undef = a.put o.dst v := by rw [hdn]; rfl
          exact ih _ _ _ G s (by rw [ea]; exact hnew v w' G s h3 h2 inv.st.2.1 (hstay hc0) (fun _ => rfl) (fun ob h => by cases h) (fun _ _ => rfl)) hcnt
    · have hcp : 0 < c := by omega
      obtain ⟨hmn, hccm, hpre⟩ := hO.high hcp
      subst hmn
      have hnot : ¬ c ≤ s := fun h => by
        have := (inv.st.2.2 i c hin hc hcp).2 h
        rw [hid] at this; cases this
      have hs1 : s + 1 = c := by
        rcases hpre with h | ⟨j, hj, hcj, hE⟩
        · omega
        · rcases Nat.eq_zero_or_pos (c - 1) with h0 | h0
          · omega
          · obtain ⟨e, he1, he2, he3⟩ := hasE_spec hE
            have := (inv.st.2.2 j (c - 1) hj hcj h0).1 (he3 ▸ hiall e he1 he2)
            omega
      have hgo : ∀ j c', j < ops.size → cs[j]? = some c' → 0 < c' → ((d.setIfInBounds i true).getD j false = true ↔ c' ≤ c) := by
        intro j c' hj hcj hpos
        by_cases hji : i = j
        · subst hji
          rw [hc] at hcj
          have := Option.some.inj hcj
          exact ⟨fun _ => by omega, fun _ => hdsame⟩
        · rw [getD_set_ne false hji, inv.st.2.2 j c' hj hcj hpos]
          have hne : c' ≠ c := fun e => hji (hO.alone hcp j hj (e ▸ hcj)).symm
          omega
      simp only [hcp, if_true] at hQ
      rcases hQ hs1 with ⟨w', h1, h2, h3⟩ | ⟨fn, args, h1, h2⟩ | ⟨w', h1, hdn, h2, h3⟩
      · rw [h1]
        exact ih _ _ _ G c (hnew v w' G c h3 h2 hccm hgo (fun _ => rfl) (fun ob h => by cases h) (fun _ _ => rfl)) hcnt
      · rw [h1]
        refine h2.mono (fun e w' h => ?_)
        obtain ⟨rfl, hk, hg⟩ := h
        exact ih _ _ _ G c (hnew v w' G c hg hk hccm hgo (fun _ => rfl) (fun ob h => by cases h) (fun _ _ => rfl)) hcnt
      · rw [h1]
        have ea : a.put o.dst undef = a.put o.dst v := by rw [hdn]; rfl
        exact ih _ _ _ G c (by rw [ea]; exact hnew v w' G c h3 h2 hccm hgo (fun _ => rfl) (fun ob h => by cases h) (fun _ _ => rfl)) hcnt
/-- A region that draws, each operation looked at once. -/
theorem qRegionSt {id : Nat} {R : Exit → Act → World → Prop} {a : Act} {w : World} {l : List Oper} (K : Nat → World → Prop) (vs : List Value) (ms : List Laid) (cs bs : List Nat) (cm : Nat) (hm : P.follows .mixedOrders = true) (hB : stB l.toArray ms cs bs cm = true)
    (hvs : vs.length = l.length) (hms : ms.length = l.length) (hsz : l.all (fun o => match o.dst with | some t => decide (t < a.tmps.size) | none => true) = true)
    (hK0 : K 0 w.drew) (hKa : ∀ s w o, K s w → K s (w.alloc o))
    (hq : AllSt P w K (putL a l vs) l ms l vs ms cs bs)
    (h : ∀ (G : Nat → Nat) w', K cm w' → w.heap.size ≤ w'.heap.size → (∀ k ob, ms[k]? = some (some ob) → w.heap.size ≤ G k ∧ w'.heap[G k]? = some ob.1) → R .normal (putH G (putL a l vs) l ms 0) w') : (Code.region id l.toArray true).wp P R a w := by
  refine wp_region_any hm ?_
  have hB' := hB
  unfold stB at hB'
  simp only [Bool.and_eq_true] at hB'
  obtain ⟨⟨hsel, hops⟩, hcm⟩ := hB'
  have hok : ∀ i, i < l.toArray.size → ∃ o m c b, l.toArray[i]? = some o ∧ ms[i]? = some m ∧ cs[i]? = some c ∧ bs[i]? = some b ∧ OpSt l.toArray ms cs bs cm i o m c b := fun i hi => opSt_spec (List.all_eq_true.1 hops i (List.mem_range.2 hi))
  have hsize := putL_size l vs a
  have hbd : ∀ (k : Nat) (o : Oper) (t : Tmp), l.toArray[k]? = some o → o.dst = some t → t < a.tmps.size := fun k o t ho ht => by
    have := List.all_eq_true.1 hsz o (List.mem_of_getElem? (i := k) (by simpa using ho))
    rw [ht] at this
    simpa using this
  have hA : ∀ (k : Nat) (o : Oper) (v : Value) (t : Tmp), l.toArray[k]? = some o → vs[k]? = some v → o.dst = some t → t < (putL a l vs).tmps.size ∧ (ms[k]? = some none → (putL a l vs).tmps[t]? = some v) := fun k o v t ho hv ht => by
    refine ⟨by rw [hsize.1]; exact hbd k o t ho ht, fun _ => putL_at l vs a k o v t (by simpa using ho) hv ht (hbd k o t ho ht) (fun j p hp hne e => ?_)⟩
    obtain ⟨o', m', c', b', ho', _, _, _, hO⟩ := hok k (Array.getElem?_eq_some_iff.1 ho).1
    obtain rfl : o' = o := Option.some.inj (ho'.symm.trans ho)
    exact hne (hO.apart j p t (by simpa using hp) e ht)
  have hmain := region_st (R := R) (W := w) (K := K) hB (by simpa using hq) (by simpa using hvs) (by simpa using hms) hKa hA (fun a' w' G hk hs hG e => by rw [e]; exact h G w' hk hs hG)
  have inv0 : SInv w K l.toArray ms cs cm (putL a l vs) (fun _ => 0) (Array.replicate l.toArray.size false) a { w with drawn := w.drawn + 1 } 0 := by
    refine ⟨by simp, fun j oj _ hj => (by rw [getD_replicate_false] at hj; cases hj), ⟨hK0, Nat.zero_le _, fun i c _ _ hp => ⟨fun hd => (by rw [getD_replicate_false] at hd; cases hd), fun hd => by omega⟩⟩, hsize.2.symm, hsize.1.symm, Nat.le_refl _, ?_, ?_⟩
    · intro t ht
      refine (putL_get _ _ a t (fun o ho e => ?_)).symm
      obtain ⟨j, hj⟩ := List.getElem?_of_mem ho
      have := (ht j o (by simpa using hj) e).1
      rw [getD_replicate_false] at this
      cases this
    · intro k o t ob _ _ _ hd
      rw [getD_replicate_false] at hd; cases hd
  have := hmain _ _ a _ _ 0 inv0 rfl
  refine wpAny_le ?_ this
  exact cntU_le _ _
end
section
variable {P : Program} {W : World} {K : Nat → World → Prop} {A : Act} {l : List Oper} {ms : List Laid} {o : Oper} {v : Value} {b : Nat}
theorem OneSt.pure (h : ∀ G w, (execOp (putH G A l ms 0).eval o).run P w = .ok (.value v) w) : OneSt P W K A l ms o v none 0 b := by
  intro G s w hK hL
  show if 0 < 0 then _ else _
  rw [if_neg (by omega)]
  exact fun _ => .inl ⟨w, h G w, hK, GrN.refl _ _⟩
theorem OneSt.load (h : ∀ G s w, K s w → s ≤ b → (execOp (putH G A l ms 0).eval o).run P w = .ok (.value v) w) : OneSt P W K A l ms o v none 0 b := by
  intro G s w hK hL
  show if 0 < 0 then _ else _
  rw [if_neg (by omega)]
  exact fun hs => .inl ⟨w, h G s w hK hs, hK, GrN.refl _ _⟩
theorem OneSt.lay {ob : Obj} {f : Nat → Value} (h : ∀ G w, (execOp (putH G A l ms 0).eval o).run P w = .ok (.value (f w.heap.size)) (w.alloc ob)) : OneSt P W K A l ms o v (some (ob, f)) 0 b := by
  intro G s w hK hL
  exact fun _ _ => h G w
theorem OneSt.call {s : Nat} (h : ∀ G w, K s w → LkOk W w o ms G → ∃ fn args, (execOp (putH G A l ms 0).eval o).run P w = .ok (.enter fn args) w ∧ Calls P fn args w (fun e w' => e = .returned v ∧ K (s + 1) w' ∧ GrN W w w')) : OneSt P W K A l ms o v none (s + 1) b := by
  intro G s' w hK hL
  show if 0 < s + 1 then _ else _
  rw [if_pos (by omega)]
  intro e
  obtain rfl : s' = s := by omega
  exact .inr (.inl (h G w hK hL))
theorem OneSt.store {s : Nat} (h : ∀ G w, K s w → LkOk W w o ms G → ∃ w', (execOp (putH G A l ms 0).eval o).run P w = .ok .skip w' ∧ o.dst = none ∧ K (s + 1) w' ∧ GrN W w w') : OneSt P W K A l ms o v none (s + 1) b := by
  intro G s' w hK hL
  show if 0 < s + 1 then _ else _
  rw [if_pos (by omega)]
  intro e
  obtain rfl : s' = s := by omega
  exact .inr (.inr (h G w hK hL))
end
end Go.Proofs.YtgdnedhcbjonkaaGreatDoor

/- Signals of the stream by its contract. -/
namespace Go.Proofs.YtgdnedhcbjonkaaGreatDoor
open Go.RowKit

theorem Tryz.infoSg : (Tryz.prog.info? 47).map (fun i => (i.zero, i.size, i.bytes)) = some (some (.agg #[.int .i64 0, .int .i64 0, .string ⟨#[]⟩, .string ⟨#[]⟩, .string ⟨#[]⟩, .int .i64 0]), 6, 72) := by kernel_rfl
def sgBk (x : Sg) : Obj := .cells #[.int .i64 x.at_, .int .i64 x.kd, .string (aldT x.d), .string (alrT x.r), .string (alwT x.b), .int .i64 x.un] 47 (0, 0)
def SgB (V : World) (b : Nat) (x : Sg) : Prop :=
  V.cell? ⟨b, 0, none⟩ = some (.int .i64 x.at_) ∧ V.cell? ⟨b, 1, none⟩ = some (.int .i64 x.kd) ∧ V.cell? ⟨b, 2, none⟩ = some (.string (aldT x.d)) ∧ V.cell? ⟨b, 3, none⟩ = some (.string (alrT x.r)) ∧ V.cell? ⟨b, 4, none⟩ = some (.string (alwT x.b)) ∧ V.cell? ⟨b, 5, none⟩ = some (.int .i64 x.un)
theorem sg_blk {V : World} {b : Nat} {x : Sg} (h : V.heap[b]? = some (sgBk x)) : SgB V b x :=
  ⟨cell_of_blk (j := 0) h rfl, cell_of_blk (j := 1) h rfl, cell_of_blk (j := 2) h rfl, cell_of_blk (j := 3) h rfl, cell_of_blk (j := 4) h rfl, cell_of_blk (j := 5) h rfl⟩
theorem sg_put {V : World} {g j : Nat} {s s' : Sg} {u : Value} (h : V.heap[g]? = some (sgBk s)) (hc : (sgC s).set j u = sgC s') : (V.setCell ⟨g, j, none⟩ u).heap[g]? = some (sgBk s') ∧ V.grownBy (V.setCell ⟨g, j, none⟩ u) (some g) := by
  refine ⟨?_, grown_set (grown_refl V (some g)) (q := ⟨g, j, none⟩) (.inl rfl) _⟩
  unfold sgBk at h ⊢
  rw [heap_setCell_blk u h]
  have e : (#[.int .i64 s.at_, .int .i64 s.kd, .string (aldT s.d), .string (alrT s.r), .string (alwT s.b), .int .i64 s.un] : Array Value) = (sgC s).toArray := rfl
  have e2 : (#[.int .i64 s'.at_, .int .i64 s'.kd, .string (aldT s'.d), .string (alrT s'.r), .string (alwT s'.b), .int .i64 s'.un] : Array Value) = (sgC s').toArray := rfl
  rw [e, e2, ← hc]
  simp
def kdPk : List Int := [1, 1, 2, 2, 3, 3, 4, 5]
theorem kdPk_range (j : Nat) (h : j < 8) : 1 ≤ kdPk.getD j 0 ∧ kdPk.getD j 0 ≤ 5 := by
  have : j = 0 ∨ j = 1 ∨ j = 2 ∨ j = 3 ∨ j = 4 ∨ j = 5 ∨ j = 6 ∨ j = 7 := by omega
  rcases this with h | h | h | h | h | h | h | h <;> subst h <;> decide
def dvPk : List Nat := [0, 0, 1, 2]
theorem dvPk_lt (j : Nat) (h : j < 4) : (dvPk.map aldT).getD j ⟨#[]⟩ = aldT (dvPk.getD j 0) ∧ dvPk.getD j 0 < 3 := by
  have : j = 0 ∨ j = 1 ∨ j = 2 ∨ j = 3 := by omega
  rcases this with h | h | h | h <;> subst h <;> exact ⟨rfl, by decide⟩
def ruPk : List Nat := [0, 0, 1]
theorem ruPk_lt (j : Nat) (h : j < 3) : (ruPk.map alrT).getD j ⟨#[]⟩ = alrT (ruPk.getD j 0) ∧ ruPk.getD j 0 < 2 := by
  have : j = 0 ∨ j = 1 ∨ j = 2 := by omega
  rcases this with h | h | h <;> subst h <;> exact ⟨rfl, by decide⟩
def whPk : List Nat := [1, 2]
theorem whPk_lt (j : Nat) (h : j < 2) : (whPk.map alwT).getD j ⟨#[]⟩ = alwT (whPk.getD j 0) ∧ whPk.getD j 0 < 4 := by
  have : j = 0 ∨ j = 1 := by omega
  rcases this with h | h <;> subst h <;> exact ⟨rfl, by decide⟩
def unPk : List Int := [1, 10, 50]
theorem unPk_range (j : Nat) (h : j < 3) : 1 ≤ unPk.getD j 0 ∧ unPk.getD j 0 ≤ 50 := by
  have : j = 0 ∨ j = 1 ∨ j = 2 := by omega
  rcases this with h | h | h <;> subst h <;> decide
def atPk : List Int := [0, 1, 3, 10, 40]
theorem atPk_range (j : Nat) (h : j < 5) : 0 ≤ atPk.getD j 0 ∧ atPk.getD j 0 ≤ 40 := by
  have : j = 0 ∨ j = 1 ∨ j = 2 ∨ j = 3 ∨ j = 4 := by omega
  rcases this with h | h | h | h | h <;> subst h <;> decide
/-- A signal as it is drawn. -/
structure SgI (x : Sg) : Prop where
  d : x.d < 3
  r : x.r < 2
  b : x.b < 4
  at0 : 0 ≤ x.at_
  at1 : x.at_ ≤ 10000
  kd : 1 ≤ x.kd ∧ x.kd ≤ 5
  un : 0 ≤ x.un ∧ x.un ≤ 20000
/-- And after one that is odd. -/
structure SgG (x : Sg) : Prop where
  d : x.d < 3
  r : x.r < 2
  b : x.b < 4
  at_ : -1 ≤ x.at_ ∧ x.at_ ≤ 345686400000
  kd : -1099511627776 ≤ x.kd ∧ x.kd ≤ 1099511627776
  un : 0 ≤ x.un ∧ x.un ≤ 348278410000
theorem SgI.g {x : Sg} (h : SgI x) : SgG x := by
  obtain ⟨h1, h2, h3, h4, h5, h6, h7⟩ := h
  exact ⟨h1, h2, h3, by omega, by omega, by omega⟩
def SgPost (w : World) (p k N : Nat) (xs : LiA) (e : Ending) (w' : World) : Prop :=
  ∃ (l : List Sg) (A : Option Addr) (c k' n : Nat), e = .returned (.slice A n c) ∧ (∀ x ∈ l, SgG x) ∧ l.length = n ∧ n ≤ N ∧ w'.ownsRow w.heap.size 47 6 (.slice A n c) n (recs sgC l) ∧ Strm w' p xs k' ∧ k' ≤ k + 200 ∧ w.grownBy w' (some p)
theorem own_kept0 {w w' : World} {base : Nat} {e : TypeId} {size n : Nat} {v : Value} {xs : List Value} {p : Nat} (h : w.ownsRow base e size v n xs) (hg : w.grownBy w' (some p)) (hp : p < base) : w'.ownsRow base e size v n xs := own_kept h hg hp
theorem recs_cell {α : Type} {f : α → List Value} {k : Nat} (hf : ∀ x, (f x).length = k) : ∀ (l : List α) (i j : Nat) (x x' : α) (u : Value), i < l.length → j < k → (f x).set j u = f x' → (recs f (l.set i x)).set (i * k + j) u = recs f (l.set i x')
  | [], i, j, x, x', u, h, _, _ => by simp at h
  | y :: l, 0, j, x, x', u, _, hj, h => by
    rw [List.set_cons_zero, List.set_cons_zero, recs_cons, recs_cons, Nat.zero_mul, Nat.zero_add, List.set_append_left _ _ (by rw [hf]; exact hj), h]
  | y :: l, i + 1, j, x, x', u, hi, hj, h => by
    rw [List.set_cons_succ, List.set_cons_succ, recs_cons, recs_cons, List.set_append_right _ _ (by rw [hf, Nat.succ_mul]; omega), hf, show (i + 1) * k + j - k = i * k + j by rw [Nat.succ_mul]; omega, recs_cell hf l i j x x' u (by simpa using hi) hj h]
/-- The stages of the odd signal. -/
def odX (x : Sg) (a k : Int) (b : Nat) (u : Int) : Nat → Sg
  | 0 => x
  | 1 => x
  | 2 => x
  | 3 => x
  | 4 => x
  | 5 => { x with at_ := a }
  | 6 => { x with at_ := a, kd := k }
  | 7 => { x with at_ := a, kd := k, b := b }
  | _ => { x with at_ := a, kd := k, b := b, un := u }
def odP : Nat → Nat
  | 0 => 0
  | 1 => 1
  | 2 => 3
  | 3 => 4
  | _ => 5
theorem odX_low (x : Sg) (a k : Int) (b : Nat) (u : Int) (s : Nat) (hs : s ≤ 4) : odX x a k b u s = x := by
  have : s = 0 ∨ s = 1 ∨ s = 2 ∨ s = 3 ∨ s = 4 := by omega
  rcases this with h | h | h | h | h <;> subst h <;> rfl
theorem alw_pick (b j : Nat) (h : j < 3) : ([b, 0, 3].map alwT).getD j ⟨#[]⟩ = alwT ([b, 0, 3].getD j 0) := by
  have : j = 0 ∨ j = 1 ∨ j = 2 := by omega
  rcases this with h | h | h <;> subst h <;> rfl
theorem at3_range (a : Int) (j : Nat) (h : j < 3) (h0 : 0 ≤ a) (h1 : a ≤ 10000) : -1 ≤ [a, -1, 345686400000].getD j 0 ∧ [a, -1, 345686400000].getD j 0 ≤ 345686400000 := by
  have : j = 0 ∨ j = 1 ∨ j = 2 := by omega
  rcases this with h | h | h <;> subst h <;> simp <;> omega
theorem b3_range (b : Nat) (j : Nat) (h : j < 3) (h0 : b < 4) : [b, 0, 3].getD j 0 < 4 := by
  have : j = 0 ∨ j = 1 ∨ j = 2 := by omega
  rcases this with h | h | h <;> subst h <;> simp <;> omega
theorem un4_range (u a : Int) (j : Nat) (h : j < 4) (h0 : 0 ≤ a) (h1 : a ≤ 10000) (h2 : 0 ≤ u ∧ u ≤ 20000) : 0 ≤ [u, 0, a, a + 2592000000 + 1].getD j 0 ∧ [u, 0, a, a + 2592000000 + 1].getD j 0 ≤ 348278410000 := by
  have : j = 0 ∨ j = 1 ∨ j = 2 ∨ j = 3 := by omega
  rcases this with h | h | h | h <;> subst h <;> simp <;> omega
theorem cells_blk {V : World} {b : Nat} {cs : Array Value} {t : TypeId} {f : Nat × Nat} {l : List Value} (h : V.heap[b]? = some (.cells cs t f)) (hl : cs.toList = l) : Cells V b 0 l := by
  intro j u hj
  rw [Nat.zero_add]
  exact cell_of_blk h (by rw [← hl] at hj; simpa using hj)
structure KS (w0 W : World) (p kk B g c n i : Nat) (xs : LiA) (m : List Sg) (X : Nat → Sg) (s : Nat) (w : World) : Prop where
  own : w.ownsRow B 47 6 (.slice (some ⟨g, 0, none⟩) n c) n (recs sgC (m.set i (X s)))
  strm : Strm w p xs (kk + odP s)
  gr : w0.grownBy w (some p)
  size : W.heap.size ≤ w.heap.size
section
variable {w0 W w w' : World} {p kk B g c n i : Nat} {xs : LiA} {m : List Sg} {X : Nat → Sg} {s : Nat}
theorem KS.alloc (h : KS w0 W p kk B g c n i xs m X s w) (o : Obj) : KS w0 W p kk B g c n i xs m X s (w.alloc o) :=
  ⟨own_belowP h.own ((Below.refl _ _).alloc (Nat.le_refl _) _), h.strm.alloc o, grown_trans h.gr (World.grownBy_alloc _ _ (some p)), by have := h.size; simp; omega⟩
theorem KS.cells (h : KS w0 W p kk B g c n i xs m X s w) (hi : i < m.length) (j : Nat) (u : Value) (hu : (sgC (X s))[j]? = some u) : w.cell? ⟨g, i * 6 + j, none⟩ = some u := by
  have hc := own_cells0 h.own
  have hg : (m.set i (X s))[i]? = some (X s) := by simp [hi]
  have := rec_cell sgC_len hc i (X s) hg j u hu
  simpa using this
theorem KS.fro (h : KS w0 W p kk B g c n i xs m X s w) (j : Nat) : w.frozen? ⟨g, j, none⟩ = false := by
  obtain ⟨cs, hcs⟩ := own_blk h.own
  simp [World.frozen?, hcs]
theorem KS.lt (h : KS w0 W p kk B g c n i xs m X s w) : g < w.heap.size := by
  obtain ⟨cs, hcs⟩ := own_blk h.own
  exact (Array.getElem?_eq_some_iff.1 hcs).1
theorem KS.call (h : KS w0 W p kk B g c n i xs m X s w) (hg : w.grownBy w' (some p)) (hp : p < B) (hpW : p < W.heap.size) (hst : Strm w' p xs (kk + odP (s + 1))) (hX : X (s + 1) = X s) : KS w0 W p kk B g c n i xs m X (s + 1) w' ∧ GrN W w w' :=
  ⟨⟨by rw [hX]; exact own_kept h.own hg hp, hst, grown_trans h.gr hg, Nat.le_trans h.size hg.size⟩, hg.size, fun b hb hlt => hg.block b hlt (by intro e; injection e with e; omega)⟩
theorem KS.store (h : KS w0 W p kk B g c n i xs m X s w) (hm : m.length = n) (hi : i < n) (hgW : g < W.heap.size) (hpg : p < g) (hgw : w0.heap.size ≤ g) (j : Nat) (hj : j < 6) (u : Value) (hX : (sgC (X s)).set j u = sgC (X (s + 1))) (hP : odP (s + 1) = odP s) :
    KS w0 W p kk B g c n i xs m X (s + 1) (w.setCell ⟨g, i * 6 + j, none⟩ u) ∧ GrN W w (w.setCell ⟨g, i * 6 + j, none⟩ u) := by
  have hset : ∀ b, b ≠ g → (w.setCell ⟨g, i * 6 + j, none⟩ u).heap[b]? = w.heap[b]? := fun b hb => Below.heap_setCell _ _ _ _ hb
  have hsz : (w.setCell ⟨g, i * 6 + j, none⟩ u).heap.size = w.heap.size := by simp [World.setCell]
  have hst := h.own.stored (i * 6 + j) u
  rw [recs_cell sgC_len m i j _ _ u (by omega) hj hX] at hst
  refine ⟨⟨hst.1, ?_, ?_, by rw [hsz]; exact h.size⟩, by rw [hsz]; exact Nat.le_refl _, fun b hb _ => hset b (by omega)⟩
  · rw [hP]
    exact h.strm.keep fun b hb => hset b (by omega)
  · exact grown_more h.gr (grown_set (grown_refl w (some g)) (q := ⟨g, i * 6 + j, none⟩) (.inl rfl) _) (fun q hq => by cases hq; exact hgw)
end
/-- Who did it, and how many numbers were taken. -/
def sgWh (xs : LiA) (k : Nat) (kd : Int) : Nat × Nat := if 3 ≤ kd then (whPk.getD (nextN xs (k + 1 + 1 + 1) 2) 0, k + 1 + 1 + 1 + 1) else (0, k + 1 + 1 + 1)
/-- Until when. -/
def sgUn (xs : LiA) (k : Nat) (kd at_ : Int) : Int × Nat := if kd = 4 then (at_ + unPk.getD (nextN xs k 3) 0, k + 1) else (0, k)
def sgKd (xs : LiA) (k : Nat) : Int := kdPk.getD (nextN xs k 8) 0
def sgStep (xs : LiA) (s : Nat × Int × List Sg) : Nat × Int × List Sg :=
  ((sgUn xs (sgWh xs s.1 (sgKd xs s.1)).2 (sgKd xs s.1) s.2.1).2 + 1, s.2.1 + atPk.getD (nextN xs (sgUn xs (sgWh xs s.1 (sgKd xs s.1)).2 (sgKd xs s.1) s.2.1).2 5) 0,
    s.2.2 ++ [⟨s.2.1, sgKd xs s.1, dvPk.getD (nextN xs (s.1 + 1) 4) 0, ruPk.getD (nextN xs (s.1 + 1 + 1) 3) 0, (sgWh xs s.1 (sgKd xs s.1)).1, (sgUn xs (sgWh xs s.1 (sgKd xs s.1)).2 (sgKd xs s.1) s.2.1).1⟩])
def sgA (xs : LiA) (k : Nat) : Nat → Nat × Int × List Sg
  | 0 => (k + 1, nextV xs k 20, [])
  | j + 1 => sgStep xs (sgA xs k j)
theorem sgA_step {xs : LiA} {k j k' d r b k2 k3 : Nat} {at_ kd un da : Int} {l : List Sg} {x : Sg} (h : sgA xs k j = (k', at_, l)) (hkd : kd = kdPk.getD (nextN xs k' 8) 0) (hd : d = dvPk.getD (nextN xs (k' + 1) 4) 0) (hr : r = ruPk.getD (nextN xs (k' + 1 + 1) 3) 0)
    (hB : sgWh xs k' kd = (b, k2)) (hU : sgUn xs k2 kd at_ = (un, k3)) (hx : x = ⟨at_, kd, d, r, b, un⟩) (hda : da = atPk.getD (nextN xs k3 5) 0) : sgA xs k (j + 1) = (k3 + 1, at_ + da, l ++ [x]) := by
  rw [sgA, h]
  unfold sgStep
  simp only
  have e : sgKd xs k' = kd := hkd.symm
  rw [e, hB]
  simp only
  rw [hU, ← hd, ← hr, ← hda, hx]
def sgM (xs : LiA) (k N : Nat) : List Sg := if nextV xs (sgA xs k N).1 20 = 0 then srtG (sgA xs k N).2.2 else csN sgSm (srtG (sgA xs k N).2.2) N
theorem sgM_yes {xs : LiA} {k N k' : Nat} {at_ : Int} {l m : List Sg} (h : sgA xs k N = (k', at_, l)) (hm : m = srtG l) (hb : true = decide (nextV xs k' 20 = 0)) : m = sgM xs k N := by
  unfold sgM
  rw [h, if_pos (by simpa using hb.symm)]
  exact hm
theorem sgM_no {xs : LiA} {k N k' j : Nat} {at_ : Int} {l m m2 : List Sg} (h : sgA xs k N = (k', at_, l)) (hm : m = srtG l) (hb : false = decide (nextV xs k' 20 = 0)) (h2 : m2 = csN sgSm m j) (hj : j = N) : m2 = sgM xs k N := by
  unfold sgM
  rw [h, if_neg (by simpa using hb.symm), h2, hm, hj]
/-- The signals that are made, and how many numbers were taken. -/
def sgF (xs : LiA) (k N : Nat) : List Sg × Nat :=
  if (sgM xs k N).length = 0 then (sgM xs k N, (sgA xs k N).1 + 1)
  else if nextV xs ((sgA xs k N).1 + 1) 20 = 0 then
    match (sgM xs k N)[nextN xs ((sgA xs k N).1 + 1 + 1) (sgM xs k N).length]? with
    | some x => ((sgM xs k N).set (nextN xs ((sgA xs k N).1 + 1 + 1) (sgM xs k N).length) (odX x ([x.at_, -1, 345686400000].getD (nextN xs ((sgA xs k N).1 + 1 + 1 + 1) 3) 0) (oddV xs ((sgA xs k N).1 + 1 + 1 + 1 + 1)) ([x.b, 0, 3].getD (nextN xs ((sgA xs k N).1 + 1 + 1 + 1 + 3) 3) 0) ([x.un, 0, x.at_, x.at_ + 2592000000 + 1].getD (nextN xs ((sgA xs k N).1 + 1 + 1 + 1 + 4) 4) 0) 8), (sgA xs k N).1 + 1 + 1 + 1 + odP 8)
    | none => ([], 0)
  else (sgM xs k N, (sgA xs k N).1 + 1 + 1)
theorem sgF_nil {xs : LiA} {k N k' : Nat} {at_ : Int} {l m : List Sg} (h : sgA xs k N = (k', at_, l)) (hm : m = sgM xs k N) (hn : m.length = 0) : sgF xs k N = (m, k' + 1) := by
  unfold sgF
  rw [← hm, h, if_pos hn]
theorem sgF_no {xs : LiA} {k N k' n : Nat} {at_ : Int} {l m : List Sg} (h : sgA xs k N = (k', at_, l)) (hm : m = sgM xs k N) (hn : m.length = n) (h0 : ¬ n = 0) (hb : false = decide (nextV xs (k' + 1) 20 = 0)) : sgF xs k N = (m, k' + 1 + 1) := by
  unfold sgF
  rw [← hm, h, if_neg (by rw [hn]; exact h0), if_neg (by simpa using hb.symm)]
theorem sgF_yes {xs : LiA} {k N k' n i kk vb : Nat} {at_ va vk vu : Int} {l m : List Sg} {x : Sg} (h : sgA xs k N = (k', at_, l)) (hm : m = sgM xs k N) (hn : m.length = n) (h0 : ¬ n = 0) (hb : true = decide (nextV xs (k' + 1) 20 = 0)) (hi : i = nextN xs (k' + 1 + 1) n) (hx : m[i]? = some x)
    (hkk : kk = k' + 1 + 1 + 1) (hv : [x.at_, -1, 345686400000].getD (nextN xs kk 3) 0 = va ∧ oddV xs (kk + 1) = vk ∧ [x.b, 0, 3].getD (nextN xs (kk + 3) 3) 0 = vb ∧ [x.un, 0, x.at_, x.at_ + 2592000000 + 1].getD (nextN xs (kk + 4) 4) 0 = vu) : sgF xs k N = (m.set i (odX x va vk vb vu 8), kk + odP 8) := by
  unfold sgF
  subst hkk
  rw [← hm, h, if_neg (by rw [hn]; exact h0), if_pos (by simpa using hb.symm), hn, ← hi, hx]
  simp only [hv.1, hv.2.1, hv.2.2.1, hv.2.2.2]
def SgxPost (w : World) (p k N : Nat) (xs : LiA) (e : Ending) (w' : World) : Prop :=
  ∃ (l : List Sg) (A : Option Addr) (c k' n : Nat), sgF xs k N = (l, k') ∧ e = .returned (.slice A n c) ∧ (∀ x ∈ l, SgG x) ∧ l.length = n ∧ n ≤ N ∧ w'.ownsRow w.heap.size 47 6 (.slice A n c) n (recs sgC l) ∧ Strm w' p xs k' ∧ k' ≤ k + 200 ∧ w.grownBy w' (some p)
set_option maxRecDepth 100000 in
set_option maxHeartbeats 4000000 in
theorem signalsX_any (w : World) (p k N : Nat) (xs : LiA) (hN : N ≤ 16) (hk : k < 100000) (hs : Strm w p xs k) :
    Calls Tryz.prog 4 #[.pointer (some ⟨p, 0, none⟩), .int .i64 (N : Int), .bool false] w fun e w' => SgxPost w p k N xs e w' := by
  obtain ⟨i0, hi0, hz0, hz1, hz2⟩ := info_parts Tryz.infoSg
  have hplt := hs.lt
  have HS := Lib.hid hs
  clear hs
  go_enter Tryz.func4, Tryz.ntmps4
  go_wp2_with (fail)
  have hA := nextV_range xs k 20 (by omega)
  refine (next_any w p k xs 20 (by omega) (by omega) HS.out).mono ?_
  obtain ⟨at0, ea⟩ : ∃ a, a = nextV xs k 20 := ⟨_, rfl⟩
  rw [← ea] at hA ⊢
  rintro e w1 ⟨rfl, hst1, hg1⟩
  have HST1 := Lib.hid hst1
  have HG1 := Lib.hid hg1
  have HEA := Lib.hid ea
  clear hst1 hg1 ea
  go_wp2_with (fail)
  go_loopw [7, 8, 14] (fun v a s wr => ∃ (j k' : Nat) (at_ : Int) (l : List Sg), j ≤ N ∧ s = .int .i64 (j : Int) ∧ a = .int .i64 at_ ∧ (0 ≤ at_ ∧ at_ ≤ 20 + 40 * (j : Int)) ∧ (∀ x ∈ l, SgI x) ∧ l.length = j ∧ wr.ownsRow w.heap.size 47 6 v j (recs sgC l) ∧ Strm wr p xs k' ∧ k' ≤ k + 1 + 7 * j ∧ w.grownBy wr (some p) ∧ Hid (sgA xs k j = (k', at_, l))) (fun _ _ s _ => N - (intOf s).toNat)
  case atStart => exact ⟨0, k + 1, at0, [], Nat.zero_le _, rfl, rfl, by omega, by simp, rfl, World.ownsRow_nil _ _ _ _, HST1.out, by omega, HG1.out, Lib.hid (by rw [HEA.out]; rfl)⟩
  case round =>
    obtain ⟨j, k', at_, l, hj, rfl, rfl, hat, hok, hln, hown, hst, hk', hgw, HSA⟩ := hrel
    have HOK := Lib.hid hok
    have HLN := Lib.hid hln
    have HO := Lib.hid hown
    have HST := Lib.hid hst
    have HGW := Lib.hid hgw
    have hwsz := hgw.size
    have hplt2 := hst.lt
    by_cases hlt : j < N
    · have hltI : (j : Int) < (N : Int) := by omega
      clear hok hln hown hst hgw
      go_wp2_with (fail)
      refine (pick_any _ p k' wr.heap.size 8 8 xs kdPk (by omega) rfl (by omega) (by omega) (HST.out.alloc _) (by omega) (Cells.new _ _ _ _ _ rfl)).mono ?_
      have hkd := kdPk_range (nextN xs k' 8) (nextN_lt _ _ _ (by omega))
      obtain ⟨kd, ekd⟩ : ∃ r, r = kdPk.getD (nextN xs k' 8) 0 := ⟨_, rfl⟩
      rw [← ekd] at hkd ⊢
      have HKD := Lib.hid ekd
      clear ekd
      rintro e w3 ⟨rfl, hst3, hg3⟩
      have hg3' := grown_of_alloc hg3
      have hs3 := hg3'.size
      have HO3 := Lib.hid (own_kept HO.out hg3' (by omega))
      have HST3 := Lib.hid hst3
      have HG3 := Lib.hid hg3'
      clear hst3 hg3 hg3'
      go_wp2_with (fail)
      refine (some_any _ p (k' + 1) w3.heap.size 4 4 xs (dvPk.map aldT) (by omega) rfl (by omega) (by omega) (HST3.out.alloc _) (by omega) (Cells.new _ _ _ _ _ rfl)).mono ?_
      obtain ⟨h1, hd3⟩ := dvPk_lt (nextN xs (k' + 1) 4) (nextN_lt _ _ _ (by omega))
      rw [h1]
      obtain ⟨d, ed⟩ : ∃ r, r = dvPk.getD (nextN xs (k' + 1) 4) 0 := ⟨_, rfl⟩
      rw [← ed] at hd3 ⊢
      have HDD := Lib.hid ed
      clear ed h1
      rintro e w4 ⟨rfl, hst4, hg4⟩
      have hg4' := grown_of_alloc hg4
      have hs4 := hg4'.size
      have HO4 := Lib.hid (own_kept HO3.out hg4' (by omega))
      have HST4 := Lib.hid hst4
      have HG4 := Lib.hid (grown_trans HG3.out hg4')
      clear hst4 hg4 hg4'
      go_wp2_with (fail)
      refine (some_any _ p (k' + 1 + 1) w4.heap.size 3 3 xs (ruPk.map alrT) (by omega) rfl (by omega) (by omega) (HST4.out.alloc _) (by omega) (Cells.new _ _ _ _ _ rfl)).mono ?_
      obtain ⟨h1, hr2⟩ := ruPk_lt (nextN xs (k' + 1 + 1) 3) (nextN_lt _ _ _ (by omega))
      rw [h1]
      obtain ⟨r, er⟩ : ∃ r, r = ruPk.getD (nextN xs (k' + 1 + 1) 3) 0 := ⟨_, rfl⟩
      rw [← er] at hr2 ⊢
      have HRR := Lib.hid er
      clear er h1
      rintro e w5 ⟨rfl, hst5, hg5⟩
      have hg5' := grown_of_alloc hg5
      have hs5 := hg5'.size
      have HO5 := Lib.hid (own_kept HO4.out hg5' (by omega))
      have HST5 := Lib.hid hst5
      have HG5 := Lib.hid (grown_trans HG4.out hg5')
      clear hst5 hg5 hg5'
      go_upto_region 8 with (fail)
      obtain ⟨g, eg⟩ : ∃ g, g = w5.heap.size := ⟨_, rfl⟩
      obtain ⟨w6, e6⟩ : ∃ w6, w6 = w5.alloc (sgBk ⟨at_, kd, d, r, 0, 0⟩) := ⟨_, rfl⟩
      have hb6 : w6.heap[g]? = some (sgBk ⟨at_, kd, d, r, 0, 0⟩) := by rw [e6, eg]; exact heap_new w5 _
      have hg56 : w5.grownBy w6 (some p) := by rw [e6]; exact World.grownBy_alloc _ _ (some p)
      have hs6 := hg56.size
      have HO6 := Lib.hid (own_kept HO5.out hg56 (by omega))
      have HST6 := Lib.hid (show Strm w6 p xs (k' + 1 + 1 + 1) from by rw [e6]; exact HST5.out.alloc _)
      have HG6 := Lib.hid (grown_trans HG5.out hg56)
      have hgo : g < w6.heap.size := by rw [e6, eg]; simp
      have hpg : p < g := by omega
      have hwg : wr.heap.size ≤ g := by omega
      have HON := Lib.hid (fun q (hq : u7.ownBlock = some q) => show q ≠ g from by have := (HO5.out.lt q hq).2; omega)
      have e6' : w6 = w5.alloc (.cells #[.int .i64 at_, .int .i64 kd, .string (aldT d), .string (alrT r), .string ⟨#[]⟩, .int .i64 0] 47) := e6
      rw [← eg, ← e6']
      have HB6 := Lib.hid hb6
      have q1 := (sg_blk hb6).2.1
      simp only at q1
      clear eg e6 e6' hg56 hb6
      go_upto_if 34 with (fail)
      go_cut [] (fun wx => ∃ (b k2 : Nat), b < 4 ∧ k2 ≤ k' + 4 ∧ wx.heap[g]? = some (sgBk ⟨at_, kd, d, r, b, 0⟩) ∧ wx.ownsRow w.heap.size 47 6 u7 j (recs sgC l) ∧ Strm wx p xs k2 ∧ wr.grownBy wx (some p) ∧ Hid (sgWh xs k' kd = (b, k2)))
      case first =>
        by_cases hk3 : 3 ≤ kd
        · go_wp2_with (fail)
          refine (some_any _ p (k' + 1 + 1 + 1) w6.heap.size 2 2 xs (whPk.map alwT) (by omega) rfl (by omega) (by omega) (HST6.out.alloc _) (by omega) (Cells.new _ _ _ _ _ rfl)).mono ?_
          obtain ⟨h1, hb4⟩ := whPk_lt (nextN xs (k' + 1 + 1 + 1) 2) (nextN_lt _ _ _ (by omega))
          rw [h1]
          obtain ⟨b, eb⟩ : ∃ r, r = whPk.getD (nextN xs (k' + 1 + 1 + 1) 2) 0 := ⟨_, rfl⟩
          rw [← eb] at hb4 ⊢
          have HEB := Lib.hid (show sgWh xs k' kd = (b, k' + 1 + 1 + 1 + 1) from by unfold sgWh; rw [if_pos hk3, ← eb])
          clear eb h1
          rintro e w7 ⟨rfl, hst7, hg7⟩
          have hg7' := grown_of_alloc hg7
          have hs7 := hg7'.size
          have hb7 := (hg7'.block g hgo (by intro e; injection e with e; omega)).trans HB6.out
          have HO7 := Lib.hid (own_kept HO6.out hg7' (by omega))
          have HST7 := Lib.hid hst7
          have HG7 := Lib.hid (grown_trans HG6.out hg7')
          have hput := sg_put (j := 4) (u := .string (alwT b)) (s' := ⟨at_, kd, d, r, b, 0⟩) hb7 rfl
          have HP := Lib.hid hput
          have HOp := Lib.hid (own_neG HO7.out hput.2 HON.out)
          have HSTp := Lib.hid (HST7.out.row hput.2 (fun q hq => by cases hq; exact hpg))
          have HGp := Lib.hid (grown_more HG7.out hput.2 (fun q hq => by cases hq; exact hwg))
          have n4 := cell_of_blk (j := 4) hb7 rfl
          have fr4 : w7.frozen? ⟨g, 4, none⟩ = false := by simp [World.frozen?, hb7, sgBk]
          have hg7lt : g < w7.heap.size := by omega
          clear hst7 hg7 hg7' hb7 hput
          go_wp2_with (fail)
          go_meet
          exact ⟨b, _, hb4, (by omega), HP.out.1, HOp.out, HSTp.out, HGp.out, HEB⟩
        · have HEB := Lib.hid (show sgWh xs k' kd = (0, k' + 1 + 1 + 1) from by unfold sgWh; rw [if_neg hk3])
          go_wp2_with (fail)
          go_meet
          exact ⟨0, _, (by omega), (by omega), HB6.out, HO6.out, HST6.out, HG6.out, HEB⟩
      case rest =>
        obtain ⟨b, k2, hb4, hk2, hb7, ho7, hst7, hg7, HWH⟩ := hcut
        obtain ⟨w7, rfl⟩ : ∃ w7 : World, w7 = wc := ⟨_, rfl⟩
        have hs7 := hg7.size
        have HB7 := Lib.hid hb7
        have HO7 := Lib.hid ho7
        have HST7 := Lib.hid hst7
        have HG7 := Lib.hid hg7
        have q1 := (sg_blk hb7).2.1
        simp only at q1
        have hg7lt := (Array.getElem?_eq_some_iff.1 hb7).1
        clear hb7 ho7 hst7 hg7
        go_upto_if 41 with (fail)
        go_cut [] (fun wx => ∃ (un : Int) (k3 : Nat), (0 ≤ un ∧ un ≤ at_ + 50) ∧ k3 ≤ k' + 5 ∧ wx.heap[g]? = some (sgBk ⟨at_, kd, d, r, b, un⟩) ∧ wx.ownsRow w.heap.size 47 6 u7 j (recs sgC l) ∧ Strm wx p xs k3 ∧ wr.grownBy wx (some p) ∧ Hid (sgUn xs k2 kd at_ = (un, k3)))
        case first =>
          by_cases hk4 : kd = 4
          · have hk4b : decide (kd = 4) = true := decide_eq_true hk4
            go_wp2_with (fail)
            refine (pick_any _ p k2 w7.heap.size 3 3 xs unPk (by omega) rfl (by omega) (by omega) (HST7.out.alloc _) (by omega) (Cells.new _ _ _ _ _ rfl)).mono ?_
            have hun := unPk_range (nextN xs k2 3) (nextN_lt _ _ _ (by omega))
            obtain ⟨ud, eu⟩ : ∃ r, r = unPk.getD (nextN xs k2 3) 0 := ⟨_, rfl⟩
            rw [← eu] at hun ⊢
            have HEU := Lib.hid (show sgUn xs k2 kd at_ = (at_ + ud, k2 + 1) from by unfold sgUn; rw [if_pos hk4, ← eu])
            clear eu
            rintro e w8 ⟨rfl, hst8, hg8⟩
            have hg8' := grown_of_alloc hg8
            have hs8 := hg8'.size
            have hb8 := (hg8'.block g hg7lt (by intro e; injection e with e; omega)).trans HB7.out
            have HO8 := Lib.hid (own_kept HO7.out hg8' (by omega))
            have HST8 := Lib.hid hst8
            have HG8 := Lib.hid (grown_trans HG7.out hg8')
            have hwu : IntKind.i64.wrap (at_ + ud) = at_ + ud := by rw [IntKind.wrap_i64]; omega
            have hput := sg_put (j := 5) (u := .int .i64 (at_ + ud)) (s' := ⟨at_, kd, d, r, b, at_ + ud⟩) hb8 rfl
            have HP := Lib.hid hput
            have HOp := Lib.hid (own_neG HO8.out hput.2 HON.out)
            have HSTp := Lib.hid (HST8.out.row hput.2 (fun q hq => by cases hq; exact hpg))
            have HGp := Lib.hid (grown_more HG8.out hput.2 (fun q hq => by cases hq; exact hwg))
            have n5 := cell_of_blk (j := 5) hb8 rfl
            have fr5 : w8.frozen? ⟨g, 5, none⟩ = false := by simp [World.frozen?, hb8, sgBk]
            have hg8lt : g < w8.heap.size := by omega
            clear hst8 hg8 hg8' hb8 hput
            go_wp2_with (fail)
            go_meet
            exact ⟨at_ + ud, _, (by omega), (by omega), HP.out.1, HOp.out, HSTp.out, HGp.out, HEU⟩
          · have hk4b : decide (kd = 4) = false := decide_eq_false hk4
            have HEU := Lib.hid (show sgUn xs k2 kd at_ = (0, k2) from by unfold sgUn; rw [if_neg hk4])
            go_wp2_with (fail)
            go_meet
            exact ⟨0, _, (by omega), (by omega), HB7.out, HO7.out, HST7.out, HG7.out, HEU⟩
        case rest =>
          obtain ⟨un, k3, hun, hk3, hb8, ho8, hst8, hg8, HUN⟩ := hcut
          obtain ⟨w8, rfl⟩ : ∃ w8 : World, w8 = wc := ⟨_, rfl⟩
          have hs8 := hg8.size
          have HO8 := Lib.hid ho8
          have HST8 := Lib.hid hst8
          have HG8 := Lib.hid hg8
          obtain ⟨x, ex⟩ : ∃ x : Sg, x = ⟨at_, kd, d, r, b, un⟩ := ⟨_, rfl⟩
          rw [← ex] at hb8
          have hxI : SgI x := by rw [ex]; exact ⟨hd3, hr2, hb4, hat.1, by show at_ ≤ 10000; omega, hkd, by show 0 ≤ un ∧ un ≤ 20000; omega⟩
          have HXI := Lib.hid hxI
          obtain ⟨q0, q1, q2, q3, q4, q5⟩ := sg_blk hb8
          have hg8lt := (Array.getElem?_eq_some_iff.1 hb8).1
          have HEX := Lib.hid ex
          clear hb8 ho8 hst8 hg8 ex hxI
          go_wp2_with (at_builtin; refine wpList_append_own2 _ rfl _ _ 26 rfl w.heap.size 47 i0 _ 6 72 Tryz.underlying26 hi0 hz0 hz1 hz2 rfl (by decide) _ _ _ rfl (HO8.out.alloc _) ⟨_, 0, none⟩ 1 1 (sgC x) rfl rfl ?c1 ?c2 ?c3 ?c4 ?c5 ?_)
          case c1 => first | exact cells_add (cells_atF (by rfl) (by first | rfl | simp)) | exact fun j u h => h
          case c2 => exact sgC_one _
          case c3 => unfold maxLen; omega
          case c4 => omega
          case c5 => first | omega | (simp; omega)
          intro v9 w9 ho9 hg9 hm9
          have hlo : ∀ q, u7.ownBlock = some q → w.heap.size ≤ q := fun q hq => (HO8.out.lt q hq).1
          have hlo2 : ∀ q, u7.ownBlock = some q → p < q := fun q hq => by have := hlo q hq; omega
          have HST9 := Lib.hid ((HST8.out.alloc _).row hg9 hlo2)
          have HG9 := Lib.hid (grown_more (grown_trans (grown_trans HGW.out HG8.out) (World.grownBy_alloc _ _ (some p))) hg9 hlo)
          have HO9 := Lib.hid ho9
          have hs9 := HG9.out.size
          have HOK9 := Lib.hid (show ∀ y ∈ l ++ [x], SgI y from fun y hy => by
            rw [List.mem_append, List.mem_singleton] at hy
            rcases hy with hy | rfl
            · exact HOK.out y hy
            · exact HXI.out)
          have hpl9 := HST9.out.lt
          clear ho9 hg9 hm9 hlo hlo2
          go_wp2_with (fail)
          refine (pick_any _ p k3 w9.heap.size 5 5 xs atPk (by omega) rfl (by omega) (by omega) (HST9.out.alloc _) (by omega) (Cells.new _ _ _ _ _ rfl)).mono ?_
          have hda := atPk_range (nextN xs k3 5) (nextN_lt _ _ _ (by omega))
          obtain ⟨da, eda⟩ : ∃ r, r = atPk.getD (nextN xs k3 5) 0 := ⟨_, rfl⟩
          rw [← eda] at hda ⊢
          have HSA2 := Lib.hid (sgA_step HSA.out HKD.out HDD.out HRR.out HWH.out HUN.out HEX.out eda)
          clear eda
          rintro e w10 ⟨rfl, hst10, hg10⟩
          have hg10' := grown_of_alloc hg10
          have HO10 := Lib.hid (own_kept HO9.out hg10' (by omega))
          have HST10 := Lib.hid hst10
          have HG10 := Lib.hid (grown_trans HG9.out hg10')
          have hwa : IntKind.i64.wrap (at_ + da) = at_ + da := by rw [IntKind.wrap_i64]; omega
          clear hst10 hg10 hg10'
          go_wp2_with (fail)
          go_roundw
          case rel => exact ⟨j + 1, k3 + 1, at_ + da, l ++ [x], by omega, by simp, rfl, by omega, HOK9.out, by rw [List.length_append, HLN.out]; rfl, by rw [recs_snoc]; exact HO10.out, HST10.out, by omega, HG10.out, HSA2⟩
          case measure => simp [intOf]; omega
    · have hltI : ¬ (j : Int) < (N : Int) := by omega
      obtain ⟨A, c, rfl⟩ := own_slice hown
      have HAN := Lib.hid (show sgA xs k N = (k', at_, l) from by rw [show N = j by omega]; exact HSA.out)
      clear hok hln hown hst hgw
      go_wp2_with (fail)
      refine (sortStableS_any l j c w.heap.size A wr HLN.out (by omega) HO.out).mono ?_
      rintro e w2 ⟨rfl, m, hperm, hlen, ho2, hg2, hsrt⟩
      have HSRT := Lib.hid hsrt
      clear hsrt
      have hlo : ∀ q, (Value.slice A j c).ownBlock = some q → w.heap.size ≤ q := fun q hq => (HO.out.lt q hq).1
      have hlo2 : ∀ q, (Value.slice A j c).ownBlock = some q → p < q := fun q hq => by have := hlo q hq; omega
      have HG2 := Lib.hid (grown_more HGW.out hg2 hlo)
      have HST2 := Lib.hid (HST.out.row hg2 hlo2)
      have HO2 := Lib.hid ho2
      have HM := Lib.hid (show ∀ x ∈ m, SgI x from fun x hx => HOK.out x (hperm.mem_iff.1 hx))
      have HLM := Lib.hid hlen
      clear hperm hlen ho2 hg2 hlo hlo2
      go_wp2_with (fail)
      refine (flipD_any w2 p k' xs 20 (by omega) (by omega) (by omega) HST2.out).mono ?_
      obtain ⟨b1, eb1⟩ : ∃ b : Bool, b = decide (nextV xs k' 20 = 0) := ⟨_, rfl⟩
      rw [← eb1]
      have HB1F := Lib.hid eb1
      clear eb1
      rintro e w3 ⟨rfl, hst3, hg3⟩
      have hs3 := hg3.size
      have hpw := hplt
      have hs2 := HG2.out.size
      have HO3 := Lib.hid (own_kept HO2.out hg3 (by omega))
      have HST3 := Lib.hid hst3
      have HG3 := Lib.hid (grown_trans HG2.out hg3)
      clear hst3 hg3
      go_upto_if 62 with (fail)
      go_cut [7] (fun v wx => ∃ (m2 : List Sg) (n2 : Nat), v = .slice A n2 c ∧ (∀ x ∈ m2, SgI x) ∧ m2.length = n2 ∧ n2 ≤ j ∧ wx.ownsRow w.heap.size 47 6 (.slice A n2 c) n2 (recs sgC m2) ∧ Strm wx p xs (k' + 1) ∧ w.grownBy wx (some p) ∧ Hid (m2 = sgM xs k N))
      case first =>
        cases b1 with
        | true =>
          go_wp2_with (fail)
          go_meet
          exact ⟨m, j, rfl, HM.out, HLM.out, Nat.le_refl _, HO3.out, HST3.out, HG3.out, Lib.hid (sgM_yes HAN.out HSRT.out HB1F.out)⟩
        | false =>
          go_wp2_with (fail)
          refine (compactS_any m j c w.heap.size A w3 HLM.out (by omega) HO3.out).mono ?_
          rintro e w4 ⟨m2, n2, rfl, hl2, hn2, hmem, ho4, hg4, hcs⟩
          have HSM := Lib.hid (sgM_no HAN.out HSRT.out HB1F.out hcs (by omega))
          clear hcs
          have hlo : ∀ q, (Value.slice A j c).ownBlock = some q → w.heap.size ≤ q := fun q hq => (HO3.out.lt q hq).1
          have hlo2 : ∀ q, (Value.slice A j c).ownBlock = some q → p < q := fun q hq => by have := hlo q hq; omega
          have HF := Lib.hid (And.intro (fun x hx => HM.out x (hmem x hx)) (And.intro hl2 (And.intro hn2 (And.intro ho4 (And.intro (HST3.out.row hg4 hlo2) (grown_more HG3.out hg4 hlo))))))
          clear hl2 hn2 hmem ho4 hg4 hlo hlo2
          go_wp2_with (fail)
          go_meet
          exact ⟨m2, n2, rfl, HF.out.1, HF.out.2.1, HF.out.2.2.1, HF.out.2.2.2.1, HF.out.2.2.2.2.1, HF.out.2.2.2.2.2, HSM⟩
      case rest =>
        obtain ⟨m2, n2, rfl, hM, hlen, hn2, ho4, hst4, hg4, HSGM⟩ := hcut
        obtain ⟨w4, rfl⟩ : ∃ w4 : World, w4 = wc := ⟨_, rfl⟩
        have HO4 := Lib.hid ho4
        have HST4 := Lib.hid hst4
        have HG4 := Lib.hid hg4
        have HM4 := Lib.hid hM
        have HL4 := Lib.hid hlen
        have hs4 := hg4.size
        clear ho4 hst4 hg4 hM hlen HO3 HST3 HG3 HO2 HG2 HST2 HM HLM
        by_cases hn0 : n2 = 0
        · subst hn0
          go_wp2_with (fail)
          go_ret
          exact ⟨m2, A, c, _, 0, sgF_nil HAN.out HSGM.out HL4.out, rfl, fun x hx => (HM4.out x hx).g, HL4.out, Nat.zero_le _, HO4.out, HST4.out, by omega, HG4.out⟩
        · have hn0I : (0 : Int) < (n2 : Int) := by omega
          go_wp2_with (fail)
          refine (flipD_any w4 p (k' + 1) xs 20 (by omega) (by omega) (by omega) HST4.out).mono ?_
          obtain ⟨b2, eb2⟩ : ∃ b : Bool, b = decide (nextV xs (k' + 1) 20 = 0) := ⟨_, rfl⟩
          rw [← eb2]
          have HB2F := Lib.hid eb2
          clear eb2
          rintro e w5 ⟨rfl, hst5, hg5⟩
          have hs5 := hg5.size
          have HO5 := Lib.hid (own_kept HO4.out hg5 (by omega))
          have HST5 := Lib.hid hst5
          have HG5 := Lib.hid (grown_trans HG4.out hg5)
          clear hst5 hg5
          cases b2 with
          | false =>
            go_wp2_with (fail)
            go_ret
            exact ⟨m2, A, c, _, n2, sgF_no HAN.out HSGM.out HL4.out hn0 HB2F.out, rfl, fun x hx => (HM4.out x hx).g, HL4.out, by omega, HO5.out, HST5.out, by omega, HG5.out⟩
          | true =>
            go_wp2_with (fail)
            refine (next_any w5 p (k' + 1 + 1) xs (n2 : Int) (by omega) (by omega) HST5.out).mono ?_
            have hxl := nextN_lt xs (k' + 1 + 1) n2 (by omega)
            rw [nextN_eq xs (k' + 1 + 1) n2 (by omega)]
            obtain ⟨i, ei⟩ : ∃ i, i = nextN xs (k' + 1 + 1) n2 := ⟨_, rfl⟩
            rw [← ei] at hxl ⊢
            have HEI := Lib.hid ei
            clear ei
            rintro e w6 ⟨rfl, hst6, hg6⟩
            have hs6 := hg6.size
            have HO6 := Lib.hid (own_kept HO5.out hg6 (by omega))
            have HST6 := Lib.hid hst6
            have HG6 := Lib.hid (grown_trans HG5.out hg6)
            clear hst6 hg6
            obtain ⟨g, rfl, hwg, hg6lt⟩ : ∃ g, A = some ⟨g, 0, none⟩ ∧ w.heap.size ≤ g ∧ g < w6.heap.size := by
              rcases own_two HO6.out with ⟨_, h0, _⟩ | ⟨g, hA', hb', hlt'⟩
              · omega
              · exact ⟨g, hA', hb', hlt'⟩
            have hiI : (i : Int) < (n2 : Int) := by omega
            go_upto_region 20 with (fail)
            obtain ⟨x, hx⟩ : ∃ x, m2[i]? = some x := ⟨_, List.getElem?_eq_getElem (by have := HL4.out; omega)⟩
            have HXI := Lib.hid (HM4.out x (List.mem_of_getElem? hx))
            have HXM := Lib.hid (show m2.set i x = m2 from by
              apply List.ext_getElem?
              intro q
              by_cases hq : i = q
              · subst hq
                have := HL4.out
                rw [List.getElem?_set_self (by omega), hx]
              · rw [List.getElem?_set_ne hq])
            have HXX := Lib.hid hx
            clear hx
            obtain ⟨kk, ekk⟩ : ∃ kk, kk = k' + 1 + 1 + 1 := ⟨_, rfl⟩
            rw [← ekk] at HST6
            have HKK := Lib.hid ekk
            have hkk : kk < 100200 ∧ kk ≤ k + 120 := by omega
            obtain ⟨va, eva⟩ : ∃ v : Int, v = [x.at_, -1, 345686400000].getD (nextN xs kk 3) 0 := ⟨_, rfl⟩
            obtain ⟨vk, evk⟩ : ∃ v : Int, v = oddV xs (kk + 1) := ⟨_, rfl⟩
            obtain ⟨vb, evb⟩ : ∃ v : Nat, v = [x.b, 0, 3].getD (nextN xs (kk + 3) 3) 0 := ⟨_, rfl⟩
            obtain ⟨vu, evu⟩ : ∃ v : Int, v = [x.un, 0, x.at_, x.at_ + 2592000000 + 1].getD (nextN xs (kk + 4) 4) 0 := ⟨_, rfl⟩
            have HV := Lib.hid (And.intro eva.symm (And.intro evk.symm (And.intro evb.symm evu.symm)))
            have HSF := Lib.hid (sgF_yes HAN.out HSGM.out HL4.out hn0 HB2F.out HEI.out HXX.out HKK.out HV.out)
            clear eva evk evb evu
            have hiL : i < m2.length := by have := HL4.out; omega
            have hgp : ¬ g = p := by omega
            have hpgl : p < g := by omega
            have HK0 := Lib.hid (show KS w w6 p kk w.heap.size g c n2 i xs m2 (odX x va vk vb vu) 0 w6.drew from ⟨by show w6.ownsRow _ _ _ _ _ (recs sgC (m2.set i x)); rw [HXM.out]; exact HO6.out, HST6.out, ⟨HG6.out.os, HG6.out.tape, HG6.out.output, HG6.out.size, HG6.out.block⟩, Nat.le_refl _⟩)
            have HWA := Lib.hid (show IntKind.i64.wrap (x.at_ + 2592000000) = x.at_ + 2592000000 ∧ IntKind.i64.wrap (x.at_ + 2592000000 + 1) = x.at_ + 2592000000 + 1 from by
              have h1 := HXI.out.at0
              have h2 := HXI.out.at1
              exact ⟨by rw [IntKind.wrap_i64]; omega, by rw [IntKind.wrap_i64]; omega⟩)
            refine qRegionSt (KS w w6 p kk w.heap.size g c n2 i xs m2 (odX x va vk vb vu))
              [.pointer (some ⟨g, i * 6, none⟩), .pointer (some ⟨g, i * 6, none⟩), .pointer (some ⟨g, i * 6, none⟩), .pointer (some ⟨g, i * 6, none⟩), .pointer (some ⟨p, 0, none⟩), .pointer (some ⟨g, i * 6, none⟩), .pointer (some ⟨g, i * 6, none⟩), .pointer (some ⟨g, i * 6, none⟩), .int .i64 x.at_, undef, .int .i64 va,
               .pointer (some ⟨p, 0, none⟩), .int .i64 vk, .pointer (some ⟨p, 0, none⟩), .pointer (some ⟨g, i * 6, none⟩), .pointer (some ⟨g, i * 6, none⟩), .pointer (some ⟨g, i * 6 + 4, none⟩), .string (alwT x.b), undef, .string (alwT vb),
               .pointer (some ⟨p, 0, none⟩), .pointer (some ⟨g, i * 6, none⟩), .pointer (some ⟨g, i * 6, none⟩), .pointer (some ⟨g, i * 6 + 5, none⟩), .int .i64 x.un, .pointer (some ⟨g, i * 6, none⟩), .pointer (some ⟨g, i * 6, none⟩), .pointer (some ⟨g, i * 6, none⟩), .int .i64 x.at_,
               .pointer (some ⟨g, i * 6, none⟩), .pointer (some ⟨g, i * 6, none⟩), .pointer (some ⟨g, i * 6, none⟩), .int .i64 x.at_, .int .i64 (x.at_ + 2592000000), .int .i64 (x.at_ + 2592000000 + 1), undef, .int .i64 vu,
               .pointer (some ⟨g, i * 6, none⟩), .pointer (some ⟨g, i * 6, none⟩), .tuple #[], .pointer (some ⟨g, i * 6, none⟩), .pointer (some ⟨g, i * 6 + 1, none⟩), .tuple #[], .pointer (some ⟨g, i * 6, none⟩), .pointer (some ⟨g, i * 6 + 4, none⟩), .tuple #[], .pointer (some ⟨g, i * 6, none⟩), .pointer (some ⟨g, i * 6 + 5, none⟩), .tuple #[]]
              [none, none, none, none, none, none, none, none, none, some (.cells #[.int .i64 x.at_, .int .i64 (-1), .int .i64 345686400000] 3, fun b => .slice (some ⟨b, 0, none⟩) 3 3), none,
               none, none, none, none, none, none, none, some (.cells #[.string (alwT x.b), .string ⟨#[]⟩, .string ⟨#[65]⟩] 9, fun b => .slice (some ⟨b, 0, none⟩) 3 3), none,
               none, none, none, none, none, none, none, none, none, none, none, none, none, none, none, some (.cells #[.int .i64 x.un, .int .i64 0, .int .i64 x.at_, .int .i64 (x.at_ + 2592000000 + 1)] 3, fun b => .slice (some ⟨b, 0, none⟩) 4 4), none,
               none, none, none, none, none, none, none, none, none, none, none, none]
              [0, 0, 0, 0, 0, 0, 0, 0, 0, 0, 1, 0, 2, 0, 0, 0, 0, 0, 0, 3, 0, 0, 0, 0, 0, 0, 0, 0, 0, 0, 0, 0, 0, 0, 0, 0, 4, 0, 0, 5, 0, 0, 6, 0, 0, 7, 0, 0, 8]
              [8, 8, 8, 8, 8, 8, 8, 8, 4, 8, 8, 8, 8, 8, 8, 8, 8, 4, 8, 8, 8, 8, 8, 8, 4, 8, 8, 8, 4, 8, 8, 8, 4, 8, 8, 8, 8, 8, 8, 8, 8, 8, 8, 8, 8, 8, 8, 8, 8] 8 (by kernel_rfl) (by kernel_rfl) rfl rfl (by rfl) HK0.out (fun s w o h => h.alloc o) ?_ ?_
            · simp only [putL, Act.put, List.setIfInBounds_toArray, List.set_cons_zero, List.set_cons_succ]
              refine ⟨?_, ?_, ?_, ?_, ?_, ?_, ?_, ?_, ?_, ?_, ?_, ?_, ?_, ?_, ?_, ?_, ?_, ?_, ?_, ?_, ?_, ?_, ?_, ?_, ?_, ?_, ?_, ?_, ?_, ?_, ?_, ?_, ?_, ?_, ?_, ?_, ?_, ?_, ?_, ?_, ?_, ?_, ?_, ?_, ?_, ?_, ?_, ?_, ?_, trivial⟩
              · exact OneSt.pure (fun G V => by simp only [putH, Act.put, List.setIfInBounds_toArray, List.set_cons_zero, List.set_cons_succ]; go_simp)
              · exact OneSt.pure (fun G V => by simp only [putH, Act.put, List.setIfInBounds_toArray, List.set_cons_zero, List.set_cons_succ]; go_simp)
              · exact OneSt.pure (fun G V => by simp only [putH, Act.put, List.setIfInBounds_toArray, List.set_cons_zero, List.set_cons_succ]; go_simp)
              · exact OneSt.pure (fun G V => by simp only [putH, Act.put, List.setIfInBounds_toArray, List.set_cons_zero, List.set_cons_succ]; go_simp)
              · exact OneSt.pure (fun G V => by simp only [putH, Act.put, List.setIfInBounds_toArray, List.set_cons_zero, List.set_cons_succ]; go_simp)
              · exact OneSt.pure (fun G V => by simp only [putH, Act.put, List.setIfInBounds_toArray, List.set_cons_zero, List.set_cons_succ]; go_simp)
              · exact OneSt.pure (fun G V => by simp only [putH, Act.put, List.setIfInBounds_toArray, List.set_cons_zero, List.set_cons_succ]; go_simp)
              · exact OneSt.pure (fun G V => by simp only [putH, Act.put, List.setIfInBounds_toArray, List.set_cons_zero, List.set_cons_succ]; go_simp)
              · exact OneSt.load (fun G s V hK hs => by have c0 := hK.cells hiL 0 (.int .i64 x.at_) (by rw [odX_low x va vk vb vu s hs]; rfl); have hgl := hK.lt; simp only [Nat.add_zero] at c0; simp only [putH, Act.put, List.setIfInBounds_toArray, List.set_cons_zero, List.set_cons_succ]; go_simp)
              · exact OneSt.lay (fun G V => by simp only [putH, Act.put, List.setIfInBounds_toArray, List.set_cons_zero, List.set_cons_succ]; go_simp)
              · exact OneSt.call (fun G V hK hL => ⟨_, _, by simp only [putH, Act.put, List.setIfInBounds_toArray, List.set_cons_zero, List.set_cons_succ]; go_simp <;> exact ⟨rfl, rfl⟩, by obtain ⟨hg1, hg2⟩ := hL 9 _ _ rfl (by kernel_rfl); exact (pick_any V p (kk) (G 9) 3 3 xs [x.at_, -1, 345686400000] (by omega) rfl (by omega) (by omega) hK.strm (by omega) (cells_blk hg2 rfl)).mono (fun e w' h => ⟨by rw [h.1, HV.out.1], hK.call h.2.2 (by omega) (by omega) h.2.1 rfl⟩)⟩)
              · exact OneSt.pure (fun G V => by simp only [putH, Act.put, List.setIfInBounds_toArray, List.set_cons_zero, List.set_cons_succ]; go_simp)
              · exact OneSt.call (fun G V hK hL => ⟨_, _, by simp only [putH, Act.put, List.setIfInBounds_toArray, List.set_cons_zero, List.set_cons_succ]; go_simp <;> exact ⟨rfl, rfl⟩, (odd15_any V p (kk + 1) xs (by omega) hK.strm).mono (fun e w' h => ⟨by rw [h.1, HV.out.2.1], hK.call h.2.2 (by omega) (by omega) h.2.1 rfl⟩)⟩)
              · exact OneSt.pure (fun G V => by simp only [putH, Act.put, List.setIfInBounds_toArray, List.set_cons_zero, List.set_cons_succ]; go_simp)
              · exact OneSt.pure (fun G V => by simp only [putH, Act.put, List.setIfInBounds_toArray, List.set_cons_zero, List.set_cons_succ]; go_simp)
              · exact OneSt.pure (fun G V => by simp only [putH, Act.put, List.setIfInBounds_toArray, List.set_cons_zero, List.set_cons_succ]; go_simp)
              · exact OneSt.pure (fun G V => by simp only [putH, Act.put, List.setIfInBounds_toArray, List.set_cons_zero, List.set_cons_succ]; go_simp)
              · exact OneSt.load (fun G s V hK hs => by have c0 := hK.cells hiL 4 (.string (alwT x.b)) (by rw [odX_low x va vk vb vu s hs]; rfl); have hgl := hK.lt; simp only [putH, Act.put, List.setIfInBounds_toArray, List.set_cons_zero, List.set_cons_succ]; go_simp)
              · exact OneSt.lay (fun G V => by simp only [putH, Act.put, List.setIfInBounds_toArray, List.set_cons_zero, List.set_cons_succ]; go_simp)
              · exact OneSt.call (fun G V hK hL => ⟨_, _, by simp only [putH, Act.put, List.setIfInBounds_toArray, List.set_cons_zero, List.set_cons_succ]; go_simp <;> exact ⟨rfl, rfl⟩, by obtain ⟨hg1, hg2⟩ := hL 18 _ _ rfl (by kernel_rfl); exact (some_any V p (kk + 3) (G 18) 3 3 xs ([x.b, 0, 3].map alwT) (by omega) rfl (by omega) (by omega) hK.strm (by omega) (cells_blk hg2 rfl)).mono (fun e w' h => ⟨by rw [h.1, alw_pick x.b _ (nextN_lt xs (kk + 3) 3 (by omega)), HV.out.2.2.1], hK.call h.2.2 (by omega) (by omega) h.2.1 rfl⟩)⟩)
              · exact OneSt.pure (fun G V => by simp only [putH, Act.put, List.setIfInBounds_toArray, List.set_cons_zero, List.set_cons_succ]; go_simp)
              · exact OneSt.pure (fun G V => by simp only [putH, Act.put, List.setIfInBounds_toArray, List.set_cons_zero, List.set_cons_succ]; go_simp)
              · exact OneSt.pure (fun G V => by simp only [putH, Act.put, List.setIfInBounds_toArray, List.set_cons_zero, List.set_cons_succ]; go_simp)
              · exact OneSt.pure (fun G V => by simp only [putH, Act.put, List.setIfInBounds_toArray, List.set_cons_zero, List.set_cons_succ]; go_simp)
              · exact OneSt.load (fun G s V hK hs => by have c0 := hK.cells hiL 5 (.int .i64 x.un) (by rw [odX_low x va vk vb vu s hs]; rfl); have hgl := hK.lt; simp only [putH, Act.put, List.setIfInBounds_toArray, List.set_cons_zero, List.set_cons_succ]; go_simp)
              · exact OneSt.pure (fun G V => by simp only [putH, Act.put, List.setIfInBounds_toArray, List.set_cons_zero, List.set_cons_succ]; go_simp)
              · exact OneSt.pure (fun G V => by simp only [putH, Act.put, List.setIfInBounds_toArray, List.set_cons_zero, List.set_cons_succ]; go_simp)
              · exact OneSt.pure (fun G V => by simp only [putH, Act.put, List.setIfInBounds_toArray, List.set_cons_zero, List.set_cons_succ]; go_simp)
              · exact OneSt.load (fun G s V hK hs => by have c0 := hK.cells hiL 0 (.int .i64 x.at_) (by rw [odX_low x va vk vb vu s hs]; rfl); have hgl := hK.lt; simp only [Nat.add_zero] at c0; simp only [putH, Act.put, List.setIfInBounds_toArray, List.set_cons_zero, List.set_cons_succ]; go_simp)
              · exact OneSt.pure (fun G V => by simp only [putH, Act.put, List.setIfInBounds_toArray, List.set_cons_zero, List.set_cons_succ]; go_simp)
              · exact OneSt.pure (fun G V => by simp only [putH, Act.put, List.setIfInBounds_toArray, List.set_cons_zero, List.set_cons_succ]; go_simp)
              · exact OneSt.pure (fun G V => by simp only [putH, Act.put, List.setIfInBounds_toArray, List.set_cons_zero, List.set_cons_succ]; go_simp)
              · exact OneSt.load (fun G s V hK hs => by have c0 := hK.cells hiL 0 (.int .i64 x.at_) (by rw [odX_low x va vk vb vu s hs]; rfl); have hgl := hK.lt; simp only [Nat.add_zero] at c0; simp only [putH, Act.put, List.setIfInBounds_toArray, List.set_cons_zero, List.set_cons_succ]; go_simp)
              · exact OneSt.pure (fun G V => by have h1 := HWA.out.1; simp only [putH, Act.put, List.setIfInBounds_toArray, List.set_cons_zero, List.set_cons_succ]; go_simp)
              · exact OneSt.pure (fun G V => by have h1 := HWA.out.2; simp only [putH, Act.put, List.setIfInBounds_toArray, List.set_cons_zero, List.set_cons_succ]; go_simp)
              · exact OneSt.lay (fun G V => by simp only [putH, Act.put, List.setIfInBounds_toArray, List.set_cons_zero, List.set_cons_succ]; go_simp)
              · exact OneSt.call (fun G V hK hL => ⟨_, _, by simp only [putH, Act.put, List.setIfInBounds_toArray, List.set_cons_zero, List.set_cons_succ]; go_simp <;> exact ⟨rfl, rfl⟩, by obtain ⟨hg1, hg2⟩ := hL 35 _ _ rfl (by kernel_rfl); exact (pick_any V p (kk + 4) (G 35) 4 4 xs [x.un, 0, x.at_, x.at_ + 2592000000 + 1] (by omega) rfl (by omega) (by omega) hK.strm (by omega) (cells_blk hg2 rfl)).mono (fun e w' h => ⟨by rw [h.1, HV.out.2.2.2], hK.call h.2.2 (by omega) (by omega) h.2.1 rfl⟩)⟩)
              · exact OneSt.pure (fun G V => by simp only [putH, Act.put, List.setIfInBounds_toArray, List.set_cons_zero, List.set_cons_succ]; go_simp)
              · exact OneSt.pure (fun G V => by simp only [putH, Act.put, List.setIfInBounds_toArray, List.set_cons_zero, List.set_cons_succ]; go_simp)
              · exact OneSt.store (fun G V hK hL => by have c0 := hK.cells hiL 0 _ rfl; have f0 := hK.fro (i * 6 + 0); have hgl := hK.lt; have hs := hK.store HL4.out hxl (by omega) hpgl hwg 0 (by omega) (.int .i64 va) rfl rfl; simp only [Nat.add_zero] at c0 f0 hs; refine ⟨_, ?_, rfl, hs.1, hs.2⟩; simp only [putH, Act.put, List.setIfInBounds_toArray, List.set_cons_zero, List.set_cons_succ]; go_simp)
              · exact OneSt.pure (fun G V => by simp only [putH, Act.put, List.setIfInBounds_toArray, List.set_cons_zero, List.set_cons_succ]; go_simp)
              · exact OneSt.pure (fun G V => by simp only [putH, Act.put, List.setIfInBounds_toArray, List.set_cons_zero, List.set_cons_succ]; go_simp)
              · exact OneSt.store (fun G V hK hL => by have c0 := hK.cells hiL 1 _ rfl; have f0 := hK.fro (i * 6 + 1); have hgl := hK.lt; have hs := hK.store HL4.out hxl (by omega) hpgl hwg 1 (by omega) (.int .i64 vk) rfl rfl; refine ⟨_, ?_, rfl, hs.1, hs.2⟩; simp only [putH, Act.put, List.setIfInBounds_toArray, List.set_cons_zero, List.set_cons_succ]; go_simp)
              · exact OneSt.pure (fun G V => by simp only [putH, Act.put, List.setIfInBounds_toArray, List.set_cons_zero, List.set_cons_succ]; go_simp)
              · exact OneSt.pure (fun G V => by simp only [putH, Act.put, List.setIfInBounds_toArray, List.set_cons_zero, List.set_cons_succ]; go_simp)
              · exact OneSt.store (fun G V hK hL => by have c0 := hK.cells hiL 4 _ rfl; have f0 := hK.fro (i * 6 + 4); have hgl := hK.lt; have hs := hK.store HL4.out hxl (by omega) hpgl hwg 4 (by omega) (.string (alwT vb)) rfl rfl; refine ⟨_, ?_, rfl, hs.1, hs.2⟩; simp only [putH, Act.put, List.setIfInBounds_toArray, List.set_cons_zero, List.set_cons_succ]; go_simp)
              · exact OneSt.pure (fun G V => by simp only [putH, Act.put, List.setIfInBounds_toArray, List.set_cons_zero, List.set_cons_succ]; go_simp)
              · exact OneSt.pure (fun G V => by simp only [putH, Act.put, List.setIfInBounds_toArray, List.set_cons_zero, List.set_cons_succ]; go_simp)
              · exact OneSt.store (fun G V hK hL => by have c0 := hK.cells hiL 5 _ rfl; have f0 := hK.fro (i * 6 + 5); have hgl := hK.lt; have hs := hK.store HL4.out hxl (by omega) hpgl hwg 5 (by omega) (.int .i64 vu) rfl rfl; refine ⟨_, ?_, rfl, hs.1, hs.2⟩; simp only [putH, Act.put, List.setIfInBounds_toArray, List.set_cons_zero, List.set_cons_succ]; go_simp)
            · intro G W7 hK hsz hG
              clear hG
              have HK := Lib.hid hK
              clear hK
              simp only [putL, putH, Act.put, List.setIfInBounds_toArray, List.set_cons_zero, List.set_cons_succ]
              have HX8 := Lib.hid (show ∀ y ∈ m2.set i (odX x va vk vb vu 8), SgG y from fun y hy => by
                rcases List.mem_or_eq_of_mem_set hy with hy | rfl
                · exact (HM4.out y hy).g
                · obtain ⟨h1, h2, h3, h4, h5, h6, h7⟩ := HXI.out
                  have e1 := at3_range x.at_ (nextN xs kk 3) (nextN_lt xs kk 3 (by omega)) h4 h5
                  have e2 := oddV_range xs (kk + 1)
                  have e3 := b3_range x.b (nextN xs (kk + 3) 3) (nextN_lt xs (kk + 3) 3 (by omega)) h3
                  have e4 := un4_range x.un x.at_ (nextN xs (kk + 4) 4) (nextN_lt xs (kk + 4) 4 (by omega)) h4 h5 h7
                  rw [HV.out.1] at e1
                  rw [HV.out.2.1] at e2
                  rw [HV.out.2.2.1] at e3
                  rw [HV.out.2.2.2] at e4
                  exact ⟨h1, h2, e3, e1, e2, e4⟩)
              go_wp2_with (fail)
              go_ret
              exact ⟨_, some ⟨g, 0, none⟩, c, _, n2, HSF.out, rfl, HX8.out, by rw [List.length_set]; exact HL4.out, by omega, HK.out.own, HK.out.strm, by simp only [odP]; omega, HK.out.gr⟩
theorem signals_any (w : World) (p k N : Nat) (xs : LiA) (hN : N ≤ 16) (hk : k < 100000) (hs : Strm w p xs k) :
    Calls Tryz.prog 4 #[.pointer (some ⟨p, 0, none⟩), .int .i64 (N : Int), .bool false] w fun e w' => SgPost w p k N xs e w' :=
  (signalsX_any w p k N xs hN hk hs).mono fun _ _ ⟨l, A, c, k', n, _, h⟩ => ⟨l, A, c, k', n, h⟩
end Go.Proofs.YtgdnedhcbjonkaaGreatDoor
