/- series.added of a bucket of a new time, by its contract. -/
import Derived.Test.YtaglkaphlekmoaaGreatDoorBktD
namespace Go.Proofs.YtaglkaphlekmoaaGreatDoor
open Go.RowKit

theorem Cells.new1 (w : World) (o : Obj) (q : Nat) (cs : Array Value) (t : TypeId) (f : Nat × Nat) (xs : List Value) (h : cs.toList = xs) : Cells (((w.alloc o).drewN q).alloc (.cells cs t f)) (w.heap.size + 1) 0 xs := by
  have := Cells.new ((w.alloc o).drewN q) cs t f xs h
  have e : ((w.alloc o).drewN q).heap.size = w.heap.size + 1 := by simp
  rw [e] at this
  exact this
theorem moved_of_drewN {w : World} {q : Nat} {v v' : Value} (h : Moved (w.drewN q) v v') : Moved w v v' := h

set_option maxHeartbeats 2000000 in
theorem added_empty (w : World) (base c : Nat) (A : Option Addr) (b : Bkt) (hbase : base ≤ w.heap.size) (hown : w.ownsRow base 84 8 (.slice A 0 c) 0 []) :
    Calls Tryz.prog 71 #[.slice A 0 c, bktV b] w fun e w' => ∃ v', e = .returned v' ∧ w'.ownsRow base 84 8 v' 1 (bCells [b]) ∧ w.grownBy w' (Value.slice A 0 c).ownBlock ∧ Moved w (.slice A 0 c) v' := by
  obtain ⟨i0, hi, hz0, hz1, hz2⟩ := info_parts Tryz.infoB
  have HOWN := Lib.hid hown
  clear hown
  obtain ⟨fr, to_, cnt, sum, mn, mx, fi, la⟩ := b
  unfold bktV
  go_enter Tryz.func71, Tryz.ntmps71
  go_wp2_with (fail)
  go_quiet (fail)
  go_wp2_with (at_builtin; refine wpList_append_own2 _ rfl (.tmp 22) (.tmp 24) 78 rfl base 84 i0 _ 8 64 Tryz.underlying78 hi hz0 hz1 hz2 rfl (by decide) _ _ _ rfl ((own_drewN (HOWN.out.alloc (.cells #[.int .i64 fr, .int .i64 to_, .int .i64 cnt, .int .i64 sum, .int .i64 mn, .int .i64 mx, .int .i64 fi, .int .i64 la] 84)) _).alloc (.cells #[.int .i64 fr, .int .i64 to_, .int .i64 cnt, .int .i64 sum, .int .i64 mn, .int .i64 mx, .int .i64 fi, .int .i64 la] 84)) ⟨_, 0, none⟩ 1 1 (bktC ⟨fr, to_, cnt, sum, mn, mx, fi, la⟩) rfl rfl ?pc1 ?pc2 ?pc3 ?pc4 ?pc5 ?_)
  case pc1 => exact cells_add (Cells.new1 w _ _ _ _ _ _ rfl)
  case pc2 => exact bktC_one _
  case pc3 => unfold maxLen; omega
  case pc4 => omega
  case pc5 => simp; omega
  intro v' w4 hown4 hgr4 hmv4
  have HO4 := Lib.hid hown4
  have HG4 := Lib.hid (grown_of_alloc (grown_of_drewN (grown_of_alloc hgr4)))
  have HM4 := Lib.hid (moved_of_alloc (moved_of_drewN (moved_of_alloc hmv4)))
  clear hown4 hgr4 hmv4
  go_wp2_with (fail)
  go_ret
  exact ⟨_, rfl, HO4.out, HG4.out, HM4.out⟩

set_option maxHeartbeats 2000000 in
theorem added_differ (w : World) (base k cap g : Nat) (l : List Bkt) (x b : Bkt) (hk : l.length = k) (hk2 : k < 1000000) (hbase : base ≤ w.heap.size) (hown : w.ownsRow base 84 8 (.slice (some ⟨g, 0, none⟩) (k + 1) cap) (k + 1) (bCells (l ++ [x]))) (hne : x.fr ≠ b.fr) :
    Calls Tryz.prog 71 #[.slice (some ⟨g, 0, none⟩) (k + 1) cap, bktV b] w fun e w' => ∃ v', e = .returned v' ∧ w'.ownsRow base 84 8 v' (k + 2) (bCells (l ++ [x, b])) ∧ w.grownBy w' (Value.slice (some ⟨g, 0, none⟩) (k + 1) cap).ownBlock ∧ Moved w (.slice (some ⟨g, 0, none⟩) (k + 1) cap) v' := by
  obtain ⟨i0, hi, hz0, hz1, hz2⟩ := info_parts Tryz.infoB
  have hx : (l ++ [x])[k]? = some x := by rw [List.getElem?_append_right (by omega)]; simp [hk]
  have hcell : ∀ j, j < 8 → w.cell? ⟨g, k * 8 + j, none⟩ = (bktC x)[j]? := fun j hj => (hown.cellAt _ (by omega)).trans (bCells_get _ k x hx j hj)
  have glt : g < w.heap.size := by
    have := World.block_lt_of_cell? w ⟨g, k * 8 + 0, none⟩ ((hcell 0 (by omega)).trans rfl)
    exact this
  have HOWN := Lib.hid hown
  have HE := Lib.hid (show bCells (l ++ [x, b]) = bCells (l ++ [x]) ++ bktC b by rw [← bCells_snoc, List.append_assoc]; rfl)
  obtain ⟨fr, to_, cnt, sum, mn, mx, fi, la⟩ := b
  obtain ⟨xfr, xto, xcnt, xsum, xmn, xmx, xfi, xla⟩ := x
  simp only at hne HE
  have c0 := (hcell 0 (by omega)).trans rfl
  have c1 := (hcell 1 (by omega)).trans rfl
  simp only [bktC, List.getElem?_cons_zero, List.getElem?_cons_succ, Nat.add_zero] at c0 c1
  clear hx hcell hown hk
  unfold bktV
  go_enter Tryz.func71, Tryz.ntmps71
  go_wp2_with (fail)
  have hWk : ∀ a : Addr, a.block = g → (w.alloc (.cells #[.int .i64 fr, .int .i64 to_, .int .i64 cnt, .int .i64 sum, .int .i64 mn, .int .i64 mx, .int .i64 fi, .int .i64 la] 84)).cell? a = w.cell? a := by
    intro a ha
    have := Below.heap_alloc w (.cells #[.int .i64 fr, .int .i64 to_, .int .i64 cnt, .int .i64 sum, .int .i64 mn, .int .i64 mx, .int .i64 fi, .int .i64 la] 84) g glt
    exact World.cell?_of_block (w := w) (by rw [ha]; exact this)
  rw [← hWk _ rfl] at c0 c1
  have hd : decide ((k : Int) < 0) = false := by simp
  have hkk : (k : Int) < (k : Int) + 1 := by omega
  have hdf : decide (xfr = fr) = false := by simpa using hne
  clear hWk
  go_quiet (fail)
  go_wp2_with (at_builtin; refine wpList_append_own2 _ rfl (.tmp 22) (.tmp 24) 78 rfl base 84 i0 _ 8 64 Tryz.underlying78 hi hz0 hz1 hz2 rfl (by decide) _ _ _ rfl ((own_drewN (HOWN.out.alloc (.cells #[.int .i64 fr, .int .i64 to_, .int .i64 cnt, .int .i64 sum, .int .i64 mn, .int .i64 mx, .int .i64 fi, .int .i64 la] 84)) _).alloc (.cells #[.int .i64 fr, .int .i64 to_, .int .i64 cnt, .int .i64 sum, .int .i64 mn, .int .i64 mx, .int .i64 fi, .int .i64 la] 84)) ⟨_, 0, none⟩ 1 1 (bktC ⟨fr, to_, cnt, sum, mn, mx, fi, la⟩) rfl rfl ?pc1 ?pc2 ?pc3 ?pc4 ?pc5 ?_)
  case pc1 => exact cells_add (Cells.new1 w _ _ _ _ _ _ rfl)
  case pc2 => exact bktC_one _
  case pc3 => unfold maxLen; omega
  case pc4 => omega
  case pc5 => simp; omega
  intro v' w4 hown4 hgr4 hmv4
  have HO4 := Lib.hid hown4
  have HG4 := Lib.hid (grown_of_alloc (grown_of_drewN (grown_of_alloc hgr4)))
  have HM4 := Lib.hid (moved_of_alloc (moved_of_drewN (moved_of_alloc hmv4)))
  clear hown4 hgr4 hmv4
  go_wp2_with (fail)
  go_ret
  refine ⟨_, rfl, ?_, HG4.out, HM4.out⟩
  rw [HE.out]
  exact HO4.out
end Go.Proofs.YtaglkaphlekmoaaGreatDoor
