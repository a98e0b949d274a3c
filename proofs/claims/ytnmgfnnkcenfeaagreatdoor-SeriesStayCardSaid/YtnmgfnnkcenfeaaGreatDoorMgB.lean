/- Several texts in one: BktD, BktT, Bkt2, BktL, Bkt3, CheckB, EqualB, Wider. -/
import Derived.Test.YtnmgfnnkcenfeaaGreatDoorProg
import Derived.Test.YtnmgfnnkcenfeaaGreatDoorMgA
import Derived.BigRegion

/- Buckets as data. -/
namespace Go.Proofs.YtnmgfnnkcenfeaaGreatDoor
open Go.RowKit

theorem region_tail {P : Program} {id : Nat} {Q : Exit → Act → World → Prop} {a : Act} {w : World} {l : List Oper} (n : Nat) (hm : P.follows .mixedOrders = true) (hB : Region.lexTailB .any l.toArray n = true)
    (h : ∀ V : World, w.drew = V → wpStill P l.toArray V (fun a' => wpList P l.toArray Q (l.drop n) a' V) (l.take n) a) : (Code.region id l.toArray true).wp P Q a w :=
  wp_region_still_tail n hm hB (h _ rfl)

theorem own_to {w V : World} {base : Nat} {e : TypeId} {size n : Nat} {v : Value} {xs : List Value} (hV : w.drew = V) (h : w.ownsRow base e size v n xs) : V.ownsRow base e size v n xs := by subst hV; exact h
theorem grown_to {a w V : World} {row : Option Nat} (hV : w.drew = V) (h : a.grownBy w row) : a.grownBy V row := by subst hV; exact ⟨h.os, h.tape, h.output, h.size, h.block⟩
theorem below_to {n : Nat} {a w V : World} (hV : w.drew = V) (h : Below n a w) : Below n a V := by subst hV; exact h.drew

structure Bkt where
  fr : Int
  to_ : Int
  cnt : Int
  sum : Int
  mn : Int
  mx : Int
  fi : Int
  la : Int

def bktC (b : Bkt) : List Value := [.int .i64 b.fr, .int .i64 b.to_, .int .i64 b.cnt, .int .i64 b.sum, .int .i64 b.mn, .int .i64 b.mx, .int .i64 b.fi, .int .i64 b.la]
def bktV (b : Bkt) : Value := .agg #[.int .i64 b.fr, .int .i64 b.to_, .int .i64 b.cnt, .int .i64 b.sum, .int .i64 b.mn, .int .i64 b.mx, .int .i64 b.fi, .int .i64 b.la]
def bCells (l : List Bkt) : List Value := l.flatMap bktC
theorem bCells_length (l : List Bkt) : (bCells l).length = l.length * 8 := by
  induction l with
  | nil => rfl
  | cons x l ih => simp only [bCells, List.flatMap_cons, List.length_append, List.length_cons] at ih ⊢; rw [ih]; simp [bktC]; omega
theorem bCells_app (a b : List Bkt) : bCells (a ++ b) = bCells a ++ bCells b := by simp [bCells]
theorem bCells_snoc (a : List Bkt) (b : Bkt) : bCells (a ++ [b]) = bCells a ++ bktC b := by simp [bCells]
theorem bktC_one (b : Bkt) : ∀ u ∈ bktC b, u.oneCell' = true := by
  intro u hu
  simp only [bktC, List.mem_cons, List.not_mem_nil, or_false] at hu
  rcases hu with rfl | rfl | rfl | rfl | rfl | rfl | rfl | rfl <;> rfl
theorem bCells_get (l : List Bkt) (i : Nat) (x : Bkt) (h : l[i]? = some x) (j : Nat) (hj : j < 8) : (bCells l)[i * 8 + j]? = (bktC x)[j]? := by
  induction l generalizing i with
  | nil => simp at h
  | cons y l ih =>
    cases i with
    | zero =>
      simp only [List.getElem?_cons_zero, Option.some.injEq] at h
      subst h
      simp only [bCells, List.flatMap_cons]
      rw [List.getElem?_append_left (by simp [bktC]; omega)]
      simp
    | succ i =>
      simp only [List.getElem?_cons_succ] at h
      have := ih i h
      simp only [bCells, List.flatMap_cons] at this ⊢
      rw [List.getElem?_append_right (by simp [bktC]; omega)]
      rw [← this]
      congr 1
      simp [bktC]; omega
/-- A bucket that takes in another one of its time. -/
def mergeB (x b : Bkt) : Bkt := { x with cnt := x.cnt + b.cnt, sum := x.sum + b.sum, mn := min x.mn b.mn, mx := max x.mx b.mx, la := b.la }
theorem bktC_merge (l : List Bkt) (x b : Bkt) : (((((bCells (l ++ [x])).set (l.length * 8 + 2) (.int .i64 (x.cnt + b.cnt))).set (l.length * 8 + 3) (.int .i64 (x.sum + b.sum))).set (l.length * 8 + 4) (.int .i64 (min x.mn b.mn))).set (l.length * 8 + 5) (.int .i64 (max x.mx b.mx))).set (l.length * 8 + 7) (.int .i64 b.la) = bCells (l ++ [mergeB x b]) := by
  have h : ∀ (c : List Value) (j : Nat) (u : Value), (bCells l ++ c).set (l.length * 8 + j) u = bCells l ++ c.set j u := by
    intro c j u
    rw [List.set_append_right _ _ (by rw [bCells_length]; omega), bCells_length]
    congr 2; omega
  rw [bCells_snoc, h, h, h, h, h, bCells_snoc]
  simp [bktC, mergeB]

theorem stored3 {W : World} {base g n cap : Nat} {e : TypeId} {size : Nat} {xs : List Value} (q : Nat) (i4 i5 i7 : Nat) (u4 u5 u7 : Value) (h : W.ownsRow base e size (.slice (some ⟨g, 0, none⟩) n cap) n xs) :
    ((((W.drewN q).setCell ⟨g, i4, none⟩ u4).setCell ⟨g, i5, none⟩ u5).setCell ⟨g, i7, none⟩ u7).ownsRow base e size (.slice (some ⟨g, 0, none⟩) n cap) n (((xs.set i4 u4).set i5 u5).set i7 u7) :=
  (((own_drewN h q).stored i4 u4).1.stored i5 u5).1.stored i7 u7 |>.1
theorem grown3 {w W : World} {g : Nat} (q : Nat) (i4 i5 i7 : Nat) (u4 u5 u7 : Value) (h : w.grownBy W (some g)) :
    w.grownBy ((((W.drewN q).setCell ⟨g, i4, none⟩ u4).setCell ⟨g, i5, none⟩ u5).setCell ⟨g, i7, none⟩ u7) (some g) :=
  grown_set (grown_set (grown_set (grown_drewN h q) (.inl rfl) _) (.inl rfl) _) (.inl rfl) _

theorem Tryz.infoB : (Tryz.prog.info? 46).map (fun i => (i.zero, i.size, i.bytes)) = some (some (.agg #[.int .i64 0, .int .i64 0, .int .i64 0, .int .i64 0, .int .i64 0, .int .i64 0, .int .i64 0, .int .i64 0]), 8, 64) := by kernel_rfl

end Go.Proofs.YtnmgfnnkcenfeaaGreatDoor

/- series.added of a bucket of the last one's time, by its contract. -/
namespace Go.Proofs.YtnmgfnnkcenfeaaGreatDoor
open Go.RowKit

set_option maxRecDepth 100000 in
set_option maxHeartbeats 4000000 in
theorem added_merge (w : World) (base k cap g : Nat) (l : List Bkt) (x b : Bkt) (hk : l.length = k) (hk2 : k < 1000000) (hown : w.ownsRow base 46 8 (.slice (some ⟨g, 0, none⟩) (k + 1) cap) (k + 1) (bCells (l ++ [x])))
    (ht1 : x.fr = b.fr) (ht2 : x.to_ = b.to_) (hc1 : 0 ≤ x.cnt ∧ x.cnt ≤ 1000000) (hc2 : 0 ≤ b.cnt ∧ b.cnt ≤ 1000000) (hs1 : -1000000000000 ≤ x.sum ∧ x.sum ≤ 1000000000000) (hs2 : -1000000000000 ≤ b.sum ∧ b.sum ≤ 1000000000000) :
    Calls Tryz.prog 44 #[.slice (some ⟨g, 0, none⟩) (k + 1) cap, bktV b] w fun e w' => e = .returned (.slice (some ⟨g, 0, none⟩) (k + 1) cap) ∧ w'.ownsRow base 46 8 (.slice (some ⟨g, 0, none⟩) (k + 1) cap) (k + 1) (bCells (l ++ [mergeB x b])) ∧ w.grownBy w' (some g) := by
  have hx : (l ++ [x])[k]? = some x := by rw [List.getElem?_append_right (by omega)]; simp [hk]
  have hcell : ∀ j, j < 8 → w.cell? ⟨g, k * 8 + j, none⟩ = (bktC x)[j]? := fun j hj => (hown.cellAt _ (by omega)).trans (bCells_get _ k x hx j hj)
  have glt : g < w.heap.size := by
    have := World.block_lt_of_cell? w ⟨g, k * 8 + 0, none⟩ ((hcell 0 (by omega)).trans rfl)
    exact this
  have HM := Lib.hid (bktC_merge l x b)
  rw [hk] at HM
  have HO := Lib.hid (hown.alloc (.cells #[.int .i64 b.fr, .int .i64 b.to_, .int .i64 b.cnt, .int .i64 b.sum, .int .i64 b.mn, .int .i64 b.mx, .int .i64 b.fi, .int .i64 b.la] 46))
  have HFR := Lib.hid (fun j => hown.frozenAt j)
  obtain ⟨fr, to_, cnt, sum, mn, mx, fi, la⟩ := b
  obtain ⟨xfr, xto, xcnt, xsum, xmn, xmx, xfi, xla⟩ := x
  simp only at ht1 ht2 hc1 hc2 hs1 hs2 HM HO
  subst ht1 ht2
  have c0 := (hcell 0 (by omega)).trans rfl
  have c1 := (hcell 1 (by omega)).trans rfl
  have c2 := (hcell 2 (by omega)).trans rfl
  have c3 := (hcell 3 (by omega)).trans rfl
  have c4 := (hcell 4 (by omega)).trans rfl
  have c5 := (hcell 5 (by omega)).trans rfl
  simp only [bktC, List.getElem?_cons_zero, List.getElem?_cons_succ, Nat.add_zero] at c0 c1 c2 c3 c4 c5
  have c7 := (hcell 7 (by omega))
  simp only [bktC, List.getElem?_cons_zero, List.getElem?_cons_succ] at c7
  have f2 := HFR.out (k * 8 + 2)
  have f3 := HFR.out (k * 8 + 3)
  have f4 := HFR.out (k * 8 + 4)
  have f5 := HFR.out (k * 8 + 5)
  have f7 := HFR.out (k * 8 + 7)
  clear hx hcell hown HFR hk
  unfold bktV
  go_enter Tryz.func44, Tryz.ntmps44
  go_wp2_with (fail)
  generalize hW : w.alloc (.cells #[.int .i64 xfr, .int .i64 xto, .int .i64 cnt, .int .i64 sum, .int .i64 mn, .int .i64 mx, .int .i64 fi, .int .i64 la] 46) = W at HO
  have hWg := Lib.hid (show w.grownBy W (some g) by rw [← hW]; exact World.grownBy_alloc w _ _)
  have hWn : W.heap[w.heap.size]? = some (.cells #[.int .i64 xfr, .int .i64 xto, .int .i64 cnt, .int .i64 sum, .int .i64 mn, .int .i64 mx, .int .i64 fi, .int .i64 la] 46) := by rw [← hW]; exact heap_new w _
  have hWs : w.heap.size < W.heap.size := by rw [← hW]; simp
  have hWk : ∀ a : Addr, a.block = g → W.cell? a = w.cell? a ∧ W.frozen? a = w.frozen? a := by
    intro a ha
    have := Below.heap_alloc w (.cells #[.int .i64 xfr, .int .i64 xto, .int .i64 cnt, .int .i64 sum, .int .i64 mn, .int .i64 mx, .int .i64 fi, .int .i64 la] 46) g glt
    rw [hW] at this
    exact ⟨World.cell?_of_block (w := w) (by rw [ha]; exact this), World.frozen?_of_block (w := w) (by rw [ha]; exact this)⟩
  rw [← (hWk _ rfl).1] at c0 c1 c2 c3 c4 c5 c7
  rw [← (hWk _ rfl).2] at f2 f3 f4 f5 f7
  have b0 := cell_of_blk (j := 0) hWn rfl
  have b1 := cell_of_blk (j := 1) hWn rfl
  have b2 := cell_of_blk (j := 2) hWn rfl
  have b3 := cell_of_blk (j := 3) hWn rfl
  have b4 := cell_of_blk (j := 4) hWn rfl
  have b5 := cell_of_blk (j := 5) hWn rfl
  have b6 := cell_of_blk (j := 6) hWn rfl
  have b7 := cell_of_blk (j := 7) hWn rfl
  have hd : decide ((k : Int) < 0) = false := by simp
  have hkk : (k : Int) < (k : Int) + 1 := by omega
  have hne : w.heap.size ≠ g := by omega
  have hne' : g ≠ w.heap.size := by omega
  clear hW hWk hWn
  go_quiet (fail)
  go_wp2_with (fail)
  have hw1 : IntKind.i64.wrap (xcnt + cnt) = xcnt + cnt := by rw [IntKind.wrap_i64]; omega
  have hw2 : IntKind.i64.wrap (xsum + sum) = xsum + sum := by rw [IntKind.wrap_i64]; omega
  refine region_tail 9 (by kernel_rfl) (by kernel_rfl) ?_
  intro V1 hV
  simp only [List.take_succ_cons, List.take_zero, List.drop_succ_cons, List.drop_zero]
  have hc : ∀ a, W.cell? a = V1.cell? a := fun a => by rw [← hV]; rfl
  have hf : ∀ a, W.frozen? a = V1.frozen? a := fun a => by rw [← hV]; rfl
  rw [hc] at c2 c3 c4 c5 c7 b2 b3 b4 b5 b7
  rw [hf] at f2 f3 f4 f5 f7
  have HO1 := Lib.hid (own_to hV (own_drewN HO.out _))
  have HG1 := Lib.hid (grown_to hV (grown_drewN hWg.out _))
  clear hc hf hV HO hWg c0 c1 b0 b1 b6
  repeat still_step
  refine wpStill_nil ?_
  go_wp2_with (fail)
  refine region_tail 9 (by kernel_rfl) (by kernel_rfl) ?_
  intro V2 hV
  simp only [List.take_succ_cons, List.take_zero, List.drop_succ_cons, List.drop_zero]
  have hc : ∀ a : Addr, (⟨g, k * 8 + 2, none⟩ : Addr) ≠ a → V1.cell? a = V2.cell? a := fun a ha => by rw [← hV]; exact (World.cell?_setCell_other _ _ _ _ ha).symm
  have hf : ∀ a, V1.frozen? a = V2.frozen? a := fun a => by rw [← hV]; exact (World.frozen?_setCell _ _ _ _).symm
  rw [hc _ (by simp)] at c3 c4 c5 c7
  rw [hc _ (by simp <;> omega)] at b3 b4 b5 b7
  rw [hf] at f3 f4 f5 f7
  have HO2 := Lib.hid (own_to hV (HO1.out.stored (k * 8 + 2) (.int .i64 (xcnt + cnt))).1)
  have HG2 := Lib.hid (grown_to hV (grown_set HG1.out (.inl rfl) _))
  clear hc hf hV HO1 HG1 c2 b2 f2
  repeat still_step
  refine wpStill_nil ?_
  go_wp2_with (fail)
  obtain ⟨mn', emn⟩ : ∃ mn', mn' = min xmn mn := ⟨_, rfl⟩
  obtain ⟨mx', emx⟩ : ∃ mx', mx' = max xmx mx := ⟨_, rfl⟩
  have hmn : (if mn < xmn then mn else xmn) = mn' := by rw [emn]; split <;> omega
  have hmx : (if xmx < mx then mx else xmx) = mx' := by rw [emx]; split <;> omega
  have EMN := Lib.hid emn
  have EMX := Lib.hid emx
  clear emn emx
  generalize hV : V2.setCell ⟨g, k * 8 + 3, none⟩ (.int .i64 (xsum + sum)) = V3
  have hc : ∀ a : Addr, (⟨g, k * 8 + 3, none⟩ : Addr) ≠ a → V2.cell? a = V3.cell? a := fun a ha => by rw [← hV]; exact (World.cell?_setCell_other _ _ _ _ ha).symm
  have hf : ∀ a, V2.frozen? a = V3.frozen? a := fun a => by rw [← hV]; exact (World.frozen?_setCell _ _ _ _).symm
  rw [hc _ (by simp)] at c4 c5 c7
  rw [hc _ (by simp <;> omega)] at b4 b5 b7
  rw [hf] at f4 f5 f7
  have HO3 := Lib.hid (show V3.ownsRow base 46 8 (.slice (some ⟨g, 0, none⟩) (k + 1) cap) (k + 1) ((((bCells (l ++ [⟨xfr, xto, xcnt, xsum, xmn, xmx, xfi, xla⟩])).set (k * 8 + 2) (.int .i64 (xcnt + cnt))).set (k * 8 + 3) (.int .i64 (xsum + sum)))) from hV ▸ (HO2.out.stored (k * 8 + 3) (.int .i64 (xsum + sum))).1)
  have HG3 := Lib.hid (show w.grownBy V3 (some g) from hV ▸ grown_set HG2.out (.inl rfl) _)
  clear hc hf hV HO2 HG2 c3 b3 f3
  clear hw1 hw2 hd hkk
  go_region
  go_wp2_with (fail)
  go_ret
  refine ⟨rfl, ?_, ?_⟩
  · rw [← HM.out, ← EMN.out, ← EMX.out]
    with_reducible exact own_to rfl (((HO3.out.stored (k * 8 + 4) (.int .i64 mn')).1.stored (k * 8 + 5) (.int .i64 mx')).1.stored (k * 8 + 7) (.int .i64 la)).1
  · with_reducible exact grown_to rfl (grown_set (grown_set (grown_set HG3.out (.inl rfl) _) (.inl rfl) _) (.inl rfl) _)
end Go.Proofs.YtnmgfnnkcenfeaaGreatDoor

/- series.added of a bucket of a new time, by its contract. -/
namespace Go.Proofs.YtnmgfnnkcenfeaaGreatDoor
open Go.RowKit

theorem Cells.new1 (w : World) (o : Obj) (q : Nat) (cs : Array Value) (t : TypeId) (f : Nat × Nat) (xs : List Value) (h : cs.toList = xs) : Cells (((w.alloc o).drewN q).alloc (.cells cs t f)) (w.heap.size + 1) 0 xs := by
  have := Cells.new ((w.alloc o).drewN q) cs t f xs h
  have e : ((w.alloc o).drewN q).heap.size = w.heap.size + 1 := by simp
  rw [e] at this
  exact this
theorem moved_of_drewN {w : World} {q : Nat} {v v' : Value} (h : Moved (w.drewN q) v v') : Moved w v v' := h

set_option maxHeartbeats 2000000 in
theorem added_empty (w : World) (base c : Nat) (A : Option Addr) (b : Bkt) (hbase : base ≤ w.heap.size) (hown : w.ownsRow base 46 8 (.slice A 0 c) 0 []) :
    Calls Tryz.prog 44 #[.slice A 0 c, bktV b] w fun e w' => ∃ v', e = .returned v' ∧ w'.ownsRow base 46 8 v' 1 (bCells [b]) ∧ w.grownBy w' (Value.slice A 0 c).ownBlock ∧ Moved w (.slice A 0 c) v' := by
  obtain ⟨i0, hi, hz0, hz1, hz2⟩ := info_parts Tryz.infoB
  have HOWN := Lib.hid hown
  clear hown
  obtain ⟨fr, to_, cnt, sum, mn, mx, fi, la⟩ := b
  unfold bktV
  go_enter Tryz.func44, Tryz.ntmps44
  go_wp2_with (fail)
  go_quiet (fail)
  go_wp2_with (at_builtin; refine wpList_append_own2 _ rfl (.tmp 22) (.tmp 24) 28 rfl base 46 i0 _ 8 64 Tryz.underlying28 hi hz0 hz1 hz2 rfl (by decide) _ _ _ rfl ((own_drewN (HOWN.out.alloc (.cells #[.int .i64 fr, .int .i64 to_, .int .i64 cnt, .int .i64 sum, .int .i64 mn, .int .i64 mx, .int .i64 fi, .int .i64 la] 46)) _).alloc (.cells #[.int .i64 fr, .int .i64 to_, .int .i64 cnt, .int .i64 sum, .int .i64 mn, .int .i64 mx, .int .i64 fi, .int .i64 la] 46)) ⟨_, 0, none⟩ 1 1 (bktC ⟨fr, to_, cnt, sum, mn, mx, fi, la⟩) rfl rfl ?pc1 ?pc2 ?pc3 ?pc4 ?pc5 ?_)
  case pc1 => exact cells_add (Cells.new1 w _ _ _ _ _ _ rfl)
  case pc2 => exact bktC_one _
  case pc3 => unfold maxLen; omega
  case pc4 => omega
  case pc5 => simp; omega
  intro v' w4 hown4 hgr4 hmv4
  have HO4 := Lib.hid hown4
  have HG4 := Lib.hid (grown_of_alloc (grown_of_drewN (grown_of_alloc hgr4)))
  have HM4 := Lib.hid (moved_of_alloc (moved_of_drewN (moved_of_alloc hmv4)))
  clear hown4 hgr4 hmv4
  go_wp2_with (fail)
  go_ret
  exact ⟨_, rfl, HO4.out, HG4.out, HM4.out⟩

set_option maxHeartbeats 2000000 in
theorem added_differ (w : World) (base k cap g : Nat) (l : List Bkt) (x b : Bkt) (hk : l.length = k) (hk2 : k < 1000000) (hbase : base ≤ w.heap.size) (hown : w.ownsRow base 46 8 (.slice (some ⟨g, 0, none⟩) (k + 1) cap) (k + 1) (bCells (l ++ [x]))) (hne : x.fr ≠ b.fr) :
    Calls Tryz.prog 44 #[.slice (some ⟨g, 0, none⟩) (k + 1) cap, bktV b] w fun e w' => ∃ v', e = .returned v' ∧ w'.ownsRow base 46 8 v' (k + 2) (bCells (l ++ [x, b])) ∧ w.grownBy w' (Value.slice (some ⟨g, 0, none⟩) (k + 1) cap).ownBlock ∧ Moved w (.slice (some ⟨g, 0, none⟩) (k + 1) cap) v' := by
  obtain ⟨i0, hi, hz0, hz1, hz2⟩ := info_parts Tryz.infoB
  have hx : (l ++ [x])[k]? = some x := by rw [List.getElem?_append_right (by omega)]; simp [hk]
  have hcell : ∀ j, j < 8 → w.cell? ⟨g, k * 8 + j, none⟩ = (bktC x)[j]? := fun j hj => (hown.cellAt _ (by omega)).trans (bCells_get _ k x hx j hj)
  have glt : g < w.heap.size := by
    have := World.block_lt_of_cell? w ⟨g, k * 8 + 0, none⟩ ((hcell 0 (by omega)).trans rfl)
    exact this
  have HOWN := Lib.hid hown
  have HE := Lib.hid (show bCells (l ++ [x, b]) = bCells (l ++ [x]) ++ bktC b by rw [← bCells_snoc, List.append_assoc]; rfl)
  obtain ⟨fr, to_, cnt, sum, mn, mx, fi, la⟩ := b
  obtain ⟨xfr, xto, xcnt, xsum, xmn, xmx, xfi, xla⟩ := x
  simp only at hne HE
  have c0 := (hcell 0 (by omega)).trans rfl
  have c1 := (hcell 1 (by omega)).trans rfl
  simp only [bktC, List.getElem?_cons_zero, List.getElem?_cons_succ, Nat.add_zero] at c0 c1
  clear hx hcell hown hk
  unfold bktV
  go_enter Tryz.func44, Tryz.ntmps44
  go_wp2_with (fail)
  have hWk : ∀ a : Addr, a.block = g → (w.alloc (.cells #[.int .i64 fr, .int .i64 to_, .int .i64 cnt, .int .i64 sum, .int .i64 mn, .int .i64 mx, .int .i64 fi, .int .i64 la] 46)).cell? a = w.cell? a := by
    intro a ha
    have := Below.heap_alloc w (.cells #[.int .i64 fr, .int .i64 to_, .int .i64 cnt, .int .i64 sum, .int .i64 mn, .int .i64 mx, .int .i64 fi, .int .i64 la] 46) g glt
    exact World.cell?_of_block (w := w) (by rw [ha]; exact this)
  rw [← hWk _ rfl] at c0 c1
  have hd : decide ((k : Int) < 0) = false := by simp
  have hkk : (k : Int) < (k : Int) + 1 := by omega
  have hdf : decide (xfr = fr) = false := by simpa using hne
  clear hWk
  go_quiet (fail)
  go_wp2_with (at_builtin; refine wpList_append_own2 _ rfl (.tmp 22) (.tmp 24) 28 rfl base 46 i0 _ 8 64 Tryz.underlying28 hi hz0 hz1 hz2 rfl (by decide) _ _ _ rfl ((own_drewN (HOWN.out.alloc (.cells #[.int .i64 fr, .int .i64 to_, .int .i64 cnt, .int .i64 sum, .int .i64 mn, .int .i64 mx, .int .i64 fi, .int .i64 la] 46)) _).alloc (.cells #[.int .i64 fr, .int .i64 to_, .int .i64 cnt, .int .i64 sum, .int .i64 mn, .int .i64 mx, .int .i64 fi, .int .i64 la] 46)) ⟨_, 0, none⟩ 1 1 (bktC ⟨fr, to_, cnt, sum, mn, mx, fi, la⟩) rfl rfl ?pc1 ?pc2 ?pc3 ?pc4 ?pc5 ?_)
  case pc1 => exact cells_add (Cells.new1 w _ _ _ _ _ _ rfl)
  case pc2 => exact bktC_one _
  case pc3 => unfold maxLen; omega
  case pc4 => omega
  case pc5 => simp; omega
  intro v' w4 hown4 hgr4 hmv4
  have HO4 := Lib.hid hown4
  have HG4 := Lib.hid (grown_of_alloc (grown_of_drewN (grown_of_alloc hgr4)))
  have HM4 := Lib.hid (moved_of_alloc (moved_of_drewN (moved_of_alloc hmv4)))
  clear hown4 hgr4 hmv4
  go_wp2_with (fail)
  go_ret
  refine ⟨_, rfl, ?_, HG4.out, HM4.out⟩
  rw [HE.out]
  exact HO4.out
end Go.Proofs.YtnmgfnnkcenfeaaGreatDoor

/- Buckets of a series as data: the plain law. -/
namespace Go.Proofs.YtnmgfnnkcenfeaaGreatDoor
open Go.RowKit

theorem snoc_ind {α : Type} {p : List α → Prop} (h0 : p []) (h1 : ∀ l s, p l → p (l ++ [s])) (l : List α) : p l := by
  have h : ∀ r : List α, p r.reverse := by
    intro r
    induction r with
    | nil => exact h0
    | cons x r ih => rw [List.reverse_cons]; exact h1 _ _ ih
  have := h l.reverse
  rwa [List.reverse_reverse] at this
/-- What series.added answers. -/
def addB (l : List Bkt) (b : Bkt) : List Bkt := match l.getLast? with
  | none => [b]
  | some x => if x.fr = b.fr then l.dropLast ++ [mergeB x b] else l ++ [b]
theorem addB_nil (b : Bkt) : addB [] b = [b] := rfl
theorem addB_same (l : List Bkt) (x b : Bkt) (h : x.fr = b.fr) : addB (l ++ [x]) b = l ++ [mergeB x b] := by simp [addB, h]
theorem addB_new (l : List Bkt) (x b : Bkt) (h : x.fr ≠ b.fr) : addB (l ++ [x]) b = l ++ [x, b] := by simp [addB, h]
theorem addB_length (l : List Bkt) (b : Bkt) : (addB l b).length ≤ l.length + 1 := by
  rcases List.eq_nil_or_concat l with rfl | ⟨l, x, rfl⟩
  · simp [addB]
  · rw [List.concat_eq_append]
    by_cases h : x.fr = b.fr
    · rw [addB_same _ _ _ h]; simp
    · rw [addB_new _ _ _ h]; simp

/-- The bucket of one sample in a grid of length L. -/
def smpB (L : Int) (s : Smp) : Bkt := ⟨s.1 / L * L, s.1 / L * L + L, 1, s.2, s.2, s.2, s.2, s.2⟩
def bktsOf (L : Int) (l : List Smp) : List Bkt := l.foldl (fun bs s => addB bs (smpB L s)) []
theorem bktsOf_snoc (L : Int) (l : List Smp) (s : Smp) : bktsOf L (l ++ [s]) = addB (bktsOf L l) (smpB L s) := by simp [bktsOf]

/-- What is so of each bucket of k samples. -/
structure BOk (L : Int) (k : Nat) (x : Bkt) : Prop where
  to_ : x.to_ = x.fr + L
  c0 : 1 ≤ x.cnt
  c1 : x.cnt ≤ k
  s0 : -(1000000000 * (k : Int)) ≤ x.sum
  s1 : x.sum ≤ 1000000000 * (k : Int)
theorem BOk.mono {L : Int} {k m : Nat} {x : Bkt} (h : BOk L k x) (hk : k ≤ m) : BOk L m x :=
  ⟨h.to_, h.c0, by have := h.c1; omega, by have := h.s0; omega, by have := h.s1; omega⟩
theorem BOk.merge {L : Int} {k m : Nat} {x b : Bkt} (h : BOk L k x) (h' : BOk L m b) : BOk L (k + m) (mergeB x b) := by
  refine ⟨h.to_, ?_, ?_, ?_, ?_⟩ <;> simp only [mergeB] <;> have := h.c0 <;> have := h.c1 <;> have := h.s0 <;> have := h.s1 <;> have := h'.c0 <;> have := h'.c1 <;> have := h'.s0 <;> have := h'.s1 <;> omega
theorem addB_ok {L : Int} {k m : Nat} {l : List Bkt} {b : Bkt} (h : ∀ x ∈ l, BOk L k x) (hb : BOk L m b) : ∀ x ∈ addB l b, BOk L (k + m) x := by
  intro y hy
  rcases List.eq_nil_or_concat l with rfl | ⟨l, x, rfl⟩
  · simp only [addB_nil, List.mem_singleton] at hy
    subst hy; exact hb.mono (by omega)
  · rw [List.concat_eq_append] at hy h
    by_cases e : x.fr = b.fr
    · rw [addB_same _ _ _ e, List.mem_append, List.mem_singleton] at hy
      rcases hy with hy | rfl
      · exact (h y (by simp [hy])).mono (by omega)
      · exact (h x (by simp)).merge hb
    · rw [addB_new _ _ _ e] at hy
      simp only [List.mem_append, List.mem_cons, List.not_mem_nil, or_false] at hy
      rcases hy with hy | rfl | rfl
      · exact (h y (by simp [hy])).mono (by omega)
      · exact (h y (by simp)).mono (by omega)
      · exact hb.mono (by omega)
theorem smpB_ok (L : Int) (s : Smp) (h1 : -1000000000 ≤ s.2) (h2 : s.2 ≤ 1000000000) : BOk L 1 (smpB L s) := ⟨rfl, by simp [smpB], by simp [smpB], by simp [smpB]; omega, by simp [smpB]; omega⟩
theorem bktsOf_ok (L : Int) (l : List Smp) (hv : ∀ s ∈ l, -1000000000 ≤ s.2 ∧ s.2 ≤ 1000000000) : ∀ x ∈ bktsOf L l, BOk L l.length x := by
  revert hv
  refine snoc_ind (p := fun l => (∀ s ∈ l, -1000000000 ≤ s.2 ∧ s.2 ≤ 1000000000) → ∀ x ∈ bktsOf L l, BOk L l.length x) ?_ ?_ l
  · intro _ x hx; simp [bktsOf] at hx
  · intro l s ih hv
    rw [bktsOf_snoc, List.length_append]
    exact addB_ok (ih fun y hy => hv y (by simp [hy])) (smpB_ok L s (hv s (by simp)).1 (hv s (by simp)).2)
theorem bktsOf_length (L : Int) (l : List Smp) : (bktsOf L l).length ≤ l.length := by
  refine snoc_ind (p := fun l => (bktsOf L l).length ≤ l.length) ?_ ?_ l
  · simp [bktsOf]
  · intro l s ih
    rw [bktsOf_snoc, List.length_append]
    have := addB_length (bktsOf L l) (smpB L s)
    simp only [List.length_cons, List.length_nil]
    omega
end Go.Proofs.YtnmgfnnkcenfeaaGreatDoor

/- series.added: one contract. -/
namespace Go.Proofs.YtnmgfnnkcenfeaaGreatDoor
open Go.RowKit

theorem added_any (w : World) (base n k : Nat) (L : Int) (l : List Bkt) (b : Bkt) (v : Value) (hn : l.length = n) (hn2 : n ≤ 1000) (hk : k ≤ 1000) (hbase : base ≤ w.heap.size) (hown : w.ownsRow base 46 8 v n (bCells l)) (hl : ∀ x ∈ l, BOk L k x) (hb : BOk L k b) :
    Calls Tryz.prog 44 #[v, bktV b] w fun e w' => ∃ v', e = .returned v' ∧ w'.ownsRow base 46 8 v' (addB l b).length (bCells (addB l b)) ∧ w.grownBy w' v.ownBlock ∧ Moved w v v' := by
  rcases List.eq_nil_or_concat l with rfl | ⟨l, x, rfl⟩
  · have hn0 : n = 0 := by simpa using hn.symm
    subst hn0
    obtain ⟨A, c, rfl⟩ := own_slice hown
    exact added_empty w base c A b hbase (by simpa [bCells] using hown)
  · rw [List.concat_eq_append] at *
    obtain ⟨m, rfl⟩ : ∃ m, n = m + 1 := ⟨l.length, by simpa using hn.symm⟩
    have hm : l.length = m := by simpa using hn
    obtain ⟨g, cap, rfl⟩ : ∃ g cap, v = .slice (some ⟨g, 0, none⟩) (m + 1) cap := by
      rcases hown.2 with ⟨_, h⟩ | ⟨g, cap, cur, hv, _⟩
      · omega
      · exact ⟨g, cap, hv⟩
    have hx := hl x (by simp)
    by_cases e : x.fr = b.fr
    · rw [addB_same _ _ _ e]
      refine (added_merge w base m cap g l x b hm (by omega) hown e (by rw [hx.to_, hb.to_, e]) ⟨by have := hx.c0; omega, by have := hx.c1; omega⟩ ⟨by have := hb.c0; omega, by have := hb.c1; omega⟩ ⟨by have := hx.s0; omega, by have := hx.s1; omega⟩ ⟨by have := hb.s0; omega, by have := hb.s1; omega⟩).mono ?_
      rintro e w' ⟨rfl, h1, h2⟩
      refine ⟨_, rfl, ?_, h2, Moved.refl _ _⟩
      simpa [hm] using h1
    · rw [addB_new _ _ _ e]
      refine (added_differ w base m cap g l x b hm (by omega) hbase hown e).mono ?_
      rintro e w' ⟨v', rfl, h1, h2⟩
      refine ⟨v', rfl, ?_, h2⟩
      simpa [hm] using h1
end Go.Proofs.YtnmgfnnkcenfeaaGreatDoor

/- series.CheckBuckets, length and bounded of good buckets. -/
namespace Go.Proofs.YtnmgfnnkcenfeaaGreatDoor
open Go.RowKit

/-- A bucket of a grid of length L. -/
structure GoodK (L : Int) (x : Bkt) : Prop where
  f0 : 0 ≤ x.fr
  f1 : x.fr < 345686400000
  to_ : x.to_ = x.fr + L
  md : x.fr.tmod L = 0
  c0 : 1 ≤ x.cnt
  c1 : x.cnt ≤ 5000
  m0 : -1000000000 ≤ x.mn
  m1 : x.mx ≤ 1000000000
  fi0 : x.mn ≤ x.fi
  fi1 : x.fi ≤ x.mx
  la0 : x.mn ≤ x.la
  la1 : x.la ≤ x.mx
  s0 : x.cnt * x.mn ≤ x.sum
  s1 : x.sum ≤ x.cnt * x.mx
structure GoodBs (L : Int) (l : List Bkt) : Prop where
  len : l.length ≤ 5000
  each : ∀ (i : Nat) (x : Bkt), l[i]? = some x → GoodK L x
  rise : ∀ (i : Nat) (x y : Bkt), l[i]? = some x → l[i + 1]? = some y → x.fr < y.fr

theorem bkt_cells {w : World} {b o : Nat} {l : List Bkt} (h : Cells w b o (bCells l)) (k : Nat) (x : Bkt) (hx : l[k]? = some x) (j : Nat) (hj : j < 8) :
    w.cell? ⟨b, o + k * 8 + j, none⟩ = (bktC x)[j]? := by
  obtain ⟨u, hu⟩ : ∃ u, (bktC x)[j]? = some u := ⟨_, List.getElem?_eq_getElem (by simpa [bktC] using hj)⟩
  rw [hu, Nat.add_assoc]
  exact h (k * 8 + j) u ((bCells_get l k x hx j hj).trans hu)
theorem prod_bound (c m : Int) (h1 : 1 ≤ c) (h2 : c ≤ 5000) (h3 : -1000000000 ≤ m) (h4 : m ≤ 1000000000) : IntKind.i64.wrap (c * m) = c * m := by
  have a1 : c * m ≤ c * 1000000000 := Int.mul_le_mul_of_nonneg_left h4 (by omega)
  have a2 : c * -1000000000 ≤ c * m := Int.mul_le_mul_of_nonneg_left h3 (by omega)
  rw [IntKind.wrap_i64]; omega

set_option maxRecDepth 100000 in
set_option maxHeartbeats 4000000 in
theorem checkB_any (l : List Bkt) (n c : Nat) (A : Option Addr) (L : Int) (w : World) (hL : 1 ≤ L) (hL2 : L ≤ 345686400000) (hn : l.length = n) (hg : GoodBs L l) (hr : Row w w.heap.size A (bCells l)) :
    Calls Tryz.prog 42 #[.slice A n c] w fun e w' => e = .returned (.int .i64 0) ∧ Below w.heap.size w w' := by
  have h5 : n ≤ 5000 := by have := hg.len; omega
  have HR := Lib.hid hr
  have HG := Lib.hid hg
  have HN := Lib.hid hn
  clear hr hg hn
  go_enter Tryz.func42, Tryz.ntmps42
  go_wp2_with (fail)
  go_loopw [11] (fun i wr => ∃ k : Nat, k ≤ n ∧ i = .int .i64 k ∧ Below w.heap.size w wr) (fun i _ => n - (intOf i).toNat)
  case atStart => exact ⟨0, Nat.zero_le _, rfl, Below.refl _ _⟩
  case round =>
    obtain ⟨k, hk, rfl, hbl⟩ := hrel
    have hsz := hbl.size
    by_cases hlt : k < n
    · have hkl : k < l.length := by have := HN.out; omega
      obtain ⟨b, o, rfl, hb2, hcs⟩ : ∃ b o, A = some ⟨b, o, none⟩ ∧ b < w.heap.size ∧ Cells w b o (bCells l) := by
        rcases HR.out with h | h
        · have := bCells_length l; rw [h] at this; simp at this; omega
        · exact h
      obtain ⟨x, hx⟩ : ∃ x, l[k]? = some x := ⟨_, List.getElem?_eq_getElem hkl⟩
      obtain ⟨z, hz⟩ : ∃ z, l[0]? = some z := ⟨_, List.getElem?_eq_getElem (by omega)⟩
      have HK := hcs.keep (hbl.block b hb2)
      have C := fun j hj => bkt_cells HK k x hx j hj
      have Z := fun j hj => bkt_cells HK 0 z hz j hj
      obtain ⟨g1, g2, g3, g4, g5, g6, g7, g8, g9, g10, g11, g12, g13, g14⟩ := HG.out.each k x hx
      obtain ⟨_, _, zt, _, _, _, _, _, _, _, _, _, _, _⟩ := HG.out.each 0 z hz
      have HP := Lib.hid (fun (y : Bkt) (j : Nat) (hy : l[j]? = some y) => bkt_cells HK j y hy 0 (by omega))
      have HRS := Lib.hid (fun (y : Bkt) (j : Nat) (hj : j + 1 = k) (hy : l[j]? = some y) => HG.out.rise j y x hy (by rw [hj]; exact hx))
      obtain ⟨fr, to_, cnt, sum, mn, mx, fi, la⟩ := x
      obtain ⟨zfr, zto, zcnt, zsum, zmn, zmx, zfi, zla⟩ := z
      simp only at g1 g2 g3 g4 g5 g6 g7 g8 g9 g10 g11 g12 g13 g14 zt
      subst g3 zt
      have c0 := (C 0 (by omega)).trans rfl
      have c1 := (C 1 (by omega)).trans rfl
      have c2 := (C 2 (by omega)).trans rfl
      have c3 := (C 3 (by omega)).trans rfl
      have c4 := (C 4 (by omega)).trans rfl
      have c5 := (C 5 (by omega)).trans rfl
      have c6 := (C 6 (by omega)).trans rfl
      have c7 := (C 7 (by omega)).trans rfl
      have z0 := (Z 0 (by omega)).trans rfl
      have z1 := (Z 1 (by omega)).trans rfl
      simp only [bktC, List.getElem?_cons_zero, List.getElem?_cons_succ, Nat.add_zero, Nat.zero_mul] at c0 c1 c2 c3 c4 c5 c6 c7 z0 z1
      have HBL := Lib.hid hbl
      have hlt' : (k : Int) < (n : Int) := by omega
      have hblt : b < wr.heap.size := by omega
      clear hbl hx hz HK C Z hkl
      go_wp2_with (fail)
      generalize hX : (wr.alloc (.cells #[.int .i64 fr, .int .i64 (fr + L), .int .i64 cnt, .int .i64 sum, .int .i64 mn, .int .i64 mx, .int .i64 fi, .int .i64 la] 46)).alloc (.cells #[.int .i64 fr, .int .i64 (fr + L)] 41) = X
      have hXs : wr.heap.size + 1 < X.heap.size := by rw [← hX]; simp
      have HBR : Below wr.heap.size wr X := by rw [← hX]; exact ((Below.refl _ _).alloc (Nat.le_refl _) _).alloc (by simp) _
      have hE : X.heap[wr.heap.size]? = some (.cells #[.int .i64 fr, .int .i64 (fr + L), .int .i64 cnt, .int .i64 sum, .int .i64 mn, .int .i64 mx, .int .i64 fi, .int .i64 la] 46) := by
        rw [← hX, Below.heap_alloc _ _ _ (by simp)]; exact heap_new wr _
      have hD : X.heap[wr.heap.size + 1]? = some (.cells #[.int .i64 fr, .int .i64 (fr + L)] 41) := by
        rw [← hX]; exact (by simpa using heap_new (wr.alloc (.cells #[.int .i64 fr, .int .i64 (fr + L), .int .i64 cnt, .int .i64 sum, .int .i64 mn, .int .i64 mx, .int .i64 fi, .int .i64 la] 46)) (.cells #[.int .i64 fr, .int .i64 (fr + L)] 41))
      clear hX c0 c1 c2 c3 c4 c5 c6 c7
      have e1 := cell_of_blk (j := 1) hE rfl
      have e2 := cell_of_blk (j := 2) hE rfl
      have e3 := cell_of_blk (j := 3) hE rfl
      have e4 := cell_of_blk (j := 4) hE rfl
      have e5 := cell_of_blk (j := 5) hE rfl
      have e6 := cell_of_blk (j := 6) hE rfl
      have e7 := cell_of_blk (j := 7) hE rfl
      have d0 := cell_of_blk (j := 0) hD rfl
      have d1 := cell_of_blk (j := 1) hD rfl
      rw [← HBR.cell (p := ⟨b, o, none⟩) hblt] at z0
      rw [← HBR.cell (p := ⟨b, o + 1, none⟩) hblt] at z1
      have HP2 := Lib.hid (fun (y : Bkt) (j : Nat) (hy : l[j]? = some y) => (HBR.cell (p := ⟨b, o + j * 8 + 0, none⟩) hblt).trans (HP.out y j hy))
      have HBX := Lib.hid (HBL.out.trans (HBR.mono hsz))
      clear HBR hE hD HP
      have hw1 : IntKind.i64.wrap ((fr + L) - fr) = L := by rw [IntKind.wrap_i64]; omega
      have hw2 : IntKind.i64.wrap ((zfr + L) - zfr) = L := by rw [IntKind.wrap_i64]; omega
      have hw3 : decide (L = 0) = false := by simp; omega
      have hw4 : decide (L = -1) = false := by simp; omega
      have hL0 : L ≠ 0 := by omega
      have hp1 := prod_bound cnt mn g5 g6 g7 (by omega)
      have hp2 := prod_bound cnt mx g5 g6 (by omega) g8
      obtain ⟨p1, ep1⟩ : ∃ p1, p1 = cnt * mn := ⟨_, rfl⟩
      obtain ⟨p2, ep2⟩ : ∃ p2, p2 = cnt * mx := ⟨_, rfl⟩
      rw [← ep1] at g13
      rw [← ep2] at g14
      have HEP := Lib.hid (And.intro ep1 ep2)
      have hp1' : IntKind.i64.wrap (cnt * mn) = p1 := hp1.trans ep1.symm
      have hp2' : IntKind.i64.wrap (cnt * mx) = p2 := hp2.trans ep2.symm
      clear ep1 ep2 hp1 hp2
      have h0n : (0 : Int) < (n : Int) := by omega
      have hw5 : IntKind.i64.wrap (fr.tmod L) = 0 := by rw [g4]; rfl
      go_quiet (fail)
      go_wp2_with (go_at_call 34; refine (out_no _ _ _ _ (by omega) (by omega)).mono ?_; rintro e w' ⟨rfl, rfl⟩)
      by_cases hk0 : k = 0
      · subst hk0
        clear HRS HP2
        go_quiet (fail)
        go_wp2_with (fail)
        go_roundw
        case rel => exact ⟨0 + 1, by omega, by go_num, below_drewN HBX.out _⟩
        case measure => simp [intOf]; omega
      · obtain ⟨j, rfl⟩ : ∃ j, k = j + 1 := ⟨k - 1, by omega⟩
        obtain ⟨y, hy⟩ : ∃ y, l[j]? = some y := ⟨_, List.getElem?_eq_getElem (by have := HN.out; omega)⟩
        have hlt2 := HRS.out y j rfl hy
        have y0 := HP2.out y j hy
        obtain ⟨yfr, yto, ycnt, ysum, ymn, ymx, yfi, yla⟩ := y
        simp only [bktC, List.getElem?_cons_zero, Nat.add_zero] at y0 hlt2
        have hw6 : IntKind.i64.wrap (((j + 1 : Nat) : Int) - 1) = (j : Int) := by rw [IntKind.wrap_i64]; omega
        have hw7 : IntKind.i64.wrap ((j : Int) + 1 - 1) = (j : Int) := by rw [IntKind.wrap_i64]; omega
        have hj0 : (0 : Int) < (j : Int) + 1 := by omega
        have hjn : (j : Int) < (n : Int) := by omega
        have hjn' : j < n := by omega
        clear HRS HP2 hy
        go_quiet (fail)
        go_wp2_with (fail)
        go_roundw
        case rel => exact ⟨j + 1 + 1, by omega, by go_num, below_drewN HBX.out _⟩
        case measure => simp [intOf]; omega
    · have HBL := Lib.hid hbl
      clear hbl
      go_wp2_with (fail)
      go_ret
      exact ⟨rfl, HBL.out⟩
end Go.Proofs.YtnmgfnnkcenfeaaGreatDoor

/- slices.Equal of buckets; length, bounded. -/
namespace Go.Proofs.YtnmgfnnkcenfeaaGreatDoor
open Go.RowKit

theorem Row.posB {w : World} {B : Nat} {A : Option Addr} {l : List Bkt} (h : Row w B A (bCells l)) (hl : 0 < l.length) : ∃ b o, A = some ⟨b, o, none⟩ ∧ b < B ∧ Cells w b o (bCells l) := by
  rcases h with h | h
  · have := bCells_length l; rw [h] at this; simp at this; omega
  · exact h

set_option maxHeartbeats 2000000 in
theorem eqB_any (l : List Bkt) (n c c' : Nat) (A A' : Option Addr) (w : World) (hn : l.length = n) (hn2 : n ≤ 1000000) (hr : Row w w.heap.size A (bCells l)) (hr' : Row w w.heap.size A' (bCells l)) :
    Calls Tryz.prog 17 #[.slice A n c, .slice A' n c'] w fun e w' => e = .returned (.bool true) ∧ Below w.heap.size w w' := by
  have HR := Lib.hid hr
  have HR' := Lib.hid hr'
  have HN := Lib.hid hn
  clear hr hr' hn
  go_enter Tryz.func17, Tryz.ntmps17
  go_wp2_with (fail)
  go_loopw [13] (fun i wr => ∃ k : Nat, k ≤ n ∧ i = .int .i64 k ∧ Below w.heap.size w wr) (fun i _ => n - (intOf i).toNat)
  case atStart => exact ⟨0, Nat.zero_le _, rfl, Below.refl _ _⟩
  case round =>
    obtain ⟨k, hk, rfl, hbl⟩ := hrel
    by_cases hlt : k < n
    · have hkl : k < l.length := by have := HN.out; omega
      obtain ⟨b, o, rfl, hb, hc⟩ := Row.posB HR.out (by omega)
      obtain ⟨b', o', rfl, hb', hc'⟩ := Row.posB HR'.out (by omega)
      obtain ⟨x, hx⟩ : ∃ x, l[k]? = some x := ⟨_, List.getElem?_eq_getElem hkl⟩
      have C := fun j hj => bkt_cells (hc.keep (hbl.block b hb)) k x hx j hj
      have C' := fun j hj => bkt_cells (hc'.keep (hbl.block b' hb')) k x hx j hj
      obtain ⟨fr, to_, cnt, sum, mn, mx, fi, la⟩ := x
      have c0 := (C 0 (by omega)).trans rfl
      have c1 := (C 1 (by omega)).trans rfl
      have c2 := (C 2 (by omega)).trans rfl
      have c3 := (C 3 (by omega)).trans rfl
      have c4 := (C 4 (by omega)).trans rfl
      have c5 := (C 5 (by omega)).trans rfl
      have c6 := (C 6 (by omega)).trans rfl
      have c7 := (C 7 (by omega)).trans rfl
      have d0 := (C' 0 (by omega)).trans rfl
      have d1 := (C' 1 (by omega)).trans rfl
      have d2 := (C' 2 (by omega)).trans rfl
      have d3 := (C' 3 (by omega)).trans rfl
      have d4 := (C' 4 (by omega)).trans rfl
      have d5 := (C' 5 (by omega)).trans rfl
      have d6 := (C' 6 (by omega)).trans rfl
      have d7 := (C' 7 (by omega)).trans rfl
      simp only [bktC, List.getElem?_cons_zero, List.getElem?_cons_succ, Nat.add_zero] at c0 c1 c2 c3 c4 c5 c6 c7 d0 d1 d2 d3 d4 d5 d6 d7
      have HBL := Lib.hid hbl
      have hlt' : (k : Int) < (n : Int) := by omega
      clear hbl hx hkl C C' hc hc'
      go_wp2_with (fail)
      go_quiet (fail)
      go_wp2_with (fail)
      go_roundw
      case rel => exact ⟨k + 1, by omega, by go_num, below_drewN HBL.out _⟩
      case measure => simp [intOf]; omega
    · have HBL := Lib.hid hbl
      clear hbl
      go_wp2_with (fail)
      go_ret
      exact ⟨rfl, HBL.out⟩

set_option maxHeartbeats 2000000 in
theorem bounded_any (l : List Bkt) (n c : Nat) (A : Option Addr) (w : World) (hn : l.length = n) (hn2 : n ≤ 5000) (hc : ∀ (i : Nat) (x : Bkt), l[i]? = some x → x.cnt ≤ 5000) (hr : Row w w.heap.size A (bCells l)) :
    Calls Tryz.prog 45 #[.slice A n c] w fun e w' => e = .returned (.tuple #[.slice A n c, .int .i64 0]) ∧ Below w.heap.size w w' := by
  have HR := Lib.hid hr
  have HC := Lib.hid hc
  have HN := Lib.hid hn
  clear hr hc hn
  go_enter Tryz.func45, Tryz.ntmps45
  go_wp2_with (fail)
  go_loopw [11] (fun i wr => ∃ k : Nat, k ≤ n ∧ i = .int .i64 k ∧ Below w.heap.size w wr) (fun i _ => n - (intOf i).toNat)
  case atStart => exact ⟨0, Nat.zero_le _, rfl, Below.refl _ _⟩
  case round =>
    obtain ⟨k, hk, rfl, hbl⟩ := hrel
    have hsz := hbl.size
    by_cases hlt : k < n
    · have hkl : k < l.length := by have := HN.out; omega
      obtain ⟨b, o, rfl, hb, hc⟩ := Row.posB HR.out (by omega)
      obtain ⟨x, hx⟩ : ∃ x, l[k]? = some x := ⟨_, List.getElem?_eq_getElem hkl⟩
      have C := fun j hj => bkt_cells (hc.keep (hbl.block b hb)) k x hx j hj
      have hcnt := HC.out k x hx
      obtain ⟨fr, to_, cnt, sum, mn, mx, fi, la⟩ := x
      simp only at hcnt
      have c0 := (C 0 (by omega)).trans rfl
      have c1 := (C 1 (by omega)).trans rfl
      have c2 := (C 2 (by omega)).trans rfl
      have c3 := (C 3 (by omega)).trans rfl
      have c4 := (C 4 (by omega)).trans rfl
      have c5 := (C 5 (by omega)).trans rfl
      have c6 := (C 6 (by omega)).trans rfl
      have c7 := (C 7 (by omega)).trans rfl
      simp only [bktC, List.getElem?_cons_zero, List.getElem?_cons_succ, Nat.add_zero] at c0 c1 c2 c3 c4 c5 c6 c7
      have HBL := Lib.hid hbl
      have hlt' : (k : Int) < (n : Int) := by omega
      have hblt : b < wr.heap.size := by omega
      clear hbl hx hkl C hc
      go_wp2_with (fail)
      go_roundw
      case rel => exact ⟨k + 1, by omega, by go_num, HBL.out.alloc hsz _⟩
      case measure => simp [intOf]; omega
    · have HBL := Lib.hid hbl
      clear hbl
      go_wp2_with (fail)
      go_ret2
      exact ⟨rfl, HBL.out⟩

theorem length_some (x : Bkt) (m c b o : Nat) (L : Int) (w : World) (hm : 0 < m) (hL : 1 ≤ L) (hL2 : L ≤ 345686400000) (hf0 : 0 ≤ x.fr) (hf1 : x.fr < 345686400000) (ht : x.to_ = x.fr + L) (h0 : w.cell? ⟨b, o, none⟩ = some (.int .i64 x.fr)) (h1 : w.cell? ⟨b, o + 1, none⟩ = some (.int .i64 x.to_)) :
    Calls Tryz.prog 43 #[.slice (some ⟨b, o, none⟩) m c] w fun e w' => e = .returned (.int .i64 L) ∧ Below w.heap.size w w' := by
  obtain ⟨fr, to_, cnt, sum, mn, mx, fi, la⟩ := x
  simp only at hf0 hf1 ht h0 h1
  subst ht
  have hw : IntKind.i64.wrap (fr + L - fr) = L := by rw [IntKind.wrap_i64]; omega
  have hm0 : (0 : Int) < (m : Int) := by omega
  go_enter Tryz.func43, Tryz.ntmps43
  go_wp2_with (fail)
  go_quiet (fail)
  go_wp2_with (fail)
  go_ret
  exact ⟨rfl, below_drewN (Below.refl _ _) _⟩
end Go.Proofs.YtnmgfnnkcenfeaaGreatDoor

/- series.Wider of good buckets. -/
namespace Go.Proofs.YtnmgfnnkcenfeaaGreatDoor
open Go.RowKit

def widB (M : Int) (x : Bkt) : Bkt := { x with fr := x.fr / M * M, to_ := x.fr / M * M + M }
def widOf (M : Int) (l : List Bkt) : List Bkt := l.foldl (fun bs x => addB bs (widB M x)) []
theorem widOf_snoc (M : Int) (l : List Bkt) (x : Bkt) : widOf M (l ++ [x]) = addB (widOf M l) (widB M x) := by simp [widOf]
theorem widB_ok {L M : Int} {k : Nat} {x : Bkt} (h : BOk L k x) : BOk M k (widB M x) := ⟨rfl, h.c0, h.c1, h.s0, h.s1⟩
theorem widOf_ok {L M : Int} {k : Nat} (l : List Bkt) (h : ∀ x ∈ l, BOk L k x) : ∀ x ∈ widOf M l, BOk M (l.length * k) x := by
  revert h
  refine snoc_ind (p := fun l => (∀ x ∈ l, BOk L k x) → ∀ x ∈ widOf M l, BOk M (l.length * k) x) ?_ ?_ l
  · intro _ x hx; simp [widOf] at hx
  · intro l s ih h
    rw [widOf_snoc, List.length_append, Nat.add_mul]
    have := addB_ok (ih fun y hy => h y (by simp [hy])) (widB_ok (M := M) (h s (by simp)))
    simpa using this
theorem widOf_length (M : Int) (l : List Bkt) : (widOf M l).length ≤ l.length := by
  refine snoc_ind (p := fun l => (widOf M l).length ≤ l.length) ?_ ?_ l
  · simp [widOf]
  · intro l s ih
    rw [widOf_snoc, List.length_append]
    have := addB_length (widOf M l) (widB M s)
    simp only [List.length_cons, List.length_nil]
    omega

set_option maxRecDepth 100000 in
set_option maxHeartbeats 4000000 in
theorem wider_some (l : List Bkt) (n c b o k : Nat) (L M : Int) (w : World) (hL : 1 ≤ L) (hL2 : L ≤ 345686400000) (hM : 1 ≤ M) (hM2 : M ≤ 345686400000) (hML : M.tmod L = 0) (hn : l.length = n) (hn0 : 0 < n) (hn2 : n ≤ 1000)
    (hg : GoodBs L l) (hk : ∀ x ∈ l, BOk L k x) (hnk : n * k ≤ 1000) (hr : Row w w.heap.size (some ⟨b, o, none⟩) (bCells l)) :
    Calls Tryz.prog 13 #[.slice (some ⟨b, o, none⟩) n c, .int .i64 M] w fun e w' => ∃ v, e = .returned (.tuple #[v, .int .i64 0]) ∧ w'.ownsRow w.heap.size 46 8 v (widOf M l).length (bCells (widOf M l)) ∧ Below w.heap.size w w' := by
  obtain ⟨b', o', he, hb, hcs⟩ := Row.posB hr (by omega)
  injection he with he
  injection he with e1 e2
  subst e1 e2
  obtain ⟨z, hz⟩ : ∃ z, l[0]? = some z := ⟨_, List.getElem?_eq_getElem (by omega)⟩
  have hz0 := (bkt_cells hcs 0 z hz 0 (by omega)).trans rfl
  have hz1 := (bkt_cells hcs 0 z hz 1 (by omega)).trans rfl
  have hzg := hg.each 0 z hz
  simp only [bktC, List.getElem?_cons_zero, List.getElem?_cons_succ, Nat.add_zero, Nat.zero_mul] at hz0 hz1
  have HR := Lib.hid hr
  have HG := Lib.hid hg
  have HN := Lib.hid hn
  have HK := Lib.hid hk
  have HCS := Lib.hid hcs
  have HNK := Lib.hid hnk
  have hZ := Lib.hid (And.intro hz0 hz1)
  have HZG := Lib.hid hzg
  clear hr hg hn hk hcs hz hnk hz0 hz1 hzg
  have hn0' : (0 : Int) < (n : Int) := by omega
  have hw3 : IntKind.i64.wrap (M.tmod L) = 0 := by rw [hML]; rfl
  have hL0 : L ≠ 0 := by omega
  go_enter Tryz.func13, Tryz.ntmps13
  go_wp2_with (fail)
  refine (checkB_any l n c _ L w hL hL2 HN.out HG.out HR.out).mono ?_
  rintro e w1 ⟨rfl, hb1⟩
  have y0 := (hb1.cell (p := ⟨b, o, none⟩) hb).trans hZ.out.1
  have y1 := (hb1.cell (p := ⟨b, o + 1, none⟩) hb).trans hZ.out.2
  have Y := Lib.hid (And.intro y0 y1)
  have HB1 := Lib.hid hb1
  have hs1 := hb1.size
  clear hb1 y0 y1
  go_wp2_with (go_at_call 34; refine (out_no _ _ _ _ (by omega) (by omega)).mono ?_; rintro e w' ⟨rfl, rfl⟩)
  refine (length_some z n c b o L w1 hn0 hL hL2 HZG.out.f0 HZG.out.f1 HZG.out.to_ Y.out.1 Y.out.2).mono ?_
  rintro e w2 ⟨rfl, hb2⟩
  have HB2 := Lib.hid (HB1.out.trans (hb2.mono hs1))
  have hs2 := hb2.size
  clear hb2
  go_wp2_with (fail)
  go_loopw [7, 31] (fun v i wr => ∃ (j m : Nat), j ≤ n ∧ i = .int .i64 j ∧ m = (widOf M (l.take j)).length ∧ wr.ownsRow w.heap.size 46 8 v m (bCells (widOf M (l.take j))) ∧ Below w.heap.size w wr) (fun _ i _ => n - (intOf i).toNat)
  case atStart => exact ⟨0, 0, Nat.zero_le _, rfl, rfl, by simpa [widOf, bCells] using World.ownsRow_nil _ _ _ _, HB2.out⟩
  case round =>
    obtain ⟨j, m, hj, rfl, hm, hown, hbl⟩ := hrel
    have hsz := hbl.size
    by_cases hlt : j < n
    · have hkl : j < l.length := by have := HN.out; omega
      obtain ⟨x, hx⟩ : ∃ x, l[j]? = some x := ⟨_, List.getElem?_eq_getElem hkl⟩
      have C := fun i hi => bkt_cells (HCS.out.keep (hbl.block b hb)) j x hx i hi
      have HTK := Lib.hid (show widOf M (l.take (j + 1)) = addB (widOf M (l.take j)) (widB M x) by rw [List.take_add_one, hx]; exact widOf_snoc _ _ _)
      have hxg := HG.out.each j x hx
      have hf0 := hxg.f0
      have hf1 := hxg.f1
      have HXK := Lib.hid (HK.out x (List.mem_of_getElem? hx))
      obtain ⟨fr, to_, cnt, sum, mn, mx, fi, la⟩ := x
      simp only at hf0 hf1
      have c0 := (C 0 (by omega)).trans rfl
      have c1 := (C 1 (by omega)).trans rfl
      have c2 := (C 2 (by omega)).trans rfl
      have c3 := (C 3 (by omega)).trans rfl
      have c4 := (C 4 (by omega)).trans rfl
      have c5 := (C 5 (by omega)).trans rfl
      have c6 := (C 6 (by omega)).trans rfl
      have c7 := (C 7 (by omega)).trans rfl
      simp only [bktC, List.getElem?_cons_zero, List.getElem?_cons_succ, Nat.add_zero] at c0 c1 c2 c3 c4 c5 c6 c7
      obtain ⟨q, hq⟩ : ∃ q, q = fr / M := ⟨_, rfl⟩
      obtain ⟨f, hf⟩ : ∃ f, f = q * M := ⟨_, rfl⟩
      have hff0 : 0 ≤ f := by rw [hf, hq]; exact Int.mul_nonneg (Int.ediv_nonneg (by omega) (by omega)) (by omega)
      have hff1 : f ≤ fr := by rw [hf, hq]; exact Int.ediv_mul_le _ (by omega)
      have hqa : 0 ≤ q ∧ q ≤ fr := by rw [hq]; exact ⟨Int.ediv_nonneg (by omega) (by omega), Int.ediv_le_self _ (by omega)⟩
      have ht1 : fr.tdiv M = q := by rw [hq]; exact Int.tdiv_eq_ediv_of_nonneg (by omega)
      have hw4 : IntKind.i64.wrap (fr.tdiv M) = q := by rw [ht1, IntKind.wrap_i64]; omega
      have hw5 : IntKind.i64.wrap (q * M) = f := by rw [← hf, IntKind.wrap_i64]; omega
      have hw6 : IntKind.i64.wrap (f + M) = f + M := by rw [IntKind.wrap_i64]; omega
      have hM0 : M ≠ 0 := by omega
      have HS := Lib.hid (show (⟨f, f + M, cnt, sum, mn, mx, fi, la⟩ : Bkt) = widB M ⟨fr, to_, cnt, sum, mn, mx, fi, la⟩ by rw [hf, hq]; rfl)
      have HBL := Lib.hid hbl
      have HOWN := Lib.hid hown
      have HM := Lib.hid hm
      have hlt' : (j : Int) < (n : Int) := by omega
      have hblt : b < wr.heap.size := by omega
      clear hbl hown hm hx hkl C hxg hf hq ht1
      go_wp2_with (fail)
      have HO3 := Lib.hid (HOWN.out.alloc (.cells #[.int .i64 f, .int .i64 (f + M), .int .i64 cnt, .int .i64 sum, .int .i64 mn, .int .i64 mx, .int .i64 fi, .int .i64 la] 46))
      have hjk : (l.take j).length * k ≤ 1000 := by
        have h1 : (l.take j).length ≤ n := by simp only [List.length_take]; omega
        exact Nat.le_trans (Nat.mul_le_mul_right k h1) HNK.out
      have hk1 : k ≤ 1000 := Nat.le_trans (by have := Nat.mul_le_mul_right k (show 1 ≤ n by omega); omega) HNK.out
      refine (added_any _ w.heap.size m 1000 M (widOf M (l.take j)) ⟨f, f + M, cnt, sum, mn, mx, fi, la⟩ _ HM.out.symm (by have := HM.out; have := widOf_length M (l.take j); simp only [List.length_take] at this; omega) (Nat.le_refl _) (by simp; omega) HO3.out ?_ (by rw [HS.out]; exact (widB_ok HXK.out).mono hk1)).mono ?_
      · intro y hy
        exact (widOf_ok (M := M) (l.take j) (fun s hs => HK.out s (List.mem_of_mem_take hs)) y hy).mono hjk
      rintro e w4 ⟨v', rfl, h1, h2, h3⟩
      rw [HS.out, ← HTK.out] at h1
      have HO4 := Lib.hid h1
      have HB4 := Lib.hid (HBL.out.grown (grown_of_alloc h2) (by omega) (fun g hg => (HOWN.out.lt g hg).1))
      clear h1 h2 h3
      go_wp2_with (fail)
      go_roundw
      case rel => exact ⟨j + 1, _, by omega, by go_num, rfl, HO4.out, HB4.out⟩
      case measure => simp [intOf]; omega
    · have hkn : j = n := by omega
      subst hkn
      have HBL := Lib.hid hbl
      have HT := Lib.hid (show l.take j = l by rw [List.take_of_length_le (by have := HN.out; omega)])
      rw [HT.out] at hown hm
      obtain ⟨Ao, co, rfl⟩ := own_slice hown
      have HOWN := Lib.hid hown
      have HM := Lib.hid hm
      have hm1 : m ≤ 1000 := by have := widOf_length M l; have := HN.out; omega
      clear hbl hown hm
      go_wp2_with (fail)
      refine (bounded_any (widOf M l) m co Ao wr HM.out.symm (by omega) ?_ (own_row HOWN.out)).mono ?_
      · intro i x hx
        have h := widOf_ok (M := M) l HK.out x (List.mem_of_getElem? hx)
        have h1 := h.c1
        have h2 : l.length * k ≤ 1000 := by rw [HN.out]; exact HNK.out
        omega
      rintro e w5 ⟨rfl, hb5⟩
      have HO5 := Lib.hid (own_below HOWN.out hb5)
      have HB5 := Lib.hid (HBL.out.trans (hb5.mono hsz))
      clear hb5
      go_wp2_with (fail)
      go_ret2
      refine ⟨_, rfl, ?_, HB5.out⟩
      rw [← HM.out]
      exact HO5.out

set_option maxHeartbeats 1000000 in
theorem wider_empty (A : Option Addr) (c : Nat) (M : Int) (w : World) (hM : 1 ≤ M) (hM2 : M ≤ 345686400000) :
    Calls Tryz.prog 13 #[.slice A 0 c, .int .i64 M] w fun e w' => e = .returned (.tuple #[.slice none 0 0, .int .i64 0]) ∧ Below w.heap.size w w' := by
  go_enter Tryz.func13, Tryz.ntmps13
  go_wp2_with (fail)
  refine (checkB_any [] 0 c _ 1 w (by omega) (by omega) rfl ⟨by simp, by simp, by simp⟩ (.inl rfl)).mono ?_
  rintro e w1 ⟨rfl, hb1⟩
  have HB1 := Lib.hid hb1
  have hs1 := hb1.size
  clear hb1
  go_wp2_with (go_at_call 34; refine (out_no _ _ _ _ (by omega) (by omega)).mono ?_; rintro e w' ⟨rfl, rfl⟩)
  refine wp_loop_rounds 1 ?_
  rw [rounds_succ]
  go_wp2_with (fail)
  refine (bounded_any [] 0 0 none w1 rfl (by omega) (by simp) (.inl rfl)).mono ?_
  rintro e w5 ⟨rfl, hb5⟩
  have HB5 := Lib.hid (HB1.out.trans (hb5.mono hs1))
  clear hb5
  go_wp2_with (fail)
  go_ret2
  exact ⟨rfl, HB5.out⟩
end Go.Proofs.YtnmgfnnkcenfeaaGreatDoor
