/- series.added of a bucket of the last one's time, by its contract. -/
import Derived.Test.YtaglkaphlekmoaaGreatDoorBktD
import Derived.BigRegion
namespace Go.Proofs.YtaglkaphlekmoaaGreatDoor
open Go.RowKit

set_option maxRecDepth 100000 in
set_option maxHeartbeats 4000000 in
theorem added_merge (w : World) (base k cap g : Nat) (l : List Bkt) (x b : Bkt) (hk : l.length = k) (hk2 : k < 1000000) (hown : w.ownsRow base 84 8 (.slice (some ⟨g, 0, none⟩) (k + 1) cap) (k + 1) (bCells (l ++ [x])))
    (ht1 : x.fr = b.fr) (ht2 : x.to_ = b.to_) (hc1 : 0 ≤ x.cnt ∧ x.cnt ≤ 1000000) (hc2 : 0 ≤ b.cnt ∧ b.cnt ≤ 1000000) (hs1 : -1000000000000 ≤ x.sum ∧ x.sum ≤ 1000000000000) (hs2 : -1000000000000 ≤ b.sum ∧ b.sum ≤ 1000000000000) :
    Calls Tryz.prog 71 #[.slice (some ⟨g, 0, none⟩) (k + 1) cap, bktV b] w fun e w' => e = .returned (.slice (some ⟨g, 0, none⟩) (k + 1) cap) ∧ w'.ownsRow base 84 8 (.slice (some ⟨g, 0, none⟩) (k + 1) cap) (k + 1) (bCells (l ++ [mergeB x b])) ∧ w.grownBy w' (some g) := by
  have hx : (l ++ [x])[k]? = some x := by rw [List.getElem?_append_right (by omega)]; simp [hk]
  have hcell : ∀ j, j < 8 → w.cell? ⟨g, k * 8 + j, none⟩ = (bktC x)[j]? := fun j hj => (hown.cellAt _ (by omega)).trans (bCells_get _ k x hx j hj)
  have glt : g < w.heap.size := by
    have := World.block_lt_of_cell? w ⟨g, k * 8 + 0, none⟩ ((hcell 0 (by omega)).trans rfl)
    exact this
  have HM := Lib.hid (bktC_merge l x b)
  rw [hk] at HM
  have HO := Lib.hid (hown.alloc (.cells #[.int .i64 b.fr, .int .i64 b.to_, .int .i64 b.cnt, .int .i64 b.sum, .int .i64 b.mn, .int .i64 b.mx, .int .i64 b.fi, .int .i64 b.la] 84))
  have HFR := Lib.hid (fun j => hown.frozenAt j)
  obtain ⟨fr, to_, cnt, sum, mn, mx, fi, la⟩ := b
  obtain ⟨xfr, xto, xcnt, xsum, xmn, xmx, xfi, xla⟩ := x
  simp only at ht1 ht2 hc1 hc2 hs1 hs2 HM HO
  subst ht1 ht2
  have c0 := (hcell 0 (by omega)).trans rfl
  have c1 := (hcell 1 (by omega)).trans rfl
  have c2 := (hcell 2 (by omega)).trans rfl
  have c3 := (hcell 3 (by omega)).trans rfl
  have c4 := (hcell 4 (by omega)).trans rfl
  have c5 := (hcell 5 (by omega)).trans rfl
  simp only [bktC, List.getElem?_cons_zero, List.getElem?_cons_succ, Nat.add_zero] at c0 c1 c2 c3 c4 c5
  have c7 := (hcell 7 (by omega))
  simp only [bktC, List.getElem?_cons_zero, List.getElem?_cons_succ] at c7
  have f2 := HFR.out (k * 8 + 2)
  have f3 := HFR.out (k * 8 + 3)
  have f4 := HFR.out (k * 8 + 4)
  have f5 := HFR.out (k * 8 + 5)
  have f7 := HFR.out (k * 8 + 7)
  clear hx hcell hown HFR hk
  unfold bktV
  go_enter Tryz.func71, Tryz.ntmps71
  go_wp2_with (fail)
  generalize hW : w.alloc (.cells #[.int .i64 xfr, .int .i64 xto, .int .i64 cnt, .int .i64 sum, .int .i64 mn, .int .i64 mx, .int .i64 fi, .int .i64 la] 84) = W at HO
  have hWg := Lib.hid (show w.grownBy W (some g) by rw [← hW]; exact World.grownBy_alloc w _ _)
  have hWn : W.heap[w.heap.size]? = some (.cells #[.int .i64 xfr, .int .i64 xto, .int .i64 cnt, .int .i64 sum, .int .i64 mn, .int .i64 mx, .int .i64 fi, .int .i64 la] 84) := by rw [← hW]; exact heap_new w _
  have hWs : w.heap.size < W.heap.size := by rw [← hW]; simp
  have hWk : ∀ a : Addr, a.block = g → W.cell? a = w.cell? a ∧ W.frozen? a = w.frozen? a := by
    intro a ha
    have := Below.heap_alloc w (.cells #[.int .i64 xfr, .int .i64 xto, .int .i64 cnt, .int .i64 sum, .int .i64 mn, .int .i64 mx, .int .i64 fi, .int .i64 la] 84) g glt
    rw [hW] at this
    exact ⟨World.cell?_of_block (w := w) (by rw [ha]; exact this), World.frozen?_of_block (w := w) (by rw [ha]; exact this)⟩
  rw [← (hWk _ rfl).1] at c0 c1 c2 c3 c4 c5 c7
  rw [← (hWk _ rfl).2] at f2 f3 f4 f5 f7
  have b0 := cell_of_blk (j := 0) hWn rfl
  have b1 := cell_of_blk (j := 1) hWn rfl
  have b2 := cell_of_blk (j := 2) hWn rfl
  have b3 := cell_of_blk (j := 3) hWn rfl
  have b4 := cell_of_blk (j := 4) hWn rfl
  have b5 := cell_of_blk (j := 5) hWn rfl
  have b6 := cell_of_blk (j := 6) hWn rfl
  have b7 := cell_of_blk (j := 7) hWn rfl
  have hd : decide ((k : Int) < 0) = false := by simp
  have hkk : (k : Int) < (k : Int) + 1 := by omega
  have hne : w.heap.size ≠ g := by omega
  have hne' : g ≠ w.heap.size := by omega
  clear hW hWk hWn
  go_quiet (fail)
  go_wp2_with (fail)
  have hw1 : IntKind.i64.wrap (xcnt + cnt) = xcnt + cnt := by rw [IntKind.wrap_i64]; omega
  have hw2 : IntKind.i64.wrap (xsum + sum) = xsum + sum := by rw [IntKind.wrap_i64]; omega
  refine region_tail 9 (by kernel_rfl) (by kernel_rfl) ?_
  intro V1 hV
  simp only [List.take_succ_cons, List.take_zero, List.drop_succ_cons, List.drop_zero]
  have hc : ∀ a, W.cell? a = V1.cell? a := fun a => by rw [← hV]; rfl
  have hf : ∀ a, W.frozen? a = V1.frozen? a := fun a => by rw [← hV]; rfl
  rw [hc] at c2 c3 c4 c5 c7 b2 b3 b4 b5 b7
  rw [hf] at f2 f3 f4 f5 f7
  have HO1 := Lib.hid (own_to hV (own_drewN HO.out _))
  have HG1 := Lib.hid (grown_to hV (grown_drewN hWg.out _))
  clear hc hf hV HO hWg c0 c1 b0 b1 b6
  repeat still_step
  refine wpStill_nil ?_
  go_wp2_with (fail)
  refine region_tail 9 (by kernel_rfl) (by kernel_rfl) ?_
  intro V2 hV
  simp only [List.take_succ_cons, List.take_zero, List.drop_succ_cons, List.drop_zero]
  have hc : ∀ a : Addr, (⟨g, k * 8 + 2, none⟩ : Addr) ≠ a → V1.cell? a = V2.cell? a := fun a ha => by rw [← hV]; exact (World.cell?_setCell_other _ _ _ _ ha).symm
  have hf : ∀ a, V1.frozen? a = V2.frozen? a := fun a => by rw [← hV]; exact (World.frozen?_setCell _ _ _ _).symm
  rw [hc _ (by simp)] at c3 c4 c5 c7
  rw [hc _ (by simp <;> omega)] at b3 b4 b5 b7
  rw [hf] at f3 f4 f5 f7
  have HO2 := Lib.hid (own_to hV (HO1.out.stored (k * 8 + 2) (.int .i64 (xcnt + cnt))).1)
  have HG2 := Lib.hid (grown_to hV (grown_set HG1.out (.inl rfl) _))
  clear hc hf hV HO1 HG1 c2 b2 f2
  repeat still_step
  refine wpStill_nil ?_
  go_wp2_with (fail)
  obtain ⟨mn', emn⟩ : ∃ mn', mn' = min xmn mn := ⟨_, rfl⟩
  obtain ⟨mx', emx⟩ : ∃ mx', mx' = max xmx mx := ⟨_, rfl⟩
  have hmn : (if mn < xmn then mn else xmn) = mn' := by rw [emn]; split <;> omega
  have hmx : (if xmx < mx then mx else xmx) = mx' := by rw [emx]; split <;> omega
  have EMN := Lib.hid emn
  have EMX := Lib.hid emx
  clear emn emx
  generalize hV : V2.setCell ⟨g, k * 8 + 3, none⟩ (.int .i64 (xsum + sum)) = V3
  have hc : ∀ a : Addr, (⟨g, k * 8 + 3, none⟩ : Addr) ≠ a → V2.cell? a = V3.cell? a := fun a ha => by rw [← hV]; exact (World.cell?_setCell_other _ _ _ _ ha).symm
  have hf : ∀ a, V2.frozen? a = V3.frozen? a := fun a => by rw [← hV]; exact (World.frozen?_setCell _ _ _ _).symm
  rw [hc _ (by simp)] at c4 c5 c7
  rw [hc _ (by simp <;> omega)] at b4 b5 b7
  rw [hf] at f4 f5 f7
  have HO3 := Lib.hid (show V3.ownsRow base 84 8 (.slice (some ⟨g, 0, none⟩) (k + 1) cap) (k + 1) ((((bCells (l ++ [⟨xfr, xto, xcnt, xsum, xmn, xmx, xfi, xla⟩])).set (k * 8 + 2) (.int .i64 (xcnt + cnt))).set (k * 8 + 3) (.int .i64 (xsum + sum)))) from hV ▸ (HO2.out.stored (k * 8 + 3) (.int .i64 (xsum + sum))).1)
  have HG3 := Lib.hid (show w.grownBy V3 (some g) from hV ▸ grown_set HG2.out (.inl rfl) _)
  clear hc hf hV HO2 HG2 c3 b3 f3
  clear hw1 hw2 hd hkk
  go_region
  go_wp2_with (fail)
  go_ret
  refine ⟨rfl, ?_, ?_⟩
  · rw [← HM.out, ← EMN.out, ← EMX.out]
    with_reducible exact own_to rfl (((HO3.out.stored (k * 8 + 4) (.int .i64 mn')).1.stored (k * 8 + 5) (.int .i64 mx')).1.stored (k * 8 + 7) (.int .i64 la)).1
  · with_reducible exact grown_to rfl (grown_set (grown_set (grown_set HG3.out (.inl rfl) _) (.inl rfl) _) (.inl rfl) _)
end Go.Proofs.YtaglkaphlekmoaaGreatDoor
