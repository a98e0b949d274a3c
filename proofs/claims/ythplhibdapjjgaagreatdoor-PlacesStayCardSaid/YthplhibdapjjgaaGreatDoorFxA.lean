/- Place of the stream by its contract. -/
import Derived.Test.YthplhibdapjjgaaGreatDoorFxF
namespace Go.Proofs.YthplhibdapjjgaaGreatDoor
open Go.RowKit

def plPicks : List Int := [0, 1, 2, 3, 4, 5, 6, 8, 10, -1, -5, 20]
theorem plPicks_range (j : Nat) (h : j < 12) : -5 ≤ plPicks.getD j 0 ∧ plPicks.getD j 0 ≤ 20 := by
  have : j = 0 ∨ j = 1 ∨ j = 2 ∨ j = 3 ∨ j = 4 ∨ j = 5 ∨ j = 6 ∨ j = 7 ∨ j = 8 ∨ j = 9 ∨ j = 10 ∨ j = 11 := by omega
  rcases this with h | h | h | h | h | h | h | h | h | h | h | h <;> subst h <;> decide

set_option maxRecDepth 100000 in
set_option maxHeartbeats 1000000 in
theorem place_any (w : World) (p k : Nat) (xs : List Int) (hk : k < 900000) (hs : Strm w p xs k) :
    Calls Tryz.prog 18 #[.pointer (some ⟨p, 0, none⟩)] w fun e w' => ∃ x y : Int, e = .returned (.agg #[.int .i64 x, .int .i64 y]) ∧ (-5 ≤ x ∧ x ≤ 20 ∧ -5 ≤ y ∧ y ≤ 20) ∧ Strm w' p xs (k + 2) ∧ w.grownBy w' (some p) := by
  have hplt := hs.lt
  have HS := Lib.hid hs
  clear hs
  go_enter Tryz.func18, Tryz.ntmps18
  go_wp2_with (fail)
  refine (pick_any _ p k _ 12 12 xs plPicks (by omega) rfl (by omega) (by omega) ((HS.out.alloc _).alloc _) (by omega) (cells_atF rfl (by simp))).mono ?_
  rintro e w1 ⟨rfl, hs1, hg1⟩
  have hx := plPicks_range (nextN xs k 12) (nextN_lt _ _ _ (by omega))
  obtain ⟨x, ex⟩ : ∃ x, x = plPicks.getD (nextN xs k 12) 0 := ⟨_, rfl⟩
  rw [← ex] at hx ⊢
  have hz1 := hg1.size
  simp only [World.size_alloc] at hz1
  have hg1' := grown_of_alloc hg1
  have hb1 := (hg1'.block w.heap.size (by simp) (by intro e; injection e with e; omega)).trans (heap_new w (.cells #[.int .i64 0, .int .i64 0] 37))
  have HB1 := Lib.hid hb1
  have HG1 := Lib.hid (grown_of_alloc hg1')
  have HS1 := Lib.hid hs1
  clear ex hs1 hg1 hg1' hb1
  go_wp2_with (fail)
  refine (pick_any _ p (k + 1) _ 12 12 xs plPicks (by omega) rfl (by omega) (by omega) (HS1.out.alloc _) (by omega) (Cells.new _ _ _ _ _ rfl)).mono ?_
  rintro e w2 ⟨rfl, hs2, hg2⟩
  have hy := plPicks_range (nextN xs (k + 1) 12) (nextN_lt _ _ _ (by omega))
  obtain ⟨y, ey⟩ : ∃ y, y = plPicks.getD (nextN xs (k + 1) 12) 0 := ⟨_, rfl⟩
  rw [← ey] at hy ⊢
  have hz2 := hg2.size
  simp only [World.size_alloc] at hz2
  have hg2' := grown_of_alloc hg2
  have hb2 := (hg2'.block w.heap.size (by omega) (by intro e; injection e with e; omega)).trans HB1.out
  have n0 := cell_of_blk (j := 0) hb2 rfl
  have n1 := cell_of_blk (j := 1) hb2 rfl
  have fr : ∀ j, w2.frozen? ⟨w.heap.size, j, none⟩ = false := by intro j; simp [World.frozen?, hb2]
  have f0 := fr 0
  have f1 := fr 1
  have hlt : w.heap.size < w2.heap.size := by omega
  have HB2 := Lib.hid hb2
  have HFIN := Lib.hid (show Strm ((w2.setCell ⟨w.heap.size, 0, none⟩ (.int .i64 x)).setCell ⟨w.heap.size, 1, none⟩ (.int .i64 y)) p xs (k + 2) ∧ w.grownBy ((w2.setCell ⟨w.heap.size, 0, none⟩ (.int .i64 x)).setCell ⟨w.heap.size, 1, none⟩ (.int .i64 y)) (some p) from
    ⟨hs2.row (grown_set (grown_set (grown_refl w2 (some w.heap.size)) (q := ⟨w.heap.size, 0, none⟩) (.inl rfl) _) (q := ⟨w.heap.size, 1, none⟩) (.inl rfl) _) (fun g e => by injection e with e; omega),
      grown_set (grown_set (grown_trans HG1.out hg2') (q := ⟨w.heap.size, 0, none⟩) (.inr (Nat.le_refl _)) _) (q := ⟨w.heap.size, 1, none⟩) (.inr (Nat.le_refl _)) _⟩)
  clear ey hs2 hg2 hg2' hb2 fr
  go_wp2_with (fail)
  have r0 : ((w2.setCell ⟨w.heap.size, 0, none⟩ (.int .i64 x)).setCell ⟨w.heap.size, 1, none⟩ (.int .i64 y)).cell? ⟨w.heap.size, 0, none⟩ = some (.int .i64 x) := by
    simp [World.setCell, World.cell?, Array.getElem?_modify, HB2.out]
  have r1 : ((w2.setCell ⟨w.heap.size, 0, none⟩ (.int .i64 x)).setCell ⟨w.heap.size, 1, none⟩ (.int .i64 y)).cell? ⟨w.heap.size, 1, none⟩ = some (.int .i64 y) := by
    simp [World.setCell, World.cell?, Array.getElem?_modify, HB2.out]
  exact bodyPost_ret (v := .agg #[.int .i64 x, .int .i64 y]) (by simp [results, Tryz.results18, go_sem, r0, r1]) rfl ⟨x, y, rfl, ⟨hx.1, hx.2, hy.1, hy.2⟩, HFIN.out.1, HFIN.out.2⟩
end Go.Proofs.YthplhibdapjjgaaGreatDoor
