/- Some, RightValue of the stream by their contracts. -/
import Derived.Test.YtkcpfppjdjkjeaaGreatDoorMgB
import Derived.Test.YtkcpfppjdjkjeaaGreatDoorFlD
import Derived.Test.YtkcpfppjdjkjeaaGreatDoorSoS
namespace Go.Proofs.YtkcpfppjdjkjeaaGreatDoor
open Go.RowKit

theorem pv_fin {w V : World} {p g k : Nat} {xs : LiA} {a b c d : Value} (u0 u1 u2 u3 : Value) (hV : V.heap[g]? = some (.cells #[a, b, c, d] 35 (0, 0))) (hs : Strm V p xs k) (hg : w.grownBy V (some p)) (hp : p < g) (hw : w.heap.size ≤ g) :
    ((((V.setCell ⟨g, 0, none⟩ u0).setCell ⟨g, 1, none⟩ u1).setCell ⟨g, 2, none⟩ u2).setCell ⟨g, 3, none⟩ u3).heap[g]? = some (.cells #[u0, u1, u2, u3] 35 (0, 0)) ∧
    Strm ((((V.setCell ⟨g, 0, none⟩ u0).setCell ⟨g, 1, none⟩ u1).setCell ⟨g, 2, none⟩ u2).setCell ⟨g, 3, none⟩ u3) p xs k ∧ w.grownBy ((((V.setCell ⟨g, 0, none⟩ u0).setCell ⟨g, 1, none⟩ u1).setCell ⟨g, 2, none⟩ u2).setCell ⟨g, 3, none⟩ u3) (some p) := by
  refine ⟨?_, ?_, ?_⟩
  · simp [World.setCell, Array.getElem?_modify, hV]
  · exact hs.row (grown_set (grown_set (grown_set (grown_set (grown_refl V (some g)) (q := ⟨g, 0, none⟩) (.inl rfl) _) (q := ⟨g, 1, none⟩) (.inl rfl) _) (q := ⟨g, 2, none⟩) (.inl rfl) _) (q := ⟨g, 3, none⟩) (.inl rfl) _) (fun g' e => by injection e with e; omega)
  · exact grown_set (grown_set (grown_set (grown_set hg (q := ⟨g, 0, none⟩) (.inr hw) _) (q := ⟨g, 1, none⟩) (.inr hw) _) (q := ⟨g, 2, none⟩) (.inr hw) _) (q := ⟨g, 3, none⟩) (.inr hw) _
def pvPicks : List Int := [1, 2, 2, 3, 0, -5, 1000000000]
theorem pvPicks_range (j : Nat) (h : j < 7) : -1000000000 ≤ pvPicks.getD j 0 ∧ pvPicks.getD j 0 ≤ 1000000000 := by
  have : j = 0 ∨ j = 1 ∨ j = 2 ∨ j = 3 ∨ j = 4 ∨ j = 5 ∨ j = 6 := by omega
  rcases this with h | h | h | h | h | h | h <;> subst h <;> decide
def wdPicks : List ByteArray := [⟨#[]⟩, ⟨#[120]⟩, ⟨#[97, 32, 34, 98, 34]⟩, ⟨#[92]⟩, ⟨#[195, 169]⟩, ⟨#[45, 32, 49]⟩]
theorem wdPicks_wd (j : Nat) (h : j < 6) : wdPicks.getD j ⟨#[]⟩ = wdT j := by
  have : j = 0 ∨ j = 1 ∨ j = 2 ∨ j = 3 ∨ j = 4 ∨ j = 5 := by omega
  rcases this with h | h | h | h | h | h <;> subst h <;> rfl
theorem Tryz.infoPv : (Tryz.prog.info? 35).map (fun i => (i.zero, i.size, i.bytes)) = some (some (.agg #[.int .i64 0, .bool false, .int .i64 0, .string ⟨#[]⟩]), 4, 40) := by kernel_rfl

/-- RightValue of the stream as a function of its list. -/
def rvF (xs : LiA) (k : Nat) : Pv :=
  if nextN xs k 4 = 0 then ⟨1, decide (nextV xs (k + 1) 2 = 0), 0, ⟨#[]⟩⟩
  else if nextN xs k 4 = 1 then ⟨3, false, 0, wdT (nextN xs (k + 1) 6)⟩
  else ⟨2, false, pvPicks.getD (nextN xs (k + 1) 7) 0, ⟨#[]⟩⟩
def RvPost (w : World) (p k : Nat) (xs : LiA) (e : Ending) (w' : World) : Prop :=
  ∃ v : Pv, e = .returned (.agg #[.int .i64 v.k, .bool v.f, .int .i64 v.n, .string v.s]) ∧ PvOk v ∧ Strm w' p xs (k + 2) ∧ w.grownBy w' (some p) ∧ v = rvF xs k
set_option maxRecDepth 100000 in
set_option maxHeartbeats 2000000 in
theorem rightValue_any (w : World) (p k : Nat) (xs : LiA) (hk : k < 900000) (hs : Strm w p xs k) :
    Calls Tryz.prog 19 #[.pointer (some ⟨p, 0, none⟩)] w fun e w' => RvPost w p k xs e w' := by
  obtain ⟨i0, hi0, hz0, hz1, hz2⟩ := info_parts Tryz.infoPv
  have hplt := hs.lt
  have HS := Lib.hid hs
  clear hs
  go_enter Tryz.func19, Tryz.ntmps19
  go_wp2_with (fail)
  have hN := nextN_lt xs k 4 (by omega)
  have HE := Lib.hid (nextN_eq xs k 4 (by omega))
  obtain ⟨j, ej⟩ : ∃ j, j = nextN xs k 4 := ⟨_, rfl⟩
  have HJ := Lib.hid ej
  refine (next_any _ p k xs _ (by omega) (by omega) (HS.out.alloc _)).mono ?_
  have he : nextV xs k 4 = (j : Int) := by rw [ej]; exact HE.out
  rw [he]
  rw [← ej] at hN
  clear he HE ej
  rintro e w1 ⟨rfl, hs1, hg1⟩
  have hz1' := hg1.size
  simp only [World.size_alloc] at hz1'
  have hb1 := (hg1.block w.heap.size (by simp) (by intro e; injection e with e; omega)).trans (heap_new w (.cells #[.int .i64 0, .bool false, .int .i64 0, .string ⟨#[]⟩] 35))
  have HB1 := Lib.hid hb1
  have HG1 := Lib.hid (grown_of_alloc hg1)
  have HS1 := Lib.hid hs1
  clear hs1 hg1 hb1
  by_cases h0 : j = 0
  · subst h0
    go_wp2_with (fail)
    refine (flipD_any w1 p (k + 1) xs 2 (by omega) (by omega) (by omega) HS1.out).mono ?_
    obtain ⟨b, eb⟩ : ∃ b : Bool, b = decide (nextV xs (k + 1) 2 = 0) := ⟨_, rfl⟩
    rw [← eb]
    have HR := Lib.hid (show (⟨1, b, 0, ⟨#[]⟩⟩ : Pv) = rvF xs k from by unfold rvF; rw [if_pos HJ.out.symm, eb])
    clear eb
    rintro e w2 ⟨rfl, hs2, hg2⟩
    have hz2' := hg2.size
    have hg2' := grown_trans HG1.out hg2
    have HFIN := Lib.hid (pv_fin (w := w) (.int .i64 1) (.bool b) (.int .i64 0) (.string ⟨#[]⟩) ((hg2.block w.heap.size (by omega) (by intro e; injection e with e; omega)).trans HB1.out) hs2 hg2' (by omega) (Nat.le_refl _))
    have hb2 := (hg2.block w.heap.size (by omega) (by intro e; injection e with e; omega)).trans HB1.out
    have n0 := cell_of_blk (j := 0) hb2 rfl
    have n1 := cell_of_blk (j := 1) hb2 rfl
    have n2 := cell_of_blk (j := 2) hb2 rfl
    have n3 := cell_of_blk (j := 3) hb2 rfl
    have fr : ∀ j, w2.frozen? ⟨w.heap.size, j, none⟩ = false := by intro j; simp [World.frozen?, hb2]
    have f0 := fr 0
    have f1 := fr 1
    have f2 := fr 2
    have f3 := fr 3
    have hlt : w.heap.size < w2.heap.size := by omega
    clear hs2 hg2 hg2' hb2 fr HB1 HG1 HS1
    go_wp2_with (fail)
    have r0 := cell_of_blk (j := 0) HFIN.out.1 rfl
    have r1 := cell_of_blk (j := 1) HFIN.out.1 rfl
    have r2 := cell_of_blk (j := 2) HFIN.out.1 rfl
    have r3 := cell_of_blk (j := 3) HFIN.out.1 rfl
    exact bodyPost_ret (v := .agg #[.int .i64 1, .bool b, .int .i64 0, .string ⟨#[]⟩]) (by simp [results, Tryz.results19, go_sem, r0, r1, r2, r3]) rfl ⟨⟨1, b, 0, ⟨#[]⟩⟩, rfl, .inl ⟨rfl, rfl, rfl⟩, HFIN.out.2.1, HFIN.out.2.2, HR.out⟩
  by_cases h1 : j = 1
  · subst h1
    go_wp2_with (fail)
    refine (some_any _ p (k + 1) _ 6 6 xs wdPicks (by omega) rfl (by omega) (by omega) (HS1.out.alloc _) (by omega) (Cells.new _ _ _ _ _ rfl)).mono ?_
    rintro e w2 ⟨rfl, hs2, hg2⟩
    have hx := wdPicks_wd (nextN xs (k + 1) 6) (nextN_lt _ _ _ (by omega))
    have hx6 := nextN_lt xs (k + 1) 6 (by omega)
    obtain ⟨t, et⟩ : ∃ t, t = nextN xs (k + 1) 6 := ⟨_, rfl⟩
    rw [← et] at hx hx6 ⊢
    rw [hx]
    have HR := Lib.hid (show (⟨3, false, 0, wdT t⟩ : Pv) = rvF xs k from by unfold rvF; rw [if_neg (by rw [← HJ.out]; decide), if_pos HJ.out.symm, et])
    clear hx et
    have hg2 := grown_of_alloc hg2
    have hz2' := hg2.size
    have hg2' := grown_trans HG1.out hg2
    have HFIN := Lib.hid (pv_fin (w := w) (.int .i64 3) (.bool false) (.int .i64 0) (.string (wdT t)) ((hg2.block w.heap.size (by omega) (by intro e; injection e with e; omega)).trans HB1.out) hs2 hg2' (by omega) (Nat.le_refl _))
    have hb2 := (hg2.block w.heap.size (by omega) (by intro e; injection e with e; omega)).trans HB1.out
    have n0 := cell_of_blk (j := 0) hb2 rfl
    have n1 := cell_of_blk (j := 1) hb2 rfl
    have n2 := cell_of_blk (j := 2) hb2 rfl
    have n3 := cell_of_blk (j := 3) hb2 rfl
    have fr : ∀ j, w2.frozen? ⟨w.heap.size, j, none⟩ = false := by intro j; simp [World.frozen?, hb2]
    have f0 := fr 0
    have f1 := fr 1
    have f2 := fr 2
    have f3 := fr 3
    have hlt : w.heap.size < w2.heap.size := by omega
    clear hs2 hg2 hg2' hb2 fr HB1 HG1 HS1
    go_wp2_with (fail)
    have r0 := cell_of_blk (j := 0) HFIN.out.1 rfl
    have r1 := cell_of_blk (j := 1) HFIN.out.1 rfl
    have r2 := cell_of_blk (j := 2) HFIN.out.1 rfl
    have r3 := cell_of_blk (j := 3) HFIN.out.1 rfl
    exact bodyPost_ret (v := .agg #[.int .i64 3, .bool false, .int .i64 0, .string (wdT t)]) (by simp [results, Tryz.results19, go_sem, r0, r1, r2, r3]) rfl ⟨⟨3, false, 0, wdT t⟩, rfl, .inr (.inr ⟨rfl, rfl, rfl, t, hx6, rfl⟩), HFIN.out.2.1, HFIN.out.2.2, HR.out⟩
  have hj0 : ¬ (j : Int) = 0 := by omega
  have hj1 : ¬ (j : Int) = 1 := by omega
  · go_wp2_with (fail)
    refine (pick_any _ p (k + 1) _ 7 7 xs pvPicks (by omega) rfl (by omega) (by omega) (HS1.out.alloc _) (by omega) (Cells.new _ _ _ _ _ rfl)).mono ?_
    rintro e w2 ⟨rfl, hs2, hg2⟩
    have hx := pvPicks_range (nextN xs (k + 1) 7) (nextN_lt _ _ _ (by omega))
    obtain ⟨t, et⟩ : ∃ t, t = pvPicks.getD (nextN xs (k + 1) 7) 0 := ⟨_, rfl⟩
    rw [← et] at hx ⊢
    have HR := Lib.hid (show (⟨2, false, t, ⟨#[]⟩⟩ : Pv) = rvF xs k from by unfold rvF; rw [if_neg (by rw [← HJ.out]; exact h0), if_neg (by rw [← HJ.out]; exact h1), et])
    clear et
    have hg2 := grown_of_alloc hg2
    have hz2' := hg2.size
    have hg2' := grown_trans HG1.out hg2
    have HFIN := Lib.hid (pv_fin (w := w) (.int .i64 2) (.bool false) (.int .i64 t) (.string ⟨#[]⟩) ((hg2.block w.heap.size (by omega) (by intro e; injection e with e; omega)).trans HB1.out) hs2 hg2' (by omega) (Nat.le_refl _))
    have hb2 := (hg2.block w.heap.size (by omega) (by intro e; injection e with e; omega)).trans HB1.out
    have n0 := cell_of_blk (j := 0) hb2 rfl
    have n1 := cell_of_blk (j := 1) hb2 rfl
    have n2 := cell_of_blk (j := 2) hb2 rfl
    have n3 := cell_of_blk (j := 3) hb2 rfl
    have fr : ∀ j, w2.frozen? ⟨w.heap.size, j, none⟩ = false := by intro j; simp [World.frozen?, hb2]
    have f0 := fr 0
    have f1 := fr 1
    have f2 := fr 2
    have f3 := fr 3
    have hlt : w.heap.size < w2.heap.size := by omega
    clear hs2 hg2 hg2' hb2 fr HB1 HG1 HS1
    go_wp2_with (fail)
    have r0 := cell_of_blk (j := 0) HFIN.out.1 rfl
    have r1 := cell_of_blk (j := 1) HFIN.out.1 rfl
    have r2 := cell_of_blk (j := 2) HFIN.out.1 rfl
    have r3 := cell_of_blk (j := 3) HFIN.out.1 rfl
    exact bodyPost_ret (v := .agg #[.int .i64 2, .bool false, .int .i64 t, .string ⟨#[]⟩]) (by simp [results, Tryz.results19, go_sem, r0, r1, r2, r3]) rfl ⟨⟨2, false, t, ⟨#[]⟩⟩, rfl, .inr (.inl ⟨rfl, rfl, rfl, hx.1, hx.2⟩), HFIN.out.2.1, HFIN.out.2.2, HR.out⟩
end Go.Proofs.YtkcpfppjdjkjeaaGreatDoor
