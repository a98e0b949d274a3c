/- slices.Grow of nil, slices.Concat of three slices of cells. -/
import Derived.Test.YtkcpfppjdjkjeaaGreatDoorCeG
import Derived.Test.YtkcpfppjdjkjeaaGreatDoorLyA
namespace Go.Proofs.YtkcpfppjdjkjeaaGreatDoor
open Go.RowKit

set_option maxRecDepth 100000 in
set_option maxHeartbeats 2000000 in
theorem growC_any (n : Nat) (w : World) (hn : n ≤ 100000) : Calls Tryz.prog 144 #[.slice none 0 0, .int .i64 (n : Int)] w fun e w' => ∃ v, e = .returned v ∧ w'.ownsRow w.heap.size 41 8 v 0 [] ∧ Below w.heap.size w w' := by
  obtain ⟨i0, hi0, hz0, hz1, hz2⟩ := info_parts Tryz.infoCe
  rcases Nat.eq_zero_or_pos n with h0 | h0
  · subst h0
    go_enter Tryz.func144, Tryz.ntmps144
    go_wp2_with (fail)
    go_ret
    exact ⟨_, rfl, World.ownsRow_nil _ _ _ _, Below.refl _ _⟩
  · have hrz : ∀ ty, (Builtin.append_ #[26, 3] ty #[.slice none 0 0, .int .i64 (n : Int)]).run Tryz.prog w =
        .ok (.slice (some ⟨w.heap.size, 0, none⟩) n (grownCap w n 0 41)) (w.drew.alloc (.cells (#[] ++ Builtin.zeroCells (Value.agg #[.string ⟨#[]⟩, .int .i64 0, .bool false, .int .i64 0, .string ⟨#[]⟩, .int .i64 0, .string ⟨#[]⟩, .int .i64 0]).cells n ++ Builtin.zeroCells (Value.agg #[.string ⟨#[]⟩, .int .i64 0, .bool false, .int .i64 0, .string ⟨#[]⟩, .int .i64 0, .string ⟨#[]⟩, .int .i64 0]).cells (grownCap w n 0 41 - n)) 41)) := fun ty => by
      have h := Lib.run_append_grow_zeros w 26 3 ty 41 i0 _ .i64 .i64 Tryz.underlying26 Tryz.underlying3 hi0 hz0 none 0 0 [] (run_firstCells_none w.drew i0.size 0 0 0) n h0 (by omega) (by omega) (by omega) (by rw [hz2]; omega) (by rw [Nat.zero_add]; exact growslice_fits (by omega) (by rw [hz2]; omega))
      simpa using h
    have hGn : n ≤ grownCap w n 0 41 := grownCap_ge w _ _ _
    have hGm : grownCap w n 0 41 ≤ maxLen := grownCap_le_maxLen w n 0 41 (by unfold maxLen; omega)
    obtain ⟨G, hG⟩ : ∃ G, G = grownCap w n 0 41 := ⟨_, rfl⟩
    rw [← hG] at hrz hGn hGm
    obtain ⟨C, hC⟩ : ∃ C, C = #[] ++ Builtin.zeroCells (Value.agg #[.string ⟨#[]⟩, .int .i64 0, .bool false, .int .i64 0, .string ⟨#[]⟩, .int .i64 0, .string ⟨#[]⟩, .int .i64 0]).cells n ++ Builtin.zeroCells (Value.agg #[.string ⟨#[]⟩, .int .i64 0, .bool false, .int .i64 0, .string ⟨#[]⟩, .int .i64 0, .string ⟨#[]⟩, .int .i64 0]).cells (G - n) := ⟨_, rfl⟩
    rw [← hC] at hrz
    have HOW := Lib.hid (show (w.alloc (.cells C 41)).drew.ownsRow w.heap.size 41 8 (.slice (some ⟨w.heap.size, 0, none⟩) 0 G) 0 [] from by
      refine ⟨rfl, .inr ⟨w.heap.size, G, _, rfl, Nat.le_refl _, heap_new w _, Nat.zero_le _, hGm, ?_, by simp⟩⟩
      rw [hC]
      simp only [Array.size_append, size_zeroCells]
      simp [Value.cells]
      omega)
    have hG63 : G ≤ 9223372036854775807 := by unfold maxLen at hGm; omega
    have hn1 : (0 : Int) < (n : Int) := by omega
    clear hG hi0 hz0 hC
    go_enter Tryz.func144, Tryz.ntmps144
    go_wp2_with (at_builtin; refine Lib.wpList_append_run _ rfl _ _ _ _ rfl _ _ rfl rfl _ _ (hrz _) ?_)
    go_ret
    exact ⟨_, rfl, HOW.out, ((Below.refl _ _).alloc (Nat.le_refl _) _).drew⟩

set_option maxRecDepth 100000 in
set_option maxHeartbeats 4000000 in
theorem catC_any (l1 l2 l3 : List Ce) (n1 n2 n3 c1 c2 c3 b : Nat) (A1 A2 A3 : Option Addr) (w : World) (h1 : l1.length = n1) (h2 : l2.length = n2) (h3 : l3.length = n3) (hn1 : n1 ≤ 1000) (hn2 : n2 ≤ 1000) (hn3 : n3 ≤ 1000) (k0 : w.cell? ⟨b, 0, none⟩ = some (.slice A1 n1 c1)) (k1 : w.cell? ⟨b, 1, none⟩ = some (.slice A2 n2 c2)) (k2 : w.cell? ⟨b, 2, none⟩ = some (.slice A3 n3 c3)) (hy1 : Ly w A1 n1 c1 (recs ceC l1)) (hy2 : Ly w A2 n2 c2 (recs ceC l2)) (hy3 : Ly w A3 n3 c3 (recs ceC l3)) :
    Calls Tryz.prog 115 #[.slice (some ⟨b, 0, none⟩) 3 3] w fun e w' => ∃ v, e = .returned v ∧ w'.ownsRow w.heap.size 41 8 v (n1 + n2 + n3) (recs ceC (l1 ++ l2 ++ l3)) ∧ Below w.heap.size w w' := by
  obtain ⟨i0, hi0, hz0, hz1, hz2⟩ := info_parts Tryz.infoCe
  have hb := World.block_lt_of_cell? w _ k0
  simp only at hb
  have HY := Lib.hid (And.intro hy1 (And.intro hy2 hy3))
  have HL := Lib.hid (And.intro h1 (And.intro h2 h3))
  have HONE := Lib.hid (fun l => recs_one ceC_one l)
  have hw1 : IntKind.i64.wrap ((n1 : Int) + (n2 : Int)) = (n1 : Int) + (n2 : Int) := by rw [IntKind.wrap_i64]; omega
  have hw2 : IntKind.i64.wrap ((n1 : Int) + (n2 : Int) + (n3 : Int)) = (n1 : Int) + (n2 : Int) + (n3 : Int) := by rw [IntKind.wrap_i64]; omega
  have hneg : ¬ ((n1 : Int) + (n2 : Int) < 0) := by omega
  have hneg2 : ¬ ((n1 : Int) + (n2 : Int) + (n3 : Int) < 0) := by omega
  have hneg1 : ¬ ((n1 : Int) < 0) := by omega
  have K := Lib.hid (And.intro k0 (And.intro k1 k2))
  clear hy1 hy2 hy3 h1 h2 h3
  go_enter Tryz.func115, Tryz.ntmps115
  go_wp2_with (fail)
  refine wp_loop_rounds 4 ?_
  rw [rounds_succ]
  go_wp2_with (fail)
  rw [rounds_succ]
  go_wp2_with (fail)
  rw [rounds_succ]
  go_wp2_with (fail)
  rw [rounds_succ]
  go_wp2_with (fail)
  rw [show (n1 : Int) + (n2 : Int) + (n3 : Int) = ((n1 + n2 + n3 : Nat) : Int) by omega]
  refine (growC_any (n1 + n2 + n3) w (by omega)).mono ?_
  rintro e w1 ⟨v1, rfl, ho1, hb1⟩
  have hs1 := hb1.size
  have q0 := (hb1.cell (p := ⟨b, 0, none⟩) hb).trans K.out.1
  have q1 := (hb1.cell (p := ⟨b, 1, none⟩) hb).trans K.out.2.1
  have q2 := (hb1.cell (p := ⟨b, 2, none⟩) hb).trans K.out.2.2
  have hbw : b < w1.heap.size := by omega
  have HO1 := Lib.hid ho1
  have HB1 := Lib.hid hb1
  obtain ⟨v2, w2, hr2, ho2, hg2⟩ := app_ly (P := Tryz.prog) w1 w.heap.size 26 26 41 i0 _ 8 88 Tryz.underlying26 hi0 hz0 hz1 hz2 rfl (by decide) v1 0 [] ho1 A1 n1 c1 (recs ceC l1) (by rw [recs_length ceC_len, HL.out.1]) (HY.out.1.below hb1) (HONE.out l1) (by unfold maxLen; omega) (by omega) hs1
  rw [Nat.zero_add, List.nil_append] at ho2
  have hs2 := hg2.size
  have hlo1 : ∀ g, v1.ownBlock = some g → w.heap.size ≤ g := fun g e => (ho1.lt g e).1
  have HB2 := Lib.hid (hb1.grown hg2 hs1 hlo1)
  have p1 := (HB2.out.cell (p := ⟨b, 1, none⟩) hb).trans K.out.2.1
  have p2 := (HB2.out.cell (p := ⟨b, 2, none⟩) hb).trans K.out.2.2
  have hbw2 : b < w2.heap.size := by omega
  obtain ⟨v3, w3, hr3, ho3, hg3⟩ := app_ly (P := Tryz.prog) w2 w.heap.size 26 26 41 i0 _ 8 88 Tryz.underlying26 hi0 hz0 hz1 hz2 rfl (by decide) v2 n1 (recs ceC l1) ho2 A2 n2 c2 (recs ceC l2) (by rw [recs_length ceC_len, HL.out.2.1]) (HY.out.2.1.below HB2.out) (HONE.out l2) (by unfold maxLen; omega) (by omega) (by omega)
  have hs3 := hg3.size
  have HB3 := Lib.hid (HB2.out.grown hg3 (by omega) (fun g e => (ho2.lt g e).1))
  have r2 := (HB3.out.cell (p := ⟨b, 2, none⟩) hb).trans K.out.2.2
  have hbw3 : b < w3.heap.size := by omega
  obtain ⟨v4, w4, hr4, ho4, hg4⟩ := app_ly (P := Tryz.prog) w3 w.heap.size 26 26 41 i0 _ 8 88 Tryz.underlying26 hi0 hz0 hz1 hz2 rfl (by decide) v3 (n1 + n2) (recs ceC l1 ++ recs ceC l2) ho3 A3 n3 c3 (recs ceC l3) (by rw [recs_length ceC_len, HL.out.2.2]) (HY.out.2.2.below HB3.out) (HONE.out l3) (by unfold maxLen; omega) (by omega) (by omega)
  have HB4 := Lib.hid (HB3.out.grown hg4 (by omega) (fun g e => (ho3.lt g e).1))
  have HO4 := Lib.hid (show w4.ownsRow w.heap.size 41 8 v4 (n1 + n2 + n3) (recs ceC (l1 ++ l2 ++ l3)) from by rw [recs_append, recs_append]; exact ho4)
  clear ho1 hb1 ho2 hg2 ho3 hg3 ho4 hg4 hlo1
  go_wp2_with (fail)
  refine wp_loop_rounds 4 ?_
  rw [rounds_succ]
  go_wp2_with (at_builtin; refine Lib.wpList_append_run _ rfl _ _ _ _ rfl _ _ rfl rfl _ _ hr2 ?_)
  rw [rounds_succ]
  go_wp2_with (at_builtin; refine Lib.wpList_append_run _ rfl _ _ _ _ rfl _ _ rfl rfl _ _ hr3 ?_)
  rw [rounds_succ]
  go_wp2_with (at_builtin; refine Lib.wpList_append_run _ rfl _ _ _ _ rfl _ _ rfl rfl _ _ hr4 ?_)
  rw [rounds_succ]
  go_wp2_with (fail)
  go_ret
  exact ⟨_, rfl, HO4.out, HB4.out⟩
end Go.Proofs.YtkcpfppjdjkjeaaGreatDoor
