/- slices.Grow of nil, slices.Concat of two rows of api.Note. -/
import Derived.Test.YtnnncddjcdjhoaaGreatDoorLrA
import Derived.Test.YtnnncddjcdjhoaaGreatDoorLyA
import Derived.Lib.AppendZerosOnto
import Derived.Lib.Walk
namespace Go.Proofs.YtnnncddjcdjhoaaGreatDoor
open Go.RowKit

theorem Tryz.infoCatN : (Tryz.prog.info? 40).map (fun i => (i.zero, i.size, i.bytes)) = some (some (.agg #[.string ⟨#[]⟩, .string ⟨#[]⟩, .string ⟨#[]⟩, .int .i64 0, .int .i64 0, .int .i64 0, .int .i64 0, .int .i64 0, .int .i64 0]), 9, 96) := by kernel_rfl
theorem recs_lenCatN (l : List Nr) : (recs nrC l).length = l.length * 9 := by
  induction l with
  | nil => rfl
  | cons x l ih => simp only [recs, List.flatMap_cons, List.length_append, List.length_cons] at ih ⊢; rw [ih]; simp [nrC]; omega
set_option maxRecDepth 100000 in
set_option maxHeartbeats 2000000 in
theorem growCatN_any (n : Nat) (w : World) (hn : n ≤ 100000) : Calls Tryz.prog 75 #[.slice none 0 0, .int .i64 (n : Int)] w fun e w' => ∃ v, e = .returned v ∧ w'.ownsRow w.heap.size 40 9 v 0 [] ∧ Below w.heap.size w w' := by
  obtain ⟨i0, hi0, hz0, hz1, hz2⟩ := info_parts Tryz.infoCatN
  rcases Nat.eq_zero_or_pos n with h0 | h0
  · subst h0
    go_enter Tryz.func75, Tryz.ntmps75
    go_wp2_with (fail)
    go_ret
    exact ⟨_, rfl, World.ownsRow_nil _ _ _ _, Below.refl _ _⟩
  · have hrz : ∀ ty, (Builtin.append_ #[28, 3] ty #[.slice none 0 0, .int .i64 (n : Int)]).run Tryz.prog w =
        .ok (.slice (some ⟨w.heap.size, 0, none⟩) n (grownCap w n 0 40)) (w.drew.alloc (.cells (#[] ++ Builtin.zeroCells (Value.agg #[.string ⟨#[]⟩, .string ⟨#[]⟩, .string ⟨#[]⟩, .int .i64 0, .int .i64 0, .int .i64 0, .int .i64 0, .int .i64 0, .int .i64 0]).cells n ++ Builtin.zeroCells (Value.agg #[.string ⟨#[]⟩, .string ⟨#[]⟩, .string ⟨#[]⟩, .int .i64 0, .int .i64 0, .int .i64 0, .int .i64 0, .int .i64 0, .int .i64 0]).cells (grownCap w n 0 40 - n)) 40)) := fun ty => by
      have h := Lib.run_append_grow_zeros w 28 3 ty 40 i0 _ .i64 .i64 Tryz.underlying28 Tryz.underlying3 hi0 hz0 none 0 0 [] (run_firstCells_none w.drew i0.size 0 0 0) n h0 (by omega) (by omega) (by omega) (by rw [hz2]; omega) (by rw [Nat.zero_add]; exact growslice_fits (by omega) (by rw [hz2]; omega))
      simpa using h
    have hGn : n ≤ grownCap w n 0 40 := grownCap_ge w _ _ _
    have hGm : grownCap w n 0 40 ≤ maxLen := grownCap_le_maxLen w n 0 40 (by unfold maxLen; omega)
    obtain ⟨G, hG⟩ : ∃ G, G = grownCap w n 0 40 := ⟨_, rfl⟩
    rw [← hG] at hrz hGn hGm
    obtain ⟨C, hC⟩ : ∃ C, C = #[] ++ Builtin.zeroCells (Value.agg #[.string ⟨#[]⟩, .string ⟨#[]⟩, .string ⟨#[]⟩, .int .i64 0, .int .i64 0, .int .i64 0, .int .i64 0, .int .i64 0, .int .i64 0]).cells n ++ Builtin.zeroCells (Value.agg #[.string ⟨#[]⟩, .string ⟨#[]⟩, .string ⟨#[]⟩, .int .i64 0, .int .i64 0, .int .i64 0, .int .i64 0, .int .i64 0, .int .i64 0]).cells (G - n) := ⟨_, rfl⟩
    rw [← hC] at hrz
    have HOW := Lib.hid (show (w.alloc (.cells C 40)).drew.ownsRow w.heap.size 40 9 (.slice (some ⟨w.heap.size, 0, none⟩) 0 G) 0 [] from by
      refine ⟨rfl, .inr ⟨w.heap.size, G, _, rfl, Nat.le_refl _, heap_new w _, Nat.zero_le _, hGm, ?_, by simp⟩⟩
      rw [hC]
      simp only [Array.size_append, size_zeroCells]
      simp [Value.cells]
      omega)
    have hG63 : G ≤ 9223372036854775807 := by unfold maxLen at hGm; omega
    have hn1 : (0 : Int) < (n : Int) := by omega
    clear hG hi0 hz0 hC
    go_enter Tryz.func75, Tryz.ntmps75
    go_wp2_with (at_builtin; refine Lib.wpList_append_run _ rfl _ _ _ _ rfl _ _ rfl rfl _ _ (hrz _) ?_)
    go_ret
    exact ⟨_, rfl, HOW.out, ((Below.refl _ _).alloc (Nat.le_refl _) _).drew⟩

set_option maxRecDepth 100000 in
set_option maxHeartbeats 4000000 in
theorem cat3N_any (L : List Nr) (n c b : Nat) (A : Option Addr) (w : World) (h : L.length = n) (hn : n ≤ 1000) (k0 : w.cell? ⟨b, 0, none⟩ = some (.slice none 0 0)) (k1 : w.cell? ⟨b, 1, none⟩ = some (.slice A n c)) (k2 : w.cell? ⟨b, 2, none⟩ = some (.slice none 0 0)) (hy : Ly w A n c (recs nrC L)) :
    Calls Tryz.prog 42 #[.slice (some ⟨b, 0, none⟩) 3 3] w fun e w' => ∃ v, e = .returned v ∧ w'.ownsRow w.heap.size 40 9 v n (recs nrC L) ∧ Below w.heap.size w w' := by
  obtain ⟨i0, hi0, hz0, hz1, hz2⟩ := info_parts Tryz.infoCatN
  have hb := World.block_lt_of_cell? w _ k0
  simp only at hb
  have HY := Lib.hid hy
  have HL := Lib.hid h
  have hone : ∀ l : List Nr, ∀ u ∈ recs nrC l, u.oneCell' = true := recs_one nrC_one
  have HONE := Lib.hid hone
  have hw1 : IntKind.i64.wrap (n : Int) = (n : Int) := by rw [IntKind.wrap_i64]; omega
  have hneg : ¬ ((n : Int) < 0) := by omega
  have K := Lib.hid (And.intro k0 (And.intro k1 k2))
  clear hy h hone
  go_enter Tryz.func42, Tryz.ntmps42
  go_wp2_with (fail)
  refine wp_loop_rounds 4 ?_
  rw [rounds_succ]
  go_wp2_with (fail)
  rw [rounds_succ]
  go_wp2_with (fail)
  rw [rounds_succ]
  go_wp2_with (fail)
  rw [rounds_succ]
  go_wp2_with (fail)
  refine (growCatN_any n w (by omega)).mono ?_
  rintro e w1 ⟨v1, rfl, ho1, hb1⟩
  have hs1 := hb1.size
  have q0 := (hb1.cell (p := ⟨b, 0, none⟩) hb).trans K.out.1
  have hbw : b < w1.heap.size := by omega
  have HO1 := Lib.hid ho1
  have HB1 := Lib.hid hb1
  obtain ⟨v2, w2, hr2, ho2, hg2⟩ := app_ly (P := Tryz.prog) w1 w.heap.size 28 28 40 i0 _ 9 96 Tryz.underlying28 hi0 hz0 hz1 hz2 rfl (by decide) v1 0 [] ho1 none 0 0 [] rfl (.inl ⟨rfl, rfl, rfl, rfl⟩) (by simp) (by unfold maxLen; omega) (by omega) hs1
  rw [Nat.zero_add, List.nil_append] at ho2
  have hs2 := hg2.size
  have hlo1 : ∀ g, v1.ownBlock = some g → w.heap.size ≤ g := fun g e => (ho1.lt g e).1
  have HB2 := Lib.hid (hb1.grown hg2 hs1 hlo1)
  have p1 := (HB2.out.cell (p := ⟨b, 1, none⟩) hb).trans K.out.2.1
  have hbw2 : b < w2.heap.size := by omega
  obtain ⟨v3, w3, hr3, ho3, hg3⟩ := app_ly (P := Tryz.prog) w2 w.heap.size 28 28 40 i0 _ 9 96 Tryz.underlying28 hi0 hz0 hz1 hz2 rfl (by decide) v2 0 [] ho2 A n c (recs nrC L) (by rw [recs_length nrC_len, HL.out]) (HY.out.below HB2.out) (HONE.out L) (by unfold maxLen; omega) (by omega) (by omega)
  have HB3 := Lib.hid (HB2.out.grown hg3 (by omega) (fun g e => (ho2.lt g e).1))
  rw [Nat.zero_add, List.nil_append] at ho3
  have hs3 := hg3.size
  have r2 := (HB3.out.cell (p := ⟨b, 2, none⟩) hb).trans K.out.2.2
  have hbw3 : b < w3.heap.size := by omega
  obtain ⟨v4, w4, hr4, ho4, hg4⟩ := app_ly (P := Tryz.prog) w3 w.heap.size 28 28 40 i0 _ 9 96 Tryz.underlying28 hi0 hz0 hz1 hz2 rfl (by decide) v3 n (recs nrC L) ho3 none 0 0 [] rfl (.inl ⟨rfl, rfl, rfl, rfl⟩) (by simp) (by unfold maxLen; omega) (by omega) (by omega)
  have HB4 := Lib.hid (HB3.out.grown hg4 (by omega) (fun g e => (ho3.lt g e).1))
  have HO4 := Lib.hid (show w4.ownsRow w.heap.size 40 9 v4 n (recs nrC L) from by rw [Nat.add_zero, List.append_nil] at ho4; exact ho4)
  clear ho1 hb1 ho2 hg2 ho3 hg3 ho4 hg4 hlo1
  go_wp2_with (fail)
  refine wp_loop_rounds 4 ?_
  rw [rounds_succ]
  go_wp2_with (at_builtin; refine Lib.wpList_append_run _ rfl _ _ _ _ rfl _ _ rfl rfl _ _ hr2 ?_)
  rw [rounds_succ]
  go_wp2_with (at_builtin; refine Lib.wpList_append_run _ rfl _ _ _ _ rfl _ _ rfl rfl _ _ hr3 ?_)
  rw [rounds_succ]
  go_wp2_with (at_builtin; refine Lib.wpList_append_run _ rfl _ _ _ _ rfl _ _ rfl rfl _ _ hr4 ?_)
  rw [rounds_succ]
  go_wp2_with (fail)
  go_ret
  exact ⟨_, rfl, HO4.out, HB4.out⟩
end Go.Proofs.YtnnncddjcdjhoaaGreatDoor
