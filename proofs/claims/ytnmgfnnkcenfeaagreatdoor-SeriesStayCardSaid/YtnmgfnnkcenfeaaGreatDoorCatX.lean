/- slices.Grow of nil, slices.Concat of two rows of api.Sample. -/
import Derived.Test.YtnmgfnnkcenfeaaGreatDoorSxA
import Derived.Test.YtnmgfnnkcenfeaaGreatDoorLyA
import Derived.Lib.AppendZerosOnto
import Derived.Lib.Walk
namespace Go.Proofs.YtnmgfnnkcenfeaaGreatDoor
open Go.RowKit

theorem Tryz.infoCatX : (Tryz.prog.info? 37).map (fun i => (i.zero, i.size, i.bytes)) = some (some (.agg #[.string ⟨#[]⟩, .string ⟨#[]⟩, .int .i64 0, .int .i64 0]), 4, 48) := by kernel_rfl
theorem recs_lenCatX (l : List Smp) : (recs smpC l).length = l.length * 4 := by
  induction l with
  | nil => rfl
  | cons x l ih => simp only [recs, List.flatMap_cons, List.length_append, List.length_cons] at ih ⊢; rw [ih]; simp [smpC]; omega
set_option maxRecDepth 100000 in
set_option maxHeartbeats 2000000 in
theorem growCatX_any (n : Nat) (w : World) (hn : n ≤ 100000) : Calls Tryz.prog 62 #[.slice none 0 0, .int .i64 (n : Int)] w fun e w' => ∃ v, e = .returned v ∧ w'.ownsRow w.heap.size 37 4 v 0 [] ∧ Below w.heap.size w w' := by
  obtain ⟨i0, hi0, hz0, hz1, hz2⟩ := info_parts Tryz.infoCatX
  rcases Nat.eq_zero_or_pos n with h0 | h0
  · subst h0
    go_enter Tryz.func62, Tryz.ntmps62
    go_wp2_with (fail)
    go_ret
    exact ⟨_, rfl, World.ownsRow_nil _ _ _ _, Below.refl _ _⟩
  · have hrz : ∀ ty, (Builtin.append_ #[26, 3] ty #[.slice none 0 0, .int .i64 (n : Int)]).run Tryz.prog w =
        .ok (.slice (some ⟨w.heap.size, 0, none⟩) n (grownCap w n 0 37)) (w.drew.alloc (.cells (#[] ++ Builtin.zeroCells (Value.agg #[.string ⟨#[]⟩, .string ⟨#[]⟩, .int .i64 0, .int .i64 0]).cells n ++ Builtin.zeroCells (Value.agg #[.string ⟨#[]⟩, .string ⟨#[]⟩, .int .i64 0, .int .i64 0]).cells (grownCap w n 0 37 - n)) 37)) := fun ty => by
      have h := Lib.run_append_grow_zeros w 26 3 ty 37 i0 _ .i64 .i64 Tryz.underlying26 Tryz.underlying3 hi0 hz0 none 0 0 [] (run_firstCells_none w.drew i0.size 0 0 0) n h0 (by omega) (by omega) (by omega) (by rw [hz2]; omega) (by rw [Nat.zero_add]; exact growslice_fits (by omega) (by rw [hz2]; omega))
      simpa using h
    have hGn : n ≤ grownCap w n 0 37 := grownCap_ge w _ _ _
    have hGm : grownCap w n 0 37 ≤ maxLen := grownCap_le_maxLen w n 0 37 (by unfold maxLen; omega)
    obtain ⟨G, hG⟩ : ∃ G, G = grownCap w n 0 37 := ⟨_, rfl⟩
    rw [← hG] at hrz hGn hGm
    obtain ⟨C, hC⟩ : ∃ C, C = #[] ++ Builtin.zeroCells (Value.agg #[.string ⟨#[]⟩, .string ⟨#[]⟩, .int .i64 0, .int .i64 0]).cells n ++ Builtin.zeroCells (Value.agg #[.string ⟨#[]⟩, .string ⟨#[]⟩, .int .i64 0, .int .i64 0]).cells (G - n) := ⟨_, rfl⟩
    rw [← hC] at hrz
    have HOW := Lib.hid (show (w.alloc (.cells C 37)).drew.ownsRow w.heap.size 37 4 (.slice (some ⟨w.heap.size, 0, none⟩) 0 G) 0 [] from by
      refine ⟨rfl, .inr ⟨w.heap.size, G, _, rfl, Nat.le_refl _, heap_new w _, Nat.zero_le _, hGm, ?_, by simp⟩⟩
      rw [hC]
      simp only [Array.size_append, size_zeroCells]
      simp [Value.cells]
      omega)
    have hG63 : G ≤ 9223372036854775807 := by unfold maxLen at hGm; omega
    have hn1 : (0 : Int) < (n : Int) := by omega
    clear hG hi0 hz0 hC
    go_enter Tryz.func62, Tryz.ntmps62
    go_wp2_with (at_builtin; refine Lib.wpList_append_run _ rfl _ _ _ _ rfl _ _ rfl rfl _ _ (hrz _) ?_)
    go_ret
    exact ⟨_, rfl, HOW.out, ((Below.refl _ _).alloc (Nat.le_refl _) _).drew⟩

set_option maxRecDepth 100000 in
set_option maxHeartbeats 4000000 in
theorem catCatX_any (l1 l2 : List Smp) (n1 n2 c1 c2 b : Nat) (A1 A2 : Option Addr) (w : World) (h1 : l1.length = n1) (h2 : l2.length = n2) (hn1 : n1 ≤ 1000) (hn2 : n2 ≤ 1000) (k0 : w.cell? ⟨b, 0, none⟩ = some (.slice A1 n1 c1)) (k1 : w.cell? ⟨b, 1, none⟩ = some (.slice A2 n2 c2)) (hy1 : Ly w A1 n1 c1 (recs smpC l1)) (hy2 : Ly w A2 n2 c2 (recs smpC l2)) :
    Calls Tryz.prog 29 #[.slice (some ⟨b, 0, none⟩) 2 2] w fun e w' => ∃ v, e = .returned v ∧ w'.ownsRow w.heap.size 37 4 v (n1 + n2) (recs smpC (l1 ++ l2)) ∧ Below w.heap.size w w' := by
  obtain ⟨i0, hi0, hz0, hz1, hz2⟩ := info_parts Tryz.infoCatX
  have hb := World.block_lt_of_cell? w _ k0
  simp only at hb
  have HY := Lib.hid (And.intro hy1 hy2)
  have HL := Lib.hid (And.intro h1 h2)
  have hone : ∀ l : List Smp, ∀ u ∈ recs smpC l, u.oneCell' = true := by
    intro l u hu
    simp only [recs, List.mem_flatMap] at hu
    obtain ⟨x, _, hx⟩ := hu
    exact smpC_one x u hx
  have HONE := Lib.hid hone
  have hw1 : IntKind.i64.wrap ((n1 : Int) + (n2 : Int)) = (n1 : Int) + (n2 : Int) := by rw [IntKind.wrap_i64]; omega
  have hneg : ¬ ((n1 : Int) + (n2 : Int) < 0) := by omega
  have hneg1 : ¬ ((n1 : Int) < 0) := by omega
  have K := Lib.hid (And.intro k0 k1)
  clear hy1 hy2 h1 h2 hone
  go_enter Tryz.func29, Tryz.ntmps29
  go_wp2_with (fail)
  refine wp_loop_rounds 3 ?_
  rw [rounds_succ]
  go_wp2_with (fail)
  rw [rounds_succ]
  go_wp2_with (fail)
  rw [rounds_succ]
  go_wp2_with (fail)
  rw [show (n1 : Int) + (n2 : Int) = ((n1 + n2 : Nat) : Int) by omega]
  refine (growCatX_any (n1 + n2) w (by omega)).mono ?_
  rintro e w1 ⟨v1, rfl, ho1, hb1⟩
  have hs1 := hb1.size
  have q0 := (hb1.cell (p := ⟨b, 0, none⟩) hb).trans K.out.1
  have q1 := (hb1.cell (p := ⟨b, 1, none⟩) hb).trans K.out.2
  have hbw : b < w1.heap.size := by omega
  have HO1 := Lib.hid ho1
  have HB1 := Lib.hid hb1
  have hal : ∀ l A n c, Ly w A n c (recs smpC l) → ∀ b o, A = some ⟨b, o, none⟩ → b < w.heap.size := by
    intro l A n c h b o e
    rcases h with ⟨rfl, _⟩ | ⟨b', o', e', hlt, _⟩
    · cases e
    · rw [e'] at e; injection e with e; injection e with e1; omega
  obtain ⟨v2, w2, hr2, ho2, hg2⟩ := app_ly (P := Tryz.prog) w1 w.heap.size 26 26 37 i0 _ 4 48 Tryz.underlying26 hi0 hz0 hz1 hz2 rfl (by decide) v1 0 [] ho1 A1 n1 c1 (recs smpC l1) (by rw [recs_lenCatX, HL.out.1]) (HY.out.1.below hb1) (HONE.out l1) (by unfold maxLen; omega) (by omega) hs1
  rw [Nat.zero_add, List.nil_append] at ho2
  have hs2 := hg2.size
  have hlo1 : ∀ g, v1.ownBlock = some g → w.heap.size ≤ g := fun g e => (ho1.lt g e).1
  have HB2 := Lib.hid (hb1.grown hg2 hs1 hlo1)
  have p1 := (HB2.out.cell (p := ⟨b, 1, none⟩) hb).trans K.out.2
  have hbw2 : b < w2.heap.size := by omega
  obtain ⟨v3, w3, hr3, ho3, hg3⟩ := app_ly (P := Tryz.prog) w2 w.heap.size 26 26 37 i0 _ 4 48 Tryz.underlying26 hi0 hz0 hz1 hz2 rfl (by decide) v2 n1 (recs smpC l1) ho2 A2 n2 c2 (recs smpC l2) (by rw [recs_lenCatX, HL.out.2]) (HY.out.2.below HB2.out) (HONE.out l2) (by unfold maxLen; omega) (by omega) (by omega)
  have HB3 := Lib.hid (HB2.out.grown hg3 (by omega) (fun g e => (ho2.lt g e).1))
  have HO3 := Lib.hid (show w3.ownsRow w.heap.size 37 4 v3 (n1 + n2) (recs smpC (l1 ++ l2)) from by rw [show recs smpC (l1 ++ l2) = recs smpC l1 ++ recs smpC l2 by simp [recs]]; exact ho3)
  clear ho1 hb1 ho2 hg2 ho3 hg3 hal hlo1
  go_wp2_with (fail)
  refine wp_loop_rounds 3 ?_
  rw [rounds_succ]
  go_wp2_with (at_builtin; refine Lib.wpList_append_run _ rfl _ _ _ _ rfl _ _ rfl rfl _ _ hr2 ?_)
  rw [rounds_succ]
  go_wp2_with (at_builtin; refine Lib.wpList_append_run _ rfl _ _ _ _ rfl _ _ rfl rfl _ _ hr3 ?_)
  rw [rounds_succ]
  go_wp2_with (fail)
  go_ret
  exact ⟨_, rfl, HO3.out, HB3.out⟩
end Go.Proofs.YtnmgfnnkcenfeaaGreatDoor
