/- Several texts in one: GnS, GnSf, CatP, MrB, CatF, EqP, EqF. -/
import Derived.Test.YthplhibdapjjgaaGreatDoorGnA
import Derived.Test.YthplhibdapjjgaaGreatDoorFeK
import Derived.Test.YthplhibdapjjgaaGreatDoorDl2
import Derived.Test.YthplhibdapjjgaaGreatDoorDel
import Derived.Test.YthplhibdapjjgaaGreatDoorLyA
import Derived.Lib.AppendZerosOnto
import Derived.Lib.Walk
import Derived.Test.YthplhibdapjjgaaGreatDoorFxE
import Derived.Test.YthplhibdapjjgaaGreatDoorFxC
import Derived.Test.YthplhibdapjjgaaGreatDoorFeA
import Derived.Test.YthplhibdapjjgaaGreatDoorMgC

/- spoil of spots: it writes into its own row alone. -/
namespace Go.Proofs.YthplhibdapjjgaaGreatDoor
open Go.RowKit

theorem pt_store {W : World} {base g n cap : Nat} {L : List Pt} (h : W.ownsRow base 37 2 (.slice (some ⟨g, 0, none⟩) n cap) n (recs ptC L)) (hL : L.length = n) (i : Nat) (hi : i < n) (x : Pt) :
    ((W.setCell ⟨g, i * 2, none⟩ (.int .i64 x.1)).setCell ⟨g, i * 2 + 1, none⟩ (.int .i64 x.2)).ownsRow base 37 2 (.slice (some ⟨g, 0, none⟩) n cap) n (recs ptC (L.set i x)) ∧ W.grownBy ((W.setCell ⟨g, i * 2, none⟩ (.int .i64 x.1)).setCell ⟨g, i * 2 + 1, none⟩ (.int .i64 x.2)) (some g) := by
  have h2 := own_setCells (ptC x) (i * 2) W (recs ptC L) h (by rw [recs_length ptC_len, ptC_len, hL]; omega)
  rw [recs_set ptC_len L i x (by omega)] at h2
  exact h2
set_option maxRecDepth 100000 in
set_option maxHeartbeats 2000000 in
theorem spoilP_any (l : List Pt) (n B : Nat) (v : Value) (w : World) (hn : l.length = n) (hn2 : n ≤ 5000) (ho : w.ownsRow B 37 2 v n (recs ptC l)) :
    Calls Tryz.prog 7 #[v] w fun e w' => e = .returned (.tuple #[]) ∧ w.grownBy w' v.ownBlock := by
  obtain ⟨A, c, rfl⟩ := own_slice ho
  have HOB := Lib.hid (fun q hq => (ho.lt q hq).2)
  have HO := Lib.hid ho
  have HN := Lib.hid hn
  clear ho hn
  go_enter Tryz.func7, Tryz.ntmps7
  obtain ⟨gz, egz⟩ : ∃ g, g = w.heap.size := ⟨_, rfl⟩
  obtain ⟨w0, e0⟩ : ∃ V : World, V = w.alloc (.cells #[.int .i64 0, .int .i64 0] 37) := ⟨_, rfl⟩
  have hz0 : w0.heap[gz]? = some (.cells #[.int .i64 0, .int .i64 0] 37 (0, 0)) := by rw [e0, egz]; exact heap_new w _
  have hb0 : Below w.heap.size w w0 := by rw [e0]; exact (Below.refl _ _).alloc (Nat.le_refl _) _
  have H0 := Lib.hid (show ∃ l' : List Pt, l'.length = n ∧ w0.ownsRow B 37 2 (.slice A n c) n (recs ptC l') ∧ w0.heap[gz]? = some (.cells #[.int .i64 0, .int .i64 0] 37 (0, 0)) ∧ w.grownBy w0 (Value.slice A n c).ownBlock from
    ⟨l, HN.out, own_below HO.out hb0, hz0, bel_grown hb0 _⟩)
  have hgz : w.heap.size ≤ gz := by omega
  clear hz0 hb0
  go_upto_region 2 with (fail)
  rw [← egz, ← e0]
  clear e0 egz
  go_loopw [6] (fun i wr => ∃ j : Nat, j ≤ n ∧ i = .int .i64 (j : Int) ∧ Hid (∃ l' : List Pt, l'.length = n ∧ wr.ownsRow B 37 2 (.slice A n c) n (recs ptC l') ∧ wr.heap[gz]? = some (.cells #[.int .i64 0, .int .i64 0] 37 (0, 0)) ∧ w.grownBy wr (Value.slice A n c).ownBlock)) (fun i _ => n - (intOf i).toNat)
  case atStart => exact ⟨0, Nat.zero_le _, rfl, H0⟩
  case round =>
    obtain ⟨j, hj, rfl, HR⟩ := hrel
    obtain ⟨wa, rfl⟩ : ∃ wy : World, wy = wr := ⟨_, rfl⟩
    obtain ⟨l', hl', hoa, hza, hga⟩ := HR.out
    by_cases hlt : j < n
    · have hltI : (j : Int) < (n : Int) := by omega
      obtain ⟨h1, h2, h3⟩ | ⟨g, rfl, hg1, hg2⟩ := own_two hoa
      · omega
      obtain ⟨x, hx⟩ : ∃ x, l'[j]? = some x := ⟨_, List.getElem?_eq_getElem (by omega)⟩
      obtain ⟨c0, c1⟩ := pt_cells (own_cells0 hoa) j x hx
      simp only [Nat.zero_add] at c0 c1
      have f0 : wa.frozen? ⟨g, j * 2, none⟩ = false := hoa.frozenAt _
      have f1 : wa.frozen? ⟨g, j * 2 + 1, none⟩ = false := hoa.frozenAt _
      have z0 := cell_of_blk (j := 0) hza rfl
      have z1 := cell_of_blk (j := 1) hza rfl
      have hzl := (Array.getElem?_eq_some_iff.1 hza).1
      have hgne : ¬ gz = g := fun e => by have := HOB.out g rfl; omega
      obtain ⟨w1, e1⟩ : ∃ V : World, V = (wa.setCell ⟨g, j * 2, none⟩ (.int .i64 0)).setCell ⟨g, j * 2 + 1, none⟩ (.int .i64 0) := ⟨_, rfl⟩
      have HS := Lib.hid (show ∃ l2 : List Pt, l2.length = n ∧ w1.ownsRow B 37 2 (.slice (some ⟨g, 0, none⟩) n c) n (recs ptC l2) ∧ w1.heap[gz]? = some (.cells #[.int .i64 0, .int .i64 0] 37 (0, 0)) ∧ w.grownBy w1 (Value.slice (some ⟨g, 0, none⟩) n c).ownBlock from by
        obtain ⟨s1, s2⟩ := pt_store hoa hl' j hlt (0, 0)
        rw [← e1] at s1 s2
        exact ⟨l'.set j (0, 0), by rw [List.length_set]; exact hl', s1, (s2.block gz hzl (fun e => by injection e with e; exact hgne e)).trans hza, grown_trans hga s2⟩)
      clear hoa hza hga hx
      go_wp2_with (fail)

      rw [← e1]
      clear e1
      go_roundw
      case rel => exact ⟨j + 1, by omega, by go_num, HS⟩
      case measure => simp [intOf]; omega
    · have hltI : ¬ (j : Int) < (n : Int) := by omega
      have HG := Lib.hid hga
      clear hoa hza hga
      go_wp2_with (fail)
      go_end0
      exact ⟨rfl, HG.out⟩
end Go.Proofs.YthplhibdapjjgaaGreatDoor

/- spoil of rows of api.Fix: it writes into its own row alone. Printed by gen_GnX.py. -/
namespace Go.Proofs.YthplhibdapjjgaaGreatDoor
open Go.RowKit

set_option maxRecDepth 100000 in
set_option maxHeartbeats 2000000 in
theorem spoilSf_any (l : List Value) (n B : Nat) (v : Value) (w : World) (hn : l.length = n * 5) (hn2 : n ≤ 5000) (ho : w.ownsRow B 42 5 v n l) :
    Calls Tryz.prog 9 #[v] w fun e w' => e = .returned (.tuple #[]) ∧ w.grownBy w' v.ownBlock := by
  obtain ⟨A, c, rfl⟩ := own_slice ho
  have HOB := Lib.hid (fun q hq => (ho.lt q hq).2)
  have HO := Lib.hid ho
  have HN := Lib.hid hn
  clear ho hn
  go_enter Tryz.func9, Tryz.ntmps9
  obtain ⟨gz, egz⟩ : ∃ g, g = w.heap.size := ⟨_, rfl⟩
  obtain ⟨w0, e0⟩ : ∃ V : World, V = w.alloc (.cells #[.string ⟨#[]⟩, .int .i64 0, .int .i64 0, .int .i64 0, .int .i64 0] 42) := ⟨_, rfl⟩
  have hz0 : w0.heap[gz]? = some (.cells #[.string ⟨#[]⟩, .int .i64 0, .int .i64 0, .int .i64 0, .int .i64 0] 42 (0, 0)) := by rw [e0, egz]; exact heap_new w _
  have hb0 : Below w.heap.size w w0 := by rw [e0]; exact (Below.refl _ _).alloc (Nat.le_refl _) _
  have H0 := Lib.hid (show ∃ l' : List Value, l'.length = n * 5 ∧ w0.ownsRow B 42 5 (.slice A n c) n l' ∧ w0.heap[gz]? = some (.cells #[.string ⟨#[]⟩, .int .i64 0, .int .i64 0, .int .i64 0, .int .i64 0] 42 (0, 0)) ∧ w.grownBy w0 (Value.slice A n c).ownBlock from
    ⟨l, HN.out, own_below HO.out hb0, hz0, bel_grown hb0 _⟩)
  have hgz : w.heap.size ≤ gz := by omega
  clear hz0 hb0
  go_upto_region 2 with (fail)
  rw [← egz, ← e0]
  clear e0 egz
  go_loopw [6] (fun i wr => ∃ j : Nat, j ≤ n ∧ i = .int .i64 (j : Int) ∧ Hid (∃ l' : List Value, l'.length = n * 5 ∧ wr.ownsRow B 42 5 (.slice A n c) n l' ∧ wr.heap[gz]? = some (.cells #[.string ⟨#[]⟩, .int .i64 0, .int .i64 0, .int .i64 0, .int .i64 0] 42 (0, 0)) ∧ w.grownBy wr (Value.slice A n c).ownBlock)) (fun i _ => n - (intOf i).toNat)
  case atStart => exact ⟨0, Nat.zero_le _, rfl, H0⟩
  case round =>
    obtain ⟨j, hj, rfl, HR⟩ := hrel
    obtain ⟨wa, rfl⟩ : ∃ wy : World, wy = wr := ⟨_, rfl⟩
    obtain ⟨l', hl', hoa, hza, hga⟩ := HR.out
    by_cases hlt : j < n
    · have hltI : (j : Int) < (n : Int) := by omega
      obtain ⟨h1, h2, h3⟩ | ⟨g, rfl, hg1, hg2⟩ := own_two hoa
      · omega
      have hcl := own_cells0 hoa
      obtain ⟨x0, hx0⟩ : ∃ x, l'[j * 5]? = some x := ⟨_, List.getElem?_eq_getElem (by omega)⟩
      have c0 := hcl _ _ hx0
      simp only [Nat.zero_add] at c0
      have f0 : wa.frozen? ⟨g, j * 5, none⟩ = false := hoa.frozenAt _
      have z0 := cell_of_blk (j := 0) hza rfl
      clear hx0
      obtain ⟨x1, hx1⟩ : ∃ x, l'[j * 5 + 1]? = some x := ⟨_, List.getElem?_eq_getElem (by omega)⟩
      have c1 := hcl _ _ hx1
      simp only [Nat.zero_add] at c1
      have f1 : wa.frozen? ⟨g, j * 5 + 1, none⟩ = false := hoa.frozenAt _
      have z1 := cell_of_blk (j := 1) hza rfl
      clear hx1
      obtain ⟨x2, hx2⟩ : ∃ x, l'[j * 5 + 2]? = some x := ⟨_, List.getElem?_eq_getElem (by omega)⟩
      have c2 := hcl _ _ hx2
      simp only [Nat.zero_add] at c2
      have f2 : wa.frozen? ⟨g, j * 5 + 2, none⟩ = false := hoa.frozenAt _
      have z2 := cell_of_blk (j := 2) hza rfl
      clear hx2
      obtain ⟨x3, hx3⟩ : ∃ x, l'[j * 5 + 3]? = some x := ⟨_, List.getElem?_eq_getElem (by omega)⟩
      have c3 := hcl _ _ hx3
      simp only [Nat.zero_add] at c3
      have f3 : wa.frozen? ⟨g, j * 5 + 3, none⟩ = false := hoa.frozenAt _
      have z3 := cell_of_blk (j := 3) hza rfl
      clear hx3
      obtain ⟨x4, hx4⟩ : ∃ x, l'[j * 5 + 4]? = some x := ⟨_, List.getElem?_eq_getElem (by omega)⟩
      have c4 := hcl _ _ hx4
      simp only [Nat.zero_add] at c4
      have f4 : wa.frozen? ⟨g, j * 5 + 4, none⟩ = false := hoa.frozenAt _
      have z4 := cell_of_blk (j := 4) hza rfl
      clear hx4
      have hzl := (Array.getElem?_eq_some_iff.1 hza).1
      have hgne : ¬ gz = g := fun e => by have := HOB.out g rfl; omega
      obtain ⟨w1, e1⟩ : ∃ V : World, V = ((((wa.setCell ⟨g, j * 5, none⟩ (.string ⟨#[]⟩)).setCell ⟨g, j * 5 + 1, none⟩ (.int .i64 0)).setCell ⟨g, j * 5 + 2, none⟩ (.int .i64 0)).setCell ⟨g, j * 5 + 3, none⟩ (.int .i64 0)).setCell ⟨g, j * 5 + 4, none⟩ (.int .i64 0) := ⟨_, rfl⟩
      have HS := Lib.hid (show ∃ l2 : List Value, l2.length = n * 5 ∧ w1.ownsRow B 42 5 (.slice (some ⟨g, 0, none⟩) n c) n l2 ∧ w1.heap[gz]? = some (.cells #[.string ⟨#[]⟩, .int .i64 0, .int .i64 0, .int .i64 0, .int .i64 0] 42 (0, 0)) ∧ w.grownBy w1 (Value.slice (some ⟨g, 0, none⟩) n c).ownBlock from by
        obtain ⟨s1, s2⟩ := own_setCells [.string ⟨#[]⟩, .int .i64 0, .int .i64 0, .int .i64 0, .int .i64 0] (j * 5) wa l' hoa (by show j * 5 + 5 ≤ _; omega)
        have e2 : wa.setCells g (j * 5) [.string ⟨#[]⟩, .int .i64 0, .int .i64 0, .int .i64 0, .int .i64 0] = w1 := by rw [e1]; rfl
        rw [e2] at s1 s2
        exact ⟨_, by simp only [List.length_append, List.length_take, List.length_drop, List.length_cons, List.length_nil]; omega, s1, (s2.block gz hzl (fun e => by injection e with e; exact hgne e)).trans hza, grown_trans hga s2⟩)
      clear hoa hza hga hcl
      go_wp2_with (fail)
      rw [← e1]
      clear e1
      go_roundw
      case rel => exact ⟨j + 1, by omega, by go_num, HS⟩
      case measure => simp [intOf]; omega
    · have hltI : ¬ (j : Int) < (n : Int) := by omega
      have HG := Lib.hid hga
      clear hoa hza hga
      go_wp2_with (fail)
      go_end0
      exact ⟨rfl, HG.out⟩
end Go.Proofs.YthplhibdapjjgaaGreatDoor

/- slices.Grow of nil, slices.Concat of two rows of api.Spot. -/
namespace Go.Proofs.YthplhibdapjjgaaGreatDoor
open Go.RowKit

theorem Tryz.infoCatP : (Tryz.prog.info? 37).map (fun i => (i.zero, i.size, i.bytes)) = some (some (.agg #[.int .i64 0, .int .i64 0]), 2, 16) := by kernel_rfl
theorem recs_lenCatP (l : List Pt) : (recs ptC l).length = l.length * 2 := by
  induction l with
  | nil => rfl
  | cons x l ih => simp only [recs, List.flatMap_cons, List.length_append, List.length_cons] at ih ⊢; rw [ih]; simp [ptC]; omega
set_option maxRecDepth 100000 in
set_option maxHeartbeats 2000000 in
theorem growCatP_any (n : Nat) (w : World) (hn : n ≤ 100000) : Calls Tryz.prog 68 #[.slice none 0 0, .int .i64 (n : Int)] w fun e w' => ∃ v, e = .returned v ∧ w'.ownsRow w.heap.size 37 2 v 0 [] ∧ Below w.heap.size w w' := by
  obtain ⟨i0, hi0, hz0, hz1, hz2⟩ := info_parts Tryz.infoCatP
  rcases Nat.eq_zero_or_pos n with h0 | h0
  · subst h0
    go_enter Tryz.func68, Tryz.ntmps68
    go_wp2_with (fail)
    go_ret
    exact ⟨_, rfl, World.ownsRow_nil _ _ _ _, Below.refl _ _⟩
  · have hrz : ∀ ty, (Builtin.append_ #[26, 3] ty #[.slice none 0 0, .int .i64 (n : Int)]).run Tryz.prog w =
        .ok (.slice (some ⟨w.heap.size, 0, none⟩) n (grownCap w n 0 37)) (w.drew.alloc (.cells (#[] ++ Builtin.zeroCells (Value.agg #[.int .i64 0, .int .i64 0]).cells n ++ Builtin.zeroCells (Value.agg #[.int .i64 0, .int .i64 0]).cells (grownCap w n 0 37 - n)) 37)) := fun ty => by
      have h := Lib.run_append_grow_zeros w 26 3 ty 37 i0 _ .i64 .i64 Tryz.underlying26 Tryz.underlying3 hi0 hz0 none 0 0 [] (run_firstCells_none w.drew i0.size 0 0 0) n h0 (by omega) (by omega) (by omega) (by rw [hz2]; omega) (by rw [Nat.zero_add]; exact growslice_fits (by omega) (by rw [hz2]; omega))
      simpa using h
    have hGn : n ≤ grownCap w n 0 37 := grownCap_ge w _ _ _
    have hGm : grownCap w n 0 37 ≤ maxLen := grownCap_le_maxLen w n 0 37 (by unfold maxLen; omega)
    obtain ⟨G, hG⟩ : ∃ G, G = grownCap w n 0 37 := ⟨_, rfl⟩
    rw [← hG] at hrz hGn hGm
    obtain ⟨C, hC⟩ : ∃ C, C = #[] ++ Builtin.zeroCells (Value.agg #[.int .i64 0, .int .i64 0]).cells n ++ Builtin.zeroCells (Value.agg #[.int .i64 0, .int .i64 0]).cells (G - n) := ⟨_, rfl⟩
    rw [← hC] at hrz
    have HOW := Lib.hid (show (w.alloc (.cells C 37)).drew.ownsRow w.heap.size 37 2 (.slice (some ⟨w.heap.size, 0, none⟩) 0 G) 0 [] from by
      refine ⟨rfl, .inr ⟨w.heap.size, G, _, rfl, Nat.le_refl _, heap_new w _, Nat.zero_le _, hGm, ?_, by simp⟩⟩
      rw [hC]
      simp only [Array.size_append, size_zeroCells]
      simp [Value.cells]
      omega)
    have hG63 : G ≤ 9223372036854775807 := by unfold maxLen at hGm; omega
    have hn1 : (0 : Int) < (n : Int) := by omega
    clear hG hi0 hz0 hC
    go_enter Tryz.func68, Tryz.ntmps68
    go_wp2_with (at_builtin; refine Lib.wpList_append_run _ rfl _ _ _ _ rfl _ _ rfl rfl _ _ (hrz _) ?_)
    go_ret
    exact ⟨_, rfl, HOW.out, ((Below.refl _ _).alloc (Nat.le_refl _) _).drew⟩

set_option maxRecDepth 100000 in
set_option maxHeartbeats 4000000 in
theorem catCatP_any (l1 l2 : List Pt) (n1 n2 c1 c2 b : Nat) (A1 A2 : Option Addr) (w : World) (h1 : l1.length = n1) (h2 : l2.length = n2) (hn1 : n1 ≤ 1000) (hn2 : n2 ≤ 1000) (k0 : w.cell? ⟨b, 0, none⟩ = some (.slice A1 n1 c1)) (k1 : w.cell? ⟨b, 1, none⟩ = some (.slice A2 n2 c2)) (hy1 : Ly w A1 n1 c1 (recs ptC l1)) (hy2 : Ly w A2 n2 c2 (recs ptC l2)) :
    Calls Tryz.prog 32 #[.slice (some ⟨b, 0, none⟩) 2 2] w fun e w' => ∃ v, e = .returned v ∧ w'.ownsRow w.heap.size 37 2 v (n1 + n2) (recs ptC (l1 ++ l2)) ∧ Below w.heap.size w w' := by
  obtain ⟨i0, hi0, hz0, hz1, hz2⟩ := info_parts Tryz.infoCatP
  have hb := World.block_lt_of_cell? w _ k0
  simp only at hb
  have HY := Lib.hid (And.intro hy1 hy2)
  have HL := Lib.hid (And.intro h1 h2)
  have hone : ∀ l : List Pt, ∀ u ∈ recs ptC l, u.oneCell' = true := by
    intro l u hu
    simp only [recs, List.mem_flatMap] at hu
    obtain ⟨x, _, hx⟩ := hu
    exact ptC_one x u hx
  have HONE := Lib.hid hone
  have hw1 : IntKind.i64.wrap ((n1 : Int) + (n2 : Int)) = (n1 : Int) + (n2 : Int) := by rw [IntKind.wrap_i64]; omega
  have hneg : ¬ ((n1 : Int) + (n2 : Int) < 0) := by omega
  have hneg1 : ¬ ((n1 : Int) < 0) := by omega
  have K := Lib.hid (And.intro k0 k1)
  clear hy1 hy2 h1 h2 hone
  go_enter Tryz.func32, Tryz.ntmps32
  go_wp2_with (fail)
  refine wp_loop_rounds 3 ?_
  rw [rounds_succ]
  go_wp2_with (fail)
  rw [rounds_succ]
  go_wp2_with (fail)
  rw [rounds_succ]
  go_wp2_with (fail)
  rw [show (n1 : Int) + (n2 : Int) = ((n1 + n2 : Nat) : Int) by omega]
  refine (growCatP_any (n1 + n2) w (by omega)).mono ?_
  rintro e w1 ⟨v1, rfl, ho1, hb1⟩
  have hs1 := hb1.size
  have q0 := (hb1.cell (p := ⟨b, 0, none⟩) hb).trans K.out.1
  have q1 := (hb1.cell (p := ⟨b, 1, none⟩) hb).trans K.out.2
  have hbw : b < w1.heap.size := by omega
  have HO1 := Lib.hid ho1
  have HB1 := Lib.hid hb1
  have hal : ∀ l A n c, Ly w A n c (recs ptC l) → ∀ b o, A = some ⟨b, o, none⟩ → b < w.heap.size := by
    intro l A n c h b o e
    rcases h with ⟨rfl, _⟩ | ⟨b', o', e', hlt, _⟩
    · cases e
    · rw [e'] at e; injection e with e; injection e with e1; omega
  obtain ⟨v2, w2, hr2, ho2, hg2⟩ := app_ly (P := Tryz.prog) w1 w.heap.size 26 26 37 i0 _ 2 16 Tryz.underlying26 hi0 hz0 hz1 hz2 rfl (by decide) v1 0 [] ho1 A1 n1 c1 (recs ptC l1) (by rw [recs_lenCatP, HL.out.1]) (HY.out.1.below hb1) (HONE.out l1) (by unfold maxLen; omega) (by omega) hs1
  rw [Nat.zero_add, List.nil_append] at ho2
  have hs2 := hg2.size
  have hlo1 : ∀ g, v1.ownBlock = some g → w.heap.size ≤ g := fun g e => (ho1.lt g e).1
  have HB2 := Lib.hid (hb1.grown hg2 hs1 hlo1)
  have p1 := (HB2.out.cell (p := ⟨b, 1, none⟩) hb).trans K.out.2
  have hbw2 : b < w2.heap.size := by omega
  obtain ⟨v3, w3, hr3, ho3, hg3⟩ := app_ly (P := Tryz.prog) w2 w.heap.size 26 26 37 i0 _ 2 16 Tryz.underlying26 hi0 hz0 hz1 hz2 rfl (by decide) v2 n1 (recs ptC l1) ho2 A2 n2 c2 (recs ptC l2) (by rw [recs_lenCatP, HL.out.2]) (HY.out.2.below HB2.out) (HONE.out l2) (by unfold maxLen; omega) (by omega) (by omega)
  have HB3 := Lib.hid (HB2.out.grown hg3 (by omega) (fun g e => (ho2.lt g e).1))
  have HO3 := Lib.hid (show w3.ownsRow w.heap.size 37 2 v3 (n1 + n2) (recs ptC (l1 ++ l2)) from by rw [show recs ptC (l1 ++ l2) = recs ptC l1 ++ recs ptC l2 by simp [recs]]; exact ho3)
  clear ho1 hb1 ho2 hg2 ho3 hg3 hal hlo1
  go_wp2_with (fail)
  refine wp_loop_rounds 3 ?_
  rw [rounds_succ]
  go_wp2_with (at_builtin; refine Lib.wpList_append_run _ rfl _ _ _ _ rfl _ _ rfl rfl _ _ hr2 ?_)
  rw [rounds_succ]
  go_wp2_with (at_builtin; refine Lib.wpList_append_run _ rfl _ _ _ _ rfl _ _ rfl rfl _ _ hr3 ?_)
  rw [rounds_succ]
  go_wp2_with (fail)
  go_ret
  exact ⟨_, rfl, HO3.out, HB3.out⟩
end Go.Proofs.YthplhibdapjjgaaGreatDoor

/- slices.Compact of fixes that rise: nothing is done. -/
namespace Go.Proofs.YthplhibdapjjgaaGreatDoor
open Go.RowKit

/-- No two fixes are of one moment. -/
def NoTwF (l : List Fx) : Prop := ∀ (i j : Nat) x y, i ≠ j → l[i]? = some x → l[j]? = some y → x.1 ≠ y.1
theorem NoTwF.perm {l m : List Fx} (h : l.Pairwise (fun x y => x.1 < y.1)) (hp : m.Perm l) : NoTwF m := by
  have h1 : l.Pairwise (fun x y => x.1 ≠ y.1) := h.imp (fun h => by omega)
  have h2 : m.Pairwise (fun x y => x.1 ≠ y.1) := hp.symm.pairwise h1 (fun h e => h e.symm)
  intro i j x y hij hx hy
  obtain ⟨a1, a2⟩ := List.getElem?_eq_some_iff.1 hx
  obtain ⟨b1, b2⟩ := List.getElem?_eq_some_iff.1 hy
  rw [List.pairwise_iff_getElem] at h2
  rcases Nat.lt_or_gt_of_ne hij with h | h
  · have := h2 i j a1 b1 h
    rw [a2, b2] at this
    exact this
  · have := h2 j i b1 a1 h
    rw [a2, b2] at this
    exact fun e => this e.symm
set_option maxRecDepth 100000 in
set_option maxHeartbeats 2000000 in
theorem compactF_no (l : List Fx) (n c : Nat) (A : Option Addr) (w : World) (hn : l.length = n) (hn5 : n ≤ 5000) (hl : NoTwF l) (hr : Row w w.heap.size A (recs fxC l)) :
    Calls Tryz.prog 38 #[.slice A n c] w fun e w' => e = .returned (.slice A n c) ∧ Below w.heap.size w w' := by
  have HR := Lib.hid hr
  have HL := Lib.hid hl
  clear hr hl
  by_cases h2 : n < 2
  · have h2I : (n : Int) < 2 := by omega
    go_enter Tryz.func38, Tryz.ntmps38
    go_wp2_with (fail)
    go_ret
    exact ⟨rfl, Below.refl _ _⟩
  have h2I : ¬ (n : Int) < 2 := by omega
  go_enter Tryz.func38, Tryz.ntmps38
  go_wp2_with (fail)
  go_loopw [3] (fun i wr => ∃ k : Nat, 1 ≤ k ∧ k ≤ n ∧ i = .int .i64 k ∧ Below w.heap.size w wr) (fun i _ => n - (intOf i).toNat)
  case atStart => exact ⟨1, Nat.le_refl _, by omega, rfl, Below.refl _ _⟩
  case round =>
    obtain ⟨k, hk1, hk, rfl, hbl⟩ := hrel
    have HBL := Lib.hid hbl
    by_cases hlt : k < n
    · obtain ⟨b, o, rfl, hb, hc⟩ := Row.posR fxC_len (by omega) HR.out (by omega)
      obtain ⟨j, rfl⟩ : ∃ j, k = j + 1 := ⟨k - 1, by omega⟩
      obtain ⟨x, hx⟩ : ∃ x, l[j + 1]? = some x := ⟨_, List.getElem?_eq_getElem (by omega)⟩
      obtain ⟨y, hy⟩ : ∃ y, l[j]? = some y := ⟨_, List.getElem?_eq_getElem (by omega)⟩
      obtain ⟨c0, c1, c2, c3, c4⟩ := fix_cells (hc.keep (hbl.block b hb)) (j + 1) x hx
      obtain ⟨d0, d1, d2, d3, d4⟩ := fix_cells (hc.keep (hbl.block b hb)) j y hy
      have hne := HL.out (j + 1) j x y (by omega) hx hy
      obtain ⟨x0, x1, x2, x3⟩ := x
      obtain ⟨y0, y1, y2, y3⟩ := y
      simp only at c1 c2 c3 c4 d1 d2 d3 d4 hne
      have h1b : (x0 == y0) = false := by simpa using hne
      have hlt' : ((j + 1 : Nat) : Int) < (n : Int) := by omega
      have hw : IntKind.i64.wrap (j : Int) = (j : Int) := by rw [IntKind.wrap_i64]; omega
      have hjn : (j : Int) < (n : Int) := by omega
      have hjn' : j < n := by omega
      clear hbl hc hx hy hne
      go_wp2_with (fail)
      go_quiet (fail)
      go_wp2_with (fail)
      go_roundw
      case rel => exact ⟨j + 1 + 1, by omega, by omega, by go_num, below_drewN HBL.out _⟩
      case measure => simp [intOf]; omega
    · have hlt' : ¬ (k : Int) < (n : Int) := by omega
      clear hbl
      go_wp2_with (fail)
      go_ret
      exact ⟨rfl, HBL.out⟩
end Go.Proofs.YthplhibdapjjgaaGreatDoor

/- slices.Grow of nil, slices.Concat of two rows of api.Fix. -/
namespace Go.Proofs.YthplhibdapjjgaaGreatDoor
open Go.RowKit

theorem Tryz.infoCatF : (Tryz.prog.info? 42).map (fun i => (i.zero, i.size, i.bytes)) = some (some (.agg #[.string ⟨#[]⟩, .int .i64 0, .int .i64 0, .int .i64 0, .int .i64 0]), 5, 48) := by kernel_rfl
theorem recs_lenCatF (l : List Fx) : (recs fxC l).length = l.length * 5 := by
  induction l with
  | nil => rfl
  | cons x l ih => simp only [recs, List.flatMap_cons, List.length_append, List.length_cons] at ih ⊢; rw [ih]; simp [fxC]; omega
set_option maxRecDepth 100000 in
set_option maxHeartbeats 2000000 in
theorem growCatF_any (n : Nat) (w : World) (hn : n ≤ 100000) : Calls Tryz.prog 70 #[.slice none 0 0, .int .i64 (n : Int)] w fun e w' => ∃ v, e = .returned v ∧ w'.ownsRow w.heap.size 42 5 v 0 [] ∧ Below w.heap.size w w' := by
  obtain ⟨i0, hi0, hz0, hz1, hz2⟩ := info_parts Tryz.infoCatF
  rcases Nat.eq_zero_or_pos n with h0 | h0
  · subst h0
    go_enter Tryz.func70, Tryz.ntmps70
    go_wp2_with (fail)
    go_ret
    exact ⟨_, rfl, World.ownsRow_nil _ _ _ _, Below.refl _ _⟩
  · have hrz : ∀ ty, (Builtin.append_ #[30, 3] ty #[.slice none 0 0, .int .i64 (n : Int)]).run Tryz.prog w =
        .ok (.slice (some ⟨w.heap.size, 0, none⟩) n (grownCap w n 0 42)) (w.drew.alloc (.cells (#[] ++ Builtin.zeroCells (Value.agg #[.string ⟨#[]⟩, .int .i64 0, .int .i64 0, .int .i64 0, .int .i64 0]).cells n ++ Builtin.zeroCells (Value.agg #[.string ⟨#[]⟩, .int .i64 0, .int .i64 0, .int .i64 0, .int .i64 0]).cells (grownCap w n 0 42 - n)) 42)) := fun ty => by
      have h := Lib.run_append_grow_zeros w 30 3 ty 42 i0 _ .i64 .i64 Tryz.underlying30 Tryz.underlying3 hi0 hz0 none 0 0 [] (run_firstCells_none w.drew i0.size 0 0 0) n h0 (by omega) (by omega) (by omega) (by rw [hz2]; omega) (by rw [Nat.zero_add]; exact growslice_fits (by omega) (by rw [hz2]; omega))
      simpa using h
    have hGn : n ≤ grownCap w n 0 42 := grownCap_ge w _ _ _
    have hGm : grownCap w n 0 42 ≤ maxLen := grownCap_le_maxLen w n 0 42 (by unfold maxLen; omega)
    obtain ⟨G, hG⟩ : ∃ G, G = grownCap w n 0 42 := ⟨_, rfl⟩
    rw [← hG] at hrz hGn hGm
    obtain ⟨C, hC⟩ : ∃ C, C = #[] ++ Builtin.zeroCells (Value.agg #[.string ⟨#[]⟩, .int .i64 0, .int .i64 0, .int .i64 0, .int .i64 0]).cells n ++ Builtin.zeroCells (Value.agg #[.string ⟨#[]⟩, .int .i64 0, .int .i64 0, .int .i64 0, .int .i64 0]).cells (G - n) := ⟨_, rfl⟩
    rw [← hC] at hrz
    have HOW := Lib.hid (show (w.alloc (.cells C 42)).drew.ownsRow w.heap.size 42 5 (.slice (some ⟨w.heap.size, 0, none⟩) 0 G) 0 [] from by
      refine ⟨rfl, .inr ⟨w.heap.size, G, _, rfl, Nat.le_refl _, heap_new w _, Nat.zero_le _, hGm, ?_, by simp⟩⟩
      rw [hC]
      simp only [Array.size_append, size_zeroCells]
      simp [Value.cells]
      omega)
    have hG63 : G ≤ 9223372036854775807 := by unfold maxLen at hGm; omega
    have hn1 : (0 : Int) < (n : Int) := by omega
    clear hG hi0 hz0 hC
    go_enter Tryz.func70, Tryz.ntmps70
    go_wp2_with (at_builtin; refine Lib.wpList_append_run _ rfl _ _ _ _ rfl _ _ rfl rfl _ _ (hrz _) ?_)
    go_ret
    exact ⟨_, rfl, HOW.out, ((Below.refl _ _).alloc (Nat.le_refl _) _).drew⟩

set_option maxRecDepth 100000 in
set_option maxHeartbeats 4000000 in
theorem catCatF_any (l1 l2 : List Fx) (n1 n2 c1 c2 b : Nat) (A1 A2 : Option Addr) (w : World) (h1 : l1.length = n1) (h2 : l2.length = n2) (hn1 : n1 ≤ 1000) (hn2 : n2 ≤ 1000) (k0 : w.cell? ⟨b, 0, none⟩ = some (.slice A1 n1 c1)) (k1 : w.cell? ⟨b, 1, none⟩ = some (.slice A2 n2 c2)) (hy1 : Ly w A1 n1 c1 (recs fxC l1)) (hy2 : Ly w A2 n2 c2 (recs fxC l2)) :
    Calls Tryz.prog 35 #[.slice (some ⟨b, 0, none⟩) 2 2] w fun e w' => ∃ v, e = .returned v ∧ w'.ownsRow w.heap.size 42 5 v (n1 + n2) (recs fxC (l1 ++ l2)) ∧ Below w.heap.size w w' := by
  obtain ⟨i0, hi0, hz0, hz1, hz2⟩ := info_parts Tryz.infoCatF
  have hb := World.block_lt_of_cell? w _ k0
  simp only at hb
  have HY := Lib.hid (And.intro hy1 hy2)
  have HL := Lib.hid (And.intro h1 h2)
  have hone : ∀ l : List Fx, ∀ u ∈ recs fxC l, u.oneCell' = true := by
    intro l u hu
    simp only [recs, List.mem_flatMap] at hu
    obtain ⟨x, _, hx⟩ := hu
    exact fxC_one x u hx
  have HONE := Lib.hid hone
  have hw1 : IntKind.i64.wrap ((n1 : Int) + (n2 : Int)) = (n1 : Int) + (n2 : Int) := by rw [IntKind.wrap_i64]; omega
  have hneg : ¬ ((n1 : Int) + (n2 : Int) < 0) := by omega
  have hneg1 : ¬ ((n1 : Int) < 0) := by omega
  have K := Lib.hid (And.intro k0 k1)
  clear hy1 hy2 h1 h2 hone
  go_enter Tryz.func35, Tryz.ntmps35
  go_wp2_with (fail)
  refine wp_loop_rounds 3 ?_
  rw [rounds_succ]
  go_wp2_with (fail)
  rw [rounds_succ]
  go_wp2_with (fail)
  rw [rounds_succ]
  go_wp2_with (fail)
  rw [show (n1 : Int) + (n2 : Int) = ((n1 + n2 : Nat) : Int) by omega]
  refine (growCatF_any (n1 + n2) w (by omega)).mono ?_
  rintro e w1 ⟨v1, rfl, ho1, hb1⟩
  have hs1 := hb1.size
  have q0 := (hb1.cell (p := ⟨b, 0, none⟩) hb).trans K.out.1
  have q1 := (hb1.cell (p := ⟨b, 1, none⟩) hb).trans K.out.2
  have hbw : b < w1.heap.size := by omega
  have HO1 := Lib.hid ho1
  have HB1 := Lib.hid hb1
  have hal : ∀ l A n c, Ly w A n c (recs fxC l) → ∀ b o, A = some ⟨b, o, none⟩ → b < w.heap.size := by
    intro l A n c h b o e
    rcases h with ⟨rfl, _⟩ | ⟨b', o', e', hlt, _⟩
    · cases e
    · rw [e'] at e; injection e with e; injection e with e1; omega
  obtain ⟨v2, w2, hr2, ho2, hg2⟩ := app_ly (P := Tryz.prog) w1 w.heap.size 30 30 42 i0 _ 5 48 Tryz.underlying30 hi0 hz0 hz1 hz2 rfl (by decide) v1 0 [] ho1 A1 n1 c1 (recs fxC l1) (by rw [recs_lenCatF, HL.out.1]) (HY.out.1.below hb1) (HONE.out l1) (by unfold maxLen; omega) (by omega) hs1
  rw [Nat.zero_add, List.nil_append] at ho2
  have hs2 := hg2.size
  have hlo1 : ∀ g, v1.ownBlock = some g → w.heap.size ≤ g := fun g e => (ho1.lt g e).1
  have HB2 := Lib.hid (hb1.grown hg2 hs1 hlo1)
  have p1 := (HB2.out.cell (p := ⟨b, 1, none⟩) hb).trans K.out.2
  have hbw2 : b < w2.heap.size := by omega
  obtain ⟨v3, w3, hr3, ho3, hg3⟩ := app_ly (P := Tryz.prog) w2 w.heap.size 30 30 42 i0 _ 5 48 Tryz.underlying30 hi0 hz0 hz1 hz2 rfl (by decide) v2 n1 (recs fxC l1) ho2 A2 n2 c2 (recs fxC l2) (by rw [recs_lenCatF, HL.out.2]) (HY.out.2.below HB2.out) (HONE.out l2) (by unfold maxLen; omega) (by omega) (by omega)
  have HB3 := Lib.hid (HB2.out.grown hg3 (by omega) (fun g e => (ho2.lt g e).1))
  have HO3 := Lib.hid (show w3.ownsRow w.heap.size 42 5 v3 (n1 + n2) (recs fxC (l1 ++ l2)) from by rw [show recs fxC (l1 ++ l2) = recs fxC l1 ++ recs fxC l2 by simp [recs]]; exact ho3)
  clear ho1 hb1 ho2 hg2 ho3 hg3 hal hlo1
  go_wp2_with (fail)
  refine wp_loop_rounds 3 ?_
  rw [rounds_succ]
  go_wp2_with (at_builtin; refine Lib.wpList_append_run _ rfl _ _ _ _ rfl _ _ rfl rfl _ _ hr2 ?_)
  rw [rounds_succ]
  go_wp2_with (at_builtin; refine Lib.wpList_append_run _ rfl _ _ _ _ rfl _ _ rfl rfl _ _ hr3 ?_)
  rw [rounds_succ]
  go_wp2_with (fail)
  go_ret
  exact ⟨_, rfl, HO3.out, HB3.out⟩
end Go.Proofs.YthplhibdapjjgaaGreatDoor

/- slices.Equal of equal rows of api.Spot. Printed by gen_EqR.py. -/
namespace Go.Proofs.YthplhibdapjjgaaGreatDoor
open Go.RowKit

set_option maxRecDepth 100000 in
set_option maxHeartbeats 2000000 in
theorem eqEqP_any (l : List Pt) (n c c' : Nat) (A A' : Option Addr) (w : World) (hn : l.length = n) (hn2 : n ≤ 1000000) (hr : Row w w.heap.size A (recs ptC l)) (hr' : Row w w.heap.size A' (recs ptC l)) :
    Calls Tryz.prog 14 #[.slice A n c, .slice A' n c'] w fun e w' => e = .returned (.bool true) ∧ Below w.heap.size w w' := by
  have HR := Lib.hid hr
  have HR' := Lib.hid hr'
  have HN := Lib.hid hn
  clear hr hr' hn
  go_enter Tryz.func14, Tryz.ntmps14
  go_wp2_with (fail)
  go_loopw [13] (fun i wr => ∃ k : Nat, k ≤ n ∧ i = .int .i64 k ∧ Below w.heap.size w wr) (fun i _ => n - (intOf i).toNat)
  case atStart => exact ⟨0, Nat.zero_le _, rfl, Below.refl _ _⟩
  case round =>
    obtain ⟨k, hk, rfl, hbl⟩ := hrel
    by_cases hlt : k < n
    · have hkl : k < l.length := by have := HN.out; omega
      obtain ⟨b, o, rfl, hb, hc⟩ := (HR.out).posR ptC_len (by omega) (by omega)
      obtain ⟨b', o', rfl, hb', hc'⟩ := (HR'.out).posR ptC_len (by omega) (by omega)
      obtain ⟨x, hx⟩ : ∃ x, l[k]? = some x := ⟨_, List.getElem?_eq_getElem hkl⟩
      have hc2 := hc.keep (hbl.block b hb)
      have hc3 := hc'.keep (hbl.block b' hb')
      have c0 := rec_cell ptC_len hc2 k x hx 0 _ rfl
      simp only [Nat.add_zero] at c0
      have c1 := rec_cell ptC_len hc2 k x hx 1 _ rfl
      have d0 := rec_cell ptC_len hc3 k x hx 0 _ rfl
      simp only [Nat.add_zero] at d0
      have d1 := rec_cell ptC_len hc3 k x hx 1 _ rfl
      have HBL := Lib.hid hbl
      have hlt' : (k : Int) < (n : Int) := by omega
      clear hbl hx hkl hc hc' hc2 hc3
      go_wp2_with (fail)
      go_quiet (fail)
      go_wp2_with (fail)
      go_roundw
      case rel => exact ⟨k + 1, by omega, by go_num, below_drewN HBL.out _⟩
      case measure => simp [intOf]; omega
    · have HBL := Lib.hid hbl
      clear hbl
      go_wp2_with (fail)
      go_ret
      exact ⟨rfl, HBL.out⟩
end Go.Proofs.YthplhibdapjjgaaGreatDoor

/- slices.Equal of equal rows of api.Fix. Printed by gen_EqR.py. -/
namespace Go.Proofs.YthplhibdapjjgaaGreatDoor
open Go.RowKit

set_option maxRecDepth 100000 in
set_option maxHeartbeats 2000000 in
theorem eqEqF_any (l : List Fx) (n c c' : Nat) (A A' : Option Addr) (w : World) (hn : l.length = n) (hn2 : n ≤ 1000000) (hr : Row w w.heap.size A (recs fxC l)) (hr' : Row w w.heap.size A' (recs fxC l)) :
    Calls Tryz.prog 15 #[.slice A n c, .slice A' n c'] w fun e w' => e = .returned (.bool true) ∧ Below w.heap.size w w' := by
  have HR := Lib.hid hr
  have HR' := Lib.hid hr'
  have HN := Lib.hid hn
  clear hr hr' hn
  go_enter Tryz.func15, Tryz.ntmps15
  go_wp2_with (fail)
  go_loopw [13] (fun i wr => ∃ k : Nat, k ≤ n ∧ i = .int .i64 k ∧ Below w.heap.size w wr) (fun i _ => n - (intOf i).toNat)
  case atStart => exact ⟨0, Nat.zero_le _, rfl, Below.refl _ _⟩
  case round =>
    obtain ⟨k, hk, rfl, hbl⟩ := hrel
    by_cases hlt : k < n
    · have hkl : k < l.length := by have := HN.out; omega
      obtain ⟨b, o, rfl, hb, hc⟩ := (HR.out).posR fxC_len (by omega) (by omega)
      obtain ⟨b', o', rfl, hb', hc'⟩ := (HR'.out).posR fxC_len (by omega) (by omega)
      obtain ⟨x, hx⟩ : ∃ x, l[k]? = some x := ⟨_, List.getElem?_eq_getElem hkl⟩
      have hc2 := hc.keep (hbl.block b hb)
      have hc3 := hc'.keep (hbl.block b' hb')
      have c0 := rec_cell fxC_len hc2 k x hx 0 _ rfl
      simp only [Nat.add_zero] at c0
      have c1 := rec_cell fxC_len hc2 k x hx 1 _ rfl
      have c2 := rec_cell fxC_len hc2 k x hx 2 _ rfl
      have c3 := rec_cell fxC_len hc2 k x hx 3 _ rfl
      have c4 := rec_cell fxC_len hc2 k x hx 4 _ rfl
      have d0 := rec_cell fxC_len hc3 k x hx 0 _ rfl
      simp only [Nat.add_zero] at d0
      have d1 := rec_cell fxC_len hc3 k x hx 1 _ rfl
      have d2 := rec_cell fxC_len hc3 k x hx 2 _ rfl
      have d3 := rec_cell fxC_len hc3 k x hx 3 _ rfl
      have d4 := rec_cell fxC_len hc3 k x hx 4 _ rfl
      have HBL := Lib.hid hbl
      have hlt' : (k : Int) < (n : Int) := by omega
      clear hbl hx hkl hc hc' hc2 hc3
      go_wp2_with (fail)
      go_quiet (fail)
      go_wp2_with (fail)
      go_roundw
      case rel => exact ⟨k + 1, by omega, by go_num, below_drewN HBL.out _⟩
      case measure => simp [intOf]; omega
    · have HBL := Lib.hid hbl
      clear hbl
      go_wp2_with (fail)
      go_ret
      exact ⟨rfl, HBL.out⟩
end Go.Proofs.YthplhibdapjjgaaGreatDoor
