/- spoil of rows of api.Bucket: it writes into its own row alone. Printed by gen_GnX.py. -/
import Derived.Test.YtnmgfnnkcenfeaaGreatDoorDel
import Derived.Test.YtnmgfnnkcenfeaaGreatDoorTsG
namespace Go.Proofs.YtnmgfnnkcenfeaaGreatDoor
open Go.RowKit

set_option maxRecDepth 100000 in
set_option maxHeartbeats 2000000 in
theorem spoilBk_any (l : List Value) (n B : Nat) (v : Value) (w : World) (hn : l.length = n * 8) (hn2 : n ≤ 5000) (ho : w.ownsRow B 46 8 v n l) :
    Calls Tryz.prog 12 #[v] w fun e w' => e = .returned (.tuple #[]) ∧ w.grownBy w' v.ownBlock := by
  obtain ⟨A, c, rfl⟩ := own_slice ho
  have HOB := Lib.hid (fun q hq => (ho.lt q hq).2)
  have HO := Lib.hid ho
  have HN := Lib.hid hn
  clear ho hn
  go_enter Tryz.func12, Tryz.ntmps12
  obtain ⟨gz, egz⟩ : ∃ g, g = w.heap.size := ⟨_, rfl⟩
  obtain ⟨w0, e0⟩ : ∃ V : World, V = w.alloc (.cells #[.int .i64 0, .int .i64 0, .int .i64 0, .int .i64 0, .int .i64 0, .int .i64 0, .int .i64 0, .int .i64 0] 46) := ⟨_, rfl⟩
  have hz0 : w0.heap[gz]? = some (.cells #[.int .i64 0, .int .i64 0, .int .i64 0, .int .i64 0, .int .i64 0, .int .i64 0, .int .i64 0, .int .i64 0] 46 (0, 0)) := by rw [e0, egz]; exact heap_new w _
  have hb0 : Below w.heap.size w w0 := by rw [e0]; exact (Below.refl _ _).alloc (Nat.le_refl _) _
  have H0 := Lib.hid (show ∃ l' : List Value, l'.length = n * 8 ∧ w0.ownsRow B 46 8 (.slice A n c) n l' ∧ w0.heap[gz]? = some (.cells #[.int .i64 0, .int .i64 0, .int .i64 0, .int .i64 0, .int .i64 0, .int .i64 0, .int .i64 0, .int .i64 0] 46 (0, 0)) ∧ w.grownBy w0 (Value.slice A n c).ownBlock from
    ⟨l, HN.out, own_below HO.out hb0, hz0, bel_grown hb0 _⟩)
  have hgz : w.heap.size ≤ gz := by omega
  clear hz0 hb0
  go_upto_region 2 with (fail)
  rw [← egz, ← e0]
  clear e0 egz
  go_loopw [6] (fun i wr => ∃ j : Nat, j ≤ n ∧ i = .int .i64 (j : Int) ∧ Hid (∃ l' : List Value, l'.length = n * 8 ∧ wr.ownsRow B 46 8 (.slice A n c) n l' ∧ wr.heap[gz]? = some (.cells #[.int .i64 0, .int .i64 0, .int .i64 0, .int .i64 0, .int .i64 0, .int .i64 0, .int .i64 0, .int .i64 0] 46 (0, 0)) ∧ w.grownBy wr (Value.slice A n c).ownBlock)) (fun i _ => n - (intOf i).toNat)
  case atStart => exact ⟨0, Nat.zero_le _, rfl, H0⟩
  case round =>
    obtain ⟨j, hj, rfl, HR⟩ := hrel
    obtain ⟨wa, rfl⟩ : ∃ wy : World, wy = wr := ⟨_, rfl⟩
    obtain ⟨l', hl', hoa, hza, hga⟩ := HR.out
    by_cases hlt : j < n
    · have hltI : (j : Int) < (n : Int) := by omega
      obtain ⟨h1, h2, h3⟩ | ⟨g, rfl, hg1, hg2⟩ := own_two hoa
      · omega
      have hcl := own_cells0 hoa
      obtain ⟨x0, hx0⟩ : ∃ x, l'[j * 8]? = some x := ⟨_, List.getElem?_eq_getElem (by omega)⟩
      have c0 := hcl _ _ hx0
      simp only [Nat.zero_add] at c0
      have f0 : wa.frozen? ⟨g, j * 8, none⟩ = false := hoa.frozenAt _
      have z0 := cell_of_blk (j := 0) hza rfl
      clear hx0
      obtain ⟨x1, hx1⟩ : ∃ x, l'[j * 8 + 1]? = some x := ⟨_, List.getElem?_eq_getElem (by omega)⟩
      have c1 := hcl _ _ hx1
      simp only [Nat.zero_add] at c1
      have f1 : wa.frozen? ⟨g, j * 8 + 1, none⟩ = false := hoa.frozenAt _
      have z1 := cell_of_blk (j := 1) hza rfl
      clear hx1
      obtain ⟨x2, hx2⟩ : ∃ x, l'[j * 8 + 2]? = some x := ⟨_, List.getElem?_eq_getElem (by omega)⟩
      have c2 := hcl _ _ hx2
      simp only [Nat.zero_add] at c2
      have f2 : wa.frozen? ⟨g, j * 8 + 2, none⟩ = false := hoa.frozenAt _
      have z2 := cell_of_blk (j := 2) hza rfl
      clear hx2
      obtain ⟨x3, hx3⟩ : ∃ x, l'[j * 8 + 3]? = some x := ⟨_, List.getElem?_eq_getElem (by omega)⟩
      have c3 := hcl _ _ hx3
      simp only [Nat.zero_add] at c3
      have f3 : wa.frozen? ⟨g, j * 8 + 3, none⟩ = false := hoa.frozenAt _
      have z3 := cell_of_blk (j := 3) hza rfl
      clear hx3
      obtain ⟨x4, hx4⟩ : ∃ x, l'[j * 8 + 4]? = some x := ⟨_, List.getElem?_eq_getElem (by omega)⟩
      have c4 := hcl _ _ hx4
      simp only [Nat.zero_add] at c4
      have f4 : wa.frozen? ⟨g, j * 8 + 4, none⟩ = false := hoa.frozenAt _
      have z4 := cell_of_blk (j := 4) hza rfl
      clear hx4
      obtain ⟨x5, hx5⟩ : ∃ x, l'[j * 8 + 5]? = some x := ⟨_, List.getElem?_eq_getElem (by omega)⟩
      have c5 := hcl _ _ hx5
      simp only [Nat.zero_add] at c5
      have f5 : wa.frozen? ⟨g, j * 8 + 5, none⟩ = false := hoa.frozenAt _
      have z5 := cell_of_blk (j := 5) hza rfl
      clear hx5
      obtain ⟨x6, hx6⟩ : ∃ x, l'[j * 8 + 6]? = some x := ⟨_, List.getElem?_eq_getElem (by omega)⟩
      have c6 := hcl _ _ hx6
      simp only [Nat.zero_add] at c6
      have f6 : wa.frozen? ⟨g, j * 8 + 6, none⟩ = false := hoa.frozenAt _
      have z6 := cell_of_blk (j := 6) hza rfl
      clear hx6
      obtain ⟨x7, hx7⟩ : ∃ x, l'[j * 8 + 7]? = some x := ⟨_, List.getElem?_eq_getElem (by omega)⟩
      have c7 := hcl _ _ hx7
      simp only [Nat.zero_add] at c7
      have f7 : wa.frozen? ⟨g, j * 8 + 7, none⟩ = false := hoa.frozenAt _
      have z7 := cell_of_blk (j := 7) hza rfl
      clear hx7
      have hzl := (Array.getElem?_eq_some_iff.1 hza).1
      have hgne : ¬ gz = g := fun e => by have := HOB.out g rfl; omega
      obtain ⟨w1, e1⟩ : ∃ V : World, V = (((((((wa.setCell ⟨g, j * 8, none⟩ (.int .i64 0)).setCell ⟨g, j * 8 + 1, none⟩ (.int .i64 0)).setCell ⟨g, j * 8 + 2, none⟩ (.int .i64 0)).setCell ⟨g, j * 8 + 3, none⟩ (.int .i64 0)).setCell ⟨g, j * 8 + 4, none⟩ (.int .i64 0)).setCell ⟨g, j * 8 + 5, none⟩ (.int .i64 0)).setCell ⟨g, j * 8 + 6, none⟩ (.int .i64 0)).setCell ⟨g, j * 8 + 7, none⟩ (.int .i64 0) := ⟨_, rfl⟩
      have HS := Lib.hid (show ∃ l2 : List Value, l2.length = n * 8 ∧ w1.ownsRow B 46 8 (.slice (some ⟨g, 0, none⟩) n c) n l2 ∧ w1.heap[gz]? = some (.cells #[.int .i64 0, .int .i64 0, .int .i64 0, .int .i64 0, .int .i64 0, .int .i64 0, .int .i64 0, .int .i64 0] 46 (0, 0)) ∧ w.grownBy w1 (Value.slice (some ⟨g, 0, none⟩) n c).ownBlock from by
        obtain ⟨s1, s2⟩ := own_setCells [.int .i64 0, .int .i64 0, .int .i64 0, .int .i64 0, .int .i64 0, .int .i64 0, .int .i64 0, .int .i64 0] (j * 8) wa l' hoa (by show j * 8 + 8 ≤ _; omega)
        have e2 : wa.setCells g (j * 8) [.int .i64 0, .int .i64 0, .int .i64 0, .int .i64 0, .int .i64 0, .int .i64 0, .int .i64 0, .int .i64 0] = w1 := by rw [e1]; rfl
        rw [e2] at s1 s2
        exact ⟨_, by simp only [List.length_append, List.length_take, List.length_drop, List.length_cons, List.length_nil]; omega, s1, (s2.block gz hzl (fun e => by injection e with e; exact hgne e)).trans hza, grown_trans hga s2⟩)
      clear hoa hza hga hcl
      go_wp2_with (fail)
      rw [← e1]
      clear e1
      go_roundw
      case rel => exact ⟨j + 1, by omega, by go_num, HS⟩
      case measure => simp [intOf]; omega
    · have hltI : ¬ (j : Int) < (n : Int) := by omega
      have HG := Lib.hid hga
      clear hoa hza hga
      go_wp2_with (fail)
      go_end0
      exact ⟨rfl, HG.out⟩
end Go.Proofs.YtnmgfnnkcenfeaaGreatDoor
