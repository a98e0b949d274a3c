/- slices.Grow of nil, slices.Concat of two slices of windows. -/
import Derived.Test.YtbimiojoihfnkaaGreatDoorWin
import Derived.Lib.AppendZerosOnto
import Derived.Lib.Walk
namespace Go.Proofs.YtbimiojoihfnkaaGreatDoor
open Go.RowKit

theorem run_append_empty {P : Program} (w : World) (t ty e : TypeId) (i : TypeInfo) (ht : P.underlying t = some (.slice e)) (hi : P.info? e = some i) (base : Option Addr) (l c : Nat) (hlc : l ≤ c) :
    (Builtin.append_ #[t, t] ty #[.slice base l c, .slice none 0 0]).run P w = .ok (.slice base l c) w := by
  cases base <;> simp [Builtin.append_, run_underlying ht, sizeOf, typeInfo, hi, Builtin.lenOf, Builtin.firstCells, loadCells, hlc, storeCells]

set_option maxRecDepth 100000 in
set_option maxHeartbeats 2000000 in
theorem growW_any (n : Nat) (w : World) (hn : n ≤ 100000) : Calls Tryz.prog 82 #[.slice none 0 0, .int .i64 (n : Int)] w fun e w' => ∃ v, e = .returned v ∧ w'.ownsRow w.heap.size 58 2 v 0 [] ∧ Below w.heap.size w w' := by
  obtain ⟨i0, hi0, hz0, hz1, hz2⟩ := info_parts Tryz.infoWin
  rcases Nat.eq_zero_or_pos n with h0 | h0
  · subst h0
    go_enter Tryz.func82, Tryz.ntmps82
    go_wp2_with (fail)
    go_ret
    exact ⟨_, rfl, World.ownsRow_nil _ _ _ _, Below.refl _ _⟩
  · have hrz : ∀ ty, (Builtin.append_ #[63, 3] ty #[.slice none 0 0, .int .i64 (n : Int)]).run Tryz.prog w =
        .ok (.slice (some ⟨w.heap.size, 0, none⟩) n (grownCap w n 0 58)) (w.drew.alloc (.cells (#[] ++ Builtin.zeroCells (Value.agg #[.int .i64 0, .int .i64 0]).cells n ++ Builtin.zeroCells (Value.agg #[.int .i64 0, .int .i64 0]).cells (grownCap w n 0 58 - n)) 58)) := fun ty => by
      have h := Lib.run_append_grow_zeros w 63 3 ty 58 i0 _ .i64 .i64 Tryz.underlying63 Tryz.underlying3 hi0 hz0 none 0 0 [] (run_firstCells_none w.drew i0.size 0 0 0) n h0 (by omega) (by omega) (by omega) (by rw [hz2]; omega) (by rw [Nat.zero_add]; exact growslice_fits (by omega) (by rw [hz2]; omega))
      simpa using h
    have hGn : n ≤ grownCap w n 0 58 := grownCap_ge w _ _ _
    have hGm : grownCap w n 0 58 ≤ maxLen := grownCap_le_maxLen w n 0 58 (by unfold maxLen; omega)
    obtain ⟨G, hG⟩ : ∃ G, G = grownCap w n 0 58 := ⟨_, rfl⟩
    rw [← hG] at hrz hGn hGm
    obtain ⟨C, hC⟩ : ∃ C, C = #[] ++ Builtin.zeroCells (Value.agg #[.int .i64 0, .int .i64 0]).cells n ++ Builtin.zeroCells (Value.agg #[.int .i64 0, .int .i64 0]).cells (G - n) := ⟨_, rfl⟩
    rw [← hC] at hrz
    have HOW := Lib.hid (show (w.alloc (.cells C 58)).drew.ownsRow w.heap.size 58 2 (.slice (some ⟨w.heap.size, 0, none⟩) 0 G) 0 [] from by
      refine ⟨rfl, .inr ⟨w.heap.size, G, _, rfl, Nat.le_refl _, heap_new w _, Nat.zero_le _, hGm, ?_, by simp⟩⟩
      rw [hC]
      simp only [Array.size_append, size_zeroCells]
      simp [Value.cells]
      omega)
    have hG63 : G ≤ 9223372036854775807 := by unfold maxLen at hGm; omega
    have hn1 : (0 : Int) < (n : Int) := by omega
    clear hG hi0 hz0 hC
    go_enter Tryz.func82, Tryz.ntmps82
    go_wp2_with (at_builtin; refine Lib.wpList_append_run _ rfl _ _ _ _ rfl _ _ rfl rfl _ _ (hrz _) ?_)
    go_ret
    exact ⟨_, rfl, HOW.out, ((Below.refl _ _).alloc (Nat.le_refl _) _).drew⟩

/-- A slice lies in memory: nil, or in a block that is there. -/
def Ly (w : World) (A : Option Addr) (n c : Nat) (xs : List Value) : Prop := (A = none ∧ n = 0 ∧ c = 0 ∧ xs = []) ∨ ∃ b o, A = some ⟨b, o, none⟩ ∧ b < w.heap.size ∧ Cells w b o xs
theorem Ly.below {w w' : World} {A : Option Addr} {n c : Nat} {xs : List Value} (h : Ly w A n c xs) (hb : Below w.heap.size w w') : Ly w' A n c xs := by
  rcases h with h | ⟨b, o, e, hlt, hc⟩
  · exact .inl h
  · exact .inr ⟨b, o, e, by have := hb.size; omega, hc.keep (hb.block b hlt)⟩
theorem Ly.row {w w' : World} {A : Option Addr} {n c base : Nat} {xs : List Value} {row : Option Nat} (h : Ly w A n c xs) (hg : w.grownBy w' row) (hr : ∀ g, row = some g → base ≤ g) (hb : ∀ b o, A = some ⟨b, o, none⟩ → b < base) : Ly w' A n c xs := by
  rcases h with h | ⟨b, o, e, hlt, hc⟩
  · exact .inl h
  · have hbb := hb b o e
    exact .inr ⟨b, o, e, by have := hg.size; omega, hc.keep (hg.block b hlt (fun e => by have := hr b e.symm; omega))⟩
theorem own_ly {w : World} {base : Nat} {e : TypeId} {size n : Nat} {A : Option Addr} {c : Nat} {xs : List Value} (h : w.ownsRow base e size (.slice A n c) n xs) : Ly w A n c xs := by
  rcases h.2 with ⟨hv, hn⟩ | ⟨g, cap, cur, hv, _, hh, _, _, _, ht⟩
  · injection hv with h1 h2 h3
    exact .inl ⟨h1, hn, h3, List.eq_nil_of_length_eq_zero (by rw [h.1, hn]; simp)⟩
  · rcases own_row h with hx | ⟨b, o, e, hb, hc⟩
    · injection hv with h1 h2 h3
      subst hx
      exact .inr ⟨g, 0, h1, (Array.getElem?_eq_some_iff.1 hh).1, fun j v hv => by simp at hv⟩
    · exact .inr ⟨b, o, e, hb, hc⟩
theorem app_ly {P : Program} (w : World) (base : Nat) (t ty e : TypeId) (i : TypeInfo) (z : Value) (size bytes : Nat) (ht : P.underlying t = some (.slice e)) (hi : P.info? e = some i) (hz : i.zero = some z) (hsize : i.size = size) (hby : i.bytes = bytes) (hzs : z.cells.size = size) (hsz : 0 < size)
    (v : Value) (n : Nat) (xs : List Value) (hown : w.ownsRow base e size v n xs) (A : Option Addr) (m c : Nat) (news : List Value) (hl : news.length = m * size) (hly : Ly w A m c news) (h1 : ∀ u ∈ news, u.oneCell' = true)
    (h63 : n + m ≤ maxLen) (hbytes : (n + m) * bytes ≤ 140737488355328) (hbase : base ≤ w.heap.size) :
    ∃ v' w', (Builtin.append_ #[t, t] ty #[v, .slice A m c]).run P w = .ok v' w' ∧ w'.ownsRow base e size v' (n + m) (xs ++ news) ∧ w.grownBy w' v.ownBlock := by
  rcases hly with ⟨rfl, rfl, rfl, rfl⟩ | ⟨b, o, rfl, hb, hc⟩
  · obtain ⟨A0, c0, rfl⟩ := own_slice hown
    have hcap : n ≤ c0 := by
      rcases hown.2 with ⟨hv, hn⟩ | ⟨g, cap, cur, hv, _, _, hc, _⟩
      · omega
      · injection hv with _ _ hc'; omega
    exact ⟨_, _, run_append_empty w t ty e i ht hi A0 n c0 hcap, by simpa using hown, grown_refl _ _⟩
  · obtain ⟨v', w', h2, h3, h4, _⟩ := run_append_own (P := P) w base t ty e i z size bytes ht hi hz hsize hby hzs hsz v n xs hown ⟨b, o, none⟩ m c news hl (fun j u hu => by rw [Addr.add_lit]; exact hc j u hu) h1 h63 hbytes hbase
    exact ⟨v', w', h2, h3, h4⟩

set_option maxRecDepth 100000 in
set_option maxHeartbeats 4000000 in
theorem catW_any (l1 l2 : List (Int × Int)) (n1 n2 c1 c2 b : Nat) (A1 A2 : Option Addr) (w : World) (h1 : l1.length = n1) (h2 : l2.length = n2) (hn1 : n1 ≤ 1000) (hn2 : n2 ≤ 1000) (k0 : w.cell? ⟨b, 0, none⟩ = some (.slice A1 n1 c1)) (k1 : w.cell? ⟨b, 1, none⟩ = some (.slice A2 n2 c2)) (hy1 : Ly w A1 n1 c1 (wCells l1)) (hy2 : Ly w A2 n2 c2 (wCells l2)) :
    Calls Tryz.prog 23 #[.slice (some ⟨b, 0, none⟩) 2 2] w fun e w' => ∃ v, e = .returned v ∧ w'.ownsRow w.heap.size 58 2 v (n1 + n2) (wCells (l1 ++ l2)) ∧ Below w.heap.size w w' := by
  obtain ⟨i0, hi0, hz0, hz1, hz2⟩ := info_parts Tryz.infoWin
  have hb := World.block_lt_of_cell? w _ k0
  simp only at hb
  have HY := Lib.hid (And.intro hy1 hy2)
  have HL := Lib.hid (And.intro h1 h2)
  have hone : ∀ l : List (Int × Int), ∀ u ∈ wCells l, u.oneCell' = true := by
    intro l u hu
    simp only [wCells, List.mem_flatMap] at hu
    obtain ⟨x, _, hx⟩ := hu
    exact winC_one x u hx
  have HONE := Lib.hid hone
  have hw1 : IntKind.i64.wrap ((n1 : Int) + (n2 : Int)) = (n1 : Int) + (n2 : Int) := by rw [IntKind.wrap_i64]; omega
  have hneg : ¬ ((n1 : Int) + (n2 : Int) < 0) := by omega
  have hneg1 : ¬ ((n1 : Int) < 0) := by omega
  have K := Lib.hid (And.intro k0 k1)
  clear hy1 hy2 h1 h2 hone
  go_enter Tryz.func23, Tryz.ntmps23
  go_wp2_with (fail)
  refine wp_loop_rounds 3 ?_
  rw [rounds_succ]
  go_wp2_with (fail)
  rw [rounds_succ]
  go_wp2_with (fail)
  rw [rounds_succ]
  go_wp2_with (fail)
  rw [show (n1 : Int) + (n2 : Int) = ((n1 + n2 : Nat) : Int) by omega]
  refine (growW_any (n1 + n2) w (by omega)).mono ?_
  rintro e w1 ⟨v1, rfl, ho1, hb1⟩
  have hs1 := hb1.size
  have q0 := (hb1.cell (p := ⟨b, 0, none⟩) hb).trans K.out.1
  have q1 := (hb1.cell (p := ⟨b, 1, none⟩) hb).trans K.out.2
  have hbw : b < w1.heap.size := by omega
  have HO1 := Lib.hid ho1
  have HB1 := Lib.hid hb1
  have hal : ∀ l A n c, Ly w A n c (wCells l) → ∀ b o, A = some ⟨b, o, none⟩ → b < w.heap.size := by
    intro l A n c h b o e
    rcases h with ⟨rfl, _⟩ | ⟨b', o', e', hlt, _⟩
    · cases e
    · rw [e'] at e; injection e with e; injection e with e1; omega
  obtain ⟨v2, w2, hr2, ho2, hg2⟩ := app_ly (P := Tryz.prog) w1 w.heap.size 63 63 58 i0 _ 2 16 Tryz.underlying63 hi0 hz0 hz1 hz2 rfl (by decide) v1 0 [] ho1 A1 n1 c1 (wCells l1) (by rw [wCells_length, HL.out.1]) (HY.out.1.below hb1) (HONE.out l1) (by unfold maxLen; omega) (by omega) hs1
  rw [Nat.zero_add, List.nil_append] at ho2
  have hs2 := hg2.size
  have hlo1 : ∀ g, v1.ownBlock = some g → w.heap.size ≤ g := fun g e => (ho1.lt g e).1
  have HB2 := Lib.hid (hb1.grown hg2 hs1 hlo1)
  have p1 := (HB2.out.cell (p := ⟨b, 1, none⟩) hb).trans K.out.2
  have hbw2 : b < w2.heap.size := by omega
  obtain ⟨v3, w3, hr3, ho3, hg3⟩ := app_ly (P := Tryz.prog) w2 w.heap.size 63 63 58 i0 _ 2 16 Tryz.underlying63 hi0 hz0 hz1 hz2 rfl (by decide) v2 n1 (wCells l1) ho2 A2 n2 c2 (wCells l2) (by rw [wCells_length, HL.out.2]) (HY.out.2.below HB2.out) (HONE.out l2) (by unfold maxLen; omega) (by omega) (by omega)
  have HB3 := Lib.hid (HB2.out.grown hg3 (by omega) (fun g e => (ho2.lt g e).1))
  have HO3 := Lib.hid (show w3.ownsRow w.heap.size 58 2 v3 (n1 + n2) (wCells (l1 ++ l2)) from by rw [show wCells (l1 ++ l2) = wCells l1 ++ wCells l2 by simp [wCells]]; exact ho3)
  clear ho1 hb1 ho2 hg2 ho3 hg3 hal hlo1
  go_wp2_with (fail)
  refine wp_loop_rounds 3 ?_
  rw [rounds_succ]
  go_wp2_with (at_builtin; refine Lib.wpList_append_run _ rfl _ _ _ _ rfl _ _ rfl rfl _ _ hr2 ?_)
  rw [rounds_succ]
  go_wp2_with (at_builtin; refine Lib.wpList_append_run _ rfl _ _ _ _ rfl _ _ rfl rfl _ _ hr3 ?_)
  rw [rounds_succ]
  go_wp2_with (fail)
  go_ret
  exact ⟨_, rfl, HO3.out, HB3.out⟩
end Go.Proofs.YtbimiojoihfnkaaGreatDoor
