/- CheckSeries, fault, in: each by its contract. -/
import Derived.Test.YtbimiojoihfnkaaGreatDoorSer2
namespace Go.Proofs.YtbimiojoihfnkaaGreatDoor
open Go.RowKit

set_option maxRecDepth 100000 in
set_option maxHeartbeats 1000000 in
theorem checkSeries1_any (x y : Smp) (l : List Smp) (n c b o q : Nat) (w : World) (hn : 0 < n) (hq : w.cell? ⟨q, 0, none⟩ = some (.slice (some ⟨b, o, none⟩) n c)) (hl : l[0]? = some y) (hc : Cells w b o (cellsOf l)) :
    Calls Tryz.prog 181 #[smpV x, .pointer (some ⟨q, 0, none⟩)] w fun e w' => e = .returned (.bool false) ∧ Below w.heap.size w w' := by
  obtain ⟨a, v⟩ := x
  obtain ⟨c0, c1, _, _⟩ := smp_cells hc 0 y hl
  simp only [Nat.zero_mul, Nat.add_zero] at c0 c1
  have hb := World.block_lt_of_cell? w _ c0
  have hq' := World.block_lt_of_cell? w _ hq
  have hn' : (0 : Int) < (n : Int) := by omega
  unfold smpV
  clear hc hl
  simp only at hb hq'
  go_enter Tryz.func181, Tryz.ntmps181
  go_wp2_with (fail)
  go_quiet (fail)
  go_wp2_with (fail)
  go_ret
  exact ⟨rfl, below_drewN ((Below.refl _ _).alloc (Nat.le_refl _) _) _⟩

set_option maxRecDepth 100000 in
set_option maxHeartbeats 1000000 in
/-- slices.IndexFunc with a function that says no everywhere. -/
theorem indexFunc_no (g : Nat) (cb : Array Value) (l : List Smp) (n c b o : Nat) (w : World) (hn : l.length = n) (hn5 : n ≤ 5000) (hb : b < w.heap.size) (hc : Cells w b o (cellsOf l)) (hg : g = 181)
    (hp : ∀ (k : Nat) (x : Smp) (w' : World), l[k]? = some x → Below w.heap.size w w' → Calls Tryz.prog g (#[smpV x] ++ cb) w' fun e w'' => e = .returned (.bool false) ∧ Below w'.heap.size w' w'') :
    Calls Tryz.prog 229 #[.slice (some ⟨b, o, none⟩) n c, .func (.func g) #[] cb] w fun e w' => e = .returned (.int .i64 (-1)) ∧ Below w.heap.size w w' := by
  have HC := Lib.hid hc
  have HP := Lib.hid hp
  clear hc hp
  subst hg
  go_enter Tryz.func229, Tryz.ntmps229
  go_wp2_with (fail)
  go_loopw [8] (fun i wr => ∃ k : Nat, k ≤ n ∧ i = .int .i64 k ∧ Below w.heap.size w wr) (fun i _ => n - (intOf i).toNat)
  case atStart => exact ⟨0, Nat.zero_le _, rfl, Below.refl _ _⟩
  case round =>
    obtain ⟨k, hk, rfl, hbl⟩ := hrel
    have hsz := hbl.size
    by_cases hlt : k < n
    · obtain ⟨x, hx⟩ : ∃ x, l[k]? = some x := ⟨_, List.getElem?_eq_getElem (by omega)⟩
      have hcr : Cells wr b o (cellsOf l) := HC.out.keep (hbl.block b hb)
      obtain ⟨c0, c1, c2, c3⟩ := smp_cells hcr k x hx
      have HBL := Lib.hid hbl
      have HCALL := Lib.hid (HP.out k x wr hx hbl)
      obtain ⟨a, v⟩ := x
      simp only at c2 c3
      clear hbl hcr hx
      go_wp2_with (fail)
      refine HCALL.out.mono ?_
      rintro e w' ⟨rfl, hbw⟩
      have HB3 := Lib.hid (show Below w.heap.size w w' from (HBL.out).trans (hbw.mono hsz))
      clear hbw
      go_wp2_with (fail)
      go_roundw
      case rel => exact ⟨k + 1, by omega, by go_num, HB3.out⟩
      case measure => simp [intOf]; omega
    · have HBL := Lib.hid hbl
      clear hbl
      go_wp2_with (fail)
      go_ret
      exact ⟨rfl, HBL.out⟩

theorem check_empty (A : Option Addr) (c : Nat) (w : World) : Calls Tryz.prog 110 #[.slice A 0 c] w fun e w' => e = .returned (.int .i64 0) ∧ Below w.heap.size w w' := by
  go_enter Tryz.func110, Tryz.ntmps110
  go_wp2_with (fail)
  refine wp_loop_rounds 1 ?_
  rw [rounds_succ]
  go_wp2_with (fail)
  go_ret
  exact ⟨rfl, Below.refl _ _⟩

theorem indexFunc_empty (f : Value) (A : Option Addr) (c : Nat) (w : World) : Calls Tryz.prog 229 #[.slice A 0 c, f] w fun e w' => e = .returned (.int .i64 (-1)) ∧ Below w.heap.size w w' := by
  go_enter Tryz.func229, Tryz.ntmps229
  go_wp2_with (fail)
  refine wp_loop_rounds 1 ?_
  rw [rounds_succ]
  go_wp2_with (fail)
  go_ret
  exact ⟨rfl, Below.refl _ _⟩

theorem Row.pos {w : World} {B : Nat} {A : Option Addr} {l : List Smp} (h : Row w B A (cellsOf l)) (hl : 0 < l.length) : ∃ b o, A = some ⟨b, o, none⟩ ∧ b < B ∧ Cells w b o (cellsOf l) := by
  rcases h with h | h
  · have := cellsOf_length l; rw [h] at this; simp at this; omega
  · exact h

/-- Check, of a series that is right. -/
theorem check_any (l : List Smp) (n c : Nat) (A : Option Addr) (w : World) (hn : l.length = n) (hg : GoodS l) (hr : Row w w.heap.size A (cellsOf l)) :
    Calls Tryz.prog 110 #[.slice A n c] w fun e w' => e = .returned (.int .i64 0) ∧ Below w.heap.size w w' := by
  rcases Nat.eq_zero_or_pos n with h0 | h0
  · rw [h0]; exact check_empty A c w
  · obtain ⟨b, o, rfl, hb, hc⟩ := hr.pos (by omega)
    exact check_some l n c b o w hn hg hb hc

/-- The closure of CheckSeries over a list. -/
def chk1 (q : Nat) : Value := .func (.func 181) #[] #[.pointer (some ⟨q, 0, none⟩)]

theorem indexFunc_chk1 (l : List Smp) (n c q : Nat) (A : Option Addr) (w : World) (hn : l.length = n) (hn5 : n ≤ 5000) (hr : Row w w.heap.size A (cellsOf l)) (hq : w.cell? ⟨q, 0, none⟩ = some (.slice A n c)) :
    Calls Tryz.prog 229 #[.slice A n c, chk1 q] w fun e w' => e = .returned (.int .i64 (-1)) ∧ Below w.heap.size w w' := by
  rcases Nat.eq_zero_or_pos n with h0 | h0
  · rw [h0]; exact indexFunc_empty _ A c w
  · obtain ⟨b, o, rfl, hb, hc⟩ := hr.pos (by omega)
    have hqb := World.block_lt_of_cell? w _ hq
    refine indexFunc_no 181 _ l n c b o w hn hn5 hb hc rfl ?_
    intro k x w' hx hbw
    obtain ⟨y, hy⟩ : ∃ y, l[0]? = some y := ⟨_, List.getElem?_eq_getElem (by omega)⟩
    exact checkSeries1_any x y l n c b o q w' h0 ((hbw.cell (p := ⟨q, 0, none⟩) hqb).trans hq) hy (hc.keep (hbw.block b hb))

theorem containsFunc_chk1 (l : List Smp) (n c q : Nat) (A : Option Addr) (w : World) (hn : l.length = n) (hn5 : n ≤ 5000) (hr : Row w w.heap.size A (cellsOf l)) (hq : w.cell? ⟨q, 0, none⟩ = some (.slice A n c)) :
    Calls Tryz.prog 180 #[.slice A n c, chk1 q] w fun e w' => e = .returned (.bool false) ∧ Below w.heap.size w w' := by
  have H := Lib.hid (indexFunc_chk1 l n c q A w hn hn5 hr hq)
  clear hr hq
  unfold chk1 at H ⊢
  go_enter Tryz.func180, Tryz.ntmps180
  go_wp2_with (fail)
  refine H.out.mono ?_
  rintro e w' ⟨rfl, hbw⟩
  have HB := Lib.hid hbw
  clear hbw
  go_wp2_with (fail)
  go_ret
  exact ⟨rfl, HB.out⟩

set_option maxRecDepth 100000 in
set_option maxHeartbeats 1000000 in
theorem checkSeries_any (l : List Smp) (n c : Nat) (A : Option Addr) (w : World) (hn : l.length = n) (hg : GoodS l) (hr : Row w w.heap.size A (cellsOf l)) :
    Calls Tryz.prog 105 #[.slice A n c] w fun e w' => e = .returned (.int .i64 0) ∧ Below w.heap.size w w' := by
  have hn5 : n ≤ 5000 := by have := hg.len; omega
  have HR := Lib.hid hr
  have HG := Lib.hid hg
  have HN := Lib.hid hn
  clear hr hg hn
  go_enter Tryz.func105, Tryz.ntmps105
  go_wp2_with (fail)
  refine (check_any l n c A _ HN.out HG.out ((HR.out.keep fun b hb => Below.heap_alloc _ _ b hb).mono (by simp))).mono ?_
  rintro e w1 ⟨rfl, hb1⟩
  have hs1 := hb1.size
  simp only [World.size_alloc] at hs1
  have hqc := (hb1.cell (p := ⟨w.heap.size, 0, none⟩) (by simp)).trans (cell_of_blk (heap_new w (.cells #[.slice A n c] 53)) rfl)
  have HB1 := Lib.hid (show Below w.heap.size w w1 from ((Below.refl _ _).alloc (Nat.le_refl _) _).trans (hb1.mono (by simp)))
  clear hb1
  go_wp2_with (fail)
  refine (containsFunc_chk1 l n c w.heap.size A w1 HN.out hn5 ((HR.out.below HB1.out).mono (by omega)) hqc).mono ?_
  rintro e w2 ⟨rfl, hb2⟩
  have HB2 := Lib.hid (show Below w.heap.size w w2 from HB1.out.trans (hb2.mono (by omega)))
  clear hb2
  go_wp2_with (fail)
  go_ret
  exact ⟨rfl, HB2.out⟩

/-- A window as a value. -/
def winV (a b : Int) : Value := .agg #[.int .i64 a, .int .i64 b]

set_option maxHeartbeats 1000000 in
theorem fault_any (l : List Smp) (n c : Nat) (A : Option Addr) (a b : Int) (w : World) (hn : l.length = n) (hg : GoodS l) (hr : Row w w.heap.size A (cellsOf l)) (h1 : 0 ≤ a) (h2 : a ≤ b) (h3 : b ≤ 345686400000) :
    Calls Tryz.prog 79 #[.slice A n c, winV a b] w fun e w' => e = .returned (.int .i64 0) ∧ Below w.heap.size w w' := by
  have HR := Lib.hid hr
  have HG := Lib.hid hg
  have HN := Lib.hid hn
  clear hr hg hn
  unfold winV
  go_enter Tryz.func79, Tryz.ntmps79
  go_wp2_with (fail)
  refine (checkSeries_any l n c A _ HN.out HG.out ((HR.out.keep fun b hb => Below.heap_alloc _ _ b hb).mono (by simp))).mono ?_
  rintro e w1 ⟨rfl, hb1⟩
  have hs1 := hb1.size
  simp only [World.size_alloc] at hs1
  have hq0 := (hb1.cell (p := ⟨w.heap.size, 0, none⟩) (by simp)).trans (cell_of_blk (heap_new w (.cells #[.int .i64 a, .int .i64 b] 58)) rfl)
  have hq1 := (hb1.cell (p := ⟨w.heap.size, 1, none⟩) (by simp)).trans (cell_of_blk (heap_new w (.cells #[.int .i64 a, .int .i64 b] 58)) rfl)
  have HB1 := Lib.hid (show Below w.heap.size w w1 from ((Below.refl _ _).alloc (Nat.le_refl _) _).trans (hb1.mono (by simp)))
  clear hb1
  go_wp2_with (fail)
  refine (window_yes a b _ h1 h2 h3).mono ?_
  rintro e w2 ⟨rfl, hb2⟩
  have HB2 := Lib.hid (show Below w.heap.size w w2 from HB1.out.trans (hb2.mono (by omega)))
  clear hb2
  go_wp2_with (fail)
  go_ret
  exact ⟨rfl, HB2.out⟩
end Go.Proofs.YtbimiojoihfnkaaGreatDoor
