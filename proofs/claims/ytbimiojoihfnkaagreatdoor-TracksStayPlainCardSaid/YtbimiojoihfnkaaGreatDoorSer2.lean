/- byDevice, Check, in: each by its contract, at series of device d and metric m. -/
import Derived.Test.YtbimiojoihfnkaaGreatDoorBase
namespace Go.Proofs.YtbimiojoihfnkaaGreatDoor
open Go.RowKit

/-- A measurement as a value. -/
def smpV (x : Smp) : Value := .agg #[.string ⟨#[100]⟩, .string ⟨#[109]⟩, .int .i64 x.1, .int .i64 x.2]

set_option maxRecDepth 100000 in
set_option maxHeartbeats 1000000 in
theorem byDevice_any (x y : Smp) (w : World) : Calls Tryz.prog 113 #[smpV x, smpV y] w fun e w' => e = .returned (.int .i64 (cmpI x.1 y.1)) ∧ Below w.heap.size w w' := by
  obtain ⟨a, b⟩ := x
  obtain ⟨c, d⟩ := y
  unfold smpV
  go_enter Tryz.func113, Tryz.ntmps113
  go_wp2_with (fail)
  generalize hW : ((w.alloc (.cells #[.string { data := #[100] }, .string { data := #[109] }, .int .i64 a, .int .i64 b] 56)).alloc (.cells #[.string { data := #[100] }, .string { data := #[109] }, .int .i64 c, .int .i64 d] 56)) = W
  have hB : Below w.heap.size w W := by rw [← hW]; exact ((Below.refl _ _).alloc (Nat.le_refl _) _).alloc (by simp) _
  have hsz : w.heap.size ≤ W.heap.size := hB.size
  have hx : W.heap[w.heap.size]? = some (.cells #[.string { data := #[100] }, .string { data := #[109] }, .int .i64 a, .int .i64 b] 56) := by
    rw [← hW, Below.heap_alloc _ _ _ (by simp)]; exact heap_new w _
  have hy : W.heap[w.heap.size + 1]? = some (.cells #[.string { data := #[100] }, .string { data := #[109] }, .int .i64 c, .int .i64 d] 56) := by
    rw [← hW]; have := heap_new (w.alloc (.cells #[.string { data := #[100] }, .string { data := #[109] }, .int .i64 a, .int .i64 b] 56)) (.cells #[.string { data := #[100] }, .string { data := #[109] }, .int .i64 c, .int .i64 d] 56); simpa using this
  have x0 : W.cell? ⟨w.heap.size, 0, none⟩ = some (.string { data := #[100] }) := cell_of_blk hx rfl
  have x1 : W.cell? ⟨w.heap.size, 1, none⟩ = some (.string { data := #[109] }) := cell_of_blk hx rfl
  have x2 : W.cell? ⟨w.heap.size, 2, none⟩ = some (.int .i64 a) := cell_of_blk hx rfl
  have y0 : W.cell? ⟨w.heap.size + 1, 0, none⟩ = some (.string { data := #[100] }) := cell_of_blk hy rfl
  have y1 : W.cell? ⟨w.heap.size + 1, 1, none⟩ = some (.string { data := #[109] }) := cell_of_blk hy rfl
  have y2 : W.cell? ⟨w.heap.size + 1, 2, none⟩ = some (.int .i64 c) := cell_of_blk hy rfl
  clear hW hx hy
  refine wp_region_still_tail 15 (by kernel_rfl) (by kernel_rfl) ?_
  simp only [List.take_succ_cons, List.take_zero, List.drop_succ_cons, List.drop_zero]
  change wpStill _ _ W.drew _ _ _
  repeat still_step
  still_call (flip_ (scompare_same _ _))
  repeat still_step
  still_call (flip_ (scompare_same _ _))
  repeat still_step
  still_call (flip_ (compare_any _ _ _))
  try refine wpStill_nil ?_
  generalize hr : cmpI a c = r
  have hsz' : W.drew.heap.size = W.heap.size := rfl
  have HR := Lib.hid (show orI [0, 0, r] = r by unfold orI orI orI orI; by_cases h : r = 0 <;> simp [h])
  have HB := Lib.hid (show Below w.heap.size w (W.drew.alloc (.cells #[.int .i64 0, .int .i64 0, .int .i64 r] 3)) from (hB.drew).alloc hsz _)
  go_wp2_with (fail)
  have hcs : Cells (W.alloc (.cells #[.int .i64 0, .int .i64 0, .int .i64 r] 3)).drew W.heap.size 0 ([0, 0, r].map (Value.int .i64)) := Cells.new W #[.int .i64 0, .int .i64 0, .int .i64 r] 3 (0, 0) _ rfl
  refine (or_any [0, 0, r] 3 3 W.heap.size _ rfl (by omega) hcs).mono ?_
  rw [HR.out]
  rintro e w' ⟨rfl, rfl⟩
  go_wp2_with (fail)
  go_ret
  exact ⟨ret_int hr.symm, HB.out⟩

/-- What series.Check takes. -/
structure GoodS (l : List Smp) : Prop where
  len : l.length ≤ 5000
  at_ : ∀ (i : Nat) (x : Smp), l[i]? = some x → 0 ≤ x.1 ∧ x.1 < 345686400000
  val : ∀ (i : Nat) (x : Smp), l[i]? = some x → -1000000000 ≤ x.2 ∧ x.2 ≤ 1000000000
  rise : ∀ (i : Nat) (x y : Smp), l[i]? = some x → l[i + 1]? = some y → x.1 < y.1

theorem cmpI_lt {a b : Int} (h : a < b) : cmpI b a = 1 := by unfold cmpI; rw [if_neg (by omega), if_pos h]

/-- The four cells of element k of a series that lies at ⟨b, o⟩. -/
theorem smp_cells {w : World} {b o : Nat} {l : List Smp} (h : Cells w b o (cellsOf l)) (k : Nat) (x : Smp) (hx : l[k]? = some x) :
    w.cell? ⟨b, o + k * 4, none⟩ = some (.string ⟨#[100]⟩) ∧ w.cell? ⟨b, o + k * 4 + 1, none⟩ = some (.string ⟨#[109]⟩) ∧ w.cell? ⟨b, o + k * 4 + 2, none⟩ = some (.int .i64 x.1) ∧ w.cell? ⟨b, o + k * 4 + 3, none⟩ = some (.int .i64 x.2) := by
  have h0 := h (k * 4 + 0) _ ((cellsOf_get l k x hx 0 (by omega)).trans rfl)
  have h1 := h (k * 4 + 1) _ ((cellsOf_get l k x hx 1 (by omega)).trans rfl)
  have h2 := h (k * 4 + 2) _ ((cellsOf_get l k x hx 2 (by omega)).trans rfl)
  have h3 := h (k * 4 + 3) _ ((cellsOf_get l k x hx 3 (by omega)).trans rfl)
  simp only [Nat.add_zero, ← Nat.add_assoc] at h0 h1 h2 h3
  exact ⟨h0, h1, h2, h3⟩

set_option maxRecDepth 100000 in
set_option maxHeartbeats 2000000 in
theorem check_some (l : List Smp) (n c b o : Nat) (w : World) (hn : l.length = n) (hg : GoodS l) (hb : b < w.heap.size) (hc : Cells w b o (cellsOf l)) :
    Calls Tryz.prog 110 #[.slice (some ⟨b, o, none⟩) n c] w fun e w' => e = .returned (.int .i64 0) ∧ Below w.heap.size w w' := by
  have h5 : n ≤ 5000 := by have := hg.len; omega
  have HC := Lib.hid hc
  clear hc
  go_enter Tryz.func110, Tryz.ntmps110
  go_wp2_with (fail)
  go_loopw [10] (fun i wr => ∃ k : Nat, k ≤ n ∧ i = .int .i64 k ∧ Below w.heap.size w wr) (fun i _ => n - (intOf i).toNat)
  case atStart => exact ⟨0, Nat.zero_le _, rfl, Below.refl _ _⟩
  case round =>
    obtain ⟨k, hk, rfl, hbl⟩ := hrel
    have hsz := hbl.size
    by_cases hlt : k < n
    · obtain ⟨x, hx⟩ : ∃ x, l[k]? = some x := ⟨_, List.getElem?_eq_getElem (by omega)⟩
      have hcr : Cells wr b o (cellsOf l) := HC.out.keep (hbl.block b hb)
      obtain ⟨c0, c1, c2, c3⟩ := smp_cells hcr k x hx
      have hat := hg.at_ k x hx
      have hval := hg.val k x hx
      have HBL := Lib.hid hbl
      have HX := Lib.hid hx
      have HG := Lib.hid hg
      obtain ⟨a, v⟩ := x
      simp only at c2 c3 hat hval
      clear hbl hcr hx hg
      go_wp2_with (first | (go_at_call 107; refine (key_yes _ _ (by kernel_rfl)).mono ?_; rintro e w' ⟨rfl, rfl⟩) | (go_at_call 73; refine (moment_yes _ _ (by omega) (by omega)).mono ?_; rintro e w' ⟨rfl, rfl⟩) | (go_at_call 65; refine (out_no _ _ _ _ (by omega) (by omega)).mono ?_; rintro e w' ⟨rfl, rfl⟩))
      have HB2 := Lib.hid ((HBL.out).alloc hsz (.cells #[.string ⟨#[100]⟩, .string ⟨#[109]⟩, .int .i64 a, .int .i64 v] 56))
      rcases Nat.eq_zero_or_pos k with hk0 | hk0
      · have hd : decide ((0 : Int) < (k : Int)) = false := by simp; omega
        go_quiet (fail)
        go_wp2_with (fail)
        go_roundw
        case rel => exact ⟨k + 1, by omega, by go_num, below_drewN HB2.out _⟩
        case measure => simp [intOf]; omega
      · have hd : decide ((0 : Int) < (k : Int)) = true := by simp; omega
        obtain ⟨j, rfl⟩ : ∃ j, k = j + 1 := ⟨k - 1, by omega⟩
        obtain ⟨y, hy⟩ : ∃ y, l[j]? = some y := ⟨_, List.getElem?_eq_getElem (by omega)⟩
        have hcr : Cells wr b o (cellsOf l) := HC.out.keep (HBL.out.block b hb)
        obtain ⟨d0, d1, d2, d3⟩ := smp_cells hcr j y hy
        have HLT := Lib.hid (HG.out.rise j y (a, v) hy HX.out)
        obtain ⟨a', v'⟩ := y
        simp only at d2 d3
        have hblt : b < wr.heap.size := by omega
        have hw : IntKind.i64.wrap (j : Int) = (j : Int) := by rw [IntKind.wrap_i64]; omega
        have hjn : (j : Int) < (n : Int) := by omega
        have hjn' : j < n := by omega
        clear hcr hy
        refine wp_region_still_tail 9 (by kernel_rfl) (by kernel_rfl) ?_
        simp only [List.take_succ_cons, List.take_zero, List.drop_succ_cons, List.drop_zero]
        change wpStill _ _ (World.drew _) _ _ _
        repeat still_step
        refine wpStill_nil ?_
        have HC1 := Lib.hid (cmpI_lt HLT.out)
        go_wp2_with (fail)
        refine (byDevice_any (a, v) (a', v') _).mono ?_
        rintro e w' ⟨rfl, hbw⟩
        rw [HC1.out]
        have HB3 := Lib.hid (show Below w.heap.size w w' from (Below.drew HB2.out).trans (hbw.mono (by simp; omega)))
        clear hbw
        go_wp2_with (fail)
        go_roundw
        case rel => exact ⟨j + 1 + 1, by omega, by go_num, HB3.out⟩
        case measure => simp [intOf]; omega
    · go_wp2_with (fail)
      go_ret
      exact ⟨rfl, hbl⟩
end Go.Proofs.YtbimiojoihfnkaaGreatDoor
