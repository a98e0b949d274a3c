/- base.Down, series.area, slices.Index and Contains of measurements: by contracts. -/
import Derived.Test.YtaglkaphlekmoaaGreatDoorSlc
import Derived.Test.YtaglkaphlekmoaaGreatDoorSer1
import Derived.Lib.SliceRun
namespace Go.Proofs.YtaglkaphlekmoaaGreatDoor
open Go.RowKit

theorem down_any (a b : Int) (w : World) (hb : 1 ≤ b) (hb2 : b ≤ 1000000) (ha : -1000000000000 ≤ a) (ha2 : a ≤ 1000000000000) : Calls Tryz.prog 96 #[.int .i64 a, .int .i64 b] w fun e w' => e = .returned (.int .i64 (a / b)) ∧ w = w' := by
  have hb0 : ¬ b = 0 := by omega
  have ht := tmod_cases a b hb
  have hd : a = b * a.tdiv b + a.tmod b := (Int.mul_tdiv_add_tmod a b).symm
  have he : a = b * (a / b) + a % b := (Int.mul_ediv_add_emod a b).symm
  have hq1 := Int.emod_nonneg a hb0
  have hq2 := Int.emod_lt_of_pos a (show 0 < b by omega)
  obtain ⟨q, hq⟩ : ∃ q, q = a.tdiv b := ⟨_, rfl⟩
  obtain ⟨r, hr⟩ : ∃ r, r = a.tmod b := ⟨_, rfl⟩
  obtain ⟨Q, hQ⟩ : ∃ Q, Q = a / b := ⟨_, rfl⟩
  rw [← hr] at ht hd
  rw [← hq] at hd
  rw [← hQ] at he ⊢
  have hrb : r < b := by rw [hr]; exact Int.tmod_lt_of_pos a (by omega)
  have hqb : -1000000000000 ≤ q ∧ q ≤ 1000000000000 := by
    rw [hq]
    have h1 := Int.natAbs_tdiv_le_natAbs a b
    omega
  have H0 : Hid ((a.tmod b < 0 → Q = q - 1) ∧ (0 ≤ a.tmod b → Q = q)) := by
    rw [← hr]
    refine Lib.hid ⟨fun h => ?_, fun h => ?_⟩
    · have h1 := (ht.1 h).1
      have : b * Q = b * (q - 1) := by rw [Int.mul_sub, Int.mul_one]; omega
      exact Int.eq_of_mul_eq_mul_left hb0 this
    · have h1 := ht.2 h
      have : b * Q = b * q := by omega
      exact Int.eq_of_mul_eq_mul_left hb0 this
  have hw1 : IntKind.i64.wrap (a.tdiv b) = q := by rw [← hq, IntKind.wrap_i64]; omega
  have hw3 : IntKind.i64.wrap (q - 1) = q - 1 := by rw [IntKind.wrap_i64]; omega
  clear ht hd he hq1 hq2 hq hr hQ hrb
  go_enter Tryz.func96, Tryz.ntmps96
  go_wp2
  · go_ret
    exact ⟨ret_int (H0.out.1 (by assumption)).symm, rfl⟩
  · go_ret
    exact ⟨ret_int (H0.out.2 (by assumption)).symm, rfl⟩

theorem prod_small (x y : Int) (h1 : -20000 ≤ x) (h2 : x ≤ 20000) (h3 : -3000 ≤ y) (h4 : y ≤ 3000) : -60000000 ≤ x * y ∧ x * y ≤ 60000000 := by
  have a := Int.mul_le_mul (a := x + 20000) (b := y + 3000) (c := 40000) (d := 6000) (by omega) (by omega) (by omega) (by omega)
  have b := Int.mul_le_mul (a := 20000 - x) (b := y + 3000) (c := 40000) (d := 6000) (by omega) (by omega) (by omega) (by omega)
  have c := Int.mul_nonneg (a := x + 20000) (b := y + 3000) (by omega) (by omega)
  have d := Int.mul_nonneg (a := 20000 - x) (b := y + 3000) (by omega) (by omega)
  have e := Int.mul_nonneg (a := x + 20000) (b := 3000 - y) (by omega) (by omega)
  have f := Int.mul_nonneg (a := 20000 - x) (b := 3000 - y) (by omega) (by omega)
  simp only [Int.add_mul, Int.sub_mul, Int.mul_add, Int.mul_sub] at a b c d e f
  omega

set_option maxHeartbeats 1000000 in
theorem area_any (p1 q1 p2 q2 p3 q3 : ByteArray) (aa av ba bv ca cv : Int) (w : World) (a1 : 0 ≤ aa) (a2 : aa ≤ 20000) (a3 : -1000 ≤ av) (a4 : av ≤ 1000) (b1 : 0 ≤ ba) (b2 : ba ≤ 20000) (b3 : -1000 ≤ bv) (b4 : bv ≤ 1000) (c1 : 0 ≤ ca) (c2 : ca ≤ 20000) (c3 : -1000 ≤ cv) (c4 : cv ≤ 1000) :
    Calls Tryz.prog 64 #[.agg #[.string p1, .string q1, .int .i64 aa, .int .i64 av], .agg #[.string p2, .string q2, .int .i64 ba, .int .i64 bv], .agg #[.string p3, .string q3, .int .i64 ca, .int .i64 cv]] w fun e w' => (∃ r : Int, 0 ≤ r ∧ e = .returned (.int .i64 r)) ∧ Below w.heap.size w w' := by
  have P1 := prod_small (ba - aa) (cv - av) (by omega) (by omega) (by omega) (by omega)
  have P2 := prod_small (ca - aa) (bv - av) (by omega) (by omega) (by omega) (by omega)
  obtain ⟨x, ex⟩ : ∃ x, x = (ba - aa) * (cv - av) := ⟨_, rfl⟩
  obtain ⟨y, ey⟩ : ∃ y, y = (ca - aa) * (bv - av) := ⟨_, rfl⟩
  rw [← ex] at P1
  rw [← ey] at P2
  have h1 : IntKind.i64.wrap ((ba - aa) * (cv - av)) = x := by rw [← ex, IntKind.wrap_i64]; omega
  have h2 : IntKind.i64.wrap ((ca - aa) * (bv - av)) = y := by rw [← ey, IntKind.wrap_i64]; omega
  have h3 : IntKind.i64.wrap (x - y) = x - y := by rw [IntKind.wrap_i64]; omega
  have h4 : IntKind.i64.wrap (-(x - y)) = -(x - y) := by rw [IntKind.wrap_i64]; omega
  clear ex ey
  go_enter Tryz.func64, Tryz.ntmps64
  go_wp2
  all_goals
    go_ret
    exact ⟨⟨_, by omega, rfl⟩, (((Below.refl _ _).alloc (Nat.le_refl _) _).alloc (by simp) _).alloc (by simp; omega) _⟩

/-- Where a measurement stands in a series, it is found. -/
theorem index_some (l : List Smp) (n c b o : Nat) (x : Smp) (w : World) (hn : l.length = n) (hn5 : n ≤ 5000) (hx : x ∈ l) (hb : b < w.heap.size) (hc : Cells w b o (cellsOf l)) :
    Calls Tryz.prog 65 #[.slice (some ⟨b, o, none⟩) n c, smpV x] w fun e w' => (∃ r : Int, 0 ≤ r ∧ e = .returned (.int .i64 r)) ∧ Below w.heap.size w w' := by
  have HC := Lib.hid hc
  have HX := Lib.hid hx
  clear hc hx
  obtain ⟨xa, xv⟩ := x
  unfold smpV
  have hnew := heap_new w (.cells #[.string ⟨#[100]⟩, .string ⟨#[109]⟩, .int .i64 xa, .int .i64 xv] 53)
  have HNEW := Lib.hid hnew
  clear hnew
  go_enter Tryz.func65, Tryz.ntmps65
  go_wp2_with (fail)
  go_loopw [8] (fun i wr => ∃ k : Nat, k ≤ n ∧ i = .int .i64 k ∧ (∀ y ∈ l.take k, y ≠ (xa, xv)) ∧ wr.heap[w.heap.size]? = some (.cells #[.string ⟨#[100]⟩, .string ⟨#[109]⟩, .int .i64 xa, .int .i64 xv] 53) ∧ Below w.heap.size w wr) (fun i _ => n - (intOf i).toNat)
  case atStart => exact ⟨0, Nat.zero_le _, rfl, by simp, HNEW.out, (Below.refl _ _).alloc (Nat.le_refl _) _⟩
  case round =>
    obtain ⟨k, hk, rfl, hno, hq, hbl⟩ := hrel
    have hsz := hbl.size
    by_cases hlt : k < n
    · obtain ⟨y, hy⟩ : ∃ y, l[k]? = some y := ⟨_, List.getElem?_eq_getElem (by omega)⟩
      have hcr : Cells wr b o (cellsOf l) := HC.out.keep (hbl.block b hb)
      obtain ⟨c0, c1, c2, c3⟩ := smp_cells hcr k y hy
      have q0 := cell_of_blk (j := 0) hq rfl
      have q1 := cell_of_blk (j := 1) hq rfl
      have q2 := cell_of_blk (j := 2) hq rfl
      have q3 := cell_of_blk (j := 3) hq rfl
      have HTK := Lib.hid (show l.take (k + 1) = l.take k ++ [y] by rw [List.take_add_one, hy]; rfl)
      have HNO := Lib.hid hno
      have HBL := Lib.hid hbl
      have HQ := Lib.hid hq
      obtain ⟨ya, yv⟩ := y
      simp only at c2 c3
      have hlt' : (k : Int) < (n : Int) := by omega
      have hk0 : (0 : Int) ≤ (k : Int) := by omega
      clear hbl hcr hy hno hq
      by_cases h1 : xa = ya
      · subst h1
        by_cases h2 : xv = yv
        · subst h2
          go_wp2_with (fail)
          go_quiet (fail)
          go_wp2_with (fail)
          go_ret
          exact ⟨⟨k, by omega, rfl⟩, below_drewN HBL.out _⟩
        · have h2b : (xv == yv) = false := by simpa using h2
          go_wp2_with (fail)
          go_quiet (fail)
          go_wp2_with (fail)
          go_roundw
          case rel =>
            refine ⟨k + 1, by omega, by go_num, ?_, HQ.out, below_drewN HBL.out _⟩
            rw [HTK.out]
            intro z hz
            rcases List.mem_append.1 hz with hz | hz
            · exact HNO.out z hz
            · rw [List.mem_singleton] at hz; subst hz; intro e; injection e with _ e; exact h2 e.symm
          case measure => simp [intOf]; omega
      · have h1b : (xa == ya) = false := by simpa using h1
        go_wp2_with (fail)
        go_quiet (fail)
        go_wp2_with (fail)
        go_roundw
        case rel =>
          refine ⟨k + 1, by omega, by go_num, ?_, HQ.out, below_drewN HBL.out _⟩
          rw [HTK.out]
          intro z hz
          rcases List.mem_append.1 hz with hz | hz
          · exact HNO.out z hz
          · rw [List.mem_singleton] at hz; subst hz; intro e; injection e with e _; exact h1 e.symm
        case measure => simp [intOf]; omega
    · exfalso
      have : l.take k = l := List.take_of_length_le (by omega)
      rw [this] at hno
      exact hno _ HX.out rfl

theorem contains_some (l : List Smp) (n c b o : Nat) (x : Smp) (w : World) (hn : l.length = n) (hn5 : n ≤ 5000) (hx : x ∈ l) (hb : b < w.heap.size) (hc : Cells w b o (cellsOf l)) :
    Calls Tryz.prog 25 #[.slice (some ⟨b, o, none⟩) n c, smpV x] w fun e w' => e = .returned (.bool true) ∧ Below w.heap.size w w' := by
  have H := Lib.hid (index_some l n c b o x (w.alloc (.cells #[.string ⟨#[100]⟩, .string ⟨#[109]⟩, .int .i64 x.1, .int .i64 x.2] 53)) hn hn5 hx (by simp; omega) (hc.alloc hb _))
  obtain ⟨xa, xv⟩ := x
  clear hc hx
  unfold smpV at H ⊢
  simp only at H
  go_enter Tryz.func25, Tryz.ntmps25
  go_wp2_with (fail)
  refine H.out.mono ?_
  rintro e w' ⟨⟨r, hr, rfl⟩, hbw⟩
  have HB := Lib.hid (((Below.refl w.heap.size w).alloc (Nat.le_refl _) (.cells #[.string ⟨#[100]⟩, .string ⟨#[109]⟩, .int .i64 xa, .int .i64 xv] 53)).trans (hbw.mono (by simp)))
  have hd : decide (0 ≤ r) = true := by simpa using hr
  clear hbw
  go_wp2_with (fail)
  go_ret
  exact ⟨by first | rfl | (simp; omega), HB.out⟩
end Go.Proofs.YtaglkaphlekmoaaGreatDoor
