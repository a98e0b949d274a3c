/- series.CheckBuckets, length and bounded of good buckets. -/
import Derived.Test.YtaglkaphlekmoaaGreatDoorBktD
import Derived.Test.YtaglkaphlekmoaaGreatDoorBase
namespace Go.Proofs.YtaglkaphlekmoaaGreatDoor
open Go.RowKit

/-- A bucket of a grid of length L. -/
structure GoodK (L : Int) (x : Bkt) : Prop where
  f0 : 0 ≤ x.fr
  f1 : x.fr < 345686400000
  to_ : x.to_ = x.fr + L
  md : x.fr.tmod L = 0
  c0 : 1 ≤ x.cnt
  c1 : x.cnt ≤ 5000
  m0 : -1000000000 ≤ x.mn
  m1 : x.mx ≤ 1000000000
  fi0 : x.mn ≤ x.fi
  fi1 : x.fi ≤ x.mx
  la0 : x.mn ≤ x.la
  la1 : x.la ≤ x.mx
  s0 : x.cnt * x.mn ≤ x.sum
  s1 : x.sum ≤ x.cnt * x.mx
structure GoodBs (L : Int) (l : List Bkt) : Prop where
  len : l.length ≤ 5000
  each : ∀ (i : Nat) (x : Bkt), l[i]? = some x → GoodK L x
  rise : ∀ (i : Nat) (x y : Bkt), l[i]? = some x → l[i + 1]? = some y → x.fr < y.fr

theorem bkt_cells {w : World} {b o : Nat} {l : List Bkt} (h : Cells w b o (bCells l)) (k : Nat) (x : Bkt) (hx : l[k]? = some x) (j : Nat) (hj : j < 8) :
    w.cell? ⟨b, o + k * 8 + j, none⟩ = (bktC x)[j]? := by
  obtain ⟨u, hu⟩ : ∃ u, (bktC x)[j]? = some u := ⟨_, List.getElem?_eq_getElem (by simpa [bktC] using hj)⟩
  rw [hu, Nat.add_assoc]
  exact h (k * 8 + j) u ((bCells_get l k x hx j hj).trans hu)
theorem prod_bound (c m : Int) (h1 : 1 ≤ c) (h2 : c ≤ 5000) (h3 : -1000000000 ≤ m) (h4 : m ≤ 1000000000) : IntKind.i64.wrap (c * m) = c * m := by
  have a1 : c * m ≤ c * 1000000000 := Int.mul_le_mul_of_nonneg_left h4 (by omega)
  have a2 : c * -1000000000 ≤ c * m := Int.mul_le_mul_of_nonneg_left h3 (by omega)
  rw [IntKind.wrap_i64]; omega

set_option maxRecDepth 100000 in
set_option maxHeartbeats 4000000 in
theorem checkB_any (l : List Bkt) (n c : Nat) (A : Option Addr) (L : Int) (w : World) (hL : 1 ≤ L) (hL2 : L ≤ 345686400000) (hn : l.length = n) (hg : GoodBs L l) (hr : Row w w.heap.size A (bCells l)) :
    Calls Tryz.prog 35 #[.slice A n c] w fun e w' => e = .returned (.int .i64 0) ∧ Below w.heap.size w w' := by
  have h5 : n ≤ 5000 := by have := hg.len; omega
  have HR := Lib.hid hr
  have HG := Lib.hid hg
  have HN := Lib.hid hn
  clear hr hg hn
  go_enter Tryz.func35, Tryz.ntmps35
  go_wp2_with (fail)
  go_loopw [11] (fun i wr => ∃ k : Nat, k ≤ n ∧ i = .int .i64 k ∧ Below w.heap.size w wr) (fun i _ => n - (intOf i).toNat)
  case atStart => exact ⟨0, Nat.zero_le _, rfl, Below.refl _ _⟩
  case round =>
    obtain ⟨k, hk, rfl, hbl⟩ := hrel
    have hsz := hbl.size
    by_cases hlt : k < n
    · have hkl : k < l.length := by have := HN.out; omega
      obtain ⟨b, o, rfl, hb2, hcs⟩ : ∃ b o, A = some ⟨b, o, none⟩ ∧ b < w.heap.size ∧ Cells w b o (bCells l) := by
        rcases HR.out with h | h
        · have := bCells_length l; rw [h] at this; simp at this; omega
        · exact h
      obtain ⟨x, hx⟩ : ∃ x, l[k]? = some x := ⟨_, List.getElem?_eq_getElem hkl⟩
      obtain ⟨z, hz⟩ : ∃ z, l[0]? = some z := ⟨_, List.getElem?_eq_getElem (by omega)⟩
      have HK := hcs.keep (hbl.block b hb2)
      have C := fun j hj => bkt_cells HK k x hx j hj
      have Z := fun j hj => bkt_cells HK 0 z hz j hj
      obtain ⟨g1, g2, g3, g4, g5, g6, g7, g8, g9, g10, g11, g12, g13, g14⟩ := HG.out.each k x hx
      obtain ⟨_, _, zt, _, _, _, _, _, _, _, _, _, _, _⟩ := HG.out.each 0 z hz
      have HP := Lib.hid (fun (y : Bkt) (j : Nat) (hy : l[j]? = some y) => bkt_cells HK j y hy 0 (by omega))
      have HRS := Lib.hid (fun (y : Bkt) (j : Nat) (hj : j + 1 = k) (hy : l[j]? = some y) => HG.out.rise j y x hy (by rw [hj]; exact hx))
      obtain ⟨fr, to_, cnt, sum, mn, mx, fi, la⟩ := x
      obtain ⟨zfr, zto, zcnt, zsum, zmn, zmx, zfi, zla⟩ := z
      simp only at g1 g2 g3 g4 g5 g6 g7 g8 g9 g10 g11 g12 g13 g14 zt
      subst g3 zt
      have c0 := (C 0 (by omega)).trans rfl
      have c1 := (C 1 (by omega)).trans rfl
      have c2 := (C 2 (by omega)).trans rfl
      have c3 := (C 3 (by omega)).trans rfl
      have c4 := (C 4 (by omega)).trans rfl
      have c5 := (C 5 (by omega)).trans rfl
      have c6 := (C 6 (by omega)).trans rfl
      have c7 := (C 7 (by omega)).trans rfl
      have z0 := (Z 0 (by omega)).trans rfl
      have z1 := (Z 1 (by omega)).trans rfl
      simp only [bktC, List.getElem?_cons_zero, List.getElem?_cons_succ, Nat.add_zero, Nat.zero_mul] at c0 c1 c2 c3 c4 c5 c6 c7 z0 z1
      have HBL := Lib.hid hbl
      have hlt' : (k : Int) < (n : Int) := by omega
      have hblt : b < wr.heap.size := by omega
      clear hbl hx hz HK C Z hkl
      go_wp2_with (fail)
      generalize hX : (wr.alloc (.cells #[.int .i64 fr, .int .i64 (fr + L), .int .i64 cnt, .int .i64 sum, .int .i64 mn, .int .i64 mx, .int .i64 fi, .int .i64 la] 84)).alloc (.cells #[.int .i64 fr, .int .i64 (fr + L)] 47) = X
      have hXs : wr.heap.size + 1 < X.heap.size := by rw [← hX]; simp
      have HBR : Below wr.heap.size wr X := by rw [← hX]; exact ((Below.refl _ _).alloc (Nat.le_refl _) _).alloc (by simp) _
      have hE : X.heap[wr.heap.size]? = some (.cells #[.int .i64 fr, .int .i64 (fr + L), .int .i64 cnt, .int .i64 sum, .int .i64 mn, .int .i64 mx, .int .i64 fi, .int .i64 la] 84) := by
        rw [← hX, Below.heap_alloc _ _ _ (by simp)]; exact heap_new wr _
      have hD : X.heap[wr.heap.size + 1]? = some (.cells #[.int .i64 fr, .int .i64 (fr + L)] 47) := by
        rw [← hX]; exact (by simpa using heap_new (wr.alloc (.cells #[.int .i64 fr, .int .i64 (fr + L), .int .i64 cnt, .int .i64 sum, .int .i64 mn, .int .i64 mx, .int .i64 fi, .int .i64 la] 84)) (.cells #[.int .i64 fr, .int .i64 (fr + L)] 47))
      clear hX c0 c1 c2 c3 c4 c5 c6 c7
      have e1 := cell_of_blk (j := 1) hE rfl
      have e2 := cell_of_blk (j := 2) hE rfl
      have e3 := cell_of_blk (j := 3) hE rfl
      have e4 := cell_of_blk (j := 4) hE rfl
      have e5 := cell_of_blk (j := 5) hE rfl
      have e6 := cell_of_blk (j := 6) hE rfl
      have e7 := cell_of_blk (j := 7) hE rfl
      have d0 := cell_of_blk (j := 0) hD rfl
      have d1 := cell_of_blk (j := 1) hD rfl
      rw [← HBR.cell (p := ⟨b, o, none⟩) hblt] at z0
      rw [← HBR.cell (p := ⟨b, o + 1, none⟩) hblt] at z1
      have HP2 := Lib.hid (fun (y : Bkt) (j : Nat) (hy : l[j]? = some y) => (HBR.cell (p := ⟨b, o + j * 8 + 0, none⟩) hblt).trans (HP.out y j hy))
      have HBX := Lib.hid (HBL.out.trans (HBR.mono hsz))
      clear HBR hE hD HP
      have hw1 : IntKind.i64.wrap ((fr + L) - fr) = L := by rw [IntKind.wrap_i64]; omega
      have hw2 : IntKind.i64.wrap ((zfr + L) - zfr) = L := by rw [IntKind.wrap_i64]; omega
      have hw3 : decide (L = 0) = false := by simp; omega
      have hw4 : decide (L = -1) = false := by simp; omega
      have hL0 : L ≠ 0 := by omega
      have hp1 := prod_bound cnt mn g5 g6 g7 (by omega)
      have hp2 := prod_bound cnt mx g5 g6 (by omega) g8
      obtain ⟨p1, ep1⟩ : ∃ p1, p1 = cnt * mn := ⟨_, rfl⟩
      obtain ⟨p2, ep2⟩ : ∃ p2, p2 = cnt * mx := ⟨_, rfl⟩
      rw [← ep1] at g13
      rw [← ep2] at g14
      have HEP := Lib.hid (And.intro ep1 ep2)
      have hp1' : IntKind.i64.wrap (cnt * mn) = p1 := hp1.trans ep1.symm
      have hp2' : IntKind.i64.wrap (cnt * mx) = p2 := hp2.trans ep2.symm
      clear ep1 ep2 hp1 hp2
      have h0n : (0 : Int) < (n : Int) := by omega
      have hw5 : IntKind.i64.wrap (fr.tmod L) = 0 := by rw [g4]; rfl
      go_quiet (fail)
      go_wp2_with (go_at_call 39; refine (out_no _ _ _ _ (by omega) (by omega)).mono ?_; rintro e w' ⟨rfl, rfl⟩)
      by_cases hk0 : k = 0
      · subst hk0
        clear HRS HP2
        go_quiet (fail)
        go_wp2_with (fail)
        go_roundw
        case rel => exact ⟨0 + 1, by omega, by go_num, below_drewN HBX.out _⟩
        case measure => simp [intOf]; omega
      · obtain ⟨j, rfl⟩ : ∃ j, k = j + 1 := ⟨k - 1, by omega⟩
        obtain ⟨y, hy⟩ : ∃ y, l[j]? = some y := ⟨_, List.getElem?_eq_getElem (by have := HN.out; omega)⟩
        have hlt2 := HRS.out y j rfl hy
        have y0 := HP2.out y j hy
        obtain ⟨yfr, yto, ycnt, ysum, ymn, ymx, yfi, yla⟩ := y
        simp only [bktC, List.getElem?_cons_zero, Nat.add_zero] at y0 hlt2
        have hw6 : IntKind.i64.wrap (((j + 1 : Nat) : Int) - 1) = (j : Int) := by rw [IntKind.wrap_i64]; omega
        have hw7 : IntKind.i64.wrap ((j : Int) + 1 - 1) = (j : Int) := by rw [IntKind.wrap_i64]; omega
        have hj0 : (0 : Int) < (j : Int) + 1 := by omega
        have hjn : (j : Int) < (n : Int) := by omega
        have hjn' : j < n := by omega
        clear HRS HP2 hy
        go_quiet (fail)
        go_wp2_with (fail)
        go_roundw
        case rel => exact ⟨j + 1 + 1, by omega, by go_num, below_drewN HBX.out _⟩
        case measure => simp [intOf]; omega
    · have HBL := Lib.hid hbl
      clear hbl
      go_wp2_with (fail)
      go_ret
      exact ⟨rfl, HBL.out⟩
end Go.Proofs.YtaglkaphlekmoaaGreatDoor
