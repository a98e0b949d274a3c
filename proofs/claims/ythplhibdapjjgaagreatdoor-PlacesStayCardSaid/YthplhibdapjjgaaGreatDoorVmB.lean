/- base.Gcd, base.Fraction by their contracts. -/
import Derived.Test.YthplhibdapjjgaaGreatDoorMgC
import Derived.Test.YthplhibdapjjgaaGreatDoorMgA
import Derived.BigRegion
namespace Go.Proofs.YthplhibdapjjgaaGreatDoor
open Go.RowKit

set_option maxHeartbeats 1000000 in
theorem gcd_any (x y : Nat) (w : World) (hx : x ≤ 4000000000000000) (hy : y ≤ 4000000000000000) :
    Calls Tryz.prog 117 #[.int .i64 (x : Int), .int .i64 (y : Int)] w fun e w' => e = .returned (.int .i64 ((Nat.gcd x y : Nat) : Int)) ∧ Below w.heap.size w w' := by
  obtain ⟨G, hG⟩ : ∃ G, G = Nat.gcd x y := ⟨_, rfl⟩
  rw [← hG]
  go_enter Tryz.func117, Tryz.ntmps117
  go_wp2_with (fail)
  go_loopw [0, 1] (fun a b wr => ∃ p q : Nat, a = .int .i64 (p : Int) ∧ b = .int .i64 (q : Int) ∧ p ≤ 4000000000000000 ∧ q ≤ 4000000000000000 ∧ Nat.gcd p q = G ∧ Below w.heap.size w wr) (fun _ b _ => (intOf b).toNat)
  case atStart => exact ⟨x, y, rfl, rfl, hx, hy, hG.symm, Below.refl _ _⟩
  case round =>
    obtain ⟨p, q, rfl, rfl, hp, hq, hg, hbl⟩ := hrel
    have HG := Lib.hid hg
    have HBL := Lib.hid hbl
    clear hg hbl
    by_cases hq0 : q = 0
    · subst hq0
      go_wp2_with (fail)
      go_ret
      exact ⟨by have := HG.out; rw [Nat.gcd_zero_right] at this; rw [← this]; rfl, HBL.out⟩
    · have hq1 : ¬ (q : Int) = 0 := by omega
      have hm : (p : Int).tmod (q : Int) = ((p % q : Nat) : Int) := by rw [Int.ofNat_tmod]
      have hlt : p % q < q := Nat.mod_lt _ (by omega)
      have hle : p % q ≤ 4000000000000000 := by omega
      go_wp2_with (fail)
      go_quiet (fail)
      go_wp2_with (fail)
      go_roundw
      case rel =>
        refine ⟨q, p % q, rfl, ?_, hq, hle, ?_, below_drewN HBL.out _⟩
        · rw [Int.natCast_emod]
        · rw [← HG.out, Nat.gcd_comm p q, Nat.gcd_rec q p, Nat.gcd_comm]
      case measure => rw [← Int.natCast_emod]; simp [intOf]; omega

set_option maxHeartbeats 1000000 in
theorem fraction_any (s : Int) (t : Nat) (w : World) (h1 : -4000000000000000 ≤ s) (h2 : s ≤ 4000000000000000) (ht : 0 < t) (ht2 : t ≤ 4000000000000000) :
    Calls Tryz.prog 75 #[.int .i64 s, .int .i64 (t : Int)] w fun e w' => (∃ a b g : Int, e = .returned (.agg #[.int .i64 a, .int .i64 b]) ∧ a * g = s ∧ b * g = (t : Int) ∧ 1 ≤ g ∧ 1 ≤ b) ∧ Below w.heap.size w w' := by
  obtain ⟨g, eg⟩ : ∃ g, g = Nat.gcd s.natAbs t := ⟨_, rfl⟩
  have hg0 : 0 < g := by rw [eg]; exact Nat.gcd_pos_of_pos_right _ ht
  have hgt : g ≤ t := by rw [eg]; exact Nat.le_of_dvd ht (Nat.gcd_dvd_right _ _)
  obtain ⟨b, hb⟩ : ∃ b : Nat, t = g * b := by rw [eg]; exact Nat.gcd_dvd_right _ _
  obtain ⟨a, ha⟩ : ∃ a : Int, s = (g : Int) * a := by
    have : (g : Int) ∣ s := by rw [eg]; exact Int.ofNat_dvd_left.2 (Nat.gcd_dvd_left _ _)
    exact this
  have hgi : ¬ (g : Int) = 0 := by omega
  have hda : s.tdiv (g : Int) = a := by rw [ha]; exact Int.mul_tdiv_cancel_left _ hgi
  have hdb : (t : Int).tdiv (g : Int) = (b : Int) := by rw [hb, Int.natCast_mul]; exact Int.mul_tdiv_cancel_left _ hgi
  have hb1 : 0 < b := by rcases Nat.eq_zero_or_pos b with h | h; (· rw [h] at hb; omega); (· exact h)
  have HAB := Lib.hid (And.intro ha hb)
  have hbt : b ≤ t := by rw [hb]; exact Nat.le_mul_of_pos_left _ hg0
  have haa : -4000000000000000 ≤ a ∧ a ≤ 4000000000000000 := by
    have := Int.tdiv_le_self (a := s.natAbs) (g : Int) (by omega)
    rw [← hda]
    have h := Int.natAbs_tdiv_le_natAbs s g
    omega
  have hwa : IntKind.i64.wrap a = a := by rw [IntKind.wrap_i64]; omega
  have hwb : IntKind.i64.wrap (b : Int) = (b : Int) := by rw [IntKind.wrap_i64]; omega
  have hws : IntKind.i64.wrap (-s) = -s := by rw [IntKind.wrap_i64]; omega
  have hmx : (if s < -s then -s else s) = (s.natAbs : Int) := by split <;> omega
  have HGC := Lib.hid (fun V => gcd_any s.natAbs t V (by omega) ht2)
  rw [← eg] at HGC
  clear ha hb eg
  go_enter Tryz.func75, Tryz.ntmps75
  go_wp2_with (fail)
  refine (HGC.out _).mono ?_
  rintro e w1 ⟨rfl, hb1'⟩
  have hs1 := hb1'.size
  simp only [World.size_alloc] at hs1
  have hnew := (hb1'.block w.heap.size (by simp)).trans (heap_new w (.cells #[.int .i64 0, .int .i64 0] 78))
  have c0 := cell_of_blk (j := 0) hnew rfl
  have c1 := cell_of_blk (j := 1) hnew rfl
  have fr : ∀ j, w1.frozen? ⟨w.heap.size, j, none⟩ = false := by intro j; simp [World.frozen?, hnew]
  have f0 := fr 0
  have f1 := fr 1
  have hlt : w.heap.size < w1.heap.size := by omega
  have HB1 := Lib.hid (((Below.refl w.heap.size w).alloc (Nat.le_refl _) _).trans (hb1'.mono (by simp)))
  have HNEW := Lib.hid hnew
  clear hb1' hnew fr
  go_wp2_with (fail)
  go_region
  go_wp2_with (fail)
  have r0 : ((w1.setCell ⟨w.heap.size, 0, none⟩ (.int .i64 a)).setCell ⟨w.heap.size, 1, none⟩ (.int .i64 (b : Int))).cell? ⟨w.heap.size, 0, none⟩ = some (.int .i64 a) := by
    simp [World.setCell, World.cell?, Array.getElem?_modify, HNEW.out]
  have r1 : ((w1.setCell ⟨w.heap.size, 0, none⟩ (.int .i64 a)).setCell ⟨w.heap.size, 1, none⟩ (.int .i64 (b : Int))).cell? ⟨w.heap.size, 1, none⟩ = some (.int .i64 (b : Int)) := by
    simp [World.setCell, World.cell?, Array.getElem?_modify, HNEW.out]
  have HAB2 : (∃ a' b' g' : Int, Ending.returned (.agg #[.int .i64 a, .int .i64 (b : Int)]) = Ending.returned (.agg #[.int .i64 a', .int .i64 b']) ∧ a' * g' = s ∧ b' * g' = (t : Int) ∧ 1 ≤ g' ∧ 1 ≤ b') :=
    ⟨a, b, g, rfl, by rw [HAB.out.1, Int.mul_comm], by rw [HAB.out.2, Int.mul_comm]; rfl, by omega, by omega⟩
  refine bodyPost_ret (v := .agg #[.int .i64 a, .int .i64 (b : Int)]) (by simp [results, Tryz.results75, go_sem, r0, r1]) rfl ⟨HAB2, ?_⟩
  exact ((HB1.out.setCell (p := ⟨w.heap.size, 0, none⟩) (Nat.le_refl _) _).setCell (p := ⟨w.heap.size, 1, none⟩) (Nat.le_refl _) _).drew
end Go.Proofs.YthplhibdapjjgaaGreatDoor
