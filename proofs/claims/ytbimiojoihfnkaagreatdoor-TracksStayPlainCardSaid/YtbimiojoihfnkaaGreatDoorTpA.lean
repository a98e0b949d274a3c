/- root, Length, Mul64, CompareProducts, less of package place by their contracts. -/
import Derived.Test.YtbimiojoihfnkaaGreatDoorFxC
import Derived.Test.YtbimiojoihfnkaaGreatDoorTpP
import Derived.Shelf.Bits.Mul64
namespace Go.Proofs.YtbimiojoihfnkaaGreatDoor
open Go.RowKit

theorem lt_of_sq {m n : Nat} (h : n < (m + 1) * (m + 1)) (k : Nat) (hk : k * k ≤ n) : k ≤ m := by
  rcases Nat.lt_or_ge m k with h1 | h1
  · have : (m + 1) * (m + 1) ≤ k * k := Nat.mul_le_mul h1 h1
    omega
  · exact h1

set_option maxHeartbeats 2000000 in
theorem root_any (n : Nat) (w : World) (hn : n ≤ 1000000000000) : Calls Tryz.prog 104 #[.int .i64 (n : Int)] w fun e w' => e = .returned (.int .i64 ((isq n : Nat) : Int)) ∧ w = w' := by
  go_enter Tryz.func104, Tryz.ntmps104
  go_wp2
  go_loop [3, 4] (fun a b => ∃ lo hi : Nat, a = .int .i64 (lo : Int) ∧ b = .int .i64 (hi : Int) ∧ lo < hi ∧ hi ≤ 2147483648 ∧ lo * lo ≤ n ∧ n < hi * hi) (fun a b => (intOf b).toNat - (intOf a).toNat)
  case atStart => exact ⟨0, 2147483648, rfl, rfl, by omega, by omega, by omega, by omega⟩
  case round =>
    obtain ⟨lo, hi, rfl, rfl, h1, h2, h3, h4⟩ := hrel
    have hw1 : IntKind.i64.wrap ((hi : Int) - (lo : Int)) = (hi : Int) - (lo : Int) := by rw [IntKind.wrap_i64]; omega
    by_cases hd : lo + 1 < hi
    · have hgt : (1 : Int) < (hi : Int) - (lo : Int) := by omega
      obtain ⟨m, em⟩ : ∃ m, m = (lo + hi) / 2 := ⟨_, rfl⟩
      have hm : lo < m ∧ m < hi := by omega
      have hw2 : IntKind.i64.wrap ((lo : Int) + (hi : Int)) = (lo : Int) + (hi : Int) := by rw [IntKind.wrap_i64]; omega
      have hq : ((lo : Int) + (hi : Int)).tdiv 2 = (m : Int) := by
        rw [Int.tdiv_eq_ediv_of_nonneg (by omega), em]; omega
      have hq2 : IntKind.i64.wrap (m : Int) = (m : Int) := by rw [IntKind.wrap_i64]; omega
      have hmm : m * m ≤ 2147483648 * 2147483648 := Nat.mul_le_mul (by omega) (by omega)
      have hc : (m : Int) * (m : Int) = ((m * m : Nat) : Int) := (Int.natCast_mul m m).symm
      obtain ⟨s, es⟩ : ∃ s, s = m * m := ⟨_, rfl⟩
      rw [← es] at hmm hc
      have hws : IntKind.i64.wrap ((m : Int) * (m : Int)) = (s : Int) := by rw [hc, IntKind.wrap_i64]; omega
      have HES := Lib.hid es
      clear em es hc
      by_cases hs : s ≤ n
      · have hs' : (s : Int) ≤ (n : Int) := by omega
        go_wp2
        go_round
        case rel => exact ⟨m, hi, by simp [*], rfl, hm.2, h2, by rw [← HES.out]; exact hs, h4⟩
        case measure => simp [intOf, *]; omega
      · have hs' : ¬ (s : Int) ≤ (n : Int) := by omega
        go_wp2
        go_round
        case rel => exact ⟨lo, m, rfl, by simp [*], hm.1, by omega, h3, by rw [← HES.out]; omega⟩
        case measure => simp [intOf, *]; omega
    · have hgt : ¬ (1 : Int) < (hi : Int) - (lo : Int) := by omega
      obtain rfl : hi = lo + 1 := by omega
      have HR := Lib.hid (isq_unique h3 h4)
      clear hd h3 h4
      go_wp2
      go_ret
      exact ⟨by rw [HR.out]; rfl, rfl⟩

set_option maxHeartbeats 2000000 in
theorem mul64_any (x y : Nat) (hx : x < 18446744073709551616) (hy : y < 18446744073709551616) (w : World) :
    Calls Tryz.prog 228 #[.int .u64 (x : Int), .int .u64 (y : Int)] w fun e w' => e = .returned (.tuple #[.int .u64 ((x * y / 18446744073709551616 : Nat) : Int), .int .u64 ((x * y % 18446744073709551616 : Nat) : Int)]) ∧ w = w' := by
  obtain ⟨bd, bt, bw, hhi⟩ := Lib.mul64_hi x y hx hy
  have ba := Lib.half_mul_le (a := x / 4294967296) (b := y / 4294967296) (by omega) (by omega)
  have bb := Lib.half_mul_le (a := x / 4294967296) (b := y % 4294967296) (by omega) (by omega)
  have bc := Lib.half_mul_le (a := x % 4294967296) (b := y / 4294967296) (by omega) (by omega)
  have ba' : x / 4294967296 * (y / 4294967296) < 18446744073709551616 := by omega
  have bb' : x / 4294967296 * (y % 4294967296) < 18446744073709551616 := by omega
  have bc' : x % 4294967296 * (y / 4294967296) < 18446744073709551616 := by omega
  have bh1 : x / 4294967296 * (y / 4294967296) + (x / 4294967296 * (y % 4294967296) + x % 4294967296 * (y % 4294967296) / 4294967296) / 4294967296 < 18446744073709551616 := by omega
  have bh : x / 4294967296 * (y / 4294967296) + (x / 4294967296 * (y % 4294967296) + x % 4294967296 * (y % 4294967296) / 4294967296) / 4294967296 + ((x / 4294967296 * (y % 4294967296) + x % 4294967296 * (y % 4294967296) / 4294967296) % 4294967296 + x % 4294967296 * (y / 4294967296)) / 4294967296 < 18446744073709551616 := by omega
  go_enter Tryz.func228, Tryz.ntmps228
  go_wp2
  simp only [Mul64.maskN x hx, Mul64.maskN y hy, Mul64.divN, Mul64.mulN, Mul64.addN, Mul64.wrapN _ bd, Mul64.wrapN _ bb', Mul64.wrapN _ bt, Mul64.maskN _ bt, Mul64.wrapN _ bc', Mul64.wrapN _ bw, Mul64.wrapN _ ba', Mul64.wrapN _ bh1, Mul64.wrapN _ bh, Mul64.wrapM (x * y)]
  rw [hhi]
  go_ret2
  exact ⟨rfl, rfl⟩
end Go.Proofs.YtbimiojoihfnkaaGreatDoor
