/- place.root by its contract. -/
import Derived.Test.YtdkldbfhbpmjgaaGreatDoorTpA
namespace Go.Proofs.YtdkldbfhbpmjgaaGreatDoor
open Go.RowKit

theorem lt_of_sq {m n : Nat} (h : n < (m + 1) * (m + 1)) (k : Nat) (hk : k * k ≤ n) : k ≤ m := by
  rcases Nat.lt_or_ge m k with h1 | h1
  · have : (m + 1) * (m + 1) ≤ k * k := Nat.mul_le_mul h1 h1
    omega
  · exact h1

set_option maxHeartbeats 2000000 in
theorem root_any (n : Nat) (w : World) (hn : n ≤ 1000000000000) : Calls Tryz.prog 28 #[.int .i64 (n : Int)] w fun e w' => e = .returned (.int .i64 ((isq n : Nat) : Int)) ∧ w = w' := by
  go_enter Tryz.func28, Tryz.ntmps28
  go_wp2
  go_loop [3, 4] (fun a b => ∃ lo hi : Nat, a = .int .i64 (lo : Int) ∧ b = .int .i64 (hi : Int) ∧ lo < hi ∧ hi ≤ 2147483648 ∧ lo * lo ≤ n ∧ n < hi * hi) (fun a b => (intOf b).toNat - (intOf a).toNat)
  case atStart => exact ⟨0, 2147483648, rfl, rfl, by omega, by omega, by omega, by omega⟩
  case round =>
    obtain ⟨lo, hi, rfl, rfl, h1, h2, h3, h4⟩ := hrel
    have hw1 : IntKind.i64.wrap ((hi : Int) - (lo : Int)) = (hi : Int) - (lo : Int) := by rw [IntKind.wrap_i64]; omega
    by_cases hd : lo + 1 < hi
    · have hgt : (1 : Int) < (hi : Int) - (lo : Int) := by omega
      obtain ⟨m, em⟩ : ∃ m, m = (lo + hi) / 2 := ⟨_, rfl⟩
      have hm : lo < m ∧ m < hi := by omega
      have hw2 : IntKind.i64.wrap ((lo : Int) + (hi : Int)) = (lo : Int) + (hi : Int) := by rw [IntKind.wrap_i64]; omega
      have hq : ((lo : Int) + (hi : Int)).tdiv 2 = (m : Int) := by
        rw [Int.tdiv_eq_ediv_of_nonneg (by omega), em]; omega
      have hq2 : IntKind.i64.wrap (m : Int) = (m : Int) := by rw [IntKind.wrap_i64]; omega
      have hmm : m * m ≤ 2147483648 * 2147483648 := Nat.mul_le_mul (by omega) (by omega)
      have hc : (m : Int) * (m : Int) = ((m * m : Nat) : Int) := (Int.natCast_mul m m).symm
      obtain ⟨s, es⟩ : ∃ s, s = m * m := ⟨_, rfl⟩
      rw [← es] at hmm hc
      have hws : IntKind.i64.wrap ((m : Int) * (m : Int)) = (s : Int) := by rw [hc, IntKind.wrap_i64]; omega
      have HES := Lib.hid es
      clear em es hc
      by_cases hs : s ≤ n
      · have hs' : (s : Int) ≤ (n : Int) := by omega
        go_wp2
        go_round
        case rel => exact ⟨m, hi, by simp [*], rfl, hm.2, h2, by rw [← HES.out]; exact hs, h4⟩
        case measure => simp [intOf, *]; omega
      · have hs' : ¬ (s : Int) ≤ (n : Int) := by omega
        go_wp2
        go_round
        case rel => exact ⟨lo, m, rfl, by simp [*], hm.1, by omega, h3, by rw [← HES.out]; omega⟩
        case measure => simp [intOf, *]; omega
    · have hgt : ¬ (1 : Int) < (hi : Int) - (lo : Int) := by omega
      obtain rfl : hi = lo + 1 := by omega
      have HR := Lib.hid (isq_unique h3 h4)
      clear hd h3 h4
      go_wp2
      go_ret
      exact ⟨by rw [HR.out]; rfl, rfl⟩
end Go.Proofs.YtdkldbfhbpmjgaaGreatDoor
