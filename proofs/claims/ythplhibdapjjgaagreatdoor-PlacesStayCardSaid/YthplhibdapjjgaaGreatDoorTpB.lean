/- CompareProducts, less, side, far of package place by their contracts. -/
import Derived.Test.YthplhibdapjjgaaGreatDoorTpA
namespace Go.Proofs.YthplhibdapjjgaaGreatDoor
open Go.RowKit

set_option maxHeartbeats 2000000 in
theorem cprod_any (a b c d : Nat) (w : World) (ha : a < 9223372036854775808) (hb : b < 9223372036854775808) (hc : c < 9223372036854775808) (hd : d < 9223372036854775808) :
    Calls Tryz.prog 76 #[.int .i64 (a : Int), .int .i64 (b : Int), .int .i64 (c : Int), .int .i64 (d : Int)] w fun e w' => (∃ r : Int, e = .returned (.int .i64 r) ∧ (r < 0 ↔ a * b < c * d) ∧ -1 ≤ r ∧ r ≤ 1) ∧ w = w' := by
  have e1 : a * b / 18446744073709551616 * 18446744073709551616 + a * b % 18446744073709551616 = a * b := Nat.div_add_mod' _ _
  have e2 : c * d / 18446744073709551616 * 18446744073709551616 + c * d % 18446744073709551616 = c * d := Nat.div_add_mod' _ _
  have l1 : a * b % 18446744073709551616 < 18446744073709551616 := Nat.mod_lt _ (by omega)
  have l2 : c * d % 18446744073709551616 < 18446744073709551616 := Nat.mod_lt _ (by omega)
  have M1 := Lib.hid (fun V => mul64_any a b (by omega) (by omega) V)
  have M2 := Lib.hid (fun V => mul64_any c d (by omega) (by omega) V)
  obtain ⟨p, ep⟩ : ∃ p, p = a * b := ⟨_, rfl⟩
  obtain ⟨q, eq⟩ : ∃ q, q = c * d := ⟨_, rfl⟩
  rw [← ep] at e1 l1 M1 ⊢
  rw [← eq] at e2 l2 M2 ⊢
  obtain ⟨h1, eh1⟩ : ∃ h, h = p / 18446744073709551616 := ⟨_, rfl⟩
  obtain ⟨h2, eh2⟩ : ∃ h, h = q / 18446744073709551616 := ⟨_, rfl⟩
  obtain ⟨m1, em1⟩ : ∃ h, h = p % 18446744073709551616 := ⟨_, rfl⟩
  obtain ⟨m2, em2⟩ : ∃ h, h = q % 18446744073709551616 := ⟨_, rfl⟩
  rw [← eh1, ← em1] at e1 M1
  rw [← eh2, ← em2] at e2 M2
  rw [← em1] at l1
  rw [← em2] at l2
  have HE := Lib.hid (And.intro e1 e2)
  have u1 : IntKind.u64.wrap (a : Int) = (a : Int) := by rw [IntKind.wrap_u64]; omega
  have u2 : IntKind.u64.wrap (b : Int) = (b : Int) := by rw [IntKind.wrap_u64]; omega
  have u3 : IntKind.u64.wrap (c : Int) = (c : Int) := by rw [IntKind.wrap_u64]; omega
  have u4 : IntKind.u64.wrap (d : Int) = (d : Int) := by rw [IntKind.wrap_u64]; omega
  clear ep eq eh1 eh2 em1 em2 e1 e2
  have fin : ∀ r : Int, (r < 0 ↔ (h1 < h2 ∨ h1 = h2 ∧ m1 < m2)) → (r < 0 ↔ p < q) := by
    intro r hr
    rw [hr, ← HE.out.1, ← HE.out.2]
    omega
  have FIN := Lib.hid fin
  clear fin
  go_enter Tryz.func76, Tryz.ntmps76
  go_wp2_with (fail)
  refine (M1.out _).mono ?_
  rintro e w1 ⟨rfl, rfl⟩
  go_wp2_with (fail)
  refine (M2.out _).mono ?_
  rintro e w1 ⟨rfl, rfl⟩
  rcases Nat.lt_trichotomy h1 h2 with k | k | k
  · have k1 : (h1 : Int) < (h2 : Int) := by omega
    have k2 : ¬ (h1 : Int) = (h2 : Int) := by omega
    go_wp2_with (fail)
    go_ret
    exact ⟨⟨-1, rfl, FIN.out _ (by omega), by omega, by omega⟩, rfl⟩
  · subst k
    rcases Nat.lt_trichotomy m1 m2 with j | j | j
    · have j1 : (m1 : Int) < (m2 : Int) := by omega
      go_wp2_with (fail)
      go_ret
      exact ⟨⟨-1, rfl, FIN.out _ ⟨fun _ => .inr ⟨trivial, j⟩, fun _ => by omega⟩, by omega, by omega⟩, rfl⟩
    · subst j
      have j1 : ¬ (m1 : Int) < (m1 : Int) := by omega
      go_wp2_with (fail)
      go_ret
      exact ⟨⟨0, rfl, FIN.out _ (by omega), by omega, by omega⟩, rfl⟩
    · have j1 : ¬ (m1 : Int) < (m2 : Int) := by omega
      have j2 : ¬ (m1 : Int) = (m2 : Int) := by omega
      go_wp2_with (fail)
      go_ret
      exact ⟨⟨1, rfl, FIN.out _ (by omega), by omega, by omega⟩, rfl⟩
  · have k1 : ¬ (h1 : Int) < (h2 : Int) := by omega
    have k2 : ¬ (h1 : Int) = (h2 : Int) := by omega
    go_wp2_with (fail)
    go_ret
    exact ⟨⟨1, rfl, FIN.out _ (by omega), by omega, by omega⟩, rfl⟩

theorem less_any (p q r s : Nat) (w : World) (hp : p < 9223372036854775808) (hq : q < 9223372036854775808) (hr : r < 9223372036854775808) (hs : s < 9223372036854775808) :
    Calls Tryz.prog 45 #[.agg #[.int .i64 (p : Int), .int .i64 (q : Int)], .agg #[.int .i64 (r : Int), .int .i64 (s : Int)]] w fun e w' => e = .returned (.bool (decide (p * s < r * q))) ∧ Below w.heap.size w w' := by
  have HC := Lib.hid (fun V => cprod_any p s r q V hp hs hr hq)
  go_enter Tryz.func45, Tryz.ntmps45
  go_wp2_with (fail)
  have HB := Lib.hid (((Below.refl w.heap.size w).alloc (Nat.le_refl _) (.cells #[.int .i64 (p : Int), .int .i64 (q : Int)] 78)).alloc (by simp) (.cells #[.int .i64 (r : Int), .int .i64 (s : Int)] 78))
  refine (HC.out _).mono ?_
  rintro e w1 ⟨⟨x, rfl, hx, hx1, hx2⟩, rfl⟩
  have HX := Lib.hid (show Value.bool (decide (x < 0)) = Value.bool (decide (p * s < r * q)) by rw [decide_eq_decide.2 hx])
  clear hx
  go_wp2_with (fail)
  go_ret
  exact ⟨ret_val HX.out, HB.out⟩
end Go.Proofs.YthplhibdapjjgaaGreatDoor
