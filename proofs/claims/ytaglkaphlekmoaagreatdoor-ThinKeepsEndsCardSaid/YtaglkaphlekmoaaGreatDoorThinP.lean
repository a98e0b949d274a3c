/- The parts of a series that Thin takes: the closure, by its contract. -/
import Derived.Test.YtaglkaphlekmoaaGreatDoorThinM
namespace Go.Proofs.YtaglkaphlekmoaaGreatDoor
open Go.RowKit

/-- Where part k of n measurements begins and ends, when m are to be left. -/
def pLo (n m k : Nat) : Nat := if m < k + 3 then n - 1 else 1 + k * (n - 2) / (m - 2)
def pHi (n m k : Nat) : Nat := if m < k + 3 then n else 1 + (k + 1) * (n - 2) / (m - 2)
theorem pLo_zero (n m : Nat) (hm : 3 ≤ m) : pLo n m 0 = 1 := by
  unfold pLo; rw [if_neg (by omega)]; simp
theorem part_step (n m k : Nat) (hm : 3 ≤ m) (hn : m < n) (hk : k + 3 ≤ m) : pLo n m k < pHi n m k ∧ pHi n m k = pLo n m (k + 1) ∧ pHi n m k ≤ n - 1 ∧ 1 ≤ pLo n m k := by
  have h1 : pHi n m k = 1 + (k + 1) * (n - 2) / (m - 2) := by unfold pHi; rw [if_neg (by omega)]
  have h2 : pLo n m k = 1 + k * (n - 2) / (m - 2) := by unfold pLo; rw [if_neg (by omega)]
  have hd : k * (n - 2) / (m - 2) + 1 ≤ (k + 1) * (n - 2) / (m - 2) := by
    rw [Nat.le_div_iff_mul_le (by omega), Nat.add_mul, Nat.add_mul]
    have := Nat.div_mul_le_self (k * (n - 2)) (m - 2)
    omega
  have hle : (k + 1) * (n - 2) / (m - 2) ≤ n - 2 := by
    exact Nat.div_le_of_le_mul (Nat.mul_le_mul_right (n - 2) (show k + 1 ≤ m - 2 by omega))
  refine ⟨by omega, ?_, by omega, by rw [h2]; exact Nat.le_add_right _ _⟩
  rw [h1]
  unfold pLo
  by_cases h : m < k + 1 + 3
  · rw [if_pos h]
    have : k + 1 = m - 2 := by omega
    rw [this, Nat.mul_div_cancel_left _ (by omega)]
    omega
  · rw [if_neg h]
theorem part_last (n m k : Nat) (hk : m < k + 3) : pLo n m k = n - 1 ∧ pHi n m k = n := by
  unfold pLo pHi; rw [if_pos hk, if_pos hk]; exact ⟨rfl, rfl⟩

set_option maxRecDepth 100000 in
set_option maxHeartbeats 1000000 in
theorem part_any (k n m c b o qm ql qn : Nat) (w : World) (hm : 3 ≤ m) (hn : m < n) (hn2 : n ≤ 5000) (hnc : n ≤ c) (hk : k ≤ 5000) (h1 : w.cell? ⟨qm, 0, none⟩ = some (.int .i64 (m : Int))) (h2 : w.cell? ⟨ql, 0, none⟩ = some (.slice (some ⟨b, o, none⟩) n c)) (h3 : w.cell? ⟨qn, 0, none⟩ = some (.int .i64 (n : Int))) :
    Calls Tryz.prog 62 #[.int .i64 (k : Int), .pointer (some ⟨qm, 0, none⟩), .pointer (some ⟨ql, 0, none⟩), .pointer (some ⟨qn, 0, none⟩)] w fun e w' => (∃ cc, e = .returned (.slice (some ⟨b, o + pLo n m k * 4, none⟩) (pHi n m k - pLo n m k) cc)) ∧ Below w.heap.size w w' := by
  by_cases hlast : m < k + 3
  · obtain ⟨e1, e2⟩ := part_last n m k hlast
    rw [e1, e2]
    have hgt : (m : Int) - 3 < (k : Int) := by omega
    have hc1 : ¬ c = n - 1 := by omega
    have hnc' : (n : Int) ≤ (c : Int) := by omega
    go_enter Tryz.func62, Tryz.ntmps62
    go_wp2_with (fail)
    go_ret
    exact ⟨⟨_, rfl⟩, Below.refl _ _⟩
  · obtain ⟨g1, g2, g3, g4⟩ := part_step n m k hm hn (by omega)
    obtain ⟨N2, eN⟩ : ∃ N2, N2 = n - 2 := ⟨_, rfl⟩
    obtain ⟨M2, eM⟩ : ∃ M2, M2 = m - 2 := ⟨_, rfl⟩
    obtain ⟨P, eP⟩ : ∃ P, P = k * N2 := ⟨_, rfl⟩
    obtain ⟨P', eP'⟩ : ∃ P', P' = (k + 1) * N2 := ⟨_, rfl⟩
    obtain ⟨Q, eQ⟩ : ∃ Q, Q = P / M2 := ⟨_, rfl⟩
    obtain ⟨Q', eQ'⟩ : ∃ Q', Q' = P' / M2 := ⟨_, rfl⟩
    obtain ⟨lo, elo⟩ : ∃ lo, lo = pLo n m k := ⟨_, rfl⟩
    obtain ⟨hi, ehi⟩ : ∃ hi, hi = pHi n m k := ⟨_, rfl⟩
    have l1 : lo = 1 + Q := by rw [elo, eQ, eP, eN, eM]; unfold pLo; rw [if_neg hlast]
    have l2 : hi = 1 + Q' := by rw [ehi, eQ', eP', eN, eM]; unfold pHi; rw [if_neg hlast]
    rw [← elo] at g1 g4 ⊢
    rw [← ehi] at g1 g3 ⊢
    have hP : P ≤ 5000 * 5000 := by rw [eP]; exact Nat.mul_le_mul hk (by omega)
    have hP' : P' ≤ 5001 * 5000 := by rw [eP']; exact Nat.mul_le_mul (by omega) (by omega)
    have hQ : Q ≤ P := eQ ▸ Nat.div_le_self _ _
    have hQ' : Q' ≤ P' := eQ' ▸ Nat.div_le_self _ _
    have h17 : IntKind.i64.wrap ((n : Int) - 2) = (N2 : Int) := by rw [IntKind.wrap_i64]; omega
    have h18 : IntKind.i64.wrap ((k : Int) * (N2 : Int)) = (P : Int) := by rw [← Int.natCast_mul, ← eP, IntKind.wrap_i64]; omega
    have h20 : IntKind.i64.wrap ((m : Int) - 2) = (M2 : Int) := by rw [IntKind.wrap_i64]; omega
    have h21 : IntKind.i64.wrap ((P : Int) / (M2 : Int)) = (Q : Int) := by rw [← Int.natCast_ediv, ← eQ, IntKind.wrap_i64]; omega
    have h22 : IntKind.i64.wrap (1 + (Q : Int)) = (lo : Int) := by rw [IntKind.wrap_i64]; omega
    have h24 : IntKind.i64.wrap ((k : Int) + 1) = (k : Int) + 1 := by rw [IntKind.wrap_i64]; omega
    have h27 : IntKind.i64.wrap (((k : Int) + 1) * (N2 : Int)) = (P' : Int) := by rw [show (k : Int) + 1 = ((k + 1 : Nat) : Int) from rfl, ← Int.natCast_mul, ← eP', IntKind.wrap_i64]; omega
    have h30 : IntKind.i64.wrap ((P' : Int) / (M2 : Int)) = (Q' : Int) := by rw [← Int.natCast_ediv, ← eQ', IntKind.wrap_i64]; omega
    have h31 : IntKind.i64.wrap (1 + (Q' : Int)) = (hi : Int) := by rw [IntKind.wrap_i64]; omega
    have hM0 : ¬ (M2 : Int) = 0 := by omega
    have hM0n : ¬ M2 = 0 := by omega
    have hle : ¬ (m : Int) - 3 < (k : Int) := by omega
    have b1 : (0 : Int) ≤ (lo : Int) := by omega
    have b2 : (lo : Int) ≤ (hi : Int) := by omega
    have b3 : (hi : Int) ≤ (c : Int) := by omega
    have b4 : ¬ c = lo := by omega
    have b5 : lo ≤ hi := by omega
    have b6 : hi ≤ c := by omega
    clear eN eM eP eP' eQ eQ' elo ehi l1 l2 hP hP' hQ hQ' g1 g2 g3 g4
    go_enter Tryz.func62, Tryz.ntmps62
    go_wp2_with (fail)
    go_quiet (fail)
    go_wp2_with (fail)
    go_ret
    exact ⟨⟨_, rfl⟩, below_drewN (Below.refl _ _) _⟩
end Go.Proofs.YtaglkaphlekmoaaGreatDoor
