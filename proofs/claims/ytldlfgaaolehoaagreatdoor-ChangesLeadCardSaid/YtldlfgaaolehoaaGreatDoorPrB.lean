/- Names are ordered by rank; the orders of properties by their contracts. -/
import Derived.Test.YtldlfgaaolehoaaGreatDoorPrP
import Derived.Test.YtldlfgaaolehoaaGreatDoorMgA
namespace Go.Proofs.YtldlfgaaolehoaaGreatDoor
open Go.RowKit

def cmpN (i j : Nat) : Int := if i < j then -1 else if i = j then 0 else 1
theorem nm_cmp (i j : Nat) (hi : i < 7) (hj : j < 7) : Lib.compareBytes (nm i).data.toList (nm j).data.toList = cmpN i j := by
  have h1 : i = 0 ∨ i = 1 ∨ i = 2 ∨ i = 3 ∨ i = 4 ∨ i = 5 ∨ i = 6 := by omega
  have h2 : j = 0 ∨ j = 1 ∨ j = 2 ∨ j = 3 ∨ j = 4 ∨ j = 5 ∨ j = 6 := by omega
  rcases h1 with h | h | h | h | h | h | h <;> subst h <;> rcases h2 with h | h | h | h | h | h | h <;> subst h <;> rfl
theorem scompare_nm (i j : Nat) (hi : i < 7) (hj : j < 7) (w : World) : Calls Tryz.prog 66 #[.string (nm i), .string (nm j)] w fun e w' => e = .returned (.int .i64 (cmpN i j)) ∧ w = w' := by
  refine (scompare_any _ _ w).mono ?_
  rintro e w' ⟨h, rfl⟩
  rw [nm_cmp i j hi hj] at h
  exact ⟨h, rfl⟩
def prV (p : Pr) : Value := .agg #[.string (nm p.1), .int .i64 p.2.k, .bool p.2.f, .int .i64 p.2.n, .string p.2.s]
set_option maxRecDepth 100000 in
theorem find1_any (p : Pr) (j : Nat) (hi : p.1 < 7) (hj : j < 7) (w : World) : Calls Tryz.prog 193 #[prV p, .string (nm j)] w fun e w' => e = .returned (.int .i64 (cmpN p.1 j)) ∧ Below w.heap.size w w' := by
  unfold prV
  go_enter Tryz.func193, Tryz.ntmps193
  go_wp2_with (go_at_call 66; refine (scompare_nm _ _ hi hj _).mono ?_; rintro e w' ⟨rfl, rfl⟩)
  go_ret
  exact ⟨rfl, (Below.refl _ _).alloc (Nat.le_refl _) _⟩
set_option maxRecDepth 100000 in
theorem order_any (p q : Pr) (hi : p.1 < 7) (hj : q.1 < 7) (w : World) : Calls Tryz.prog 58 #[prV p, prV q] w fun e w' => e = .returned (.int .i64 (cmpN p.1 q.1)) ∧ Below w.heap.size w w' := by
  unfold prV
  go_enter Tryz.func58, Tryz.ntmps58
  go_wp2_with (go_at_call 66; refine (scompare_nm _ _ hi hj _).mono ?_; rintro e w' ⟨rfl, rfl⟩)
  go_ret
  exact ⟨rfl, ((Below.refl _ _).alloc (Nat.le_refl _) _).alloc (by simp) _⟩
set_option maxRecDepth 100000 in
theorem apply1_any (p q : Pr) (hi : p.1 < 7) (hj : q.1 < 7) (w : World) : Calls Tryz.prog 65 #[prV p, prV q] w fun e w' => e = .returned (.int .i64 (cmpN p.1 q.1)) ∧ Below w.heap.size w w' := by
  unfold prV
  go_enter Tryz.func65, Tryz.ntmps65
  go_wp2_with (go_at_call 66; refine (scompare_nm _ _ hi hj _).mono ?_; rintro e w' ⟨rfl, rfl⟩)
  go_ret
  exact ⟨rfl, ((Below.refl _ _).alloc (Nat.le_refl _) _).alloc (by simp) _⟩
end Go.Proofs.YtldlfgaaolehoaaGreatDoor
