/- Stamps in order: what cmp.Or makes of three comparisons; no program in sight but the answers of cmp. -/
import Derived.Test.YtkcpfppjdjkjeaaGreatDoorMgD
import Derived.Test.YtkcpfppjdjkjeaaGreatDoorMgA
namespace Go.Proofs.YtkcpfppjdjkjeaaGreatDoor

theorem byT_cmp (i j : Nat) (hi : i < 4) (hj : j < 4) : Lib.compareBytes (byT i).data.toList (byT j).data.toList = cmpI (i : Int) (j : Int) := by
  have h1 : i = 0 ∨ i = 1 ∨ i = 2 ∨ i = 3 := by omega
  have h2 : j = 0 ∨ j = 1 ∨ j = 2 ∨ j = 3 := by omega
  rcases h1 with h | h | h | h <;> subst h <;> rcases h2 with h | h | h | h <;> subst h <;> rfl
theorem stamp_or {s t : Sp} (hs : SpOk s) (ht : SpOk t) : orI [cmpI s.at_ t.at_, cmpI (s.by_ : Int) (t.by_ : Int), cmpI s.no t.no] = cmpI (sk s) (sk t) := by
  obtain ⟨h1, h2, h3, h4, h5⟩ := hs
  obtain ⟨g1, g2, g3, g4, g5⟩ := ht
  simp only [orI, cmpI, sk]
  repeat' split
  all_goals omega
theorem byT_key (i : Nat) : isKey (byT i) = true := by
  match i with
  | 0 => decide
  | 1 => decide
  | 2 => decide
  | _ + 3 => exact (by decide : isKey (byT 3) = true)
end Go.Proofs.YtkcpfppjdjkjeaaGreatDoor
