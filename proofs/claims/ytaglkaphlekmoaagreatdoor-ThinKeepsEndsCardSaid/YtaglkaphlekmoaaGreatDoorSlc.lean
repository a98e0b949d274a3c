/- A series cut in two: how its parts lie, and what is so of them. -/
import Derived.Test.YtaglkaphlekmoaaGreatDoorJoinP
import Derived.Test.YtaglkaphlekmoaaGreatDoorSer3
namespace Go.Proofs.YtaglkaphlekmoaaGreatDoor
open Go.RowKit

theorem cellsOf_take (l : List Smp) (k : Nat) : cellsOf (l.take k) = (cellsOf l).take (k * 4) := by
  induction l generalizing k with
  | nil => simp [cellsOf]
  | cons x l ih =>
    cases k with
    | zero => simp [cellsOf]
    | succ k =>
      have := ih k
      have h4 : (smpC x).length = 4 := rfl
      show smpC x ++ cellsOf (l.take k) = (smpC x ++ cellsOf l).take ((k + 1) * 4)
      rw [List.take_append, h4, show (k + 1) * 4 - 4 = k * 4 by omega, List.take_of_length_le (show (smpC x).length ≤ (k + 1) * 4 by rw [h4]; omega), this]
theorem cellsOf_drop (l : List Smp) (k : Nat) : cellsOf (l.drop k) = (cellsOf l).drop (k * 4) := by
  induction l generalizing k with
  | nil => simp [cellsOf]
  | cons x l ih =>
    cases k with
    | zero => simp [cellsOf]
    | succ k =>
      have := ih k
      have h4 : (smpC x).length = 4 := rfl
      show cellsOf (l.drop k) = (smpC x ++ cellsOf l).drop ((k + 1) * 4)
      rw [List.drop_append, h4, show (k + 1) * 4 - 4 = k * 4 by omega, List.drop_of_length_le (show (smpC x).length ≤ (k + 1) * 4 by rw [h4]; omega), this, List.nil_append]
theorem Row.take_ {w : World} {B : Nat} {A : Option Addr} {l : List Smp} (h : Row w B A (cellsOf l)) (k : Nat) : Row w B A (cellsOf (l.take k)) := by
  rcases h with h | ⟨b, o, rfl, hb, hc⟩
  · left; rw [cellsOf_take, h]; simp
  · right
    refine ⟨b, o, rfl, hb, fun j v hv => hc j v ?_⟩
    rw [cellsOf_take] at hv
    rw [List.getElem?_take] at hv
    split at hv <;> simp_all
theorem Row.drop_ {w : World} {B g o : Nat} {l : List Smp} (h : Row w B (some ⟨g, o, none⟩) (cellsOf l)) (k : Nat) : Row w B (some ⟨g, o + k * 4, none⟩) (cellsOf (l.drop k)) := by
  rcases h with h | ⟨b, o', he, hb, hc⟩
  · left; rw [cellsOf_drop, h]; simp
  · injection he with he
    injection he with e1 e2
    subst e1 e2
    right
    refine ⟨g, o + k * 4, rfl, hb, fun j v hv => ?_⟩
    rw [cellsOf_drop, List.getElem?_drop] at hv
    have := hc (k * 4 + j) v hv
    rw [show o + k * 4 + j = o + (k * 4 + j) by omega]
    exact this
theorem Row.none_ {w : World} {B : Nat} (A : Option Addr) : Row w B A (cellsOf []) := .inl rfl

theorem GoodS.take {l : List Smp} (h : GoodS l) (k : Nat) : GoodS (l.take k) := by
  refine ⟨?_, ?_, ?_, ?_⟩
  · have := h.len; simp only [List.length_take]; omega
  · intro i x hx; rw [List.getElem?_take] at hx; split at hx
    · exact h.at_ i x hx
    · cases hx
  · intro i x hx; rw [List.getElem?_take] at hx; split at hx
    · exact h.val i x hx
    · cases hx
  · intro i x y hx hy
    rw [List.getElem?_take] at hx hy
    split at hx
    · split at hy
      · exact h.rise i x y hx hy
      · cases hy
    · cases hx
theorem GoodS.drop {l : List Smp} (h : GoodS l) (k : Nat) : GoodS (l.drop k) := by
  refine ⟨?_, ?_, ?_, ?_⟩
  · have := h.len; simp only [List.length_drop]; omega
  · intro i x hx; rw [List.getElem?_drop] at hx; exact h.at_ _ x hx
  · intro i x hx; rw [List.getElem?_drop] at hx; exact h.val _ x hx
  · intro i x y hx hy
    rw [List.getElem?_drop] at hx hy
    exact h.rise (k + i) x y hx (by rw [show k + i + 1 = k + (i + 1) by omega]; exact hy)
theorem Fine.wide {l : List Smp} (h : Fine l) : ∀ s ∈ l, (0 ≤ s.1 ∧ s.1 < 345686400000) ∧ -1000000000 ≤ s.2 ∧ s.2 ≤ 1000000000 := fun s hs => by have := h.all s hs; omega
end Go.Proofs.YtaglkaphlekmoaaGreatDoor
