/- Windows as data. -/
import Derived.Test.YtbimiojoihfnkaaGreatDoorSer3
import Derived.Test.YtbimiojoihfnkaaGreatDoorAppend
namespace Go.Proofs.YtbimiojoihfnkaaGreatDoor
open Go.RowKit

def winC (p : Int × Int) : List Value := [.int .i64 p.1, .int .i64 p.2]
def wCells (l : List (Int × Int)) : List Value := l.flatMap winC
theorem wCells_snoc (l : List (Int × Int)) (p : Int × Int) : wCells (l ++ [p]) = wCells l ++ winC p := by simp [wCells]
theorem winC_one (p : Int × Int) : ∀ u ∈ winC p, u.oneCell' = true := by
  intro u hu
  simp only [winC, List.mem_cons, List.not_mem_nil, or_false] at hu
  rcases hu with rfl | rfl <;> rfl
theorem wCells_length (l : List (Int × Int)) : (wCells l).length = l.length * 2 := by
  induction l with
  | nil => rfl
  | cons x l ih => simp only [wCells, List.flatMap_cons, List.length_append, List.length_cons] at ih ⊢; rw [ih]; simp [winC]; omega
theorem wCells_get (l : List (Int × Int)) (i : Nat) (x : Int × Int) (h : l[i]? = some x) (j : Nat) (hj : j < 2) : (wCells l)[i * 2 + j]? = (winC x)[j]? := by
  induction l generalizing i with
  | nil => simp at h
  | cons y l ih =>
    cases i with
    | zero =>
      simp only [List.getElem?_cons_zero, Option.some.injEq] at h
      subst h
      simp only [wCells, List.flatMap_cons]
      rw [List.getElem?_append_left (by simp [winC]; omega)]
      simp
    | succ i =>
      simp only [List.getElem?_cons_succ] at h
      have := ih i h
      simp only [wCells, List.flatMap_cons] at this ⊢
      rw [List.getElem?_append_right (by simp [winC]; omega)]
      rw [← this]
      congr 1
      simp [winC]; omega
theorem win_cells {w : World} {b o : Nat} {l : List (Int × Int)} (h : Cells w b o (wCells l)) (k : Nat) (x : Int × Int) (hx : l[k]? = some x) :
    w.cell? ⟨b, o + k * 2, none⟩ = some (.int .i64 x.1) ∧ w.cell? ⟨b, o + k * 2 + 1, none⟩ = some (.int .i64 x.2) := by
  have h0 := h (k * 2 + 0) _ ((wCells_get l k x hx 0 (by omega)).trans rfl)
  have h1 := h (k * 2 + 1) _ ((wCells_get l k x hx 1 (by omega)).trans rfl)
  simp only [Nat.add_zero, ← Nat.add_assoc] at h0 h1
  exact ⟨h0, h1⟩
theorem Row.posW {w : World} {B : Nat} {A : Option Addr} {l : List (Int × Int)} (h : Row w B A (wCells l)) (hl : 0 < l.length) : ∃ b o, A = some ⟨b, o, none⟩ ∧ b < B ∧ Cells w b o (wCells l) := by
  rcases h with h | h
  · have := wCells_length l; rw [h] at this; simp at this; omega
  · exact h
theorem Tryz.infoWin : (Tryz.prog.info? 58).map (fun i => (i.zero, i.size, i.bytes)) = some (some (.agg #[.int .i64 0, .int .i64 0]), 2, 16) := by kernel_rfl

end Go.Proofs.YtbimiojoihfnkaaGreatDoor
