/- twin.above at the seven names, with the closure of CheckProps. Printed by gen_PrF.py. -/
import Derived.Test.YtldlfgaaolehoaaGreatDoorPrC
namespace Go.Proofs.YtldlfgaaolehoaaGreatDoor
open Go.RowKit

/-- The ranks above a rank. -/
def ups (j : Nat) : List Nat :=
  match j with
  | 1 => [0]
  | 2 => [0, 1]
  | 3 => [0]
  | 6 => [5]
  | _ => []
def inF (l : List Pr) (i : Nat) : Bool := l.any (fun p => p.1 == i)
def abvF (l : List Pr) (j : Nat) : Bool := (ups j).any (inF l)
theorem inF_true {l : List Pr} {i q : Nat} {v : Pv} (h : l[q]? = some (i, v)) : inF l i = true := by
  unfold inF
  rw [List.any_eq_true]
  exact ⟨(i, v), List.mem_of_getElem? h, by simp⟩
theorem inF_false {l : List Pr} {i : Nat} (h : ∀ x ∈ l, x.1 ≠ i) : inF l i = false := by
  unfold inF
  rw [List.any_eq_false]
  intro x hx
  simpa using h x hx
set_option maxRecDepth 100000 in
theorem closure1_any (l : List Pr) (n c i bl : Nat) (A : Option Addr) (w : World) (hl : PrsOk l) (hn : l.length = n) (hn7 : n ≤ 500) (hi : i < 7) (hr : Row w w.heap.size A (recs prC l)) (hc : w.cell? ⟨bl, 0, none⟩ = some (.slice A n c)) :
    Calls Tryz.prog 124 #[.string (nm i), .pointer (some ⟨bl, 0, none⟩)] w fun e w' => e = .returned (.bool (inF l i)) ∧ Below w.heap.size w w' := by
  have HF := Lib.hid (find_any l n c i A w hl hn hn7 hi hr)
  clear hl hn hr
  go_enter Tryz.func124, Tryz.ntmps124
  go_wp2_with (fail)
  refine HF.out.mono ?_
  rintro e w1 ⟨r, rfl, hr1, hb1⟩
  have HB := Lib.hid hb1
  clear hb1
  rcases hr1 with ⟨q, v, rfl, hq⟩ | ⟨rfl, hno⟩
  · have hin := Lib.hid (inF_true hq)
    clear hq
    go_wp2_with (fail)
    go_ret
    exact ⟨by rw [hin.out]; rfl, HB.out⟩
  · have hin := Lib.hid (inF_false hno)
    clear hno
    go_wp2_with (fail)
    go_ret
    exact ⟨by rw [hin.out]; rfl, HB.out⟩
/-- What the closure needs. -/
def ClH (l : List Pr) (f : Value) (w : World) : Prop := ∀ V, Below w.heap.size w V → ∀ i, i < 7 → Calls Tryz.prog 124 #[.string (nm i), f] V fun e w' => e = .returned (.bool (inF l i)) ∧ Below V.heap.size V w'

theorem aboveN_0 (l : List Pr) (a : Value) (w : World) (h : ClH l a w) : Calls Tryz.prog 123 #[.string ⟨#[97]⟩, .func (.func 124) #[] #[a]] w fun e w' => e = .returned (.bool (abvF l 0)) ∧ Below w.heap.size w w' := by
  have HC := Lib.hid h
  clear h
  go_enter Tryz.func123, Tryz.ntmps123
  go_wp2_with (fail)
  refine wp_loop_rounds 2 ?_
  rw [rounds_succ]
  go_wp2_with (fail)
  rw [rounds_succ]
  go_wp2_with (fail)
  go_ret
  exact ⟨by rw [show abvF l 0 = false by simp [abvF, ups]]; rfl, Below.refl _ _⟩
theorem aboveN_1 (l : List Pr) (a : Value) (w : World) (h : ClH l a w) : Calls Tryz.prog 123 #[.string ⟨#[97, 46, 120]⟩, .func (.func 124) #[] #[a]] w fun e w' => e = .returned (.bool (abvF l 1)) ∧ Below w.heap.size w w' := by
  have HC := Lib.hid h
  clear h
  go_enter Tryz.func123, Tryz.ntmps123
  go_wp2_with (fail)
  refine wp_loop_rounds 4 ?_
  rw [rounds_succ]
  go_wp2_with (fail)
  rw [rounds_succ]
  go_wp2_with (fail)
  refine (HC.out _ (Below.refl _ _) 0 (by omega)).mono ?_
  rintro e w1 ⟨rfl, hb1⟩
  have HB1 := Lib.hid hb1
  clear hb1
  by_cases hq1 : inF l 0 = true
  · have hab := Lib.hid (show abvF l 1 = true by simp [abvF, ups, hq1])
    rw [hq1]
    clear hq1
    go_wp2_with (fail)
    go_ret
    exact ⟨by rw [hab.out]; rfl, HB1.out⟩
  have hz1 : inF l 0 = false := by simpa using hq1
  rw [hz1]
  have HZ1 := Lib.hid hz1
  clear hq1 hz1
  go_wp2_with (fail)
  rw [rounds_succ]
  go_wp2_with (fail)
  rw [rounds_succ]
  go_wp2_with (fail)
  go_ret
  exact ⟨by rw [show abvF l 1 = false by simp [abvF, ups, HZ1.out]]; rfl, HB1.out⟩
theorem aboveN_2 (l : List Pr) (a : Value) (w : World) (h : ClH l a w) : Calls Tryz.prog 123 #[.string ⟨#[97, 46, 120, 46, 112]⟩, .func (.func 124) #[] #[a]] w fun e w' => e = .returned (.bool (abvF l 2)) ∧ Below w.heap.size w w' := by
  have HC := Lib.hid h
  clear h
  go_enter Tryz.func123, Tryz.ntmps123
  go_wp2_with (fail)
  refine wp_loop_rounds 6 ?_
  rw [rounds_succ]
  go_wp2_with (fail)
  rw [rounds_succ]
  go_wp2_with (fail)
  refine (HC.out _ (Below.refl _ _) 0 (by omega)).mono ?_
  rintro e w1 ⟨rfl, hb1⟩
  have HB1 := Lib.hid hb1
  clear hb1
  by_cases hq1 : inF l 0 = true
  · have hab := Lib.hid (show abvF l 2 = true by simp [abvF, ups, hq1])
    rw [hq1]
    clear hq1
    go_wp2_with (fail)
    go_ret
    exact ⟨by rw [hab.out]; rfl, HB1.out⟩
  have hz1 : inF l 0 = false := by simpa using hq1
  rw [hz1]
  have HZ1 := Lib.hid hz1
  clear hq1 hz1
  go_wp2_with (fail)
  rw [rounds_succ]
  go_wp2_with (fail)
  rw [rounds_succ]
  go_wp2_with (fail)
  refine (HC.out _ HB1.out 1 (by omega)).mono ?_
  rintro e w2 ⟨rfl, hb2⟩
  have HB2 := Lib.hid (HB1.out.trans (hb2.mono HB1.out.size))
  clear hb2
  by_cases hq2 : inF l 1 = true
  · have hab := Lib.hid (show abvF l 2 = true by simp [abvF, ups, hq2])
    rw [hq2]
    clear hq2
    go_wp2_with (fail)
    go_ret
    exact ⟨by rw [hab.out]; rfl, HB2.out⟩
  have hz2 : inF l 1 = false := by simpa using hq2
  rw [hz2]
  have HZ2 := Lib.hid hz2
  clear hq2 hz2
  go_wp2_with (fail)
  rw [rounds_succ]
  go_wp2_with (fail)
  rw [rounds_succ]
  go_wp2_with (fail)
  go_ret
  exact ⟨by rw [show abvF l 2 = false by simp [abvF, ups, HZ1.out, HZ2.out]]; rfl, HB2.out⟩
theorem aboveN_3 (l : List Pr) (a : Value) (w : World) (h : ClH l a w) : Calls Tryz.prog 123 #[.string ⟨#[97, 46, 121]⟩, .func (.func 124) #[] #[a]] w fun e w' => e = .returned (.bool (abvF l 3)) ∧ Below w.heap.size w w' := by
  have HC := Lib.hid h
  clear h
  go_enter Tryz.func123, Tryz.ntmps123
  go_wp2_with (fail)
  refine wp_loop_rounds 4 ?_
  rw [rounds_succ]
  go_wp2_with (fail)
  rw [rounds_succ]
  go_wp2_with (fail)
  refine (HC.out _ (Below.refl _ _) 0 (by omega)).mono ?_
  rintro e w1 ⟨rfl, hb1⟩
  have HB1 := Lib.hid hb1
  clear hb1
  by_cases hq1 : inF l 0 = true
  · have hab := Lib.hid (show abvF l 3 = true by simp [abvF, ups, hq1])
    rw [hq1]
    clear hq1
    go_wp2_with (fail)
    go_ret
    exact ⟨by rw [hab.out]; rfl, HB1.out⟩
  have hz1 : inF l 0 = false := by simpa using hq1
  rw [hz1]
  have HZ1 := Lib.hid hz1
  clear hq1 hz1
  go_wp2_with (fail)
  rw [rounds_succ]
  go_wp2_with (fail)
  rw [rounds_succ]
  go_wp2_with (fail)
  go_ret
  exact ⟨by rw [show abvF l 3 = false by simp [abvF, ups, HZ1.out]]; rfl, HB1.out⟩
theorem aboveN_4 (l : List Pr) (a : Value) (w : World) (h : ClH l a w) : Calls Tryz.prog 123 #[.string ⟨#[97, 98]⟩, .func (.func 124) #[] #[a]] w fun e w' => e = .returned (.bool (abvF l 4)) ∧ Below w.heap.size w w' := by
  have HC := Lib.hid h
  clear h
  go_enter Tryz.func123, Tryz.ntmps123
  go_wp2_with (fail)
  refine wp_loop_rounds 3 ?_
  rw [rounds_succ]
  go_wp2_with (fail)
  rw [rounds_succ]
  go_wp2_with (fail)
  rw [rounds_succ]
  go_wp2_with (fail)
  go_ret
  exact ⟨by rw [show abvF l 4 = false by simp [abvF, ups]]; rfl, Below.refl _ _⟩
theorem aboveN_5 (l : List Pr) (a : Value) (w : World) (h : ClH l a w) : Calls Tryz.prog 123 #[.string ⟨#[98]⟩, .func (.func 124) #[] #[a]] w fun e w' => e = .returned (.bool (abvF l 5)) ∧ Below w.heap.size w w' := by
  have HC := Lib.hid h
  clear h
  go_enter Tryz.func123, Tryz.ntmps123
  go_wp2_with (fail)
  refine wp_loop_rounds 2 ?_
  rw [rounds_succ]
  go_wp2_with (fail)
  rw [rounds_succ]
  go_wp2_with (fail)
  go_ret
  exact ⟨by rw [show abvF l 5 = false by simp [abvF, ups]]; rfl, Below.refl _ _⟩
theorem aboveN_6 (l : List Pr) (a : Value) (w : World) (h : ClH l a w) : Calls Tryz.prog 123 #[.string ⟨#[98, 46, 122]⟩, .func (.func 124) #[] #[a]] w fun e w' => e = .returned (.bool (abvF l 6)) ∧ Below w.heap.size w w' := by
  have HC := Lib.hid h
  clear h
  go_enter Tryz.func123, Tryz.ntmps123
  go_wp2_with (fail)
  refine wp_loop_rounds 4 ?_
  rw [rounds_succ]
  go_wp2_with (fail)
  rw [rounds_succ]
  go_wp2_with (fail)
  refine (HC.out _ (Below.refl _ _) 5 (by omega)).mono ?_
  rintro e w1 ⟨rfl, hb1⟩
  have HB1 := Lib.hid hb1
  clear hb1
  by_cases hq1 : inF l 5 = true
  · have hab := Lib.hid (show abvF l 6 = true by simp [abvF, ups, hq1])
    rw [hq1]
    clear hq1
    go_wp2_with (fail)
    go_ret
    exact ⟨by rw [hab.out]; rfl, HB1.out⟩
  have hz1 : inF l 5 = false := by simpa using hq1
  rw [hz1]
  have HZ1 := Lib.hid hz1
  clear hq1 hz1
  go_wp2_with (fail)
  rw [rounds_succ]
  go_wp2_with (fail)
  rw [rounds_succ]
  go_wp2_with (fail)
  go_ret
  exact ⟨by rw [show abvF l 6 = false by simp [abvF, ups, HZ1.out]]; rfl, HB1.out⟩
theorem above_nm (l : List Pr) (a : Value) (j : Nat) (w : World) (hj : j < 7) (h : ClH l a w) : Calls Tryz.prog 123 #[.string (nm j), .func (.func 124) #[] #[a]] w fun e w' => e = .returned (.bool (abvF l j)) ∧ Below w.heap.size w w' := by
  have h1 : j = 0 ∨ j = 1 ∨ j = 2 ∨ j = 3 ∨ j = 4 ∨ j = 5 ∨ j = 6 := by omega
  rcases h1 with e | e | e | e | e | e | e <;> subst e
  · exact aboveN_0 l a w h
  · exact aboveN_1 l a w h
  · exact aboveN_2 l a w h
  · exact aboveN_3 l a w h
  · exact aboveN_4 l a w h
  · exact aboveN_5 l a w h
  · exact aboveN_6 l a w h
end Go.Proofs.YtldlfgaaolehoaaGreatDoor
