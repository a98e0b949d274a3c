/- slices.Compact of samples that rise: nothing is done. -/
import Derived.Test.YtnmgfnnkcenfeaaGreatDoorSxA
namespace Go.Proofs.YtnmgfnnkcenfeaaGreatDoor
open Go.RowKit

/-- No two samples are of one moment. -/
def NoTwX (l : List Smp) : Prop := ∀ (i j : Nat) x y, i ≠ j → l[i]? = some x → l[j]? = some y → x.1 ≠ y.1
theorem NoTwX.perm {l m : List Smp} (h : l.Pairwise (fun x y => x.1 < y.1)) (hp : m.Perm l) : NoTwX m := by
  have h1 : l.Pairwise (fun x y => x.1 ≠ y.1) := h.imp (fun h => by omega)
  have h2 : m.Pairwise (fun x y => x.1 ≠ y.1) := hp.symm.pairwise h1 (fun h e => h e.symm)
  intro i j x y hij hx hy
  obtain ⟨a1, a2⟩ := List.getElem?_eq_some_iff.1 hx
  obtain ⟨b1, b2⟩ := List.getElem?_eq_some_iff.1 hy
  rw [List.pairwise_iff_getElem] at h2
  rcases Nat.lt_or_gt_of_ne hij with h | h
  · have := h2 i j a1 b1 h
    rw [a2, b2] at this
    exact this
  · have := h2 j i b1 a1 h
    rw [a2, b2] at this
    exact fun e => this e.symm
set_option maxRecDepth 100000 in
set_option maxHeartbeats 2000000 in
theorem compactX_no (l : List Smp) (n c : Nat) (A : Option Addr) (w : World) (hn : l.length = n) (hn5 : n ≤ 5000) (hl : NoTwX l) (hr : Row w w.heap.size A (recs smpC l)) :
    Calls Tryz.prog 32 #[.slice A n c] w fun e w' => e = .returned (.slice A n c) ∧ Below w.heap.size w w' := by
  have HR := Lib.hid hr
  have HL := Lib.hid hl
  clear hr hl
  by_cases h2 : n < 2
  · have h2I : (n : Int) < 2 := by omega
    go_enter Tryz.func32, Tryz.ntmps32
    go_wp2_with (fail)
    go_ret
    exact ⟨rfl, Below.refl _ _⟩
  have h2I : ¬ (n : Int) < 2 := by omega
  go_enter Tryz.func32, Tryz.ntmps32
  go_wp2_with (fail)
  go_loopw [3] (fun i wr => ∃ k : Nat, 1 ≤ k ∧ k ≤ n ∧ i = .int .i64 k ∧ Below w.heap.size w wr) (fun i _ => n - (intOf i).toNat)
  case atStart => exact ⟨1, Nat.le_refl _, by omega, rfl, Below.refl _ _⟩
  case round =>
    obtain ⟨k, hk1, hk, rfl, hbl⟩ := hrel
    have HBL := Lib.hid hbl
    by_cases hlt : k < n
    · obtain ⟨b, o, rfl, hb, hc⟩ := Row.posR smpC_len (by omega) HR.out (by omega)
      obtain ⟨j, rfl⟩ : ∃ j, k = j + 1 := ⟨k - 1, by omega⟩
      obtain ⟨x, hx⟩ : ∃ x, l[j + 1]? = some x := ⟨_, List.getElem?_eq_getElem (by omega)⟩
      obtain ⟨y, hy⟩ : ∃ y, l[j]? = some y := ⟨_, List.getElem?_eq_getElem (by omega)⟩
      obtain ⟨c0, c1, c2, c3⟩ := smp_cells (hc.keep (hbl.block b hb)) (j + 1) x hx
      obtain ⟨d0, d1, d2, d3⟩ := smp_cells (hc.keep (hbl.block b hb)) j y hy
      have hne := HL.out (j + 1) j x y (by omega) hx hy
      obtain ⟨x0, x1⟩ := x
      obtain ⟨y0, y1⟩ := y
      simp only at c2 c3 d2 d3 hne
      have h1b : (x0 == y0) = false := by simpa using hne
      have hlt' : ((j + 1 : Nat) : Int) < (n : Int) := by omega
      have hw : IntKind.i64.wrap (j : Int) = (j : Int) := by rw [IntKind.wrap_i64]; omega
      have hjn : (j : Int) < (n : Int) := by omega
      have hjn' : j < n := by omega
      clear hbl hc hx hy hne
      go_wp2_with (fail)
      go_quiet (fail)
      go_wp2_with (fail)
      go_roundw
      case rel => exact ⟨j + 1 + 1, by omega, by omega, by go_num, below_drewN HBL.out _⟩
      case measure => simp [intOf]; omega
    · have hlt' : ¬ (k : Int) < (n : Int) := by omega
      clear hbl
      go_wp2_with (fail)
      go_ret
      exact ⟨rfl, HBL.out⟩
end Go.Proofs.YtnmgfnnkcenfeaaGreatDoor
