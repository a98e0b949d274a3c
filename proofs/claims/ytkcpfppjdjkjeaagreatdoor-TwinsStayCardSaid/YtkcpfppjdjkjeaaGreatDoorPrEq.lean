/- slices.Equal of properties by its contract. -/
import Derived.Test.YtkcpfppjdjkjeaaGreatDoorMgB
namespace Go.Proofs.YtkcpfppjdjkjeaaGreatDoor
open Go.RowKit

set_option maxHeartbeats 2000000 in
theorem eqP_any (l : List Pr) (n c c' : Nat) (A A' : Option Addr) (w : World) (hn : l.length = n) (hn2 : n ≤ 1000000) (hr : Row w w.heap.size A (recs prC l)) (hr' : Row w w.heap.size A' (recs prC l)) :
    Calls Tryz.prog 15 #[.slice A n c, .slice A' n c'] w fun e w' => e = .returned (.bool true) ∧ Below w.heap.size w w' := by
  have HR := Lib.hid hr
  have HR' := Lib.hid hr'
  have HN := Lib.hid hn
  clear hr hr' hn
  go_enter Tryz.func15, Tryz.ntmps15
  go_wp2_with (fail)
  go_loopw [13] (fun i wr => ∃ k : Nat, k ≤ n ∧ i = .int .i64 k ∧ Below w.heap.size w wr) (fun i _ => n - (intOf i).toNat)
  case atStart => exact ⟨0, Nat.zero_le _, rfl, Below.refl _ _⟩
  case round =>
    obtain ⟨k, hk, rfl, hbl⟩ := hrel
    by_cases hlt : k < n
    · have hkl : k < l.length := by have := HN.out; omega
      obtain ⟨b, o, rfl, hb, hc⟩ := (HR.out).posR prC_len (by omega) (by omega)
      obtain ⟨b', o', rfl, hb', hc'⟩ := (HR'.out).posR prC_len (by omega) (by omega)
      obtain ⟨x, hx⟩ : ∃ x, l[k]? = some x := ⟨_, List.getElem?_eq_getElem hkl⟩
      obtain ⟨c0, c1, c2, c3, c4⟩ := pr_cells (hc.keep (hbl.block b hb)) k x hx
      obtain ⟨d0, d1, d2, d3, d4⟩ := pr_cells (hc'.keep (hbl.block b' hb')) k x hx
      have HBL := Lib.hid hbl
      have hlt' : (k : Int) < (n : Int) := by omega
      clear hbl hx hkl hc hc'
      go_wp2_with (fail)
      go_quiet (fail)
      go_wp2_with (fail)
      go_roundw
      case rel => exact ⟨k + 1, by omega, by go_num, below_drewN HBL.out _⟩
      case measure => simp [intOf]; omega
    · have HBL := Lib.hid hbl
      clear hbl
      go_wp2_with (fail)
      go_ret
      exact ⟨rfl, HBL.out⟩
end Go.Proofs.YtkcpfppjdjkjeaaGreatDoor
