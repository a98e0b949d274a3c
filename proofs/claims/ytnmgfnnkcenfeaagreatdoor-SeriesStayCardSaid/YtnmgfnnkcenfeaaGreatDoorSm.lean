/- slices.Equal of equal rows of api.Sample. Printed by gen_EqR.py. -/
import Derived.Test.YtnmgfnnkcenfeaaGreatDoorSxA
import Derived.Test.YtnmgfnnkcenfeaaGreatDoorRec
namespace Go.Proofs.YtnmgfnnkcenfeaaGreatDoor
open Go.RowKit

set_option maxRecDepth 100000 in
set_option maxHeartbeats 2000000 in
theorem eqSm_any (l : List Smp) (n c c' : Nat) (A A' : Option Addr) (w : World) (hn : l.length = n) (hn2 : n ≤ 1000000) (hr : Row w w.heap.size A (recs smpC l)) (hr' : Row w w.heap.size A' (recs smpC l)) :
    Calls Tryz.prog 16 #[.slice A n c, .slice A' n c'] w fun e w' => e = .returned (.bool true) ∧ Below w.heap.size w w' := by
  have HR := Lib.hid hr
  have HR' := Lib.hid hr'
  have HN := Lib.hid hn
  clear hr hr' hn
  go_enter Tryz.func16, Tryz.ntmps16
  go_wp2_with (fail)
  go_loopw [13] (fun i wr => ∃ k : Nat, k ≤ n ∧ i = .int .i64 k ∧ Below w.heap.size w wr) (fun i _ => n - (intOf i).toNat)
  case atStart => exact ⟨0, Nat.zero_le _, rfl, Below.refl _ _⟩
  case round =>
    obtain ⟨k, hk, rfl, hbl⟩ := hrel
    by_cases hlt : k < n
    · have hkl : k < l.length := by have := HN.out; omega
      obtain ⟨b, o, rfl, hb, hc⟩ := (HR.out).posR smpC_len (by omega) (by omega)
      obtain ⟨b', o', rfl, hb', hc'⟩ := (HR'.out).posR smpC_len (by omega) (by omega)
      obtain ⟨x, hx⟩ : ∃ x, l[k]? = some x := ⟨_, List.getElem?_eq_getElem hkl⟩
      have hc2 := hc.keep (hbl.block b hb)
      have hc3 := hc'.keep (hbl.block b' hb')
      have c0 := rec_cell smpC_len hc2 k x hx 0 _ rfl
      simp only [Nat.add_zero] at c0
      have c1 := rec_cell smpC_len hc2 k x hx 1 _ rfl
      have c2 := rec_cell smpC_len hc2 k x hx 2 _ rfl
      have c3 := rec_cell smpC_len hc2 k x hx 3 _ rfl
      have d0 := rec_cell smpC_len hc3 k x hx 0 _ rfl
      simp only [Nat.add_zero] at d0
      have d1 := rec_cell smpC_len hc3 k x hx 1 _ rfl
      have d2 := rec_cell smpC_len hc3 k x hx 2 _ rfl
      have d3 := rec_cell smpC_len hc3 k x hx 3 _ rfl
      have HBL := Lib.hid hbl
      have hlt' : (k : Int) < (n : Int) := by omega
      clear hbl hx hkl hc hc' hc2 hc3
      go_wp2_with (fail)
      go_quiet (fail)
      go_wp2_with (fail)
      go_roundw
      case rel => exact ⟨k + 1, by omega, by go_num, below_drewN HBL.out _⟩
      case measure => simp [intOf]; omega
    · have HBL := Lib.hid hbl
      clear hbl
      go_wp2_with (fail)
      go_ret
      exact ⟨rfl, HBL.out⟩
end Go.Proofs.YtnmgfnnkcenfeaaGreatDoor
