/- slices.Equal of bytes and of buckets. -/
import Derived.Test.YtbimiojoihfnkaaGreatDoorSeven
namespace Go.Proofs.YtbimiojoihfnkaaGreatDoor
open Go.RowKit

set_option maxHeartbeats 1000000 in
theorem eqBytes_some (xs : List Int) (n c b o c' b' o' : Nat) (w : World) (hn : xs.length = n) (hn2 : n ≤ 1000000) (hb : b < w.heap.size) (hb' : b' < w.heap.size) (hc : Cells w b o (bytesV xs)) (hc' : Cells w b' o' (bytesV xs)) :
    Calls Tryz.prog 49 #[.slice (some ⟨b, o, none⟩) n c, .slice (some ⟨b', o', none⟩) n c'] w fun e w' => e = .returned (.bool true) ∧ Below w.heap.size w w' := by
  have HC := Lib.hid hc
  have HC' := Lib.hid hc'
  have HN := Lib.hid hn
  clear hc hc' hn
  go_enter Tryz.func49, Tryz.ntmps49
  go_wp2_with (fail)
  go_loopw [13] (fun i wr => ∃ k : Nat, k ≤ n ∧ i = .int .i64 k ∧ Below w.heap.size w wr) (fun i _ => n - (intOf i).toNat)
  case atStart => exact ⟨0, Nat.zero_le _, rfl, Below.refl _ _⟩
  case round =>
    obtain ⟨k, hk, rfl, hbl⟩ := hrel
    by_cases hlt : k < n
    · have hkx : k < xs.length := by have := HN.out; omega
      obtain ⟨x, hx⟩ : ∃ x, xs[k]? = some x := ⟨_, List.getElem?_eq_getElem hkx⟩
      have d1 := (HC.out.keep (hbl.block b hb)) k (.int .u8 x) (by simp [bytesV, hx])
      have d2 := (HC'.out.keep (hbl.block b' hb')) k (.int .u8 x) (by simp [bytesV, hx])
      have HBL := Lib.hid hbl
      have hlt' : (k : Int) < (n : Int) := by omega
      clear hbl hx hkx
      go_wp2_with (fail)
      go_quiet (fail)
      go_wp2_with (fail)
      go_roundw
      case rel => exact ⟨k + 1, by omega, by go_num, below_drewN HBL.out _⟩
      case measure => simp [intOf]; omega
    · have HBL := Lib.hid hbl
      clear hbl
      go_wp2_with (fail)
      go_ret
      exact ⟨rfl, HBL.out⟩
theorem eqBytes_empty (A A' : Option Addr) (c c' : Nat) (w : World) : Calls Tryz.prog 49 #[.slice A 0 c, .slice A' 0 c'] w fun e w' => e = .returned (.bool true) ∧ Below w.heap.size w w' := by
  go_enter Tryz.func49, Tryz.ntmps49
  go_wp2_with (fail)
  refine wp_loop_rounds 1 ?_
  rw [rounds_succ]
  go_wp2_with (fail)
  go_ret
  exact ⟨rfl, Below.refl _ _⟩
theorem eqBytes_any (xs : List Int) (n c c' : Nat) (A A' : Option Addr) (w : World) (hn : xs.length = n) (hn2 : n ≤ 1000000) (hr : Row w w.heap.size A (bytesV xs)) (hr' : Row w w.heap.size A' (bytesV xs)) :
    Calls Tryz.prog 49 #[.slice A n c, .slice A' n c'] w fun e w' => e = .returned (.bool true) ∧ Below w.heap.size w w' := by
  rcases hr with h | ⟨b, o, rfl, hb, hc⟩
  · have : n = 0 := by rw [← hn]; have := congrArg List.length h; simpa [bytesV] using this
    rw [this]; exact eqBytes_empty A A' c c' w
  · rcases hr' with h | ⟨b', o', rfl, hb', hc'⟩
    · have : n = 0 := by rw [← hn]; have := congrArg List.length h; simpa [bytesV] using this
      rw [this]; exact eqBytes_empty _ _ c c' w
    · exact eqBytes_some xs n c b o c' b' o' w hn hn2 hb hb' hc hc'
end Go.Proofs.YtbimiojoihfnkaaGreatDoor
