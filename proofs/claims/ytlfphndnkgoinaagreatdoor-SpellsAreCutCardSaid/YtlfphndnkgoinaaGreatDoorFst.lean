/- base.First by its contract. -/
import Derived.Test.YtlfphndnkgoinaaGreatDoorMg0
namespace Go.Proofs.YtlfphndnkgoinaaGreatDoor
open Go.RowKit

theorem first_ok (n c g : Nat) (w : World) (hn : n ≤ 1000) (hc : Cells w g 0 (List.replicate n (.int .i64 0))) :
    Calls Tryz.prog 43 #[.slice (some ⟨g, 0, none⟩) n c] w fun e w' => e = .returned (.int .i64 0) ∧ w = w' := by
  have HC := Lib.hid hc
  clear hc
  go_enter Tryz.func43, Tryz.ntmps43
  go_wp2
  go_loop [7] (fun i => ∃ k : Nat, k ≤ n ∧ i = .int .i64 k) (fun i => n - (intOf i).toNat)
  case atStart => exact ⟨0, Nat.zero_le _, rfl⟩
  case round =>
    obtain ⟨k, hk, rfl⟩ := hrel
    by_cases hlt : k < n
    · have hcell := HC.out k (.int .i64 0) (by simp [hlt])
      simp only [Nat.zero_add] at hcell
      go_wp2
      go_round
      case rel => exact ⟨k + 1, by omega, by go_num⟩
      case measure => simp [intOf]; omega
    · go_wp2
      go_ret
      exact ⟨rfl, rfl⟩
end Go.Proofs.YtlfphndnkgoinaaGreatDoor
