/- Some of the stream by its contract. -/
import Derived.Test.YtkcpfppjdjkjeaaGreatDoorMgC
namespace Go.Proofs.YtkcpfppjdjkjeaaGreatDoor
open Go.RowKit

theorem some_any (w : World) (p k g m c : Nat) (xs : LiA) (vs : List ByteArray) (hk : k < 1000000) (hm : vs.length = m) (h0 : 0 < m) (h1 : m ≤ 1000000) (hs : Strm w p xs k) (hg : g ≠ p)
    (hc : Cells w g 0 (vs.map Value.string)) :
    Calls Tryz.prog 18 #[.pointer (some ⟨p, 0, none⟩), .slice (some ⟨g, 0, none⟩) m c] w fun e w' => e = .returned (.string (vs.getD (nextN xs k m) ⟨#[]⟩)) ∧ Strm w' p xs (k + 1) ∧ w.grownBy w' (some p) := by
  have hj := nextN_lt xs k m h0
  have HE := Lib.hid (nextN_eq xs k m h0)
  obtain ⟨j, ej⟩ : ∃ j, j = nextN xs k m := ⟨_, rfl⟩
  rw [← ej] at HE hj ⊢
  have hcell := hc j (.string (vs.getD j ⟨#[]⟩)) (by simp [List.getElem?_eq_getElem (show j < vs.length by omega)])
  have hlt := World.block_lt_of_cell? w _ hcell
  simp only [Nat.zero_add] at hcell hlt
  obtain ⟨x, ex⟩ : ∃ x, x = vs.getD j ⟨#[]⟩ := ⟨_, rfl⟩
  rw [← ex] at hcell ⊢
  have HS := Lib.hid hs
  clear hs hc ej ex hm
  go_enter Tryz.func18, Tryz.ntmps18
  go_wp2_with (go_at_call 57; refine (next_any _ _ _ xs _ (by omega) hk HS.out).mono ?_; rw [HE.out]; rintro e w' ⟨rfl, hs', hg'⟩; have hc' := hg'.cell hcell (by simpa using hg); clear hcell; have HS' := Lib.hid hs'; have HG' := Lib.hid hg'; clear hs' hg')
  go_ret
  exact ⟨rfl, HS'.out, HG'.out⟩
end Go.Proofs.YtkcpfppjdjkjeaaGreatDoor
