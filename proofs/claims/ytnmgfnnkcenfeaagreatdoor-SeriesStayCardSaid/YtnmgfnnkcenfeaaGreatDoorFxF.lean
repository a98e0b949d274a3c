/- Flip of the stream by its contract. -/
import Derived.Test.YtnmgfnnkcenfeaaGreatDoorStream
import Derived.Test.YtnmgfnnkcenfeaaGreatDoorRec
namespace Go.Proofs.YtnmgfnnkcenfeaaGreatDoor
open Go.RowKit

theorem cells_atF {w : World} {cs : Array Value} {t : TypeId} {f : Nat × Nat} {xs : List Value} {n : Nat} (h : cs.toList = xs) (hn : n = w.heap.size) : Cells (w.alloc (.cells cs t f)) n 0 xs := by
  subst hn; exact Cells.new _ _ _ _ _ h
theorem flip_any (w : World) (p k : Nat) (xs : LiA) (m : Int) (hm : 1 ≤ m) (hm2 : m ≤ 1000) (hk : k < 1000000) (hs : Strm w p xs k) :
    Calls Tryz.prog 24 #[.pointer (some ⟨p, 0, none⟩), .int .i64 m] w fun e w' => ∃ b : Bool, e = .returned (.bool b) ∧ Strm w' p xs (k + 1) ∧ w.grownBy w' (some p) := by
  have HS := Lib.hid hs
  clear hs
  obtain ⟨v, ev⟩ : ∃ v, v = nextV xs k m := ⟨_, rfl⟩
  have HN := Lib.hid (next_any w p k xs m (by omega) hk HS.out)
  rw [← ev] at HN
  clear ev
  go_enter Tryz.func24, Tryz.ntmps24
  go_wp2_with (fail)
  refine HN.out.mono ?_
  rintro e w' ⟨rfl, hs', hg'⟩
  have H := Lib.hid (And.intro hs' hg')
  clear hs' hg'
  go_wp2_with (fail)
  go_ret
  exact ⟨_, rfl, H.out.1, H.out.2⟩

end Go.Proofs.YtnmgfnnkcenfeaaGreatDoor
