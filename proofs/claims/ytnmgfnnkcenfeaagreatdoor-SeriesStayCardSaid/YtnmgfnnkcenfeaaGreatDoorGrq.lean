/- What has been drawn and laid since, and nothing else; the beginning of an own row; no program in sight. -/
import Derived.Test.YtnmgfnnkcenfeaaGreatDoorRec
import Derived.Test.YtnmgfnnkcenfeaaGreatDoorOwK
import Derived.Test.YtnmgfnnkcenfeaaGreatDoorMgA
import Derived.Shelf.SlSortCmp.SmallK
namespace Go.Proofs.YtnmgfnnkcenfeaaGreatDoor
open Go.RowKit Go.Shelf Go.Sort

def GrW (W V : World) : Prop := ∃ q os', V = grow (W.drewN q) os'
theorem GrW.refl (w : World) : GrW w w := ⟨0, #[], by rw [grow_empty]; rfl⟩
theorem GrW.drew {w v : World} (h : GrW w v) : GrW w v.drew := by
  obtain ⟨q, os, rfl⟩ := h
  exact ⟨q + 1, os, rfl⟩
theorem GrW.alloc {w v : World} (h : GrW w v) (o : Obj) : GrW w (v.alloc o) := by
  obtain ⟨q, os, rfl⟩ := h
  exact ⟨q, os ++ #[o], by rw [alloc_eq_grow, grow_grow]⟩
theorem own_pref {w : World} {base e size n m c : Nat} {A : Option Addr} {xs : List Value} (h : w.ownsRow base e size (.slice A n c) n xs) (hm : m ≤ n) (h0 : 0 < n) : w.ownsRow base e size (.slice A m c) m (xs.take (m * size)) := by
  obtain ⟨h1, h2⟩ := h
  rcases h2 with ⟨_, hn⟩ | ⟨g, cap, cur, hv, hb, hg, hn, hc, hs, ht⟩
  · omega
  · injection hv with e1 e2 e3
    subst e1 e3
    have hle : m * size ≤ n * size := Nat.mul_le_mul_right _ hm
    refine ⟨by rw [List.length_take, h1]; omega, .inr ⟨g, c, cur, rfl, hb, hg, by omega, hc, hs, ?_⟩⟩
    rw [← ht, List.take_take]
    congr 1
    omega
end Go.Proofs.YtnmgfnnkcenfeaaGreatDoor
