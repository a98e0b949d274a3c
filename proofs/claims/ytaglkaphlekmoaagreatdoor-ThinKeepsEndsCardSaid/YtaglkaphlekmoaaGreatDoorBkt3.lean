/- series.added: one contract. -/
import Derived.Test.YtaglkaphlekmoaaGreatDoorBktT
import Derived.Test.YtaglkaphlekmoaaGreatDoorBkt2
import Derived.Test.YtaglkaphlekmoaaGreatDoorBktL
namespace Go.Proofs.YtaglkaphlekmoaaGreatDoor
open Go.RowKit

theorem added_any (w : World) (base n k : Nat) (L : Int) (l : List Bkt) (b : Bkt) (v : Value) (hn : l.length = n) (hn2 : n ≤ 1000) (hk : k ≤ 1000) (hbase : base ≤ w.heap.size) (hown : w.ownsRow base 84 8 v n (bCells l)) (hl : ∀ x ∈ l, BOk L k x) (hb : BOk L k b) :
    Calls Tryz.prog 71 #[v, bktV b] w fun e w' => ∃ v', e = .returned v' ∧ w'.ownsRow base 84 8 v' (addB l b).length (bCells (addB l b)) ∧ w.grownBy w' v.ownBlock ∧ Moved w v v' := by
  rcases List.eq_nil_or_concat l with rfl | ⟨l, x, rfl⟩
  · have hn0 : n = 0 := by simpa using hn.symm
    subst hn0
    obtain ⟨A, c, rfl⟩ := own_slice hown
    exact added_empty w base c A b hbase (by simpa [bCells] using hown)
  · rw [List.concat_eq_append] at *
    obtain ⟨m, rfl⟩ : ∃ m, n = m + 1 := ⟨l.length, by simpa using hn.symm⟩
    have hm : l.length = m := by simpa using hn
    obtain ⟨g, cap, rfl⟩ : ∃ g cap, v = .slice (some ⟨g, 0, none⟩) (m + 1) cap := by
      rcases hown.2 with ⟨_, h⟩ | ⟨g, cap, cur, hv, _⟩
      · omega
      · exact ⟨g, cap, hv⟩
    have hx := hl x (by simp)
    by_cases e : x.fr = b.fr
    · rw [addB_same _ _ _ e]
      refine (added_merge w base m cap g l x b hm (by omega) hown e (by rw [hx.to_, hb.to_, e]) ⟨by have := hx.c0; omega, by have := hx.c1; omega⟩ ⟨by have := hb.c0; omega, by have := hb.c1; omega⟩ ⟨by have := hx.s0; omega, by have := hx.s1; omega⟩ ⟨by have := hb.s0; omega, by have := hb.s1; omega⟩).mono ?_
      rintro e w' ⟨rfl, h1, h2⟩
      refine ⟨_, rfl, ?_, h2, Moved.refl _ _⟩
      simpa [hm] using h1
    · rw [addB_new _ _ _ e]
      refine (added_differ w base m cap g l x b hm (by omega) hbase hown e).mono ?_
      rintro e w' ⟨v', rfl, h1, h2⟩
      refine ⟨v', rfl, ?_, h2⟩
      simpa [hm] using h1
end Go.Proofs.YtaglkaphlekmoaaGreatDoor
