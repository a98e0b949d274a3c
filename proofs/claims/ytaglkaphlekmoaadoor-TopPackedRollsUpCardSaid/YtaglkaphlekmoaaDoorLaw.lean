/- TopPackedRollsUp: from the argument's reading to the walk. -/
import Derived.Test.YtaglkaphlekmoaaDoorTop
import Derived.OpenShut
import Derived.SizedLaws
namespace Go.Proofs.YtaglkaphlekmoaaDoor
open Go.RowKit Go.WideShapes Go.ChangeShapes

/-- The walk, from what 'open_ints' says of the argument. -/
theorem top_call (W : World) (a : Addr) (len cap : Nat) (zs : List Int) (hl : len ≤ cap) (hz : zs.length = cap) (h44 : cap ≤ 17592186044416)
    (hcell : ∀ i, i < zs.length → W.cell? (a.add i) = some (.int .i64 (zs.getD i 0))) :
    Calls Tryd.prog 3 #[.slice (some a) len cap] W fun e w' => e = .returned (.bool true) ∧ Below W.heap.size W w' := by
  have hlen : (zs.take len).length = len := by rw [List.length_take]; omega
  refine top_yes W (zs.take len) len cap (some a) ?_
  intro V hB hV
  refine ⟨by omega, some a, cap, by rw [hlen]; exact hV, ?_⟩
  by_cases h0 : len = 0
  · left; rw [h0]; rfl
  · obtain ⟨b, off, rfl, hc⟩ := ints_at hcell (by omega)
    right
    refine ⟨b, off, rfl, World.block_lt_of_cell? W ⟨b, off + 0, none⟩ ((hc 0 (by omega)).trans rfl), ?_⟩
    intro j v hv
    rw [List.getElem?_map] at hv
    obtain ⟨z, hz1, rfl⟩ := Option.map_eq_some_iff.1 hv
    have hj : j < len := by
      have := (List.getElem?_eq_some_iff.1 hz1).1
      omega
    rw [List.getElem?_take_of_lt hj] at hz1
    have hc2 := hc j (by omega)
    have hzz : zs.getD j 0 = z := by simp [List.getD, hz1]
    rw [hzz] at hc2
    exact (hB.cell (p := ⟨b, off + j, none⟩) (World.block_lt_of_cell? W ⟨b, off + j, none⟩ hc2)).trans hc2
theorem top_nil (W : World) : Calls Tryd.prog 3 #[.slice none 0 0] W fun e w' => e = .returned (.bool true) ∧ Below W.heap.size W w' :=
  top_yes W [] 0 0 none fun V _ hV => ⟨by simp, none, 0, hV, .inl rfl⟩
end Go.Proofs.YtaglkaphlekmoaaDoor
