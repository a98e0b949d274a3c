/- What every law's row needs: the last step, and the stream that the argument makes. -/
import Derived.Test.YtnmgfnnkcenfeaaGreatDoorStream
import Derived.OpenShut
import Derived.SizedLaws
import Derived.ProofKit
import Derived.LaidMore
import Derived.Lay
import Derived.Below
import Derived.ChangeSame
import Derived.SevenTiedAt
import Derived.Stop.Joined
namespace Go.Proofs.YtnmgfnnkcenfeaaGreatDoor
open Go.ChangeShapes Go.WideShapes Go.ChangeAt Go.RowKit

theorem strm_some (W : World) (a : Addr) (len cap : Nat) (zs : List Int) (hl : len ≤ cap) (hz : zs.length = cap) (h44 : cap ≤ 17592186044416)
    (hcell : ∀ i, i < zs.length → W.cell? (a.add i) = some (.int .i64 (zs.getD i 0))) (V : World) (hB : Below W.heap.size W V) (hV : V.heap[W.heap.size]? = some (.cells #[.slice (some a) len cap, .int .i64 0] 25)) :
    Strm V W.heap.size ⟨zs.take len, some a, cap⟩ 0 := by
  have hlen : (zs.take len).length = len := by rw [List.length_take]; omega
  refine ⟨by simp only; omega, by simp only; rw [hlen]; exact hV, ?_⟩
  show Row V W.heap.size (some a) ((zs.take len).map (Value.int .i64))
  by_cases h0 : len = 0
  · left; rw [h0]; rfl
  · obtain ⟨b, off, rfl, hc⟩ := ints_at hcell (by omega)
    right
    refine ⟨b, off, rfl, World.block_lt_of_cell? W ⟨b, off + 0, none⟩ ((hc 0 (by omega)).trans rfl), ?_⟩
    intro j v hv
    rw [List.getElem?_map] at hv
    obtain ⟨z, hz1, rfl⟩ := Option.map_eq_some_iff.1 hv
    have hj : j < len := by
      have := (List.getElem?_eq_some_iff.1 hz1).1
      omega
    rw [List.getElem?_take_of_lt hj] at hz1
    have hc2 := hc j (by omega)
    have hzz : zs.getD j 0 = z := by simp [List.getD, hz1]
    rw [hzz] at hc2
    exact (hB.cell (p := ⟨b, off + j, none⟩) (World.block_lt_of_cell? W ⟨b, off + j, none⟩ hc2)).trans hc2
theorem strm_none (W V : World) (hV : V.heap[W.heap.size]? = some (.cells #[.slice none 0 0, .int .i64 0] 25)) : Strm V W.heap.size ⟨[], none, 0⟩ 0 := ⟨by simp, hV, .inl rfl⟩

theorem own : ownKnob Tryz.prog.godebug = none := by kernel_rfl

section
variable {H : Type} {enc : TypeId × Value → H} {P : Program}
/-- The last step, where what lay below is kept and no more is known. -/
theorem post_kept {f : Func} {s : ChangeSpec} {apart fresh handsOn again : Bool} {W W' : World} {args : Array Value} {v : Value} {ds gs : List (DataW H)} {before pa pv : List MemPlace}
    (hW : DataW.Whole enc P f.params.toList s.vars apart W args.toList ds gs before)
    (hres : ∀ (b : Nat) (sp : Nat → Bool) (hd : Bool), DataW.TrodAll enc P W' b sp hd f.resultTypes.toList (v.resultList f.resultTypes.size) (s.fn H (ds ++ gs)).results [])
    (hargs : ∀ sp : Nat → Bool, (∀ p ∈ before, sp p.block = true) → DataW.TrodAll enc P W' 0 sp true f.params.toList args.toList (s.fn H (ds ++ gs)).args pa)
    (hvars : ∀ sp : Nat → Bool, (∀ p ∈ before, sp p.block = true) → DataW.TrodVars enc P W' sp s.vars (s.fn H (ds ++ gs)).vars pv)
    (hps : before = pa ++ pv) (hb : Below W.heap.size W W')
    (hok : ∀ (j : Nat) (t : TypeId) (r : Value), f.resultTypes[j]? = some t → (v.resultList f.resultTypes.size)[j]? = some r → Value.okWide P W' .any 0 t r) :
    s.post enc P f apart fresh handsOn again W args v W' := by
  have hlt : ∀ p ∈ before, p.block < W.heap.size := fun p hp => hW.lt p hp
  have hold : ∀ p ∈ before, (fun b => decide (b < W.heap.size)) p.block = true := fun p hp => by simpa using hlt p hp
  refine ⟨ds, gs, before, [], pa, pv, hW, hres _ _ _, hargs _ hold, hvars _ hold, World.keptBut_mono (fun p hp => ⟨hp, ?_⟩) (hb.frame (· ∈ before)), fun _ => ?_⟩
  · rw [hps, List.mem_append] at hp
    exact Or.inr hp
  · obtain ⟨_, _, _, _, _, hz, hn⟩ := hW
    refine ⟨hok, _, _, ([] ++ pa) ++ pv, ⟨[] ++ pa, pv, trodAll_append (hargs _ (fun _ _ => rfl)) (hres _ _ _), hvars _ (fun _ _ => rfl), rfl, ?_, ?_⟩, ?_⟩
    · intro b off hp
      have hin : MemPlace.cell b off ∈ before := by rw [hps]; simpa using hp
      rw [hb.frozen (hlt _ hin)]
      exact hz b off hin
    · intro ha
      have := hn ha
      rw [hps] at this
      simpa using this
    · intro p hp _
      rw [hps]
      simpa using hp
end

end Go.Proofs.YtnmgfnnkcenfeaaGreatDoor
