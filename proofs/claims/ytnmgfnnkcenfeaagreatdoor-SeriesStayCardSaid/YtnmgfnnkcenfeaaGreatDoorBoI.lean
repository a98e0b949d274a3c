/- A map from ints to rows of ints, and the order of its keys; no function of the program in sight. Printed by gen_BoB.py. -/
import Derived.Test.YtnmgfnnkcenfeaaGreatDoorBoA
import Derived.Test.YtnmgfnnkcenfeaaGreatDoorImA
import Derived.Test.YtnmgfnnkcenfeaaGreatDoorPrZ
namespace Go.Proofs.YtnmgfnnkcenfeaaGreatDoor
open Go.RowKit

theorem own_asideB {w w' : World} {base : Nat} {e : TypeId} {size n : Nat} {v : Value} {xs : List Value} {row : Option Nat} (h : w.ownsRow base e size v n xs) (hg : w.grownBy w' row) (hne : ∀ q, v.ownBlock = some q → row ≠ some q) : w'.ownsRow base e size v n xs := by
  refine ⟨h.1, ?_⟩
  have hk : ∀ b, v.ownBlock = some b → w'.heap[b]? = w.heap[b]? := fun b hb => hg.block b (h.lt b hb).2 (fun e => hne b hb e.symm)
  rcases h.2 with h | ⟨g, cap, cur, hv, hb, hh, r⟩
  · exact .inl h
  · exact .inr ⟨g, cap, cur, hv, hb, (hk g (by rw [hv]; rfl)).trans hh, r⟩
theorem own_keptM {w : World} {m base : Nat} {e : TypeId} {size n : Nat} {v : Value} {xs : List Value} (o : Obj) (h : w.ownsRow base e size v n xs) (hne : v.ownBlock ≠ some m) : World.ownsRow { w with heap := w.heap.setIfInBounds m o } base e size v n xs := by
  refine ⟨h.1, ?_⟩
  rcases h.2 with h | ⟨g, cap, cur, hv, hb, hh, r⟩
  · exact .inl h
  · refine .inr ⟨g, cap, cur, hv, hb, ?_, r⟩
    rw [← hh]
    exact Array.getElem?_setIfInBounds_ne (fun e => hne (by rw [hv]; exact congrArg some e.symm))
structure BgI (w wr : World) (m : Nat) (K : ImL) (v : Int → Value) (S : Int → List Int) (vo : Value) (O : List Int) : Prop where
  map : ImI wr m K
  look : ∀ k, (imG k K).getD (.slice none 0 0) = v k
  row : ∀ k, wr.ownsRow w.heap.size 3 1 (v k) (S k).length (inV (S k))
  ap : ∀ k j b, k ≠ j → (v k).ownBlock = some b → (v j).ownBlock ≠ some b
  nm : ∀ k, (v k).ownBlock ≠ some m
  ord : wr.ownsRow w.heap.size 3 1 vo O.length (inV O)
  ao : ∀ k b, vo.ownBlock = some b → (v k).ownBlock ≠ some b
  om : vo.ownBlock ≠ some m
  be : Below w.heap.size w wr
  wm : w.heap.size ≤ m
section
variable {w wr V w' : World} {m : Nat} {K : ImL} {v : Int → Value} {S : Int → List Int} {vo u : Value} {O : List Int} {k : Int}
theorem BgI.below (h : BgI w wr m K v S vo O) (hb : Below wr.heap.size wr V) : BgI w V m K v S vo O :=
  ⟨h.map.below hb, h.look, fun k => own_belowP (h.row k) hb, h.ap, h.nm, own_belowP h.ord hb, h.ao, h.om, h.be.trans (hb.mono h.be.size), h.wm⟩
theorem BgI.app (h : BgI w wr m K v S vo O) (ho : w'.ownsRow w.heap.size 3 1 u (O ++ [k]).length (inV (O ++ [k]))) (hg : wr.grownBy w' vo.ownBlock) (hm : Moved wr vo u) : BgI w w' m K v S u (O ++ [k]) := by
  have hlo : ∀ q, vo.ownBlock = some q → w.heap.size ≤ q := fun q hq => (h.ord.lt q hq).1
  refine ⟨h.map.keep (hg.block m h.map.lt (fun e => h.om e.symm)), h.look, fun k => own_asideB (h.row k) hg (fun q hq e => h.ao k q e hq), h.ap, h.nm, ho, fun k b hb => ?_, fun hb => ?_, h.be.grown hg h.be.size hlo, h.wm⟩
  · rcases hm with hm | ⟨g, hm, hl⟩
    · exact h.ao k b (hm ▸ hb)
    · rw [hm] at hb
      cases hb
      intro e
      have := ((h.row k).lt b e).2
      omega
  · rcases hm with hm | ⟨g, hm, hl⟩
    · exact h.om (hm ▸ hb)
    · rw [hm] at hb
      cases hb
      have := h.map.lt
      omega
theorem BgI.put (h : BgI w wr m K v S vo O) {y : Int} {S' : Int → List Int} (ho : w'.ownsRow w.heap.size 3 1 u (S k ++ [y]).length (inV (S k ++ [y]))) (hg : wr.grownBy w' (v k).ownBlock) (hm : Moved wr (v k) u) (hS : ∀ j, S' j = if j = k then S k ++ [y] else S j) :
    ImI w' m K ∧ BgI w { w' with heap := w'.heap.setIfInBounds m (.map (imE 0 (imU k u K)).toArray (imU k u K).length) } m (imU k u K) (fun j => if j = k then u else v j) S' vo O := by
  have hmk := h.map.keep (hg.block m h.map.lt (fun e => h.nm k e.symm))
  have hlo : ∀ q, (v k).ownBlock = some q → w.heap.size ≤ q := fun q hq => ((h.row k).lt q hq).1
  have hum : u.ownBlock ≠ some m := fun hb => by
    rcases hm with hm | ⟨g, hm, hl⟩
    · exact h.nm k (hm ▸ hb)
    · rw [hm] at hb
      cases hb
      have := h.map.lt
      omega
  have huo : ∀ b, u.ownBlock = some b → (∀ j, j ≠ k → (v j).ownBlock ≠ some b) ∧ vo.ownBlock ≠ some b := fun b hb => by
    rcases hm with hm | ⟨g, hm, hl⟩
    · exact ⟨fun j hj => h.ap k j b (fun e => hj e.symm) (hm ▸ hb), fun e => h.ao k b e (hm ▸ hb)⟩
    · rw [hm] at hb
      cases hb
      exact ⟨fun j _ e => by have := ((h.row j).lt b e).2; omega, fun e => by have := (h.ord.lt b e).2; omega⟩
  refine ⟨hmk, ⟨hmk.upd, fun j => ?_, fun j => ?_, fun i j b hij hb => ?_, fun j => ?_, ?_, fun j b hb => ?_, h.om, ?_, h.wm⟩⟩
  · rw [imG_U]
    by_cases hj : j = k
    · rw [if_pos hj, if_pos hj]; rfl
    · rw [if_neg hj, if_neg hj]; exact h.look j
  · rw [hS]
    by_cases hj : j = k
    · rw [if_pos hj, if_pos hj]
      exact own_keptM _ ho hum
    · rw [if_neg hj, if_neg hj]
      exact own_keptM _ (own_asideB (h.row j) hg (fun q hq e => h.ap k j q (fun e2 => hj e2.symm) e hq)) (h.nm j)
  · by_cases hi : i = k
    · rw [if_pos hi] at hb
      have hj : j ≠ k := fun e => hij (hi.trans e.symm)
      rw [if_neg hj]
      exact (huo b hb).1 j hj
    · rw [if_neg hi] at hb
      by_cases hj : j = k
      · rw [if_pos hj]
        exact fun e => (huo b e).1 i hi hb
      · rw [if_neg hj]
        exact h.ap i j b hij hb
  · by_cases hj : j = k
    · rw [if_pos hj]; exact hum
    · rw [if_neg hj]; exact h.nm j
  · exact own_keptM _ (own_asideB h.ord hg (fun q hq e => h.ao k q hq e)) h.om
  · by_cases hj : j = k
    · rw [if_pos hj]
      exact fun e => (huo b e).2 hb
    · rw [if_neg hj]; exact h.ao j b hb
  · have hb1 := h.be.grown hg h.be.size hlo
    exact ⟨hb1.os, hb1.tape, hb1.output, by simpa using hb1.size, fun b hb => (Array.getElem?_setIfInBounds_ne (by have := h.wm; omega)).trans (hb1.block b hb)⟩
end
end Go.Proofs.YtnmgfnnkcenfeaaGreatDoor
