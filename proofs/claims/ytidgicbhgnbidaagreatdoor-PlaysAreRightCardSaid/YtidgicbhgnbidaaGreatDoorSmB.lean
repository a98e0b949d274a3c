/- Maps whose keys are texts: an entry that is made first and filled then. No program in sight. -/
import Derived.Test.YtidgicbhgnbidaaGreatDoorMgB
namespace Go.Proofs.YtidgicbhgnbidaaGreatDoor
open Go.RowKit Go.Maps Go.WideMaps

theorem smU_new {k : ByteArray} {v : Value} : ∀ {l : SmL}, smG k l = none → smU k v l = l ++ [(k, v)]
  | [], _ => rfl
  | p :: l, h => by
    unfold smG at h
    by_cases hk : k = p.1
    · rw [if_pos hk] at h; cases h
    · rw [if_neg hk] at h
      unfold smU
      rw [if_neg hk, smU_new h]
      rfl
theorem smE_born : ∀ (l : SmL) (i j : Nat), (smE i l)[j]?.map (·.born) = if j < l.length then some (i + j) else none
  | [], i, j => by simp [smE]
  | p :: l, i, 0 => by simp [smE]
  | p :: l, i, j + 1 => by
    simp only [smE, List.getElem?_cons_succ, List.length_cons]
    rw [smE_born l (i + 1) j]
    by_cases h : j < l.length
    · rw [if_pos h, if_pos (by omega), show i + 1 + j = i + (j + 1) by omega]
    · rw [if_neg h, if_neg (by omega)]
theorem smE_bornF (x : Int) : ∀ (l : SmL) (i : Nat), x < (i : Int) → (smE i l).findIdx? (fun e => (e.born : Int) == x) = none
  | [], i, _ => rfl
  | p :: l, i, h => by
    have h1 : (((i : Nat) : Int) == x) = false := by simp; omega
    simp only [smE, List.findIdx?_cons, h1]
    rw [smE_bornF x l (i + 1) (by omega)]
    rfl
theorem smE_findB (k : ByteArray) (z : Value) : ∀ (l : SmL) (i : Nat), (smE i (l ++ [(k, z)])).findIdx? (fun e => (e.born : Int) == ((i + l.length : Nat) : Int)) = some l.length
  | [], i => by simp [smE]
  | p :: l, i => by
    have h1 : (((i : Nat) : Int) == ((i + (p :: l).length : Nat) : Int)) = false := by simp; omega
    simp only [List.cons_append, smE, List.findIdx?_cons, h1]
    have ih := smE_findB k z l (i + 1)
    rw [show i + 1 + l.length = i + (p :: l).length by simp; omega] at ih
    rw [ih]
    rfl
theorem smE_mod (k : ByteArray) (z v : Value) : ∀ (l : SmL) (i : Nat), (smE i (l ++ [(k, z)])).modify l.length (fun e => { e with val := v }) = smE i (l ++ [(k, v)])
  | [], i => by simp [smE]
  | p :: l, i => by
    simp only [List.cons_append, smE, List.length_cons, List.modify_succ_cons]
    rw [smE_mod k z v l (i + 1)]
section
variable {P : Program} {t kt et : TypeId} {w : World} {m : Nat} {l : SmL} {k : ByteArray} {z v : Value}
/-- The world behind a new entry. -/
def smW (w : World) (m : Nat) (l : SmL) : World := { w with heap := w.heap.setIfInBounds m (.map (smE 0 l).toArray l.length) }
theorem SmI.smW {l' : SmL} (hb : SmI w m l) : SmI (smW w m l') m l' := Array.getElem?_setIfInBounds_self_of_lt hb.lt
theorem smW_blk {l' : SmL} (b : Nat) (h : b ≠ m) : (smW w m l').heap[b]? = w.heap[b]? := Array.getElem?_setIfInBounds_ne (fun e => h e.symm)
theorem smW_size {l' : SmL} : (smW w m l').heap.size = w.heap.size := Array.size_setIfInBounds
theorem entry_sm (ht : P.underlying t = some (.map kt et)) (hk : P.underlying kt = some .string) (hz : (zeroValue et).run P w = .ok z w) (hs : k.size ≤ maxLen) (hb : SmI w m l) (hn : smG k l = none) :
    (Instr.mapEntry t (.map (some m)) (.string k)).run P w = .ok (.tuple #[z, goInt (l.length : Int)]) (smW w m (l ++ [(k, z)])) := by
  have hc := fun x => (WideMaps.string_law (P := P) hk).check w x (keyOf_string_mk hk hs)
  have hb' := hb
  unfold SmI at hb'
  rcases find_sm k z l 0 0 with ⟨h1, h2, _⟩ | ⟨n, x, _, h2, _⟩
  · have hf := run_find_sm (P := P) (w := w) hk none h1
    have e : (smE 0 (l ++ [(k, z)])).toArray = (smE 0 l).toArray.push { key := .string k, val := z, born := l.length } := by rw [smE_snoc]; simp
    unfold smW
    rw [e, List.length_append]
    simp [Instr.mapEntry, run_underlying ht, MapKept.run_getObj_map hb', hc, hf, hz, MapKept.run_setObj_map _ hb', Result.andThen]
  · rw [hn] at h2; cases h2
theorem store_sm (hb : SmI w m (l ++ [(k, z)])) : (Instr.entryStore t (.map (some m)) (goInt (l.length : Int)) v).run P w = .ok () (smW w m (l ++ [(k, v)])) := by
  have hb' := hb
  unfold SmI at hb'
  have hf := smE_findB k z l 0
  rw [Nat.zero_add] at hf
  have hm := smE_mod k z v l 0
  have ha : (asInt (goInt (l.length : Int))).run P w = .ok (l.length : Int) w := by simp [asInt, asIntOf, goInt]
  unfold smW
  simp [Instr.entryStore, MapKept.run_getObj_map hb', ha, hf, hm, MapKept.run_setObj_map _ hb', Result.andThen]
end
end Go.Proofs.YtidgicbhgnbidaaGreatDoor
