/- Maps whose keys are texts, entry by entry: what a look-up gives, what a store leaves. No program in sight. -/
import Derived.Test.YtlfphndnkgoinaaGreatDoorMg1
import Derived.Maps.OwnOps
namespace Go.Proofs.YtlfphndnkgoinaaGreatDoor
open Go.RowKit Go.Maps Go.WideMaps

theorem ba_beq (a b : ByteArray) : (a == b) = decide (a = b) := by
  by_cases h : a = b
  · subst h
    rw [decide_eq_true rfl]
    show (a.data == a.data) = true
    exact beq_self_eq_true _
  · rw [decide_eq_false h]
    show (a.data == b.data) = false
    have : a.data ≠ b.data := fun e => h (by cases a; cases b; simp at e; rw [e])
    simpa using this
abbrev SmL := List (ByteArray × Value)
def smE : Nat → SmL → List MapEntry
  | _, [] => []
  | i, p :: l => { key := .string p.1, val := p.2, born := i } :: smE (i + 1) l
theorem smE_snoc (i : Nat) (l : SmL) (p : ByteArray × Value) : smE i (l ++ [p]) = smE i l ++ [{ key := .string p.1, val := p.2, born := i + l.length }] := by
  induction l generalizing i with
  | nil => rfl
  | cons q l ih => simp only [List.cons_append, smE, ih, List.length_cons]; rw [show i + 1 + l.length = i + (l.length + 1) by omega]
theorem smE_len (i : Nat) (l : SmL) : (smE i l).length = l.length := by
  induction l generalizing i with
  | nil => rfl
  | cons q l ih => simp [smE, ih]
def smG (k : ByteArray) : SmL → Option Value
  | [] => none
  | p :: l => if k = p.1 then some p.2 else smG k l
def smU (k : ByteArray) (v : Value) : SmL → SmL
  | [] => [(k, v)]
  | p :: l => if k = p.1 then (k, v) :: l else p :: smU k v l
theorem smG_U (k q : ByteArray) (v : Value) (l : SmL) : smG q (smU k v l) = if q = k then some v else smG q l := by
  induction l with
  | nil => simp [smU, smG]
  | cons p l ih =>
    unfold smU
    by_cases h : k = p.1
    · rw [if_pos h]
      simp only [smG]
      by_cases h2 : q = k
      · rw [if_pos h2, if_pos h2]
      · rw [if_neg h2, if_neg h2, if_neg (by rw [← h]; exact h2)]
    · rw [if_neg h]
      simp only [smG]
      by_cases h2 : q = p.1
      · rw [if_pos h2, if_neg (by rw [h2]; exact fun e => h e.symm), if_pos h2]
      · rw [if_neg h2, ih, if_neg h2]
def SmI (w : World) (m : Nat) (l : SmL) : Prop := w.heap[m]? = some (.map (smE 0 l).toArray l.length)
theorem SmI.lt {w : World} {m : Nat} {l : SmL} (h : SmI w m l) : m < w.heap.size := (Array.getElem?_eq_some_iff.1 h).1
theorem SmI.keep {w w' : World} {m : Nat} {l : SmL} (h : SmI w m l) (hk : w'.heap[m]? = w.heap[m]?) : SmI w' m l := hk.trans h
theorem SmI.below {w w' : World} {m : Nat} {l : SmL} (h : SmI w m l) (hb : Below w.heap.size w w') : SmI w' m l := h.keep (hb.block m h.lt)
theorem find_sm (k : ByteArray) (v : Value) : ∀ (l : SmL) (i j : Nat),
    (Instr.findNow .string (.string k) (smE i l) j = some none ∧ smG k l = none ∧ smU k v l = l ++ [(k, v)]) ∨
    ∃ n x, Instr.findNow .string (.string k) (smE i l) j = some (some (j + n, x)) ∧ smG k l = some x ∧ (smE i l).modify n (fun e => { e with key := .string k, val := v }) = smE i (smU k v l) ∧ ((smE i l)[n]?).map (·.key) = some (.string k) ∧ (smU k v l).length = l.length
  | [], _, _ => .inl ⟨rfl, rfl, rfl⟩
  | p :: l, i, j => by
    by_cases h : k = p.1
    · refine .inr ⟨0, p.2, ?_, ?_, ?_, ?_, ?_⟩
      · simp [smE, Instr.findNow, Instr.sameNow, h, ba_beq]
      · simp [smG, h]
      · simp [smE, smU, h]
      · simp [smE, h]
      · simp [smU, h]
    · have hne : (k == p.1) = false := by rw [ba_beq]; exact decide_eq_false h
      rcases find_sm k v l (i + 1) (j + 1) with ⟨h1, h2, h3⟩ | ⟨n, x, h1, h2, h3, h4, h5⟩
      · refine .inl ⟨?_, ?_, ?_⟩
        · simp [smE, Instr.findNow, Instr.sameNow, hne, h1]
        · simp [smG, h, h2]
        · simp [smU, h, h3]
      · refine .inr ⟨n + 1, x, ?_, ?_, ?_, ?_, ?_⟩
        · simp only [smE, Instr.findNow, Instr.sameNow, hne, h1]
          rw [show j + 1 + n = j + (n + 1) by omega]
        · simp [smG, h, h2]
        · simp only [smE, smU, if_neg h, List.modify_succ_cons, h3]
        · simpa [smE] using h4
        · simp [smU, h, h5]
section
variable {P : Program} {t kt et : TypeId} {w : World} {m : Nat} {l : SmL} {k : ByteArray} {z v : Value}
theorem run_find_sm (hk : P.underlying kt = some .string) (r : Option (Nat × Value)) (h : Instr.findNow .string (.string k) (smE 0 l) 0 = some r) : (Instr.findKey kt (.string k) (smE 0 l)).run P w = .ok r w := by
  simp [Instr.findKey, run_underlying hk, h, Result.andThen]
/-- m[k]. -/
theorem look_sm (ht : P.underlying t = some (.map kt et)) (hk : P.underlying kt = some .string) (hz : (zeroValue et).run P w = .ok z w) (hs : k.size ≤ maxLen) (hb : SmI w m l) :
    (Instr.lookup t (.map (some m)) (.string k) false).run P w = .ok ((smG k l).getD z) w := by
  have hc := fun x => (WideMaps.string_law (P := P) hk).check w x (keyOf_string_mk hk hs)
  unfold SmI at hb
  rcases find_sm k z l 0 0 with ⟨h1, h2, _⟩ | ⟨n, x, h1, h2, _⟩
  · have hf := run_find_sm (P := P) (w := w) hk none h1
    simp [Instr.lookup, run_underlying ht, MapKept.run_getObj_map hb, hc, hf, hz, h2, Result.andThen]
  · have hf := run_find_sm (P := P) (w := w) hk _ h1
    simp [Instr.lookup, run_underlying ht, MapKept.run_getObj_map hb, hc, hf, h2, Result.andThen]
/-- v, ok := m[k]. -/
theorem look_sm_ok (ht : P.underlying t = some (.map kt et)) (hk : P.underlying kt = some .string) (hz : (zeroValue et).run P w = .ok z w) (hs : k.size ≤ maxLen) (hb : SmI w m l) :
    (Instr.lookup t (.map (some m)) (.string k) true).run P w = .ok (.tuple #[(smG k l).getD z, .bool (smG k l).isSome]) w := by
  have hc := fun x => (WideMaps.string_law (P := P) hk).check w x (keyOf_string_mk hk hs)
  unfold SmI at hb
  rcases find_sm k z l 0 0 with ⟨h1, h2, _⟩ | ⟨n, x, h1, h2, _⟩
  · have hf := run_find_sm (P := P) (w := w) hk none h1
    simp [Instr.lookup, run_underlying ht, MapKept.run_getObj_map hb, hc, hf, hz, h2, Result.andThen]
  · have hf := run_find_sm (P := P) (w := w) hk _ h1
    simp [Instr.lookup, run_underlying ht, MapKept.run_getObj_map hb, hc, hf, h2, Result.andThen]
/-- m[k] = v. -/
theorem upd_sm (ht : P.underlying t = some (.map kt et)) (hk : P.underlying kt = some .string) (hs : k.size ≤ maxLen) (hb : SmI w m l) :
    (Instr.mapUpdate t (.map (some m)) (.string k) v).run P w = .ok () { w with heap := w.heap.setIfInBounds m (.map (smE 0 (smU k v l)).toArray (smU k v l).length) } := by
  have hc := fun x => (WideMaps.string_law (P := P) hk).check w x (keyOf_string_mk hk hs)
  unfold SmI at hb
  rcases find_sm k v l 0 0 with ⟨h1, h2, h3⟩ | ⟨n, x, h1, h2, h3, h4, h5⟩
  · have hf := run_find_sm (P := P) (w := w) hk none h1
    have e : (smE 0 (smU k v l)).toArray = (smE 0 l).toArray.push { key := .string k, val := v, born := l.length } := by rw [h3, smE_snoc]; simp
    rw [e, h3, List.length_append]
    simp [Instr.mapUpdate, run_underlying ht, MapKept.run_getObj_map hb, hc, hf, MapKept.run_setObj_map _ hb, Result.andThen]
  · have hf := run_find_sm (P := P) (w := w) hk _ h1
    have hst : (Instr.keyThatStays (((smE 0 l)[n]?.map (·.key)).getD (.string k)) (.string k)).run P w = .ok (.string k) w := by
      rw [h4]
      have hsb : Instr.sameBits 10000 (.string k) (.string k) = true := by show (k == k) = true; rw [ba_beq]; simp
      simp [Instr.keyThatStays, hsb]
    rw [← h3, h5]
    simp only [Nat.zero_add] at hf
    simp [Instr.mapUpdate, run_underlying ht, MapKept.run_getObj_map hb, hc, hf, hst, MapKept.run_setObj_map _ hb, Result.andThen]
theorem SmI.upd (hb : SmI w m l) : SmI { w with heap := w.heap.setIfInBounds m (.map (smE 0 (smU k v l)).toArray (smU k v l).length) } m (smU k v l) := Array.getElem?_setIfInBounds_self_of_lt hb.lt
theorem len_sm (hb : SmI w m l) : w.heap[m]? = some (.map (smE 0 l).toArray l.length) ∧ (smE 0 l).toArray.size = l.length := ⟨hb, by simp [smE_len]⟩
end
end Go.Proofs.YtlfphndnkgoinaaGreatDoor
