/- Maps whose keys are ints, entry by entry: what a look-up gives, what a store leaves. No program in sight. -/
import Derived.Test.YtnmgfnnkcenfeaaGreatDoorStream
import Derived.Maps.OwnOps
namespace Go.Proofs.YtnmgfnnkcenfeaaGreatDoor
open Go.RowKit Go.Maps Go.WideMaps

theorem int_beq (a b : Int) : (a == b) = decide (a = b) := by
  by_cases h : a = b
  · subst h; simp
  · simp [h]
abbrev ImL := List (Int × Value)
def imE : Nat → ImL → List MapEntry
  | _, [] => []
  | i, p :: l => { key := .int .i64 p.1, val := p.2, born := i } :: imE (i + 1) l
theorem imE_snoc (i : Nat) (l : ImL) (p : Int × Value) : imE i (l ++ [p]) = imE i l ++ [{ key := .int .i64 p.1, val := p.2, born := i + l.length }] := by
  induction l generalizing i with
  | nil => rfl
  | cons q l ih => simp only [List.cons_append, imE, ih, List.length_cons]; rw [show i + 1 + l.length = i + (l.length + 1) by omega]
theorem imE_len (i : Nat) (l : ImL) : (imE i l).length = l.length := by
  induction l generalizing i with
  | nil => rfl
  | cons q l ih => simp [imE, ih]
def imG (k : Int) : ImL → Option Value
  | [] => none
  | p :: l => if k = p.1 then some p.2 else imG k l
def imU (k : Int) (v : Value) : ImL → ImL
  | [] => [(k, v)]
  | p :: l => if k = p.1 then (k, v) :: l else p :: imU k v l
theorem imG_U (k q : Int) (v : Value) (l : ImL) : imG q (imU k v l) = if q = k then some v else imG q l := by
  induction l with
  | nil => simp [imU, imG]
  | cons p l ih =>
    unfold imU
    by_cases h : k = p.1
    · rw [if_pos h]
      simp only [imG]
      by_cases h2 : q = k
      · rw [if_pos h2, if_pos h2]
      · rw [if_neg h2, if_neg h2, if_neg (by rw [← h]; exact h2)]
    · rw [if_neg h]
      simp only [imG]
      by_cases h2 : q = p.1
      · rw [if_pos h2, if_neg (by rw [h2]; exact fun e => h e.symm), if_pos h2]
      · rw [if_neg h2, ih, if_neg h2]
def ImI (w : World) (m : Nat) (l : ImL) : Prop := w.heap[m]? = some (.map (imE 0 l).toArray l.length)
theorem ImI.lt {w : World} {m : Nat} {l : ImL} (h : ImI w m l) : m < w.heap.size := (Array.getElem?_eq_some_iff.1 h).1
theorem ImI.keep {w w' : World} {m : Nat} {l : ImL} (h : ImI w m l) (hk : w'.heap[m]? = w.heap[m]?) : ImI w' m l := hk.trans h
theorem ImI.below {w w' : World} {m : Nat} {l : ImL} (h : ImI w m l) (hb : Below w.heap.size w w') : ImI w' m l := h.keep (hb.block m h.lt)
theorem find_im (k : Int) (v : Value) : ∀ (l : ImL) (i j : Nat),
    (Instr.findNow (.int .i64) (.int .i64 k) (imE i l) j = some none ∧ imG k l = none ∧ imU k v l = l ++ [(k, v)]) ∨
    ∃ n x, Instr.findNow (.int .i64) (.int .i64 k) (imE i l) j = some (some (j + n, x)) ∧ imG k l = some x ∧ (imE i l).modify n (fun e => { e with key := .int .i64 k, val := v }) = imE i (imU k v l) ∧ ((imE i l)[n]?).map (·.key) = some (.int .i64 k) ∧ (imU k v l).length = l.length
  | [], _, _ => .inl ⟨rfl, rfl, rfl⟩
  | p :: l, i, j => by
    by_cases h : k = p.1
    · refine .inr ⟨0, p.2, ?_, ?_, ?_, ?_, ?_⟩
      · simp [imE, Instr.findNow, Instr.sameNow, h]
      · simp [imG, h]
      · simp [imE, imU, h]
      · simp [imE, h]
      · simp [imU, h]
    · have hne : (k == p.1) = false := by rw [int_beq]; exact decide_eq_false h
      rcases find_im k v l (i + 1) (j + 1) with ⟨h1, h2, h3⟩ | ⟨n, x, h1, h2, h3, h4, h5⟩
      · refine .inl ⟨?_, ?_, ?_⟩
        · simp [imE, Instr.findNow, Instr.sameNow, hne, h1]
        · simp [imG, h, h2]
        · simp [imU, h, h3]
      · refine .inr ⟨n + 1, x, ?_, ?_, ?_, ?_, ?_⟩
        · simp only [imE, Instr.findNow, Instr.sameNow, hne, h1, if_true]
          rw [show j + 1 + n = j + (n + 1) by omega]
        · simp [imG, h, h2]
        · simp only [imE, imU, if_neg h, List.modify_succ_cons, h3]
        · simpa [imE] using h4
        · simp [imU, h, h5]
section
variable {P : Program} {t kt et : TypeId} {w : World} {m : Nat} {l : ImL} {k : Int} {z v : Value}
theorem run_find_im (hk : P.underlying kt = some (.int .i64)) (r : Option (Nat × Value)) (h : Instr.findNow (.int .i64) (.int .i64 k) (imE 0 l) 0 = some r) : (Instr.findKey kt (.int .i64 k) (imE 0 l)).run P w = .ok r w := by
  simp [Instr.findKey, run_underlying hk, h, Result.andThen]
/-- m[k]. -/
theorem look_im (ht : P.underlying t = some (.map kt et)) (hk : P.underlying kt = some (.int .i64)) (hz : (zeroValue et).run P w = .ok z w) (hb : ImI w m l) :
    (Instr.lookup t (.map (some m)) (.int .i64 k) false).run P w = .ok ((imG k l).getD z) w := by
  have hc := fun x => MapKept.run_checkKey (P := P) (w := w) hk (d := .int .i64) (k := .int .i64 k) rfl x 9999
  unfold ImI at hb
  rcases find_im k z l 0 0 with ⟨h1, h2, _⟩ | ⟨n, x, h1, h2, _⟩
  · have hf := run_find_im (P := P) (w := w) hk none h1
    simp [Instr.lookup, run_underlying ht, MapKept.run_getObj_map hb, hc, hf, hz, h2, Result.andThen]
  · have hf := run_find_im (P := P) (w := w) hk _ h1
    simp [Instr.lookup, run_underlying ht, MapKept.run_getObj_map hb, hc, hf, h2, Result.andThen]
/-- v, ok := m[k]. -/
theorem look_im_ok (ht : P.underlying t = some (.map kt et)) (hk : P.underlying kt = some (.int .i64)) (hz : (zeroValue et).run P w = .ok z w) (hb : ImI w m l) :
    (Instr.lookup t (.map (some m)) (.int .i64 k) true).run P w = .ok (.tuple #[(imG k l).getD z, .bool (imG k l).isSome]) w := by
  have hc := fun x => MapKept.run_checkKey (P := P) (w := w) hk (d := .int .i64) (k := .int .i64 k) rfl x 9999
  unfold ImI at hb
  rcases find_im k z l 0 0 with ⟨h1, h2, _⟩ | ⟨n, x, h1, h2, _⟩
  · have hf := run_find_im (P := P) (w := w) hk none h1
    simp [Instr.lookup, run_underlying ht, MapKept.run_getObj_map hb, hc, hf, hz, h2, Result.andThen]
  · have hf := run_find_im (P := P) (w := w) hk _ h1
    simp [Instr.lookup, run_underlying ht, MapKept.run_getObj_map hb, hc, hf, h2, Result.andThen]
/-- m[k] = v. -/
theorem upd_im (ht : P.underlying t = some (.map kt et)) (hk : P.underlying kt = some (.int .i64)) (hb : ImI w m l) :
    (Instr.mapUpdate t (.map (some m)) (.int .i64 k) v).run P w = .ok () { w with heap := w.heap.setIfInBounds m (.map (imE 0 (imU k v l)).toArray (imU k v l).length) } := by
  have hc := fun x => MapKept.run_checkKey (P := P) (w := w) hk (d := .int .i64) (k := .int .i64 k) rfl x 9999
  unfold ImI at hb
  rcases find_im k v l 0 0 with ⟨h1, h2, h3⟩ | ⟨n, x, h1, h2, h3, h4, h5⟩
  · have hf := run_find_im (P := P) (w := w) hk none h1
    have e : (imE 0 (imU k v l)).toArray = (imE 0 l).toArray.push { key := .int .i64 k, val := v, born := l.length } := by rw [h3, imE_snoc]; simp
    rw [e, h3, List.length_append]
    simp [Instr.mapUpdate, run_underlying ht, MapKept.run_getObj_map hb, hc, hf, MapKept.run_setObj_map _ hb, Result.andThen]
  · have hf := run_find_im (P := P) (w := w) hk _ h1
    have hst : (Instr.keyThatStays (((imE 0 l)[n]?.map (·.key)).getD (.int .i64 k)) (.int .i64 k)).run P w = .ok (.int .i64 k) w := by
      rw [h4]
      have hsb : Instr.sameBits 10000 (.int .i64 k) (.int .i64 k) = true := by show (k == k) = true; rw [int_beq]; simp
      simp [Instr.keyThatStays, hsb]
    rw [← h3, h5]
    simp only [Nat.zero_add] at hf
    simp [Instr.mapUpdate, run_underlying ht, MapKept.run_getObj_map hb, hc, hf, hst, MapKept.run_setObj_map _ hb, Result.andThen]
theorem ImI.upd (hb : ImI w m l) : ImI { w with heap := w.heap.setIfInBounds m (.map (imE 0 (imU k v l)).toArray (imU k v l).length) } m (imU k v l) := Array.getElem?_setIfInBounds_self_of_lt hb.lt
theorem len_im (hb : ImI w m l) : w.heap[m]? = some (.map (imE 0 l).toArray l.length) ∧ (imE 0 l).toArray.size = l.length := ⟨hb, by simp [imE_len]⟩
end
end Go.Proofs.YtnmgfnnkcenfeaaGreatDoor
