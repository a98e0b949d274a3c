/- Several texts in one: SmA, BdC, FlC, ScA, Fst, FlG, Qap, RoN, ScN, BdK. -/
import Derived.Test.YtgdnedhcbjonkaaGreatDoorMgA
import Derived.Maps.OwnOps
import Derived.Test.YtgdnedhcbjonkaaGreatDoorMgE
import Derived.Test.YtgdnedhcbjonkaaGreatDoorMgB
import Derived.Deep.RegionHeld3

/- Maps whose keys are texts, entry by entry: what a look-up gives, what a store leaves. No program in sight. -/
namespace Go.Proofs.YtgdnedhcbjonkaaGreatDoor
open Go.RowKit Go.Maps Go.WideMaps

theorem ba_beq (a b : ByteArray) : (a == b) = decide (a = b) := by
  by_cases h : a = b
  · subst h
    rw [decide_eq_true rfl]
    show (a.data == a.data) = true
    exact beq_self_eq_true _
  · rw [decide_eq_false h]
    show (a.data == b.data) = false
    have : a.data ≠ b.data := fun e => h (by cases a; cases b; simp at e; rw [e])
    simpa using this
abbrev SmL := List (ByteArray × Value)
def smE : Nat → SmL → List MapEntry
  | _, [] => []
  | i, p :: l => { key := .string p.1, val := p.2, born := i } :: smE (i + 1) l
theorem smE_snoc (i : Nat) (l : SmL) (p : ByteArray × Value) : smE i (l ++ [p]) = smE i l ++ [{ key := .string p.1, val := p.2, born := i + l.length }] := by
  induction l generalizing i with
  | nil => rfl
  | cons q l ih => simp only [List.cons_append, smE, ih, List.length_cons]; rw [show i + 1 + l.length = i + (l.length + 1) by omega]
theorem smE_len (i : Nat) (l : SmL) : (smE i l).length = l.length := by
  induction l generalizing i with
  | nil => rfl
  | cons q l ih => simp [smE, ih]
def smG (k : ByteArray) : SmL → Option Value
  | [] => none
  | p :: l => if k = p.1 then some p.2 else smG k l
def smU (k : ByteArray) (v : Value) : SmL → SmL
  | [] => [(k, v)]
  | p :: l => if k = p.1 then (k, v) :: l else p :: smU k v l
theorem smG_U (k q : ByteArray) (v : Value) (l : SmL) : smG q (smU k v l) = if q = k then some v else smG q l := by
  induction l with
  | nil => simp [smU, smG]
  | cons p l ih =>
    unfold smU
    by_cases h : k = p.1
    · rw [if_pos h]
      simp only [smG]
      by_cases h2 : q = k
      · rw [if_pos h2, if_pos h2]
      · rw [if_neg h2, if_neg h2, if_neg (by rw [← h]; exact h2)]
    · rw [if_neg h]
      simp only [smG]
      by_cases h2 : q = p.1
      · rw [if_pos h2, if_neg (by rw [h2]; exact fun e => h e.symm), if_pos h2]
      · rw [if_neg h2, ih, if_neg h2]
def SmI (w : World) (m : Nat) (l : SmL) : Prop := w.heap[m]? = some (.map (smE 0 l).toArray l.length)
theorem SmI.lt {w : World} {m : Nat} {l : SmL} (h : SmI w m l) : m < w.heap.size := (Array.getElem?_eq_some_iff.1 h).1
theorem SmI.keep {w w' : World} {m : Nat} {l : SmL} (h : SmI w m l) (hk : w'.heap[m]? = w.heap[m]?) : SmI w' m l := hk.trans h
theorem SmI.below {w w' : World} {m : Nat} {l : SmL} (h : SmI w m l) (hb : Below w.heap.size w w') : SmI w' m l := h.keep (hb.block m h.lt)
theorem find_sm (k : ByteArray) (v : Value) : ∀ (l : SmL) (i j : Nat),
    (Instr.findNow .string (.string k) (smE i l) j = some none ∧ smG k l = none ∧ smU k v l = l ++ [(k, v)]) ∨
    ∃ n x, Instr.findNow .string (.string k) (smE i l) j = some (some (j + n, x)) ∧ smG k l = some x ∧ (smE i l).modify n (fun e => { e with key := .string k, val := v }) = smE i (smU k v l) ∧ ((smE i l)[n]?).map (·.key) = some (.string k) ∧ (smU k v l).length = l.length
  | [], _, _ => .inl ⟨rfl, rfl, rfl⟩
  | p :: l, i, j => by
    by_cases h : k = p.1
    · refine .inr ⟨0, p.2, ?_, ?_, ?_, ?_, ?_⟩
      · simp [smE, Instr.findNow, Instr.sameNow, h, ba_beq]
      · simp [smG, h]
      · simp [smE, smU, h]
      · simp [smE, h]
      · simp [smU, h]
    · have hne : (k == p.1) = false := by rw [ba_beq]; exact decide_eq_false h
      rcases find_sm k v l (i + 1) (j + 1) with ⟨h1, h2, h3⟩ | ⟨n, x, h1, h2, h3, h4, h5⟩
      · refine .inl ⟨?_, ?_, ?_⟩
        · simp [smE, Instr.findNow, Instr.sameNow, hne, h1]
        · simp [smG, h, h2]
        · simp [smU, h, h3]
      · refine .inr ⟨n + 1, x, ?_, ?_, ?_, ?_, ?_⟩
        · simp only [smE, Instr.findNow, Instr.sameNow, hne, h1]
          rw [show j + 1 + n = j + (n + 1) by omega]
        · simp [smG, h, h2]
        · simp only [smE, smU, if_neg h, List.modify_succ_cons, h3]
        · simpa [smE] using h4
        · simp [smU, h, h5]
section
variable {P : Program} {t kt et : TypeId} {w : World} {m : Nat} {l : SmL} {k : ByteArray} {z v : Value}
theorem run_find_sm (hk : P.underlying kt = some .string) (r : Option (Nat × Value)) (h : Instr.findNow .string (.string k) (smE 0 l) 0 = some r) : (Instr.findKey kt (.string k) (smE 0 l)).run P w = .ok r w := by
  simp [Instr.findKey, run_underlying hk, h, Result.andThen]
/-- m[k]. -/
theorem look_sm (ht : P.underlying t = some (.map kt et)) (hk : P.underlying kt = some .string) (hz : (zeroValue et).run P w = .ok z w) (hs : k.size ≤ maxLen) (hb : SmI w m l) :
    (Instr.lookup t (.map (some m)) (.string k) false).run P w = .ok ((smG k l).getD z) w := by
  have hc := fun x => (WideMaps.string_law (P := P) hk).check w x (keyOf_string_mk hk hs)
  unfold SmI at hb
  rcases find_sm k z l 0 0 with ⟨h1, h2, _⟩ | ⟨n, x, h1, h2, _⟩
  · have hf := run_find_sm (P := P) (w := w) hk none h1
    simp [Instr.lookup, run_underlying ht, MapKept.run_getObj_map hb, hc, hf, hz, h2, Result.andThen]
  · have hf := run_find_sm (P := P) (w := w) hk _ h1
    simp [Instr.lookup, run_underlying ht, MapKept.run_getObj_map hb, hc, hf, h2, Result.andThen]
/-- v, ok := m[k]. -/
theorem look_sm_ok (ht : P.underlying t = some (.map kt et)) (hk : P.underlying kt = some .string) (hz : (zeroValue et).run P w = .ok z w) (hs : k.size ≤ maxLen) (hb : SmI w m l) :
    (Instr.lookup t (.map (some m)) (.string k) true).run P w = .ok (.tuple #[(smG k l).getD z, .bool (smG k l).isSome]) w := by
  have hc := fun x => (WideMaps.string_law (P := P) hk).check w x (keyOf_string_mk hk hs)
  unfold SmI at hb
  rcases find_sm k z l 0 0 with ⟨h1, h2, _⟩ | ⟨n, x, h1, h2, _⟩
  · have hf := run_find_sm (P := P) (w := w) hk none h1
    simp [Instr.lookup, run_underlying ht, MapKept.run_getObj_map hb, hc, hf, hz, h2, Result.andThen]
  · have hf := run_find_sm (P := P) (w := w) hk _ h1
    simp [Instr.lookup, run_underlying ht, MapKept.run_getObj_map hb, hc, hf, h2, Result.andThen]
/-- m[k] = v. -/
theorem upd_sm (ht : P.underlying t = some (.map kt et)) (hk : P.underlying kt = some .string) (hs : k.size ≤ maxLen) (hb : SmI w m l) :
    (Instr.mapUpdate t (.map (some m)) (.string k) v).run P w = .ok () { w with heap := w.heap.setIfInBounds m (.map (smE 0 (smU k v l)).toArray (smU k v l).length) } := by
  have hc := fun x => (WideMaps.string_law (P := P) hk).check w x (keyOf_string_mk hk hs)
  unfold SmI at hb
  rcases find_sm k v l 0 0 with ⟨h1, h2, h3⟩ | ⟨n, x, h1, h2, h3, h4, h5⟩
  · have hf := run_find_sm (P := P) (w := w) hk none h1
    have e : (smE 0 (smU k v l)).toArray = (smE 0 l).toArray.push { key := .string k, val := v, born := l.length } := by rw [h3, smE_snoc]; simp
    rw [e, h3, List.length_append]
    simp [Instr.mapUpdate, run_underlying ht, MapKept.run_getObj_map hb, hc, hf, MapKept.run_setObj_map _ hb, Result.andThen]
  · have hf := run_find_sm (P := P) (w := w) hk _ h1
    have hst : (Instr.keyThatStays (((smE 0 l)[n]?.map (·.key)).getD (.string k)) (.string k)).run P w = .ok (.string k) w := by
      rw [h4]
      have hsb : Instr.sameBits 10000 (.string k) (.string k) = true := by show (k == k) = true; rw [ba_beq]; simp
      simp [Instr.keyThatStays, hsb]
    rw [← h3, h5]
    simp only [Nat.zero_add] at hf
    simp [Instr.mapUpdate, run_underlying ht, MapKept.run_getObj_map hb, hc, hf, hst, MapKept.run_setObj_map _ hb, Result.andThen]
theorem SmI.upd (hb : SmI w m l) : SmI { w with heap := w.heap.setIfInBounds m (.map (smE 0 (smU k v l)).toArray (smU k v l).length) } m (smU k v l) := Array.getElem?_setIfInBounds_self_of_lt hb.lt
theorem len_sm (hb : SmI w m l) : w.heap[m]? = some (.map (smE 0 l).toArray l.length) ∧ (smE 0 l).toArray.size = l.length := ⟨hb, by simp [smE_len]⟩
end
end Go.Proofs.YtgdnedhcbjonkaaGreatDoor

/- alarm.parents and chain by their contracts. -/
namespace Go.Proofs.YtgdnedhcbjonkaaGreatDoor
open Go.RowKit Go.Maps Go.WideMaps

def lkP (x : Lk) : ByteArray × Value := (bdT x.d, .string (bdT x.p))
theorem smG_lk : ∀ (L : List Lk) (d : Nat), (∀ x ∈ L, x.d < 5) → d < 5 → smG (bdT d) (L.map lkP) = (prD L d).map fun p => .string (bdT p)
  | [], d, _, _ => rfl
  | x :: L, d, h, hd => by
    have hx := h x List.mem_cons_self
    have ih := smG_lk L d (fun y hy => h y (List.mem_cons_of_mem _ hy)) hd
    simp only [List.map_cons, smG, lkP]
    by_cases e : d = x.d
    · subst e
      simp [prD]
    · rw [if_neg (fun e2 => e ((bd_inj _ _ hd hx).1 e2))]
      have : prD (x :: L) d = prD L d := by
        unfold prD
        rw [List.find?_cons_of_neg (by simpa using fun e2 => e e2.symm)]
      rw [this]
      exact ih
theorem smU_new (k : ByteArray) (v : Value) : ∀ l : SmL, smG k l = none → smU k v l = l ++ [(k, v)]
  | [], _ => rfl
  | p :: l, h => by
    unfold smG at h
    split at h
    · cases h
    · rename_i hne
      simp only [smU, if_neg hne, smU_new k v l h, List.cons_append]
theorem prD_take {L : List Lk} (h : LksOk L) {i : Nat} {x : Lk} (hx : L[i]? = some x) : prD (L.take i) x.d = none := by
  unfold prD
  cases hf : (L.take i).find? (fun y => y.d == x.d) with
  | none => rfl
  | some y =>
    exfalso
    have hm := List.mem_of_find?_eq_some hf
    have hd : y.d = x.d := by simpa using List.find?_some hf
    obtain ⟨j, hj, rfl⟩ := List.getElem_of_mem hm
    rw [List.length_take] at hj
    rw [List.getElem_take] at hd
    obtain ⟨hi, rfl⟩ := List.getElem?_eq_some_iff.1 hx
    have := (List.pairwise_iff_getElem.1 h.ord) j i (by omega) hi (by omega)
    rw [hd] at this
    omega
set_option maxRecDepth 100000 in
set_option maxHeartbeats 4000000 in
theorem parents_any (L : List Lk) (n c : Nat) (A : Option Addr) (w : World) (hL : LksOk L) (hn : L.length = n) (hn2 : n ≤ 4) (hr : Row w w.heap.size A (recs lkC L)) :
    Calls Tryz.prog 94 #[.slice A n c] w fun e w' => ∃ m, e = .returned (.map (some m)) ∧ SmI w' m (L.map lkP) ∧ w.heap.size ≤ m ∧ Below w.heap.size w w' := by
  have hmm := @run_makeMap Tryz.prog
  have HR := Lib.hid hr
  have HN := Lib.hid (And.intro hn hL)
  clear hr hn hL
  go_enter Tryz.func94, Tryz.ntmps94
  go_upto_region 2 with (fail)
  obtain ⟨m, em⟩ : ∃ g, g = w.heap.size := ⟨_, rfl⟩
  obtain ⟨w1, e1⟩ : ∃ V : World, V = w.alloc (.map #[] 0) := ⟨_, rfl⟩
  have hb1 : Below w.heap.size w w1 := by rw [e1]; exact (Below.refl _ _).alloc (Nat.le_refl _) _
  have hm1 : SmI w1 m [] := by rw [e1, em]; exact heap_new w _
  rw [← em, ← e1]
  have hwm : w.heap.size ≤ m := by omega
  have H1 := Lib.hid (And.intro hb1 hm1)
  clear em e1 hb1 hm1
  go_wp2_with (fail)
  go_loopw [9] (fun s wr => ∃ (i : Nat), i ≤ n ∧ s = .int .i64 (i : Int) ∧ Below w.heap.size w wr ∧ SmI wr m ((L.take i).map lkP)) (fun s _ => n - (intOf s).toNat)
  case atStart => exact ⟨0, by omega, rfl, H1.out⟩
  case round =>
    obtain ⟨i, hin, rfl, hbr, hSm⟩ := hrel
    have hbs := hbr.size
    have HB := Lib.hid hbr
    have HSM := Lib.hid hSm
    clear hbr hSm
    by_cases hlt : i < n
    · have hltI : (i : Int) < n := by omega
      obtain ⟨x, hx⟩ : ∃ x, L[i]? = some x := ⟨_, List.getElem?_eq_getElem (by have := HN.out.1; omega)⟩
      obtain ⟨b, o, rfl, hb, hC⟩ := (HR.out.below HB.out).posR lkC_len (by omega) (by have := HN.out.1; omega)
      have c0 : wr.cell? ⟨b, o + i * 2, none⟩ = some (.string (bdT x.d)) := rec_cell lkC_len hC i x hx 0 _ rfl
      have c1 : wr.cell? ⟨b, o + i * 2 + 1, none⟩ = some (.string (bdT x.p)) := rec_cell lkC_len hC i x hx 1 _ rfl
      have hb' : b < wr.heap.size := by omega
      have hnew : smG (bdT x.d) ((L.take i).map lkP) = none := by
        rw [smG_lk _ _ (fun y hy => by have := (HN.out.2.each y (List.mem_of_mem_take hy)).d; omega) (by have := (HN.out.2.each x (List.mem_of_getElem? hx)).d; omega), prD_take HN.out.2 hx]
        rfl
      have hus := smU_new (bdT x.d) (.string (bdT x.p)) _ hnew
      have htk : (L.take i).map lkP ++ [(bdT x.d, .string (bdT x.p))] = (L.take (i + 1)).map lkP := by
        rw [List.take_add_one, hx]
        simp [lkP]
      rw [htk] at hus
      go_upto_region 5 with (fail)
      obtain ⟨g, eg⟩ : ∃ g, g = wr.heap.size := ⟨_, rfl⟩
      obtain ⟨w5, e5⟩ : ∃ V : World, V = wr.alloc (.cells #[.string (bdT x.d), .string (bdT x.p)] 67) := ⟨_, rfl⟩
      rw [← eg, ← e5]
      have hb5 : Below wr.heap.size wr w5 := by rw [e5]; exact (Below.refl _ _).alloc (Nat.le_refl _) _
      have hg5 : w5.heap[g]? = some (.cells #[.string (bdT x.d), .string (bdT x.p)] 67 (0, 0)) := by rw [e5, eg]; exact heap_new wr _
      have hlt5 := (Array.getElem?_eq_some_iff.1 hg5).1
      have q0 := cell_of_blk (j := 0) hg5 rfl
      have q1 := cell_of_blk (j := 1) hg5 rfl
      have hS5 := HSM.out.below hb5
      have hup := upd_sm (P := Tryz.prog) (v := .string (bdT x.p)) Tryz.underlying117 Tryz.underlying9 (bd_le x.d) hS5
      rw [hus] at hup
      have hS6 := hS5.upd (k := bdT x.d) (v := .string (bdT x.p))
      rw [hus] at hS6
      have hb6 := below_setMap (HB.out.trans (hb5.mono hbs)) hwm (.map (smE 0 ((L.take (i + 1)).map lkP)).toArray ((L.take (i + 1)).map lkP).length)
      obtain ⟨w6, e6⟩ : ∃ V : World, V = { w5 with heap := w5.heap.setIfInBounds m (.map (smE 0 ((L.take (i + 1)).map lkP)).toArray ((L.take (i + 1)).map lkP).length) } := ⟨_, rfl⟩
      rw [← e6] at hup hb6 hS6
      have H6 := Lib.hid (And.intro hb6 hS6)
      clear e5 eg hx hC c0 c1 hb5 hg5 hnew hus htk hS5 hS6 hb6 e6
      go_wp2_with (fail)
      go_roundw
      case rel => exact ⟨i + 1, by omega, by go_num, H6.out⟩
      case measure => simp [intOf]; omega
    · have hltI : ¬ (i : Int) < n := by omega
      have hin' : i = n := by omega
      have HF := Lib.hid (show SmI wr m (L.map lkP) from by
        have h := HSM.out
        rw [hin', ← HN.out.1, List.take_length] at h
        exact h)
      go_wp2_with (fail)
      go_ret
      exact ⟨m, rfl, HF.out, hwm, HB.out⟩
/-- How far a device's name is from the end of its chain. -/
def chM (s b : Value) : Nat := match b, s with
  | .bool true, .string t => if t = bdT 4 then 1 else 2
  | _, _ => 0
def opT : Option Nat → ByteArray
  | some p => bdT p
  | none => ⟨#[]⟩
theorem chM_none (s : Value) : chM s (.bool false) = 0 := by cases s <;> rfl
theorem chM_two : chM (.string (bdT 2)) (.bool true) = 2 := by
  show (if bdT 2 = bdT 4 then 1 else 2) = 2
  rw [if_neg (fun e => by have := (bd_inj 2 4 (by decide) (by decide)).1 e; omega)]
theorem chM_four : chM (.string (bdT 4)) (.bool true) = 1 := by
  show (if bdT 4 = bdT 4 then 1 else 2) = 1
  rw [if_pos rfl]
theorem bd_ne (a b : Nat) (ha : a < 5) (hb : b < 5) (h : a ≠ b) : ((bdT a).toList == (bdT b).toList) = false := by
  have h1 : a = 0 ∨ a = 1 ∨ a = 2 ∨ a = 3 ∨ a = 4 := by omega
  have h2 : b = 0 ∨ b = 1 ∨ b = 2 ∨ b = 3 ∨ b = 4 := by omega
  rcases h1 with h1 | h1 | h1 | h1 | h1 <;> subst h1 <;> rcases h2 with h2 | h2 | h2 | h2 | h2 <;> subst h2 <;> first | exact absurd rfl h | (clear h; decide +kernel)
/-- The look-ups in a board's links. -/
theorem lk_look {L : List Lk} (hL : LksOk L) {m : Nat} {w : World} (hm : SmI w m (L.map lkP)) (d : Nat) (hd : d < 5) :
    (Instr.lookup 117 (.map (some m)) (.string (bdT d)) true).run Tryz.prog w = .ok (.tuple #[.string (opT (prD L d)), .bool (prD L d).isSome]) w := by
  have h := look_sm_ok (P := Tryz.prog) (z := .string ⟨#[]⟩) Tryz.underlying117 Tryz.underlying9 (by kernel_rfl) (bd_le d) hm
  rw [smG_lk L d (fun x hx => by have := (hL.each x hx).d; omega) hd] at h
  rw [h]
  cases prD L d <;> rfl
theorem Tryz.infoSt : (Tryz.prog.info? 9).map (fun i => (i.zero, i.size, i.bytes)) = some (some (.string ⟨#[]⟩), 1, 16) := by kernel_rfl
set_option maxRecDepth 100000 in
set_option maxHeartbeats 4000000 in
theorem chain_any (L : List Lk) (d m : Nat) (w : World) (hL : LksOk L) (hd : d < 4) (hm : SmI w m (L.map lkP)) :
    Calls Tryz.prog 95 #[.map (some m), .string (bdT d)] w fun e w' => ∃ A c n, e = .returned (.tuple #[.slice A n c, .bool true]) ∧ Below w.heap.size w w' := by
  obtain ⟨i0, hi0, hz0, hz1, hz2⟩ := info_parts Tryz.infoSt
  have HL := Lib.hid hL
  have HLK := Lib.hid (fun (V : World) (hV : Below w.heap.size w V) (q : Nat) (hq : q < 5) => lk_look hL (hm.below hV) q hq)
  have HLEN := Lib.hid (fun (V : World) (hV : Below w.heap.size w V) => show V.heap[m]? = some (.map (smE 0 (L.map lkP)).toArray (L.map lkP).length) from hm.below hV)
  have hl0 := lk_look hL hm d (by omega)
  obtain ⟨o0, eo0⟩ : ∃ o, o = prD L d := ⟨_, rfl⟩
  rw [← eo0] at hl0
  have HO0 := Lib.hid (show ∀ p, o0 = some p → (p = 2 ∨ p = 4) ∧ p ≠ d ∧ 1 ≤ L.length from fun p hp => by
    obtain ⟨h1, h2, h3, h4⟩ := prD_some hL (eo0.symm.trans hp)
    exact ⟨h2, fun e => by rcases h2 with h2 | h2; (have := h3 (by omega); omega); omega, List.length_pos_iff.2 h4⟩)
  clear hm hL eo0
  go_enter Tryz.func95, Tryz.ntmps95
  go_wp2_with (fail)
  clear hl0
  go_loopw [6, 7, 8] (fun v s b wr => ∃ (o : Option Nat) (k : Nat) (os : List Value), s = .string (opT o) ∧ b = .bool o.isSome ∧ (∀ p, o = some p → (p = 2 ∨ p = 4) ∧ p ≠ d ∧ (k = 0 ∨ k = 1 ∧ p = 4) ∧ 1 ≤ L.length) ∧ k ≤ 2 ∧ wr.ownsRow w.heap.size 9 1 v k os ∧ Below w.heap.size w wr) (fun _ s b _ => chM s b)
  case atStart => exact ⟨o0, 0, [], rfl, rfl, fun p hp => ⟨(HO0.out p hp).1, (HO0.out p hp).2.1, .inl rfl, (HO0.out p hp).2.2⟩, by omega, World.ownsRow_nil _ _ _ _, Below.refl _ _⟩
  case round =>
    obtain ⟨o, k, os, rfl, rfl, ho, hk, hown, hbr⟩ := hrel
    obtain ⟨XA, xc, rfl⟩ := own_slice hown
    have HO := Lib.hid hown
    have HB := Lib.hid hbr
    have hbs := hbr.size
    clear hown hbr
    cases o with
    | none =>
      clear ho
      go_wp2_with (fail)
      exact bodyPost_ret (v := .tuple #[.slice XA k xc, .bool true]) (by simp [results, Tryz.results95, go_sem]) rfl ⟨XA, xc, k, rfl, HB.out⟩
    | some p =>
      obtain ⟨hp, hpd, hkp, hLp⟩ := ho p rfl
      clear ho
      have hne := bd_ne p d (by omega) (by omega) hpd
      have hmb := HLEN.out wr HB.out
      obtain ⟨ml, eml⟩ : ∃ ml : Nat, ml = L.length := ⟨_, rfl⟩
      have hsz : (smE 0 (L.map lkP)).length = ml := by rw [smE_len, List.length_map, eml]
      have hnk : ¬ (ml : Int) < (k : Int) := by omega
      obtain ⟨E, eE⟩ : ∃ E, E = (smE 0 (L.map lkP)).toArray := ⟨_, rfl⟩
      have hmlen : (Builtin.len_ #[117] 3 #[.map (some m)]).run Tryz.prog wr = .ok (goInt (ml : Nat)) wr := by
        have h := run_len_map (P := Tryz.prog) wr 117 3 m _ _ Tryz.underlying117 hmb
        rw [List.size_toArray, hsz] at h
        exact h
      have hop : opT (some p) = bdT p := rfl
      have hos : (some p).isSome = true := rfl
      rw [hop, hos]
      have HML := Lib.hid eml
      clear hmb hsz eE E eml
      go_wp2_with (at_builtin; refine wpList_append_own2 _ rfl _ _ 85 rfl w.heap.size 9 i0 _ 1 16 Tryz.underlying85 hi0 hz0 hz1 hz2 rfl (by decide) _ _ _ rfl (HO.out.alloc _) ⟨_, 0, none⟩ 1 1 [.string (bdT p)] rfl rfl ?c1 ?c2 ?c3 ?c4 ?c5 ?_)
      case c2 => first | exact rfl | exact ⟨rfl, rfl⟩ | simp
      case c3 => unfold maxLen; omega
      case c4 => omega
      case c5 => first | omega | (simp; omega)
      intro v9 w9 ho9 hg9 hm9
      obtain ⟨UA, uc, rfl⟩ := own_slice ho9
      have hlo : ∀ b, (Value.slice XA k xc).ownBlock = some b → w.heap.size ≤ b := fun b hb => (HO.out.lt b hb).1
      have HB9 := Lib.hid ((HB.out.alloc hbs _).grown hg9 (by simp; omega) hlo)
      have HO9 := Lib.hid ho9
      have hl9 := HLK.out w9 HB9.out p (by omega)
      obtain ⟨o2, eo2⟩ : ∃ o, o = prD L p := ⟨_, rfl⟩
      rw [← eo2] at hl9
      have HO2 := Lib.hid (show ∀ q, o2 = some q → q = 4 ∧ p = 2 from fun q hq => by
        obtain ⟨h1, h2, h3, h4⟩ := prD_some HL.out (eo2.symm.trans hq)
        have : p = 2 := by omega
        exact ⟨h3 this, this⟩)
      have HMS := Lib.hid (show chM (.string (opT o2)) (.bool o2.isSome) < chM (.string (bdT p)) (.bool true) from by
        cases o2 with
        | none =>
          show chM _ (.bool false) < _
          rw [chM_none]
          rcases hp with rfl | rfl
          · rw [chM_two]; omega
          · rw [chM_four]; omega
        | some q =>
          obtain ⟨rfl, rfl⟩ := HO2.out q rfl
          show chM (.string (bdT 4)) (.bool true) < chM (.string (bdT 2)) (.bool true)
          rw [chM_two, chM_four]; omega)
      clear ho9 hg9 hm9 hlo eo2
      go_wp2_with (fail)
      go_roundw
      case rel => exact ⟨o2, k + 1, _, rfl, rfl, fun q hq => by obtain ⟨h1, h2⟩ := HO2.out q hq; exact ⟨.inr h1, by omega, .inr ⟨by omega, h1⟩, by have := HML.out; omega⟩, by omega, HO9.out, HB9.out⟩
      case measure => exact HMS.out
end Go.Proofs.YtgdnedhcbjonkaaGreatDoor

/- Does a moment lie in one of some windows: ContainsFunc with the two closures. Printed by gen_FlC.py. -/
namespace Go.Proofs.YtgdnedhcbjonkaaGreatDoor
open Go.RowKit

set_option maxRecDepth 100000 in
theorem inACl_any (x : Int × Int) (g : Nat) (t : Int) (w : World) (h0 : w.cell? ⟨g, 0, none⟩ = some (.int .i64 t)) (hg : g < w.heap.size) :
    Calls Tryz.prog 98 #[.agg #[.int .i64 x.1, .int .i64 x.2], .pointer (some ⟨g, 0, none⟩)] w fun e w' => e = .returned (.bool (inF t x)) ∧ Below w.heap.size w w' := by
  obtain ⟨a, b⟩ := x
  unfold inF
  simp only
  have hb5 : Below w.heap.size w (w.alloc (.cells #[.int .i64 a, .int .i64 b] 55)) := (Below.refl _ _).alloc (Nat.le_refl _) _
  have hg5 := heap_new w (.cells #[.int .i64 a, .int .i64 b] 55)
  have h1 := (hb5.cell (p := ⟨g, 0, none⟩) hg).trans h0
  have hs5 := (Array.getElem?_eq_some_iff.1 hg5).1
  have q0 := cell_of_blk (j := 0) hg5 rfl
  have q1 := cell_of_blk (j := 1) hg5 rfl
  have hgl : g < (w.alloc (.cells #[.int .i64 a, .int .i64 b] 55)).heap.size := by omega
  have HB := Lib.hid hb5
  clear h0 hg5 hb5
  by_cases ha : a ≤ t
  · by_cases hb : t < b
    · rw [decide_eq_true ha, decide_eq_true hb]
      go_enter Tryz.func98, Tryz.ntmps98
      go_wp2_with (fail)
      go_ret
      exact ⟨rfl, HB.out⟩
    · rw [decide_eq_true ha, decide_eq_false hb]
      go_enter Tryz.func98, Tryz.ntmps98
      go_wp2_with (fail)
      go_ret
      exact ⟨rfl, HB.out⟩
  · rw [decide_eq_false ha, Bool.false_and]
    go_enter Tryz.func98, Tryz.ntmps98
    go_wp2_with (fail)
    go_ret
    exact ⟨rfl, HB.out⟩
def inAPost (l : List (Int × Int)) (t : Int) (e : Ending) : Prop := ∃ z : Int, e = .returned (.int .i64 z) ∧ (0 ≤ z ↔ l.any (inF t) = true)
set_option maxRecDepth 100000 in
set_option maxHeartbeats 2000000 in
theorem inAIdx_any (l : List (Int × Int)) (n c g : Nat) (t : Int) (A : Option Addr) (w : World) (hn : l.length = n) (hn7 : n ≤ 1000) (hr : Row w w.heap.size A (recs alW l)) (h0 : w.cell? ⟨g, 0, none⟩ = some (.int .i64 t)) (hg : g < w.heap.size) :
    Calls Tryz.prog 148 #[.slice A n c, .func (.func 98) #[] #[.pointer (some ⟨g, 0, none⟩)]] w fun e w' => inAPost l t e ∧ Below w.heap.size w w' := by
  have HR := Lib.hid hr
  have HN := Lib.hid hn
  have HH := Lib.hid (fun (x : Int × Int) (V : World) (hV : Below w.heap.size w V) => inACl_any x g t V ((hV.cell (p := ⟨g, 0, none⟩) hg).trans h0) (Nat.lt_of_lt_of_le hg hV.size))
  clear hr hn h0
  go_enter Tryz.func148, Tryz.ntmps148
  go_wp2_with (fail)
  go_loopw [8] (fun i wr => ∃ k : Nat, k ≤ n ∧ i = .int .i64 k ∧ Below w.heap.size w wr ∧ Hid (∀ m x, m < k → l[m]? = some x → inF t x = false)) (fun i _ => n - (intOf i).toNat)
  case atStart => exact ⟨0, Nat.zero_le _, rfl, Below.refl _ _, Lib.hid (fun m x hm _ => by omega)⟩
  case round =>
    obtain ⟨k, hk, rfl, hb, HK⟩ := hrel
    have hbs := hb.size
    have HB := Lib.hid hb
    by_cases hlt : k < n
    · have hltI : (k : Int) < (n : Int) := by omega
      obtain ⟨x, hx⟩ : ∃ x, l[k]? = some x := ⟨_, List.getElem?_eq_getElem (by have := HN.out; omega)⟩
      obtain ⟨b, o, rfl, hbw, hC⟩ := (HR.out.below hb).posR alW_len (by omega) (by have := HN.out; omega)
      have c0 : wr.cell? ⟨b, o + k * 2, none⟩ = some (.int .i64 x.1) := rec_cell alW_len hC k x hx 0 _ rfl
      have c1 : wr.cell? ⟨b, o + k * 2 + 1, none⟩ = some (.int .i64 x.2) := rec_cell alW_len hC k x hx 1 _ rfl
      have hbl : b < wr.heap.size := by omega
      have HX := Lib.hid hx
      clear hC hx hb
      go_wp2_with (fail)
      refine (HH.out x wr HB.out).mono ?_
      rintro e w1 ⟨rfl, hb1⟩
      have HB1 := Lib.hid (HB.out.trans (hb1.mono hbs))
      clear hb1
      cases hu : inF t x
      · have HU := Lib.hid hu
        clear hu
        go_wp2_with (fail)
        go_roundw
        case rel =>
          refine ⟨k + 1, by omega, by simp, HB1.out, Lib.hid (fun m z hm hz => ?_)⟩
          by_cases hmk : m = k
          · subst hmk
            have := HX.out
            rw [hz] at this
            cases this
            exact HU.out
          · exact HK.out m z (by omega) hz
        case measure => simp [intOf]; omega
      · have HU := Lib.hid (show l.any (inF t) = true from by
          rw [List.any_eq_true]
          exact ⟨x, List.mem_of_getElem? HX.out, hu⟩)
        clear hu
        go_wp2_with (fail)
        go_ret
        exact ⟨⟨_, rfl, iff_of_true (by omega) HU.out⟩, HB1.out⟩
    · have hltI : ¬ (k : Int) < (n : Int) := by omega
      have hall := Lib.hid (show l.any (inF t) = false from by
        rw [List.any_eq_false]
        intro q hq
        obtain ⟨m, hm⟩ := List.getElem?_of_mem hq
        rw [HK.out m q (by have := (List.getElem?_eq_some_iff.1 hm).1; have := HN.out; omega) hm]
        simp)
      clear hb
      go_wp2_with (fail)
      go_ret
      exact ⟨⟨_, rfl, iff_of_false (by omega) (by rw [hall.out]; simp)⟩, HB.out⟩
set_option maxRecDepth 100000 in
theorem inA_any (l : List (Int × Int)) (n c g : Nat) (t : Int) (A : Option Addr) (w : World) (hn : l.length = n) (hn7 : n ≤ 1000) (hr : Row w w.heap.size A (recs alW l)) (h0 : w.cell? ⟨g, 0, none⟩ = some (.int .i64 t)) (hg : g < w.heap.size) :
    Calls Tryz.prog 96 #[.slice A n c, .func (.func 98) #[] #[.pointer (some ⟨g, 0, none⟩)]] w fun e w' => e = .returned (.bool (l.any (inF t))) ∧ Below w.heap.size w w' := by
  have HI := Lib.hid (inAIdx_any l n c g t A w hn hn7 hr h0 hg)
  obtain ⟨u, eu⟩ : ∃ u, u = l.any (inF t) := ⟨_, rfl⟩
  unfold inAPost at HI
  rw [← eu] at HI ⊢
  clear hn hr h0 eu
  go_enter Tryz.func96, Tryz.ntmps96
  go_wp2_with (fail)
  refine HI.out.mono ?_
  rintro e w1 ⟨⟨z, rfl, hz⟩, hb1⟩
  have HB1 := Lib.hid hb1
  have HZ := Lib.hid hz
  clear hz hb1
  have HD := Lib.hid (show decide (0 ≤ z) = u from by rw [Bool.eq_iff_iff, decide_eq_true_iff]; exact HZ.out)
  go_wp2_with (fail)
  go_ret
  exact ⟨by rw [← HD.out]; rfl, HB1.out⟩
def inBPost (l : List (Int × Int)) (t : Int) (e : Ending) : Prop := ∃ z : Int, e = .returned (.int .i64 z) ∧ (0 ≤ z ↔ l.any (inF t) = true)
end Go.Proofs.YtgdnedhcbjonkaaGreatDoor

/- (*alarm.scene).leads and cause by their contracts. -/
namespace Go.Proofs.YtgdnedhcbjonkaaGreatDoor
open Go.RowKit Go.Maps Go.WideMaps

def grP (g : Gr) : ByteArray × Value := (alrT g.r, .agg #[.string (alrT g.r), .int .i64 g.lv, .bool g.ca])
def fdG (G : List Gr) (r : Nat) : Option Gr := G.find? fun g => g.r == r
def caG (G : List Gr) (r : Nat) : Bool := match fdG G r with | some g => g.ca | none => false
def lvG (G : List Gr) (r : Nat) : Int := match fdG G r with | some g => g.lv | none => 0
def nmG (G : List Gr) (r : Nat) : ByteArray := match fdG G r with | some g => alrT g.r | none => ⟨#[]⟩
theorem al_inj {a b : Nat} (ha : a < 2) (hb : b < 2) : alrT a = alrT b ↔ a = b := by
  have h1 : a = 0 ∨ a = 1 := by omega
  have h2 : b = 0 ∨ b = 1 := by omega
  rcases h1 with h | h <;> subst h <;> rcases h2 with h | h <;> subst h <;> simp [alrT]
theorem al_le (r : Nat) : (alrT r).size ≤ maxLen := by
  match r with
  | 0 => decide
  | n + 1 => show (⟨#[114, 98]⟩ : ByteArray).size ≤ maxLen; decide
theorem smG_gr : ∀ (G : List Gr) (r : Nat), (∀ x ∈ G, x.r < 2) → r < 2 → smG (alrT r) (G.map grP) = (fdG G r).map fun g => (grP g).2
  | [], r, _, _ => rfl
  | x :: G, r, h, hr => by
    have hx := h x List.mem_cons_self
    have ih := smG_gr G r (fun y hy => h y (List.mem_cons_of_mem _ hy)) hr
    simp only [List.map_cons, smG]
    by_cases e : r = x.r
    · subst e
      rw [if_pos (show alrT x.r = (grP x).1 from rfl)]
      simp [fdG]
    · rw [if_neg (show ¬ alrT r = (grP x).1 from fun e2 => e ((al_inj hr hx).1 e2)), ih]
      unfold fdG
      rw [List.find?_cons_of_neg (by simpa using fun e2 => e e2.symm)]
theorem gr_look {G : List Gr} (hG : ∀ x ∈ G, x.r < 2) {m : Nat} {w : World} (hm : SmI w m (G.map grP)) (r : Nat) (hr : r < 2) :
    (Instr.lookup 116 (.map (some m)) (.string (alrT r)) false).run Tryz.prog w = .ok (.agg #[.string (nmG G r), .int .i64 (lvG G r), .bool (caG G r)]) w := by
  have h := look_sm (P := Tryz.prog) (z := .agg #[.string ⟨#[]⟩, .int .i64 0, .bool false]) Tryz.underlying116 Tryz.underlying9 (by kernel_rfl) (al_le r) hm
  rw [smG_gr G r hG hr] at h
  rw [h]
  unfold nmG lvG caG
  cases fdG G r <;> rfl
/-- Does an alarm cause others? -/
def leadP (G : List Gr) (a : Am) : Bool := decide (a.st ≠ 3) && caG G a.r
set_option maxRecDepth 100000 in
set_option maxHeartbeats 1000000 in
theorem leads_any (G : List Gr) (a : Am) (sb mg : Nat) (w : World) (hG : ∀ x ∈ G, x.r < 2) (hr : a.r < 2) (h0 : w.cell? ⟨sb, 0, none⟩ = some (.map (some mg))) (hm : SmI w mg (G.map grP)) (hsb : sb < w.heap.size) :
    Calls Tryz.prog 53 #[.pointer (some ⟨sb, 0, none⟩), .agg #[.string (aldT a.d), .string (alrT a.r), .int .i64 a.st, .int .i64 a.si, .int .i64 a.n, .int .i64 a.sh]] w fun e w' => e = .returned (.bool (leadP G a)) ∧ Below w.heap.size w w' := by
  obtain ⟨d, r, st, si, n, sh⟩ := a
  unfold leadP
  simp only at hr ⊢
  obtain ⟨ca, eca⟩ : ∃ c, c = caG G r := ⟨_, rfl⟩
  obtain ⟨lv, elv⟩ : ∃ c, c = lvG G r := ⟨_, rfl⟩
  obtain ⟨nm, enm⟩ : ∃ c, c = nmG G r := ⟨_, rfl⟩
  rw [← eca]
  obtain ⟨R, eR⟩ : ∃ R, R = (decide (st ≠ 3) && ca) := ⟨_, rfl⟩
  rw [← eR]
  have HR := Lib.hid eR
  clear eR
  obtain ⟨g, eg⟩ : ∃ g, g = w.heap.size := ⟨_, rfl⟩
  obtain ⟨w5, e5⟩ : ∃ V : World, V = w.alloc (.cells #[.string (aldT d), .string (alrT r), .int .i64 st, .int .i64 si, .int .i64 n, .int .i64 sh] 99) := ⟨_, rfl⟩
  have hb5 : Below w.heap.size w w5 := by rw [e5]; exact (Below.refl _ _).alloc (Nat.le_refl _) _
  have hg5 : w5.heap[g]? = some (.cells #[.string (aldT d), .string (alrT r), .int .i64 st, .int .i64 si, .int .i64 n, .int .i64 sh] 99 (0, 0)) := by rw [e5, eg]; exact heap_new w _
  have hlt5 := (Array.getElem?_eq_some_iff.1 hg5).1
  have hs5 := hb5.size
  have h05 := (hb5.cell (p := ⟨sb, 0, none⟩) hsb).trans h0
  have hm5 := hm.below hb5
  have hsb5 : sb < w5.heap.size := by omega
  have HQ := Lib.hid (fun (V : World) (hV : Below w5.heap.size w5 V) => show V.cell? ⟨g, 2, none⟩ = some (.int .i64 st) ∧ V.cell? ⟨g, 1, none⟩ = some (.string (alrT r)) ∧ V.cell? ⟨sb, 0, none⟩ = some (.map (some mg)) ∧ (Instr.lookup 116 (.map (some mg)) (.string (alrT r)) false).run Tryz.prog V = .ok (.agg #[.string nm, .int .i64 lv, .bool ca]) V from by
    have h := (hV.block g hlt5).trans hg5
    refine ⟨cell_of_blk (j := 2) h rfl, cell_of_blk (j := 1) h rfl, (hV.cell (p := ⟨sb, 0, none⟩) hsb5).trans h05, ?_⟩
    rw [eca, elv, enm]
    exact gr_look hG (hm5.below hV) r hr)
  have HB5 := Lib.hid hb5
  clear hG h0 hm hb5 hg5 h05 hm5 eca elv enm
  go_enter Tryz.func53, Tryz.ntmps53
  go_upto_region 1 with (fail)
  rw [← eg, ← e5]
  clear eg e5
  by_cases hst : st = 3
  · subst hst
    have hd : ((3 : Int) != 3) = false := by decide
    have HE := Lib.hid (show R = false from by rw [HR.out, decide_eq_false (show ¬ ((3 : Int) ≠ 3) from fun h => h rfl), Bool.false_and])
    clear HR
    go_upto_region 1 with (fail)
    refine qRegion (by kernel_rfl) (by kernel_rfl) ?_
    repeat (first
      | (go_big_quiet_want; refine qVal (fun V hV => (by (obtain ⟨q0, q1, q2, q3⟩ := HQ.out V hV; go_simp; try rfl))) ?_; simp only [Act.put, List.setIfInBounds_toArray, List.set_cons_zero, List.set_cons_succ]; go_big_quiet_on)
      | go_big_quiet_skip)
    refine wpQuiet_nil ?_
    intro V hV
    have HF := Lib.hid (HB5.out.trans (hV.mono HB5.out.size))
    clear hV
    go_wp2_with (fail)
    go_ret
    exact ⟨by rw [HE.out]; rfl, HF.out⟩
  · have hd : (st != 3) = true := by simpa using hst
    have HE := Lib.hid (show R = ca from by rw [HR.out, decide_eq_true hst, Bool.true_and])
    clear HR
    go_upto_region 1 with (fail)
    refine qRegion (by kernel_rfl) (by kernel_rfl) ?_
    repeat (first
      | (go_big_quiet_want; refine qVal (fun V hV => (by (obtain ⟨q0, q1, q2, q3⟩ := HQ.out V hV; go_simp; try rfl))) ?_; simp only [Act.put, List.setIfInBounds_toArray, List.set_cons_zero, List.set_cons_succ]; go_big_quiet_on)
      | go_big_quiet_skip)
    refine wpQuiet_nil ?_
    intro V hV
    have HF := Lib.hid (HB5.out.trans (hV.mono HB5.out.size))
    clear hV
    go_wp2_with (fail)
    go_ret
    exact ⟨by rw [HE.out]; rfl, HF.out⟩
/-- The nearest one above that causes others. -/
def cuR (L : List Lk) (cs : Nat → Bool) (d : Nat) : Option Nat :=
  match prD L d with
  | none => none
  | some p => if cs p then some p else match prD L p with | none => none | some q => if cs q then some q else none
def cuO (L : List Lk) (cs : Nat → Bool) : Option Nat → Option Nat
  | none => none
  | some p => if cs p then some p else match prD L p with | none => none | some q => if cs q then some q else none
structure CauI (K : SmL) (cs : Nat → Bool) : Prop where
  k : ∀ d, d < 5 → smG (bdT d) K = if cs d then some (.bool true) else none
theorem cs_look {K : SmL} {cs : Nat → Bool} (hK : CauI K cs) {m : Nat} {w : World} (hm : SmI w m K) (d : Nat) (hd : d < 5) :
    (Instr.lookup 119 (.map (some m)) (.string (bdT d)) false).run Tryz.prog w = .ok (.bool (cs d)) w := by
  have h := look_sm (P := Tryz.prog) (z := .bool false) Tryz.underlying119 Tryz.underlying9 (by kernel_rfl) (bd_le d) hm
  rw [hK.k d hd] at h
  rw [h]
  cases cs d <;> rfl
set_option maxRecDepth 100000 in
set_option maxHeartbeats 2000000 in
theorem cause_any (L : List Lk) (K : SmL) (cs : Nat → Bool) (d sb ma mc : Nat) (w : World) (hL : LksOk L) (hd : d < 4) (h1 : w.cell? ⟨sb, 1, none⟩ = some (.map (some ma))) (h3 : w.cell? ⟨sb, 3, none⟩ = some (.map (some mc))) (hma : SmI w ma (L.map lkP)) (hmc : SmI w mc K) (hK : CauI K cs) (_hsb : sb < w.heap.size) :
    Calls Tryz.prog 52 #[.pointer (some ⟨sb, 0, none⟩), .string (bdT d)] w fun e w' => e = .returned (.string (opT (cuR L cs d))) ∧ w = w' := by
  have hl0 := lk_look hL hma d (by omega)
  have HLK := Lib.hid (fun (q : Nat) (hq : q < 5) => And.intro (lk_look hL hma q hq) (cs_look hK hmc q hq))
  obtain ⟨R, eR⟩ : ∃ R, R = cuR L cs d := ⟨_, rfl⟩
  obtain ⟨o0, eo0⟩ : ∃ o, o = prD L d := ⟨_, rfl⟩
  rw [← eR]
  have HR0 := Lib.hid (show R = cuO L cs o0 from by rw [eR, eo0]; unfold cuR cuO; cases prD L d <;> rfl)
  have HO0 := Lib.hid (show ∀ p, o0 = some p → (p = 2 ∨ p = 4) from fun p hp => (prD_some hL (eo0.symm.trans hp)).2.1)
  have HL := Lib.hid hL
  rw [← eo0] at hl0
  clear hL hma hmc hK eR eo0
  go_enter Tryz.func52, Tryz.ntmps52
  go_wp2_with (fail)
  clear hl0
  go_loopw [5, 6] (fun s b wr => ∃ (o : Option Nat), s = .string (opT o) ∧ b = .bool o.isSome ∧ (∀ p, o = some p → (p = 2 ∨ p = 4)) ∧ Hid (R = cuO L cs o) ∧ wr = w) (fun s b _ => chM s b)
  case atStart => exact ⟨o0, rfl, rfl, HO0.out, HR0, rfl⟩
  case round =>
    obtain ⟨o, rfl, rfl, ho, HR, ewr⟩ := hrel
    rw [ewr]
    clear ewr
    cases o with
    | none =>
      clear ho
      have HE := Lib.hid (show R = none from HR.out)
      go_wp2_with (fail)
      go_ret
      exact ⟨by rw [HE.out]; rfl, rfl⟩
    | some p =>
      have hp := ho p rfl
      clear ho
      obtain ⟨hl, hc⟩ := HLK.out p (by omega)
      have hop : opT (some p) = bdT p := rfl
      have hos : (some p).isSome = true := rfl
      rw [hop, hos]
      obtain ⟨b, eb⟩ : ∃ b, b = cs p := ⟨_, rfl⟩
      rw [← eb] at hc
      cases b with
      | true =>
        have HE := Lib.hid (show R = some p from by rw [HR.out]; show (if cs p then some p else _) = _; rw [← eb]; rfl)
        clear eb hl
        go_wp2_with (fail)
        go_ret
        exact ⟨by rw [HE.out]; rfl, rfl⟩
      | false =>
        obtain ⟨o2, eo2⟩ : ∃ o, o = prD L p := ⟨_, rfl⟩
        rw [← eo2] at hl
        have HO2 := Lib.hid (show ∀ q, o2 = some q → q = 4 ∧ p = 2 from fun q hq => by
          obtain ⟨h1, h2, h3, h4⟩ := prD_some HL.out (eo2.symm.trans hq)
          have : p = 2 := by omega
          exact ⟨h3 this, this⟩)
        have HR2 := Lib.hid (show R = cuO L cs o2 from by
          rw [HR.out]
          show (if cs p then some p else match prD L p with | none => none | some q => if cs q then some q else none) = _
          rw [← eb, ← eo2, if_neg (by decide)]
          cases o2 with
          | none => rfl
          | some q =>
            obtain ⟨rfl, rfl⟩ := HO2.out q rfl
            show (if cs 4 then some 4 else none) = (if cs 4 then some 4 else match prD L 4 with | none => none | some q => if cs q then some q else none)
            rw [prD_four HL.out])
        have HMS := Lib.hid (show chM (.string (opT o2)) (.bool o2.isSome) < chM (.string (bdT p)) (.bool true) from by
          cases o2 with
          | none =>
            show chM _ (.bool false) < _
            rw [chM_none]
            rcases hp with rfl | rfl
            · rw [chM_two]; omega
            · rw [chM_four]; omega
          | some q =>
            obtain ⟨rfl, rfl⟩ := HO2.out q rfl
            show chM (.string (bdT 4)) (.bool true) < chM (.string (bdT 2)) (.bool true)
            rw [chM_two, chM_four]; omega)
        clear eb eo2
        go_wp2_with (fail)
        go_roundw
        case rel => exact ⟨o2, rfl, rfl, fun q hq => .inr (HO2.out q hq).1, HR2, trivial⟩
        case measure => exact HMS.out
end Go.Proofs.YtgdnedhcbjonkaaGreatDoor

/- base.First by its contract. -/
namespace Go.Proofs.YtgdnedhcbjonkaaGreatDoor
open Go.RowKit

theorem first_ok (n c g : Nat) (w : World) (hn : n ≤ 1000) (hc : Cells w g 0 (List.replicate n (.int .i64 0))) :
    Calls Tryz.prog 42 #[.slice (some ⟨g, 0, none⟩) n c] w fun e w' => e = .returned (.int .i64 0) ∧ w = w' := by
  have HC := Lib.hid hc
  clear hc
  go_enter Tryz.func42, Tryz.ntmps42
  go_wp2
  go_loop [7] (fun i => ∃ k : Nat, k ≤ n ∧ i = .int .i64 k) (fun i => n - (intOf i).toNat)
  case atStart => exact ⟨0, Nat.zero_le _, rfl⟩
  case round =>
    obtain ⟨k, hk, rfl⟩ := hrel
    by_cases hlt : k < n
    · have hcell := HC.out k (.int .i64 0) (by simp [hlt])
      simp only [Nat.zero_add] at hcell
      go_wp2
      go_round
      case rel => exact ⟨k + 1, by omega, by go_num⟩
      case measure => simp [intOf]; omega
    · go_wp2
      go_ret
      exact ⟨rfl, rfl⟩
end Go.Proofs.YtgdnedhcbjonkaaGreatDoor

/- alarm.Flapping by its contract. -/
namespace Go.Proofs.YtgdnedhcbjonkaaGreatDoor
open Go.RowKit Go.Shelf

def FlapQ (W : World) (R : List (Int × Int)) (e : Ending) (w' : World) : Prop := ∃ A c n, e = .returned (.tuple #[.slice A n c, .int .i64 0]) ∧ R.length = n ∧ w'.ownsRow W.heap.size 55 2 (.slice A n c) n (recs alW R) ∧ Below W.heap.size W w'
theorem ints_row {w : World} {b : Nat} {e : TypeId} {A : Option Addr} {n c : Nat} {ra : List Int} (h : w.ownsRow b e 1 (.slice A n c) n (alI ra)) : Row w w.heap.size A (alI ra) := by
  rcases own_two h with ⟨rfl, h0, _⟩ | ⟨g, rfl, _, hlt⟩
  · have : (alI ra).length = 0 := by have := h.1; omega
    exact .inl (List.eq_nil_of_length_eq_zero this)
  · exact .inr ⟨g, 0, rfl, hlt, own_cells0 h⟩
end Go.Proofs.YtgdnedhcbjonkaaGreatDoor

/- Stages of a region that appends to a row that a cell of a block holds, and stores the row there; maps that are set. No program in sight. -/
namespace Go.Proofs.YtgdnedhcbjonkaaGreatDoor
open Go.RowKit

structure KAm {α : Type} (C : α → List Value) (q : Nat) (ty : TypeId) (W : World) (bx j S0 : Nat) (cs : Array Value) (bt : TypeId) (v0 vb vr : Value) (n : Nat) (G : List α) (w : World) : Prop where
  blk : w.heap[bx]? = some (.cells (cs.setIfInBounds j vb) bt (0, 0))
  row : w.ownsRow S0 ty q vr n (recs C G)
  gr : GrF W w (fun b => b = bx ∨ v0.ownBlock = some b)
section
variable {α : Type} {C : α → List Value} {q : Nat} {ty : TypeId} {W w w' : World} {bx j S0 : Nat} {cs : Array Value} {bt : TypeId} {v0 vb vr : Value} {n : Nat} {G : List α}
theorem KAm.cell (h : KAm C q ty W bx j S0 cs bt v0 vb vr n G w) (hj : j < cs.size) : w.cell? ⟨bx, j, none⟩ = some vb :=
  cell_of_blk h.blk (by simp [hj])
theorem KAm.lt (h : KAm C q ty W bx j S0 cs bt v0 vb vr n G w) : bx < w.heap.size := (Array.getElem?_eq_some_iff.1 h.blk).1
theorem KAm.fro (h : KAm C q ty W bx j S0 cs bt v0 vb vr n G w) (i : Nat) : w.frozen? ⟨bx, i, none⟩ = false := by simp [World.frozen?, h.blk]
theorem KAm.alloc (h : KAm C q ty W bx j S0 cs bt v0 vb vr n G w) (o : Obj) : KAm C q ty W bx j S0 cs bt v0 vb vr n G (w.alloc o) :=
  ⟨(Below.heap_alloc _ _ _ h.lt).trans h.blk, own_belowP h.row ((Below.refl _ _).alloc (Nat.le_refl _) _), h.gr.trans ⟨rfl, rfl, rfl, by simp, fun b hb _ => Below.heap_alloc _ _ _ hb⟩⟩
theorem KAm.app {G' : List α} {u : Value} {m : Nat} (h : KAm C q ty W bx j S0 cs bt v0 vb v0 n G w) (ho : w'.ownsRow S0 ty q u m (recs C G')) (hg : w.grownBy w' v0.ownBlock) (hxS : bx < S0) (hvW : ∀ b, v0.ownBlock = some b → b < W.heap.size) : KAm C q ty W bx j S0 cs bt v0 vb u m G' w' ∧ GrN W w w' := by
  have hlo : ∀ b, v0.ownBlock = some b → S0 ≤ b := fun b hb => (h.row.lt b hb).1
  exact ⟨⟨(hg.block bx h.lt (fun e => by have := hlo bx e.symm; omega)).trans h.blk, ho, h.gr.trans (GrF.of_grown hg _ (fun b e => .inr e))⟩, hg.size, fun b hb hlt => hg.block b hlt (fun e => by have := hvW b e.symm; omega)⟩
theorem KAm.store (h : KAm C q ty W bx j S0 cs bt v0 vb vr n G w) (hxS : bx < S0) (hbxW : bx < W.heap.size) : KAm C q ty W bx j S0 cs bt v0 vr vr n G (w.setCell ⟨bx, j, none⟩ vr) ∧ GrN W w (w.setCell ⟨bx, j, none⟩ vr) := by
  have hset : ∀ b, b ≠ bx → (w.setCell ⟨bx, j, none⟩ vr).heap[b]? = w.heap[b]? := fun b hb => Below.heap_setCell _ _ _ _ hb
  have hsz : (w.setCell ⟨bx, j, none⟩ vr).heap.size = w.heap.size := by simp [World.setCell]
  refine ⟨⟨?_, own_keptB h.row (fun b hb => hset b (by have := (h.row.lt b hb).1; omega)), h.gr.set (.inl rfl) vr⟩, by rw [hsz]; exact Nat.le_refl _, fun b hb _ => hset b (by omega)⟩
  rw [heap_setCell_blk vr h.blk]
  simp
end
/-- Stages: ahead of the append, behind it, behind the store. -/
def KA {α : Type} (C : α → List Value) (q : Nat) (ty : TypeId) (W : World) (bx j S0 : Nat) (cs : Array Value) (bt : TypeId) (v : Value) (n : Nat) (G : List α) (y : α) (u : Value) : Nat → World → Prop
  | 0, w => KAm C q ty W bx j S0 cs bt v v v n G w
  | 1, w => KAm C q ty W bx j S0 cs bt v v u (n + 1) (G ++ [y]) w
  | _, w => KAm C q ty W bx j S0 cs bt v u u (n + 1) (G ++ [y]) w
section
variable {α : Type} {C : α → List Value} {q : Nat} {ty : TypeId} {W w w' : World} {bx j S0 : Nat} {cs : Array Value} {bt : TypeId} {v u : Value} {n s : Nat} {G : List α} {y : α}
theorem KA.alloc (h : KA C q ty W bx j S0 cs bt v n G y u s w) (o : Obj) : KA C q ty W bx j S0 cs bt v n G y u s (w.alloc o) := by
  match s, h with
  | 0, h => exact KAm.alloc h o
  | 1, h => exact KAm.alloc h o
  | _ + 2, h => exact KAm.alloc h o
theorem KA.any (h : KA C q ty W bx j S0 cs bt v n G y u s w) : ∃ vb vr n' G', KAm C q ty W bx j S0 cs bt v vb vr n' G' w := by
  match s, h with
  | 0, h => exact ⟨_, _, _, _, h⟩
  | 1, h => exact ⟨_, _, _, _, h⟩
  | _ + 2, h => exact ⟨_, _, _, _, h⟩
theorem KA.low (h : KA C q ty W bx j S0 cs bt v n G y u s w) (hs : s ≤ 0) : KAm C q ty W bx j S0 cs bt v v v n G w := by
  obtain rfl : s = 0 := by omega
  exact h
/-- A cell of another block stays. -/
theorem KA.old (h : KA C q ty W bx j S0 cs bt v n G y u s w) {b i : Nat} {z : Value} (hc : W.cell? ⟨b, i, none⟩ = some z) (hbW : b < W.heap.size) (hne : b ≠ bx) (hv : v.ownBlock ≠ some b) : w.cell? ⟨b, i, none⟩ = some z := by
  obtain ⟨vb, vr, n', G', h⟩ := h.any
  rw [← hc]
  show World.cell? _ _ = World.cell? _ _
  simp only [World.cell?, h.gr.block b hbW (fun e => e.elim hne hv)]
theorem KA.lt_old (h : KA C q ty W bx j S0 cs bt v n G y u s w) {b : Nat} (hbW : b < W.heap.size) : b < w.heap.size := by
  obtain ⟨vb, vr, n', G', h⟩ := h.any
  exact Nat.lt_of_lt_of_le hbW h.gr.size
end
theorem grF_map {w V : World} {p : Nat → Prop} (h : GrF w V p) {m : Nat} (hm : p m) (o : Obj) : GrF w { V with heap := V.heap.setIfInBounds m o } p :=
  ⟨h.os, h.tape, h.output, by simpa using h.size, fun b hb hn => by
    rw [← h.block b hb hn]
    exact Array.getElem?_setIfInBounds_ne (fun e => hn (by rw [← e]; exact hm))⟩
theorem map_other {V : World} {m b : Nat} (o : Obj) (h : b ≠ m) : ({ V with heap := V.heap.setIfInBounds m o } : World).heap[b]? = V.heap[b]? := Array.getElem?_setIfInBounds_ne (fun e => h e.symm)
end Go.Proofs.YtgdnedhcbjonkaaGreatDoor

/- A row that is owned, to read. -/
namespace Go.Proofs.YtgdnedhcbjonkaaGreatDoor
open Go.RowKit

theorem row_ownN {α : Type} {f : α → List Value} {k : Nat} {w : World} {base n c : Nat} {e : TypeId} {A : Option Addr} {l : List α} (ho : w.ownsRow base e k (.slice A n c) n (recs f l)) (hn : l.length = n) : Row w w.heap.size A (recs f l) := by
  rcases own_two ho with ⟨rfl, h0, _⟩ | ⟨g, rfl, _, hlt⟩
  · have : l = [] := List.eq_nil_of_length_eq_zero (by omega)
    subst this
    exact .inl rfl
  · exact .inr ⟨g, 0, rfl, hlt, own_cells0 ho⟩
end Go.Proofs.YtgdnedhcbjonkaaGreatDoor

/- alarm.newScene by its contract: the alarms that are live, and the devices that cause others. -/
namespace Go.Proofs.YtgdnedhcbjonkaaGreatDoor
open Go.RowKit Go.Maps Go.WideMaps

/-- Not normal, not shelved, not flapping. -/
def liveB (fm fw fc : Int) (l : List Sg) (t : Int) (a : Am) : Bool := decide (a.st ≠ 0) && decide (¬ 0 < a.sh) && !(flA fm fw fc (lifeAt l t (a.d, a.r)).ra t)
def liveL (fm fw fc : Int) (l : List Sg) (t : Int) : List Am := (amsL l t).filter (liveB fm fw fc l t)
def csL (G : List Gr) (N : List Am) (d : Nat) : Bool := N.any fun a => leadP G a && decide (a.d = d)
def scBk (mg ma mc : Nat) (v : Value) : Obj := .cells #[.map (some mg), .map (some ma), v, .map (some mc)] 121 (0, 0)
structure ScI (w : World) (B sb mg ma mc : Nat) (v : Value) (L : List Lk) (G : List Gr) (N : List Am) (K : SmL) : Prop where
  blk : w.heap[sb]? = some (scBk mg ma mc v)
  g : SmI w mg (G.map grP)
  a : SmI w ma (L.map lkP)
  c : SmI w mc K
  k : CauI K (csL G N)
  row : w.ownsRow B 99 6 v N.length (recs amC N)
def ScP (fm fw fc : Int) (l : List Sg) (t : Int) (L : List Lk) (G : List Gr) (w : World) (e : Ending) (w' : World) : Prop :=
  ∃ sb mg ma mc v K, e = .returned (.pointer (some ⟨sb, 0, none⟩)) ∧ ScI w' w.heap.size sb mg ma mc v L G (liveL fm fw fc l t) K ∧ Below w.heap.size w w'
/-- Between two rounds. -/
structure ScR (w6 w : World) (sb mg ma mc : Nat) (v : Value) (G : List Gr) (N : List Am) (n : Nat) (K : SmL) : Prop where
  blk : w.heap[sb]? = some (scBk mg ma mc v)
  c : SmI w mc K
  k : CauI K (csL G N)
  row : w.ownsRow w6.heap.size 99 6 v n (recs amC N)
  gr : GrF w6 w (fun b => b = sb ∨ b = mc)
theorem ScR.below {w6 w w' : World} {sb mg ma mc : Nat} {v : Value} {G : List Gr} {N : List Am} {n : Nat} {K : SmL} (h : ScR w6 w sb mg ma mc v G N n K) (hb : Below w.heap.size w w') : ScR w6 w' sb mg ma mc v G N n K :=
  ⟨(hb.block sb (Array.getElem?_eq_some_iff.1 h.blk).1).trans h.blk, h.c.below hb, h.k, own_belowP h.row hb, h.gr.trans ⟨hb.os, hb.tape, hb.output, hb.size, fun b hb' _ => hb.block b hb'⟩⟩
theorem liveB_not {fm fw fc t : Int} {l : List Sg} {a : Am} (h : a.st = 0 ∨ 0 < a.sh ∨ flA fm fw fc (lifeAt l t (a.d, a.r)).ra t = true) : liveB fm fw fc l t a = false := by
  unfold liveB
  rcases h with h | h | h
  · rw [h]; rfl
  · rw [decide_eq_false (show ¬ ¬ 0 < a.sh from fun k => k h), Bool.and_false]; rfl
  · rw [h]; simp
theorem liveB_yes {fm fw fc t : Int} {l : List Sg} {a : Am} (h1 : ¬ a.st = 0) (h2 : ¬ 0 < a.sh) (h3 : flA fm fw fc (lifeAt l t (a.d, a.r)).ra t = false) : liveB fm fw fc l t a = true := by
  unfold liveB
  rw [h3, decide_eq_true h1, decide_eq_true h2]
  rfl
theorem filter_snocL {α β : Type} (E : List α) (V : α → β) (P : β → Bool) {i : Nat} {p : α} (h : E[i]? = some p) : ((E.take (i + 1)).map V).filter P = ((E.take i).map V).filter P ++ (if P (V p) then [V p] else []) := by
  rw [List.take_add_one, h]
  simp only [Option.toList_some, List.map_append, List.map_cons, List.map_nil, List.filter_append]
  congr 1
  by_cases hp : P (V p) <;> simp [hp]
set_option maxRecDepth 100000 in
set_option maxHeartbeats 8000000 in
theorem newScene_any (fm fw fc : Int) (L : List Lk) (G : List Gr) (LA GA : Option Addr) (ln lc gn gc : Nat) (l : List Sg) (n c : Nat) (A : Option Addr) (t : Int) (w : World)
    (hf : FlOk fm fw fc) (hL : LksOk L) (hG : GrsOk G) (hln : L.length = ln) (hgn : G.length = gn) (hl4 : ln ≤ 4) (hg2 : gn ≤ 2) (hr : Row w w.heap.size LA (recs lkC L)) (hr2 : Row w w.heap.size GA (recs grC G))
    (hl : SgsOk l) (hn : l.length = n) (hn2 : n ≤ 1000) (hrl : Row w w.heap.size A (recs sgC l)) (ht0 : 0 ≤ t) (ht1 : t < 345686400000) :
    Calls Tryz.prog 51 #[.agg #[.int .i64 fm, .int .i64 fw, .int .i64 fc, .slice LA ln lc, .slice GA gn gc], .slice A n c, .int .i64 t] w fun e w' => ScP fm fw fc l t L G w e w' := by
  obtain ⟨i0, hi0, hz0, hz1, hz2⟩ := info_parts Tryz.infoAm
  have hmm := @run_makeMap Tryz.prog
  -- the boxes of the board and of the moment
  obtain ⟨g0, eg0⟩ : ∃ g, g = w.heap.size := ⟨_, rfl⟩
  obtain ⟨g1, eg1⟩ : ∃ g, g = w.heap.size + 1 := ⟨_, rfl⟩
  obtain ⟨w0, e0⟩ : ∃ V : World, V = (w.alloc (.cells #[.int .i64 fm, .int .i64 fw, .int .i64 fc, .slice LA ln lc, .slice GA gn gc] 33)).alloc (.cells #[.int .i64 t] 3) := ⟨_, rfl⟩
  have hb0 : Below w.heap.size w w0 := by rw [e0]; exact ((Below.refl _ _).alloc (Nat.le_refl _) _).alloc (by simp) _
  have hg0 : w0.heap[g0]? = some (.cells #[.int .i64 fm, .int .i64 fw, .int .i64 fc, .slice LA ln lc, .slice GA gn gc] 33 (0, 0)) := by rw [e0, eg0, Below.heap_alloc _ _ _ (by simp)]; exact heap_new w _
  have hg1 : w0.heap[g1]? = some (.cells #[.int .i64 t] 3 (0, 0)) := by
    rw [e0, eg1]
    have := heap_new (w.alloc (.cells #[.int .i64 fm, .int .i64 fw, .int .i64 fc, .slice LA ln lc, .slice GA gn gc] 33)) (.cells #[.int .i64 t] 3)
    simpa using this
  have hlt0 := (Array.getElem?_eq_some_iff.1 hg0).1
  have hlt1 := (Array.getElem?_eq_some_iff.1 hg1).1
  have HKB := Lib.hid (fun (V : World) (h : V.heap[g0]? = w0.heap[g0]?) => box5 (h.trans hg0))
  have HK1 := Lib.hid (fun (V : World) (h : V.heap[g1]? = w0.heap[g1]?) => show V.cell? ⟨g1, 0, none⟩ = some (.int .i64 t) from cell_of_blk (j := 0) (h.trans hg1) rfl)
  have HB0 := Lib.hid hb0
  have HLR := Lib.hid (fun (V : World) (hV : Below w.heap.size w V) => show Row V V.heap.size LA (recs lkC L) from (hr.below hV).mono hV.size)
  have HGR := Lib.hid (fun (V : World) (hV : Below w.heap.size w V) => show Row V V.heap.size GA (recs grC G) from (hr2.below hV).mono hV.size)
  have HA := Lib.hid (fun (V : World) (hV : Below w.heap.size w V) => at_any l n c t A V hn (by omega) ((hrl.below hV).mono hV.size) (fun s hs => (hl.1 s hs).v))
  have HLO := Lib.hid (And.intro hL hln)
  have HGO := Lib.hid (And.intro hG hgn)
  have HF := Lib.hid hf
  have HLV := Lib.hid (fun m => lifeAt_ok t m l (fun s hs => (hl.1 s hs).v))
  have HT := Lib.hid (And.intro ht0 (And.intro ht1 (And.intro hn hn2)))
  have hwg0 : w.heap.size ≤ g0 := by omega
  have hwg1 : w.heap.size ≤ g1 := by omega
  clear hL hG hln hgn hr hr2 hf hb0 hg0 hg1 hl hn hrl ht0 ht1
  go_enter Tryz.func51, Tryz.ntmps51
  go_upto_region 1 with (fail)
  rw [← eg1, ← eg0, ← e0]
  clear eg0 eg1 e0
  obtain ⟨k0, k1, k2, k3, k4⟩ := HKB.out w0 rfl
  obtain ⟨mg, emg⟩ : ∃ g, g = w0.heap.size := ⟨_, rfl⟩
  obtain ⟨w1, e1⟩ : ∃ V : World, V = w0.alloc (.map #[] 0) := ⟨_, rfl⟩
  have hb1 : Below w0.heap.size w0 w1 := by rw [e1]; exact (Below.refl _ _).alloc (Nat.le_refl _) _
  have hm1 : SmI w1 mg [] := by rw [e1, emg]; exact heap_new w0 _
  have HB1 := Lib.hid (And.intro hb1 (HB0.out.trans (hb1.mono HB0.out.size)))
  have HM1 := Lib.hid hm1
  have hs1 : w1.heap.size = mg + 1 := by rw [e1, emg]; simp
  have HPA := Lib.hid (parents_any L ln lc LA w1 HLO.out.1 HLO.out.2 hl4 (HLR.out w1 HB1.out.2))
  go_wp2_with (fail)
  rw [← emg, ← e1]
  have hmg0 : w0.heap.size ≤ mg ∧ mg ≤ w0.heap.size := by omega
  clear e1 hb1 hm1 emg
  refine HPA.out.mono ?_
  rintro e w2 ⟨ma, rfl, hma, hmaw, hb2⟩
  have HB2 := Lib.hid (And.intro (HB1.out.1.trans (hb2.mono HB1.out.1.size)) (HB1.out.2.trans (hb2.mono HB1.out.2.size)))
  have HM2 := Lib.hid (And.intro (HM1.out.below hb2) hma)
  have hs2 := hb2.size
  have hma2 := hma.lt
  clear hma hb2 k0 k1 k2 k3 k4
  go_upto_region 2 with (fail)
  obtain ⟨mc, emc⟩ : ∃ g, g = w2.heap.size := ⟨_, rfl⟩
  obtain ⟨sb, esb⟩ : ∃ g, g = w2.heap.size + 1 := ⟨_, rfl⟩
  obtain ⟨w4, e4⟩ : ∃ V : World, V = (w2.alloc (.map #[] 0)).alloc (.cells #[.map (some mg), .map (some ma), .slice none 0 0, .map (some mc)] 121) := ⟨_, rfl⟩
  rw [← esb, ← emc, ← e4]
  have hb4 : Below w2.heap.size w2 w4 := by rw [e4]; exact ((Below.refl _ _).alloc (Nat.le_refl _) _).alloc (by simp) _
  have hmc4 : SmI w4 mc [] := by
    show w4.heap[mc]? = _
    rw [e4, emc, Below.heap_alloc _ _ _ (by simp)]
    exact heap_new w2 _
  have hsb4 : w4.heap[sb]? = some (scBk mg ma mc (.slice none 0 0)) := by
    rw [e4, esb]
    have := heap_new (w2.alloc (.map #[] 0)) (.cells #[.map (some mg), .map (some ma), .slice none 0 0, .map (some mc)] 121)
    unfold scBk
    simpa using this
  have HB4 := Lib.hid (And.intro (HB2.out.1.trans (hb4.mono HB2.out.1.size)) (HB2.out.2.trans (hb4.mono HB2.out.2.size)))
  have HM4 := Lib.hid (And.intro (HM2.out.1.below hb4) (And.intro (HM2.out.2.below hb4) (And.intro hmc4 hsb4)))
  have hs4 : w4.heap.size = w2.heap.size + 2 := by rw [e4]; simp
  have hord : mg < ma ∧ ma < mc ∧ mc < sb ∧ w.heap.size ≤ mg ∧ g0 < mg ∧ g1 < mg := by
    have := HB0.out.size
    omega
  have hsbl : sb < w4.heap.size := by omega
  clear e4 emc esb hb4 hmc4 hsb4 hs4 hs2 hs1 hmaw hma2
  -- the grades
  have HKX := Lib.hid (fun (V : World) (hV : GrF w4 V (fun b => b = mg)) => show V.heap[g0]? = w0.heap[g0]? ∧ V.heap[g1]? = w0.heap[g1]? ∧ V.heap[sb]? = some (scBk mg ma mc (.slice none 0 0)) ∧ SmI V ma (L.map lkP) ∧ SmI V mc [] from by
    have hz := HB4.out.1.size
    refine ⟨(hV.block g0 (by omega) (by omega)).trans (HB4.out.1.block g0 hlt0), (hV.block g1 (by omega) (by omega)).trans (HB4.out.1.block g1 hlt1), (hV.block sb hsbl (by omega)).trans HM4.out.2.2.2, HM4.out.2.1.keep (hV.block ma HM4.out.2.1.lt (by omega)), HM4.out.2.2.1.keep (hV.block mc HM4.out.2.2.1.lt (by omega))⟩)
  have HKW := Lib.hid (fun (V : World) (hV : GrF w4 V (fun b => b = mg)) => show Below w.heap.size w V from by
    have h1 : GrF w w4 (fun b => w.heap.size ≤ b) := GrF.of_below HB4.out.2 _ (fun b h _ => h)
    exact (h1.trans (hV.mono (fun b _ h => by omega))).below (fun b _ h => h) (Nat.le_refl _))
  obtain ⟨hx0, hx1, hx2, _, _⟩ := HKX.out w4 (GrF.refl _ _)
  obtain ⟨k0, k1, k2, k3, k4⟩ := HKB.out w4 hx0
  have hg04 := Nat.lt_of_lt_of_le hlt0 HB4.out.1.size
  clear hx0 hx1 hx2
  go_wp2_with (fail)
  clear k0 k1 k2 k3 k4
  go_loopw [25] (fun s wr => ∃ (i : Nat), i ≤ gn ∧ s = .int .i64 (i : Int) ∧ GrF w4 wr (fun b => b = mg) ∧ SmI wr mg ((G.take i).map grP)) (fun s _ => gn - (intOf s).toNat)
  case atStart => exact ⟨0, by omega, rfl, GrF.refl _ _, HM4.out.1⟩
  case round =>
    obtain ⟨i, hin, rfl, hgr, hm⟩ := hrel
    have hbs := hgr.size
    have HGF := Lib.hid hgr
    have HMG := Lib.hid hm
    clear hgr hm
    by_cases hlt : i < gn
    · have hltI : (i : Int) < gn := by omega
      obtain ⟨x, hx⟩ : ∃ x, G[i]? = some x := ⟨_, List.getElem?_eq_getElem (by have := HGO.out.2; omega)⟩
      obtain ⟨b, o, rfl, hb, hC⟩ := (HGR.out wr (HKW.out wr HGF.out)).posR grC_len (by omega) (by have := HGO.out.2; omega)
      have c0 : wr.cell? ⟨b, o + i * 3, none⟩ = some (.string (alrT x.r)) := rec_cell grC_len hC i x hx 0 _ rfl
      have c1 : wr.cell? ⟨b, o + i * 3 + 1, none⟩ = some (.int .i64 x.lv) := rec_cell grC_len hC i x hx 1 _ rfl
      have c2 : wr.cell? ⟨b, o + i * 3 + 2, none⟩ = some (.bool x.ca) := rec_cell grC_len hC i x hx 2 _ rfl
      obtain ⟨hxr, _, _⟩ := HGO.out.1.each x (List.mem_of_getElem? hx)
      have hnew : smG (alrT x.r) ((G.take i).map grP) = none := by
        rw [smG_gr _ _ (fun y hy => (HGO.out.1.each y (List.mem_of_mem_take hy)).1) hxr]
        have : fdG (G.take i) x.r = none := by
          unfold fdG
          rw [List.find?_eq_none]
          intro y hy
          obtain ⟨j, hj, rfl⟩ := List.getElem_of_mem hy
          rw [List.length_take] at hj
          rw [List.getElem_take]
          obtain ⟨hi, rfl⟩ := List.getElem?_eq_some_iff.1 hx
          have := (List.pairwise_iff_getElem.1 HGO.out.1.ord) j i (by omega) hi (by omega)
          simp; omega
        rw [this]; rfl
      have hus := smU_new (alrT x.r) (grP x).2 _ hnew
      have htk : (G.take i).map grP ++ [(alrT x.r, (grP x).2)] = (G.take (i + 1)).map grP := by
        rw [List.take_add_one, hx]
        simp [grP]
      rw [htk] at hus
      have HUS := Lib.hid hus
      obtain ⟨g, eg⟩ : ∃ g, g = wr.heap.size := ⟨_, rfl⟩
      obtain ⟨w5, e5⟩ : ∃ V : World, V = wr.alloc (.cells #[.string (alrT x.r), .int .i64 x.lv, .bool x.ca] 70) := ⟨_, rfl⟩
      have hb5 : Below wr.heap.size wr w5 := by rw [e5]; exact (Below.refl _ _).alloc (Nat.le_refl _) _
      have hg5 : w5.heap[g]? = some (.cells #[.string (alrT x.r), .int .i64 x.lv, .bool x.ca] 70 (0, 0)) := by rw [e5, eg]; exact heap_new wr _
      have hlt5 := (Array.getElem?_eq_some_iff.1 hg5).1
      have hs5 := hb5.size
      obtain ⟨hx0, _, hx2, _, _⟩ := HKX.out wr HGF.out
      have hsb5 : w5.heap[sb]? = some (scBk mg ma mc (.slice none 0 0)) := (hb5.block sb (by omega)).trans hx2
      have HG5 := Lib.hid (And.intro hsb5 hg5)
      have HGF5 := Lib.hid (show GrF w4 w5 (fun b => b = mg) from HGF.out.trans ⟨hb5.os, hb5.tape, hb5.output, hb5.size, fun b hb _ => hb5.block b hb⟩)
      have HMG5 := Lib.hid (HMG.out.below hb5)
      have HQ := Lib.hid (fun (V : World) (hV : Below w5.heap.size w5 V) => show V.cell? ⟨sb, 0, none⟩ = some (.map (some mg)) ∧ V.cell? ⟨g, 0, none⟩ = some (.string (alrT x.r)) ∧ V.cell? ⟨g, 1, none⟩ = some (.int .i64 x.lv) ∧ V.cell? ⟨g, 2, none⟩ = some (.bool x.ca) from by
        have h1 := (hV.block sb (by omega)).trans HG5.out.1
        have h2 := (hV.block g hlt5).trans HG5.out.2
        exact ⟨cell_of_blk (j := 0) h1 rfl, cell_of_blk (j := 0) h2 rfl, cell_of_blk (j := 1) h2 rfl, cell_of_blk (j := 2) h2 rfl⟩)
      have hsb5l : sb < w5.heap.size := by omega
      clear hx hC hnew hus htk hb5 hg5 hx0 hx2 hsb5
      go_upto_region 5 with (fail)
      rw [← eg, ← e5]
      clear eg e5 c0 c1 c2
      go_upto_region 5 with (fail)
      refine qRegionTail 7 (by kernel_rfl) (by kernel_rfl) ?_
      simp only [List.take_succ_cons, List.take_zero, List.drop_succ_cons, List.drop_zero]
      repeat (first
        | (go_big_quiet_want; refine qVal (fun V hV => (by (obtain ⟨q0, q1, q2, q3⟩ := HQ.out V hV; go_simp; try rfl))) ?_; simp only [Act.put, List.setIfInBounds_toArray, List.set_cons_zero, List.set_cons_succ]; go_big_quiet_on)
        | go_big_quiet_skip)
      refine wpQuiet_nil ?_
      intro T hT
      have hTs := hT.size
      have hmT := HMG5.out.below hT
      have hup := upd_sm (P := Tryz.prog) (v := (grP x).2) Tryz.underlying116 Tryz.underlying9 (al_le x.r) hmT
      rw [HUS.out] at hup
      unfold grP at hup
      simp only at hup
      obtain ⟨T2, eT2⟩ : ∃ V : World, V = { T with heap := T.heap.setIfInBounds mg (.map (smE 0 ((G.take (i + 1)).map grP)).toArray ((G.take (i + 1)).map grP).length) } := ⟨_, rfl⟩
      have hup2 : (Instr.mapUpdate 116 (.map (some mg)) (.string (alrT x.r)) (.agg #[.string (alrT x.r), .int .i64 x.lv, .bool x.ca])).run Tryz.prog T = .ok () T2 := by rw [eT2]; exact hup
      have HT2 := Lib.hid (show GrF w4 T2 (fun b => b = mg) ∧ SmI T2 mg ((G.take (i + 1)).map grP) from by
        rw [eT2]
        refine ⟨grF_map (HGF5.out.trans ⟨hT.os, hT.tape, hT.output, hT.size, fun b hb _ => hT.block b hb⟩) rfl _, ?_⟩
        have h := hmT.upd (k := alrT x.r) (v := (grP x).2)
        rw [HUS.out] at h
        exact h)
      clear hup hT eT2 hmT
      go_wp2_with (fail)
      go_roundw
      case rel => exact ⟨i + 1, by omega, by go_num, HT2.out.1, HT2.out.2⟩
      case measure => simp [intOf]; omega
    · have hltI : ¬ (i : Int) < gn := by omega
      have hin' : i = gn := by omega
      have HMGA := Lib.hid (show SmI wr mg (G.map grP) from by
        have h := HMG.out
        rw [hin', ← HGO.out.2, List.take_length] at h
        exact h)
      obtain ⟨w5, ew5⟩ : ∃ V : World, V = wr := ⟨_, rfl⟩
      rw [← ew5] at HGF HMGA hbs ⊢
      clear ew5 HMG
      have HKW5 := Lib.hid (HKW.out w5 HGF.out)
      have HX5 := Lib.hid (HKX.out w5 HGF.out)
      have k5 := HK1.out w5 HX5.out.2.1
      have hg15 : g1 < w5.heap.size := by have := HB4.out.1.size; omega
      have hg05 : g0 < w5.heap.size := by omega
      have hsb5 : sb < w5.heap.size := by omega
      go_wp2_with (fail)
      refine (HA.out w5 HKW5.out).mono ?_
      rintro e w6 ⟨hs, mh, o, M, rfl, hI, hord2, hnm, hLL, hB6⟩
      obtain ⟨E, eo, hE1, hE2⟩ := house_order2 hI hord2 hnm hLL
      have HFIN := Lib.hid (show ((E.map fun p => viewL (lifeAt l t p.1) t).filter (liveB fm fw fc l t)) = liveL fm fw fc l t from by
        obtain ⟨E', eo', hF1, hF2, hF3, hF4, hF5⟩ := house_order hI hord2 hnm hLL
        have hsh : ((E.map fun p => viewL (lifeAt l t p.1) t).filter shownA) = amsL l t := by
          have e1 : (E.map fun p => viewL (lifeAt l t p.1) t) = (E.map (·.1)).map fun n => viewL (lifeAt l t n) t := by rw [List.map_map]; rfl
          rw [e1, hE1]
          have hK := order_names (K := E'.map (·.1)) hF1 hF2 hF3 hF4
          rw [← hK]
          exact order_shown HT.out.1 hF1 hF2 hF3 hF4
        unfold liveL
        rw [← hsh, List.filter_filter]
        congr 1
        funext a
        by_cases h : liveB fm fw fc l t a = true
        · rw [h, Bool.true_and]
          unfold liveB at h
          have h1 : a.st ≠ 0 := by
            intro e
            rw [e] at h
            simp at h
          unfold shownA
          rw [decide_eq_true h1]
          rfl
        · rw [Bool.not_eq_true] at h
          rw [h, Bool.false_and])
      obtain ⟨Ao, co, hbo, hoo⟩ := hI.blk
      have hMl : M.length = E.length := by
        have h1 := hI.perm.length_eq
        rw [eo, List.length_map, List.length_map] at h1
        exact h1.symm
      obtain ⟨q, eq⟩ : ∃ q, q = E.length := ⟨_, rfl⟩
      have hq6 : q ≤ 6 := by
        have h1 : (E.map (·.1)).length ≤ 6 := by rw [hE1]; exact List.length_filter_le _ _
        rw [List.length_map] at h1
        omega
      rw [hMl, ← eq] at hbo hoo
      rw [eo] at hoo
      have hc1 := cell_of_blk (j := 1) hbo rfl
      have hhl := (Array.getElem?_eq_some_iff.1 hbo).1
      have hs6 := hB6.size
      have HB6 := Lib.hid hB6
      have HE2 := Lib.hid hE2
      have HQ := Lib.hid eq.symm
      have HOO := Lib.hid hoo
      have HR6 := Lib.hid (show ScR w6 w6 sb mg ma mc (.slice none 0 0) G [] 0 [] from
        ⟨(hB6.block sb hsb5).trans HX5.out.2.2.1, HX5.out.2.2.2.2.below hB6, ⟨fun d _ => rfl⟩, World.ownsRow_nil _ _ _ _, GrF.refl _ _⟩)
      clear hI hord2 hnm hLL hB6 eo hE1 hE2 hbo hoo hMl eq k5
      -- what stays
      have HOLD := Lib.hid (fun (V : World) (hV : GrF w6 V (fun b => b = sb ∨ b = mc)) => show (V.heap[g0]? = w0.heap[g0]? ∧ V.heap[g1]? = w0.heap[g1]?) ∧ SmI V mg (G.map grP) ∧ SmI V ma (L.map lkP) ∧ Below w.heap.size w V ∧ ∀ b, w5.heap.size ≤ b → b < w6.heap.size → V.heap[b]? = w6.heap[b]? from by
        have hk : ∀ b, b < w5.heap.size → b ≠ sb → b ≠ mc → V.heap[b]? = w5.heap[b]? := fun b hb h1 h2 => (hV.block b (by omega) (fun e => e.elim h1 h2)).trans (HB6.out.block b hb)
        refine ⟨⟨(hk g0 hg05 (by omega) (by omega)).trans HX5.out.1, (hk g1 hg15 (by omega) (by omega)).trans HX5.out.2.1⟩, HMGA.out.keep (hk mg HMGA.out.lt (by omega) (by omega)), HX5.out.2.2.2.1.keep (hk ma HX5.out.2.2.2.1.lt (by omega) (by omega)), ?_, fun b h1 h2 => hV.block b h2 (fun e => by omega)⟩
        have h1 : GrF w w5 (fun b => w.heap.size ≤ b) := GrF.of_below HKW5.out _ (fun b h _ => h)
        have h2 : GrF w5 w6 (fun b => w.heap.size ≤ b) := GrF.of_below HB6.out _ (fun b h _ => by have := HKW5.out.size; omega)
        exact ((h1.trans h2).trans (hV.mono (fun b _ h => by rcases h with h | h <;> omega))).below (fun b _ h => h) (Nat.le_refl _))
      go_wp2_with (fail)
      clear hc1
      go_loopw [44] (fun s wr => ∃ (i : Nat) (v : Value) (N : List Am) (K : SmL), i ≤ q ∧ s = .int .i64 (i : Int) ∧ N = ((E.take i).map fun p => viewL (lifeAt l t p.1) t).filter (liveB fm fw fc l t) ∧ ScR w6 wr sb mg ma mc v G N N.length K) (fun s _ => q - (intOf s).toNat)
      case atStart => exact ⟨0, .slice none 0 0, [], [], by omega, rfl, rfl, HR6.out⟩
      case round =>
        obtain ⟨i, v, N, K, hin, rfl, hN, hR⟩ := hrel
        obtain ⟨nn, enn⟩ : ∃ m, m = N.length := ⟨_, rfl⟩
        rw [← enn] at hR
        have hnn : nn ≤ 6 := by
          rw [enn, hN]
          refine Nat.le_trans (List.length_filter_le _ _) ?_
          rw [List.length_map, List.length_take]
          omega
        have HR := Lib.hid hR
        have HNN := Lib.hid (And.intro hN enn)
        have hbs := hR.gr.size
        clear hR hN enn
        by_cases hlt : i < q
        · have hltI : (i : Int) < q := by omega
          obtain ⟨p, hp⟩ : ∃ p, E[i]? = some p := ⟨_, List.getElem?_eq_getElem (by have := HQ.out; omega)⟩
          obtain ⟨hnm, vl, hv, hvB⟩ := HE2.out p (List.mem_of_getElem? hp)
          obtain ⟨g, rfl, hgb, hglt⟩ : ∃ g, Ao = some ⟨g, 0, none⟩ ∧ w5.heap.size ≤ g ∧ g < w6.heap.size := by
            rcases own_two HOO.out with ⟨_, h0, _⟩ | ⟨g, h1, h2, h3⟩
            · omega
            · exact ⟨g, h1, h2, h3⟩
          have hci := own_cells0 HOO.out i (lfP p.2) (by rw [List.getElem?_map, List.getElem?_map, hp]; rfl)
          rw [Nat.zero_add] at hci
          obtain ⟨hx0, hx1, hx2, hx3, hx4⟩ := HOLD.out wr HR.out.gr
          have hciW : wr.cell? ⟨g, i, none⟩ = some (lfP p.2) := by
            rw [← hci]
            show World.cell? _ _ = _
            simp only [World.cell?, hx4 g hgb hglt]
          unfold lfP at hciW
          have hgwr : g < wr.heap.size := by omega
          have hXr : LfI wr p.2 (lifeAt l t p.1) vl := hv.keep fun b hb => hx4 b (hvB b hb) (hv.foot_lt hb)
          have HSN := Lib.hid (filter_snocL E (fun p => viewL (lifeAt l t p.1) t) (liveB fm fw fc l t) hp)
          obtain ⟨hn1, hn2'⟩ := lifeAt_name l t p.1
          have hst := HLV.out p.1
          obtain ⟨Lf', eL⟩ : ∃ L, L = lifeAt l t p.1 := ⟨_, rfl⟩
          rw [← eL] at hXr HSN hn1 hn2' hst
          have hae : p.1 = (Lf'.d, Lf'.r) := by rw [hn1, hn2']
          obtain ⟨a, ea⟩ : ∃ a, a = viewL Lf' t := ⟨_, rfl⟩
          have had : a.d = Lf'.d ∧ a.r = Lf'.r := by rw [ea]; exact ⟨rfl, rfl⟩
          have hnmo : a.d < 3 ∧ a.r < 2 := by
            rw [hae] at hnm
            rw [had.1, had.2]
            exact hnm
          obtain ⟨fl, efl⟩ : ∃ b, b = flA fm fw fc Lf'.ra t := ⟨_, rfl⟩
          have HFL := Lib.hid (show fl = flA fm fw fc (lifeAt l t (a.d, a.r)).ra t from by rw [efl, had.1, had.2, ← hae, ← eL])
          have hra : Lf'.ra.length ≤ 1000 ∧ ∀ r ∈ Lf'.ra, 0 ≤ r ∧ r < 345686400000 := ⟨Nat.le_trans (hst.len 0 (by omega)) (by have := HT.out; omega), hst.rng⟩
          obtain ⟨x, ex⟩ : ∃ x, x = p.2 := ⟨_, rfl⟩
          rw [← ex] at hciW hXr
          have HV := Lib.hid (view_any x t Lf' vl wr hXr)
          unfold ViewPost at HV
          rw [← ea] at HV HSN
          have HX := Lib.hid hXr
          have HRA := Lib.hid hra
          have HEF := Lib.hid efl
          have kt := HK1.out wr hx0.2
          have hg1r : g1 < wr.heap.size := by omega
          obtain ⟨sh, esh⟩ : ∃ s, s = shownA a := ⟨_, rfl⟩
          rw [← esh] at HV
          have HSH := Lib.hid (show ¬ a.st = 0 → sh = true from fun h => by rw [esh]; unfold shownA; rw [decide_eq_true h]; rfl)
          clear hci hp hnm hv hvB hXr hx0 hx1 hx2 hx3 hx4 hn1 hn2' hst eL hae ea had efl hra ex esh
          go_wp2_with (fail)
          refine HV.out.mono ?_
          rintro e w7 ⟨rfl, hb7⟩
          have hs7 := hb7.size
          have HX7 := Lib.hid (HX.out.below hb7)
          have HR7 := Lib.hid (HR.out.below hb7)
          clear hb7 hciW kt
          unfold amC
          go_upto_region 11 with (fail)
          obtain ⟨ga, ega⟩ : ∃ g, g = w7.heap.size := ⟨_, rfl⟩
          obtain ⟨w8, e8⟩ : ∃ V : World, V = w7.alloc (.cells #[.string (aldT a.d), .string (alrT a.r), .int .i64 a.st, .int .i64 a.si, .int .i64 a.n, .int .i64 a.sh] 99) := ⟨_, rfl⟩
          rw [← ega, ← e8]
          have hb8 : Below w7.heap.size w7 w8 := by rw [e8]; exact (Below.refl _ _).alloc (Nat.le_refl _) _
          have hg8 : w8.heap[ga]? = some (.cells #[.string (aldT a.d), .string (alrT a.r), .int .i64 a.st, .int .i64 a.si, .int .i64 a.n, .int .i64 a.sh] 99 (0, 0)) := by rw [e8, ega]; exact heap_new w7 _
          have hlt8 := (Array.getElem?_eq_some_iff.1 hg8).1
          have hs8 := hb8.size
          have HX8 := Lib.hid (HX7.out.below hb8)
          have HR8 := Lib.hid (HR7.out.below hb8)
          have HG8 := Lib.hid hg8
          have hga6 : w6.heap.size ≤ ga := by omega
          have hgawr : wr.heap.size ≤ ga := by omega
          clear ega e8 hb8 hg8
          -- does it flap?
          obtain ⟨hx0, _⟩ := HOLD.out w8 HR8.out.gr
          obtain ⟨k0, k1, k2, _, _⟩ := HKB.out w8 hx0.1
          have kt := HK1.out w8 hx0.2
          obtain ⟨XA, xc, hv0⟩ := own_slice (HX8.out.row 0 (by omega))
          obtain ⟨rn, ern⟩ : ∃ q, q = Lf'.ra.length := ⟨_, rfl⟩
          replace hv0 : vl 0 = .slice XA rn xc := by rw [ern]; exact hv0
          have hrow := HX8.out.row 0 (by omega)
          rw [hv0] at hrow
          have hrow2 : Row w8 w8.heap.size XA (alI Lf'.ra) := ints_row (by rw [ern] at hrow; exact hrow)
          have k4 : w8.cell? ⟨x, 4, none⟩ = some (.slice XA rn xc) := by rw [← hv0]; exact cell_of_blk (j := 4) HX8.out.blk rfl
          have HFA := Lib.hid (fun (V : World) (hV : Below w8.heap.size w8 V) => flaps_any fm fw fc Lf'.ra rn xc XA V HF.out ern.symm (by rw [ern]; exact HRA.out.1) HRA.out.2 ((hrow2.below hV).mono hV.size))
          have hxl8 := HX8.out.lt
          have hg08 : g0 < w8.heap.size := by omega
          have hg18 : g1 < w8.heap.size := by omega
          have HKEEP := Lib.hid (fun (V : World) (hV : Below w8.heap.size w8 V) => show V.cell? ⟨g0, 0, none⟩ = some (.int .i64 fm) ∧ V.cell? ⟨g0, 1, none⟩ = some (.int .i64 fw) ∧ V.cell? ⟨g0, 2, none⟩ = some (.int .i64 fc) ∧ V.cell? ⟨x, 4, none⟩ = some (.slice XA rn xc) from
            ⟨(hV.cell (p := ⟨g0, 0, none⟩) hg08).trans k0, (hV.cell (p := ⟨g0, 1, none⟩) hg08).trans k1, (hV.cell (p := ⟨g0, 2, none⟩) hg08).trans k2, (hV.cell (p := ⟨x, 4, none⟩) hxl8).trans k4⟩)
          have HIN := Lib.hid (fun (V : World) (hV : Below w8.heap.size w8 V) (R : List (Int × Int)) (A5 : Option Addr) (n5 c5 : Nat) (hn5 : R.length = n5) (h5 : n5 ≤ 1000) (hr5 : Row V V.heap.size A5 (recs alW R)) => inA_any R n5 c5 g1 t A5 V hn5 h5 hr5 ((hV.cell (p := ⟨g1, 0, none⟩) hg18).trans kt) (Nat.lt_of_lt_of_le hg18 hV.size))
          have HFLN := Lib.hid (show (flR fm fw fc Lf'.ra).length ≤ 1000 from by unfold flR; rw [List.length_map]; exact Nat.le_trans (flF_len fm fw fc Lf'.ra _) HRA.out.1)
          clear hx0 hrow hrow2 hv0 ern kt
          go_cut [14] (fun s wx => s = .bool fl ∧ Below w8.heap.size w8 wx)
          case first =>
            go_region_held3 (fun V => V.cell? ⟨g0, 0, none⟩ = some (.int .i64 fm) ∧ V.cell? ⟨g0, 1, none⟩ = some (.int .i64 fw) ∧ V.cell? ⟨g0, 2, none⟩ = some (.int .i64 fc) ∧ V.cell? ⟨x, 4, none⟩ = some (.slice XA rn xc))
              (first | go_keep | (exact hS))
              (first
                | (go_at_call 96; have hq := hB1; refine (HIN.out _ hB1 _ _ _ _ hn5 h5 hr5).mono ?_; rintro e wB ⟨rfl, hbB⟩; have hB2 := hB1.trans (hbB.mono hB1.size); have hS := HKEEP.out wB hB2)
                | (go_at_call 97; refine (HFA.out _ ((Below.refl w8.heap.size w8).drew)).mono ?_; rintro e wA ⟨A5, c5, n5, rfl, hn5, ho5, hbA⟩; have hB1 := ((Below.refl w8.heap.size w8).drew).trans hbA; have h5 := (by rw [← hn5]; exact HFLN.out : n5 ≤ 1000); have hr5 := row_ownN ho5 hn5; have hS := HKEEP.out wA hB1))
            all_goals
              go_wp2_with (fail)
              go_meet
              exact ⟨by rw [HEF.out]; rfl, hB2⟩
          case rest =>
          obtain ⟨rfl, hbc⟩ := hcut
          obtain ⟨w9, ew9⟩ : ∃ V : World, V = wc := ⟨_, rfl⟩
          rw [← ew9] at hbc ⊢
          have hs9 := hbc.size
          have HR9 := Lib.hid (HR8.out.below hbc)
          have HG9 := Lib.hid ((hbc.block ga hlt8).trans HG8.out)
          have hlt9 : ga < w9.heap.size := by omega
          clear ew9 hbc k0 k1 k2 k4
          obtain ⟨q0, q1, q2, q3, q4, q5⟩ := box6 HG9.out
          have HSKIP := Lib.hid (fun (h : liveB fm fw fc l t a = false) => show N = ((E.take (i + 1)).map fun p => viewL (lifeAt l t p.1) t).filter (liveB fm fw fc l t) from by
            rw [HSN.out, h, ← HNN.out.1]
            simp)
          obtain ⟨skip, eskip⟩ : ∃ b, b = !(liveB fm fw fc l t a) := ⟨_, rfl⟩
          go_upto_region 12 with (fail)
          go_cut [77] (fun s wx => s = .bool skip ∧ wx = w9)
          case first =>
            by_cases h0 : a.st = 0
            · have hsk : skip = true := by rw [eskip, liveB_not (.inl h0)]; rfl
              have hd : (a.st == 0) = true := by simpa using h0
              cases sh
              · go_wp2_with (fail)
                go_meet
                exact ⟨by rw [hsk], rfl⟩
              · go_wp2_with (fail)
                go_meet
                exact ⟨by rw [hsk], rfl⟩
            · have hsh := HSH.out h0
              subst hsh
              have hd : (a.st == 0) = false := by simpa using h0
              by_cases h1 : 0 < a.sh
              · have hsk : skip = true := by rw [eskip, liveB_not (.inr (.inl h1))]; rfl
                have hd1 : decide (0 < a.sh) = true := decide_eq_true h1
                go_wp2_with (fail)
                go_meet
                exact ⟨by rw [hsk], rfl⟩
              · have hd1 : decide (0 < a.sh) = false := decide_eq_false h1
                have hsk : skip = fl := by
                  rw [eskip]
                  cases hf : fl
                  · rw [liveB_yes h0 h1 (by rw [← HFL.out]; exact hf)]; rfl
                  · rw [liveB_not (.inr (.inr (by rw [← HFL.out]; exact hf)))]; rfl
                go_wp2_with (fail)
                go_meet
                exact ⟨by rw [hsk], rfl⟩
          case rest =>
          obtain ⟨rfl, ewc⟩ := hcut
          rw [ewc]
          clear ewc
          cases skip
          case true =>
            have HNE := Lib.hid (HSKIP.out (by cases h : liveB fm fw fc l t a; rfl; rw [h] at eskip; cases eskip))
            go_wp2_with (fail)
            go_roundw
            case rel => exact ⟨i + 1, v, N, K, by omega, by go_num, HNE.out, by rw [← HNN.out.2]; exact HR9.out⟩
            case measure => simp [intOf]; omega
          have HNE := Lib.hid (show N ++ [a] = ((E.take (i + 1)).map fun p => viewL (lifeAt l t p.1) t).filter (liveB fm fw fc l t) from by
            have hlv : liveB fm fw fc l t a = true := by
              cases h : liveB fm fw fc l t a
              · rw [h] at eskip; cases eskip
              · rfl
            rw [HSN.out, hlv, ← HNN.out.1]
            rfl)
          clear eskip
          obtain ⟨XV, vc, rfl⟩ := own_slice HR9.out.row
          have hsb9 : sb < w9.heap.size := by omega
          have hsb6 : sb < w6.heap.size := by omega
          have hvlt : ∀ b, (Value.slice XV nn vc).ownBlock = some b → b < wr.heap.size := fun b hb => (HR.out.row.lt b hb).2
          have hvga : (Value.slice XV nn vc).ownBlock ≠ some ga := fun e => by have := hvlt ga e; omega
          have hvW : ∀ b, (Value.slice XV nn vc).ownBlock = some b → b < w9.heap.size := fun b hb => by have := hvlt b hb; omega
          have hgasb : ga ≠ sb := by omega
          have HC := Lib.hid (And.intro q0 (And.intro q1 (And.intro q2 (And.intro q3 (And.intro q4 q5)))))
          go_upto_region 13 with (fail)
          go_cut [] (fun wx => ∃ u, KAm amC 6 99 w9 sb 2 w6.heap.size #[.map (some mg), .map (some ma), .slice none 0 0, .map (some mc)] 121 (.slice XV nn vc) u u (nn + 1) (N ++ [a]) wx)
          case first =>
            have HK0 := Lib.hid (show KA amC 6 99 w9 sb 2 w6.heap.size #[.map (some mg), .map (some ma), .slice none 0 0, .map (some mc)] 121 (.slice XV nn vc) nn N a undef 0 w9.drew from ⟨HR9.out.blk, HR9.out.row, ⟨rfl, rfl, rfl, Nat.le_refl _, fun _ _ _ => rfl⟩⟩)
            refine qRegionSa (KA amC 6 99 w9 sb 2 w6.heap.size #[.map (some mg), .map (some ma), .slice none 0 0, .map (some mc)] 121 (.slice XV nn vc) nn N a) 7 0 85 _
              [.pointer (some ⟨sb, 0, none⟩), .pointer (some ⟨sb, 0, none⟩), .pointer (some ⟨sb, 0, none⟩), .pointer (some ⟨sb, 2, none⟩), .slice XV nn vc, .agg #[.string (aldT a.d), .string (alrT a.r), .int .i64 a.st, .int .i64 a.si, .int .i64 a.n, .int .i64 a.sh], undef, undef, .pointer (some ⟨sb, 0, none⟩), .pointer (some ⟨sb, 2, none⟩), .tuple #[]]
              [none, none, none, none, none, none, some (.cells #[.string (aldT a.d), .string (alrT a.r), .int .i64 a.st, .int .i64 a.si, .int .i64 a.n, .int .i64 a.sh] 99, fun b => .slice (some ⟨b, 0, none⟩) 1 1), none, none, none, none]
              [0, 0, 0, 0, 0, 0, 0, 1, 0, 0, 2]
              [2, 2, 2, 2, 0, 2, 2, 2, 2, 2, 2] 2 (by kernel_rfl) (by kernel_rfl) rfl rfl (by rfl) rfl rfl rfl rfl HK0.out (fun u s w o h => KA.alloc h o) ?_ ?_ ?_
            · intro u; simp only [putL, Act.put, List.setIfInBounds_toArray, List.set_cons_zero, List.set_cons_succ]
              refine ⟨?_, ?_, ?_, ?_, ?_, ?_, ?_, ?_, ?_, ?_, ?_, trivial⟩
              · exact fun _ => OneSt.pure (fun G V => by simp only [putH, Act.put, List.setIfInBounds_toArray, List.set_cons_zero, List.set_cons_succ]; go_simp)
              · exact fun _ => OneSt.pure (fun G V => by simp only [putH, Act.put, List.setIfInBounds_toArray, List.set_cons_zero, List.set_cons_succ]; go_simp)
              · exact fun _ => OneSt.pure (fun G V => by simp only [putH, Act.put, List.setIfInBounds_toArray, List.set_cons_zero, List.set_cons_succ]; go_simp)
              · exact fun _ => OneSt.pure (fun G V => by simp only [putH, Act.put, List.setIfInBounds_toArray, List.set_cons_zero, List.set_cons_succ]; go_simp)
              · exact fun _ => OneSt.load (fun G s V hK hs => by have hq := KA.low hK hs; have c0 := hq.cell (by simp); have hgl := hq.lt; simp only [putH, Act.put, List.setIfInBounds_toArray, List.set_cons_zero, List.set_cons_succ]; go_simp)
              · exact fun _ => OneSt.load (fun G s V hK hs => by have p0 := KA.old hK q0 hlt9 hgasb hvga; have p1 := KA.old hK q1 hlt9 hgasb hvga; have p2 := KA.old hK q2 hlt9 hgasb hvga; have p3 := KA.old hK q3 hlt9 hgasb hvga; have p4 := KA.old hK q4 hlt9 hgasb hvga; have p5 := KA.old hK q5 hlt9 hgasb hvga; have hgl := KA.lt_old hK hlt9; simp only [putH, Act.put, List.setIfInBounds_toArray, List.set_cons_zero, List.set_cons_succ]; go_simp)
              · exact fun _ => OneSt.lay (fun G V => by simp only [putH, Act.put, List.setIfInBounds_toArray, List.set_cons_zero, List.set_cons_succ]; go_simp)
              · exact fun h => absurd rfl h
              · exact fun _ => OneSt.pure (fun G V => by simp only [putH, Act.put, List.setIfInBounds_toArray, List.set_cons_zero, List.set_cons_succ]; go_simp)
              · exact fun _ => OneSt.pure (fun G V => by simp only [putH, Act.put, List.setIfInBounds_toArray, List.set_cons_zero, List.set_cons_succ]; go_simp)
              · exact fun _ => OneSt.store (fun G V hK hL => by obtain ⟨UA, uc, rfl⟩ := own_slice (KAm.row hK); have c0 := KAm.cell hK (by simp); have f0 := KAm.fro hK 2; have hgl := KAm.lt hK; have hs := KAm.store hK hsb6 hsb9; refine ⟨_, ?_, rfl, hs.1, hs.2⟩; simp only [putH, Act.put, List.setIfInBounds_toArray, List.set_cons_zero, List.set_cons_succ]; go_simp)
            · intro u G V hK hL
              obtain ⟨hg1, hg2⟩ := hL 6 _ _ rfl (by kernel_rfl)
              refine app_st (.tmp 82) (.tmp 84) 118 rfl w6.heap.size 99 i0 _ 6 64 Tryz.underlying118 hi0 hz0 hz1 hz2 rfl (by decide) (.slice XV nn vc) nn (recs amC N) ?_ (KAm.row hK) ⟨G 6, 0, none⟩ 1 1 (amC a) ?_ rfl (cells_add (cells_blk hg2 rfl)) (amC_one _) (by unfold maxLen; omega) (by omega) (by have := (KAm.gr hK).size; omega) ?_
              · simp only [putL, putH, Act.put, List.setIfInBounds_toArray, List.set_cons_zero, List.set_cons_succ]; rfl
              · simp only [putL, putH, Act.put, List.setIfInBounds_toArray, List.set_cons_zero, List.set_cons_succ]; rfl
              · intro v' w2 ho hg hm
                rw [← recs_snoc] at ho
                exact KAm.app hK ho hg hsb6 hvW
            · intro u G W7 hK hsz hG
              clear hG
              have HK := Lib.hid hK
              clear hK
              simp only [putL, putH, Act.put, List.setIfInBounds_toArray, List.set_cons_zero, List.set_cons_succ]
              go_wp2_with (fail)
              go_meet
              exact ⟨u, HK.out⟩
          case rest =>
          obtain ⟨u, hKu⟩ := hcut
          obtain ⟨w10, ew10⟩ : ∃ V : World, V = wc := ⟨_, rfl⟩
          rw [← ew10] at hKu ⊢
          have hs10 := hKu.gr.size
          have hga10 : w10.heap[ga]? = w9.heap[ga]? := hKu.gr.block ga hlt9 (fun e => e.elim hgasb hvga)
          have hmc10 : w10.heap[mc]? = w9.heap[mc]? := hKu.gr.block mc HR9.out.c.lt (fun e => e.elim (by omega) (fun e => by have := (HR9.out.row.lt mc e).1; omega))
          have hgr10 : GrF w6 w10 (fun b => b = sb ∨ b = mc) := by
            have h1 : GrF w6 w9 (fun b => b = sb ∨ b = mc ∨ w6.heap.size ≤ b) := HR9.out.gr.mono (fun b _ h => h.elim .inl (fun h => .inr (.inl h)))
            have h2 : GrF w9 w10 (fun b => b = sb ∨ b = mc ∨ w6.heap.size ≤ b) := hKu.gr.mono (fun b _ h => h.elim .inl (fun h => .inr (.inr (HR9.out.row.lt b h).1)))
            exact (h1.trans h2).mono (fun b hb h => by rcases h with h | h | h; exact .inl h; exact .inr h; omega)
          have HG10 := Lib.hid (hga10.trans HG9.out)
          have hlt10 : ga < w10.heap.size := by omega
          have HU := Lib.hid (show w10.heap[sb]? = some (scBk mg ma mc u) ∧ w10.ownsRow w6.heap.size 99 6 u (nn + 1) (recs amC (N ++ [a])) ∧ SmI w10 mc K ∧ GrF w6 w10 (fun b => b = sb ∨ b = mc) from ⟨hKu.blk, hKu.row, HR9.out.c.keep hmc10, hgr10⟩)
          have HM10 := Lib.hid (HOLD.out w10 hgr10)
          clear ew10 hKu hga10 hmc10 hgr10 q0 q1 q2 q3 q4 q5
          obtain ⟨q0, q1, q2, q3, q4, q5⟩ := box6 HG10.out
          have hsb10 : sb < w10.heap.size := by omega
          have HLD := Lib.hid (leads_any G a sb mg w10 (fun x hx => (HGO.out.1.each x hx).1) hnmo.2 (cell_of_blk (j := 0) HU.out.1 rfl) HM10.out.2.1 hsb10)
          obtain ⟨ld, eld⟩ : ∃ b, b = leadP G a := ⟨_, rfl⟩
          rw [← eld] at HLD
          have HLE := Lib.hid eld
          clear eld
          go_wp2_with (fail)
          refine HLD.out.mono ?_
          rintro e w11 ⟨rfl, hb11⟩
          have hs11 := hb11.size
          have HU11 := Lib.hid (show w11.heap[sb]? = some (scBk mg ma mc u) ∧ w11.ownsRow w6.heap.size 99 6 u (nn + 1) (recs amC (N ++ [a])) ∧ SmI w11 mc K ∧ GrF w6 w11 (fun b => b = sb ∨ b = mc) from
            ⟨(hb11.block sb hsb10).trans HU.out.1, own_belowP HU.out.2.1 hb11, HU.out.2.2.1.below hb11, HU.out.2.2.2.trans ⟨hb11.os, hb11.tape, hb11.output, hb11.size, fun b hb' _ => hb11.block b hb'⟩⟩)
          have HG11 := Lib.hid ((hb11.block ga hlt10).trans HG10.out)
          clear hb11 q0 q1 q2 q3 q4 q5
          have hcsn : ∀ d, csL G (N ++ [a]) d = (csL G N d || (leadP G a && decide (a.d = d))) := fun d => by unfold csL; rw [List.any_append]; simp
          cases ld
          case false =>
            have HRn := Lib.hid (show ScR w6 w11 sb mg ma mc u G (N ++ [a]) (nn + 1) K from ⟨HU11.out.1, HU11.out.2.2.1, ⟨fun d hd => by rw [HR9.out.k.k d hd, hcsn d, ← HLE.out, Bool.false_and, Bool.or_false]⟩, HU11.out.2.1, HU11.out.2.2.2⟩)
            clear hcsn
            go_wp2_with (fail)
            go_roundw
            case rel => exact ⟨i + 1, u, N ++ [a], K, by omega, by go_num, HNE.out, by rw [List.length_append, ← HNN.out.2]; exact HRn.out⟩
            case measure => simp [intOf]; omega
          case true =>
            have hbd := bd_ald a.d hnmo.1
            have hlt11 : ga < w11.heap.size := by omega
            have hsb11 : sb < w11.heap.size := by omega
            have HQ2 := Lib.hid (fun (V : World) (hV : Below w11.heap.size w11 V) => show V.cell? ⟨sb, 3, none⟩ = some (.map (some mc)) ∧ V.cell? ⟨ga, 0, none⟩ = some (.string (bdT a.d)) from by
              have h1 := (hV.block sb hsb11).trans HU11.out.1
              have h2 := (hV.block ga hlt11).trans HG11.out
              rw [hbd] at h2
              exact ⟨cell_of_blk (j := 3) h1 rfl, cell_of_blk (j := 0) h2 rfl⟩)
            have HCK := Lib.hid (show CauI (smU (bdT a.d) (.bool true) K) (csL G (N ++ [a])) from ⟨fun d hd => by
              rw [smG_U, hcsn d, ← HLE.out, Bool.true_and]
              by_cases e : d = a.d
              · rw [if_pos (by rw [e]), decide_eq_true e.symm, Bool.or_true]; rfl
              · rw [if_neg (fun h => e ((bd_inj d a.d hd (by omega)).1 h)), decide_eq_false (fun h => e h.symm), Bool.or_false]
                exact HR9.out.k.k d hd⟩)
            clear hcsn
            go_upto_region 15 with (fail)
            go_upto_region 15 with (fail)
            refine qRegionTail 6 (by kernel_rfl) (by kernel_rfl) ?_
            simp only [List.take_succ_cons, List.take_zero, List.drop_succ_cons, List.drop_zero]
            repeat (first
              | (go_big_quiet_want; refine qVal (fun V hV => (by (obtain ⟨q0, q1⟩ := HQ2.out V hV; go_simp; try rfl))) ?_; simp only [Act.put, List.setIfInBounds_toArray, List.set_cons_zero, List.set_cons_succ]; go_big_quiet_on)
              | go_big_quiet_skip)
            refine wpQuiet_nil ?_
            intro T hT
            have hTs := hT.size
            have hmT := HU11.out.2.2.1.below hT
            have hup := upd_sm (P := Tryz.prog) (v := .bool true) Tryz.underlying119 Tryz.underlying9 (bd_le a.d) hmT
            obtain ⟨K2, eK2⟩ : ∃ k, k = smU (bdT a.d) (.bool true) K := ⟨_, rfl⟩
            rw [← eK2] at hup HCK
            obtain ⟨T2, eT2⟩ : ∃ V : World, V = { T with heap := T.heap.setIfInBounds mc (.map (smE 0 K2).toArray K2.length) } := ⟨_, rfl⟩
            rw [← eT2] at hup
            have HRn := Lib.hid (show ScR w6 T2 sb mg ma mc u G (N ++ [a]) (nn + 1) K2 from by
              have hgT : GrF w6 T (fun b => b = sb ∨ b = mc) := HU11.out.2.2.2.trans ⟨hT.os, hT.tape, hT.output, hT.size, fun b hb' _ => hT.block b hb'⟩
              rw [eT2]
              refine ⟨(map_other _ (by omega)).trans ((hT.block sb hsb11).trans HU11.out.1), ?_, HCK.out, own_keptB (own_belowP HU11.out.2.1 hT) (fun b hb => map_other _ (fun e => ?_)), grF_map hgT (.inr rfl) _⟩
              · rw [eK2]; exact hmT.upd
              · have := (HU11.out.2.1.lt b hb).1
                have := HX5.out.2.2.2.2.lt
                omega)
            clear eT2 hT hmT eK2
            go_wp2_with (fail)
            go_roundw
            case rel => exact ⟨i + 1, u, N ++ [a], K2, by omega, by go_num, HNE.out, by rw [List.length_append, ← HNN.out.2]; exact HRn.out⟩
            case measure => simp [intOf]; omega
        · have hltI : ¬ (i : Int) < q := by omega
          have hin' : i = q := by omega
          have HFF := Lib.hid (show ScP fm fw fc l t L G w (.returned (.pointer (some ⟨sb, 0, none⟩))) wr from by
            obtain ⟨_, h2, h3, h4, _⟩ := HOLD.out wr HR.out.gr
            have hNf : N = liveL fm fw fc l t := by rw [HNN.out.1, hin', ← HQ.out, List.take_length]; exact HFIN.out
            refine ⟨sb, mg, ma, mc, v, K, rfl, ⟨HR.out.blk, h2, h3, HR.out.c, ?_, ?_⟩, h4⟩
            · rw [← hNf]; exact HR.out.k
            · rw [← hNf, ← HNN.out.2]
              exact own_mono HR.out.row (by have := HKW5.out.size; omega))
          go_wp2_with (fail)
          go_ret
          exact HFF.out
end Go.Proofs.YtgdnedhcbjonkaaGreatDoor

/- alarm.CheckBoard by its contract. -/
namespace Go.Proofs.YtgdnedhcbjonkaaGreatDoor
open Go.RowKit Go.Maps Go.WideMaps

theorem key_bd (d : Nat) (w : World) : Calls Tryz.prog 93 #[.string (bdT d)] w fun e w' => e = .returned (.bool true) ∧ w = w' := by
  match d with
  | 0 => exact key_yes ⟨#[100, 97]⟩ w (by kernel_rfl)
  | 1 => exact key_yes ⟨#[100, 98]⟩ w (by kernel_rfl)
  | 2 => exact key_yes ⟨#[100, 103]⟩ w (by kernel_rfl)
  | 3 => exact key_yes ⟨#[100, 99]⟩ w (by kernel_rfl)
  | n + 4 => exact key_yes ⟨#[100, 104]⟩ w (by kernel_rfl)
theorem key_al (r : Nat) (w : World) : Calls Tryz.prog 93 #[.string (alrT r)] w fun e w' => e = .returned (.bool true) ∧ w = w' := by
  match r with
  | 0 => exact key_yes ⟨#[114, 97]⟩ w (by kernel_rfl)
  | n + 1 => exact key_yes ⟨#[114, 98]⟩ w (by kernel_rfl)
theorem bd_not_le {a b : Nat} (ha : a < 4) (hb : b < 4) (h : rkD a < rkD b) : (Op.bytesLess (bdT b).toList (bdT a).toList || (bdT b).toList == (bdT a).toList) = false := by
  have h1 : a = 0 ∨ a = 1 ∨ a = 2 ∨ a = 3 := by omega
  have h2 : b = 0 ∨ b = 1 ∨ b = 2 ∨ b = 3 := by omega
  rcases h1 with h1 | h1 | h1 | h1 <;> subst h1 <;> rcases h2 with h2 | h2 | h2 | h2 <;> subst h2 <;> first | exact absurd h (by decide) | (clear h; decide +kernel)
theorem al_not_le {a b : Nat} (hb : b < 2) (h : a < b) : (Op.bytesLess (alrT b).toList (alrT a).toList || (alrT b).toList == (alrT a).toList) = false := by
  obtain rfl : a = 0 := by omega
  obtain rfl : b = 1 := by omega
  decide +kernel
set_option maxRecDepth 100000 in
set_option maxHeartbeats 8000000 in
theorem checkBoard_any (fm fw fc : Int) (L : List Lk) (G : List Gr) (LA GA : Option Addr) (ln lc gn gc : Nat) (w : World) (hf : FlOk fm fw fc) (hL : LksOk L) (hG : GrsOk G) (hln : L.length = ln) (hgn : G.length = gn) (hl4 : ln ≤ 4) (hg2 : gn ≤ 2)
    (hr : Row w w.heap.size LA (recs lkC L)) (hr2 : Row w w.heap.size GA (recs grC G)) :
    Calls Tryz.prog 49 #[.agg #[.int .i64 fm, .int .i64 fw, .int .i64 fc, .slice LA ln lc, .slice GA gn gc]] w fun e w' => e = .returned (.int .i64 0) ∧ Below w.heap.size w w' := by
  obtain ⟨g0, eg0⟩ : ∃ g, g = w.heap.size := ⟨_, rfl⟩
  obtain ⟨w0, e0⟩ : ∃ V : World, V = w.alloc (.cells #[.int .i64 fm, .int .i64 fw, .int .i64 fc, .slice LA ln lc, .slice GA gn gc] 33) := ⟨_, rfl⟩
  have hb0 : Below w.heap.size w w0 := by rw [e0]; exact (Below.refl _ _).alloc (Nat.le_refl _) _
  have hg0 : w0.heap[g0]? = some (.cells #[.int .i64 fm, .int .i64 fw, .int .i64 fc, .slice LA ln lc, .slice GA gn gc] 33 (0, 0)) := by rw [e0, eg0]; exact heap_new w _
  have hlt0 := (Array.getElem?_eq_some_iff.1 hg0).1
  have HKB := Lib.hid (fun (V : World) (hV : Below w0.heap.size w0 V) => show (V.cell? ⟨g0, 0, none⟩ = some (.int .i64 fm) ∧ V.cell? ⟨g0, 1, none⟩ = some (.int .i64 fw) ∧ V.cell? ⟨g0, 2, none⟩ = some (.int .i64 fc)) ∧ V.cell? ⟨g0, 3, none⟩ = some (.slice LA ln lc) ∧ V.cell? ⟨g0, 4, none⟩ = some (.slice GA gn gc) ∧ g0 < V.heap.size from by
    have h := (hV.block g0 hlt0).trans hg0
    obtain ⟨a, b, c, d, e⟩ := box5 h
    exact ⟨⟨a, b, c⟩, d, e, Nat.lt_of_lt_of_le hlt0 hV.size⟩)
  have HLR := Lib.hid (fun (V : World) (hV : Below w0.heap.size w0 V) => show Row V V.heap.size LA (recs lkC L) from (hr.below (hb0.trans (hV.mono hb0.size))).mono (hb0.trans (hV.mono hb0.size)).size)
  have HGR := Lib.hid (fun (V : World) (hV : Below w0.heap.size w0 V) => show Row V V.heap.size GA (recs grC G) from (hr2.below (hb0.trans (hV.mono hb0.size))).mono (hb0.trans (hV.mono hb0.size)).size)
  have HLO := Lib.hid (And.intro hL hln)
  have HGO := Lib.hid (And.intro hG hgn)
  have HF := Lib.hid hf
  have HB0 := Lib.hid hb0
  clear hL hG hln hgn hr hr2 hf hb0 hg0
  go_enter Tryz.func49, Tryz.ntmps49
  go_upto_region 1 with (fail)
  rw [← eg0, ← e0]
  clear eg0 e0
  obtain ⟨⟨k0, k1, k2⟩, k3, k4, kl⟩ := HKB.out w0 (Below.refl _ _)
  go_wp2_with (fail)
  refine (flapFault_no fm fw fc w0 HF.out).mono ?_
  rintro e w1 ⟨rfl, hb1⟩
  have HB1 := Lib.hid hb1
  clear hb1 k0 k1 k2 k3 k4 kl
  obtain ⟨_, k3, k4, kl⟩ := HKB.out w1 HB1.out
  go_wp2_with (fail)
  clear k3 k4 kl
  have hs1 := HB1.out.size
  go_loopw [26] (fun s wr => ∃ (i : Nat), i ≤ ln ∧ s = .int .i64 (i : Int) ∧ Below w0.heap.size w0 wr) (fun s _ => ln - (intOf s).toNat)
  case atStart => exact ⟨0, by omega, rfl, HB1.out⟩
  case round =>
    obtain ⟨i, hin, rfl, hbr⟩ := hrel
    have hbs := hbr.size
    have HB := Lib.hid hbr
    clear hbr
    by_cases hlt : i < ln
    · have hltI : (i : Int) < ln := by omega
      obtain ⟨x, hx⟩ : ∃ x, L[i]? = some x := ⟨_, List.getElem?_eq_getElem (by have := HLO.out.2; omega)⟩
      obtain ⟨b, o, rfl, hb, hC⟩ := (HLR.out wr HB.out).posR lkC_len (by omega) (by have := HLO.out.2; omega)
      have c0 : wr.cell? ⟨b, o + i * 2, none⟩ = some (.string (bdT x.d)) := rec_cell lkC_len hC i x hx 0 _ rfl
      have c1 : wr.cell? ⟨b, o + i * 2 + 1, none⟩ = some (.string (bdT x.p)) := rec_cell lkC_len hC i x hx 1 _ rfl
      have HX := Lib.hid hx
      clear hx hC
      go_upto_region 9 with (fail)
      obtain ⟨g, eg⟩ : ∃ g, g = wr.heap.size := ⟨_, rfl⟩
      obtain ⟨w5, e5⟩ : ∃ V : World, V = wr.alloc (.cells #[.string (bdT x.d), .string (bdT x.p)] 67) := ⟨_, rfl⟩
      rw [← eg, ← e5]
      have hb5 : Below wr.heap.size wr w5 := by rw [e5]; exact (Below.refl _ _).alloc (Nat.le_refl _) _
      have hg5 : w5.heap[g]? = some (.cells #[.string (bdT x.d), .string (bdT x.p)] 67 (0, 0)) := by rw [e5, eg]; exact heap_new wr _
      have hlt5 := (Array.getElem?_eq_some_iff.1 hg5).1
      have HB5 := Lib.hid (HB.out.trans (hb5.mono hbs))
      have q0 := cell_of_blk (j := 0) hg5 rfl
      have q1 := cell_of_blk (j := 1) hg5 rfl
      clear eg e5 hb5 hg5 c0 c1
      go_wp2_with (fail)
      refine (key_bd x.d _).mono ?_
      rintro e w6 ⟨rfl, hw6⟩
      rw [← hw6]
      clear hw6 w6
      go_wp2_with (fail)
      refine (key_bd x.p _).mono ?_
      rintro e w6 ⟨rfl, hw6⟩
      rw [← hw6]
      clear hw6 w6
      obtain ⟨_, k3, _, kl⟩ := HKB.out w5 HB5.out
      have hs5 := HB5.out.size
      go_upto_region 11 with (fail)
      go_cut [54] (fun s wx => s = .bool false ∧ Below w5.heap.size w5 wx)
      case first =>
        by_cases hi0 : i = 0
        · subst hi0
          have hd : decide ((0 : Int) < 0) = false := by decide
          go_quiet (fail)
          go_wp2_with (fail)
          go_meet
          exact ⟨rfl, below_drewN (Below.refl _ _) _⟩
        · have hi1I : (0 : Int) < i := by omega
          have hd : decide ((0 : Int) < i) = true := by simpa using hi1I
          have hd2 : decide (0 < i) = true := by simp; omega
          have hd3 : 0 < i := by omega
          obtain ⟨q, hq⟩ : ∃ q, L[i - 1]? = some q := ⟨_, List.getElem?_eq_getElem (by have := HLO.out.2; omega)⟩
          obtain ⟨b2, o2, e2, hb2, hC2⟩ := (HLR.out w5 HB5.out).posR lkC_len (by omega) (by have := HLO.out.2; omega)
          cases e2
          have p0 : w5.cell? ⟨b, o + (i - 1) * 2, none⟩ = some (.string (bdT q.d)) := rec_cell lkC_len hC2 (i - 1) q hq 0 _ rfl
          have hwrap : (i : Int) - 1 = ((i - 1 : Nat) : Int) := by omega
          have hwr : IntKind.i64.wrap ((i - 1 : Nat) : Int) = ((i - 1 : Nat) : Int) := by rw [IntKind.wrap_i64]; omega
          have hxI : ((i - 1 : Nat) : Int) < (ln : Int) := by omega
          have hxN : i - 1 < ln := by omega
          have hle : (Op.bytesLess (bdT x.d).toList (bdT q.d).toList || (bdT x.d).toList == (bdT q.d).toList) = false := by
            obtain ⟨hi, rfl⟩ := List.getElem?_eq_some_iff.1 HX.out
            obtain ⟨hi2, rfl⟩ := List.getElem?_eq_some_iff.1 hq
            exact bd_not_le (HLO.out.1.each _ (List.getElem_mem hi2)).d (HLO.out.1.each _ (List.getElem_mem hi)).d ((List.pairwise_iff_getElem.1 HLO.out.1.ord) (i - 1) i hi2 hi (by omega))
          have hb6' : b < w5.heap.size := by omega
          clear hq hC2
          go_quiet (fail)
          go_wp2_with (fail)
          go_meet
          exact ⟨rfl, below_drewN (Below.refl _ _) _⟩
      case rest =>
      obtain ⟨rfl, hbc⟩ := hcut
      obtain ⟨w6, ew6⟩ : ∃ V : World, V = wc := ⟨_, rfl⟩
      rw [← ew6] at hbc ⊢
      have HB6 := Lib.hid (HB5.out.trans (hbc.mono hs5))
      clear ew6 hbc q0 q1 k3 kl
      go_wp2_with (fail)
      go_roundw
      case rel => exact ⟨i + 1, by omega, by go_num, HB6.out⟩
      case measure => simp [intOf]; omega
    · have hltI : ¬ (i : Int) < ln := by omega
      obtain ⟨_, k3, k4, kl⟩ := HKB.out wr HB.out
      have HPA := Lib.hid (parents_any L ln lc LA wr HLO.out.1 HLO.out.2 hl4 (HLR.out wr HB.out))
      go_wp2_with (fail)
      refine HPA.out.mono ?_
      rintro e w6 ⟨m, rfl, hSm, hmw, hb6⟩
      have HB6 := Lib.hid (HB.out.trans (hb6.mono hbs))
      have HSM := Lib.hid hSm
      have hs6 := HB6.out.size
      clear hSm hb6 k3 k4 kl
      obtain ⟨_, k3, k4, kl⟩ := HKB.out w6 HB6.out
      go_wp2_with (fail)
      clear k3 k4 kl
      go_loopw [62] (fun s wr => ∃ (i : Nat), i ≤ ln ∧ s = .int .i64 (i : Int) ∧ Below w6.heap.size w6 wr) (fun s _ => ln - (intOf s).toNat)
      case atStart => exact ⟨0, by omega, rfl, Below.refl _ _⟩
      case round =>
        obtain ⟨i, hin, rfl, hbr⟩ := hrel
        have hbs := hbr.size
        have HBq := Lib.hid hbr
        have HB := Lib.hid (HB6.out.trans (hbr.mono hs6))
        clear hbr
        by_cases hlt : i < ln
        · have hltI : (i : Int) < ln := by omega
          obtain ⟨x, hx⟩ : ∃ x, L[i]? = some x := ⟨_, List.getElem?_eq_getElem (by have := HLO.out.2; omega)⟩
          obtain ⟨b, o, rfl, hb, hC⟩ := (HLR.out wr HB.out).posR lkC_len (by omega) (by have := HLO.out.2; omega)
          have c0 : wr.cell? ⟨b, o + i * 2, none⟩ = some (.string (bdT x.d)) := rec_cell lkC_len hC i x hx 0 _ rfl
          have c1 : wr.cell? ⟨b, o + i * 2 + 1, none⟩ = some (.string (bdT x.p)) := rec_cell lkC_len hC i x hx 1 _ rfl
          have hxd := (HLO.out.1.each x (List.mem_of_getElem? hx)).d
          clear hx hC
          go_upto_region 18 with (fail)
          obtain ⟨g, eg⟩ : ∃ g, g = wr.heap.size := ⟨_, rfl⟩
          obtain ⟨w7, e7⟩ : ∃ V : World, V = wr.alloc (.cells #[.string (bdT x.d), .string (bdT x.p)] 67) := ⟨_, rfl⟩
          rw [← eg, ← e7]
          have hb7 : Below wr.heap.size wr w7 := by rw [e7]; exact (Below.refl _ _).alloc (Nat.le_refl _) _
          have hg7 : w7.heap[g]? = some (.cells #[.string (bdT x.d), .string (bdT x.p)] 67 (0, 0)) := by rw [e7, eg]; exact heap_new wr _
          have hlt7 := (Array.getElem?_eq_some_iff.1 hg7).1
          have HB7 := Lib.hid (HBq.out.trans (hb7.mono hbs))
          have q0 := cell_of_blk (j := 0) hg7 rfl
          have HCH := Lib.hid (chain_any L x.d m w7 HLO.out.1 hxd (HSM.out.below HB7.out))
          clear eg e7 hb7 hg7 c0 c1
          go_wp2_with (fail)
          refine HCH.out.mono ?_
          rintro e w8 ⟨A8, c8, n8, rfl, hb8⟩
          have HB8 := Lib.hid (HB7.out.trans (hb8.mono HB7.out.size))
          clear hb8 q0
          go_wp2_with (fail)
          go_roundw
          case rel => exact ⟨i + 1, by omega, by go_num, HB8.out⟩
          case measure => simp [intOf]; omega
        · have hltI : ¬ (i : Int) < ln := by omega
          obtain ⟨_, k3, k4, kl⟩ := HKB.out wr HB.out
          have hbs2 := HB.out.size
          go_wp2_with (fail)
          clear k3 k4 kl
          go_loopw [83] (fun s wr => ∃ (i : Nat), i ≤ gn ∧ s = .int .i64 (i : Int) ∧ Below w0.heap.size w0 wr) (fun s _ => gn - (intOf s).toNat)
          case atStart => exact ⟨0, by omega, rfl, HB.out⟩
          case round =>
            obtain ⟨i, hin, rfl, hbr⟩ := hrel
            have hbs := hbr.size
            have HB := Lib.hid hbr
            clear hbr
            by_cases hlt : i < gn
            · have hltI : (i : Int) < gn := by omega
              obtain ⟨x, hx⟩ : ∃ x, G[i]? = some x := ⟨_, List.getElem?_eq_getElem (by have := HGO.out.2; omega)⟩
              obtain ⟨b, o, rfl, hb, hC⟩ := (HGR.out wr HB.out).posR grC_len (by omega) (by have := HGO.out.2; omega)
              have c0 : wr.cell? ⟨b, o + i * 3, none⟩ = some (.string (alrT x.r)) := rec_cell grC_len hC i x hx 0 _ rfl
              have c1 : wr.cell? ⟨b, o + i * 3 + 1, none⟩ = some (.int .i64 x.lv) := rec_cell grC_len hC i x hx 1 _ rfl
              have c2 : wr.cell? ⟨b, o + i * 3 + 2, none⟩ = some (.bool x.ca) := rec_cell grC_len hC i x hx 2 _ rfl
              have HX := Lib.hid hx
              obtain ⟨hxr, hx1, hx9⟩ := HGO.out.1.each x (List.mem_of_getElem? hx)
              clear hx hC
              go_upto_region 27 with (fail)
              obtain ⟨g, eg⟩ : ∃ g, g = wr.heap.size := ⟨_, rfl⟩
              obtain ⟨w5, e5⟩ : ∃ V : World, V = wr.alloc (.cells #[.string (alrT x.r), .int .i64 x.lv, .bool x.ca] 70) := ⟨_, rfl⟩
              rw [← eg, ← e5]
              have hb5 : Below wr.heap.size wr w5 := by rw [e5]; exact (Below.refl _ _).alloc (Nat.le_refl _) _
              have hg5 : w5.heap[g]? = some (.cells #[.string (alrT x.r), .int .i64 x.lv, .bool x.ca] 70 (0, 0)) := by rw [e5, eg]; exact heap_new wr _
              have hlt5 := (Array.getElem?_eq_some_iff.1 hg5).1
              have HG5 := Lib.hid hg5
              have HB5 := Lib.hid (HB.out.trans (hb5.mono hbs))
              have q0 := cell_of_blk (j := 0) hg5 rfl
              clear eg e5 hb5 hg5 c0 c1 c2
              go_wp2_with (fail)
              refine (key_al x.r _).mono ?_
              rintro e w6 ⟨rfl, hw6⟩
              rw [← hw6]
              clear hw6 w6
              obtain ⟨_, _, k4, kl⟩ := HKB.out w5 HB5.out
              have hs5 := HB5.out.size
              go_upto_region 29 with (fail)
              go_cut [93] (fun s wx => s = .bool false ∧ Below w5.heap.size w5 wx)
              case first =>
                by_cases hi0 : i = 0
                · subst hi0
                  have hd : decide ((0 : Int) < 0) = false := by decide
                  go_quiet (fail)
                  go_wp2_with (fail)
                  go_meet
                  exact ⟨rfl, below_drewN (Below.refl _ _) _⟩
                · have hi1I : (0 : Int) < i := by omega
                  have hd : decide ((0 : Int) < i) = true := by simpa using hi1I
                  have hd2 : decide (0 < i) = true := by simp; omega
                  have hd3 : 0 < i := by omega
                  obtain ⟨q, hq⟩ : ∃ q, G[i - 1]? = some q := ⟨_, List.getElem?_eq_getElem (by have := HGO.out.2; omega)⟩
                  obtain ⟨b2, o2, e2, hb2, hC2⟩ := (HGR.out w5 HB5.out).posR grC_len (by omega) (by have := HGO.out.2; omega)
                  cases e2
                  have p0 : w5.cell? ⟨b, o + (i - 1) * 3, none⟩ = some (.string (alrT q.r)) := rec_cell grC_len hC2 (i - 1) q hq 0 _ rfl
                  have hwrap : (i : Int) - 1 = ((i - 1 : Nat) : Int) := by omega
                  have hwr : IntKind.i64.wrap ((i - 1 : Nat) : Int) = ((i - 1 : Nat) : Int) := by rw [IntKind.wrap_i64]; omega
                  have hxI : ((i - 1 : Nat) : Int) < (gn : Int) := by omega
                  have hxN : i - 1 < gn := by omega
                  have hle : (Op.bytesLess (alrT x.r).toList (alrT q.r).toList || (alrT x.r).toList == (alrT q.r).toList) = false := by
                    obtain ⟨hi, rfl⟩ := List.getElem?_eq_some_iff.1 HX.out
                    obtain ⟨hi2, rfl⟩ := List.getElem?_eq_some_iff.1 hq
                    exact al_not_le (HGO.out.1.each _ (List.getElem_mem hi)).1 ((List.pairwise_iff_getElem.1 HGO.out.1.ord) (i - 1) i hi2 hi (by omega))
                  have hb6' : b < w5.heap.size := by omega
                  clear hq hC2
                  go_quiet (fail)
                  go_wp2_with (fail)
                  go_meet
                  exact ⟨rfl, below_drewN (Below.refl _ _) _⟩
              case rest =>
              obtain ⟨rfl, hbc⟩ := hcut
              obtain ⟨w6, ew6⟩ : ∃ V : World, V = wc := ⟨_, rfl⟩
              rw [← ew6] at hbc ⊢
              have HB6 := Lib.hid (HB5.out.trans (hbc.mono hs5))
              have hs6 := hbc.size
              have q1 := cell_of_blk (j := 1) ((hbc.block g hlt5).trans HG5.out) rfl
              have hlt6 : g < w6.heap.size := by omega
              clear ew6 hbc q0 k4 kl
              go_wp2_with (fail)
              refine (out_no _ _ _ _ hx1 hx9).mono ?_
              rintro e w' ⟨rfl, rfl⟩
              go_wp2_with (fail)
              go_roundw
              case rel => exact ⟨i + 1, by omega, by go_num, HB6.out⟩
              case measure => simp [intOf]; omega
            · have hltI : ¬ (i : Int) < gn := by omega
              have HFI := Lib.hid (HB0.out.trans (HB.out.mono HB0.out.size))
              go_wp2_with (fail)
              go_ret
              exact ⟨rfl, HFI.out⟩
end Go.Proofs.YtgdnedhcbjonkaaGreatDoor
