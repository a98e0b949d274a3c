/- Maps of notes by the names of their letters: look-ups, stores, deletions, and loops over them in whatever order. No function of the program in sight. -/
import Derived.Test.YtnnncddjcdjhoaaGreatDoorOfP
import Derived.Maps.OwnOps
import Derived.Laws.IdiomRangeMap
namespace Go.Proofs.YtnnncddjcdjhoaaGreatDoor
open Go.RowKit Go.Maps Go.WideMaps

def idL (i : Nat) : ByteArray :=
  match i with
  | 0 => ⟨#[108, 97]⟩
  | 1 => ⟨#[108, 98]⟩
  | 2 => ⟨#[108, 99]⟩
  | 3 => ⟨#[108, 100]⟩
  | 4 => ⟨#[108, 101]⟩
  | _ => ⟨#[108, 102]⟩
def slL (i : Nat) : ByteArray :=
  match i with
  | 0 => ⟨#[]⟩
  | 1 => ⟨#[115, 97]⟩
  | _ => ⟨#[115, 98]⟩
def boL (i : Nat) : ByteArray :=
  match i with
  | 0 => ⟨#[100, 111]⟩
  | 1 => ⟨#[]⟩
  | _ => ⟨#[97, 32, 34, 98, 34]⟩
theorem six_of {i : Nat} (h : i < 6) : i = 0 ∨ i = 1 ∨ i = 2 ∨ i = 3 ∨ i = 4 ∨ i = 5 := by omega
theorem idL_beq {i j : Nat} (hi : i < 6) (hj : j < 6) : (idL i == idL j) = decide (i = j) := by
  rcases six_of hi with h | h | h | h | h | h <;> subst h <;> rcases six_of hj with h | h | h | h | h | h <;> subst h <;> decide +kernel
theorem idL_size (i : Nat) : (idL i).size ≤ maxLen := by
  unfold idL
  split <;> decide
def olC (l : Ol) : List Value := [.string (idL l.id), .string (slL l.sl), .string (boL l.bo), .int .i64 l.pr, .int .i64 l.at_, .int .i64 l.un]
def onC (n : On) : List Value := [.string (idL n.l.id), .string (slL n.l.sl), .string (boL n.l.bo), .int .i64 n.l.pr, .int .i64 n.l.at_, .int .i64 n.l.un, .int .i64 n.s, .int .i64 n.t, .int .i64 n.c]
theorem olC_len (l : Ol) : (olC l).length = 6 := rfl
theorem onC_len (n : On) : (onC n).length = 9 := rfl
theorem olC_one (l : Ol) : ∀ u ∈ olC l, u.oneCell' = true := by
  intro u hu
  simp only [olC, List.mem_cons, List.not_mem_nil, or_false] at hu
  rcases hu with h | h | h | h | h | h <;> rw [h] <;> rfl
theorem onC_one (n : On) : ∀ u ∈ onC n, u.oneCell' = true := by
  intro u hu
  simp only [onC, List.mem_cons, List.not_mem_nil, or_false] at hu
  rcases hu with h | h | h | h | h | h | h | h | h <;> rw [h] <;> rfl
def onV (n : On) : Value := .agg #[.string (idL n.l.id), .string (slL n.l.sl), .string (boL n.l.bo), .int .i64 n.l.pr, .int .i64 n.l.at_, .int .i64 n.l.un, .int .i64 n.s, .int .i64 n.t, .int .i64 n.c]
def olV (l : Ol) : Value := .agg #[.string (idL l.id), .string (slL l.sl), .string (boL l.bo), .int .i64 l.pr, .int .i64 l.at_, .int .i64 l.un]
abbrev Mp := List (Nat × On)
def mE (M : Mp) : List MapEntry := M.map fun p => { key := .string (idL p.2.l.id), val := onV p.2, born := p.1 }
def fM (M : Mp) : Of := fun i => (M.find? fun p => p.2.l.id == i).map (·.2)
structure MpOk (M : Mp) (ck : Nat) : Prop where
  born : M.Pairwise (fun x y => x.1 < y.1)
  lt : ∀ x ∈ M, x.1 < ck
  id : ∀ x ∈ M, x.2.l.id < 6
  nd : M.Pairwise (fun x y => x.2.l.id ≠ y.2.l.id)
theorem fM_some {M : Mp} {ck i : Nat} {n : On} (h : MpOk M ck) : fM M i = some n ↔ n.l.id = i ∧ ∃ b, (b, n) ∈ M := by
  unfold fM
  constructor
  · intro hf
    obtain ⟨p, hp, rfl⟩ := Option.map_eq_some_iff.1 hf
    exact ⟨by simpa using List.find?_some hp, p.1, List.mem_of_find?_eq_some hp⟩
  · rintro ⟨rfl, b, hb⟩
    have h1 : (M.find? fun p => p.2.l.id == n.l.id).isSome := by
      rw [List.find?_isSome]
      exact ⟨_, hb, by simp⟩
    obtain ⟨p, hp⟩ := Option.isSome_iff_exists.1 h1
    rw [hp]
    have h2 : p.2.l.id = n.l.id := by simpa using List.find?_some hp
    have h3 := List.mem_of_find?_eq_some hp
    have h4 : p = (b, n) := by
      apply Decidable.byContradiction
      intro hne
      obtain ⟨x, hx, e1⟩ := List.getElem_of_mem h3
      obtain ⟨y, hy, e2⟩ := List.getElem_of_mem hb
      rcases Nat.lt_trichotomy x y with k | k | k
      · have := List.pairwise_iff_getElem.1 h.nd x y hx hy k
        rw [e1, e2] at this
        exact this h2
      · subst k
        exact hne (e1.symm.trans e2)
      · have := List.pairwise_iff_getElem.1 h.nd y x hy hx k
        rw [e1, e2] at this
        exact this h2.symm
    rw [h4]
    rfl
theorem fM_ids {M : Mp} {i : Nat} {n : On} (h : fM M i = some n) : n.l.id = i := by
  unfold fM at h
  obtain ⟨p, hp, rfl⟩ := Option.map_eq_some_iff.1 h
  simpa using List.find?_some hp
def MpI (w : World) (m : Nat) (M : Mp) (ck : Nat) : Prop := w.heap[m]? = some (.map (mE M).toArray ck)
theorem MpI.lt {w : World} {m ck : Nat} {M : Mp} (h : MpI w m M ck) : m < w.heap.size := (Array.getElem?_eq_some_iff.1 h).1
theorem MpI.below {w w' : World} {m ck : Nat} {M : Mp} (h : MpI w m M ck) (hb : Below w.heap.size w w') : MpI w' m M ck := (hb.block m h.lt).trans h
/-- Where a name stands among the entries. -/
theorem find_mp {i : Nat} (hi : i < 6) : ∀ (M : Mp) (j : Nat), (∀ x ∈ M, x.2.l.id < 6) →
    (Instr.findNow .string (.string (idL i)) (mE M) j = some none ∧ ∀ x ∈ M, x.2.l.id ≠ i) ∨
    ∃ A p B, M = A ++ p :: B ∧ p.2.l.id = i ∧ (∀ x ∈ A, x.2.l.id ≠ i) ∧ Instr.findNow .string (.string (idL i)) (mE M) j = some (some (j + A.length, onV p.2))
  | [], _, _ => .inl ⟨rfl, by simp⟩
  | p :: M, j, h => by
    have he := idL_beq hi (h p List.mem_cons_self)
    by_cases hp : i = p.2.l.id
    · refine .inr ⟨[], p, M, rfl, hp.symm, by simp, ?_⟩
      rw [decide_eq_true hp] at he
      simp [mE, Instr.findNow, Instr.sameNow, he]
    · rw [decide_eq_false hp] at he
      rcases find_mp hi M (j + 1) (fun x hx => h x (List.mem_cons_of_mem _ hx)) with ⟨h1, h2⟩ | ⟨A, q, B, e1, e2, e3, e4⟩
      · refine .inl ⟨?_, ?_⟩
        · unfold mE at h1 ⊢
          simp only [List.map_cons, Instr.findNow, Instr.sameNow, he, h1]
        · intro x hx
          rcases List.mem_cons.1 hx with rfl | hx
          · exact fun e => hp e.symm
          · exact h2 x hx
      · refine .inr ⟨p :: A, q, B, by rw [e1]; rfl, e2, ?_, ?_⟩
        · intro x hx
          rcases List.mem_cons.1 hx with rfl | hx
          · exact fun e => hp e.symm
          · exact e3 x hx
        · unfold mE at e4 ⊢
          simp only [List.map_cons, Instr.findNow, Instr.sameNow, he, e4, List.length_cons]
          rw [show j + 1 + A.length = j + (A.length + 1) by omega]
theorem modify_at {α : Type} (f : α → α) (p : α) (B : List α) : ∀ A : List α, (A ++ p :: B).modify A.length f = A ++ f p :: B
  | [] => by simp
  | a :: A => by
    simp only [List.cons_append, List.length_cons, List.modify_succ_cons, modify_at f p B A]
/-- What a step leaves as it is: all blocks but one. -/
structure Oth (w w' : World) (m : Nat) : Prop where
  size : w'.heap.size = w.heap.size
  blk : ∀ b, b ≠ m → w'.heap[b]? = w.heap[b]?
  os : w'.os = w.os
  tape : w'.tape = w.tape
  output : w'.output = w.output
theorem Oth.grown {w w' : World} {m : Nat} (h : Oth w w' m) : w.grownBy w' (some m) :=
  ⟨h.os, h.tape, h.output, by rw [h.size]; exact Nat.le_refl _, fun b _ hne => h.blk b (fun e => hne (by rw [e]))⟩
section
variable {P : Program} {t kt et : TypeId} {w : World} {m ck i : Nat} {M : Mp} {z : Value}
theorem run_find_mp (hk : P.underlying kt = some .string) (r : Option (Nat × Value)) (h : Instr.findNow .string (.string (idL i)) (mE M) 0 = some r) : (Instr.findKey kt (.string (idL i)) (mE M)).run P w = .ok r w := by
  simp [Instr.findKey, run_underlying hk, h, Result.andThen]
theorem fM_none {i : Nat} (h : ∀ x ∈ M, x.2.l.id ≠ i) : fM M i = none := by
  unfold fM
  rw [List.find?_eq_none.2 (fun x hx => by simpa using h x hx)]
  rfl
theorem fM_split {A B : Mp} {p : Nat × On} (hp : p.2.l.id = i) (hA : ∀ x ∈ A, x.2.l.id ≠ i) : fM (A ++ p :: B) i = some p.2 := by
  unfold fM
  rw [List.find?_append, List.find?_eq_none.2 (fun x hx => by simpa using hA x hx), List.find?_cons_of_pos (by simpa using hp)]
  rfl
def noD (z : Value) : Option On → Value
  | some n => onV n
  | none => z
theorem look_mp_ok (ht : P.underlying t = some (.map kt et)) (hk : P.underlying kt = some .string) (hz : (zeroValue et).run P w = .ok z w) (hi : i < 6) (hM : MpOk M ck) (hb : MpI w m M ck) :
    (Instr.lookup t (.map (some m)) (.string (idL i)) true).run P w = .ok (.tuple #[noD z (fM M i), .bool (fM M i).isSome]) w := by
  have hc := fun x => (WideMaps.string_law (P := P) hk).check w x (keyOf_string_mk hk (idL_size i))
  unfold MpI at hb
  rcases find_mp hi M 0 hM.id with ⟨h1, h2⟩ | ⟨A, p, B, e1, e2, e3, e4⟩
  · have hf := run_find_mp (P := P) (w := w) hk none h1
    rw [fM_none h2]
    simp [Instr.lookup, run_underlying ht, MapKept.run_getObj_map hb, hc, hf, hz, Result.andThen, noD]
  · have hf := run_find_mp (P := P) (w := w) hk _ e4
    have h5 : fM M i = some p.2 := by rw [e1]; exact fM_split e2 e3
    rw [h5]
    simp [Instr.lookup, run_underlying ht, MapKept.run_getObj_map hb, hc, hf, Result.andThen, noD]
theorem look_mp (ht : P.underlying t = some (.map kt et)) (hk : P.underlying kt = some .string) (hz : (zeroValue et).run P w = .ok z w) (hi : i < 6) (hM : MpOk M ck) (hb : MpI w m M ck) :
    (Instr.lookup t (.map (some m)) (.string (idL i)) false).run P w = .ok (noD z (fM M i)) w := by
  have hc := fun x => (WideMaps.string_law (P := P) hk).check w x (keyOf_string_mk hk (idL_size i))
  unfold MpI at hb
  rcases find_mp hi M 0 hM.id with ⟨h1, h2⟩ | ⟨A, p, B, e1, e2, e3, e4⟩
  · have hf := run_find_mp (P := P) (w := w) hk none h1
    rw [fM_none h2]
    simp [Instr.lookup, run_underlying ht, MapKept.run_getObj_map hb, hc, hf, hz, Result.andThen, noD]
  · have hf := run_find_mp (P := P) (w := w) hk _ e4
    have h5 : fM M i = some p.2 := by rw [e1]; exact fM_split e2 e3
    rw [h5]
    simp [Instr.lookup, run_underlying ht, MapKept.run_getObj_map hb, hc, hf, Result.andThen, noD]
theorem split_ne {A B : Mp} {p : Nat × On} (hM : MpOk (A ++ p :: B) ck) : (∀ x ∈ A, x.2.l.id ≠ p.2.l.id) ∧ ∀ x ∈ B, x.2.l.id ≠ p.2.l.id := by
  have h := List.pairwise_append.1 hM.nd
  exact ⟨fun x hx => h.2.2 x hx p List.mem_cons_self, fun x hx => fun e => (List.pairwise_cons.1 h.2.1).1 x hx e.symm⟩
theorem MpOk.swap {A B : Mp} {p : Nat × On} {n : On} (hM : MpOk (A ++ p :: B) ck) (hn : n.l.id = p.2.l.id) : MpOk (A ++ (p.1, n) :: B) ck := by
  have e1 : (A ++ (p.1, n) :: B).map (·.1) = (A ++ p :: B).map (·.1) := by simp
  have e2 : (A ++ (p.1, n) :: B).map (·.2.l.id) = (A ++ p :: B).map (·.2.l.id) := by simp [hn]
  refine ⟨?_, ?_, ?_, ?_⟩
  · have := List.pairwise_map.2 hM.born
    rw [← e1] at this
    exact List.pairwise_map.1 this
  · intro x hx
    have : x.1 ∈ (A ++ p :: B).map (·.1) := by rw [← e1]; exact List.mem_map_of_mem hx
    obtain ⟨y, hy, e⟩ := List.mem_map.1 this
    rw [← e]; exact hM.lt y hy
  · intro x hx
    have : x.2.l.id ∈ (A ++ p :: B).map (·.2.l.id) := by rw [← e2]; exact List.mem_map_of_mem (f := fun q : Nat × On => q.2.l.id) hx
    obtain ⟨y, hy, e⟩ := List.mem_map.1 this
    rw [← e]; exact hM.id y hy
  · have := List.pairwise_map (f := fun q : Nat × On => q.2.l.id) (R := (· ≠ ·)) |>.2 hM.nd
    rw [← e2] at this
    exact List.pairwise_map.1 this
theorem MpOk.snoc (hM : MpOk M ck) {n : On} (hi : n.l.id < 6) (hn : ∀ x ∈ M, x.2.l.id ≠ n.l.id) : MpOk (M ++ [(ck, n)]) (ck + 1) := by
  refine ⟨List.pairwise_append.2 ⟨hM.born, List.pairwise_singleton _ _, ?_⟩, ?_, ?_, List.pairwise_append.2 ⟨hM.nd, List.pairwise_singleton _ _, ?_⟩⟩
  · intro a ha b hb
    rw [List.mem_singleton] at hb
    rw [hb]; exact hM.lt a ha
  · intro x hx
    rcases List.mem_append.1 hx with hx | hx
    · have := hM.lt x hx; omega
    · rw [List.mem_singleton] at hx; rw [hx]; show ck < ck + 1; omega
  · intro x hx
    rcases List.mem_append.1 hx with hx | hx
    · exact hM.id x hx
    · rw [List.mem_singleton] at hx; rw [hx]; exact hi
  · intro a ha b hb
    rw [List.mem_singleton] at hb
    rw [hb]; exact hn a ha
theorem MpOk.cut {A B : Mp} {p : Nat × On} (hM : MpOk (A ++ p :: B) ck) : MpOk (A ++ B) ck := by
  have hs : (A ++ B).Sublist (A ++ p :: B) := List.Sublist.append (List.Sublist.refl _) (List.sublist_cons_self _ _)
  exact ⟨hM.born.sublist hs, fun x hx => hM.lt x (hs.subset hx), fun x hx => hM.id x (hs.subset hx), hM.nd.sublist hs⟩
def setO (f : Of) (n : On) : Of := fun i => if i = n.l.id then some n else f i
def delO (f : Of) (k : Nat) : Of := fun i => if i = k then none else f i
theorem oth_set {w : World} {m : Nat} (o : Obj) : Oth w { w with heap := w.heap.setIfInBounds m o } m :=
  ⟨by simp, fun b hb => by simp [Array.getElem?_setIfInBounds_ne (Ne.symm hb)], rfl, rfl, rfl⟩
theorem fM_app {A B : Mp} {k : Nat} : fM (A ++ B) k = (fM A k).or (fM B k) := by
  unfold fM
  rw [List.find?_append]
  cases A.find? (fun p => p.2.l.id == k) <;> rfl
theorem fM_cons {B : Mp} {p : Nat × On} {k : Nat} : fM (p :: B) k = if p.2.l.id = k then some p.2 else fM B k := by
  unfold fM
  by_cases h : p.2.l.id = k
  · rw [List.find?_cons_of_pos (by simpa using h), if_pos h]; rfl
  · rw [List.find?_cons_of_neg (by simpa using h), if_neg h]
/-- m[k] = n. -/
theorem upd_mp (ht : P.underlying t = some (.map kt et)) (hk : P.underlying kt = some .string) {n : On} (hi : n.l.id < 6) (hM : MpOk M ck) (hb : MpI w m M ck) :
    ∃ (w' : World) (M' : Mp) (ck' : Nat), (Instr.mapUpdate t (.map (some m)) (.string (idL n.l.id)) (onV n)).run P w = .ok () w' ∧ MpI w' m M' ck' ∧ MpOk M' ck' ∧ Oth w w' m ∧ fM M' = setO (fM M) n := by
  have hc := fun x => (WideMaps.string_law (P := P) hk).check w x (keyOf_string_mk hk (idL_size n.l.id))
  have hlt := hb.lt
  unfold MpI at hb
  rcases find_mp hi M 0 hM.id with ⟨h1, h2⟩ | ⟨A, p, B, e1, e2, e3, e4⟩
  · have hf := run_find_mp (P := P) (w := w) hk none h1
    refine ⟨{ w with heap := w.heap.setIfInBounds m (.map (mE (M ++ [(ck, n)])).toArray (ck + 1)) }, M ++ [(ck, n)], ck + 1, ?_, Array.getElem?_setIfInBounds_self_of_lt hlt, hM.snoc hi h2, oth_set _, ?_⟩
    · have e : (mE (M ++ [(ck, n)])).toArray = (mE M).toArray.push { key := .string (idL n.l.id), val := onV n, born := ck } := by simp [mE]
      rw [e]
      simp [Instr.mapUpdate, run_underlying ht, MapKept.run_getObj_map hb, hc, hf, MapKept.run_setObj_map _ hb, Result.andThen]
    · funext k
      rw [fM_app, fM_cons]
      unfold setO
      by_cases hk2 : k = n.l.id
      · rw [if_pos hk2, hk2, if_pos rfl, fM_none h2]; rfl
      · rw [if_neg hk2, if_neg (fun e => hk2 e.symm)]
        cases fM M k <;> rfl
  · have hf := run_find_mp (P := P) (w := w) hk _ e4
    subst e1
    obtain ⟨n1, n2⟩ := split_ne hM
    refine ⟨{ w with heap := w.heap.setIfInBounds m (.map (mE (A ++ (p.1, n) :: B)).toArray ck) }, A ++ (p.1, n) :: B, ck, ?_, Array.getElem?_setIfInBounds_self_of_lt hlt, hM.swap e2.symm, oth_set _, ?_⟩
    · have hst : (Instr.keyThatStays (((mE (A ++ p :: B))[A.length]?.map (·.key)).getD (.string (idL n.l.id))) (.string (idL n.l.id))).run P w = .ok (.string (idL n.l.id)) w := by
        have e5 : ((mE (A ++ p :: B))[A.length]?.map (·.key)).getD (.string (idL n.l.id)) = .string (idL n.l.id) := by
          unfold mE
          rw [List.map_append, List.getElem?_append_right (by simp)]
          simp [e2]
        rw [e5]
        have hsb : Instr.sameBits 10000 (.string (idL n.l.id)) (.string (idL n.l.id)) = true := by
          show (idL n.l.id == idL n.l.id) = true
          rw [idL_beq hi hi]
          simp
        simp [Instr.keyThatStays, hsb]
      have e6 : (mE (A ++ (p.1, n) :: B)).toArray = ((mE (A ++ p :: B)).modify A.length (fun e => { e with key := .string (idL n.l.id), val := onV n })).toArray := by
        congr 1
        unfold mE
        simp only [List.map_append, List.map_cons]
        have : (A.map fun p : Nat × On => ({ key := .string (idL p.2.l.id), val := onV p.2, born := p.1 } : MapEntry)).length = A.length := by simp
        rw [← this, modify_at]
      rw [e6]
      simp only [Nat.zero_add] at hf
      simp [Instr.mapUpdate, run_underlying ht, MapKept.run_getObj_map hb, hc, hf, hst, MapKept.run_setObj_map _ hb, Result.andThen]
    · funext k
      unfold setO
      rw [fM_app, fM_cons, fM_app, fM_cons]
      by_cases hk2 : k = n.l.id
      · rw [if_pos hk2, hk2, if_pos rfl, fM_none e3]; rfl
      · rw [if_neg hk2, if_neg (fun (e : n.l.id = k) => hk2 e.symm), if_neg (fun (e : p.2.l.id = k) => hk2 (by rw [← e, e2]))]
/-- delete(m, k). -/
theorem del_mp (ht : P.underlying t = some (.map kt et)) (hk : P.underlying kt = some .string) (hi : i < 6) (hM : MpOk M ck) (hb : MpI w m M ck) :
    ∃ (w' : World) (M' : Mp), (∀ ty, (Builtin.delete_ #[t, kt] ty #[.map (some m), .string (idL i)]).run P w = .ok (.tuple #[]) w') ∧ MpI w' m M' ck ∧ MpOk M' ck ∧ Oth w w' m ∧ fM M' = delO (fM M) i := by
  have hc := fun x => (WideMaps.string_law (P := P) hk).check w x (keyOf_string_mk hk (idL_size i))
  have hlt := hb.lt
  unfold MpI at hb
  rcases find_mp hi M 0 hM.id with ⟨h1, h2⟩ | ⟨A, p, B, e1, e2, e3, e4⟩
  · have hf := run_find_mp (P := P) (w := w) hk none h1
    refine ⟨{ w with heap := w.heap.setIfInBounds m (.map (mE M).toArray ck) }, M, ?_, Array.getElem?_setIfInBounds_self_of_lt hlt, hM, oth_set _, ?_⟩
    · intro ty
      simp [Builtin.delete_, run_underlying ht, MapKept.run_getObj_map hb, hc, hf, MapKept.run_setObj_map _ hb, Result.andThen]
    · funext k
      unfold delO
      by_cases hk2 : k = i
      · rw [if_pos hk2, hk2, fM_none h2]
      · rw [if_neg hk2]
  · have hf := run_find_mp (P := P) (w := w) hk _ e4
    subst e1
    obtain ⟨n1, n2⟩ := split_ne hM
    refine ⟨{ w with heap := w.heap.setIfInBounds m (.map (mE (A ++ B)).toArray ck) }, A ++ B, ?_, Array.getElem?_setIfInBounds_self_of_lt hlt, hM.cut, oth_set _, ?_⟩
    · intro ty
      have e6 : (mE (A ++ p :: B)).eraseIdx A.length = mE (A ++ B) := by
        unfold mE
        simp only [List.map_append, List.map_cons]
        have : (A.map fun p : Nat × On => ({ key := .string (idL p.2.l.id), val := onV p.2, born := p.1 } : MapEntry)).length = A.length := by simp
        rw [← this, List.eraseIdx_append_of_length_le (Nat.le_refl _)]
        simp
      simp only [Nat.zero_add] at hf
      simp [Builtin.delete_, run_underlying ht, MapKept.run_getObj_map hb, hc, hf, MapKept.run_setObj_map _ hb, Result.andThen, e6]
    · funext k
      unfold delO
      rw [fM_app, fM_app, fM_cons]
      by_cases hk2 : k = i
      · rw [if_pos hk2, hk2, fM_none e3, fM_none (fun x hx => by rw [← e2]; exact n2 x hx)]; rfl
      · rw [if_neg hk2, if_neg (fun (e : p.2.l.id = k) => hk2 (by rw [← e, e2]))]
end
end Go.Proofs.YtnnncddjcdjhoaaGreatDoor
