/- Loops over maps of notes, in whatever order the entries come. No function of the program in sight. -/
import Derived.Test.YtnnncddjcdjhoaaGreatDoorOfM
namespace Go.Proofs.YtnnncddjcdjhoaaGreatDoor
open Go.RowKit Go.Maps Go.WideMaps

/-- One step of a loop over a map, wherever the iterator lies. -/
theorem next_raw {P : Program} (w : World) (ty : TypeId) (r bm since c0 clock : Nat) (seen : Array Nat) (es : Array MapEntry) (hr : w.heap[r]? = some (.mapIter (some bm) since seen c0)) (hb : w.heap[bm]? = some (.map es clock)) (hold : ∀ x ∈ es.toList, x.born < since) (hsc : since ≤ c0) :
    ((leftOf es seen).size = 0 ∧ (Instr.next (.pointer (some ⟨r, 0, none⟩)) false ty).run P w = .ok (.tuple #[.bool false]) w) ∨
    ∃ e ∈ (leftOf es seen).toList, ∃ w1 : World, w1.heap[r]? = some (.mapIter (some bm) since (seen.push e.born) clock) ∧ (∀ b, b ≠ r → w1.heap[b]? = w.heap[b]?) ∧ w1.heap.size = w.heap.size ∧ w1.os = w.os ∧ w1.tape = w.tape ∧ w1.output = w.output ∧ (Instr.next (.pointer (some ⟨r, 0, none⟩)) false ty).run P w = .ok (.tuple #[.bool true, e.key, e.val]) w1 := by
  have hrlt : r < w.heap.size := (Array.getElem?_eq_some_iff.1 hr).1
  simp only [Instr.next, getObj, Sem.run_bind, Sem.run, hr, hb, Result.andThen, next_test_false seen es since c0 hold hsc, Bool.false_eq_true, if_false]
  unfold leftOf
  have hmem : ∀ x ∈ (Array.filter (fun e => !seen.contains e.born) es).toList, x.born < since := fun x hx => hold x (by simp at hx ⊢; exact hx.1)
  generalize Array.filter (fun e => !seen.contains e.born) es = L at hmem ⊢
  have e1 : L.filter (fun x => decide (x.born < since)) = L := Array.filter_eq_self.2 (fun x hx => by simpa using hmem x (by simpa using hx))
  have e2 : L.filter (fun x => decide (x.born ≥ since)) = #[] := by
    rw [Array.filter_eq_empty_iff]
    intro x hx
    have := hmem x (by simpa using hx)
    simp
    omega
  simp only [e1, e2, Array.append_empty]
  by_cases h0 : L.size = 0
  · left
    have : L = #[] := Array.eq_empty_of_size_eq_zero h0
    subst this
    refine ⟨rfl, ?_⟩
    simp [choose, Sem.run, Question.forced]
  · right
    have hne : L.isEmpty = false := by simp [Array.isEmpty, h0]
    simp only [hne, Bool.false_eq_true, if_false, Array.empty_append, Array.size_map]
    have hch : ∃ (j : Nat) (w1 : World), j < L.size ∧ w1.heap = w.heap ∧ w1.os = w.os ∧ w1.tape = w.tape ∧ w1.output = w.output ∧ (choose (Question.mapNext L.size)).run P w = .ok j w1 := by
      by_cases hf : L.size ≤ 1
      · exact ⟨0, w, by omega, rfl, rfl, rfl, rfl, by simp [choose, Sem.run, Question.forced, hf]⟩
      · exact ⟨_, w.drew, Nat.mod_lt _ (by omega), rfl, rfl, rfl, rfl, by
          simp only [choose, Sem.run, Question.forced, decide_eq_true_eq, hf, if_false, Question.cut]
          rfl⟩
    obtain ⟨j, w1, hj, hal, ho1, ho2, ho3, hrun⟩ := hch
    have hw1r : w1.heap[r]? = some (.mapIter (some bm) since seen c0) := by rw [hal]; exact hr
    refine ⟨L[j], by simp, { w1 with heap := w1.heap.setIfInBounds r (.mapIter (some bm) since (seen.push L[j].born) clock) }, ?_, ?_, ?_, ho1, ho2, ho3, ?_⟩
    · exact Array.getElem?_setIfInBounds_self_of_lt (by rw [hal]; exact hrlt)
    · intro b hb'
      show (w1.heap.setIfInBounds r _)[b]? = _
      rw [Array.getElem?_setIfInBounds_ne (Ne.symm hb'), hal]
    · show (w1.heap.setIfInBounds r _).size = _
      rw [Array.size_setIfInBounds, hal]
    · have hset : ∀ o', (setObj r o').run P w1 = .ok () { w1 with heap := w1.heap.setIfInBounds r o' } := fun o' => by
        simp only [setObj, Sem.run, hw1r]
      simp only [hrun, Array.getElem?_map, Array.getElem?_eq_getElem hj, Option.map_some, Sem.run_bind, hset, Result.andThen]
      rfl
theorem entry_raw {P : Program} (w : World) (r bm since clock : Nat) (seen : Array Nat) (es : Array MapEntry) (e : MapEntry) (hr : w.heap[r]? = some (.mapIter (some bm) since (seen.push e.born) clock)) (hb : w.heap[bm]? = some (.map es clock)) (he : e ∈ es.toList) (hn : (es.toList.map (·.born)).Nodup) :
    (Instr.entry (.pointer (some ⟨r, 0, none⟩))).run P w = .ok (.tuple #[e.key, e.val]) w := by
  have hf : es.find? (·.born == e.born) = some e := by rw [← Array.find?_toList]; exact find_born e es.toList hn he
  simp only [Instr.entry, getObj, Sem.run_bind, Sem.run, hr, hb, Result.andThen, Array.back?_push, bne_self_eq_false, Bool.false_eq_true, if_false, hf]
  rfl

theorem mp_key_inj {M : Mp} {ck : Nat} (hM : MpOk M ck) {x y : Nat × On} (hx : x ∈ M) (hy : y ∈ M) (h : x.1 = y.1) : x = y := by
  obtain ⟨i, hi, e1⟩ := List.getElem_of_mem hx
  obtain ⟨j, hj, e2⟩ := List.getElem_of_mem hy
  rcases Nat.lt_trichotomy i j with k | k | k
  · have := List.pairwise_iff_getElem.1 hM.born i j hi hj k
    rw [e1, e2] at this
    omega
  · subst k
    exact e1.symm.trans e2
  · have := List.pairwise_iff_getElem.1 hM.born j i hj hi k
    rw [e1, e2] at this
    omega
theorem MpOk.nodup {M : Mp} {ck : Nat} (hM : MpOk M ck) : M.Nodup := hM.born.imp (fun h e => by rw [e] at h; omega)
/-- An iterator over a map of notes: the entries that came. -/
def ItI (w : World) (r m : Nat) (M : Mp) (ck : Nat) (D : Mp) : Prop :=
  ∃ seen : Array Nat, w.heap[r]? = some (.mapIter (some m) ck seen ck) ∧ seen.toList = D.map (·.1) ∧ (∀ x ∈ D, x ∈ M) ∧ D.Nodup
theorem ItI.keep {w w' : World} {r m ck : Nat} {M D : Mp} (h : ItI w r m M ck D) (hk : w'.heap[r]? = w.heap[r]?) : ItI w' r m M ck D := by
  obtain ⟨s, h1, h2⟩ := h
  exact ⟨s, hk.trans h1, h2⟩
theorem ItI.lt {w : World} {r m ck : Nat} {M D : Mp} (h : ItI w r m M ck D) : r < w.heap.size := by
  obtain ⟨s, h1, _⟩ := h
  exact (Array.getElem?_eq_some_iff.1 h1).1
theorem ItI.len {w : World} {r m ck : Nat} {M D : Mp} (h : ItI w r m M ck D) : (w.iterSeen r).size = D.length := by
  obtain ⟨s, h1, h2, _⟩ := h
  unfold World.iterSeen
  rw [h1]
  show s.size = _
  have := congrArg List.length h2
  simpa using this
theorem next_mp {w : World} {r m ck : Nat} {M D : Mp} (hM : MpOk M ck) (hb : MpI w m M ck) (hi : ItI w r m M ck D) (hrm : r ≠ m) (P : Program) :
    (D.Perm M ∧ ∀ ty, (Instr.next (.pointer (some ⟨r, 0, none⟩)) false ty).run P w = .ok (.tuple #[.bool false]) w) ∨
    ∃ p ∈ M, p ∉ D ∧ D.length < M.length ∧ ∃ w1 : World, ItI w1 r m M ck (D ++ [p]) ∧ Oth w w1 r ∧
      (∀ ty, (Instr.next (.pointer (some ⟨r, 0, none⟩)) false ty).run P w = .ok (.tuple #[.bool true, .string (idL p.2.l.id), onV p.2]) w1) ∧ (Instr.entry (.pointer (some ⟨r, 0, none⟩))).run P w1 = .ok (.tuple #[.string (idL p.2.l.id), onV p.2]) w1 := by
  obtain ⟨seen, hr, hs, hsub, hnd⟩ := hi
  have hold : ∀ x ∈ (mE M).toArray.toList, x.born < ck := by
    intro x hx
    unfold mE at hx
    simp only [List.mem_map] at hx
    obtain ⟨p, hp, rfl⟩ := hx
    exact hM.lt p hp
  have hseen : ∀ p ∈ M, seen.contains p.1 = true ↔ p ∈ D := by
    intro p hp
    rw [Array.contains_iff_mem, ← Array.mem_toList_iff, hs, List.mem_map]
    constructor
    · rintro ⟨q, hq, e⟩
      rw [← mp_key_inj hM (hsub q hq) hp e]
      exact hq
    · exact fun h => ⟨p, h, rfl⟩
  unfold MpI at hb
  rcases next_raw (P := P) w 0 r m ck ck ck seen (mE M).toArray hr hb hold (Nat.le_refl _) with ⟨h0, hrun⟩ | ⟨e, he, w1, h1, h2, h3, h4, h5, h6, hrun⟩
  · left
    refine ⟨(List.perm_ext_iff_of_nodup hnd hM.nodup).2 fun p => ⟨hsub p, fun hp => ?_⟩, fun ty => hrun⟩
    apply Decidable.byContradiction
    intro hpD
    have hm : ({ key := .string (idL p.2.l.id), val := onV p.2, born := p.1 } : MapEntry) ∈ leftOf (mE M).toArray seen := by
      unfold leftOf
      rw [Array.mem_filter]
      refine ⟨by unfold mE; simp only [List.mem_toArray, List.mem_map]; exact ⟨p, hp, rfl⟩, ?_⟩
      have : ¬ seen.contains p.1 = true := fun h => hpD ((hseen p hp).1 h)
      simpa using this
    rw [Array.eq_empty_of_size_eq_zero h0] at hm
    simp at hm
  · right
    have hml := mem_left he
    have hme : e ∈ mE M := by simpa using hml.1
    unfold mE at hme
    obtain ⟨p, hp, rfl⟩ := List.mem_map.1 hme
    have hpD : p ∉ D := by
      intro h
      have h7 := (hseen p hp).2 h
      have h8 := hml.2
      simp only at h8
      rw [h7] at h8
      simp at h8
    have hlen : D.length < M.length := by
      have := nodup_len (l := p :: D) (m := M) (List.nodup_cons.2 ⟨hpD, hnd⟩) (fun x hx => by
        rcases List.mem_cons.1 hx with rfl | hx
        · exact hp
        · exact hsub x hx)
      simp only [List.length_cons] at this
      omega
    refine ⟨p, hp, hpD, hlen, w1, ⟨_, h1, ?_, ?_, ?_⟩, ⟨h3, fun b hb' => h2 b hb', h4, h5, h6⟩, fun ty => hrun, ?_⟩
    · simp [hs]
    · intro x hx
      rcases List.mem_append.1 hx with hx | hx
      · exact hsub x hx
      · rw [List.mem_singleton] at hx; rw [hx]; exact hp
    · exact List.nodup_append.2 ⟨hnd, by simp, fun a ha b hb' => by rw [List.mem_singleton] at hb'; rw [hb']; exact fun e => hpD (e ▸ ha)⟩
    · have hbn : ((mE M).toArray.toList.map (·.born)).Nodup := by
        have : (mE M).map (·.born) = M.map (·.1) := by unfold mE; rw [List.map_map]; rfl
        show ((mE M).map (·.born)).Nodup
        rw [this]
        exact List.pairwise_map.2 (hM.born.imp (fun h e => by omega))
      exact entry_raw (P := P) w1 r m ck ck seen (mE M).toArray _ h1 ((h2 m (Ne.symm hrm)).trans hb) hml.1 hbn
theorem ItI.new {w : World} {r m ck : Nat} {M : Mp} (h : w.heap[r]? = some (.mapIter (some m) ck #[] ck)) : ItI w r m M ck [] := ⟨#[], h, rfl, by simp, List.Pairwise.nil⟩
theorem setblkO {w : World} {g j : Nat} {cs : Array Value} {t : TypeId} {f : Nat × Nat} (v : Value) (h : w.heap[g]? = some (.cells cs t f)) : (w.setCell ⟨g, j, none⟩ v).heap[g]? = some (.cells (cs.setIfInBounds j v) t f) := by
  simp [World.setCell, Array.getElem?_modify, h]
theorem setcO (V : World) (b j : Nat) (v : Value) (b' : Nat) (hb : b' ≠ b) : (V.setCell ⟨b, j, none⟩ v).heap[b']? = V.heap[b']? := Below.heap_setCell _ _ _ _ hb
theorem set9O (V : World) (b : Nat) (T : TypeId) (c0 c1 c2 c3 c4 c5 c6 c7 c8 v0 v1 v2 v3 v4 v5 v6 v7 v8 : Value) (h : V.heap[b]? = some (.cells #[c0, c1, c2, c3, c4, c5, c6, c7, c8] T (0, 0))) (W : World) (hW : W = (((((((((V.setCell ⟨b, 0, none⟩ v0).setCell ⟨b, 1, none⟩ v1).setCell ⟨b, 2, none⟩ v2).setCell ⟨b, 3, none⟩ v3).setCell ⟨b, 4, none⟩ v4).setCell ⟨b, 5, none⟩ v5).setCell ⟨b, 6, none⟩ v6).setCell ⟨b, 7, none⟩ v7).setCell ⟨b, 8, none⟩ v8)) :
    W.heap[b]? = some (.cells #[v0, v1, v2, v3, v4, v5, v6, v7, v8] T (0, 0)) ∧ Oth V W b := by
  have h0 : (V.setCell ⟨b, 0, none⟩ v0).heap[b]? = some (.cells #[v0, c1, c2, c3, c4, c5, c6, c7, c8] T (0, 0)) := (setblkO (j := 0) v0 h).trans rfl
  have h1 : ((V.setCell ⟨b, 0, none⟩ v0).setCell ⟨b, 1, none⟩ v1).heap[b]? = some (.cells #[v0, v1, c2, c3, c4, c5, c6, c7, c8] T (0, 0)) := (setblkO (j := 1) v1 h0).trans rfl
  have h2 : (((V.setCell ⟨b, 0, none⟩ v0).setCell ⟨b, 1, none⟩ v1).setCell ⟨b, 2, none⟩ v2).heap[b]? = some (.cells #[v0, v1, v2, c3, c4, c5, c6, c7, c8] T (0, 0)) := (setblkO (j := 2) v2 h1).trans rfl
  have h3 : ((((V.setCell ⟨b, 0, none⟩ v0).setCell ⟨b, 1, none⟩ v1).setCell ⟨b, 2, none⟩ v2).setCell ⟨b, 3, none⟩ v3).heap[b]? = some (.cells #[v0, v1, v2, v3, c4, c5, c6, c7, c8] T (0, 0)) := (setblkO (j := 3) v3 h2).trans rfl
  have h4 : (((((V.setCell ⟨b, 0, none⟩ v0).setCell ⟨b, 1, none⟩ v1).setCell ⟨b, 2, none⟩ v2).setCell ⟨b, 3, none⟩ v3).setCell ⟨b, 4, none⟩ v4).heap[b]? = some (.cells #[v0, v1, v2, v3, v4, c5, c6, c7, c8] T (0, 0)) := (setblkO (j := 4) v4 h3).trans rfl
  have h5 : ((((((V.setCell ⟨b, 0, none⟩ v0).setCell ⟨b, 1, none⟩ v1).setCell ⟨b, 2, none⟩ v2).setCell ⟨b, 3, none⟩ v3).setCell ⟨b, 4, none⟩ v4).setCell ⟨b, 5, none⟩ v5).heap[b]? = some (.cells #[v0, v1, v2, v3, v4, v5, c6, c7, c8] T (0, 0)) := (setblkO (j := 5) v5 h4).trans rfl
  have h6 : (((((((V.setCell ⟨b, 0, none⟩ v0).setCell ⟨b, 1, none⟩ v1).setCell ⟨b, 2, none⟩ v2).setCell ⟨b, 3, none⟩ v3).setCell ⟨b, 4, none⟩ v4).setCell ⟨b, 5, none⟩ v5).setCell ⟨b, 6, none⟩ v6).heap[b]? = some (.cells #[v0, v1, v2, v3, v4, v5, v6, c7, c8] T (0, 0)) := (setblkO (j := 6) v6 h5).trans rfl
  have h7 : ((((((((V.setCell ⟨b, 0, none⟩ v0).setCell ⟨b, 1, none⟩ v1).setCell ⟨b, 2, none⟩ v2).setCell ⟨b, 3, none⟩ v3).setCell ⟨b, 4, none⟩ v4).setCell ⟨b, 5, none⟩ v5).setCell ⟨b, 6, none⟩ v6).setCell ⟨b, 7, none⟩ v7).heap[b]? = some (.cells #[v0, v1, v2, v3, v4, v5, v6, v7, c8] T (0, 0)) := (setblkO (j := 7) v7 h6).trans rfl
  have h8 : (((((((((V.setCell ⟨b, 0, none⟩ v0).setCell ⟨b, 1, none⟩ v1).setCell ⟨b, 2, none⟩ v2).setCell ⟨b, 3, none⟩ v3).setCell ⟨b, 4, none⟩ v4).setCell ⟨b, 5, none⟩ v5).setCell ⟨b, 6, none⟩ v6).setCell ⟨b, 7, none⟩ v7).setCell ⟨b, 8, none⟩ v8).heap[b]? = some (.cells #[v0, v1, v2, v3, v4, v5, v6, v7, v8] T (0, 0)) := (setblkO (j := 8) v8 h7).trans rfl
  rw [hW]
  exact ⟨h8, ⟨by simp [World.setCell], fun b' hb' => by rw [setcO _ _ _ _ _ hb', setcO _ _ _ _ _ hb', setcO _ _ _ _ _ hb', setcO _ _ _ _ _ hb', setcO _ _ _ _ _ hb', setcO _ _ _ _ _ hb', setcO _ _ _ _ _ hb', setcO _ _ _ _ _ hb', setcO _ _ _ _ _ hb'], by simp only [World.setCell], by simp only [World.setCell], by simp only [World.setCell]⟩⟩
theorem set6O (V : World) (b : Nat) (T : TypeId) (c0 c1 c2 c3 c4 c5 v0 v1 v2 v3 v4 v5 : Value) (h : V.heap[b]? = some (.cells #[c0, c1, c2, c3, c4, c5] T (0, 0))) (W : World) (hW : W = ((((((V.setCell ⟨b, 0, none⟩ v0).setCell ⟨b, 1, none⟩ v1).setCell ⟨b, 2, none⟩ v2).setCell ⟨b, 3, none⟩ v3).setCell ⟨b, 4, none⟩ v4).setCell ⟨b, 5, none⟩ v5)) :
    W.heap[b]? = some (.cells #[v0, v1, v2, v3, v4, v5] T (0, 0)) ∧ Oth V W b := by
  have h0 : (V.setCell ⟨b, 0, none⟩ v0).heap[b]? = some (.cells #[v0, c1, c2, c3, c4, c5] T (0, 0)) := (setblkO (j := 0) v0 h).trans rfl
  have h1 : ((V.setCell ⟨b, 0, none⟩ v0).setCell ⟨b, 1, none⟩ v1).heap[b]? = some (.cells #[v0, v1, c2, c3, c4, c5] T (0, 0)) := (setblkO (j := 1) v1 h0).trans rfl
  have h2 : (((V.setCell ⟨b, 0, none⟩ v0).setCell ⟨b, 1, none⟩ v1).setCell ⟨b, 2, none⟩ v2).heap[b]? = some (.cells #[v0, v1, v2, c3, c4, c5] T (0, 0)) := (setblkO (j := 2) v2 h1).trans rfl
  have h3 : ((((V.setCell ⟨b, 0, none⟩ v0).setCell ⟨b, 1, none⟩ v1).setCell ⟨b, 2, none⟩ v2).setCell ⟨b, 3, none⟩ v3).heap[b]? = some (.cells #[v0, v1, v2, v3, c4, c5] T (0, 0)) := (setblkO (j := 3) v3 h2).trans rfl
  have h4 : (((((V.setCell ⟨b, 0, none⟩ v0).setCell ⟨b, 1, none⟩ v1).setCell ⟨b, 2, none⟩ v2).setCell ⟨b, 3, none⟩ v3).setCell ⟨b, 4, none⟩ v4).heap[b]? = some (.cells #[v0, v1, v2, v3, v4, c5] T (0, 0)) := (setblkO (j := 4) v4 h3).trans rfl
  have h5 : ((((((V.setCell ⟨b, 0, none⟩ v0).setCell ⟨b, 1, none⟩ v1).setCell ⟨b, 2, none⟩ v2).setCell ⟨b, 3, none⟩ v3).setCell ⟨b, 4, none⟩ v4).setCell ⟨b, 5, none⟩ v5).heap[b]? = some (.cells #[v0, v1, v2, v3, v4, v5] T (0, 0)) := (setblkO (j := 5) v5 h4).trans rfl
  rw [hW]
  exact ⟨h5, ⟨by simp [World.setCell], fun b' hb' => by rw [setcO _ _ _ _ _ hb', setcO _ _ _ _ _ hb', setcO _ _ _ _ _ hb', setcO _ _ _ _ _ hb', setcO _ _ _ _ _ hb', setcO _ _ _ _ _ hb'], by simp only [World.setCell], by simp only [World.setCell], by simp only [World.setCell]⟩⟩
end Go.Proofs.YtnnncddjcdjhoaaGreatDoor
