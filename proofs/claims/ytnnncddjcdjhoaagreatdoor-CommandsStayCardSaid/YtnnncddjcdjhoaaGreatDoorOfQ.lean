/- Plain: what the loops of 'aged' leave. No function of the program in sight. -/
import Derived.Test.YtnnncddjcdjhoaaGreatDoorOfI
namespace Go.Proofs.YtnnncddjcdjhoaaGreatDoor
open Go.RowKit

def NdM (M : Mp) : Prop := M.Pairwise (fun x y => x.2.l.id ≠ y.2.l.id)
theorem NdM.inj {M : Mp} (h : NdM M) {x y : Nat × On} (hx : x ∈ M) (hy : y ∈ M) (e : x.2.l.id = y.2.l.id) : x = y := by
  obtain ⟨i, hi, e1⟩ := List.getElem_of_mem hx
  obtain ⟨j, hj, e2⟩ := List.getElem_of_mem hy
  rcases Nat.lt_trichotomy i j with k | k | k
  · have := List.pairwise_iff_getElem.1 h i j hi hj k
    rw [e1, e2] at this
    exact absurd e this
  · subst k
    exact e1.symm.trans e2
  · have := List.pairwise_iff_getElem.1 h j i hj hi k
    rw [e1, e2] at this
    exact absurd e.symm this
theorem fM_mem {M : Mp} (h : NdM M) {i : Nat} {n : On} : fM M i = some n ↔ n.l.id = i ∧ ∃ b, (b, n) ∈ M := by
  constructor
  · intro hf
    refine ⟨fM_ids hf, ?_⟩
    unfold fM at hf
    obtain ⟨p, hp, rfl⟩ := Option.map_eq_some_iff.1 hf
    exact ⟨p.1, List.mem_of_find?_eq_some hp⟩
  · rintro ⟨rfl, b, hb⟩
    unfold fM
    have h1 : (M.find? fun p => p.2.l.id == n.l.id).isSome := by
      rw [List.find?_isSome]
      exact ⟨_, hb, by simp⟩
    obtain ⟨p, hp⟩ := Option.isSome_iff_exists.1 h1
    rw [hp]
    have h2 : p.2.l.id = n.l.id := by simpa using List.find?_some hp
    rw [h.inj (List.mem_of_find?_eq_some hp) hb h2]
    rfl
def gD (p : Po) (a : Int) (D : Mp) : Mp := D.map fun q => (q.1, gro p q.2 a)
theorem gD_nd {p : Po} {a : Int} {D : Mp} (h : NdM D) : NdM (gD p a D) := by
  unfold gD NdM
  rw [List.pairwise_map]
  exact h.imp (fun k => by simp only [(gro_cases p _ a).1]; exact k)
theorem nd_of_sub {M D : Mp} {ck : Nat} (hM : MpOk M ck) (hs : ∀ x ∈ D, x ∈ M) (hn : D.Nodup) : NdM D := by
  unfold NdM
  refine List.Pairwise.imp_of_mem ?_ hn
  intro x y hx hy hne e
  exact hne (NdM.inj hM.nd (hs x hx) (hs y hy) e)
theorem setO_snoc {p : Po} {a : Int} {D : Mp} {q : Nat × On} (h : NdM (D ++ [q])) : setO (fM (gD p a D)) (gro p q.2 a) = fM (gD p a (D ++ [q])) := by
  have h2 : ∀ x ∈ D, x.2.l.id ≠ q.2.l.id := fun x hx => (List.pairwise_append.1 h).2.2 x hx q (List.mem_singleton.2 rfl)
  have e : gD p a (D ++ [q]) = gD p a D ++ [(q.1, gro p q.2 a)] := by unfold gD; simp
  rw [e]
  funext k
  rw [fM_app, fM_cons]
  unfold setO
  rw [(gro_cases p q.2 a).1]
  by_cases hk : k = q.2.l.id
  · rw [if_pos hk, if_pos hk.symm]
    have : fM (gD p a D) k = none := fM_none (fun x hx => by
      unfold gD at hx
      obtain ⟨y, hy, rfl⟩ := List.mem_map.1 hx
      show (gro p y.2 a).l.id ≠ k
      rw [(gro_cases p y.2 a).1, hk]
      exact h2 y hy)
    rw [this]
    rfl
  · rw [if_neg hk, if_neg (fun e => hk e.symm)]
    cases fM (gD p a D) k <;> rfl
/-- The notes that have ended, in the order in which they came. -/
def enD (p : Po) (a : Int) (D : Mp) : List On := (D.map fun q => gro p q.2 a).filter fun n => enB n.s
theorem enD_snoc (p : Po) (a : Int) (D : Mp) (q : Nat × On) : enD p a (D ++ [q]) = if enB (gro p q.2 a).s = true then enD p a D ++ [gro p q.2 a] else enD p a D := by
  unfold enD
  rw [List.map_append, List.filter_append, List.map_singleton]
  by_cases h : enB (gro p q.2 a).s = true
  · rw [if_pos h]; simp [h]
  · rw [if_neg h]; simp [h]
theorem fM_gD {p : Po} {a : Int} {M D : Mp} {ck : Nat} (hM : MpOk M ck) (hp : D.Perm M) (i : Nat) : fM (gD p a D) i = (fM M i).map fun n => gro p n a := by
  have hD : NdM D := nd_of_sub hM (fun x hx => hp.mem_iff.1 hx) (hp.nodup_iff.2 hM.nodup)
  have hMn : NdM M := hM.nd
  cases hf : fM M i with
  | none =>
    refine fM_none (fun x hx => ?_)
    unfold gD at hx
    obtain ⟨y, hy, rfl⟩ := List.mem_map.1 hx
    show (gro p y.2 a).l.id ≠ i
    rw [(gro_cases p y.2 a).1]
    intro e
    have : fM M i = some y.2 := (fM_mem hMn).2 ⟨e, y.1, hp.mem_iff.1 hy⟩
    rw [hf] at this
    cases this
  | some n =>
    obtain ⟨e, b, hb⟩ := (fM_mem hMn).1 hf
    refine (fM_mem (gD_nd hD)).2 ⟨by rw [(gro_cases p n a).1]; exact e, b, ?_⟩
    unfold gD
    exact List.mem_map.2 ⟨(b, n), hp.mem_iff.2 hb, rfl⟩
theorem mp_len {M : Mp} {ck : Nat} (hM : MpOk M ck) : M.length ≤ 6 := by
  have h1 : (M.map (·.2.l.id)).Nodup := List.pairwise_map.2 hM.nd
  have := nodup_len h1 (m := List.range 6) (fun x hx => by
    obtain ⟨q, hq, rfl⟩ := List.mem_map.1 hx
    exact List.mem_range.2 (hM.id q hq))
  simpa using this
theorem enD_len {p : Po} {a : Int} {D : Mp} : (enD p a D).length ≤ D.length := by
  unfold enD
  refine Nat.le_trans (List.length_filter_le _ _) ?_
  simp
/-- What the sort leaves are the ended notes in their order. -/
theorem endL_of {p : Po} {a : Int} {M D : Mp} {ck : Nat} {E : List On} (hM : MpOk M ck) (hp : D.Perm M) (hE : E.Perm (enD p a D)) (hs : E.Pairwise (fun x y => x.c < y.c ∨ x.c = y.c ∧ min x.l.id 5 ≤ min y.l.id 5)) : EndL p (fM M) a E := by
  have hD : NdM D := nd_of_sub hM (fun x hx => hp.mem_iff.1 hx) (hp.nodup_iff.2 hM.nodup)
  have hmem : ∀ n, n ∈ E ↔ ∃ q ∈ D, n = gro p q.2 a ∧ enB n.s = true := by
    intro n
    rw [hE.mem_iff]
    unfold enD
    rw [List.mem_filter, List.mem_map]
    constructor
    · rintro ⟨⟨q, hq, e⟩, h⟩
      exact ⟨q, hq, e.symm, h⟩
    · rintro ⟨q, hq, e, h⟩
      exact ⟨⟨q, hq, e.symm⟩, h⟩
  have hid : ∀ n ∈ E, n.l.id < 6 := by
    intro n hn
    obtain ⟨q, hq, rfl, _⟩ := (hmem n).1 hn
    rw [(gro_cases p q.2 a).1]
    exact hM.id q (hp.mem_iff.1 hq)
  have hne : E.Pairwise (fun x y => x.l.id ≠ y.l.id) := by
    have h1 : (enD p a D).Pairwise (fun x y => x.l.id ≠ y.l.id) := by
      unfold enD
      refine List.Pairwise.filter _ ?_
      rw [List.pairwise_map]
      exact hD.imp (fun k => by simp only [(gro_cases p _ a).1]; exact k)
    exact (hE.pairwise_iff (fun h => Ne.symm h)).2 h1
  refine ⟨?_, ?_⟩
  · refine List.Pairwise.imp_of_mem ?_ (hs.and hne)
    intro x y hx hy ⟨h1, h2⟩
    have := hid x hx
    have := hid y hy
    unfold keyN
    omega
  · intro n
    rw [hmem]
    constructor
    · rintro ⟨q, hq, e, h⟩
      exact ⟨q.2.l.id, q.2, (fM_mem hM.nd).2 ⟨rfl, q.1, hp.mem_iff.1 hq⟩, e, h⟩
    · rintro ⟨i, m, hm, e, h⟩
      obtain ⟨_, b, hb⟩ := (fM_mem hM.nd).1 hm
      exact ⟨(b, m), hp.mem_iff.2 hb, e, h⟩
/-- What the deletions leave. -/
theorem aged_of {p : Po} {a : Int} {M D : Mp} {ck : Nat} {E : List On} {g : Of} (hM : MpOk M ck) (hp : D.Perm M) (hE : EndL p (fM M) a E)
    (hg : ∀ i, g i = if i ∈ (outL p E).map (·.l.id) then none else fM (gD p a D) i) : Aged p (fM M) a g := by
  refine ⟨E, hE, fun i => ?_⟩
  rw [hg, fM_gD hM hp]
  cases hf : fM M i with
  | none => simp
  | some m =>
    simp only [Option.map_some, Option.bind_some]
    have hi : m.l.id = i := ((fM_mem hM.nd).1 hf).1
    have hiff : i ∈ (outL p E).map (·.l.id) ↔ gro p m a ∈ outL p E := by
      rw [List.mem_map]
      constructor
      · rintro ⟨n, hn, e⟩
        obtain ⟨j, m', hm', rfl, _⟩ := (hE.2 n).1 (List.mem_of_mem_take hn)
        have hj : m'.l.id = j := ((fM_mem hM.nd).1 hm').1
        rw [(gro_cases p m' a).1, hj] at e
        subst e
        rw [hf] at hm'
        rw [Option.some.inj hm']
        exact hn
      · intro h
        exact ⟨_, h, by rw [(gro_cases p m a).1]; exact hi⟩
    by_cases h : gro p m a ∈ outL p E
    · rw [if_pos h, if_pos (hiff.2 h)]
    · rw [if_neg h, if_neg (fun k => h (hiff.1 k))]
/-- Deletions one by one. -/
theorem del_step {E : List On} {f g : Of} {i : Nat} {n : On} (hn : E[i]? = some n) (hg : ∀ k, g k = if k ∈ (E.take i).map (·.l.id) then none else f k) : ∀ k, delO g n.l.id k = if k ∈ (E.take (i + 1)).map (·.l.id) then none else f k := by
  intro k
  unfold delO
  rw [List.take_add_one, hn]
  simp only [Option.toList_some, List.map_append, List.map_cons, List.map_nil, List.mem_append, List.mem_singleton]
  by_cases h : k = n.l.id
  · rw [if_pos h, if_pos (.inr h)]
  · rw [if_neg h, hg]
    by_cases h2 : k ∈ (E.take i).map (·.l.id)
    · rw [if_pos h2, if_pos (.inl h2)]
    · rw [if_neg h2, if_neg (by rintro (q | q); exact h2 q; exact h q)]
theorem cells_atO {w : World} {cs : Array Value} {t : TypeId} {f : Nat × Nat} {xs : List Value} {n : Nat} (h : cs.toList = xs) (hn : n = w.heap.size) : Cells (w.alloc (.cells cs t f)) n 0 xs := by
  subst hn
  exact Cells.new _ _ _ _ _ h
theorem own_oth {w w' : World} {base x : Nat} {e : TypeId} {size n : Nat} {v : Value} {xs : List Value} (h : w.ownsRow base e size v n xs) (ho : Oth w w' x) (hx : ∀ b, v.ownBlock = some b → b ≠ x) : w'.ownsRow base e size v n xs := by
  refine ⟨h.1, ?_⟩
  rcases h.2 with h | ⟨g, cap, cur, hv, hb, hh, r⟩
  · exact .inl h
  · exact .inr ⟨g, cap, cur, hv, hb, (ho.blk g (hx g (by rw [hv]; rfl))).trans hh, r⟩
theorem ItI.nd {w : World} {r m ck : Nat} {M D : Mp} (h : ItI w r m M ck D) (hM : MpOk M ck) : NdM D := by
  obtain ⟨s, _, _, h1, h2⟩ := h
  exact nd_of_sub hM h1 h2
end Go.Proofs.YtnnncddjcdjhoaaGreatDoor
