/- Stages of a region that changes one record of a row that is owned, with numbers of the stream (as Qsk, in seats without signals). -/
import Derived.Test.YtlfphndnkgoinaaGreatDoorMg1
import Derived.Test.YtlfphndnkgoinaaGreatDoorMg0
namespace Go.Proofs.YtlfphndnkgoinaaGreatDoor
open Go.RowKit

theorem recs_cell {α : Type} {f : α → List Value} {k : Nat} (hf : ∀ x, (f x).length = k) : ∀ (l : List α) (i j : Nat) (x x' : α) (u : Value), i < l.length → j < k → (f x).set j u = f x' → (recs f (l.set i x)).set (i * k + j) u = recs f (l.set i x')
  | [], i, j, x, x', u, h, _, _ => by simp at h
  | y :: l, 0, j, x, x', u, _, hj, h => by
    rw [List.set_cons_zero, List.set_cons_zero, recs_cons, recs_cons, Nat.zero_mul, Nat.zero_add, List.set_append_left _ _ (by rw [hf]; exact hj), h]
  | y :: l, i + 1, j, x, x', u, hi, hj, h => by
    rw [List.set_cons_succ, List.set_cons_succ, recs_cons, recs_cons, List.set_append_right _ _ (by rw [hf, Nat.succ_mul]; omega), hf, show (i + 1) * k + j - k = i * k + j by rw [Nat.succ_mul]; omega, recs_cell hf l i j x x' u (by simpa using hi) hj h]

structure KG {α : Type} (C : α → List Value) (q : Nat) (ty : TypeId) (W : World) (p kk B g c n i : Nat) (xs : List Int) (m : List α) (X : Nat → α) (od : Nat → Nat) (s : Nat) (w : World) : Prop where
  own : w.ownsRow B ty q (.slice (some ⟨g, 0, none⟩) n c) n (recs C (m.set i (X s)))
  strm : Strm w p xs (kk + od s)
  gr : GrF W w (fun b => b = p ∨ b = g)
section
variable {α : Type} {C : α → List Value} {q : Nat} {ty : TypeId} {W w w' : World} {p kk B g c n i : Nat} {xs : List Int} {m : List α} {X : Nat → α} {od : Nat → Nat} {s : Nat}
theorem KG.first (x : α) (ho : w.ownsRow B ty q (.slice (some ⟨g, 0, none⟩) n c) n (recs C m)) (hx : m[i]? = some x) (h0 : X 0 = x) (hs : Strm w p xs kk) (hd : od 0 = 0) : KG C q ty w p kk B g c n i xs m X od 0 w.drew := by
  have e : m.set i (X 0) = m := by
    apply List.ext_getElem?
    intro k
    by_cases hk : i = k
    · subst hk
      rw [List.getElem?_set_self (List.getElem?_eq_some_iff.1 hx).1, h0, hx]
    · rw [List.getElem?_set_ne hk]
  refine ⟨by rw [e]; exact ho, by rw [hd]; exact hs, ⟨rfl, rfl, rfl, Nat.le_refl _, fun _ _ _ => rfl⟩⟩
theorem KG.alloc (h : KG C q ty W p kk B g c n i xs m X od s w) (o : Obj) : KG C q ty W p kk B g c n i xs m X od s (w.alloc o) :=
  ⟨own_belowP h.own ((Below.refl _ _).alloc (Nat.le_refl _) _), h.strm.alloc o, h.gr.trans ⟨rfl, rfl, rfl, by simp, fun b hb _ => Below.heap_alloc _ _ _ hb⟩⟩
theorem KG.cells (hf : ∀ x, (C x).length = q) (h : KG C q ty W p kk B g c n i xs m X od s w) (hi : i < m.length) (j : Nat) (u : Value) (hu : (C (X s))[j]? = some u) : w.cell? ⟨g, i * q + j, none⟩ = some u := by
  have hc := own_cells0 h.own
  have hg : (m.set i (X s))[i]? = some (X s) := by simp [hi]
  have := rec_cell hf hc i (X s) hg j u hu
  simpa using this
theorem KG.fro (h : KG C q ty W p kk B g c n i xs m X od s w) (j : Nat) : w.frozen? ⟨g, j, none⟩ = false := by
  obtain ⟨cs, hcs⟩ := own_blk h.own
  simp [World.frozen?, hcs]
theorem KG.lt (h : KG C q ty W p kk B g c n i xs m X od s w) : g < w.heap.size := by
  obtain ⟨cs, hcs⟩ := own_blk h.own
  exact (Array.getElem?_eq_some_iff.1 hcs).1
theorem KG.call (h : KG C q ty W p kk B g c n i xs m X od s w) (hg : w.grownBy w' (some p)) (hp : p < B) (hpW : p < W.heap.size) (hst : Strm w' p xs (kk + od (s + 1))) (hX : X (s + 1) = X s) : KG C q ty W p kk B g c n i xs m X od (s + 1) w' ∧ GrN W w w' :=
  ⟨⟨by rw [hX]; exact own_kept h.own hg hp, hst, h.gr.trans (GrF.of_grown hg _ (fun b e => by injection e with e; exact .inl e.symm))⟩, hg.size, fun b hb hlt => hg.block b hlt (by intro e; injection e with e; omega)⟩
theorem KG.store (hf : ∀ x, (C x).length = q) (h : KG C q ty W p kk B g c n i xs m X od s w) (hi : i < m.length) (hgW : g < W.heap.size) (hpg : p < g) (j : Nat) (hj : j < q) (u : Value) (hX : (C (X s)).set j u = C (X (s + 1))) (hP : od (s + 1) = od s) :
    KG C q ty W p kk B g c n i xs m X od (s + 1) (w.setCell ⟨g, i * q + j, none⟩ u) ∧ GrN W w (w.setCell ⟨g, i * q + j, none⟩ u) := by
  have hset : ∀ b, b ≠ g → (w.setCell ⟨g, i * q + j, none⟩ u).heap[b]? = w.heap[b]? := fun b hb => Below.heap_setCell _ _ _ _ hb
  have hsz : (w.setCell ⟨g, i * q + j, none⟩ u).heap.size = w.heap.size := by simp [World.setCell]
  have hst := h.own.stored (i * q + j) u
  rw [recs_cell hf m i j _ _ u hi hj hX] at hst
  refine ⟨⟨hst.1, ?_, h.gr.set (.inr rfl) u⟩, by rw [hsz]; exact Nat.le_refl _, fun b hb _ => hset b (by omega)⟩
  rw [hP]
  exact h.strm.keep fun b hb => hset b (by omega)
end
end Go.Proofs.YtlfphndnkgoinaaGreatDoor
