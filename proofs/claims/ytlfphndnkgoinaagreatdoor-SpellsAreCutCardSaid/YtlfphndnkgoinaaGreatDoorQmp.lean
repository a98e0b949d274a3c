/- Stages of a region that appends to a row that a map holds, and stores it there. No program in sight. -/
import Derived.Test.YtlfphndnkgoinaaGreatDoorQsl
import Derived.Test.YtlfphndnkgoinaaGreatDoorMg1
import Derived.Test.YtlfphndnkgoinaaGreatDoorSmA
namespace Go.Proofs.YtlfphndnkgoinaaGreatDoor
open Go.RowKit

structure KMm {α : Type} (C : α → List Value) (q : Nat) (ty : TypeId) (W : World) (B m : Nat) (v0 : Value) (K : SmL) (vr : Value) (n : Nat) (G : List α) (w : World) : Prop where
  map : SmI w m K
  row : w.ownsRow B ty q vr n (recs C G)
  gr : GrF W w (fun b => b = m ∨ v0.ownBlock = some b)
  nw : ∀ b, vr.ownBlock = some b → v0.ownBlock = some b ∨ W.heap.size ≤ b
theorem grF_mapM {w V : World} {p : Nat → Prop} (h : GrF w V p) {m : Nat} (hm : p m) (o : Obj) : GrF w { V with heap := V.heap.setIfInBounds m o } p :=
  ⟨h.os, h.tape, h.output, by simpa using h.size, fun b hb hn => by
    rw [← h.block b hb hn]
    exact Array.getElem?_setIfInBounds_ne (fun e => hn (by rw [← e]; exact hm))⟩
theorem map_otherM {V : World} {m b : Nat} (o : Obj) (h : b ≠ m) : ({ V with heap := V.heap.setIfInBounds m o } : World).heap[b]? = V.heap[b]? := Array.getElem?_setIfInBounds_ne (fun e => h e.symm)
section
variable {α : Type} {C : α → List Value} {q : Nat} {ty : TypeId} {W w w' : World} {B m : Nat} {v0 vr u : Value} {K : SmL} {n n' : Nat} {G G' : List α}
theorem KMm.alloc (h : KMm C q ty W B m v0 K vr n G w) (o : Obj) : KMm C q ty W B m v0 K vr n G (w.alloc o) :=
  ⟨h.map.keep (Below.heap_alloc _ _ _ h.map.lt), own_belowP h.row ((Below.refl _ _).alloc (Nat.le_refl _) _), h.gr.trans ⟨rfl, rfl, rfl, by simp, fun b hb _ => Below.heap_alloc _ _ _ hb⟩, h.nw⟩
theorem KMm.app (h : KMm C q ty W B m v0 K v0 n G w) (ho : w'.ownsRow B ty q u n' (recs C G')) (hg : w.grownBy w' v0.ownBlock) (hv : Moved w v0 u) (hvm : v0.ownBlock ≠ some m) (hvW : ∀ b, v0.ownBlock = some b → b < W.heap.size) : KMm C q ty W B m v0 K u n' G' w' ∧ GrN W w w' := by
  refine ⟨⟨h.map.keep (hg.block m h.map.lt (fun e => hvm e.symm)), ho, h.gr.trans (GrF.of_grown hg _ (fun b e => .inr e)), fun b hb => ?_⟩, hg.size, fun b hb hlt => hg.block b hlt (fun e => by have := hvW b e.symm; omega)⟩
  rcases hv with hv | ⟨g, hv, hl⟩
  · exact .inl (hv ▸ hb)
  · rw [hv] at hb
    cases hb
    exact .inr (Nat.le_trans h.gr.size hl)
theorem KMm.store (h : KMm C q ty W B m v0 K vr n G w) (k : ByteArray) (u : Value) (hvm : v0.ownBlock ≠ some m) (hmW : m < W.heap.size) :
    KMm C q ty W B m v0 (smU k u K) vr n G { w with heap := w.heap.setIfInBounds m (.map (smE 0 (smU k u K)).toArray (smU k u K).length) } ∧ GrN W w { w with heap := w.heap.setIfInBounds m (.map (smE 0 (smU k u K)).toArray (smU k u K).length) } := by
  refine ⟨⟨h.map.upd, own_keptB h.row (fun b hb => map_otherM _ (fun e => ?_)), grF_mapM h.gr (.inl rfl) _, h.nw⟩, by simp, fun b hb hlt => map_otherM _ (by omega)⟩
  subst e
  rcases h.nw b hb with h1 | h1
  · exact hvm h1
  · omega
end
/-- Stages: ahead of the append, behind it, behind the map's store. -/
def KM {α : Type} (C : α → List Value) (q : Nat) (ty : TypeId) (W : World) (B m : Nat) (k : ByteArray) (v : Value) (K : SmL) (n : Nat) (G : List α) (y : α) (u : Value) : Nat → World → Prop
  | 0, w => KMm C q ty W B m v K v n G w
  | 1, w => KMm C q ty W B m v K u (n + 1) (G ++ [y]) w
  | _, w => KMm C q ty W B m v (smU k u K) u (n + 1) (G ++ [y]) w
section
variable {α : Type} {C : α → List Value} {q : Nat} {ty : TypeId} {W w w' : World} {B m : Nat} {k : ByteArray} {v u : Value} {K : SmL} {n s : Nat} {G : List α} {y : α}
theorem KM.alloc (h : KM C q ty W B m k v K n G y u s w) (o : Obj) : KM C q ty W B m k v K n G y u s (w.alloc o) := by
  match s, h with
  | 0, h => exact KMm.alloc h o
  | 1, h => exact KMm.alloc h o
  | _ + 2, h => exact KMm.alloc h o
theorem KM.any (h : KM C q ty W B m k v K n G y u s w) : ∃ K' vr n' G', KMm C q ty W B m v K' vr n' G' w := by
  match s, h with
  | 0, h => exact ⟨_, _, _, _, h⟩
  | 1, h => exact ⟨_, _, _, _, h⟩
  | _ + 2, h => exact ⟨_, _, _, _, h⟩
theorem KM.low (h : KM C q ty W B m k v K n G y u s w) (hs : s ≤ 0) : KMm C q ty W B m v K v n G w := by
  obtain rfl : s = 0 := by omega
  exact h
/-- A cell of another block stays. -/
theorem KM.old (h : KM C q ty W B m k v K n G y u s w) {b i : Nat} {z : Value} (hc : W.cell? ⟨b, i, none⟩ = some z) (hbW : b < W.heap.size) (hne : b ≠ m) (hv : v.ownBlock ≠ some b) : w.cell? ⟨b, i, none⟩ = some z := by
  obtain ⟨K', vr, n', G', h⟩ := h.any
  rw [← hc]
  show World.cell? _ _ = World.cell? _ _
  simp only [World.cell?, h.gr.block b hbW (fun e => e.elim hne hv)]
theorem KM.lt_old (h : KM C q ty W B m k v K n G y u s w) {b : Nat} (hbW : b < W.heap.size) : b < w.heap.size := by
  obtain ⟨K', vr, n', G', h⟩ := h.any
  exact Nat.lt_of_lt_of_le hbW h.gr.size
end
end Go.Proofs.YtlfphndnkgoinaaGreatDoor
