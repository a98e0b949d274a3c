/- A track in memory: a block of ten cells and three rows of its own; no program in sight but its types. -/
import Derived.Test.YtlfphndnkgoinaaGreatDoorTeD
import Derived.Test.YtlfphndnkgoinaaGreatDoorMg0
namespace Go.Proofs.YtlfphndnkgoinaaGreatDoor
open Go.RowKit

def tkRow (t : Tk) : Nat → List (Int × Int)
  | 0 => t.win
  | 1 => t.lea
  | _ => t.mos
def tkCells (t : Tk) (rp fv : Value) (v : Nat → Value) : Array Value := #[rp, v 0, v 1, v 2, .int .i64 t.sum, .int .i64 t.st, .int .i64 t.si, .bool t.fi, .int .i64 t.bg, fv]
structure TkI (B : Nat) (w : World) (x : Nat) (t : Tk) (rp fv : Value) (v : Nat → Value) : Prop where
  blk : w.heap[x]? = some (.cells (tkCells t rp fv v) 94 (0, 0))
  hx : B ≤ x
  row : ∀ m, m < 3 → OwF w B 142 2 (v m) (tkRow t m).length (recs sqC (tkRow t m))
  apart : ∀ m m', m < 3 → m' < 3 → m ≠ m' → ∀ q, (v m).ownBlock = some q → (v m').ownBlock ≠ some q
/-- The blocks of a track. -/
def tkF (x : Nat) (v : Nat → Value) (b : Nat) : Prop := b = x ∨ ∃ m, m < 3 ∧ (v m).ownBlock = some b
structure TkGo (w w' : World) (x : Nat) (v v' : Nat → Value) : Prop where
  gr : GrF w w' (tkF x v)
  sub : ∀ b, tkF x v' b → tkF x v b ∨ w.heap.size ≤ b
theorem TkGo.refl (w : World) (x : Nat) (v : Nat → Value) : TkGo w w x v v := ⟨.refl _ _, fun _ h => .inl h⟩
theorem TkGo.trans {a b c : World} {x : Nat} {u v t : Nat → Value} (h : TkGo a b x u v) (k : TkGo b c x v t) : TkGo a c x u t := by
  refine ⟨⟨k.gr.os.trans h.gr.os, k.gr.tape.trans h.gr.tape, k.gr.output.trans h.gr.output, Nat.le_trans h.gr.size k.gr.size, fun i hi hn => ?_⟩, fun i hi => ?_⟩
  · refine (k.gr.block i (Nat.lt_of_lt_of_le hi h.gr.size) fun hv => ?_).trans (h.gr.block i hi hn)
    rcases h.sub i hv with h | h
    · exact hn h
    · omega
  · rcases k.sub i hi with h1 | h1
    · exact h.sub i h1
    · exact .inr (Nat.le_trans h.gr.size h1)
theorem TkGo.below {w w' V : World} {x : Nat} {v v' : Nat → Value} (h : TkGo w w' x v v') (hb : Below w'.heap.size w' V) : TkGo w V x v v' :=
  ⟨h.gr.trans (GrF.of_below hb _ fun b h1 h2 => by omega), h.sub⟩
theorem TkGo.of_below {w w' V : World} {x : Nat} {v v' : Nat → Value} (hb : Below w.heap.size w V) (h : TkGo V w' x v v') : TkGo w w' x v v' := by
  refine ⟨(GrF.of_below hb _ fun b h1 h2 => by omega).trans h.gr, fun b hb' => ?_⟩
  rcases h.sub b hb' with h | h'
  · exact .inl h
  · exact .inr (Nat.le_trans hb.size h')
section
variable {B : Nat} {w w' V : World} {x : Nat} {t t' : Tk} {rp fv : Value} {v : Nat → Value}
theorem TkI.lt (h : TkI B w x t rp fv v) : x < w.heap.size := (Array.getElem?_eq_some_iff.1 h.blk).1
theorem TkI.foot_lt (h : TkI B w x t rp fv v) {b : Nat} (hb : tkF x v b) : B ≤ b ∧ b < w.heap.size := by
  rcases hb with rfl | ⟨m, hm, hb⟩
  · exact ⟨h.hx, h.lt⟩
  · exact (h.row m hm).lt hb
theorem tkT_ne : (142 : TypeId) ≠ 94 := by decide
theorem TkI.x_ne (h : TkI B w x t rp fv v) {m : Nat} (hm : m < 3) : (v m).ownBlock ≠ some x := by
  intro e
  obtain ⟨cs, hcs⟩ := (h.row m hm).ty e
  rw [h.blk] at hcs
  injection hcs with hcs
  injection hcs with _ hcs
  exact tkT_ne hcs.symm
theorem TkI.keep (h : TkI B w x t rp fv v) (hk : ∀ b, tkF x v b → w'.heap[b]? = w.heap[b]?) : TkI B w' x t rp fv v :=
  ⟨(hk x (.inl rfl)).trans h.blk, h.hx, fun m hm => (h.row m hm).keep fun b hb => hk b (.inr ⟨m, hm, hb⟩), h.apart⟩
theorem TkI.below (h : TkI B w x t rp fv v) (hb : Below w.heap.size w V) : TkI B V x t rp fv v := h.keep fun b hf => hb.block b (h.foot_lt hf).2
theorem TkI.cell (h : TkI B w x t rp fv v) (j : Nat) (u : Value) (hu : (tkCells t rp fv v)[j]? = some u) : w.cell? ⟨x, j, none⟩ = some u := cell_of_blk h.blk hu
/-- t' is t but for a row. -/
structure TkRow (t t' : Tk) (m : Nat) : Prop where
  h1 : t'.sum = t.sum
  h2 : t'.st = t.st
  h3 : t'.si = t.si
  h4 : t'.fi = t.fi
  h5 : t'.bg = t.bg
  hk : ∀ k, k < 3 → k ≠ m → tkRow t' k = tkRow t k
theorem tkCells_row {m : Nat} (hm : m < 3) (u : Value) (hL : TkRow t t' m) : (tkCells t rp fv v).setIfInBounds (m + 1) u = tkCells t' rp fv (updV v m u) := by
  unfold tkCells
  rw [hL.h1, hL.h2, hL.h3, hL.h4, hL.h5]
  match m, hm with
  | 0, _ => simp [updV]
  | 1, _ => simp [updV]
  | 2, _ => simp [updV]
/-- A row is stored anew: it has grown, or is a part of what it was. -/
theorem TkI.app {w1 : World} {m : Nat} {u : Value} (h : TkI B w x t rp fv v) (hm : m < 3) (hL : TkRow t t' m) (hg : w.grownBy w1 (v m).ownBlock) (hsub : ∀ b, u.ownBlock = some b → (v m).ownBlock = some b ∨ w.heap.size ≤ b)
    (ho : OwF w1 B 142 2 u (tkRow t' m).length (recs sqC (tkRow t' m))) : TkI B (w1.setCell ⟨x, m + 1, none⟩ u) x t' rp fv (updV v m u) ∧ TkGo w (w1.setCell ⟨x, m + 1, none⟩ u) x v (updV v m u) := by
  have hx1 : w1.heap[x]? = some (.cells (tkCells t rp fv v) 94 (0, 0)) := (hg.block x h.lt (fun e => h.x_ne hm e.symm)).trans h.blk
  have hnx : ∀ b, u.ownBlock = some b → b ≠ x := fun b hb e => by
    subst e
    obtain ⟨cs, hcs⟩ := ho.ty hb
    rw [hx1] at hcs
    injection hcs with hcs
    injection hcs with _ hcs
    exact tkT_ne hcs.symm
  have hkeep : ∀ k b, k < 3 → k ≠ m → (v k).ownBlock = some b → w1.heap[b]? = w.heap[b]? := fun k b hk hne hb =>
    hg.block b ((h.row k hk).lt hb).2 fun e => h.apart m k hm hk (Ne.symm hne) b e.symm hb
  have hset : ∀ b, b ≠ x → (w1.setCell ⟨x, m + 1, none⟩ u).heap[b]? = w1.heap[b]? := fun b hb => Below.heap_setCell _ _ _ _ hb
  refine ⟨⟨?_, h.hx, fun k hk => ?_, fun k k' hk hk' hne q h1 h2 => ?_⟩, ⟨?_, fun b hb => ?_⟩⟩
  · rw [heap_setCell_blk u hx1, tkCells_row hm u hL]
  · by_cases hkm : k = m
    · subst hkm
      rw [updV_same]
      exact ho.keep fun b hb => hset b (hnx b hb)
    · rw [updV_other _ _ _ _ hkm, hL.hk k hk hkm]
      exact (h.row k hk).keep fun b hb => (hset b fun e => h.x_ne hk (by rw [hb, e])).trans (hkeep k b hk hkm hb)
  · by_cases hkm : k = m
    · subst hkm
      rw [updV_same] at h1
      rw [updV_other _ _ _ _ (Ne.symm hne)] at h2
      rcases hsub q h1 with h1 | h1
      · exact h.apart k k' hk hk' hne q h1 h2
      · have := ((h.row k' hk').lt h2).2
        omega
    · rw [updV_other _ _ _ _ hkm] at h1
      by_cases hkm' : k' = m
      · subst hkm'
        rw [updV_same] at h2
        rcases hsub q h2 with h2 | h2
        · exact h.apart k k' hk hk' hne q h1 h2
        · have := ((h.row k hk).lt h1).2
          omega
      · rw [updV_other _ _ _ _ hkm'] at h2
        exact h.apart k k' hk hk' hne q h1 h2
  · exact (GrF.of_grown hg _ fun b hb => .inr ⟨m, hm, hb⟩).set (.inl rfl) _
  · rcases hb with rfl | ⟨k, hk, hb⟩
    · exact .inl (.inl rfl)
    · by_cases hkm : k = m
      · subst hkm
        rw [updV_same] at hb
        rcases hsub b hb with hb | hb
        · exact .inl (.inr ⟨k, hk, hb⟩)
        · exact .inr hb
      · rw [updV_other _ _ _ _ hkm] at hb
        exact .inl (.inr ⟨k, hk, hb⟩)
/-- A number of the track's block is set. -/
theorem TkI.num {j : Nat} {u : Value} (h : TkI B w x t rp fv v) (hc : tkCells t' rp fv v = (tkCells t rp fv v).setIfInBounds j u) (hk : ∀ k, k < 3 → tkRow t' k = tkRow t k) :
    TkI B (w.setCell ⟨x, j, none⟩ u) x t' rp fv v ∧ TkGo w (w.setCell ⟨x, j, none⟩ u) x v v := by
  have hset : ∀ b, b ≠ x → (w.setCell ⟨x, j, none⟩ u).heap[b]? = w.heap[b]? := fun b hb => Below.heap_setCell _ _ _ _ hb
  refine ⟨⟨?_, h.hx, fun k hk3 => ?_, h.apart⟩, ⟨(GrF.refl _ _).set (.inl rfl) _, fun b hb => .inl hb⟩⟩
  · rw [hc]
    exact heap_setCell_blk u h.blk
  · rw [hk k hk3]
    exact (h.row k hk3).keep fun b hb => hset b fun e => h.x_ne hk3 (by rw [hb, e])
end
/-- A rule in memory. -/
def RuM (w : World) (b : Nat) (r : Ru) : Prop := Cells w b 0 (ruC r)
theorem RuM.cell {w : World} {b : Nat} {r : Ru} (h : RuM w b r) (j : Nat) (u : Value) (hu : (ruC r)[j]? = some u) : w.cell? ⟨b, j, none⟩ = some u := by
  have := h j u hu
  rwa [Nat.zero_add] at this
end Go.Proofs.YtlfphndnkgoinaaGreatDoor
