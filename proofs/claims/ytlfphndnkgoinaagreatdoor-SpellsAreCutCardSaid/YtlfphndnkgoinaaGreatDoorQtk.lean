/- Stages of a region that appends to a row of a track and stores the row there. No program in sight but its types. -/
import Derived.Test.YtlfphndnkgoinaaGreatDoorMg1
import Derived.Test.YtlfphndnkgoinaaGreatDoorTkI
namespace Go.Proofs.YtlfphndnkgoinaaGreatDoor
open Go.RowKit

theorem app_stF {P : Program} {oa : Oper} {a : Act} {w : World} {Q : Value → World → Prop} (s x : Operand) (t : TypeId) (hop : oa.op = Op.call { callee := Callee.builtin Builtin.append, args := #[s, x], argTypes := #[t, t] })
    (base : Nat) (e : TypeId) (i : TypeInfo) (z : Value) (size bytes : Nat) (h1 : P.underlying t = some (.slice e)) (h2 : P.info? e = some i) (h3 : i.zero = some z) (h4 : i.size = size) (h5 : i.bytes = bytes) (h6 : z.cells.size = size) (h7 : 0 < size)
    (v : Value) (n : Nat) (xs : List Value) (hs : a.eval s = v) (hown : OwF w base e size v n xs)
    (ad : Addr) (m c : Nat) (news : List Value) (hx : a.eval x = .slice (some ad) m c) (hn : news.length = m * size) (hc : ∀ j u, news[j]? = some u → w.cell? (ad.add j) = some u) (h1c : ∀ u ∈ news, u.oneCell' = true)
    (b1 : n + m ≤ maxLen) (b2 : (n + m) * bytes ≤ 140737488355328) (hb : base ≤ w.heap.size)
    (hQ : ∀ v' w', OwF w' base e size v' (n + m) (xs ++ news) → w.grownBy w' v.ownBlock → (∀ b, v'.ownBlock = some b → v.ownBlock = some b ∨ w.heap.size ≤ b) → Q v' w') :
    ∃ v' w', (execOp a.eval oa).run P w = .ok (.value v') w' ∧ Q v' w' := by
  obtain ⟨v', w', hrun, r1, r2, r3⟩ := run_append_F (P := P) w base t oa.type e i z size bytes h1 h2 h3 h4 h5 h6 h7 v n xs hown ad m c news hn hc h1c b1 b2 hb
  exact ⟨v', w', by simp [execOp, hop, resolve, invoke, builtin, hs, hx, hrun, Result.andThen], hQ v' w' r1 r2 r3⟩
/-- Stages: ahead of the append, behind it, behind the store. -/
def KTk (B : Nat) (W : World) (x : Nat) (t' : Tk) (rp fv : Value) (v : Nat → Value) (m : Nat) (u : Value) : Nat → World → Prop
  | 0, w => Below W.heap.size W w
  | 1, w => ∃ w0, Below W.heap.size W w0 ∧ w0.grownBy w (v m).ownBlock ∧ (∀ b, u.ownBlock = some b → (v m).ownBlock = some b ∨ w0.heap.size ≤ b) ∧ OwF w B 142 2 u (tkRow t' m).length (recs sqC (tkRow t' m))
  | _, w => TkI B w x t' rp fv (updV v m u) ∧ TkGo W w x v (updV v m u)
section
variable {B : Nat} {W w w' : World} {x : Nat} {t t' : Tk} {rp fv : Value} {v : Nat → Value} {m s : Nat} {u : Value}
theorem KTk.alloc (h : KTk B W x t' rp fv v m u s w) (o : Obj) : KTk B W x t' rp fv v m u s (w.alloc o) := by
  match s, h with
  | 0, h => exact Below.trans h ((Below.refl _ _).alloc (Below.size h) _)
  | 1, h =>
    obtain ⟨w0, h1, h2, h3, h4⟩ := h
    refine ⟨w0, h1, ⟨h2.os, h2.tape, h2.output, by have := h2.size; simp; omega, fun k hk hne => (Below.heap_alloc _ _ _ (by have := h2.size; omega)).trans (h2.block k hk hne)⟩, h3, h4.keep fun b hb => Below.heap_alloc _ _ _ (h4.lt hb).2⟩
  | _ + 2, h =>
    have hb : Below w.heap.size w (w.alloc o) := (Below.refl _ _).alloc (Nat.le_refl _) _
    exact ⟨TkI.below h.1 hb, TkGo.below h.2 hb⟩
theorem KTk.low (h : KTk B W x t' rp fv v m u s w) (hs : s ≤ 0) : Below W.heap.size W w := by
  obtain rfl : s = 0 := by omega
  exact h
theorem KTk.old (hm : m < 3) (h : KTk B W x t' rp fv v m u s w) {b : Nat} (hb : b < W.heap.size) (hn : ¬ tkF x v b) : w.heap[b]? = W.heap[b]? := by
  match s, h with
  | 0, h => exact Below.block h b hb
  | 1, h =>
    obtain ⟨w0, h1, h2, h3, h4⟩ := h
    exact (h2.block b (Nat.lt_of_lt_of_le hb h1.size) (fun e => hn (.inr ⟨m, hm, e.symm⟩))).trans (h1.block b hb)
  | _ + 2, h => exact h.2.gr.block b hb hn
theorem KTk.app (hI : TkI B W x t rp fv v) (hm : m < 3) (h : KTk B W x t' rp fv v m undef 0 w) (ho : OwF w' B 142 2 u (tkRow t' m).length (recs sqC (tkRow t' m))) (hg : w.grownBy w' (v m).ownBlock) (hsub : ∀ b, u.ownBlock = some b → (v m).ownBlock = some b ∨ w.heap.size ≤ b) : KTk B W x t' rp fv v m u 1 w' ∧ GrN W w w' :=
  ⟨⟨w, h, hg, hsub, ho⟩, hg.size, fun b hb hlt => hg.block b hlt (fun e => by have := ((hI.row m hm).lt e.symm).2; omega)⟩
theorem KTk.store (hI : TkI B W x t rp fv v) (hm : m < 3) (hL : TkRow t t' m) (h : KTk B W x t' rp fv v m u 1 w) : KTk B W x t' rp fv v m u 2 (w.setCell ⟨x, m + 1, none⟩ u) ∧ GrN W w (w.setCell ⟨x, m + 1, none⟩ u) := by
  obtain ⟨w0, h1, h2, h3, h4⟩ := h
  have h5 := (hI.below h1).app hm hL h2 h3 h4
  have hsz : (w.setCell ⟨x, m + 1, none⟩ u).heap.size = w.heap.size := by simp [World.setCell]
  have hx := hI.lt
  exact ⟨⟨h5.1, TkGo.of_below h1 h5.2⟩, by rw [hsz]; exact Nat.le_refl _, fun b hb _ => Below.heap_setCell _ _ _ _ (by show b ≠ x; omega)⟩
theorem KTk.blk (hI : TkI B W x t rp fv v) (hm : m < 3) (h : KTk B W x t' rp fv v m u 1 w) : w.heap[x]? = some (.cells (tkCells t rp fv v) 94 (0, 0)) := by
  obtain ⟨w0, h1, h2, h3, h4⟩ := h
  exact (h2.block x (Nat.lt_of_lt_of_le hI.lt h1.size) (fun e => hI.x_ne hm e.symm)).trans ((h1.block x hI.lt).trans hI.blk)
end
end Go.Proofs.YtlfphndnkgoinaaGreatDoor
