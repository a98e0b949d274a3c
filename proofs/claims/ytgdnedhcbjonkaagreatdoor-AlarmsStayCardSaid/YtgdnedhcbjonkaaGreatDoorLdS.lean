/- Ladders in memory: a row of ladders and the rows of their rungs; stages of the regions that add a rung. -/
import Derived.Test.YtgdnedhcbjonkaaGreatDoorMgE
import Derived.Test.YtgdnedhcbjonkaaGreatDoorMgG
namespace Go.Proofs.YtgdnedhcbjonkaaGreatDoor
open Go.RowKit

theorem Tryz.infoLd : (Tryz.prog.info? 59).map (fun i => (i.zero, i.size, i.bytes)) = some (some (.agg #[.string ⟨#[]⟩, .slice none 0 0, .int .i64 0]), 3, 48) := by kernel_rfl
theorem Tryz.infoRg : (Tryz.prog.info? 62).map (fun i => (i.zero, i.size, i.bytes)) = some (some (.agg #[.int .i64 0, .string ⟨#[]⟩]), 2, 24) := by kernel_rfl
def ldV (x : Ld) : Value := .slice x.A x.g.length x.c
/-- The rows of the rungs, each by itself. -/
structure LdI (w : World) (B : Nat) (L : List Ld) : Prop where
  row : ∀ x ∈ L, w.ownsRow B 62 2 (ldV x) x.g.length (recs rgC x.g)
  apart : ∀ (i k : Nat) (a b : Ld), i ≠ k → L[i]? = some a → L[k]? = some b → ∀ q, (ldV a).ownBlock = some q → (ldV b).ownBlock ≠ some q
theorem LdI.nil (w : World) (B : Nat) : LdI w B [] := ⟨by simp, fun i k a b _ h => by simp at h⟩
theorem LdI.keep {w w' : World} {B : Nat} {L : List Ld} (h : LdI w B L) (hk : ∀ x ∈ L, ∀ b, (ldV x).ownBlock = some b → w'.heap[b]? = w.heap[b]?) : LdI w' B L :=
  ⟨fun x hx => own_keptB (h.row x hx) (hk x hx), h.apart⟩
theorem LdI.kept {w w' : World} {B p : Nat} {L : List Ld} (h : LdI w B L) (hg : w.grownBy w' (some p)) (hp : p < B) : LdI w' B L :=
  ⟨fun x hx => own_kept (h.row x hx) hg hp, h.apart⟩
theorem LdI.mono {w : World} {B B' : Nat} {L : List Ld} (h : LdI w B L) (hb : B' ≤ B) : LdI w B' L := ⟨fun x hx => own_mono (h.row x hx) hb, h.apart⟩
theorem LdI.snoc {w : World} {B S : Nat} {L : List Ld} {x : Ld} (h : LdI w B L) (hlt : ∀ y ∈ L, ∀ b, (ldV y).ownBlock = some b → b < S) (hx : w.ownsRow S 62 2 (ldV x) x.g.length (recs rgC x.g)) (hBS : B ≤ S) : LdI w B (L ++ [x]) := by
  refine ⟨fun y hy => ?_, fun i k a b hne ha hb q hq => ?_⟩
  · rw [List.mem_append, List.mem_singleton] at hy
    rcases hy with hy | rfl
    · exact h.row y hy
    · exact own_mono hx hBS
  · have hlo : ∀ q, (ldV x).ownBlock = some q → S ≤ q := fun q hq => (hx.lt q hq).1
    have cas : ∀ (j : Nat) (y : Ld), (L ++ [x])[j]? = some y → (j < L.length ∧ L[j]? = some y) ∨ (j = L.length ∧ y = x) := fun j y hj => by
      have hjl := (List.getElem?_eq_some_iff.1 hj).1
      rw [List.length_append, List.length_singleton] at hjl
      rcases Nat.lt_or_eq_of_le (Nat.le_of_lt_succ hjl) with h1 | h1
      · rw [List.getElem?_append_left h1] at hj
        exact .inl ⟨h1, hj⟩
      · subst h1
        rw [List.getElem?_append_right (Nat.le_refl _)] at hj
        simp at hj
        exact .inr ⟨rfl, hj.symm⟩
    rcases cas i a ha with ⟨_, ha'⟩ | ⟨hi, rfl⟩
    · rcases cas k b hb with ⟨_, hb'⟩ | ⟨_, rfl⟩
      · exact h.apart i k a b hne ha' hb' q hq
      · intro e
        have h1 := hlt a (List.mem_of_getElem? ha') q hq
        have h2 := hlo q e
        omega
    · rcases cas k b hb with ⟨_, hb'⟩ | ⟨hk, rfl⟩
      · intro e
        have h1 := hlt b (List.mem_of_getElem? hb') q e
        have h2 := hlo q hq
        omega
      · omega
def slA : Value → Option Addr
  | .slice A _ _ => A
  | _ => none
def slC : Value → Nat
  | .slice _ _ c => c
  | _ => 0
/-- A ladder with a rung more. -/
def ldU (x : Ld) (u : Value) (y : Int × Nat) : Ld := ⟨x.r, slA u, slC u, x.g ++ [y], x.ev⟩
theorem ldU_V {w : World} {B n : Nat} {e : TypeId} {x : Ld} {u : Value} {y : Int × Nat} {xs : List Value} {s : Nat} (h : w.ownsRow B e s u n xs) (hn : n = x.g.length + 1) : ldV (ldU x u y) = u := by
  obtain ⟨A, c, rfl⟩ := own_slice h
  unfold ldV ldU slA slC
  simp only [List.length_append, List.length_singleton]
  rw [hn]
/-- A rung more in a ladder that lies by itself. -/
structure KRm (W : World) (p kk gx S0 : Nat) (xs : LiA) (r : Nat) (ev : Int) (vb vr : Value) (n : Nat) (G : List (Int × Nat)) (w : World) : Prop where
  blk : w.heap[gx]? = some (.cells #[.string (ruT r), vb, .int .i64 ev] 59 (0, 0))
  row : w.ownsRow S0 62 2 vr n (recs rgC G)
  strm : Strm w p xs kk
  gr : GrF W w (fun b => b = p ∨ b = gx ∨ S0 ≤ b)
section
variable {W w w' : World} {p kk gx S0 : Nat} {xs : LiA} {r : Nat} {ev : Int} {vb vr : Value} {n : Nat} {G : List (Int × Nat)}
theorem KRm.cell1 (h : KRm W p kk gx S0 xs r ev vb vr n G w) : w.cell? ⟨gx, 1, none⟩ = some vb := cell_of_blk (j := 1) h.blk rfl
theorem KRm.lt (h : KRm W p kk gx S0 xs r ev vb vr n G w) : gx < w.heap.size := (Array.getElem?_eq_some_iff.1 h.blk).1
theorem KRm.fro (h : KRm W p kk gx S0 xs r ev vb vr n G w) : w.frozen? ⟨gx, 1, none⟩ = false := by simp [World.frozen?, h.blk]
theorem KRm.alloc (h : KRm W p kk gx S0 xs r ev vb vr n G w) (o : Obj) : KRm W p kk gx S0 xs r ev vb vr n G (w.alloc o) :=
  ⟨(Below.heap_alloc _ _ _ h.lt).trans h.blk, own_belowP h.row ((Below.refl _ _).alloc (Nat.le_refl _) _), h.strm.alloc o, h.gr.trans ⟨rfl, rfl, rfl, by simp, fun b hb _ => Below.heap_alloc _ _ _ hb⟩⟩
theorem KRm.call (h : KRm W p kk gx S0 xs r ev vb vr n G w) (hg : w.grownBy w' (some p)) (hpx : p < gx) (hpS : p < S0) (hpW : p < W.heap.size) {k2 : Nat} (hst : Strm w' p xs k2) : KRm W p k2 gx S0 xs r ev vb vr n G w' ∧ GrN W w w' :=
  ⟨⟨(hg.block gx h.lt (by intro e; injection e with e; omega)).trans h.blk, own_kept h.row hg hpS, hst, h.gr.trans (GrF.of_grown hg _ (fun b e => by injection e with e; exact .inl e.symm))⟩, hg.size, fun b hb hlt => hg.block b hlt (by intro e; injection e with e; omega)⟩
theorem KRm.app {G' : List (Int × Nat)} {u : Value} {m : Nat} (h : KRm W p kk gx S0 xs r ev vb vr n G w) (ho : w'.ownsRow S0 62 2 u m (recs rgC G')) (hg : w.grownBy w' vr.ownBlock) (hpx : p < gx) (hxS : gx < S0) (hvW : ∀ b, vr.ownBlock = some b → b < W.heap.size) : KRm W p kk gx S0 xs r ev vb u m G' w' ∧ GrN W w w' := by
  have hlo : ∀ b, vr.ownBlock = some b → S0 ≤ b := fun b hb => (h.row.lt b hb).1
  refine ⟨⟨(hg.block gx h.lt (fun e => by have := hlo gx e.symm; omega)).trans h.blk, ho, h.strm.row hg (fun b hb => by have := hlo b hb; omega), h.gr.trans (GrF.of_grown hg _ (fun b e => .inr (.inr (hlo b e))))⟩, hg.size, fun b hb hlt => hg.block b hlt (fun e => by have := hvW b e.symm; omega)⟩
theorem KRm.store (h : KRm W p kk gx S0 xs r ev vb vr n G w) (hpx : p < gx) (hxS : gx < S0) (hgxW : gx < W.heap.size) : KRm W p kk gx S0 xs r ev vr vr n G (w.setCell ⟨gx, 1, none⟩ vr) ∧ GrN W w (w.setCell ⟨gx, 1, none⟩ vr) := by
  have hset : ∀ b, b ≠ gx → (w.setCell ⟨gx, 1, none⟩ vr).heap[b]? = w.heap[b]? := fun b hb => Below.heap_setCell _ _ _ _ hb
  have hsz : (w.setCell ⟨gx, 1, none⟩ vr).heap.size = w.heap.size := by simp [World.setCell]
  refine ⟨⟨?_, own_keptB h.row (fun b hb => hset b (by have := (h.row.lt b hb).1; omega)), h.strm.keep fun b hb => hset b (by omega), h.gr.set (.inr (.inl rfl)) vr⟩, by rw [hsz]; exact Nat.le_refl _, fun b hb _ => hset b (by omega)⟩
  rw [heap_setCell_blk vr h.blk]
  rfl
end
def K10 (W : World) (p kk gx S0 : Nat) (xs : LiA) (r : Nat) (ev : Int) (v : Value) (n : Nat) (G : List (Int × Nat)) (y : Int × Nat) (u : Value) : Nat → World → Prop
  | 0, w => KRm W p kk gx S0 xs r ev v v n G w
  | 1, w => KRm W p (kk + 1) gx S0 xs r ev v v n G w
  | 2, w => KRm W p (kk + 1) gx S0 xs r ev v u (n + 1) (G ++ [y]) w
  | _, w => KRm W p (kk + 1) gx S0 xs r ev u u (n + 1) (G ++ [y]) w
theorem K10_alloc {W : World} {p kk gx S0 : Nat} {xs : LiA} {r : Nat} {ev : Int} {v : Value} {n : Nat} {G : List (Int × Nat)} {y : Int × Nat} {u : Value} {s : Nat} {w : World} (h : K10 W p kk gx S0 xs r ev v n G y u s w) (o : Obj) : K10 W p kk gx S0 xs r ev v n G y u s (w.alloc o) := by
  match s, h with
  | 0, h => exact KRm.alloc h o
  | 1, h => exact KRm.alloc h o
  | 2, h => exact KRm.alloc h o
  | _ + 3, h => exact KRm.alloc h o
theorem K10_low {W : World} {p kk gx S0 : Nat} {xs : LiA} {r : Nat} {ev : Int} {v : Value} {n : Nat} {G : List (Int × Nat)} {y : Int × Nat} {u : Value} {s : Nat} {w : World} (h : K10 W p kk gx S0 xs r ev v n G y u s w) (hs : s ≤ 1) : ∃ k2, KRm W p k2 gx S0 xs r ev v v n G w := by
  match s, h, hs with
  | 0, h, _ => exact ⟨_, h⟩
  | 1, h, _ => exact ⟨_, h⟩
/-- A rung more in a ladder of a row. -/
structure KXm (W : World) (p kk B g N cN i : Nat) (xs : LiA) (m : List Ld) (z : Ld) (vo vr : Value) (n : Nat) (G : List (Int × Nat)) (w : World) : Prop where
  own : w.ownsRow B 59 3 (.slice (some ⟨g, 0, none⟩) N cN) N (recs ldC (m.set i z))
  row : w.ownsRow B 62 2 vr n (recs rgC G)
  mv : Moved W vo vr
  strm : Strm w p xs kk
  gr : GrF W w (fun b => b = p ∨ b = g ∨ vo.ownBlock = some b)
section
variable {W w w' : World} {p kk B g N cN i : Nat} {xs : LiA} {m : List Ld} {z : Ld} {vo vr : Value} {n : Nat} {G : List (Int × Nat)}
theorem KXm.cell1 (h : KXm W p kk B g N cN i xs m z vo vr n G w) (hi : i < m.length) : w.cell? ⟨g, i * 3 + 1, none⟩ = some (.slice z.A z.g.length z.c) := by
  have hc := own_cells0 h.own
  have hg : (m.set i z)[i]? = some z := by simp [hi]
  have := rec_cell ldC_len hc i z hg 1 _ rfl
  simpa using this
theorem KXm.blk (h : KXm W p kk B g N cN i xs m z vo vr n G w) : ∃ cs, w.heap[g]? = some (.cells cs 59 (0, 0)) := own_blk h.own
theorem KXm.lt (h : KXm W p kk B g N cN i xs m z vo vr n G w) : g < w.heap.size := by
  obtain ⟨cs, hcs⟩ := h.blk
  exact (Array.getElem?_eq_some_iff.1 hcs).1
theorem KXm.fro (h : KXm W p kk B g N cN i xs m z vo vr n G w) (j : Nat) : w.frozen? ⟨g, j, none⟩ = false := by
  obtain ⟨cs, hcs⟩ := h.blk
  simp [World.frozen?, hcs]
theorem KXm.alloc (h : KXm W p kk B g N cN i xs m z vo vr n G w) (o : Obj) : KXm W p kk B g N cN i xs m z vo vr n G (w.alloc o) :=
  ⟨own_belowP h.own ((Below.refl _ _).alloc (Nat.le_refl _) _), own_belowP h.row ((Below.refl _ _).alloc (Nat.le_refl _) _), h.mv, h.strm.alloc o, h.gr.trans ⟨rfl, rfl, rfl, by simp, fun b hb _ => Below.heap_alloc _ _ _ hb⟩⟩
theorem KXm.call (h : KXm W p kk B g N cN i xs m z vo vr n G w) (hg : w.grownBy w' (some p)) (hp : p < B) (hpW : p < W.heap.size) {k2 : Nat} (hst : Strm w' p xs k2) : KXm W p k2 B g N cN i xs m z vo vr n G w' ∧ GrN W w w' :=
  ⟨⟨own_kept h.own hg hp, own_kept h.row hg hp, h.mv, hst, h.gr.trans (GrF.of_grown hg _ (fun b e => by injection e with e; exact .inl e.symm))⟩, hg.size, fun b hb hlt => hg.block b hlt (by intro e; injection e with e; omega)⟩
theorem KXm.app {G' : List (Int × Nat)} {u : Value} {k : Nat} (h : KXm W p kk B g N cN i xs m z vo vo n G w) (ho : w'.ownsRow B 62 2 u k (recs rgC G')) (hg : w.grownBy w' vo.ownBlock) (hm : Moved w vo u) (hp : p < B) (hvW : ∀ b, vo.ownBlock = some b → b < W.heap.size) : KXm W p kk B g N cN i xs m z vo u k G' w' ∧ GrN W w w' := by
  obtain ⟨cs, hcs⟩ := h.blk
  have hne := own_ne h.row hcs (by decide)
  refine ⟨⟨own_keptB h.own (fun b hb => hg.block b (h.own.lt b hb).2 (fun e => hne (by rw [← e, ← hb]; rfl))), ho, ?_, h.strm.row hg (fun b hb => by have := (h.row.lt b hb).1; omega), h.gr.trans (GrF.of_grown hg _ (fun b e => .inr (.inr e)))⟩, hg.size, fun b hb hlt => hg.block b hlt (fun e => by have := hvW b e.symm; omega)⟩
  rcases hm with hm | ⟨q, h1, h2⟩
  · exact .inl hm
  · exact .inr ⟨q, h1, Nat.le_trans h.gr.size h2⟩
theorem KXm.store {y : Int × Nat} (h : KXm W p kk B g N cN i xs m z vo vr n G w) (hi : i < m.length) (hgW : g < W.heap.size) (hpg : p < g) (hn : n = z.g.length + 1) : KXm W p kk B g N cN i xs m (ldU z vr y) vo vr n G (w.setCell ⟨g, i * 3 + 1, none⟩ vr) ∧ GrN W w (w.setCell ⟨g, i * 3 + 1, none⟩ vr) := by
  obtain ⟨cs, hcs⟩ := h.blk
  have hne := own_ne h.row hcs (by decide)
  have hset : ∀ b, b ≠ g → (w.setCell ⟨g, i * 3 + 1, none⟩ vr).heap[b]? = w.heap[b]? := fun b hb => Below.heap_setCell _ _ _ _ hb
  have hsz : (w.setCell ⟨g, i * 3 + 1, none⟩ vr).heap.size = w.heap.size := by simp [World.setCell]
  have hst := h.own.stored (i * 3 + 1) vr
  have hV := ldU_V (x := z) (y := y) h.row hn
  rw [recs_cell ldC_len m i 1 z (ldU z vr y) vr hi (by omega) (by unfold ldV at hV; unfold ldC; rw [hV]; rfl)] at hst
  exact ⟨⟨hst.1, own_keptB h.row (fun b hb => hset b (fun e => hne (by rw [← e]; exact hb.symm))), h.mv, h.strm.keep fun b hb => hset b (by omega), h.gr.set (.inr (.inl rfl)) vr⟩, by rw [hsz]; exact Nat.le_refl _, fun b hb _ => hset b (by omega)⟩
/-- The ladders behind a rung more. -/
theorem KXm.ladders {x : Ld} {y : Int × Nat} {u : Value} (h : KXm W p kk B g N cN i xs m (ldU x u y) (ldV x) u n (x.g ++ [y]) w) (hI : LdI W B m) (hx : m[i]? = some x) (hn : n = x.g.length + 1) (hp : p < B) (hgb : ∃ cs, W.heap[g]? = some (.cells cs 59 (0, 0))) : LdI w B (m.set i (ldU x u y)) := by
  obtain ⟨cs, hcs⟩ := hgb
  have hV := ldU_V (x := x) (y := y) h.row hn
  have hil := (List.getElem?_eq_some_iff.1 hx).1
  have oth : ∀ (k : Nat) (a : Ld), k ≠ i → m[k]? = some a → w.ownsRow B 62 2 (ldV a) a.g.length (recs rgC a.g) ∧ ∀ b, (ldV a).ownBlock = some b → b < W.heap.size := fun k a hk ha => by
    have hr := hI.row a (List.mem_of_getElem? ha)
    refine ⟨own_keptB hr (fun b hb => h.gr.block b (hr.lt b hb).2 (fun e => ?_)), fun b hb => (hr.lt b hb).2⟩
    rcases e with e | e | e
    · have := (hr.lt b hb).1; omega
    · exact own_ne hr hcs (by decide) (by rw [← e]; exact hb.symm)
    · exact hI.apart k i a x hk ha hx b hb e
  have cas : ∀ (k : Nat) (a : Ld), (m.set i (ldU x u y))[k]? = some a → (k = i ∧ a = ldU x u y) ∨ (k ≠ i ∧ m[k]? = some a) := fun k a hk => by
    by_cases e : k = i
    · subst e
      rw [List.getElem?_set_self hil] at hk
      exact .inl ⟨rfl, (Option.some.inj hk).symm⟩
    · rw [List.getElem?_set_ne (Ne.symm e)] at hk
      exact .inr ⟨e, hk⟩
  refine ⟨fun a ha => ?_, fun j k a b hne ha hb q hq => ?_⟩
  · obtain ⟨k, hk⟩ := List.getElem?_of_mem ha
    rcases cas k a hk with ⟨_, rfl⟩ | ⟨hki, hk'⟩
    · rw [hV]
      have := h.row
      rw [hn] at this
      simpa [ldU] using this
    · exact (oth k a hki hk').1
  · rcases cas j a ha with ⟨hj, rfl⟩ | ⟨hj, ha'⟩
    · rcases cas k b hb with ⟨hk, rfl⟩ | ⟨hk, hb'⟩
      · omega
      · intro e
        rw [hV] at hq
        rcases h.mv with h1 | ⟨g', h1, h2⟩
        · exact hI.apart i k x b (Ne.symm hk) hx hb' q (h1 ▸ hq) e
        · have h3 := (oth k b hk hb').2 q e
          have h4 : g' = q := Option.some.inj (h1.symm.trans hq)
          omega
    · rcases cas k b hb with ⟨hk, rfl⟩ | ⟨hk, hb'⟩
      · intro e
        rw [hV] at e
        rcases h.mv with h1 | ⟨g', h1, h2⟩
        · exact hI.apart j i a x hj ha' hx q hq (h1 ▸ e)
        · have h3 := (oth j a hj ha').2 q hq
          have h4 : g' = q := Option.some.inj (h1.symm.trans e)
          omega
      · exact hI.apart j k a b hne ha' hb' q hq
end
def K19 (W : World) (p kk B g N cN i : Nat) (xs : LiA) (m : List Ld) (x : Ld) (y : Int × Nat) (u : Value) : Nat → World → Prop
  | 0, w => KXm W p kk B g N cN i xs m x (ldV x) (ldV x) x.g.length x.g w
  | 1, w => KXm W p (kk + 2) B g N cN i xs m x (ldV x) (ldV x) x.g.length x.g w
  | 2, w => KXm W p (kk + 3) B g N cN i xs m x (ldV x) (ldV x) x.g.length x.g w
  | 3, w => KXm W p (kk + 3) B g N cN i xs m x (ldV x) u (x.g.length + 1) (x.g ++ [y]) w
  | _, w => KXm W p (kk + 3) B g N cN i xs m (ldU x u y) (ldV x) u (x.g.length + 1) (x.g ++ [y]) w
theorem K19_alloc {W : World} {p kk B g N cN i : Nat} {xs : LiA} {m : List Ld} {x : Ld} {y : Int × Nat} {u : Value} {s : Nat} {w : World} (h : K19 W p kk B g N cN i xs m x y u s w) (o : Obj) : K19 W p kk B g N cN i xs m x y u s (w.alloc o) := by
  match s, h with
  | 0, h => exact KXm.alloc h o
  | 1, h => exact KXm.alloc h o
  | 2, h => exact KXm.alloc h o
  | 3, h => exact KXm.alloc h o
  | _ + 4, h => exact KXm.alloc h o
theorem K19_low {W : World} {p kk B g N cN i : Nat} {xs : LiA} {m : List Ld} {x : Ld} {y : Int × Nat} {u : Value} {s : Nat} {w : World} (h : K19 W p kk B g N cN i xs m x y u s w) (hs : s ≤ 2) : ∃ k2, KXm W p k2 B g N cN i xs m x (ldV x) (ldV x) x.g.length x.g w := by
  match s, h, hs with
  | 0, h, _ => exact ⟨_, h⟩
  | 1, h, _ => exact ⟨_, h⟩
  | 2, h, _ => exact ⟨_, h⟩
def odPkM : List Int := [-1, 2592000001, 0, 2592000000, -1099511627776, 1099511627776]
def oddM (xs : LiA) (k : Nat) : Int := if nextV xs k 12 = 0 then odPkM.getD (nextN xs (k + 1) 6) 0 else nextV xs (k + 1) 2592000001
theorem odPkM_range (j : Nat) (h : j < 6) : -1099511627776 ≤ odPkM.getD j 0 ∧ odPkM.getD j 0 ≤ 1099511627776 := by
  have : j = 0 ∨ j = 1 ∨ j = 2 ∨ j = 3 ∨ j = 4 ∨ j = 5 := by omega
  rcases this with h | h | h | h | h | h <;> subst h <;> decide
theorem oddM_range (xs : LiA) (k : Nat) : -1099511627776 ≤ oddM xs k ∧ oddM xs k ≤ 1099511627776 := by
  unfold oddM
  split
  · exact odPkM_range _ (nextN_lt _ _ _ (by omega))
  · have := nextV_range xs (k + 1) 2592000001 (by omega)
    omega
theorem oddM_any (w : World) (p k : Nat) (xs : LiA) (hk : k < 900000) (hs : Strm w p xs k) :
    Calls Tryz.prog 30 #[.pointer (some ⟨p, 0, none⟩), .int .i64 0, .int .i64 2592000000] w fun e w' => e = .returned (.int .i64 (oddM xs k)) ∧ Strm w' p xs (k + 2) ∧ w.grownBy w' (some p) := by
  have hplt := hs.lt
  have HS := Lib.hid hs
  clear hs
  obtain ⟨r, er⟩ : ∃ r, r = oddM xs k := ⟨_, rfl⟩
  rw [← er]
  unfold oddM at er
  go_enter Tryz.func30, Tryz.ntmps30
  go_wp2_with (fail)
  refine (flipD_any w p k xs 12 (by omega) (by omega) (by omega) HS.out).mono ?_
  rintro e w1 ⟨rfl, hst1, hg1⟩
  have HST1 := Lib.hid hst1
  have HG1 := Lib.hid hg1
  have hs1 := hg1.size
  clear hst1 hg1
  by_cases h0 : nextV xs k 12 = 0
  · rw [if_pos h0] at er
    rw [decide_eq_true h0]
    have ER := Lib.hid er
    clear h0 er
    go_wp2_with (fail)
    refine (pick_any _ p (k + 1) _ 6 6 xs odPkM (by omega) rfl (by omega) (by omega) (HST1.out.alloc _) (by omega) (Cells.new _ _ _ _ _ rfl)).mono ?_
    rintro e w2 ⟨rfl, hst2, hg2⟩
    have HF := Lib.hid (And.intro hst2 (grown_trans HG1.out (grown_of_alloc hg2)))
    clear hst2 hg2
    go_wp2_with (fail)
    go_ret
    exact ⟨by rw [ER.out]; rfl, HF.out.1, HF.out.2⟩
  · rw [if_neg h0] at er
    rw [decide_eq_false h0]
    have ER := Lib.hid er
    clear h0 er
    go_wp2_with (fail)
    refine (range_any w1 p (k + 1) xs 0 2592000000 (by omega) (by omega) (by omega) (by omega) (by omega) HST1.out).mono ?_
    rintro e w2 ⟨rfl, hst2, hg2⟩
    have HF := Lib.hid (And.intro hst2 (grown_trans HG1.out hg2))
    clear hst2 hg2
    go_wp2_with (fail)
    go_ret
    exact ⟨by rw [ER.out]; rfl, HF.out.1, HF.out.2⟩
end Go.Proofs.YtgdnedhcbjonkaaGreatDoor
