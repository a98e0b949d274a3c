/- Several texts in one: AlL, AlP, Del, AlT, AlF, Qt, Qtt, Qm, AlG, AlH, AlI. -/
import Derived.Test.YtgdnedhcbjonkaaGreatDoorMgA
import Derived.Lib.SliceRun
import Derived.Deep.RegionLaw
import Derived.Laws.EntriesVeiled
import Derived.BigRegion
import Derived.Deep.RegionLawGrows
import Derived.Deep.QuietTactic
import Derived.BigQuiet
import Derived.StillTail

/- An alarm's life as data and in memory: a block of eleven cells and six rows of its own; no program in sight but its types. -/
namespace Go.Proofs.YtgdnedhcbjonkaaGreatDoor
open Go.RowKit

structure Lf where
  d : Nat
  r : Nat
  st : Int
  si : Int
  ra : List Int
  sh : Int
  up : List (Int × Int)
  fr : List (Int × Int)
  as_ : List (Int × Int)
  ak : List Int
  wt : List Int
def aldT : Nat → ByteArray
  | 0 => ⟨#[100, 97]⟩
  | 1 => ⟨#[100, 98]⟩
  | _ => ⟨#[100, 103]⟩
def alrT : Nat → ByteArray
  | 0 => ⟨#[114, 97]⟩
  | _ => ⟨#[114, 98]⟩
def alI (l : List Int) : List Value := l.map (Value.int .i64)
def alW (x : Int × Int) : List Value := [.int .i64 x.1, .int .i64 x.2]
/-- The life's rows: which type, how wide, how long, what is in them. -/
def rTy : Nat → TypeId
  | 0 => 3
  | 1 => 55
  | 2 => 55
  | 3 => 55
  | _ => 3
def rSz : Nat → Nat
  | 0 => 1
  | 1 => 2
  | 2 => 2
  | 3 => 2
  | _ => 1
def rowN (L : Lf) : Nat → Nat
  | 0 => L.ra.length
  | 1 => L.up.length
  | 2 => L.fr.length
  | 3 => L.as_.length
  | 4 => L.ak.length
  | _ => L.wt.length
def rowC (L : Lf) : Nat → List Value
  | 0 => alI L.ra
  | 1 => recs alW L.up
  | 2 => recs alW L.fr
  | 3 => recs alW L.as_
  | 4 => alI L.ak
  | _ => alI L.wt
/-- The cell of the life's block that has a row. -/
def rCol : Nat → Nat
  | 0 => 4
  | 1 => 6
  | 2 => 7
  | 3 => 8
  | 4 => 9
  | _ => 10
def lfCells (L : Lf) (v : Nat → Value) : Array Value := #[.string (aldT L.d), .string (alrT L.r), .int .i64 L.st, .int .i64 L.si, v 0, .int .i64 L.sh, v 1, v 2, v 3, v 4, v 5]
def updV (v : Nat → Value) (m : Nat) (u : Value) : Nat → Value := fun k => if k = m then u else v k
theorem updV_same (v : Nat → Value) (m : Nat) (u : Value) : updV v m u m = u := by simp [updV]
theorem updV_other (v : Nat → Value) (m : Nat) (u : Value) (k : Nat) (h : k ≠ m) : updV v m u k = v k := by simp [updV, h]
structure LfI (w : World) (x : Nat) (L : Lf) (v : Nat → Value) : Prop where
  blk : w.heap[x]? = some (.cells (lfCells L v) 145 (0, 0))
  row : ∀ m, m < 6 → w.ownsRow 0 (rTy m) (rSz m) (v m) (rowN L m) (rowC L m)
  apart : ∀ m m', m < 6 → m' < 6 → m ≠ m' → ∀ q, (v m).ownBlock = some q → (v m').ownBlock ≠ some q
/-- The blocks of a life. -/
def lfFoot (x : Nat) (v : Nat → Value) (b : Nat) : Prop := b = x ∨ ∃ m, m < 6 ∧ (v m).ownBlock = some b
/-- What has grown but for some blocks. -/
structure GrF (w w' : World) (p : Nat → Prop) : Prop where
  os : w'.os = w.os
  tape : w'.tape = w.tape
  output : w'.output = w.output
  size : w.heap.size ≤ w'.heap.size
  block : ∀ b, b < w.heap.size → ¬ p b → w'.heap[b]? = w.heap[b]?
theorem GrF.refl (w : World) (p : Nat → Prop) : GrF w w p := ⟨rfl, rfl, rfl, Nat.le_refl _, fun _ _ _ => rfl⟩
theorem GrF.mono {w w' : World} {p q : Nat → Prop} (h : GrF w w' p) (hpq : ∀ b, b < w.heap.size → p b → q b) : GrF w w' q := ⟨h.os, h.tape, h.output, h.size, fun b hb hq => h.block b hb (fun hp => hq (hpq b hb hp))⟩
theorem GrF.trans {a b c : World} {p : Nat → Prop} (h : GrF a b p) (k : GrF b c p) : GrF a c p :=
  ⟨k.os.trans h.os, k.tape.trans h.tape, k.output.trans h.output, Nat.le_trans h.size k.size, fun i hi hp => (k.block i (Nat.lt_of_lt_of_le hi h.size) hp).trans (h.block i hi hp)⟩
theorem GrF.of_below {w w' : World} {B : Nat} (h : Below B w w') (p : Nat → Prop) (hp : ∀ b, B ≤ b → b < w.heap.size → p b) : GrF w w' p :=
  ⟨h.os, h.tape, h.output, h.size, fun b hb hn => h.block b (Nat.lt_of_not_le fun hB => hn (hp b hB hb))⟩
theorem GrF.of_grown {w w' : World} {row : Option Nat} (h : w.grownBy w' row) (p : Nat → Prop) (hp : ∀ b, row = some b → p b) : GrF w w' p :=
  ⟨h.os, h.tape, h.output, h.size, fun b hb hn => h.block b hb (fun e => hn (hp b e.symm))⟩
theorem GrF.set {w w' : World} {p : Nat → Prop} (h : GrF w w' p) {a : Addr} (ha : p a.block) (u : Value) : GrF w (w'.setCell a u) p :=
  ⟨h.os, h.tape, h.output, by simpa [World.setCell] using h.size, fun b hb hn => (Below.heap_setCell _ _ _ _ (fun e => hn (by rw [e]; exact ha))).trans (h.block b hb hn)⟩
theorem GrF.below {w w' : World} {p : Nat → Prop} {B : Nat} (h : GrF w w' p) (hp : ∀ b, b < w.heap.size → p b → B ≤ b) (hB : B ≤ w.heap.size) : Below B w w' :=
  ⟨h.os, h.tape, h.output, h.size, fun b hb => h.block b (by omega) (fun hpb => by have := hp b (by omega) hpb; omega)⟩
theorem LfI.lt {w : World} {x : Nat} {L : Lf} {v : Nat → Value} (h : LfI w x L v) : x < w.heap.size := (Array.getElem?_eq_some_iff.1 h.blk).1
theorem own_block_lt {w : World} {base size n : Nat} {e : TypeId} {v : Value} {xs : List Value} (h : w.ownsRow base e size v n xs) {b : Nat} (hb : v.ownBlock = some b) : b < w.heap.size := (h.lt b hb).2
theorem LfI.foot_lt {w : World} {x : Nat} {L : Lf} {v : Nat → Value} (h : LfI w x L v) {b : Nat} (hb : lfFoot x v b) : b < w.heap.size := by
  rcases hb with rfl | ⟨m, hm, hb⟩
  · exact h.lt
  · exact own_block_lt (h.row m hm) hb
theorem rTy_ne (m : Nat) : rTy m ≠ 145 := by
  match m with
  | 0 => decide
  | 1 => decide
  | 2 => decide
  | 3 => decide
  | _ + 4 => exact (by decide : (3 : TypeId) ≠ 145)
theorem LfI.x_ne {w : World} {x : Nat} {L : Lf} {v : Nat → Value} (h : LfI w x L v) {m : Nat} (hm : m < 6) : some x ≠ (v m).ownBlock := own_ne (h.row m hm) h.blk (rTy_ne m)
theorem own_keptB {w w' : World} {base : Nat} {e : TypeId} {size n : Nat} {v : Value} {xs : List Value} (h : w.ownsRow base e size v n xs) (hk : ∀ b, v.ownBlock = some b → w'.heap[b]? = w.heap[b]?) : w'.ownsRow base e size v n xs := by
  refine ⟨h.1, ?_⟩
  rcases h.2 with h | ⟨g, cap, cur, hv, hb, hh, r⟩
  · exact .inl h
  · exact .inr ⟨g, cap, cur, hv, hb, (hk g (by rw [hv]; rfl)).trans hh, r⟩
theorem LfI.keep {w w' : World} {x : Nat} {L : Lf} {v : Nat → Value} (h : LfI w x L v) (hk : ∀ b, lfFoot x v b → w'.heap[b]? = w.heap[b]?) : LfI w' x L v :=
  ⟨(hk x (.inl rfl)).trans h.blk, fun m hm => own_keptB (h.row m hm) fun b hb => hk b (.inr ⟨m, hm, hb⟩), h.apart⟩
theorem LfI.gr {w w' : World} {x : Nat} {L : Lf} {v : Nat → Value} {p : Nat → Prop} (h : LfI w x L v) (hg : GrF w w' p) (hd : ∀ b, lfFoot x v b → ¬ p b) : LfI w' x L v :=
  h.keep fun b hb => hg.block b (h.foot_lt hb) (hd b hb)
/-- A life's memory goes on: other blocks stay, and what is new was not there. -/
structure LfGo (w w' : World) (x : Nat) (v v' : Nat → Value) : Prop where
  gr : GrF w w' (lfFoot x v)
  sub : ∀ b, lfFoot x v' b → lfFoot x v b ∨ w.heap.size ≤ b
theorem LfGo.refl (w : World) (x : Nat) (v : Nat → Value) : LfGo w w x v v := ⟨.refl _ _, fun _ h => .inl h⟩
theorem LfGo.trans {a b c : World} {x : Nat} {u v t : Nat → Value} (h : LfGo a b x u v) (k : LfGo b c x v t) : LfGo a c x u t := by
  refine ⟨⟨k.gr.os.trans h.gr.os, k.gr.tape.trans h.gr.tape, k.gr.output.trans h.gr.output, Nat.le_trans h.gr.size k.gr.size, fun i hi hn => ?_⟩, fun i hi => ?_⟩
  · refine (k.gr.block i (Nat.lt_of_lt_of_le hi h.gr.size) fun hv => ?_).trans (h.gr.block i hi hn)
    rcases h.sub i hv with h | h
    · exact hn h
    · omega
  · rcases k.sub i hi with h1 | h1
    · exact h.sub i h1
    · exact .inr (Nat.le_trans h.gr.size h1)
theorem LfGo.below {w w' V : World} {x : Nat} {v v' : Nat → Value} (h : LfGo w w' x v v') (hb : Below w'.heap.size w' V) : LfGo w V x v v' :=
  ⟨h.gr.trans (GrF.of_below hb _ fun b h1 h2 => by omega), h.sub⟩
theorem LfGo.of_below {w w' V : World} {x : Nat} {v v' : Nat → Value} (hb : Below w.heap.size w V) (h : LfGo V w' x v v') : LfGo w w' x v v' := by
  refine ⟨(GrF.of_below hb _ fun b h1 h2 => by omega).trans h.gr, fun b hb' => ?_⟩
  rcases h.sub b hb' with h | h'
  · exact .inl h
  · exact .inr (Nat.le_trans hb.size h')
theorem LfI.below {w V : World} {x : Nat} {L : Lf} {v : Nat → Value} (h : LfI w x L v) (hb : Below w.heap.size w V) : LfI V x L v := h.keep fun b hf => hb.block b (h.foot_lt hf)
theorem heap_setCell_blk {w : World} {g j : Nat} {cs : Array Value} {t : TypeId} {f : Nat × Nat} (v : Value) (h : w.heap[g]? = some (.cells cs t f)) : (w.setCell ⟨g, j, none⟩ v).heap[g]? = some (.cells (cs.setIfInBounds j v) t f) := by
  simp [World.setCell, Array.getElem?_modify, h]
theorem lfCells_row {L L' : Lf} {v : Nat → Value} {m : Nat} (hm : m < 6) (u : Value) (h1 : L'.d = L.d) (h2 : L'.r = L.r) (h3 : L'.st = L.st) (h4 : L'.si = L.si) (h5 : L'.sh = L.sh) : (lfCells L v).setIfInBounds (rCol m) u = lfCells L' (updV v m u) := by
  unfold lfCells
  rw [h1, h2, h3, h4, h5]
  match m, hm with
  | 0, _ => simp [rCol, updV]
  | 1, _ => simp [rCol, updV]
  | 2, _ => simp [rCol, updV]
  | 3, _ => simp [rCol, updV]
  | 4, _ => simp [rCol, updV]
  | 5, _ => simp [rCol, updV]
/-- L' is L but for row m. -/
structure RowOf (L L' : Lf) (m : Nat) : Prop where
  h1 : L'.d = L.d
  h2 : L'.r = L.r
  h3 : L'.st = L.st
  h4 : L'.si = L.si
  h5 : L'.sh = L.sh
  hk : ∀ k, k < 6 → k ≠ m → rowN L' k = rowN L k ∧ rowC L' k = rowC L k
theorem LfI.app {w w1 : World} {x : Nat} {L L' : Lf} {v : Nat → Value} {m : Nat} {v' : Value} (h : LfI w x L v) (hm : m < 6) (hL : RowOf L L' m) (hg : w.grownBy w1 (v m).ownBlock) (hmv : Moved w (v m) v')
    (ho : w1.ownsRow 0 (rTy m) (rSz m) v' (rowN L' m) (rowC L' m)) : LfI (w1.setCell ⟨x, rCol m, none⟩ v') x L' (updV v m v') ∧ LfGo w (w1.setCell ⟨x, rCol m, none⟩ v') x v (updV v m v') := by
  have hx1 : w1.heap[x]? = some (.cells (lfCells L v) 145 (0, 0)) := (hg.block x h.lt (h.x_ne hm)).trans h.blk
  have hnx : ∀ b, v'.ownBlock = some b → b ≠ x := fun b hb e => own_ne ho hx1 (rTy_ne m) (by rw [hb, e])
  have hsub : ∀ b, v'.ownBlock = some b → (v m).ownBlock = some b ∨ w.heap.size ≤ b := fun b hb => by
    rcases hmv with e | ⟨g, h1, h2⟩
    · exact .inl (e ▸ hb)
    · rw [h1] at hb
      injection hb with hb
      exact .inr (hb ▸ h2)
  have hkeep : ∀ k b, k < 6 → k ≠ m → (v k).ownBlock = some b → w1.heap[b]? = w.heap[b]? := fun k b hk hne hb =>
    hg.block b (own_block_lt (h.row k hk) hb) fun e => h.apart m k hm hk (Ne.symm hne) b e.symm hb
  have hset : ∀ b, b ≠ x → (w1.setCell ⟨x, rCol m, none⟩ v').heap[b]? = w1.heap[b]? := fun b hb => Below.heap_setCell _ _ _ _ hb
  refine ⟨⟨?_, fun k hk => ?_, fun k k' hk hk' hne q h1 h2 => ?_⟩, ⟨?_, fun b hb => ?_⟩⟩
  · rw [heap_setCell_blk v' hx1, lfCells_row hm v' hL.h1 hL.h2 hL.h3 hL.h4 hL.h5]
  · by_cases hkm : k = m
    · subst hkm
      rw [updV_same]
      exact own_keptB ho fun b hb => hset b (hnx b hb)
    · rw [updV_other _ _ _ _ hkm, (hL.hk k hk hkm).1, (hL.hk k hk hkm).2]
      refine own_keptB (h.row k hk) fun b hb => (hset b fun e => h.x_ne hk (by rw [hb, e])).trans (hkeep k b hk hkm hb)
  · by_cases hkm : k = m
    · subst hkm
      rw [updV_same] at h1
      rw [updV_other _ _ _ _ (Ne.symm hne)] at h2
      rcases hsub q h1 with h1 | h1
      · exact h.apart k k' hk hk' hne q h1 h2
      · have := own_block_lt (h.row k' hk') h2
        omega
    · rw [updV_other _ _ _ _ hkm] at h1
      by_cases hkm' : k' = m
      · subst hkm'
        rw [updV_same] at h2
        rcases hsub q h2 with h2 | h2
        · exact h.apart k k' hk hk' hne q h1 h2
        · have := own_block_lt (h.row k hk) h1
          omega
      · rw [updV_other _ _ _ _ hkm'] at h2
        exact h.apart k k' hk hk' hne q h1 h2
  · exact (GrF.of_grown hg _ fun b hb => .inr ⟨m, hm, hb⟩).set (.inl rfl) _
  · rcases hb with rfl | ⟨k, hk, hb⟩
    · exact .inl (.inl rfl)
    · by_cases hkm : k = m
      · subst hkm
        rw [updV_same] at hb
        rcases hsub b hb with hb | hb
        · exact .inl (.inr ⟨k, hk, hb⟩)
        · exact .inr hb
      · rw [updV_other _ _ _ _ hkm] at hb
        exact .inl (.inr ⟨k, hk, hb⟩)
/-- A store into a row's cell. -/
theorem LfI.put {w : World} {x : Nat} {L L' : Lf} {v : Nat → Value} {m g n c o : Nat} {u : Value} (h : LfI w x L v) (hm : m < 6) (hL : RowOf L L' m) (hv : v m = .slice (some ⟨g, 0, none⟩) n c) (hn : rowN L m = n) (hn' : rowN L' m = n)
    (hc : rowC L' m = (rowC L m).set o u) : LfI (w.setCell ⟨g, o, none⟩ u) x L' v ∧ LfGo w (w.setCell ⟨g, o, none⟩ u) x v v := by
  have hr := h.row m hm
  have hob : (v m).ownBlock = some g := by rw [hv]; rfl
  have hxg : x ≠ g := fun e => h.x_ne hm (by rw [hob, e])
  have hset : ∀ b, b ≠ g → (w.setCell ⟨g, o, none⟩ u).heap[b]? = w.heap[b]? := fun b hb => Below.heap_setCell _ _ _ _ hb
  have hcs : lfCells L' v = lfCells L v := by unfold lfCells; rw [hL.h1, hL.h2, hL.h3, hL.h4, hL.h5]
  refine ⟨⟨?_, fun k hk => ?_, h.apart⟩, ⟨(GrF.refl _ _).set (.inr ⟨m, hm, hob⟩) _, fun b hb => .inl hb⟩⟩
  · rw [hset x hxg, hcs]
    exact h.blk
  · by_cases hkm : k = m
    · subst hkm
      rw [hv, hn'] at *
      rw [hn] at hr
      rw [hc]
      exact (hr.stored o u).1
    · rw [(hL.hk k hk hkm).1, (hL.hk k hk hkm).2]
      exact own_keptB (h.row k hk) fun b hb => hset b fun e => h.apart m k hm hk (Ne.symm hkm) g hob (by rw [hb, e])
/-- A number of the life's block is set: j is 2 (the state), 3 (since when) or 5 (shelved). -/
theorem LfI.num {w : World} {x j : Nat} {L L' : Lf} {v : Nat → Value} {u : Value} (h : LfI w x L v) (hc : lfCells L' v = (lfCells L v).setIfInBounds j u) (hk : ∀ k, k < 6 → rowN L' k = rowN L k ∧ rowC L' k = rowC L k) :
    LfI (w.setCell ⟨x, j, none⟩ u) x L' v ∧ LfGo w (w.setCell ⟨x, j, none⟩ u) x v v := by
  have hset : ∀ b, b ≠ x → (w.setCell ⟨x, j, none⟩ u).heap[b]? = w.heap[b]? := fun b hb => Below.heap_setCell _ _ _ _ hb
  refine ⟨⟨?_, fun k hk6 => ?_, h.apart⟩, ⟨(GrF.refl _ _).set (.inl rfl) _, fun b hb => .inl hb⟩⟩
  · rw [hc]
    exact heap_setCell_blk u h.blk
  · rw [(hk k hk6).1, (hk k hk6).2]
    exact own_keptB (h.row k hk6) fun b hb => hset b fun e => h.x_ne hk6 (by rw [hb, e])
end Go.Proofs.YtgdnedhcbjonkaaGreatDoor

/- What happens to an alarm: plain law; no program in sight. -/
namespace Go.Proofs.YtgdnedhcbjonkaaGreatDoor
open Go.RowKit

/-- A signal. -/
structure Sg where
  at_ : Int
  kd : Int
  d : Nat
  r : Nat
  b : Nat
  un : Int
def alwT : Nat → ByteArray
  | 0 => ⟨#[]⟩
  | 1 => ⟨#[97, 110, 110]⟩
  | 2 => ⟨#[98, 111, 98]⟩
  | _ => ⟨#[65]⟩
def sgC (s : Sg) : List Value := [.int .i64 s.at_, .int .i64 s.kd, .string (aldT s.d), .string (alrT s.r), .string (alwT s.b), .int .i64 s.un]
theorem sgC_len (s : Sg) : (sgC s).length = 6 := rfl
theorem sgC_one (s : Sg) : ∀ u ∈ sgC s, u.oneCell' = true := by
  intro u hu
  simp only [sgC, List.mem_cons, List.not_mem_nil, or_false] at hu
  rcases hu with rfl | rfl | rfl | rfl | rfl | rfl <;> rfl
def alEnd : Int := 345686400000
def setLast (l : List (Int × Int)) (t : Int) : List (Int × Int) := l.dropLast ++ [((l.getLastD (0, 0)).1, t)]
theorem snoc_of_ne {α : Type} {l : List α} (h : l ≠ []) : ∃ a x, l = a ++ [x] := ⟨l.dropLast, l.getLast h, (List.dropLast_concat_getLast h).symm⟩
theorem setLast_snoc (a : List (Int × Int)) (x : Int × Int) (t : Int) : setLast (a ++ [x]) t = a ++ [(x.1, t)] := by simp [setLast]
theorem setLast_len (l : List (Int × Int)) (t : Int) (h : l ≠ []) : (setLast l t).length = l.length := by
  obtain ⟨a, x, rfl⟩ := snoc_of_ne h
  rw [setLast_snoc]
  simp
theorem alW_len (x : Int × Int) : (alW x).length = 2 := rfl
theorem recs_setLast (l : List (Int × Int)) (t : Int) (h : l ≠ []) : recs alW (setLast l t) = (recs alW l).set ((l.length - 1) * 2 + 1) (.int .i64 t) := by
  obtain ⟨a, x, rfl⟩ := snoc_of_ne h
  rw [setLast_snoc, recs_snoc, recs_snoc]
  have hl : (recs alW a).length = a.length * 2 := recs_length alW_len a
  rw [show (a ++ [x]).length - 1 = a.length by simp, List.set_append_right _ _ (by omega), hl, show a.length * 2 + 1 - a.length * 2 = 1 by omega]
  rfl
def upL (L : Lf) (t : Int) : Lf := { L with fr := L.fr ++ [(t, alEnd)], up := L.up ++ [(t, alEnd)], st := 1, si := t }
def clA (L : Lf) (t : Int) : Lf := { L with fr := setLast L.fr t, up := setLast L.up t, st := 3, si := t }
def clK (L : Lf) (t : Int) : Lf := { L with up := setLast L.up t, st := 0, si := t }
def akR (L : Lf) (t : Int) : Lf := { L with st := 0, si := t }
def akA (L : Lf) (t : Int) : Lf := { L with fr := setLast L.fr t, st := 2, si := t }
/-- An ack that is followed. -/
def akd (L : Lf) (t : Int) (M : Lf) : Lf := { M with ak := L.ak ++ [t], wt := L.wt ++ [t - L.ra.getLastD 0] }
/-- A life behind a signal, and why it is refused (0: it is followed). -/
def followL (L : Lf) (s : Sg) : Lf × Int :=
  if s.kd = 1 then (if L.st = 1 ∨ L.st = 2 then (L, 6) else ({ upL L s.at_ with ra := L.ra ++ [s.at_] }, 0))
  else if s.kd = 2 then (if L.st = 1 then (clA L s.at_, 0) else if L.st = 2 then (clK L s.at_, 0) else (L, 11))
  else if s.kd = 3 then (if L.st = 3 then (akd L s.at_ (akR L s.at_), 0) else if L.st = 1 then (akd L s.at_ (akA L s.at_), 0) else (L, 11))
  else if s.kd = 4 then (if s.at_ < L.sh then (L, 11) else ({ L with sh := s.un, as_ := L.as_ ++ [(s.at_, s.un)] }, 0))
  else (if L.sh ≤ s.at_ then (L, 11) else ({ L with sh := s.at_, as_ := setLast L.as_ s.at_ }, 0))
/-- What holds of a life behind k signals. -/
structure LfOk (L : Lf) (k : Nat) : Prop where
  st : L.st = 0 ∨ L.st = 1 ∨ L.st = 2 ∨ L.st = 3
  fr : L.st = 1 → L.fr ≠ []
  up : L.st = 1 ∨ L.st = 2 → L.up ≠ []
  ra : L.st ≠ 0 → L.ra ≠ []
  as_ : 0 < L.sh → L.as_ ≠ []
  rng : ∀ t ∈ L.ra, 0 ≤ t ∧ t < alEnd
  len : ∀ m, m < 6 → rowN L m ≤ k
def newL (d r : Nat) : Lf := ⟨d, r, 0, 0, [], 0, [], [], [], [], []⟩
theorem newL_ok (d r : Nat) : LfOk (newL d r) 0 := by
  refine ⟨.inl rfl, (by intro h; cases h), (by intro h; rcases h with h | h <;> cases h), fun h => absurd rfl h, (by intro h; cases h), (by intro t h; cases h), ?_⟩
  intro m hm
  match m, hm with
  | 0, _ => exact Nat.le_refl _
  | 1, _ => exact Nat.le_refl _
  | 2, _ => exact Nat.le_refl _
  | 3, _ => exact Nat.le_refl _
  | 4, _ => exact Nat.le_refl _
  | 5, _ => exact Nat.le_refl _
theorem six_le {L : Lf} {k : Nat} (h0 : L.ra.length ≤ k) (h1 : L.up.length ≤ k) (h2 : L.fr.length ≤ k) (h3 : L.as_.length ≤ k) (h4 : L.ak.length ≤ k) (h5 : L.wt.length ≤ k) : ∀ m, m < 6 → rowN L m ≤ k := by
  intro m hm
  match m, hm with
  | 0, _ => exact h0
  | 1, _ => exact h1
  | 2, _ => exact h2
  | 3, _ => exact h3
  | 4, _ => exact h4
  | 5, _ => exact h5
theorem LfOk.mono {L : Lf} {k k' : Nat} (h : LfOk L k) (hk : k ≤ k') : LfOk L k' := ⟨h.st, h.fr, h.up, h.ra, h.as_, h.rng, fun m hm => Nat.le_trans (h.len m hm) hk⟩
theorem setLast_ne (l : List (Int × Int)) (t : Int) : setLast l t ≠ [] := by simp [setLast]
theorem follow_ok {L : Lf} {k : Nat} {s : Sg} (h : LfOk L k) (h1 : 0 ≤ s.at_) (h2 : s.at_ < alEnd) : LfOk (followL L s).1 (k + 1) := by
  have l0 : L.ra.length ≤ k := h.len 0 (by omega)
  have l1 : L.up.length ≤ k := h.len 1 (by omega)
  have l2 : L.fr.length ≤ k := h.len 2 (by omega)
  have l3 : L.as_.length ≤ k := h.len 3 (by omega)
  have l4 : L.ak.length ≤ k := h.len 4 (by omega)
  have l5 : L.wt.length ≤ k := h.len 5 (by omega)
  have hst := h.st
  have same : LfOk L (k + 1) := h.mono (by omega)
  unfold followL
  split
  · split
    · exact same
    · refine ⟨.inr (.inl rfl), by intro _; simp [upL], by intro _; simp [upL], by intro _; simp, h.as_, ?_, ?_⟩
      · intro t ht
        simp only [List.mem_append, List.mem_singleton] at ht
        rcases ht with ht | rfl
        · exact h.rng t ht
        · exact ⟨h1, h2⟩
      · exact six_le (by simp; omega) (by simp [upL]; omega) (by simp [upL]; omega) (by simp [upL]; omega) (by simp [upL]; omega) (by simp [upL]; omega)
  · split
    · split
      · rename_i _ _ hs
        have e1 := setLast_len L.fr s.at_ (h.fr hs)
        have e2 := setLast_len L.up s.at_ (h.up (.inl hs))
        exact ⟨.inr (.inr (.inr rfl)), by intro h; simp [clA] at h, by intro h; simp [clA] at h, fun _ => h.ra (by omega), h.as_, h.rng, six_le (by simp [clA]; omega) (by simp [clA]; omega) (by simp [clA]; omega) (by simp [clA]; omega) (by simp [clA]; omega) (by simp [clA]; omega)⟩
      · split
        · rename_i _ _ _ hs
          have e2 := setLast_len L.up s.at_ (h.up (.inr hs))
          exact ⟨.inl rfl, by intro h; simp [clK] at h, by intro h; simp [clK] at h, by intro h; simp [clK] at h, h.as_, h.rng, six_le (by simp [clK]; omega) (by simp [clK]; omega) (by simp [clK]; omega) (by simp [clK]; omega) (by simp [clK]; omega) (by simp [clK]; omega)⟩
        · exact same
    · split
      · split
        · exact ⟨.inl rfl, by intro h; simp [akd, akR] at h, by intro h; simp [akd, akR] at h, by intro h; simp [akd, akR] at h, h.as_, h.rng, six_le (by simp [akd, akR]; omega) (by simp [akd, akR]; omega) (by simp [akd, akR]; omega) (by simp [akd, akR]; omega) (by simp [akd, akR]; omega) (by simp [akd, akR]; omega)⟩
        · split
          · rename_i _ _ _ _ hs
            have e1 := setLast_len L.fr s.at_ (h.fr hs)
            exact ⟨.inr (.inr (.inl rfl)), by intro h; simp [akd, akA] at h, fun _ => h.up (.inl hs), fun _ => h.ra (by omega), h.as_, h.rng, six_le (by simp [akd, akA]; omega) (by simp [akd, akA]; omega) (by simp [akd, akA]; omega) (by simp [akd, akA]; omega) (by simp [akd, akA]; omega) (by simp [akd, akA]; omega)⟩
          · exact same
      · split
        · split
          · exact same
          · exact ⟨h.st, h.fr, h.up, h.ra, by intro _; simp, h.rng, six_le (by simp; omega) (by simp; omega) (by simp; omega) (by simp; omega) (by simp; omega) (by simp; omega)⟩
        · split
          · exact same
          · rename_i _ _ _ _ hs
            have e1 := setLast_len L.as_ s.at_ (h.as_ (by omega))
            exact ⟨h.st, h.fr, h.up, h.ra, fun _ => setLast_ne _ _, h.rng, six_le (by simp; omega) (by simp; omega) (by simp; omega) (by simp; omega) (by simp; omega) (by simp; omega)⟩
end Go.Proofs.YtgdnedhcbjonkaaGreatDoor

/- What a row holds behind stores of many cells, and behind clear; no program in sight. -/
namespace Go.Proofs.YtgdnedhcbjonkaaGreatDoor
open Go.RowKit

theorem set_take_drop (xs r : List Value) (o : Nat) (v : Value) (h : o < xs.length) : (xs.set o v).take (o + 1) ++ r ++ (xs.set o v).drop (o + 1 + r.length) = xs.take o ++ v :: r ++ xs.drop (o + (v :: r).length) := by
  rw [List.set_eq_take_append_cons_drop, if_pos h]
  have h1 : (xs.take o).length = o := by simp; omega
  rw [List.take_append, List.drop_append, h1]
  have e1 : (xs.take o).take (o + 1) = xs.take o := by rw [List.take_take]; congr 1; omega
  have e2 : (xs.take o).drop (o + 1 + r.length) = [] := List.drop_eq_nil_of_le (by omega)
  rw [e1, e2, show o + 1 - o = 1 by omega, show o + 1 + r.length - o = r.length + 1 by omega]
  simp only [List.take_succ_cons, List.take_zero, List.drop_succ_cons, List.drop_drop, List.nil_append, List.append_assoc, List.cons_append, List.length_cons]
  rw [show o + 1 + r.length = o + (r.length + 1) by omega]
theorem own_setCells {base : Nat} {e : TypeId} {size g n cap : Nat} : ∀ (vs : List Value) (o : Nat) (w : World) (xs : List Value), w.ownsRow base e size (.slice (some ⟨g, 0, none⟩) n cap) n xs → o + vs.length ≤ xs.length →
    (w.setCells g o vs).ownsRow base e size (.slice (some ⟨g, 0, none⟩) n cap) n (xs.take o ++ vs ++ xs.drop (o + vs.length)) ∧ w.grownBy (w.setCells g o vs) (some g)
  | [], o, w, xs, h, _ => by simpa [World.setCells] using ⟨h, grown_refl w _⟩
  | v :: r, o, w, xs, h, hl => by
    simp only [List.length_cons] at hl
    obtain ⟨h1, h2⟩ := h.stored o v
    obtain ⟨h3, h4⟩ := own_setCells r (o + 1) _ _ h1 (by rw [List.length_set]; omega)
    rw [set_take_drop xs r o v (by omega)] at h3
    exact ⟨h3, grown_trans h2 h4⟩
theorem own_shrink {w : World} {base : Nat} {e : TypeId} {size g n cap : Nat} {xs : List Value} (h : w.ownsRow base e size (.slice (some ⟨g, 0, none⟩) n cap) n xs) (m : Nat) (hm : m ≤ n) :
    w.ownsRow base e size (.slice (some ⟨g, 0, none⟩) m cap) m (xs.take (m * size)) := by
  have hle : m * size ≤ n * size := Nat.mul_le_mul_right _ hm
  refine ⟨by rw [List.length_take, h.1]; omega, ?_⟩
  rcases h.2 with ⟨hv, _⟩ | ⟨g', cap', cur, hv, hb, hh, hc, hcm, hcs, ht⟩
  · injection hv with h1 _; cases h1
  · injection hv with h1 h2 h3
    injection h1 with h1
    injection h1 with h1 _
    subst h1 h3
    refine .inr ⟨g, cap, cur, rfl, hb, hh, by omega, hcm, hcs, ?_⟩
    rw [← ht, List.take_take]
    congr 1; omega
theorem run_clear_one {P : Program} (w : World) (t e ty : TypeId) (z : Value) (zs : List Value) (ht : P.underlying t = some (.slice e)) (hv : ∀ w, (zeroValue e).run P w = .ok z w) (hz : z.cells.toList = zs) (h1 : ∀ u ∈ zs, u.oneCell' = true) (b o c : Nat)
    (hc : ∀ j, j < zs.length → (w.cell? ⟨b, o + j, none⟩).isSome = true) (hf : ∀ j, j < zs.length → w.frozen? ⟨b, o + j, none⟩ = false) :
    (Builtin.clear_ #[t] ty #[.slice (some ⟨b, o, none⟩) 1 c]).run P w = .ok (.tuple #[]) (w.setCells b o zs) := by
  have hzc : (Builtin.zeroCells z.cells 1).toList = zs := by
    rw [← hz]
    simp [Builtin.zeroCells]
    apply List.ext_getElem
    · simp
    · intro i h1 h2
      simp at h1 h2
      simp [Nat.mod_eq_of_lt h2, getElem!_pos z.cells i h2]
  have hst := run_storeCells_cells (P := P) b o zs 0 w (by simpa using hc) (by simpa using hf) h1
  simp only [Nat.add_zero] at hst
  simp [Builtin.clear_, run_underlying ht, hv, hzc, hst]
/-- An element less: what stood behind it comes up, and nothing is left at the end. -/
theorem del_cells {α : Type} {f : α → List Value} {k : Nat} (hf : ∀ x, (f x).length = k) (l : List α) (i : Nat) (hi : i < l.length) (zs : List Value) :
    let a := (recs f l).take (i * k) ++ recs f (l.drop (i + 1)) ++ (recs f l).drop (i * k + (recs f (l.drop (i + 1))).length)
    (a.take ((l.length - 1) * k) ++ zs ++ a.drop ((l.length - 1) * k + zs.length)).take ((l.length - 1) * k) = recs f (l.eraseIdx i) := by
  intro a
  have hl := recs_length hf l
  have hd := recs_length hf (l.drop (i + 1))
  rw [List.length_drop] at hd
  have e1 : (recs f l).take (i * k) = recs f (l.take i) := by
    conv => lhs; rw [← List.take_append_drop i l, recs_append]
    rw [List.take_left' (by rw [recs_length hf, List.length_take]; congr 1; omega)]
  have hal : (recs f (l.take i) ++ recs f (l.drop (i + 1))).length = (l.length - 1) * k := by
    rw [List.length_append, recs_length hf, hd, List.length_take, ← Nat.add_mul]
    congr 1; omega
  have ha : a = recs f (l.take i) ++ recs f (l.drop (i + 1)) ++ (recs f l).drop (i * k + (recs f (l.drop (i + 1))).length) := by show _ ++ _ ++ _ = _; rw [e1]
  have hta : a.take ((l.length - 1) * k) = recs f (l.take i) ++ recs f (l.drop (i + 1)) := by rw [ha, List.take_left' hal]
  rw [hta, List.append_assoc, List.take_left' hal, ← recs_append, List.eraseIdx_eq_take_drop_succ]
/-- append to a row of the call's own, as one step of a region that draws its order. -/
theorem step_append_row {P : Program} {ops : Array Oper} {o : Oper} {a : Act} {w : World} {K : Act → World → Prop} {Q : Exit → Act → World → Prop} {E : Prop}
    (hg : o.guard = none) (s x : Operand) (t : TypeId) (hop : o.op = Op.call { callee := Callee.builtin Builtin.append, args := #[s, x], argTypes := #[t, t] })
    (base : Nat) (e : TypeId) (i : TypeInfo) (z : Value) (size bytes : Nat) (h1 : P.underlying t = some (.slice e)) (h2 : P.info? e = some i) (h3 : i.zero = some z) (h4 : i.size = size) (h5 : i.bytes = bytes) (h6 : z.cells.size = size) (h7 : 0 < size)
    (v : Value) (n : Nat) (xs : List Value) (hs : a.eval s = v) (hown : w.ownsRow base e size v n xs)
    (ad : Addr) (m c : Nat) (news : List Value) (hx : a.eval x = .slice (some ad) m c) (hn : news.length = m * size) (hc : ∀ j u, news[j]? = some u → w.cell? (ad.add j) = some u) (h1c : ∀ u ∈ news, u.oneCell' = true)
    (b1 : n + m ≤ maxLen) (b2 : (n + m) * bytes ≤ 140737488355328) (hb : base ≤ w.heap.size)
    (hK : ∀ v' w', w'.ownsRow base e size v' (n + m) (xs ++ news) → w.grownBy w' v.ownBlock → K (a.put o.dst v') w') :
    if Region.wanted o (yielded ops a.tmps) = true then Oper.wp P o a w K Q else E := by
  have hw : Region.wanted o (yielded ops a.tmps) = true := by simp [Region.wanted, hg]
  rw [if_pos hw]
  obtain ⟨v', w', hrun, r1, r2, _⟩ := run_append_own (P := P) w base t o.type e i z size bytes h1 h2 h3 h4 h5 h6 h7 v n xs hown ad m c news hn hc h1c b1 b2 hb
  unfold Oper.wp
  simp [execOp, hop, resolve, invoke, builtin, hs, hx, hrun, Result.andThen]
  exact hK v' w' r1 r2
theorem own_cells0 {w : World} {base : Nat} {e : TypeId} {size g n cap : Nat} {xs : List Value} (h : w.ownsRow base e size (.slice (some ⟨g, 0, none⟩) n cap) n xs) : Cells w g 0 xs := by
  intro j v hv
  rw [Nat.zero_add]
  exact (h.cellAt j (by rw [← h.1]; exact (List.getElem?_eq_some_iff.1 hv).1)).trans hv
theorem own_blk {w : World} {base : Nat} {e : TypeId} {size g n cap : Nat} {xs : List Value} (h : w.ownsRow base e size (.slice (some ⟨g, 0, none⟩) n cap) n xs) : ∃ cs, w.heap[g]? = some (.cells cs e (0, 0)) := by
  rcases h.2 with ⟨hv, _⟩ | ⟨g', cap', cur, hv, hb, hh, _⟩
  · injection hv with h1; cases h1
  · injection hv with h1
    injection h1 with h1
    injection h1 with h1
    subst h1
    exact ⟨cur, hh⟩
/-- How long a slice is. -/
def slLen : Value → Nat
  | .slice _ n _ => n
  | _ => 0
end Go.Proofs.YtgdnedhcbjonkaaGreatDoor

/- (*alarm.life).turn: each way that it goes. -/
namespace Go.Proofs.YtgdnedhcbjonkaaGreatDoor
open Go.RowKit

theorem Tryz.infoWinA : (Tryz.prog.info? 55).map (fun i => (i.zero, i.size, i.bytes)) = some (some (.agg #[.int .i64 0, .int .i64 0]), 2, 16) := by kernel_rfl
theorem lastW_any (b m c : Nat) (w : World) (hn2 : m ≤ 1000000) : Calls Tryz.prog 227 #[.slice (some ⟨b, 0, none⟩) (m + 1) c] w fun e w' => e = .returned (.pointer (some ⟨b, m * 2, none⟩)) ∧ w = w' := by
  have h1 : IntKind.i64.wrap ((m + 1 : Nat) - 1 : Int) = (m : Int) := by rw [show ((m + 1 : Nat) - 1 : Int) = (m : Int) by omega]; rw [IntKind.wrap_i64]; omega
  have h2 : (m : Int) < ((m + 1 : Nat) : Int) := by omega
  have h3 : m < m + 1 := by omega
  go_enter Tryz.func227, Tryz.ntmps227
  go_wp2_with (fail)
  go_ret
  exact ⟨rfl, rfl⟩
theorem cells_atG {w : World} {cs : Array Value} {t : TypeId} {f : Nat × Nat} {xs : List Value} {n : Nat} (h : cs.toList = xs) (hn : n = w.heap.size) : Cells (w.alloc (.cells cs t f)) n 0 xs := by
  subst hn; exact Cells.new _ _ _ _ _ h
/-- A row of a life that is not empty, as a slice. -/
theorem LfI.rowAt {w : World} {x : Nat} {L : Lf} {v : Nat → Value} (h : LfI w x L v) {m : Nat} (hm : m < 6) (hn : 0 < rowN L m) : ∃ g c, v m = .slice (some ⟨g, 0, none⟩) (rowN L m) c ∧ g < w.heap.size ∧ g ≠ x := by
  have hr := h.row m hm
  rcases hr.2 with ⟨hv, h0⟩ | ⟨g, cap, cur, hv, hb, hh, _⟩
  · omega
  · exact ⟨g, cap, hv, (Array.getElem?_eq_some_iff.1 hh).1, fun e => h.x_ne hm (by rw [hv, e]; rfl)⟩
theorem LfI.lastCell {w : World} {x : Nat} {L : Lf} {v : Nat → Value} (h : LfI w x L v) {m g c : Nat} (hm : m < 6) (hs : rSz m = 2) (hn : 0 < rowN L m) (hv : v m = .slice (some ⟨g, 0, none⟩) (rowN L m) c) :
    (∃ u, w.cell? ⟨g, (rowN L m - 1) * 2 + 1, none⟩ = some u) ∧ w.frozen? ⟨g, (rowN L m - 1) * 2 + 1, none⟩ = false := by
  have hr := h.row m hm
  rw [hv] at hr
  obtain ⟨cs, hcs⟩ := own_blk hr
  have hl := hr.1
  rw [hs] at hl
  obtain ⟨u, hu⟩ : ∃ u, (rowC L m)[(rowN L m - 1) * 2 + 1]? = some u := ⟨_, List.getElem?_eq_getElem (by omega)⟩
  exact ⟨⟨u, (hr.cellAt _ (by rw [hs]; omega)).trans hu⟩, by simp [World.frozen?, hcs]⟩
theorem LfI.fro {w : World} {x : Nat} {L : Lf} {v : Nat → Value} (h : LfI w x L v) (j : Nat) : w.frozen? ⟨x, j, none⟩ = false := by simp [World.frozen?, h.blk]
set_option maxRecDepth 100000 in
set_option maxHeartbeats 2000000 in
theorem turn_up0 (x : Nat) (t : Int) (L : Lf) (v : Nat → Value) (w : World) (h : LfI w x L v) (hst : L.st = 0) (hN : L.up.length ≤ 100000 ∧ L.fr.length ≤ 100000) :
    Calls Tryz.prog 199 #[.pointer (some ⟨x, 0, none⟩), .int .i64 1, .int .i64 t] w fun e w' => e = .returned (.tuple #[]) ∧ ∃ v', LfI w' x (upL L t) v' ∧ LfGo w w' x v v' := by
  obtain ⟨i0, hi0, hz0, hz1, hz2⟩ := info_parts Tryz.infoWinA
  have HI := Lib.hid h
  have HGo := Lib.hid (LfGo.refl w x v)
  have c2 := (show w.cell? ⟨x, 2, none⟩ = some (.int .i64 0) from hst ▸ cell_of_blk (j := 2) h.blk rfl)
  have hlt := h.lt
  clear h
  go_enter Tryz.func199, Tryz.ntmps199
  go_upto_region 7 with (fail)
  have e1 := cell_of_blk (j := 7) HI.out.blk rfl
  replace e1 : w.cell? ⟨x, 7, none⟩ = some (v 2) := e1
  have hb1 : x ≠ w.heap.size := by omega
  obtain ⟨A1, p1, hv1⟩ := own_slice (HI.out.row 2 (by omega))
  replace hv1 : v 2 = .slice A1 L.fr.length p1 := hv1
  rw [hv1] at e1
  replace e1 : w.cell? ⟨x, 7, none⟩ = some (.slice A1 L.fr.length p1) := e1
  have HO1 := Lib.hid (show w.ownsRow 0 55 2 (.slice A1 L.fr.length p1) L.fr.length (recs alW L.fr) from hv1 ▸ HI.out.row 2 (by omega))
  obtain ⟨q1, hq1⟩ : ∃ q, L.fr.length = q := ⟨_, rfl⟩
  have HL1 := Lib.hid hq1
  have hq12 : q1 ≤ 100000 := by have := hN.1; have := hN.2; omega
  rw [hq1] at e1 HO1 hv1
  clear hq1
  have HV1 := Lib.hid hv1
  clear hv1
  go_wp2_with (at_builtin; go_loud (refine wpList_append_own2 _ rfl _ _ 143 rfl 0 55 i0 _ 2 16 Tryz.underlying143 hi0 hz0 hz1 hz2 rfl (by decide) _ q1 (recs alW L.fr) rfl (HO1.out.alloc _) ⟨_, 0, none⟩ 1 1 (alW (t, alEnd)) rfl rfl ?c1 ?c2 ?c3 ?c4 ?c5 ?_))
  case c1 => exact cells_add (cells_atG (by rfl) (by first | rfl | simp))
  case c2 => intro u hu; simp [alW] at hu; rcases hu with rfl | rfl <;> rfl
  case c3 => unfold maxLen; omega
  case c4 => omega
  case c5 => omega
  intro v1 w1 ho hg hm
  obtain ⟨B1, s1, rfl⟩ := own_slice ho
  replace hg := grown_of_alloc hg
  replace hm := moved_of_alloc hm
  have HP := Lib.hid (HI.out.app (L' := ({ L with fr := L.fr ++ [(t, alEnd)] } : Lf)) (m := 2) (v' := (.slice B1 (q1 + 1) s1)) (by omega) (by refine ⟨rfl, rfl, rfl, rfl, rfl, fun k hk hne => ?_⟩; rcases k with _ | _ | _ | _ | _ | _ | k <;> first | exact ⟨rfl, rfl⟩ | exact absurd rfl hne | omega) (HV1.out ▸ hg) (HV1.out ▸ hm) (by show w1.ownsRow 0 55 2 (.slice B1 (q1 + 1) s1) (L.fr ++ [(t, alEnd)]).length (recs alW (L.fr ++ [(t, alEnd)])); rw [List.length_append, recs_snoc, HL1.out]; exact ho))
  have hbx := (hg.block x hlt (own_ne HO1.out HI.out.blk (by decide))).trans HI.out.blk
  have e1 := cell_of_blk (j := 7) hbx rfl
  have z1 : w1.frozen? ⟨x, 7, none⟩ = false := by simp [World.frozen?, hbx]
  have hlx : x < w1.heap.size := (Array.getElem?_eq_some_iff.1 hbx).1
  clear ho hg hm hbx
  go_upto_region 8 with (fail)
  obtain ⟨y1, ew⟩ : ∃ W1 : World, W1 = w1.setCell ⟨x, 7, none⟩ (.slice B1 (q1 + 1) s1) := ⟨_, rfl⟩
  replace HP := Lib.hid (show LfI (w1.setCell ⟨x, 7, none⟩ (.slice B1 (q1 + 1) s1)) x ({ L with fr := L.fr ++ [(t, alEnd)] } : Lf) (updV v 2 (.slice B1 (q1 + 1) s1)) ∧ LfGo w (w1.setCell ⟨x, 7, none⟩ (.slice B1 (q1 + 1) s1)) x v (updV v 2 (.slice B1 (q1 + 1) s1)) from HP.out)
  rw [← ew] at HP ⊢
  replace HI := Lib.hid HP.out.1
  replace HGo := Lib.hid (HGo.out.trans HP.out.2)
  replace hlt := HI.out.lt
  clear ew HP e1 z1 hlx
  go_upto_region 9 with (fail)
  have e2 := cell_of_blk (j := 6) HI.out.blk rfl
  replace e2 : y1.cell? ⟨x, 6, none⟩ = some ((updV v 2 (.slice B1 (q1 + 1) s1)) 1) := e2
  have hb2 : x ≠ y1.heap.size := by omega
  obtain ⟨A2, p2, hv2⟩ := own_slice (HI.out.row 1 (by omega))
  replace hv2 : (updV v 2 (.slice B1 (q1 + 1) s1)) 1 = .slice A2 L.up.length p2 := hv2
  rw [hv2] at e2
  replace e2 : y1.cell? ⟨x, 6, none⟩ = some (.slice A2 L.up.length p2) := e2
  have HO2 := Lib.hid (show y1.ownsRow 0 55 2 (.slice A2 L.up.length p2) L.up.length (recs alW L.up) from hv2 ▸ HI.out.row 1 (by omega))
  obtain ⟨q2, hq2⟩ : ∃ q, L.up.length = q := ⟨_, rfl⟩
  have HL2 := Lib.hid hq2
  have hq22 : q2 ≤ 100000 := by have := hN.1; have := hN.2; omega
  rw [hq2] at e2 HO2 hv2
  clear hq2
  have HV2 := Lib.hid hv2
  clear hv2
  go_wp2_with (at_builtin; go_loud (refine wpList_append_own2 _ rfl _ _ 143 rfl 0 55 i0 _ 2 16 Tryz.underlying143 hi0 hz0 hz1 hz2 rfl (by decide) _ q2 (recs alW L.up) rfl (HO2.out.alloc _) ⟨_, 0, none⟩ 1 1 (alW (t, alEnd)) rfl rfl ?c1 ?c2 ?c3 ?c4 ?c5 ?_))
  case c1 => exact cells_add (cells_atG (by rfl) (by first | rfl | simp))
  case c2 => intro u hu; simp [alW] at hu; rcases hu with rfl | rfl <;> rfl
  case c3 => unfold maxLen; omega
  case c4 => omega
  case c5 => omega
  intro v2 w2 ho hg hm
  obtain ⟨B2, s2, rfl⟩ := own_slice ho
  replace hg := grown_of_alloc hg
  replace hm := moved_of_alloc hm
  have HP := Lib.hid (HI.out.app (L' := ({ ({ L with fr := L.fr ++ [(t, alEnd)] } : Lf) with up := L.up ++ [(t, alEnd)] } : Lf)) (m := 1) (v' := (.slice B2 (q2 + 1) s2)) (by omega) (by refine ⟨rfl, rfl, rfl, rfl, rfl, fun k hk hne => ?_⟩; rcases k with _ | _ | _ | _ | _ | _ | k <;> first | exact ⟨rfl, rfl⟩ | exact absurd rfl hne | omega) (HV2.out ▸ hg) (HV2.out ▸ hm) (by show w2.ownsRow 0 55 2 (.slice B2 (q2 + 1) s2) (L.up ++ [(t, alEnd)]).length (recs alW (L.up ++ [(t, alEnd)])); rw [List.length_append, recs_snoc, HL2.out]; exact ho))
  have hbx := (hg.block x hlt (own_ne HO2.out HI.out.blk (by decide))).trans HI.out.blk
  have e2 := cell_of_blk (j := 6) hbx rfl
  have z2 : w2.frozen? ⟨x, 6, none⟩ = false := by simp [World.frozen?, hbx]
  have hlx : x < w2.heap.size := (Array.getElem?_eq_some_iff.1 hbx).1
  clear ho hg hm hbx
  go_upto_region 10 with (fail)
  obtain ⟨y2, ew⟩ : ∃ W1 : World, W1 = w2.setCell ⟨x, 6, none⟩ (.slice B2 (q2 + 1) s2) := ⟨_, rfl⟩
  replace HP := Lib.hid (show LfI (w2.setCell ⟨x, 6, none⟩ (.slice B2 (q2 + 1) s2)) x ({ ({ L with fr := L.fr ++ [(t, alEnd)] } : Lf) with up := L.up ++ [(t, alEnd)] } : Lf) (updV (updV v 2 (.slice B1 (q1 + 1) s1)) 1 (.slice B2 (q2 + 1) s2)) ∧ LfGo y1 (w2.setCell ⟨x, 6, none⟩ (.slice B2 (q2 + 1) s2)) x (updV v 2 (.slice B1 (q1 + 1) s1)) (updV (updV v 2 (.slice B1 (q1 + 1) s1)) 1 (.slice B2 (q2 + 1) s2)) from HP.out)
  rw [← ew] at HP ⊢
  replace HI := Lib.hid HP.out.1
  replace HGo := Lib.hid (HGo.out.trans HP.out.2)
  replace hlt := HI.out.lt
  clear ew HP e2 z2 hlx
  have f2 := cell_of_blk (j := 2) HI.out.blk rfl
  have f3 := cell_of_blk (j := 3) HI.out.blk rfl
  have z2 := HI.out.fro 2
  have z3 := HI.out.fro 3
  have hx23 : (⟨x, 2, none⟩ : Addr) ≠ ⟨x, 3, none⟩ := by simp
  clear c2
  go_wp2_with (fail)
  obtain ⟨q1, q2⟩ := HI.out.num (j := 2) (u := .int .i64 1) (L' := ({ ({ ({ L with fr := L.fr ++ [(t, alEnd)] } : Lf) with up := L.up ++ [(t, alEnd)] } : Lf) with st := 1 } : Lf)) rfl (fun k _ => ⟨rfl, rfl⟩)
  obtain ⟨q3, q4⟩ := q1.num (j := 3) (u := .int .i64 t) (L' := upL L t) rfl (fun k _ => ⟨rfl, rfl⟩)
  go_end0
  exact ⟨rfl, _, q3, (HGo.out.trans q2).trans q4⟩
set_option maxRecDepth 100000 in
set_option maxHeartbeats 2000000 in
theorem turn_up3 (x : Nat) (t : Int) (L : Lf) (v : Nat → Value) (w : World) (h : LfI w x L v) (hst : L.st = 3) (hN : L.up.length ≤ 100000 ∧ L.fr.length ≤ 100000) :
    Calls Tryz.prog 199 #[.pointer (some ⟨x, 0, none⟩), .int .i64 1, .int .i64 t] w fun e w' => e = .returned (.tuple #[]) ∧ ∃ v', LfI w' x (upL L t) v' ∧ LfGo w w' x v v' := by
  obtain ⟨i0, hi0, hz0, hz1, hz2⟩ := info_parts Tryz.infoWinA
  have HI := Lib.hid h
  have HGo := Lib.hid (LfGo.refl w x v)
  have c2 := (show w.cell? ⟨x, 2, none⟩ = some (.int .i64 3) from hst ▸ cell_of_blk (j := 2) h.blk rfl)
  have hlt := h.lt
  clear h
  go_enter Tryz.func199, Tryz.ntmps199
  go_upto_region 7 with (fail)
  have e1 := cell_of_blk (j := 7) HI.out.blk rfl
  replace e1 : w.cell? ⟨x, 7, none⟩ = some (v 2) := e1
  have hb1 : x ≠ w.heap.size := by omega
  obtain ⟨A1, p1, hv1⟩ := own_slice (HI.out.row 2 (by omega))
  replace hv1 : v 2 = .slice A1 L.fr.length p1 := hv1
  rw [hv1] at e1
  replace e1 : w.cell? ⟨x, 7, none⟩ = some (.slice A1 L.fr.length p1) := e1
  have HO1 := Lib.hid (show w.ownsRow 0 55 2 (.slice A1 L.fr.length p1) L.fr.length (recs alW L.fr) from hv1 ▸ HI.out.row 2 (by omega))
  obtain ⟨q1, hq1⟩ : ∃ q, L.fr.length = q := ⟨_, rfl⟩
  have HL1 := Lib.hid hq1
  have hq12 : q1 ≤ 100000 := by have := hN.1; have := hN.2; omega
  rw [hq1] at e1 HO1 hv1
  clear hq1
  have HV1 := Lib.hid hv1
  clear hv1
  go_wp2_with (at_builtin; go_loud (refine wpList_append_own2 _ rfl _ _ 143 rfl 0 55 i0 _ 2 16 Tryz.underlying143 hi0 hz0 hz1 hz2 rfl (by decide) _ q1 (recs alW L.fr) rfl (HO1.out.alloc _) ⟨_, 0, none⟩ 1 1 (alW (t, alEnd)) rfl rfl ?c1 ?c2 ?c3 ?c4 ?c5 ?_))
  case c1 => exact cells_add (cells_atG (by rfl) (by first | rfl | simp))
  case c2 => intro u hu; simp [alW] at hu; rcases hu with rfl | rfl <;> rfl
  case c3 => unfold maxLen; omega
  case c4 => omega
  case c5 => omega
  intro v1 w1 ho hg hm
  obtain ⟨B1, s1, rfl⟩ := own_slice ho
  replace hg := grown_of_alloc hg
  replace hm := moved_of_alloc hm
  have HP := Lib.hid (HI.out.app (L' := ({ L with fr := L.fr ++ [(t, alEnd)] } : Lf)) (m := 2) (v' := (.slice B1 (q1 + 1) s1)) (by omega) (by refine ⟨rfl, rfl, rfl, rfl, rfl, fun k hk hne => ?_⟩; rcases k with _ | _ | _ | _ | _ | _ | k <;> first | exact ⟨rfl, rfl⟩ | exact absurd rfl hne | omega) (HV1.out ▸ hg) (HV1.out ▸ hm) (by show w1.ownsRow 0 55 2 (.slice B1 (q1 + 1) s1) (L.fr ++ [(t, alEnd)]).length (recs alW (L.fr ++ [(t, alEnd)])); rw [List.length_append, recs_snoc, HL1.out]; exact ho))
  have hbx := (hg.block x hlt (own_ne HO1.out HI.out.blk (by decide))).trans HI.out.blk
  have e1 := cell_of_blk (j := 7) hbx rfl
  have z1 : w1.frozen? ⟨x, 7, none⟩ = false := by simp [World.frozen?, hbx]
  have hlx : x < w1.heap.size := (Array.getElem?_eq_some_iff.1 hbx).1
  clear ho hg hm hbx
  go_upto_region 8 with (fail)
  obtain ⟨y1, ew⟩ : ∃ W1 : World, W1 = w1.setCell ⟨x, 7, none⟩ (.slice B1 (q1 + 1) s1) := ⟨_, rfl⟩
  replace HP := Lib.hid (show LfI (w1.setCell ⟨x, 7, none⟩ (.slice B1 (q1 + 1) s1)) x ({ L with fr := L.fr ++ [(t, alEnd)] } : Lf) (updV v 2 (.slice B1 (q1 + 1) s1)) ∧ LfGo w (w1.setCell ⟨x, 7, none⟩ (.slice B1 (q1 + 1) s1)) x v (updV v 2 (.slice B1 (q1 + 1) s1)) from HP.out)
  rw [← ew] at HP ⊢
  replace HI := Lib.hid HP.out.1
  replace HGo := Lib.hid (HGo.out.trans HP.out.2)
  replace hlt := HI.out.lt
  clear ew HP e1 z1 hlx
  go_upto_region 9 with (fail)
  have e2 := cell_of_blk (j := 6) HI.out.blk rfl
  replace e2 : y1.cell? ⟨x, 6, none⟩ = some ((updV v 2 (.slice B1 (q1 + 1) s1)) 1) := e2
  have hb2 : x ≠ y1.heap.size := by omega
  obtain ⟨A2, p2, hv2⟩ := own_slice (HI.out.row 1 (by omega))
  replace hv2 : (updV v 2 (.slice B1 (q1 + 1) s1)) 1 = .slice A2 L.up.length p2 := hv2
  rw [hv2] at e2
  replace e2 : y1.cell? ⟨x, 6, none⟩ = some (.slice A2 L.up.length p2) := e2
  have HO2 := Lib.hid (show y1.ownsRow 0 55 2 (.slice A2 L.up.length p2) L.up.length (recs alW L.up) from hv2 ▸ HI.out.row 1 (by omega))
  obtain ⟨q2, hq2⟩ : ∃ q, L.up.length = q := ⟨_, rfl⟩
  have HL2 := Lib.hid hq2
  have hq22 : q2 ≤ 100000 := by have := hN.1; have := hN.2; omega
  rw [hq2] at e2 HO2 hv2
  clear hq2
  have HV2 := Lib.hid hv2
  clear hv2
  go_wp2_with (at_builtin; go_loud (refine wpList_append_own2 _ rfl _ _ 143 rfl 0 55 i0 _ 2 16 Tryz.underlying143 hi0 hz0 hz1 hz2 rfl (by decide) _ q2 (recs alW L.up) rfl (HO2.out.alloc _) ⟨_, 0, none⟩ 1 1 (alW (t, alEnd)) rfl rfl ?c1 ?c2 ?c3 ?c4 ?c5 ?_))
  case c1 => exact cells_add (cells_atG (by rfl) (by first | rfl | simp))
  case c2 => intro u hu; simp [alW] at hu; rcases hu with rfl | rfl <;> rfl
  case c3 => unfold maxLen; omega
  case c4 => omega
  case c5 => omega
  intro v2 w2 ho hg hm
  obtain ⟨B2, s2, rfl⟩ := own_slice ho
  replace hg := grown_of_alloc hg
  replace hm := moved_of_alloc hm
  have HP := Lib.hid (HI.out.app (L' := ({ ({ L with fr := L.fr ++ [(t, alEnd)] } : Lf) with up := L.up ++ [(t, alEnd)] } : Lf)) (m := 1) (v' := (.slice B2 (q2 + 1) s2)) (by omega) (by refine ⟨rfl, rfl, rfl, rfl, rfl, fun k hk hne => ?_⟩; rcases k with _ | _ | _ | _ | _ | _ | k <;> first | exact ⟨rfl, rfl⟩ | exact absurd rfl hne | omega) (HV2.out ▸ hg) (HV2.out ▸ hm) (by show w2.ownsRow 0 55 2 (.slice B2 (q2 + 1) s2) (L.up ++ [(t, alEnd)]).length (recs alW (L.up ++ [(t, alEnd)])); rw [List.length_append, recs_snoc, HL2.out]; exact ho))
  have hbx := (hg.block x hlt (own_ne HO2.out HI.out.blk (by decide))).trans HI.out.blk
  have e2 := cell_of_blk (j := 6) hbx rfl
  have z2 : w2.frozen? ⟨x, 6, none⟩ = false := by simp [World.frozen?, hbx]
  have hlx : x < w2.heap.size := (Array.getElem?_eq_some_iff.1 hbx).1
  clear ho hg hm hbx
  go_upto_region 10 with (fail)
  obtain ⟨y2, ew⟩ : ∃ W1 : World, W1 = w2.setCell ⟨x, 6, none⟩ (.slice B2 (q2 + 1) s2) := ⟨_, rfl⟩
  replace HP := Lib.hid (show LfI (w2.setCell ⟨x, 6, none⟩ (.slice B2 (q2 + 1) s2)) x ({ ({ L with fr := L.fr ++ [(t, alEnd)] } : Lf) with up := L.up ++ [(t, alEnd)] } : Lf) (updV (updV v 2 (.slice B1 (q1 + 1) s1)) 1 (.slice B2 (q2 + 1) s2)) ∧ LfGo y1 (w2.setCell ⟨x, 6, none⟩ (.slice B2 (q2 + 1) s2)) x (updV v 2 (.slice B1 (q1 + 1) s1)) (updV (updV v 2 (.slice B1 (q1 + 1) s1)) 1 (.slice B2 (q2 + 1) s2)) from HP.out)
  rw [← ew] at HP ⊢
  replace HI := Lib.hid HP.out.1
  replace HGo := Lib.hid (HGo.out.trans HP.out.2)
  replace hlt := HI.out.lt
  clear ew HP e2 z2 hlx
  have f2 := cell_of_blk (j := 2) HI.out.blk rfl
  have f3 := cell_of_blk (j := 3) HI.out.blk rfl
  have z2 := HI.out.fro 2
  have z3 := HI.out.fro 3
  have hx23 : (⟨x, 2, none⟩ : Addr) ≠ ⟨x, 3, none⟩ := by simp
  clear c2
  go_wp2_with (fail)
  obtain ⟨q1, q2⟩ := HI.out.num (j := 2) (u := .int .i64 1) (L' := ({ ({ ({ L with fr := L.fr ++ [(t, alEnd)] } : Lf) with up := L.up ++ [(t, alEnd)] } : Lf) with st := 1 } : Lf)) rfl (fun k _ => ⟨rfl, rfl⟩)
  obtain ⟨q3, q4⟩ := q1.num (j := 3) (u := .int .i64 t) (L' := upL L t) rfl (fun k _ => ⟨rfl, rfl⟩)
  go_end0
  exact ⟨rfl, _, q3, (HGo.out.trans q2).trans q4⟩
set_option maxRecDepth 100000 in
set_option maxHeartbeats 2000000 in
theorem turn_clA (x : Nat) (t : Int) (L : Lf) (v : Nat → Value) (w : World) (h : LfI w x L v) (hst : L.st = 1) (hfr : L.fr ≠ []) (hup : L.up ≠ []) (hN : L.up.length ≤ 100000 ∧ L.fr.length ≤ 100000) :
    Calls Tryz.prog 199 #[.pointer (some ⟨x, 0, none⟩), .int .i64 3, .int .i64 t] w fun e w' => e = .returned (.tuple #[]) ∧ ∃ v', LfI w' x (clA L t) v' ∧ LfGo w w' x v v' := by
  obtain ⟨i0, hi0, hz0, hz1, hz2⟩ := info_parts Tryz.infoWinA
  have HI := Lib.hid h
  have HGo := Lib.hid (LfGo.refl w x v)
  have c2 := (show w.cell? ⟨x, 2, none⟩ = some (.int .i64 1) from hst ▸ cell_of_blk (j := 2) h.blk rfl)
  have hlt := h.lt
  clear h
  go_enter Tryz.func199, Tryz.ntmps199
  go_upto_region 3 with (fail)
  obtain ⟨g1, p1, hv1, hg1, hgx1⟩ := HI.out.rowAt (m := 2) (by omega) (show 0 < L.fr.length from List.length_pos_iff.2 hfr)
  have hn1 : 0 < L.fr.length := List.length_pos_iff.2 hfr
  obtain ⟨⟨u1, d1⟩, z1⟩ := HI.out.lastCell (m := 2) (by omega) rfl hn1 hv1
  have e1 := cell_of_blk (j := 7) HI.out.blk rfl
  replace e1 : w.cell? ⟨x, 7, none⟩ = some (.slice (some ⟨g1, 0, none⟩) L.fr.length p1) := hv1 ▸ e1
  replace z1 : w.frozen? ⟨g1, (L.fr.length - 1) * 2 + 1, none⟩ = false := z1
  replace d1 : w.cell? ⟨g1, (L.fr.length - 1) * 2 + 1, none⟩ = some u1 := d1
  have HP := Lib.hid (HI.out.put (L' := ({ L with fr := setLast L.fr t } : Lf)) (m := 2) (o := (L.fr.length - 1) * 2 + 1) (u := .int .i64 t) (by omega) (by refine ⟨rfl, rfl, rfl, rfl, rfl, fun k hk hne => ?_⟩; rcases k with _ | _ | _ | _ | _ | _ | k <;> first | exact ⟨rfl, rfl⟩ | exact absurd rfl hne | omega) hv1 rfl (setLast_len _ _ hfr) (recs_setLast _ _ hfr))
  have HV1 := Lib.hid hv1
  clear hv1
  obtain ⟨q1, hq1⟩ : ∃ q, L.fr.length = q + 1 := ⟨L.fr.length - 1, by omega⟩
  rw [hq1] at z1 d1 e1 HP
  simp only [Nat.add_sub_cancel] at z1 d1 HP
  have hl1 : g1 < w.heap.size := hg1
  clear hn1 hg1
  have hq12 : q1 ≤ 100000 := by have := hN.1; have := hN.2; omega
  have HQ1 := Lib.hid hq1
  clear hq1
  go_upto_region 4 with (go_at_call 227; refine (lastW_any _ _ _ _ (by omega)).mono ?_; rintro e w' ⟨rfl, rfl⟩)
  obtain ⟨w1, ew⟩ : ∃ W1 : World, W1 = w.setCell ⟨g1, q1 * 2 + 1, none⟩ (.int .i64 t) := ⟨_, rfl⟩
  rw [← ew] at HP ⊢
  replace HI := Lib.hid HP.out.1
  replace HGo := Lib.hid (HGo.out.trans HP.out.2)
  replace hlt := HI.out.lt
  clear ew HP d1 z1 e1
  go_upto_region 5 with (fail)
  obtain ⟨g2, p2, hv2, hg2, hgx2⟩ := HI.out.rowAt (m := 1) (by omega) (show 0 < L.up.length from List.length_pos_iff.2 hup)
  have hn2 : 0 < L.up.length := List.length_pos_iff.2 hup
  obtain ⟨⟨u2, d2⟩, z2⟩ := HI.out.lastCell (m := 1) (by omega) rfl hn2 hv2
  have e2 := cell_of_blk (j := 6) HI.out.blk rfl
  replace e2 : w1.cell? ⟨x, 6, none⟩ = some (.slice (some ⟨g2, 0, none⟩) L.up.length p2) := hv2 ▸ e2
  replace z2 : w1.frozen? ⟨g2, (L.up.length - 1) * 2 + 1, none⟩ = false := z2
  replace d2 : w1.cell? ⟨g2, (L.up.length - 1) * 2 + 1, none⟩ = some u2 := d2
  have HP := Lib.hid (HI.out.put (L' := ({ ({ L with fr := setLast L.fr t } : Lf) with up := setLast L.up t } : Lf)) (m := 1) (o := (L.up.length - 1) * 2 + 1) (u := .int .i64 t) (by omega) (by refine ⟨rfl, rfl, rfl, rfl, rfl, fun k hk hne => ?_⟩; rcases k with _ | _ | _ | _ | _ | _ | k <;> first | exact ⟨rfl, rfl⟩ | exact absurd rfl hne | omega) hv2 rfl (setLast_len _ _ hup) (recs_setLast _ _ hup))
  have HV2 := Lib.hid hv2
  clear hv2
  obtain ⟨q2, hq2⟩ : ∃ q, L.up.length = q + 1 := ⟨L.up.length - 1, by omega⟩
  rw [hq2] at z2 d2 e2 HP
  simp only [Nat.add_sub_cancel] at z2 d2 HP
  have hl2 : g2 < w1.heap.size := hg2
  clear hn2 hg2
  have hq22 : q2 ≤ 100000 := by have := hN.1; have := hN.2; omega
  have HQ2 := Lib.hid hq2
  clear hq2
  go_upto_region 6 with (go_at_call 227; refine (lastW_any _ _ _ _ (by omega)).mono ?_; rintro e w' ⟨rfl, rfl⟩)
  obtain ⟨w2, ew⟩ : ∃ W1 : World, W1 = w1.setCell ⟨g2, q2 * 2 + 1, none⟩ (.int .i64 t) := ⟨_, rfl⟩
  rw [← ew] at HP ⊢
  replace HI := Lib.hid HP.out.1
  replace HGo := Lib.hid (HGo.out.trans HP.out.2)
  replace hlt := HI.out.lt
  clear ew HP d2 z2 e2
  have f2 := cell_of_blk (j := 2) HI.out.blk rfl
  have f3 := cell_of_blk (j := 3) HI.out.blk rfl
  have z2 := HI.out.fro 2
  have z3 := HI.out.fro 3
  have hx23 : (⟨x, 2, none⟩ : Addr) ≠ ⟨x, 3, none⟩ := by simp
  clear c2
  go_wp2_with (fail)
  obtain ⟨q1, q2⟩ := HI.out.num (j := 2) (u := .int .i64 3) (L' := ({ ({ ({ L with fr := setLast L.fr t } : Lf) with up := setLast L.up t } : Lf) with st := 3 } : Lf)) rfl (fun k _ => ⟨rfl, rfl⟩)
  obtain ⟨q3, q4⟩ := q1.num (j := 3) (u := .int .i64 t) (L' := clA L t) rfl (fun k _ => ⟨rfl, rfl⟩)
  go_end0
  exact ⟨rfl, _, q3, (HGo.out.trans q2).trans q4⟩
set_option maxRecDepth 100000 in
set_option maxHeartbeats 2000000 in
theorem turn_clK (x : Nat) (t : Int) (L : Lf) (v : Nat → Value) (w : World) (h : LfI w x L v) (hst : L.st = 2) (hup : L.up ≠ []) (hN : L.up.length ≤ 100000 ∧ L.fr.length ≤ 100000) :
    Calls Tryz.prog 199 #[.pointer (some ⟨x, 0, none⟩), .int .i64 0, .int .i64 t] w fun e w' => e = .returned (.tuple #[]) ∧ ∃ v', LfI w' x (clK L t) v' ∧ LfGo w w' x v v' := by
  obtain ⟨i0, hi0, hz0, hz1, hz2⟩ := info_parts Tryz.infoWinA
  have HI := Lib.hid h
  have HGo := Lib.hid (LfGo.refl w x v)
  have c2 := (show w.cell? ⟨x, 2, none⟩ = some (.int .i64 2) from hst ▸ cell_of_blk (j := 2) h.blk rfl)
  have hlt := h.lt
  clear h
  go_enter Tryz.func199, Tryz.ntmps199
  go_upto_region 5 with (fail)
  obtain ⟨g1, p1, hv1, hg1, hgx1⟩ := HI.out.rowAt (m := 1) (by omega) (show 0 < L.up.length from List.length_pos_iff.2 hup)
  have hn1 : 0 < L.up.length := List.length_pos_iff.2 hup
  obtain ⟨⟨u1, d1⟩, z1⟩ := HI.out.lastCell (m := 1) (by omega) rfl hn1 hv1
  have e1 := cell_of_blk (j := 6) HI.out.blk rfl
  replace e1 : w.cell? ⟨x, 6, none⟩ = some (.slice (some ⟨g1, 0, none⟩) L.up.length p1) := hv1 ▸ e1
  replace z1 : w.frozen? ⟨g1, (L.up.length - 1) * 2 + 1, none⟩ = false := z1
  replace d1 : w.cell? ⟨g1, (L.up.length - 1) * 2 + 1, none⟩ = some u1 := d1
  have HP := Lib.hid (HI.out.put (L' := ({ L with up := setLast L.up t } : Lf)) (m := 1) (o := (L.up.length - 1) * 2 + 1) (u := .int .i64 t) (by omega) (by refine ⟨rfl, rfl, rfl, rfl, rfl, fun k hk hne => ?_⟩; rcases k with _ | _ | _ | _ | _ | _ | k <;> first | exact ⟨rfl, rfl⟩ | exact absurd rfl hne | omega) hv1 rfl (setLast_len _ _ hup) (recs_setLast _ _ hup))
  have HV1 := Lib.hid hv1
  clear hv1
  obtain ⟨q1, hq1⟩ : ∃ q, L.up.length = q + 1 := ⟨L.up.length - 1, by omega⟩
  rw [hq1] at z1 d1 e1 HP
  simp only [Nat.add_sub_cancel] at z1 d1 HP
  have hl1 : g1 < w.heap.size := hg1
  clear hn1 hg1
  have hq12 : q1 ≤ 100000 := by have := hN.1; have := hN.2; omega
  have HQ1 := Lib.hid hq1
  clear hq1
  go_upto_region 6 with (go_at_call 227; refine (lastW_any _ _ _ _ (by omega)).mono ?_; rintro e w' ⟨rfl, rfl⟩)
  obtain ⟨w1, ew⟩ : ∃ W1 : World, W1 = w.setCell ⟨g1, q1 * 2 + 1, none⟩ (.int .i64 t) := ⟨_, rfl⟩
  rw [← ew] at HP ⊢
  replace HI := Lib.hid HP.out.1
  replace HGo := Lib.hid (HGo.out.trans HP.out.2)
  replace hlt := HI.out.lt
  clear ew HP d1 z1 e1
  have f2 := cell_of_blk (j := 2) HI.out.blk rfl
  have f3 := cell_of_blk (j := 3) HI.out.blk rfl
  have z2 := HI.out.fro 2
  have z3 := HI.out.fro 3
  have hx23 : (⟨x, 2, none⟩ : Addr) ≠ ⟨x, 3, none⟩ := by simp
  clear c2
  go_wp2_with (fail)
  obtain ⟨q1, q2⟩ := HI.out.num (j := 2) (u := .int .i64 0) (L' := ({ ({ L with up := setLast L.up t } : Lf) with st := 0 } : Lf)) rfl (fun k _ => ⟨rfl, rfl⟩)
  obtain ⟨q3, q4⟩ := q1.num (j := 3) (u := .int .i64 t) (L' := clK L t) rfl (fun k _ => ⟨rfl, rfl⟩)
  go_end0
  exact ⟨rfl, _, q3, (HGo.out.trans q2).trans q4⟩
set_option maxRecDepth 100000 in
set_option maxHeartbeats 2000000 in
theorem turn_akR (x : Nat) (t : Int) (L : Lf) (v : Nat → Value) (w : World) (h : LfI w x L v) (hst : L.st = 3) :
    Calls Tryz.prog 199 #[.pointer (some ⟨x, 0, none⟩), .int .i64 0, .int .i64 t] w fun e w' => e = .returned (.tuple #[]) ∧ ∃ v', LfI w' x (akR L t) v' ∧ LfGo w w' x v v' := by
  obtain ⟨i0, hi0, hz0, hz1, hz2⟩ := info_parts Tryz.infoWinA
  have HI := Lib.hid h
  have HGo := Lib.hid (LfGo.refl w x v)
  have c2 := (show w.cell? ⟨x, 2, none⟩ = some (.int .i64 3) from hst ▸ cell_of_blk (j := 2) h.blk rfl)
  have hlt := h.lt
  clear h
  go_enter Tryz.func199, Tryz.ntmps199
  have f2 := cell_of_blk (j := 2) HI.out.blk rfl
  have f3 := cell_of_blk (j := 3) HI.out.blk rfl
  have z2 := HI.out.fro 2
  have z3 := HI.out.fro 3
  have hx23 : (⟨x, 2, none⟩ : Addr) ≠ ⟨x, 3, none⟩ := by simp
  go_wp2_with (fail)
  obtain ⟨q1, q2⟩ := HI.out.num (j := 2) (u := .int .i64 0) (L' := ({ L with st := 0 } : Lf)) rfl (fun k _ => ⟨rfl, rfl⟩)
  obtain ⟨q3, q4⟩ := q1.num (j := 3) (u := .int .i64 t) (L' := akR L t) rfl (fun k _ => ⟨rfl, rfl⟩)
  go_end0
  exact ⟨rfl, _, q3, (HGo.out.trans q2).trans q4⟩
set_option maxRecDepth 100000 in
set_option maxHeartbeats 2000000 in
theorem turn_akA (x : Nat) (t : Int) (L : Lf) (v : Nat → Value) (w : World) (h : LfI w x L v) (hst : L.st = 1) (hfr : L.fr ≠ []) (hN : L.up.length ≤ 100000 ∧ L.fr.length ≤ 100000) :
    Calls Tryz.prog 199 #[.pointer (some ⟨x, 0, none⟩), .int .i64 2, .int .i64 t] w fun e w' => e = .returned (.tuple #[]) ∧ ∃ v', LfI w' x (akA L t) v' ∧ LfGo w w' x v v' := by
  obtain ⟨i0, hi0, hz0, hz1, hz2⟩ := info_parts Tryz.infoWinA
  have HI := Lib.hid h
  have HGo := Lib.hid (LfGo.refl w x v)
  have c2 := (show w.cell? ⟨x, 2, none⟩ = some (.int .i64 1) from hst ▸ cell_of_blk (j := 2) h.blk rfl)
  have hlt := h.lt
  clear h
  go_enter Tryz.func199, Tryz.ntmps199
  go_upto_region 3 with (fail)
  obtain ⟨g1, p1, hv1, hg1, hgx1⟩ := HI.out.rowAt (m := 2) (by omega) (show 0 < L.fr.length from List.length_pos_iff.2 hfr)
  have hn1 : 0 < L.fr.length := List.length_pos_iff.2 hfr
  obtain ⟨⟨u1, d1⟩, z1⟩ := HI.out.lastCell (m := 2) (by omega) rfl hn1 hv1
  have e1 := cell_of_blk (j := 7) HI.out.blk rfl
  replace e1 : w.cell? ⟨x, 7, none⟩ = some (.slice (some ⟨g1, 0, none⟩) L.fr.length p1) := hv1 ▸ e1
  replace z1 : w.frozen? ⟨g1, (L.fr.length - 1) * 2 + 1, none⟩ = false := z1
  replace d1 : w.cell? ⟨g1, (L.fr.length - 1) * 2 + 1, none⟩ = some u1 := d1
  have HP := Lib.hid (HI.out.put (L' := ({ L with fr := setLast L.fr t } : Lf)) (m := 2) (o := (L.fr.length - 1) * 2 + 1) (u := .int .i64 t) (by omega) (by refine ⟨rfl, rfl, rfl, rfl, rfl, fun k hk hne => ?_⟩; rcases k with _ | _ | _ | _ | _ | _ | k <;> first | exact ⟨rfl, rfl⟩ | exact absurd rfl hne | omega) hv1 rfl (setLast_len _ _ hfr) (recs_setLast _ _ hfr))
  have HV1 := Lib.hid hv1
  clear hv1
  obtain ⟨q1, hq1⟩ : ∃ q, L.fr.length = q + 1 := ⟨L.fr.length - 1, by omega⟩
  rw [hq1] at z1 d1 e1 HP
  simp only [Nat.add_sub_cancel] at z1 d1 HP
  have hl1 : g1 < w.heap.size := hg1
  clear hn1 hg1
  have hq12 : q1 ≤ 100000 := by have := hN.1; have := hN.2; omega
  have HQ1 := Lib.hid hq1
  clear hq1
  go_upto_region 4 with (go_at_call 227; refine (lastW_any _ _ _ _ (by omega)).mono ?_; rintro e w' ⟨rfl, rfl⟩)
  obtain ⟨w1, ew⟩ : ∃ W1 : World, W1 = w.setCell ⟨g1, q1 * 2 + 1, none⟩ (.int .i64 t) := ⟨_, rfl⟩
  rw [← ew] at HP ⊢
  replace HI := Lib.hid HP.out.1
  replace HGo := Lib.hid (HGo.out.trans HP.out.2)
  replace hlt := HI.out.lt
  clear ew HP d1 z1 e1
  have f2 := cell_of_blk (j := 2) HI.out.blk rfl
  have f3 := cell_of_blk (j := 3) HI.out.blk rfl
  have z2 := HI.out.fro 2
  have z3 := HI.out.fro 3
  have hx23 : (⟨x, 2, none⟩ : Addr) ≠ ⟨x, 3, none⟩ := by simp
  clear c2
  go_wp2_with (fail)
  obtain ⟨q1, q2⟩ := HI.out.num (j := 2) (u := .int .i64 2) (L' := ({ ({ L with fr := setLast L.fr t } : Lf) with st := 2 } : Lf)) rfl (fun k _ => ⟨rfl, rfl⟩)
  obtain ⟨q3, q4⟩ := q1.num (j := 3) (u := .int .i64 t) (L' := akA L t) rfl (fun k _ => ⟨rfl, rfl⟩)
  go_end0
  exact ⟨rfl, _, q3, (HGo.out.trans q2).trans q4⟩
end Go.Proofs.YtgdnedhcbjonkaaGreatDoor

/- What the walks of an alarm's signals share. -/
namespace Go.Proofs.YtgdnedhcbjonkaaGreatDoor
open Go.RowKit

theorem Tryz.infoIntA : (Tryz.prog.info? 3).map (fun i => (i.zero, i.size, i.bytes)) = some (some (.int .i64 0), 1, 8) := by kernel_rfl
/-- A signal as a value. -/
def sgV (s : Sg) : Value := .agg #[.int .i64 s.at_, .int .i64 s.kd, .string (aldT s.d), .string (alrT s.r), .string (alwT s.b), .int .i64 s.un]
/-- The memory of a signal's box. -/
def sgO (s : Sg) : Obj := .cells #[.int .i64 s.at_, .int .i64 s.kd, .string (aldT s.d), .string (alrT s.r), .string (alwT s.b), .int .i64 s.un] 47
theorem LfI.drew {w : World} {x : Nat} {L : Lf} {v : Nat → Value} (h : LfI w x L v) : LfI w.drew x L v := ⟨h.blk, h.row, h.apart⟩
theorem LfGo.drewE {w w' : World} {x : Nat} {v v' : Nat → Value} (h : LfGo w w' x v v') : LfGo w w'.drew x v v' := ⟨⟨h.gr.os, h.gr.tape, h.gr.output, h.gr.size, h.gr.block⟩, h.sub⟩
theorem oneI (t : Int) : ∀ u ∈ ([.int .i64 t] : List Value), u.oneCell' = true := by
  intro u hu
  rw [List.mem_singleton] at hu
  subst hu
  rfl
theorem twoI (t u : Int) : ∀ x ∈ alW (t, u), x.oneCell' = true := by
  intro x hx
  simp only [alW, List.mem_cons, List.not_mem_nil, or_false] at hx
  rcases hx with rfl | rfl <;> rfl
theorem h63A {q : Nat} (h : q ≤ 100000) : q + 1 ≤ maxLen := by unfold maxLen; omega
theorem h47A {q : Nat} (h : q ≤ 100000) : (q + 1) * 8 ≤ 140737488355328 := by omega
/-- An append to an owned row as a step of a drawn region; where the row lies behind it. -/
theorem step_append_rowA {P : Program} {ops : Array Oper} {o : Oper} {a : Act} {w : World} {K : Act → World → Prop} {Q : Exit → Act → World → Prop} {E : Prop}
    (hg : o.guard = none) (s x : Operand) (t : TypeId) (hop : o.op = Op.call { callee := Callee.builtin Builtin.append, args := #[s, x], argTypes := #[t, t] })
    (base : Nat) (e : TypeId) (i : TypeInfo) (z : Value) (size bytes : Nat) (h1 : P.underlying t = some (.slice e)) (h2 : P.info? e = some i) (h3 : i.zero = some z) (h4 : i.size = size) (h5 : i.bytes = bytes) (h6 : z.cells.size = size) (h7 : 0 < size)
    (v : Value) (n : Nat) (xs : List Value) (hs : a.eval s = v) (hown : w.ownsRow base e size v n xs)
    (ad : Addr) (m c : Nat) (news : List Value) (hx : a.eval x = .slice (some ad) m c) (hn : news.length = m * size) (hc : ∀ j u, news[j]? = some u → w.cell? (ad.add j) = some u) (h1c : ∀ u ∈ news, u.oneCell' = true)
    (b1 : n + m ≤ maxLen) (b2 : (n + m) * bytes ≤ 140737488355328) (hb : base ≤ w.heap.size)
    (hK : ∀ v' w', w'.ownsRow base e size v' (n + m) (xs ++ news) → w.grownBy w' v.ownBlock → Moved w v v' → K (a.put o.dst v') w') :
    if Region.wanted o (yielded ops a.tmps) = true then Oper.wp P o a w K Q else E := by
  have hw : Region.wanted o (yielded ops a.tmps) = true := by simp [Region.wanted, hg]
  rw [if_pos hw]
  obtain ⟨v', w', hrun, r1, r2, r3⟩ := run_append_own2 (P := P) w base t o.type e i z size bytes h1 h2 h3 h4 h5 h6 h7 v n xs hown ad m c news hn hc h1c b1 b2 hb
  unfold Oper.wp
  simp [execOp, hop, resolve, invoke, builtin, hs, hx, hrun, Result.andThen]
  exact hK v' w' r1 r2 r3
theorem alI_snoc (l : List Int) (t : Int) : alI (l ++ [t]) = alI l ++ [.int .i64 t] := by simp [alI]
theorem first_grown {w w' : World} {o : Obj} {row : Option Nat} (h : ((w.alloc o).drew).grownBy w' row) : w.grownBy w' row :=
  grown_of_alloc (o := o) ⟨h.os, h.tape, h.output, h.size, h.block⟩
theorem first_moved {w : World} {o : Obj} {v v' : Value} (h : Moved ((w.alloc o).drew) v v') : Moved w v v' := moved_of_alloc (o := o) h
theorem cellsBlkA {w : World} {b : Nat} {cs : Array Value} {t : TypeId} {f : Nat × Nat} {xs : List Value} (h : w.heap[b]? = some (.cells cs t f)) (hx : cs.toList = xs) : Cells w b 0 xs := by
  subst hx
  intro j v hv
  rw [Nat.zero_add]
  exact cell_of_blk h (by simpa using hv)
def FollowPost (w : World) (x : Nat) (v : Nat → Value) (R : Lf × Int) (e : Ending) (w' : World) : Prop := e = .returned (.int .i64 R.2) ∧ ∃ v', LfI w' x R.1 v' ∧ LfGo w w' x v v'
theorem h47B {q : Nat} (h : q ≤ 100000) : (q + 1) * 16 ≤ 140737488355328 := by omega
/-- The last number of a row. -/
theorem last_int {w : World} {A : Option Addr} {n c m : Nat} {l a : List Int} {y : Int} (h : w.ownsRow 0 3 1 (.slice A n c) m (alI l)) (hl : l = a ++ [y]) : ∃ g, A = some ⟨g, 0, none⟩ ∧ w.cell? ⟨g, a.length, none⟩ = some (.int .i64 y) := by
  have hm : m = l.length := by have := h.1; simp [alI] at this; omega
  have hl1 : l.length = a.length + 1 := by rw [hl]; simp
  rcases h.2 with ⟨hv, h0⟩ | ⟨g, cap, cur, hv, _⟩
  · omega
  · injection hv with h1 h2 h3
    subst h1
    refine ⟨g, rfl, (World.ownsRow.cellAt (g := g) (cap := c) (n := m) (by rw [← h2] at h ⊢; exact h) a.length (by omega)).trans ?_⟩
    rw [hl]
    simp [alI]
end Go.Proofs.YtgdnedhcbjonkaaGreatDoor

/- A region that draws its order and whose callees lay blocks of their own, walked once in the text's order: what is so of every world that has grown. -/
namespace Go.Proofs.YtgdnedhcbjonkaaGreatDoor
open Go.RowKit

section
variable {P : Program}
theorem qVal {C : World → Prop} {o : Oper} {a : Act} {K : Act → Prop} {v : Value} (h : ∀ V, C V → (execOp a.eval o).run P V = .ok (.value v) V) (k : K (a.put o.dst v)) : o.quiet P a C K :=
  ⟨v, fun w hw => by unfold Oper.quietAt; rw [h w hw]; exact ⟨rfl, rfl⟩, k⟩
theorem qCall {C : World → Prop} {o : Oper} {a : Act} {K : Act → Prop} {v : Value} {f : FuncId} {args : Array Value} (h : ∀ V, C V → (execOp a.eval o).run P V = .ok (.enter f args) V)
    (hc : ∀ V, C V → Calls P f args V fun e w' => e = .returned v ∧ C w') (k : K (a.put o.dst v)) : o.quiet P a C K :=
  ⟨v, fun w hw => by unfold Oper.quietAt; rw [h w hw]; exact ⟨rfl, hc w hw⟩, k⟩
theorem qWant {ops : Array Oper} {C : World → Prop} {Q : Act → Prop} {o : Oper} {rest : List Oper} {a : Act} (hw : Region.wanted o (yielded ops a.tmps) = true) (h : ∀ K : Act → Prop, (∀ a, wpQuiet P ops C Q rest a → K a) → o.quiet P a C K) : wpQuiet P ops C Q (o :: rest) a :=
  wpQuiet_step (fun K hK => by rw [if_pos hw]; exact h K hK)
theorem qSkip {ops : Array Oper} {C : World → Prop} {Q : Act → Prop} {o : Oper} {rest : List Oper} {a : Act} (hw : Region.wanted o (yielded ops a.tmps) = false) (h : wpQuiet P ops C Q rest (a.put o.dst undef)) : wpQuiet P ops C Q (o :: rest) a :=
  wpQuiet_step (fun K hK => by rw [if_neg (by rw [hw]; exact Bool.false_ne_true)]; exact hK _ h)
/-- The class: what has grown out of w. -/
theorem qRegion {id : Nat} {Q : Exit → Act → World → Prop} {a : Act} {w : World} {l : List Oper} (hm : P.follows .mixedOrders = true) (hB : Region.lexB .any l.toArray = true)
    (h : wpQuiet P l.toArray (fun V => Below w.heap.size w V) (fun a' => ∀ w', Below w.heap.size w w' → Q .normal a' w') l a) : (Code.region id l.toArray true).wp P Q a w :=
  wp_region_quiet (C := fun V => Below w.heap.size w V) hm hB ((Below.refl _ _).drew) (by simpa using h)
end
end Go.Proofs.YtgdnedhcbjonkaaGreatDoor

/- A region that draws its order: what comes first is quiet in a class of worlds and walked once in the text's order, what comes last has one order only and is walked as it stands. -/
namespace Go.Proofs.YtgdnedhcbjonkaaGreatDoor
open Go.RowKit

section
variable {P : Program} {ops : Array Oper} {md : Region.Mode} {C : World → Prop}
/-- The quiet operations below n in whatever order, then L. -/
def hAny (P : Program) (md : Region.Mode) (ops : Array Oper) (C : World → Prop) (n : Nat) (L : Array Bool → Act → Prop) : Nat → Array Bool → Act → Prop
  | 0, d, a => L d a
  | f + 1, d, a => Region.ready md ops d ≠ [] ∧ ∀ j ∈ Region.ready md ops d, j < n ∧ qOp P ops C j (hAny P md ops C n L f (d.setIfInBounds j true)) a
theorem any_of_hAny {n g : Nat} {L : Array Bool → Act → Prop} {R : Exit → Act → World → Prop} (hL : ∀ d a w, C w → L d a → wpAny P md ops R g d a w) (f : Nat) :
    ∀ d a w, C w → hAny P md ops C n L f d a → wpAny P md ops R (f + g) d a w := by
  induction f with
  | zero => intro d a w hw h; rw [Nat.zero_add]; exact hL d a w hw h
  | succ f ih =>
    intro d a w hw h
    rw [Nat.add_right_comm]
    exact ⟨fun h0 => absurd h0 h.1, fun j hj => wpOp_of_qOp hw (fun a' w' hw' h' => ih _ a' w' hw' h') (h.2 j hj).2⟩
theorem hAny_first {n i : Nat} {oi : Oper} {v : Value} {L : Array Bool → Act → Prop} (hi : ops[i]? = some oi) (hsel : ∀ (j : Nat) (o : Oper) cs b, ops[j]? = some o → o.op ≠ .select cs b)
    (hs : Region.sinkB md ops n = true) (hc : Region.chainB md ops n = true) (hn : n < ops.size) (hin : i < n) (hL : ∀ d a, L d a → ∀ j ∈ Region.ready md ops d, n ≤ j) (f : Nat) :
    ∀ d a, HeadInv md ops n d → (∀ j oj, ops[j]? = some oj → j ≠ i → d.getD j true = false → (∀ e ∈ oj.after, Region.binds md e = true → e.on ≠ i) → oi.apart ops oj = true) →
      i ∈ Region.ready md ops d → YieldsIn P ops C oi v a → hAny P md ops C n L f (d.setIfInBounds i true) (a.put oi.dst v) → hAny P md ops C n L (f + 1) d a := by
  have low : ∀ d, HeadInv md ops n d → i ∈ Region.ready md ops d → ∀ j ∈ Region.ready md ops d, j < n := fun d inv hr j hj => by
    rcases Nat.lt_or_ge j n with h | h
    · exact h
    · exact absurd hj (tail_waits hs hc hn inv _ i rfl hin (mem_ready.1 hr).1 j h)
  induction f with
  | zero =>
    intro d a inv _ hr hy H
    refine ⟨List.ne_nil_of_mem hr, fun j hj => ⟨low d inv hr j hj, ?_⟩⟩
    rcases Decidable.em (j = i) with rfl | hji
    · exact hy.qOp hi H
    · have h1 := hL _ _ H j (ready_mono hj hji)
      have h2 := low d inv hr j hj
      omega
  | succ f ih =>
    intro d a inv hfree hr hy H
    refine ⟨List.ne_nil_of_mem hr, fun j hj => ⟨low d inv hr j hj, ?_⟩⟩
    rcases Decidable.em (j = i) with rfl | hji
    · exact hy.qOp hi H
    · obtain ⟨u, oj, hoj, hall⟩ := mem_ready.1 hj
      have hno : ∀ e ∈ oj.after, Region.binds md e = true → e.on ≠ i := by
        intro e he hb h
        have h1 := hall e he hb
        rw [h, getD_both (mem_ready.1 hr).1] at h1
        cases h1
      refine qOp_mono (fun a' h3 => ih (d.setIfInBounds j true) a' (inv.set hj (low d inv hr j hj)) ?_ (ready_mono hr (Ne.symm hji)) h3.1 ?_)
        (qOp_put hoj (hfree j oj hoj hji u hno) (fun cs b => hsel i oi cs b hi) (fun cs b => hsel j oj cs b hoj) hy (H.2 j (ready_mono hj hji)).2)
      · intro k ok hk hki hun
        refine hfree k ok hk hki ?_
        rcases Decidable.em (j = k) with rfl | hjk
        · exact u
        · rwa [getD_set_ne true hjk] at hun
      · rw [Array.setIfInBounds_comm _ _ hji]
        exact h3.2
theorem hAny_lex {n g : Nat} {K : Act → Prop} (hsel : Region.noSelect ops = true) (hs : Region.sinkB md ops n = true) (hc : Region.chainB md ops n = true) (hn : n < ops.size) (l : List Oper) :
    ∀ k d a, (∀ j, j < l.length → l[j]? = ops[k + j]?) → k + l.length = n → HeadInv md ops n d → Region.lexHead md ops g l.length k d = true → wpQuiet P ops C K l a →
      hAny P md ops C n (fun d' a' => Region.seqB md ops g n d' = true ∧ K a') l.length d a := by
  induction l with
  | nil =>
    intro k d a _ hk _ hB h
    obtain rfl : k = n := by simpa using hk
    exact ⟨by simpa [Region.lexHead] using hB, h⟩
  | cons o l ih =>
    intro k d a hl hk inv hB h
    have h0 : ops[k]? = some o := by simpa using (hl 0 (by simp)).symm
    simp only [List.length_cons] at hk
    simp only [List.length_cons, Region.lexHead, Bool.and_eq_true] at hB
    have hr : k ∈ Region.ready md ops d := by simpa using hB.1.1
    obtain ⟨v, hy, hK⟩ := yieldsIn_of_qOp (K := wpQuiet P ops C K l) h0 (by unfold qOp; simp only [h0]; exact h)
    refine hAny_first h0 (Region.noSelect_spec hsel) hs hc hn (by omega) (fun d' a' hL => seqB_ready hL.1) l.length d a inv (Region.free_spec h0 hB.1.2) hr hy
      (ih (k + 1) _ _ (fun j hj => ?_) (by omega) (inv.set hr (by omega)) hB.2 hK)
    have := hl (j + 1) (by simp; omega)
    simpa [Nat.add_assoc, Nat.add_comm 1 j] using this
/-- The quiet part is n operations long. -/
theorem region_quiet_tail {id : Nat} {R : Exit → Act → World → Prop} {a : Act} {w : World} {l : List Oper} (n : Nat) (hm : P.follows .mixedOrders = true) (hB : Region.lexTailB .any l.toArray n = true) (hC : C w.drew)
    (h : wpQuiet P l.toArray C (fun a' => ∀ w', C w' → wpList P l.toArray R (l.drop n) a' w') (l.take n) a) : (Code.region id l.toArray true).wp P R a w := by
  simp only [Region.lexTailB, Bool.and_eq_true, decide_eq_true_eq] at hB
  obtain ⟨⟨⟨⟨hsel, hn⟩, hs⟩, hc⟩, hlex⟩ := hB
  have hn' : n < l.length := by simpa using hn
  have htl : (l.take n).length = n := by rw [List.length_take]; omega
  have hdl : (l.drop n).length = l.toArray.size - n := by simp
  have inv : HeadInv .any l.toArray n (Array.replicate l.toArray.size false) :=
    ⟨by simp, fun j oj _ hj => (by rw [getD_replicate_false] at hj; cases hj), fun t _ ht => getD_in (by simpa using ht) (getD_replicate_false _ _)⟩
  have H := hAny_lex (md := .any) (g := l.toArray.size - n) hsel hs hc hn (l.take n) 0 _ a (fun j hj => by rw [htl] at hj; simp [hj]) (by omega) inv (by rw [htl]; exact hlex) h
  have H2 := any_of_hAny (R := R) (g := l.toArray.size - n) (fun d a' w' hw hL => by
    have := wpAny_of_seq (md := .any) (Q' := R) (l.drop n) n d a' w' (fun j => by simp [List.getElem?_drop]) (by rw [hdl]; exact hL.1) (hL.2 w' hw)
    rwa [hdl] at this) _ _ _ w.drew hC H
  rw [htl, show n + (l.toArray.size - n) = l.toArray.size by omega] at H2
  exact wp_region_any hm H2
/-- The class: what has grown out of w. -/
theorem qRegionTail {id : Nat} {R : Exit → Act → World → Prop} {a : Act} {w : World} {l : List Oper} (n : Nat) (hm : P.follows .mixedOrders = true) (hB : Region.lexTailB .any l.toArray n = true)
    (h : wpQuiet P l.toArray (fun V => Below w.heap.size w V) (fun a' => ∀ w', Below w.heap.size w w' → wpList P l.toArray R (l.drop n) a' w') (l.take n) a) : (Code.region id l.toArray true).wp P R a w :=
  region_quiet_tail n hm hB ((Below.refl _ _).drew) h
end
end Go.Proofs.YtgdnedhcbjonkaaGreatDoor

/- As XQs, but the region's first operation moves what a later one asks for, and may come late; it is taken first: each operation is looked at once, at the frame of the end; where the new blocks lie is a variable. No program in sight. -/
namespace Go.Proofs.YtgdnedhcbjonkaaGreatDoor
namespace QM
open Go.RowKit

/-- A new block, and the value that says where it lies. -/
abbrev NB := Obj × (Nat → Value)
def sinkM (ops : Array Oper) (n : Nat) : Bool :=
  (List.range n).all fun i => decide (i < 1) || (List.range (n + 1)).any fun j => decide (i < j) && Region.waitsFor .any ops j i
theorem tail_waitsM {ops : Array Oper} {n : Nat} {listed : Array Bool} (hs : sinkM ops n = true) (hc : Region.chainB .any ops n = true) (hn : n < ops.size) (inv : HeadInv .any ops n listed) :
    ∀ (d i : Nat), n - i = d → 1 ≤ i → i < n → listed.getD i true = false → ∀ t, n ≤ t → t ∉ Region.ready .any ops listed := by
  intro d
  induction d using Nat.strongRecOn with
  | _ d ih =>
    intro i hd hi1 hi hun t ht hr
    obtain ⟨_, ot, hot, hall⟩ := mem_ready.1 hr
    have htlt : t < ops.size := (Array.getElem?_eq_some_iff.1 hot).1
    by_cases htn : t = n
    · subst htn
      have h1 := List.all_eq_true.1 hs i (List.mem_range.2 hi)
      rw [show decide (i < 1) = false from decide_eq_false (by omega), Bool.false_or] at h1
      obtain ⟨j, hj, hj2⟩ := List.any_eq_true.1 h1
      simp only [Bool.and_eq_true, decide_eq_true_eq] at hj2
      obtain ⟨oj, hoj, e, he, hb, hon⟩ := Region.waitsFor_spec hj2.2
      have hjle : j ≤ t := by have := List.mem_range.1 hj; omega
      by_cases hjt : j = t
      · subst hjt
        have : oj = ot := Option.some.inj (hoj.symm.trans hot)
        subst this
        have h2 := hall e he hb
        rw [hon, getD_both hun] at h2
        cases h2
      · cases hl : listed.getD j false with
        | true =>
          have h2 := inv.closed j oj hoj hl e he hb
          rw [hon, getD_both hun] at h2
          cases h2
        | false =>
          have hjs : j < listed.size := by rw [inv.size]; omega
          exact ih (t - j) (by omega) j rfl (by omega) (by omega) (getD_in hjs hl) t (Nat.le_refl _) hr
    · have h1 := List.all_eq_true.1 hc t (List.mem_range.2 htlt)
      simp only [Bool.or_eq_true, decide_eq_true_eq] at h1
      rcases h1 with h1 | h1
      · omega
      · obtain ⟨o', ho', e, he, hb, hon⟩ := Region.waitsFor_spec h1
        have : o' = ot := Option.some.inj (ho'.symm.trans hot)
        subst this
        have h2 := hall e he hb
        rw [hon, getD_both (inv.tail (t - 1) (by omega) (by omega))] at h2
        cases h2

def putL : Act → List Oper → List Value → Act
  | a, o :: os, v :: vs => putL (a.put o.dst v) os vs
  | a, _, _ => a
def putG (G : Nat → Nat) : Act → List Oper → List (Option NB) → Nat → Act
  | a, o :: os, m :: ms, k => putG G (match m with | none => a | some p => a.put o.dst (p.2 (G k))) os ms (k + 1)
  | a, _, _, _ => a
def QR (P : Program) (A : Act) (o : Oper) (w : World) (v : Value) : Prop :=
  (execOp A.eval o).run P w = .ok (.value v) w ∨ ∃ f args, (execOp A.eval o).run P w = .ok (.enter f args) w ∧ Calls P f args w (fun e w' => e = .returned v ∧ Below w.heap.size w w')
def QAl (P : Program) (A : Act) (o : Oper) (ob : NB) : Prop := ∀ w, (execOp A.eval o).run P w = .ok (.value (ob.2 w.heap.size)) (w.alloc ob.1)
def QOne (P : Program) (W : World) (A : Act) (o : Oper) (v : Value) (m : Option NB) : Prop :=
  match m with
  | none => ∀ w, Below W.heap.size W w → QR P A o w v
  | some ob => QAl P A o ob
def QOps (P : Program) (W : World) (A : Act) : List Oper → List Value → List (Option NB) → Prop
  | o :: os, v :: vs, m :: ms => QOne P W A o v m ∧ QOps P W A os vs ms
  | _, _, _ => True
theorem QOps.get {P : Program} {W : World} {A : Act} : ∀ {os : List Oper} {vs : List Value} {ms : List (Option NB)} {k : Nat} {o : Oper} {v : Value} {m : Option NB}, QOps P W A os vs ms → os[k]? = some o → vs[k]? = some v → ms[k]? = some m → QOne P W A o v m
  | o :: os, v :: vs, m :: ms, 0, _, _, _, h, h1, h2, h3 => by cases h1; cases h2; cases h3; exact h.1
  | o :: os, v :: vs, m :: ms, k + 1, _, _, _, h, h1, h2, h3 => QOps.get h.2 h1 h2 h3
  | [], _, _, _, _, _, _, _, h1, _, _ => by simp at h1
  | _ :: _, [], _, _, _, _, _, _, _, h2, _ => by simp at h2
  | _ :: _, _ :: _, [], _, _, _, _, _, _, _, h3 => by simp at h3
def opB (ops : Array Oper) (n : Nat) (ms : List (Option NB)) (i : Nat) : Bool :=
  match ops[i]? with
  | none => false
  | some o => o.guard.isNone && o.dst.isSome && o.after.all (fun e => !Region.binds .any e || decide (e.on < i)) &&
      (List.range n).all (fun k => match ops[k]? with
        | none => false
        | some p => (k == i || p.dst != o.dst) &&
          (match p.dst with
            | none => false
            | some t => !(o.looksAt ops).contains t || ((match ms[k]? with | some none => true | _ => false) && o.after.any (fun e => Region.binds .any e && e.on == k))))
def allB (m n : Nat) : Array Bool := Array.replicate n true ++ Array.replicate (m - n) false
def ptB (ops : Array Oper) (n : Nat) (ms : List (Option NB)) : Bool :=
  Region.noSelect ops && decide (n < ops.size) && sinkM ops n && Region.chainB .any ops n && Region.seqB .any ops (ops.size - n) n (allB ops.size n) && (List.range n).all (opB ops n ms)
structure OpOk (ops : Array Oper) (n : Nat) (ms : List (Option NB)) (i : Nat) (o : Oper) (t : Tmp) : Prop where
  guard : o.guard = none
  dst : o.dst = some t
  back : ∀ e ∈ o.after, Region.binds .any e = true → e.on < i
  apart : ∀ k p u, k < n → ops[k]? = some p → p.dst = some u → k ≠ i → u ≠ t
  looks : ∀ k p u, k < n → ops[k]? = some p → p.dst = some u → u ∈ o.looksAt ops → ms[k]? = some none ∧ ∃ e ∈ o.after, Region.binds .any e = true ∧ e.on = k
theorem opB_spec {ops : Array Oper} {n : Nat} {ms : List (Option NB)} {i : Nat} (h : opB ops n ms i = true) : ∃ o t, ops[i]? = some o ∧ OpOk ops n ms i o t := by
  unfold opB at h
  cases ho : ops[i]? with
  | none => rw [ho] at h; cases h
  | some o =>
    rw [ho] at h
    simp only [Bool.and_eq_true] at h
    obtain ⟨⟨⟨h1, h2⟩, h3⟩, h4⟩ := h
    obtain ⟨t, ht⟩ := Option.isSome_iff_exists.1 h2
    refine ⟨o, t, rfl, Option.isNone_iff_eq_none.1 h1, ht, ?_, ?_, ?_⟩
    · intro e he hb
      have := Array.all_eq_true_iff_forall_mem.1 h3 e he
      rw [hb] at this
      simpa using this
    · intro k p u hk hp hu hki e
      have := List.all_eq_true.1 h4 k (List.mem_range.2 hk)
      rw [hp] at this
      simp only [Bool.and_eq_true, Bool.or_eq_true, beq_iff_eq, bne_iff_ne] at this
      rcases this.1 with g | g
      · exact hki g
      · rw [hu, ht, e] at g; exact g rfl
    · intro k p u hk hp hu hm
      have := List.all_eq_true.1 h4 k (List.mem_range.2 hk)
      rw [hp] at this
      simp only [hu, Bool.and_eq_true, Bool.or_eq_true, Bool.not_eq_true'] at this
      rcases this.2 with g | ⟨g1, g2⟩
      · rw [List.contains_iff_mem.2 hm] at g; cases g
      · refine ⟨?_, ?_⟩
        · cases hms : ms[k]? with
          | none => rw [hms] at g1; cases g1
          | some m =>
            cases m with
            | none => rfl
            | some ob => rw [hms] at g1; cases g1
        · obtain ⟨j, hj, hj2⟩ := Array.any_eq_true.1 g2
          simp only [Bool.and_eq_true, beq_iff_eq] at hj2
          exact ⟨_, Array.getElem_mem hj, hj2.1, hj2.2⟩
theorem wpAny_more {P : Program} {md : Region.Mode} {ops : Array Oper} {Q : Exit → Act → World → Prop} : ∀ (f : Nat) (d : Array Bool) (a : Act) (w : World), wpAny P md ops Q f d a w → wpAny P md ops Q (f + 1) d a w
  | 0, d, a, w, h => ⟨fun _ => h.2, fun i hi => by rw [h.1] at hi; cases hi⟩
  | f + 1, d, a, w, h => ⟨h.1, fun i hi => wpOp_mono (fun a' w' h' => wpAny_more f _ a' w' h') (h.2 i hi)⟩
theorem wpAny_le {P : Program} {md : Region.Mode} {ops : Array Oper} {Q : Exit → Act → World → Prop} {f g : Nat} (hfg : f ≤ g) {d : Array Bool} {a : Act} {w : World} (h : wpAny P md ops Q f d a w) : wpAny P md ops Q g d a w := by
  induction hfg with
  | refl => exact h
  | step _ ih => exact wpAny_more _ _ _ _ ih
def cntU (d : Array Bool) : Nat → Nat
  | 0 => 0
  | k + 1 => cntU d k + (if d.getD k false = true then 0 else 1)
theorem cntU_zero {d : Array Bool} : ∀ {n : Nat}, cntU d n = 0 → ∀ k, k < n → d.getD k false = true
  | 0, _, k, hk => by omega
  | n + 1, h, k, hk => by
    simp only [cntU] at h
    split at h
    · rename_i h1
      rcases Nat.lt_or_eq_of_le (Nat.le_of_lt_succ hk) with h2 | h2
      · exact cntU_zero (by omega) k h2
      · rw [h2]; exact h1
    · omega
theorem cntU_some {d : Array Bool} : ∀ {n : Nat}, 0 < cntU d n → ∃ k, k < n ∧ d.getD k false = false ∧ ∀ j, j < k → d.getD j false = true
  | 0, h => by simp [cntU] at h
  | n + 1, h => by
    by_cases h0 : 0 < cntU d n
    · obtain ⟨k, h1, h2⟩ := cntU_some h0
      exact ⟨k, by omega, h2⟩
    · simp only [cntU] at h
      split at h
      · omega
      · rename_i h1
        exact ⟨n, by omega, by simpa using h1, fun j hj => cntU_zero (by omega) j hj⟩
theorem cntU_set {d : Array Bool} {i : Nat} (hi : i < d.size) (h : d.getD i false = false) : ∀ {n : Nat}, cntU (d.setIfInBounds i true) n = cntU d n - (if i < n then 1 else 0) ∧ (i < n → 0 < cntU d n)
  | 0 => by simp [cntU]
  | n + 1 => by
    obtain ⟨h1, h2⟩ := cntU_set hi h (n := n)
    simp only [cntU]
    by_cases hin : i = n
    · subst hin
      have e1 : (if i < i then 1 else 0 : Nat) = 0 := if_neg (Nat.lt_irrefl i)
      have e2 : (if i < i + 1 then 1 else 0 : Nat) = 1 := if_pos (Nat.lt_succ_self i)
      have e3 : (d.setIfInBounds i true).getD i false = true := by simp [hi]
      rw [h1, e1, e2, e3, h]
      simp
    · rw [h1, getD_set_ne false hin]
      by_cases hl : i < n
      · have e1 : (if i < n then 1 else 0 : Nat) = 1 := if_pos hl
        have e2 : (if i < n + 1 then 1 else 0 : Nat) = 1 := if_pos (by omega)
        have := h2 hl
        rw [e1, e2]
        exact ⟨by omega, fun _ => by omega⟩
      · have e1 : (if i < n then 1 else 0 : Nat) = 0 := if_neg hl
        have e2 : (if i < n + 1 then 1 else 0 : Nat) = 0 := if_neg (by omega)
        rw [e1, e2]
        exact ⟨by omega, fun h => by omega⟩
theorem putL_get : ∀ (os : List Oper) (vs : List Value) (a : Act) (t : Tmp), (∀ o ∈ os, o.dst ≠ some t) → (putL a os vs).tmps[t]? = a.tmps[t]?
  | [], _, a, t, _ => rfl
  | _ :: _, [], a, t, _ => rfl
  | o :: os, v :: vs, a, t, h => by
    rw [putL, putL_get os vs _ t (fun p hp => h p (List.mem_cons_of_mem _ hp))]
    have h0 := h o List.mem_cons_self
    unfold Act.put
    split
    · rename_i d hd
      rw [hd] at h0
      simp only
      rw [Array.getElem?_setIfInBounds_ne (fun e => h0 (by rw [e]))]
    · rfl
theorem put_size (a : Act) (d : Option Tmp) (v : Value) : (a.put d v).tmps.size = a.tmps.size ∧ (a.put d v).defers = a.defers := by
  unfold Act.put
  split
  · simp
  · exact ⟨rfl, rfl⟩
theorem putL_size : ∀ (os : List Oper) (vs : List Value) (a : Act), (putL a os vs).tmps.size = a.tmps.size ∧ (putL a os vs).defers = a.defers
  | [], _, a => ⟨rfl, rfl⟩
  | _ :: _, [], a => ⟨rfl, rfl⟩
  | o :: os, v :: vs, a => by
    obtain ⟨h1, h2⟩ := putL_size os vs (a.put o.dst v)
    obtain ⟨g1, g2⟩ := put_size a o.dst v
    exact ⟨h1.trans g1, h2.trans g2⟩
theorem putL_at : ∀ (os : List Oper) (vs : List Value) (a : Act) (k : Nat) (o : Oper) (v : Value) (t : Tmp), os[k]? = some o → vs[k]? = some v → o.dst = some t → t < a.tmps.size → (∀ j p, os[j]? = some p → j ≠ k → p.dst ≠ some t) → (putL a os vs).tmps[t]? = some v
  | [], _, a, k, o, v, t, h1, _, _, _, _ => by simp at h1
  | _ :: _, [], a, k, o, v, t, _, h2, _, _, _ => by simp at h2
  | p :: os, u :: vs, a, 0, o, v, t, h1, h2, h3, h4, h5 => by
    cases h1; cases h2
    rw [putL, putL_get os vs _ t (fun q hq => by
      obtain ⟨j, hj⟩ := List.getElem?_of_mem hq
      exact h5 (j + 1) q (by simpa using hj) (by omega))]
    unfold Act.put
    rw [h3]
    simp [h4]
  | p :: os, u :: vs, a, k + 1, o, v, t, h1, h2, h3, h4, h5 => by
    rw [putL]
    refine putL_at os vs _ k o v t (by simpa using h1) (by simpa using h2) h3 ?_ (fun j q hj hne => h5 (j + 1) q (by simpa using hj) (by omega))
    rw [(put_size _ _ _).1]; exact h4
structure PInv (W : World) (ops : Array Oper) (n : Nat) (ms : List (Option NB)) (A : Act) (G : Nat → Nat) (d : Array Bool) (a : Act) (w : World) : Prop where
  head : HeadInv .any ops n d
  pre : d.getD 0 false = true
  bel : Below W.heap.size W w
  defers : a.defers = A.defers
  size : a.tmps.size = A.tmps.size
  slot : ∀ t, (∀ k o, k < n → ops[k]? = some o → o.dst = some t → d.getD k false = true ∧ ms[k]? = some none) → a.tmps[t]? = A.tmps[t]?
  al : ∀ k o t ob, k < n → ops[k]? = some o → o.dst = some t → ms[k]? = some (some ob) → d.getD k false = true → a.tmps[t]? = some (ob.2 (G k)) ∧ W.heap.size ≤ G k ∧ w.heap[G k]? = some ob.1
  ne : ∀ k j ob ob', k < n → j < n → ms[k]? = some (some ob) → ms[j]? = some (some ob') → d.getD k false = true → d.getD j false = true → k ≠ j → G k ≠ G j
section
variable {P : Program} {W : World} {ops : Array Oper} {n : Nat} {vs : List Value} {ms : List (Option NB)} {A : Act}
theorem eval_agree {a a' : Act} {x : Operand} (h : ∀ t, x = .tmp t → a.tmps[t]? = a'.tmps[t]?) : a.eval x = a'.eval x := by
  cases x with
  | tmp t =>
    have := h t rfl
    simp only [Act.eval, Array.getD_eq_getD_getElem?, this]
  | const v => rfl
  | global g => rfl
  | func f => rfl
theorem heap_keep {w w' : World} {g : Nat} {ob : Obj} (h : w.heap[g]? = some ob) (hb : Below w.heap.size w w') : w'.heap[g]? = some ob :=
  (hb.block g (Array.getElem?_eq_some_iff.1 h).1).trans h
theorem region_pt {R : Exit → Act → World → Prop} (hB : ptB ops n ms = true) (hq : QOps P W A (ops.toList.take n) vs ms) (hvs : vs.length = n) (hms : ms.length = n)
    (hA : ∀ k o v t, k < n → ops[k]? = some o → vs[k]? = some v → o.dst = some t → t < A.tmps.size ∧ (ms[k]? = some none → A.tmps[t]? = some v))
    (hend : ∀ a w G, PInv W ops n ms A G (allB ops.size n) a w → wpList P ops R (ops.toList.drop n) a w) :
    ∀ (f : Nat) (d : Array Bool) (a : Act) (w : World) (G : Nat → Nat), PInv W ops n ms A G d a w → cntU d n = f → wpAny P .any ops R (f + (ops.size - n)) d a w := by
  unfold ptB at hB
  simp only [Bool.and_eq_true, decide_eq_true_eq] at hB
  obtain ⟨⟨⟨⟨⟨hsel, hn⟩, hs⟩, hc⟩, hseq⟩, hops⟩ := hB
  have hok : ∀ i, i < n → ∃ o t, ops[i]? = some o ∧ OpOk ops n ms i o t := fun i hi => opB_spec (List.all_eq_true.1 hops i (List.mem_range.2 hi))
  have hdl : (ops.toList.drop n).length = ops.size - n := by simp
  intro f
  induction f with
  | zero =>
    intro d a w G inv hcn
    have hall := cntU_zero hcn
    have hd : d = allB ops.size n := by
      refine Array.ext (by unfold allB; rw [inv.head.size]; simp; omega) (fun i h1 h2 => ?_)
      rw [inv.head.size] at h1
      have hg : d.getD i false = (allB ops.size n).getD i false := by
        by_cases hin : i < n
        · rw [hall i hin]
          unfold allB
          simp [Array.getElem?_append, hin]
        · have h3 := getD_both (inv.head.tail i (by omega) h1)
          rw [h3]
          unfold allB
          simp only [Array.getD_eq_getD_getElem?, Array.getElem?_append, Array.size_replicate, hin, if_false, Array.getElem?_replicate]
          split <;> rfl
      have e1 : d.getD i false = d[i] := by simp [inv.head.size, h1]
      have e2 : (allB ops.size n).getD i false = (allB ops.size n)[i] := by
        rw [Array.getD_eq_getD_getElem?, Array.getElem?_eq_getElem h2]; rfl
      rw [e1, e2] at hg
      exact hg
    rw [Nat.zero_add]
    have := wpAny_of_seq (P := P) (md := .any) (Q' := R) (ops.toList.drop n) n d a w (fun j => by simp [List.getElem?_drop]) (by rw [hdl, hd]; exact hseq) (hend a w G (hd ▸ inv))
    rwa [hdl] at this
  | succ f ih =>
    intro d a w G inv hcn
    obtain ⟨k0, hk0, hk1, hk2⟩ := cntU_some (d := d) (n := n) (by omega)
    have hr0 : k0 ∈ Region.ready .any ops d := by
      obtain ⟨o, t, ho, hO⟩ := hok k0 hk0
      exact mem_ready.2 ⟨getD_in (by rw [inv.head.size]; omega) hk1, o, ho, fun e he hb => hk2 _ (hO.back e he hb)⟩
    have hlow : ∀ j ∈ Region.ready .any ops d, j < n := fun j hj => by
      rcases Nat.lt_or_ge j n with h | h
      · exact h
      · exact absurd hj (tail_waitsM hs hc hn inv.head _ k0 rfl (Nat.pos_of_ne_zero fun e => by rw [e, inv.pre] at hk1; cases hk1) hk0 (mem_ready.1 hr0).1 j h)
    rw [Nat.succ_add]
    refine ⟨fun h => (by rw [h] at hr0; cases hr0), fun i hi => ?_⟩
    have hin := hlow i hi
    obtain ⟨hiu, oi, hoi, hiall⟩ := mem_ready.1 hi
    obtain ⟨o, t, ho, hO⟩ := hok i hin
    obtain rfl : o = oi := Option.some.inj (ho.symm.trans hoi)
    have hid : d.getD i false = false := getD_both hiu
    have hisz : i < d.size := by rw [inv.head.size]; omega
    obtain ⟨v, hv⟩ : ∃ v, vs[i]? = some v := ⟨_, List.getElem?_eq_getElem (by omega)⟩
    obtain ⟨m, hm⟩ : ∃ m, ms[i]? = some m := ⟨_, List.getElem?_eq_getElem (by omega)⟩
    obtain ⟨htA, hvA⟩ := hA i o v t hin ho hv hO.dst
    have hQ := hq.get (k := i) (by rw [List.getElem?_take_of_lt hin]; simpa using ho) hv hm
    have hexec : execOp a.eval o = execOp A.eval o := by
      refine execOp_congr o (fun cs b => Region.noSelect_spec hsel i o cs b ho) (fun x hx => eval_agree (fun u hu => inv.slot u (fun k p hk hp hpu => ?_)))
      have hlook : u ∈ o.looksAt ops := by
        subst hu
        exact List.mem_append_left _ (List.mem_filterMap.2 ⟨.tmp u, by simpa using hx, rfl⟩)
      obtain ⟨g1, e, he, hb, hon⟩ := hO.looks k p u hk hp hpu hlook
      exact ⟨hon ▸ hiall e he hb, g1⟩
    have hcnt : cntU (d.setIfInBounds i true) n = f := by
      obtain ⟨h1, h2⟩ := cntU_set hisz hid (n := n)
      rw [h1, if_pos hin]; omega
    have hdset : ∀ k, (d.setIfInBounds i true).getD k false = true → k = i ∨ d.getD k false = true := fun k hk => by
      by_cases hki : i = k
      · exact .inl hki.symm
      · rw [getD_set_ne false hki] at hk; exact .inr hk
    -- the frame behind it
    have hput : ∀ (u : Value) (s : Tmp), (a.put o.dst u).tmps[s]? = if s = t then some u else a.tmps[s]? := by
      intro u s
      rw [hO.dst]
      unfold Act.put
      simp only
      by_cases hst : s = t
      · subst hst
        rw [if_pos rfl]
        simp [inv.size, htA]
      · rw [if_neg hst, Array.getElem?_setIfInBounds_ne (fun e => hst e.symm)]
    have hnew : ∀ (u : Value) (w' : World) (G' : Nat → Nat), Below w.heap.size w w' → (m = none → u = v) → (∀ ob, m = some ob → u = ob.2 w.heap.size ∧ w'.heap[w.heap.size]? = some ob.1 ∧ G' i = w.heap.size) → (∀ k, k ≠ i → G' k = G k) →
        PInv W ops n ms A G' (d.setIfInBounds i true) (a.put o.dst u) w' := by
      intro u w' G' hb hu hal hGk
      refine ⟨inv.head.set hi hin, getD_set_true inv.pre, inv.bel.trans (hb.mono inv.bel.size), by rw [(put_size _ _ _).2]; exact inv.defers, by rw [(put_size _ _ _).1]; exact inv.size, ?_, ?_, ?_⟩
      · intro s hs'
        rw [hput]
        by_cases hst : s = t
        · rw [if_pos hst]
          obtain ⟨_, g2⟩ := hs' i o hin ho (by rw [hst]; exact hO.dst)
          have hmn : m = none := by rw [hm] at g2; exact Option.some.inj g2
          rw [hu hmn, hst, hvA g2]
        · rw [if_neg hst]
          refine inv.slot s (fun k p hk hp hps => ?_)
          obtain ⟨g1, g2⟩ := hs' k p hk hp hps
          rcases hdset k g1 with e | e
          · exfalso
            subst e
            have : p = o := Option.some.inj (hp.symm.trans ho)
            rw [this, hO.dst] at hps
            exact hst (Option.some.inj hps).symm
          · exact ⟨e, g2⟩
      · intro k p s ob hk hp hps hmk hdk
        by_cases hki : k = i
        · subst hki
          have hpo : p = o := Option.some.inj (hp.symm.trans ho)
          rw [hm] at hmk
          obtain ⟨g1, g2, g3⟩ := hal ob (Option.some.inj hmk)
          rw [hpo, hO.dst] at hps
          have hst : s = t := (Option.some.inj hps).symm
          rw [hput, if_pos hst, g1, g3]
          exact ⟨rfl, inv.bel.size, g2⟩
        · have hdk' : d.getD k false = true := (hdset k hdk).resolve_left hki
          obtain ⟨g1, g2, g3⟩ := inv.al k p s ob hk hp hps hmk hdk'
          have hne := hO.apart k p s hk hp hps hki
          rw [hput, if_neg hne, hGk k hki]
          exact ⟨g1, g2, heap_keep g3 hb⟩
      · intro k j ob ob' hk hj hmk hmj hdk hdj hkj
        have low : ∀ q obq, q < n → ms[q]? = some (some obq) → d.getD q false = true → G q < w.heap.size := fun q obq hqn hmq hdq => by
          obtain ⟨p, s, hp, hP⟩ := hok q hqn
          obtain ⟨_, _, g3⟩ := inv.al q p s obq hqn hp hP.dst hmq hdq
          exact (Array.getElem?_eq_some_iff.1 g3).1
        by_cases hki : k = i
        · have hji : j ≠ i := fun e => hkj (hki.trans e.symm)
          have hdj' := (hdset j hdj).resolve_left hji
          have h1 := low j ob' hj hmj hdj'
          rw [hki] at hmk
          rw [hm] at hmk
          obtain ⟨_, _, g3⟩ := hal ob (Option.some.inj hmk)
          rw [hki, g3, hGk j hji]
          omega
        · have hdk' := (hdset k hdk).resolve_left hki
          by_cases hji : j = i
          · have h1 := low k ob hk hmk hdk'
            rw [hji] at hmj
            rw [hm] at hmj
            obtain ⟨_, _, g3⟩ := hal ob' (Option.some.inj hmj)
            rw [hji, g3, hGk k hki]
            omega
          · rw [hGk k hki, hGk j hji]
            exact inv.ne k j ob ob' hk hj hmk hmj hdk' ((hdset j hdj).resolve_left hji) hkj
    unfold wpOp
    rw [ho]
    simp only
    have hw : Region.wanted o (yielded ops a.tmps) = true := by unfold Region.wanted; rw [hO.guard]
    rw [if_pos hw]
    refine .inl ?_
    unfold Oper.wp
    rw [hexec]
    cases m with
    | none =>
      have h1 := hQ w inv.bel
      rcases h1 with h1 | ⟨fn, args, h1, h2⟩
      · rw [h1]
        exact ih _ _ _ G (hnew v w G (Below.refl _ _) (fun _ => rfl) (fun ob h => by cases h) (fun _ _ => rfl)) hcnt
      · rw [h1]
        refine h2.mono (fun e w' h => ?_)
        obtain ⟨rfl, hb⟩ := h
        exact ih _ _ _ G (hnew v w' G hb (fun _ => rfl) (fun ob h => by cases h) (fun _ _ => rfl)) hcnt
    | some ob =>
      rw [hQ w]
      refine ih _ _ _ (fun k => if k = i then w.heap.size else G k) (hnew _ _ _ ((Below.refl _ _).alloc (Nat.le_refl _) _) (fun h => by cases h) (fun ob' h => ?_) (fun k hk => if_neg hk)) hcnt
      cases h
      exact ⟨rfl, heap_new w ob.1, if_pos rfl⟩
theorem putG_size (G : Nat → Nat) : ∀ (os : List Oper) (ms : List (Option NB)) (a : Act) (k : Nat), (putG G a os ms k).tmps.size = a.tmps.size ∧ (putG G a os ms k).defers = a.defers
  | [], _, a, k => ⟨rfl, rfl⟩
  | _ :: _, [], a, k => ⟨rfl, rfl⟩
  | o :: os, none :: ms, a, k => putG_size G os ms a (k + 1)
  | o :: os, some ob :: ms, a, k => by
    obtain ⟨h1, h2⟩ := putG_size G os ms (a.put o.dst (ob.2 (G k))) (k + 1)
    obtain ⟨g1, g2⟩ := put_size a o.dst (ob.2 (G k))
    exact ⟨h1.trans g1, h2.trans g2⟩
theorem put_get (a : Act) (o : Oper) (v : Value) (t : Tmp) (h : o.dst ≠ some t) : (a.put o.dst v).tmps[t]? = a.tmps[t]? := by
  unfold Act.put
  split
  · rename_i d hd
    rw [hd] at h
    simp only
    rw [Array.getElem?_setIfInBounds_ne (fun e => h (by rw [e]))]
  · rfl
theorem putG_get (G : Nat → Nat) : ∀ (os : List Oper) (ms : List (Option NB)) (a : Act) (k : Nat) (t : Tmp), (∀ (j : Nat) (o : Oper) (ob : NB), os[j]? = some o → ms[j]? = some (some ob) → o.dst ≠ some t) → (putG G a os ms k).tmps[t]? = a.tmps[t]?
  | [], _, a, k, t, _ => rfl
  | _ :: _, [], a, k, t, _ => rfl
  | o :: os, none :: ms, a, k, t, h => putG_get G os ms a (k + 1) t (fun j p ob hp hm => h (j + 1) p ob (by simpa using hp) (by simpa using hm))
  | o :: os, some ob :: ms, a, k, t, h => by
    refine (putG_get G os ms _ (k + 1) t (fun j p ob' hp hm => h (j + 1) p ob' (by simpa using hp) (by simpa using hm))).trans ?_
    exact put_get _ _ _ _ (h 0 o ob rfl rfl)
theorem putG_at (G : Nat → Nat) : ∀ (os : List Oper) (ms : List (Option NB)) (a : Act) (k j : Nat) (o : Oper) (ob : NB) (t : Tmp), os[j]? = some o → ms[j]? = some (some ob) → o.dst = some t → t < a.tmps.size → (∀ i p, os[i]? = some p → i ≠ j → p.dst ≠ some t) → (putG G a os ms k).tmps[t]? = some (ob.2 (G (k + j)))
  | [], _, a, k, j, o, ob, t, h, _, _, _, _ => by simp at h
  | _ :: _, [], a, k, j, o, ob, t, _, h, _, _, _ => by simp at h
  | o :: os, none :: ms, a, k, 0, _, _, t, h1, h2, _, _, _ => by simp at h2
  | o :: os, some ob :: ms, a, k, 0, _, ob2, t, h1, h2, h3, h4, h5 => by
    cases h1
    obtain rfl : ob = ob2 := by simpa using h2
    refine (putG_get G os ms _ (k + 1) t (fun j p ob' hp hm => h5 (j + 1) p (by simpa using hp) (by omega))).trans ?_
    unfold Act.put
    rw [h3]
    simp [h4]
  | o :: os, none :: ms, a, k, j + 1, p, ob, t, h1, h2, h3, h4, h5 => by
    have := putG_at G os ms a (k + 1) j p ob t (by simpa using h1) (by simpa using h2) h3 h4 (fun i q hq hne => h5 (i + 1) q (by simpa using hq) (by omega))
    rw [show k + (j + 1) = k + 1 + j by omega]
    exact this
  | o :: os, some ob' :: ms, a, k, j + 1, p, ob, t, h1, h2, h3, h4, h5 => by
    have := putG_at G os ms (a.put o.dst (ob'.2 (G k))) (k + 1) j p ob t (by simpa using h1) (by simpa using h2) h3 (by rw [(put_size _ _ _).1]; exact h4) (fun i q hq hne => h5 (i + 1) q (by simpa using hq) (by omega))
    rw [show k + (j + 1) = k + 1 + j by omega]
    exact this
theorem cntU_le (d : Array Bool) : ∀ n, cntU d n ≤ n
  | 0 => Nat.le_refl _
  | n + 1 => by
    have := cntU_le d n
    simp only [cntU]
    split <;> omega
theorem act_ext {a b : Act} (h1 : a.defers = b.defers) (h2 : a.tmps.size = b.tmps.size) (h3 : ∀ t : Nat, a.tmps[t]? = b.tmps[t]?) : a = b := by
  cases a; cases b
  simp only at h1 h2 h3
  subst h1
  congr 1
  exact Array.ext_getElem? h3
/-- What is so of the new blocks. -/
def GOk (W : World) (ms : List (Option NB)) (G : Nat → Nat) (w : World) : Prop :=
  (∀ k ob, ms[k]? = some (some ob) → W.heap.size ≤ G k ∧ w.heap[G k]? = some ob.1) ∧ (∀ k j ob ob', ms[k]? = some (some ob) → ms[j]? = some (some ob') → k ≠ j → G k ≠ G j)
/-- The first n operations in whatever order; what comes last has one order only. -/
theorem qRegionPt {id : Nat} {R : Exit → Act → World → Prop} {a : Act} {w : World} {o0 : Oper} {l' : List Oper} (n : Nat) (v0 : Value) (vs' : List Value) (ms : List (Option NB)) (hm : P.follows .mixedOrders = true) (hB : (ptB (o0 :: l').toArray n ms && Region.free .any (o0 :: l').toArray (Array.replicate (o0 :: l').toArray.size false) 0 && (Region.ready .any (o0 :: l').toArray (Array.replicate (o0 :: l').toArray.size false)).contains 0 && decide (0 < n)) = true) (hm0 : ms[0]? = some none) (hy : Yields P (o0 :: l').toArray o0 v0 a) (hR : ∀ c a w, R (.panic c) (a.put o0.dst v0) w → R (.panic c) a w)
    (hvs : (v0 :: vs').length = n) (hms : ms.length = n) (hsz : ((o0 :: l').take n).all (fun o => match o.dst with | some t => decide (t < a.tmps.size) | none => true) = true)
    (hq : QOps P w (putL a ((o0 :: l').take n) (v0 :: vs')) ((o0 :: l').take n) (v0 :: vs') ms)
    (h : ∀ (G : Nat → Nat) w', Below w.heap.size w w' → GOk w ms G w' → wpList P (o0 :: l').toArray R ((o0 :: l').drop n) (putG G (putL a ((o0 :: l').take n) (v0 :: vs')) ((o0 :: l').take n) ms 0) w') : (Code.region id (o0 :: l').toArray true).wp P R a w := by
  simp only [Bool.and_eq_true, decide_eq_true_eq] at hB
  obtain ⟨⟨⟨hB, hfree⟩, hready⟩, hn0⟩ := hB
  obtain ⟨l, el⟩ : ∃ l, l = o0 :: l' := ⟨_, rfl⟩
  obtain ⟨vs, ev⟩ : ∃ vs, vs = v0 :: vs' := ⟨_, rfl⟩
  rw [← el] at hB hfree hready hy hsz hq h ⊢
  rw [← ev] at hvs hq h
  refine wp_region_any hm ?_
  have hB' := hB
  unfold ptB at hB'
  simp only [Bool.and_eq_true, decide_eq_true_eq] at hB'
  obtain ⟨⟨⟨⟨⟨hsel, hn⟩, hs⟩, hc⟩, hseq⟩, hops⟩ := hB'
  have hok : ∀ i, i < n → ∃ o t, l.toArray[i]? = some o ∧ OpOk l.toArray n ms i o t := fun i hi => opB_spec (List.all_eq_true.1 hops i (List.mem_range.2 hi))
  have htk : ∀ i o, i < n → l.toArray[i]? = some o → (l.take n)[i]? = some o := fun i o hi ho => by
    rw [List.getElem?_take_of_lt hi]; simpa using ho
  have htk2 : ∀ i o, (l.take n)[i]? = some o → i < n ∧ l.toArray[i]? = some o := fun i o ho => by
    have hi : i < n := by
      have := (List.getElem?_eq_some_iff.1 ho).1
      rw [List.length_take] at this; omega
    rw [List.getElem?_take_of_lt hi] at ho
    exact ⟨hi, by simpa using ho⟩
  have hbd : ∀ k o t, k < n → l.toArray[k]? = some o → o.dst = some t → t < a.tmps.size := fun k o t hk ho ht => by
    have := List.all_eq_true.1 hsz o (List.mem_of_getElem? (htk k o hk ho))
    rw [ht] at this
    simpa using this
  have hsize := putL_size (l.take n) vs a
  have hA : ∀ k o v t, k < n → l.toArray[k]? = some o → vs[k]? = some v → o.dst = some t → t < (putL a (l.take n) vs).tmps.size ∧ (ms[k]? = some none → (putL a (l.take n) vs).tmps[t]? = some v) := fun k o v t hk ho hv ht => by
    refine ⟨by rw [hsize.1]; exact hbd k o t hk ho ht, fun _ => putL_at _ _ a k o v t (htk k o hk ho) hv ht (hbd k o t hk ho ht) (fun j p hp hne e => ?_)⟩
    obtain ⟨hj, hp'⟩ := htk2 j p hp
    obtain ⟨o', t', ho', hO⟩ := hok k hk
    have e1 : o' = o := Option.some.inj (ho'.symm.trans ho)
    have e2 : t' = t := by have := hO.dst; rw [e1, ht] at this; exact (Option.some.inj this).symm
    exact hO.apart j p t hj hp' e hne e2.symm
  have hmain := region_pt (W := w) (R := R) (vs := vs) hB (by simpa using hq) hvs hms hA (fun a' w' G inv => by
    have hend := h G w' inv.bel
    have hall : ∀ k, k < n → (allB l.toArray.size n).getD k false = true := fun k hk => by
      unfold allB
      simp [Array.getElem?_append, hk]
    have hg : GOk w ms G w' := by
      refine ⟨fun k ob hk => ?_, fun k j ob ob' hk hj hne => ?_⟩
      · have hkn : k < n := by have := (List.getElem?_eq_some_iff.1 hk).1; omega
        obtain ⟨o, t, ho, hO⟩ := hok k hkn
        exact (inv.al k o t ob hkn ho hO.dst hk (hall k hkn)).2
      · have hkn : k < n := by have := (List.getElem?_eq_some_iff.1 hk).1; omega
        have hjn : j < n := by have := (List.getElem?_eq_some_iff.1 hj).1; omega
        exact inv.ne k j ob ob' hkn hjn hk hj (hall k hkn) (hall j hjn) hne
    have e : a' = putG G (putL a (l.take n) vs) (l.take n) ms 0 := by
      have hgs := putG_size G (l.take n) ms (putL a (l.take n) vs) 0
      refine act_ext (inv.defers.trans hgs.2.symm) (inv.size.trans hgs.1.symm) (fun t => ?_)
      by_cases hx : ∃ (j : Nat) (o : Oper) (ob : NB), (l.take n)[j]? = some o ∧ ms[j]? = some (some ob) ∧ o.dst = some t
      · obtain ⟨j, o, ob, hj, hmj, hot⟩ := hx
        obtain ⟨hjn, hj'⟩ := htk2 j o hj
        rw [(inv.al j o t ob hjn hj' hot hmj (hall j hjn)).1]
        have := putG_at G (l.take n) ms (putL a (l.take n) vs) 0 j o ob t hj hmj hot (by rw [hsize.1]; exact hbd j o t hjn hj' hot) (fun i p hp hne e => by
          obtain ⟨hi, hp'⟩ := htk2 i p hp
          obtain ⟨o', t', ho', hO⟩ := hok j hjn
          have e1 : o' = o := Option.some.inj (ho'.symm.trans hj')
          have e2 : t' = t := by have := hO.dst; rw [e1, hot] at this; exact (Option.some.inj this).symm
          exact hO.apart i p t hi hp' e hne e2.symm)
        rw [this, Nat.zero_add]
      · rw [putG_get G (l.take n) ms _ 0 t (fun j o ob hj hmj hot => hx ⟨j, o, ob, hj, hmj, hot⟩)]
        refine inv.slot t (fun k o hk ho hot => ⟨hall k hk, ?_⟩)
        cases hmk : ms[k]? with
        | none =>
          rw [List.getElem?_eq_none_iff] at hmk
          omega
        | some m =>
          cases m with
          | none => rfl
          | some ob => exact absurd ⟨k, o, ob, htk k o hk ho, hmk, hot⟩ hx
    rw [e]
    simpa using hend hg)
  have ho0 : l.toArray[0]? = some o0 := by rw [el]; rfl
  have hr0 : 0 ∈ Region.ready .any l.toArray (Array.replicate l.toArray.size false) := by simpa using hready
  have h0s : 0 < l.toArray.size := (Array.getElem?_eq_some_iff.1 ho0).1
  have hd1 : ∀ k, ((Array.replicate l.toArray.size false).setIfInBounds 0 true).getD k false = true → k = 0 := fun k hk => by
    by_cases h0 : 0 = k
    · exact h0.symm
    · rw [getD_set_ne false h0, getD_replicate_false] at hk
      cases hk
  have hh0 : HeadInv .any l.toArray n (Array.replicate l.toArray.size false) := ⟨by simp, fun j oj _ hj => (by rw [getD_replicate_false] at hj; cases hj), fun t _ ht => getD_in (by simpa using ht) (getD_replicate_false _ _)⟩
  have inv0 : PInv w l.toArray n ms (putL a (l.take n) vs) (fun _ => 0) ((Array.replicate l.toArray.size false).setIfInBounds 0 true) (a.put o0.dst v0) { w with drawn := w.drawn + 1 } := by
    refine ⟨hh0.set hr0 hn0, by simpa using h0s, (Below.refl _ _).drew, by rw [(put_size _ _ _).2]; exact hsize.2.symm, by rw [(put_size _ _ _).1]; exact hsize.1.symm, ?_, ?_, ?_⟩
    · intro t ht
      obtain ⟨n', rfl⟩ : ∃ n', n = n' + 1 := ⟨n - 1, by omega⟩
      rw [el, ev, List.take_succ_cons, putL]
      refine (putL_get _ _ _ t (fun o ho e => ?_)).symm
      obtain ⟨j, hj⟩ := List.getElem?_of_mem ho
      obtain ⟨hjn, hj'⟩ := htk2 (j + 1) o (by rw [el, List.take_succ_cons]; simpa using hj)
      have := hd1 _ (ht (j + 1) o hjn hj' e).1
      omega
    · intro k o t ob _ _ _ hmk hd
      rw [hd1 k hd, hm0] at hmk
      cases hmk
    · intro k j ob ob' _ _ hmk _ hd
      rw [hd1 k hd, hm0] at hmk
      cases hmk
  have := hmain _ _ _ _ _ inv0 rfl
  have hcs := cntU_set (d := Array.replicate l.toArray.size false) (i := 0) (by simpa using h0s) (getD_replicate_false _ _) (n := n)
  have hcl := cntU_le (Array.replicate l.toArray.size false) n
  rw [if_pos hn0] at hcs
  have hpos := hcs.2 hn0
  refine wpAny_le ?_ (wpAny_take (i := 0) ho0 hsel hfree hready hR hy this)
  rw [hcs.1]; omega
end
end QM
end Go.Proofs.YtgdnedhcbjonkaaGreatDoor

/- (*alarm.life).lower: each way that it goes. -/
namespace Go.Proofs.YtgdnedhcbjonkaaGreatDoor
open Go.RowKit

set_option maxRecDepth 100000 in
set_option maxHeartbeats 2000000 in
theorem lower_cl1 (x : Nat) (t un : Int) (dd rr bb : ByteArray) (L : Lf) (v : Nat → Value) (w : World) (h : LfI w x L v) (hst : L.st = 1) (hfr : L.fr ≠ []) (hup : L.up ≠ []) (hM : L.up.length ≤ 100000 ∧ L.fr.length ≤ 100000) :
    Calls Tryz.prog 200 #[.pointer (some ⟨x, 0, none⟩), .agg #[.int .i64 t, .int .i64 2, .string dd, .string rr, .string bb, .int .i64 un]] w fun e w' => FollowPost w x v ((clA L t), 0) e w' := by
  have hb1 : Below w.heap.size w (w.alloc (.cells #[.int .i64 t, .int .i64 2, .string dd, .string rr, .string bb, .int .i64 un] 47)) := (Below.refl _ _).alloc (Nat.le_refl _) _
  have hlt := h.lt
  have c2 := (show w.cell? ⟨x, 2, none⟩ = some (.int .i64 1) from hst ▸ cell_of_blk (j := 2) h.blk rfl)
  have HB := Lib.hid (And.intro hb1 (And.intro (heap_new w (.cells #[.int .i64 t, .int .i64 2, .string dd, .string rr, .string bb, .int .i64 un] 47)) (fun hf => by have := h.foot_lt (b := w.heap.size) hf; omega : ¬ lfFoot x v w.heap.size)))
  have HT := Lib.hid (turn_clA x t L v _ (h.below hb1) hst hfr hup hM)
  clear h hb1
  go_enter Tryz.func200, Tryz.ntmps200
  go_wp2_with (fail)
  refine HT.out.mono ?_
  rintro e w1 ⟨rfl, v1, hi1, hg1⟩
  have HP := Lib.hid (And.intro hi1 (LfGo.of_below HB.out.1 hg1))
  clear hi1 hg1
  go_wp2_with (fail)
  go_ret
  exact ⟨rfl, _, HP.out.1, HP.out.2⟩
set_option maxRecDepth 100000 in
set_option maxHeartbeats 2000000 in
theorem lower_cl2 (x : Nat) (t un : Int) (dd rr bb : ByteArray) (L : Lf) (v : Nat → Value) (w : World) (h : LfI w x L v) (hst : L.st = 2) (hup : L.up ≠ []) (hM : L.up.length ≤ 100000 ∧ L.fr.length ≤ 100000) :
    Calls Tryz.prog 200 #[.pointer (some ⟨x, 0, none⟩), .agg #[.int .i64 t, .int .i64 2, .string dd, .string rr, .string bb, .int .i64 un]] w fun e w' => FollowPost w x v ((clK L t), 0) e w' := by
  have hb1 : Below w.heap.size w (w.alloc (.cells #[.int .i64 t, .int .i64 2, .string dd, .string rr, .string bb, .int .i64 un] 47)) := (Below.refl _ _).alloc (Nat.le_refl _) _
  have hlt := h.lt
  have c2 := (show w.cell? ⟨x, 2, none⟩ = some (.int .i64 2) from hst ▸ cell_of_blk (j := 2) h.blk rfl)
  have HB := Lib.hid (And.intro hb1 (And.intro (heap_new w (.cells #[.int .i64 t, .int .i64 2, .string dd, .string rr, .string bb, .int .i64 un] 47)) (fun hf => by have := h.foot_lt (b := w.heap.size) hf; omega : ¬ lfFoot x v w.heap.size)))
  have HT := Lib.hid (turn_clK x t L v _ (h.below hb1) hst hup hM)
  clear h hb1
  go_enter Tryz.func200, Tryz.ntmps200
  go_wp2_with (fail)
  refine HT.out.mono ?_
  rintro e w1 ⟨rfl, v1, hi1, hg1⟩
  have HP := Lib.hid (And.intro hi1 (LfGo.of_below HB.out.1 hg1))
  clear hi1 hg1
  go_wp2_with (fail)
  go_ret
  exact ⟨rfl, _, HP.out.1, HP.out.2⟩
set_option maxRecDepth 100000 in
set_option maxHeartbeats 2000000 in
theorem lower_cl0 (x : Nat) (t un : Int) (dd rr bb : ByteArray) (L : Lf) (v : Nat → Value) (w : World) (h : LfI w x L v) (hst : L.st = 0) :
    Calls Tryz.prog 200 #[.pointer (some ⟨x, 0, none⟩), .agg #[.int .i64 t, .int .i64 2, .string dd, .string rr, .string bb, .int .i64 un]] w fun e w' => FollowPost w x v (L, 11) e w' := by
  have hb1 : Below w.heap.size w (w.alloc (.cells #[.int .i64 t, .int .i64 2, .string dd, .string rr, .string bb, .int .i64 un] 47)) := (Below.refl _ _).alloc (Nat.le_refl _) _
  have hlt := h.lt
  have c2 := (show w.cell? ⟨x, 2, none⟩ = some (.int .i64 0) from hst ▸ cell_of_blk (j := 2) h.blk rfl)
  have HB := Lib.hid (And.intro hb1 (And.intro (heap_new w (.cells #[.int .i64 t, .int .i64 2, .string dd, .string rr, .string bb, .int .i64 un] 47)) (fun hf => by have := h.foot_lt (b := w.heap.size) hf; omega : ¬ lfFoot x v w.heap.size)))
  have HI := Lib.hid h
  have HGX := Lib.hid (And.intro (h.below hb1) (LfGo.below (LfGo.refl w x v) hb1))
  clear h hb1 HB
  go_enter Tryz.func200, Tryz.ntmps200
  go_wp2_with (fail)
  go_ret
  exact ⟨rfl, _, HGX.out.1, HGX.out.2⟩
set_option maxRecDepth 100000 in
set_option maxHeartbeats 2000000 in
theorem lower_cl3 (x : Nat) (t un : Int) (dd rr bb : ByteArray) (L : Lf) (v : Nat → Value) (w : World) (h : LfI w x L v) (hst : L.st = 3) :
    Calls Tryz.prog 200 #[.pointer (some ⟨x, 0, none⟩), .agg #[.int .i64 t, .int .i64 2, .string dd, .string rr, .string bb, .int .i64 un]] w fun e w' => FollowPost w x v (L, 11) e w' := by
  have hb1 : Below w.heap.size w (w.alloc (.cells #[.int .i64 t, .int .i64 2, .string dd, .string rr, .string bb, .int .i64 un] 47)) := (Below.refl _ _).alloc (Nat.le_refl _) _
  have hlt := h.lt
  have c2 := (show w.cell? ⟨x, 2, none⟩ = some (.int .i64 3) from hst ▸ cell_of_blk (j := 2) h.blk rfl)
  have HB := Lib.hid (And.intro hb1 (And.intro (heap_new w (.cells #[.int .i64 t, .int .i64 2, .string dd, .string rr, .string bb, .int .i64 un] 47)) (fun hf => by have := h.foot_lt (b := w.heap.size) hf; omega : ¬ lfFoot x v w.heap.size)))
  have HI := Lib.hid h
  have HGX := Lib.hid (And.intro (h.below hb1) (LfGo.below (LfGo.refl w x v) hb1))
  clear h hb1 HB
  go_enter Tryz.func200, Tryz.ntmps200
  go_wp2_with (fail)
  go_ret
  exact ⟨rfl, _, HGX.out.1, HGX.out.2⟩
set_option maxRecDepth 100000 in
set_option maxHeartbeats 2000000 in
theorem lower_ak0 (x : Nat) (t un : Int) (dd rr bb : ByteArray) (L : Lf) (v : Nat → Value) (w : World) (h : LfI w x L v) (hst : L.st = 0) :
    Calls Tryz.prog 200 #[.pointer (some ⟨x, 0, none⟩), .agg #[.int .i64 t, .int .i64 3, .string dd, .string rr, .string bb, .int .i64 un]] w fun e w' => FollowPost w x v (L, 11) e w' := by
  have hb1 : Below w.heap.size w (w.alloc (.cells #[.int .i64 t, .int .i64 3, .string dd, .string rr, .string bb, .int .i64 un] 47)) := (Below.refl _ _).alloc (Nat.le_refl _) _
  have hlt := h.lt
  have c2 := (show w.cell? ⟨x, 2, none⟩ = some (.int .i64 0) from hst ▸ cell_of_blk (j := 2) h.blk rfl)
  have HB := Lib.hid (And.intro hb1 (And.intro (heap_new w (.cells #[.int .i64 t, .int .i64 3, .string dd, .string rr, .string bb, .int .i64 un] 47)) (fun hf => by have := h.foot_lt (b := w.heap.size) hf; omega : ¬ lfFoot x v w.heap.size)))
  have HI := Lib.hid h
  have HGX := Lib.hid (And.intro (h.below hb1) (LfGo.below (LfGo.refl w x v) hb1))
  clear h hb1 HB
  go_enter Tryz.func200, Tryz.ntmps200
  go_wp2_with (fail)
  go_ret
  exact ⟨rfl, _, HGX.out.1, HGX.out.2⟩
set_option maxRecDepth 100000 in
set_option maxHeartbeats 2000000 in
theorem lower_ak2 (x : Nat) (t un : Int) (dd rr bb : ByteArray) (L : Lf) (v : Nat → Value) (w : World) (h : LfI w x L v) (hst : L.st = 2) :
    Calls Tryz.prog 200 #[.pointer (some ⟨x, 0, none⟩), .agg #[.int .i64 t, .int .i64 3, .string dd, .string rr, .string bb, .int .i64 un]] w fun e w' => FollowPost w x v (L, 11) e w' := by
  have hb1 : Below w.heap.size w (w.alloc (.cells #[.int .i64 t, .int .i64 3, .string dd, .string rr, .string bb, .int .i64 un] 47)) := (Below.refl _ _).alloc (Nat.le_refl _) _
  have hlt := h.lt
  have c2 := (show w.cell? ⟨x, 2, none⟩ = some (.int .i64 2) from hst ▸ cell_of_blk (j := 2) h.blk rfl)
  have HB := Lib.hid (And.intro hb1 (And.intro (heap_new w (.cells #[.int .i64 t, .int .i64 3, .string dd, .string rr, .string bb, .int .i64 un] 47)) (fun hf => by have := h.foot_lt (b := w.heap.size) hf; omega : ¬ lfFoot x v w.heap.size)))
  have HI := Lib.hid h
  have HGX := Lib.hid (And.intro (h.below hb1) (LfGo.below (LfGo.refl w x v) hb1))
  clear h hb1 HB
  go_enter Tryz.func200, Tryz.ntmps200
  go_wp2_with (fail)
  go_ret
  exact ⟨rfl, _, HGX.out.1, HGX.out.2⟩
set_option maxRecDepth 100000 in
set_option maxHeartbeats 2000000 in
theorem lower_ak3 (x : Nat) (t un : Int) (dd rr bb : ByteArray) (L : Lf) (v : Nat → Value) (w : World) (h : LfI w x L v) (hst : L.st = 3) (hN : L.ak.length ≤ 100000 ∧ L.wt.length ≤ 100000 ∧ L.ra.length ≤ 100000) (hra : L.ra ≠ []) (hrng : ∀ y ∈ L.ra, 0 ≤ y ∧ y < alEnd) (ht : 0 ≤ t ∧ t < 345686400000) :
    Calls Tryz.prog 200 #[.pointer (some ⟨x, 0, none⟩), .agg #[.int .i64 t, .int .i64 3, .string dd, .string rr, .string bb, .int .i64 un]] w fun e w' => FollowPost w x v ((akd L t (akR L t)), 0) e w' := by
  obtain ⟨i0, hi0, hz0, hz1, hz2⟩ := info_parts Tryz.infoIntA
  have hb1 : Below w.heap.size w (w.alloc (.cells #[.int .i64 t, .int .i64 3, .string dd, .string rr, .string bb, .int .i64 un] 47)) := (Below.refl _ _).alloc (Nat.le_refl _) _
  have hlt := h.lt
  have c2 := (show w.cell? ⟨x, 2, none⟩ = some (.int .i64 3) from hst ▸ cell_of_blk (j := 2) h.blk rfl)
  have HB := Lib.hid (And.intro hb1 (And.intro (heap_new w (.cells #[.int .i64 t, .int .i64 3, .string dd, .string rr, .string bb, .int .i64 un] 47)) (fun hf => by have := h.foot_lt (b := w.heap.size) hf; omega : ¬ lfFoot x v w.heap.size)))
  have HT := Lib.hid (turn_akR x t L v _ (h.below hb1) hst)
  clear h hb1
  go_enter Tryz.func200, Tryz.ntmps200
  go_wp2_with (fail)
  refine HT.out.mono ?_
  rintro e w1 ⟨rfl, v1, hi1, hg1⟩
  have hz : w.heap.size < (w.alloc (.cells #[.int .i64 t, .int .i64 3, .string dd, .string rr, .string bb, .int .i64 un] 47)).heap.size := by simp
  have hbx := (hg1.gr.block w.heap.size hz HB.out.2.2).trans HB.out.2.1
  have g0 := cell_of_blk (j := 0) hbx rfl
  have g1 := cell_of_blk (j := 1) hbx rfl
  have hlg : w.heap.size < w1.heap.size := (Array.getElem?_eq_some_iff.1 hbx).1
  have HNF := Lib.hid (show ¬ lfFoot x v1 w.heap.size from fun hf => by rcases hg1.sub _ hf with hf | hf; exact HB.out.2.2 hf; (simp only [World.size_alloc] at hf; omega))
  have HBX := Lib.hid hbx
  have HI := Lib.hid hi1
  have HG := Lib.hid (LfGo.of_below HB.out.1 hg1)
  have hlt1 := hi1.lt
  clear hi1 hg1 hbx hz
  generalize hgg : w.heap.size = g at g0 g1 hlg HBX HNF ⊢
  have HGG := Lib.hid hgg
  clear hgg
  obtain ⟨A1, p1, hv1⟩ := own_slice (HI.out.row 4 (by omega))
  replace hv1 : v1 4 = .slice A1 L.ak.length p1 := hv1
  have e1 := cell_of_blk (j := 9) HI.out.blk rfl
  replace e1 : w1.cell? ⟨x, 9, none⟩ = some (.slice A1 L.ak.length p1) := e1.trans (congrArg some hv1)
  have HO1 := Lib.hid (show w1.ownsRow 0 3 1 (.slice A1 L.ak.length p1) L.ak.length (alI L.ak) from hv1 ▸ HI.out.row 4 (by omega))
  have HV1 := Lib.hid hv1
  obtain ⟨q1, hq1⟩ : ∃ q, L.ak.length = q := ⟨_, rfl⟩
  have hN1 : q1 ≤ 100000 := hq1 ▸ hN.1
  have HL1 := Lib.hid hq1
  rw [hq1] at e1 HO1 HV1
  clear hq1 hv1
  have HQ := Lib.hid (fun (V : World) (hV : Below w1.heap.size w1 V) => (And.intro ((hV.cell (p := ⟨x, 9, none⟩) hlt1).trans e1) ((hV.cell (p := ⟨g, 0, none⟩) hlg).trans g0)))
  clear e1
  go_upto_region 11 with (fail)
  refine QM.qRegionPt 8 (.pointer (some ⟨x, 0, none⟩)) [.pointer (some ⟨x, 0, none⟩), .pointer (some ⟨x, 0, none⟩), .pointer (some ⟨x, 9, none⟩), .slice A1 q1 p1, .pointer (some ⟨g, 0, none⟩), .int .i64 t, undef] [none, none, none, none, none, none, none, some (.cells #[.int .i64 t] 3, fun n => .slice (some ⟨n, 0, none⟩) 1 1)] (by kernel_rfl) (by kernel_rfl) rfl (Or.inl ⟨by rfl, fun w => by go_simp⟩) (fun _ _ _ h => h) rfl rfl (by rfl) ?_ ?_
  · simp only [List.take_succ_cons, List.take_zero, QM.putL, Act.put, List.setIfInBounds_toArray, List.set_cons_zero, List.set_cons_succ]
    refine ⟨?_, ?_, ?_, ?_, ?_, ?_, ?_, ?_, trivial⟩
    · exact fun V hV => .inl (by obtain ⟨r0, r1⟩ := HQ.out V hV; go_simp)
    · exact fun V hV => .inl (by obtain ⟨r0, r1⟩ := HQ.out V hV; go_simp)
    · exact fun V hV => .inl (by obtain ⟨r0, r1⟩ := HQ.out V hV; go_simp)
    · exact fun V hV => .inl (by obtain ⟨r0, r1⟩ := HQ.out V hV; go_simp)
    · exact fun V hV => .inl (by obtain ⟨r0, r1⟩ := HQ.out V hV; go_simp)
    · exact fun V hV => .inl (by obtain ⟨r0, r1⟩ := HQ.out V hV; go_simp)
    · exact fun V hV => .inl (by obtain ⟨r0, r1⟩ := HQ.out V hV; go_simp)
    · exact fun V => by go_simp
  intro G V1 hV1 hG
  obtain ⟨ha1, hb1⟩ := hG.1 7 _ rfl
  simp only [List.take_succ_cons, List.take_zero, List.drop_succ_cons, List.drop_zero, QM.putL, QM.putG, Act.put, List.setIfInBounds_toArray, List.set_cons_zero, List.set_cons_succ, Nat.zero_add, Nat.reduceAdd]
  generalize G 7 = gn1 at ha1 hb1 ⊢
  have HIV := Lib.hid (HI.out.below hV1)
  have HOV := Lib.hid (own_below HO1.out hV1)
  have HBV := Lib.hid hV1
  have HNB := Lib.hid hb1
  clear hV1 hb1 hG ha1 HQ
  go_wp2_with (at_builtin; go_loud (refine wpList_append_own2 _ rfl _ _ 22 rfl 0 3 i0 _ 1 8 Tryz.underlying22 hi0 hz0 hz1 hz2 rfl (by decide) (.slice A1 q1 p1) q1 (alI L.ak) rfl HOV.out ⟨gn1, 0, none⟩ 1 1 [.int .i64 t] rfl rfl (cells_add (cellsBlkA HNB.out rfl)) (oneI t) (h63A hN1) (h47A hN1) (Nat.zero_le _) ?_))
  intro v9 w21 ho9 hg9 hm9
  obtain ⟨B1, s1, rfl⟩ := own_slice ho9
  have hbx9 := (hg9.block x HIV.out.lt (own_ne HOV.out HIV.out.blk (by decide))).trans HIV.out.blk
  have f1 := cell_of_blk (j := 9) hbx9 rfl
  have z1 : w21.frozen? ⟨x, 9, none⟩ = false := by simp [World.frozen?, hbx9]
  have hlt21 : x < w21.heap.size := (Array.getElem?_eq_some_iff.1 hbx9).1
  have HP := Lib.hid (HIV.out.app (L' := ({ (akR L t) with ak := L.ak ++ [t] } : Lf)) (m := 4) (v' := .slice B1 (q1 + 1) s1) (by omega) ⟨rfl, rfl, rfl, rfl, rfl, fun k hk hne => by rcases k with _ | _ | _ | _ | _ | _ | k <;> first | exact ⟨rfl, rfl⟩ | exact absurd rfl hne | omega⟩ (HV1.out ▸ hg9) (HV1.out ▸ hm9) (by show w21.ownsRow 0 3 1 (.slice B1 (q1 + 1) s1) (L.ak ++ [t]).length (alI (L.ak ++ [t])); rw [List.length_append, HL1.out, alI_snoc]; exact ho9))
  clear ho9 hg9 hm9 hbx9
  go_upto_region 12 with (fail)
  obtain ⟨y1, ew⟩ : ∃ W1 : World, W1 = (w21.setCell ⟨x, 9, none⟩ (.slice B1 (q1 + 1) s1)) := ⟨_, rfl⟩
  replace HP := Lib.hid (show LfI (w21.setCell ⟨x, 9, none⟩ (.slice B1 (q1 + 1) s1)) x ({ (akR L t) with ak := L.ak ++ [t] } : Lf) (updV v1 4 (.slice B1 (q1 + 1) s1)) ∧ LfGo V1 (w21.setCell ⟨x, 9, none⟩ (.slice B1 (q1 + 1) s1)) x v1 (updV v1 4 (.slice B1 (q1 + 1) s1)) from HP.out)
  rw [← ew] at HP ⊢
  replace HBX := Lib.hid ((HP.out.2.gr.block g (Nat.lt_of_lt_of_le hlg HBV.out.size) HNF.out).trans ((HBV.out.block g hlg).trans HBX.out))
  have hVs := HBV.out.size
  replace HNF := Lib.hid (show ¬ lfFoot x (updV v1 4 (.slice B1 (q1 + 1) s1)) g from fun hf => by rcases HP.out.2.sub _ hf with hf | hf; exact HNF.out hf; omega)
  replace g0 := cell_of_blk (j := 0) HBX.out rfl
  replace hlg : g < y1.heap.size := (Array.getElem?_eq_some_iff.1 HBX.out).1
  replace HI := Lib.hid HP.out.1
  replace HG := Lib.hid ((HG.out.below HBV.out).trans HP.out.2)
  replace hlt1 := HI.out.lt
  clear ew HP HBV HIV HOV HNB f1 z1 hlt21
  obtain ⟨ar, yr, hra⟩ := snoc_of_ne hra
  have hr0 := HI.out.row 0 (by omega)
  obtain ⟨Ar, pr, hvr⟩ := own_slice hr0
  have er := cell_of_blk (j := 4) HI.out.blk rfl
  have hrl : L.ra.length = ar.length + 1 := by rw [hra]; simp
  replace hvr : (updV v1 4 (.slice B1 (q1 + 1) s1)) 0 = .slice Ar (ar.length + 1) pr := hvr.trans (by show Value.slice Ar L.ra.length pr = _; rw [hrl])
  replace hr0 : y1.ownsRow 0 3 1 (.slice Ar (ar.length + 1) pr) L.ra.length (alI L.ra) := hvr ▸ hr0
  replace er : y1.cell? ⟨x, 4, none⟩ = some (.slice Ar (ar.length + 1) pr) := er.trans (congrArg some hvr)
  obtain ⟨gr, rfl, dr⟩ := last_int hr0 hra
  have hgr := World.block_lt_of_cell? _ _ dr
  replace hgr : gr < y1.heap.size := hgr
  have HYR := Lib.hid (show L.ra.getLastD 0 = yr from by rw [hra]; simp)
  have hrg : 0 ≤ yr ∧ yr < alEnd := hrng yr (by rw [hra]; simp)
  unfold alEnd at hrg
  have hwt : IntKind.i64.wrap (t - yr) = t - yr := by rw [IntKind.wrap_i64]; omega
  have hqr : ar.length ≤ 100000 := by have := hN.2.2; omega
  generalize ar.length = qr at er dr hqr
  have hw1 : IntKind.i64.wrap (((qr + 1 : Nat) : Int) - 1) = (qr : Int) := by rw [show ((qr + 1 : Nat) : Int) - 1 = (qr : Int) by omega]; rw [IntKind.wrap_i64]; omega
  have hw2 : IntKind.i64.wrap (qr : Int) = (qr : Int) := by rw [IntKind.wrap_i64]; omega
  have hr0' : (0 : Int) ≤ (qr : Int) := by omega
  have hr1 : (qr : Int) < (qr : Int) + 1 := by omega
  have hr2 : qr < qr + 1 := by omega
  have hr3 : 0 < qr + 1 := by omega
  clear hr0 hvr hrl hra hrng
  obtain ⟨A2, p2, hv2⟩ := own_slice (HI.out.row 5 (by omega))
  replace hv2 : (updV v1 4 (.slice B1 (q1 + 1) s1)) 5 = .slice A2 L.wt.length p2 := hv2
  have e2 := cell_of_blk (j := 10) HI.out.blk rfl
  replace e2 : y1.cell? ⟨x, 10, none⟩ = some (.slice A2 L.wt.length p2) := e2.trans (congrArg some hv2)
  have HO2 := Lib.hid (show y1.ownsRow 0 3 1 (.slice A2 L.wt.length p2) L.wt.length (alI L.wt) from hv2 ▸ HI.out.row 5 (by omega))
  have HV2 := Lib.hid hv2
  obtain ⟨q2, hq2⟩ : ∃ q, L.wt.length = q := ⟨_, rfl⟩
  have hN2 : q2 ≤ 100000 := hq2 ▸ hN.2.1
  have HL2 := Lib.hid hq2
  rw [hq2] at e2 HO2 HV2
  clear hq2 hv2
  have HQ := Lib.hid (fun (V : World) (hV : Below y1.heap.size y1 V) => (And.intro ((hV.cell (p := ⟨x, 10, none⟩) hlt1).trans e2) (And.intro ((hV.cell (p := ⟨g, 0, none⟩) hlg).trans g0) (And.intro ((hV.cell (p := ⟨x, 4, none⟩) hlt1).trans er) ((hV.cell (p := ⟨gr, qr, none⟩) hgr).trans dr)))))
  clear e2
  go_upto_region 12 with (fail)
  refine QM.qRegionPt 21 (.pointer (some ⟨x, 0, none⟩)) [.pointer (some ⟨x, 0, none⟩), .pointer (some ⟨x, 0, none⟩), .pointer (some ⟨x, 10, none⟩), .slice A2 q2 p2, .pointer (some ⟨g, 0, none⟩), .int .i64 t, .pointer (some ⟨x, 0, none⟩), .pointer (some ⟨x, 0, none⟩), .pointer (some ⟨x, 4, none⟩), .slice (some ⟨gr, 0, none⟩) (qr + 1) pr, .pointer (some ⟨x, 0, none⟩), .pointer (some ⟨x, 0, none⟩), .pointer (some ⟨x, 4, none⟩), .slice (some ⟨gr, 0, none⟩) (qr + 1) pr, .int .i64 ((qr : Int) + 1), .int .i64 (qr : Int), .pointer (some ⟨gr, qr, none⟩), .int .i64 yr, .int .i64 (t - yr), undef] [none, none, none, none, none, none, none, none, none, none, none, none, none, none, none, none, none, none, none, none, some (.cells #[.int .i64 (t - yr)] 3, fun n => .slice (some ⟨n, 0, none⟩) 1 1)] (by kernel_rfl) (by kernel_rfl) rfl (Or.inl ⟨by rfl, fun w => by go_simp⟩) (fun _ _ _ h => h) rfl rfl (by rfl) ?_ ?_
  · simp only [List.take_succ_cons, List.take_zero, QM.putL, Act.put, List.setIfInBounds_toArray, List.set_cons_zero, List.set_cons_succ]
    refine ⟨?_, ?_, ?_, ?_, ?_, ?_, ?_, ?_, ?_, ?_, ?_, ?_, ?_, ?_, ?_, ?_, ?_, ?_, ?_, ?_, ?_, trivial⟩
    · exact fun V hV => .inl (by obtain ⟨r0, r1, r2, r3⟩ := HQ.out V hV; go_simp)
    · exact fun V hV => .inl (by obtain ⟨r0, r1, r2, r3⟩ := HQ.out V hV; go_simp)
    · exact fun V hV => .inl (by obtain ⟨r0, r1, r2, r3⟩ := HQ.out V hV; go_simp)
    · exact fun V hV => .inl (by obtain ⟨r0, r1, r2, r3⟩ := HQ.out V hV; go_simp)
    · exact fun V hV => .inl (by obtain ⟨r0, r1, r2, r3⟩ := HQ.out V hV; go_simp)
    · exact fun V hV => .inl (by obtain ⟨r0, r1, r2, r3⟩ := HQ.out V hV; go_simp)
    · exact fun V hV => .inl (by obtain ⟨r0, r1, r2, r3⟩ := HQ.out V hV; go_simp)
    · exact fun V hV => .inl (by obtain ⟨r0, r1, r2, r3⟩ := HQ.out V hV; go_simp)
    · exact fun V hV => .inl (by obtain ⟨r0, r1, r2, r3⟩ := HQ.out V hV; go_simp)
    · exact fun V hV => .inl (by obtain ⟨r0, r1, r2, r3⟩ := HQ.out V hV; go_simp)
    · exact fun V hV => .inl (by obtain ⟨r0, r1, r2, r3⟩ := HQ.out V hV; go_simp)
    · exact fun V hV => .inl (by obtain ⟨r0, r1, r2, r3⟩ := HQ.out V hV; go_simp)
    · exact fun V hV => .inl (by obtain ⟨r0, r1, r2, r3⟩ := HQ.out V hV; go_simp)
    · exact fun V hV => .inl (by obtain ⟨r0, r1, r2, r3⟩ := HQ.out V hV; go_simp)
    · exact fun V hV => .inl (by obtain ⟨r0, r1, r2, r3⟩ := HQ.out V hV; go_simp)
    · exact fun V hV => .inl (by obtain ⟨r0, r1, r2, r3⟩ := HQ.out V hV; go_simp)
    · exact fun V hV => .inl (by obtain ⟨r0, r1, r2, r3⟩ := HQ.out V hV; go_simp)
    · exact fun V hV => .inl (by obtain ⟨r0, r1, r2, r3⟩ := HQ.out V hV; go_simp)
    · exact fun V hV => .inl (by obtain ⟨r0, r1, r2, r3⟩ := HQ.out V hV; go_simp)
    · exact fun V hV => .inl (by obtain ⟨r0, r1, r2, r3⟩ := HQ.out V hV; go_simp)
    · exact fun V => by go_simp
  intro G V2 hV2 hG
  obtain ⟨ha2, hb2⟩ := hG.1 20 _ rfl
  simp only [List.take_succ_cons, List.take_zero, List.drop_succ_cons, List.drop_zero, QM.putL, QM.putG, Act.put, List.setIfInBounds_toArray, List.set_cons_zero, List.set_cons_succ, Nat.zero_add, Nat.reduceAdd]
  generalize G 20 = gn2 at ha2 hb2 ⊢
  have HIV := Lib.hid (HI.out.below hV2)
  have HOV := Lib.hid (own_below HO2.out hV2)
  have HBV := Lib.hid hV2
  have HNB := Lib.hid hb2
  clear hV2 hb2 hG ha2 HQ
  go_wp2_with (at_builtin; go_loud (refine wpList_append_own2 _ rfl _ _ 22 rfl 0 3 i0 _ 1 8 Tryz.underlying22 hi0 hz0 hz1 hz2 rfl (by decide) (.slice A2 q2 p2) q2 (alI L.wt) rfl HOV.out ⟨gn2, 0, none⟩ 1 1 [.int .i64 (t - yr)] rfl rfl (cells_add (cellsBlkA HNB.out rfl)) (oneI _) (h63A hN2) (h47A hN2) (Nat.zero_le _) ?_))
  intro v9 w22 ho9 hg9 hm9
  obtain ⟨B2, s2, rfl⟩ := own_slice ho9
  have hbx9 := (hg9.block x HIV.out.lt (own_ne HOV.out HIV.out.blk (by decide))).trans HIV.out.blk
  have f2 := cell_of_blk (j := 10) hbx9 rfl
  have z2 : w22.frozen? ⟨x, 10, none⟩ = false := by simp [World.frozen?, hbx9]
  have hlt22 : x < w22.heap.size := (Array.getElem?_eq_some_iff.1 hbx9).1
  have HP := Lib.hid (HIV.out.app (L' := (akd L t (akR L t))) (m := 5) (v' := .slice B2 (q2 + 1) s2) (by omega) ⟨rfl, rfl, rfl, rfl, rfl, fun k hk hne => by rcases k with _ | _ | _ | _ | _ | _ | k <;> first | exact ⟨rfl, rfl⟩ | exact absurd rfl hne | omega⟩ (HV2.out ▸ hg9) (HV2.out ▸ hm9) (by show w22.ownsRow 0 3 1 (.slice B2 (q2 + 1) s2) (L.wt ++ [t - L.ra.getLastD 0]).length (alI (L.wt ++ [t - L.ra.getLastD 0])); rw [List.length_append, HL2.out, alI_snoc, HYR.out]; exact ho9))
  clear ho9 hg9 hm9 hbx9
  go_wp2_with (fail)
  go_ret
  exact ⟨rfl, _, HP.out.1, (HG.out.below HBV.out).trans HP.out.2⟩
set_option maxRecDepth 100000 in
set_option maxHeartbeats 2000000 in
theorem lower_ak1 (x : Nat) (t un : Int) (dd rr bb : ByteArray) (L : Lf) (v : Nat → Value) (w : World) (h : LfI w x L v) (hst : L.st = 1) (hfr : L.fr ≠ []) (hM : L.up.length ≤ 100000 ∧ L.fr.length ≤ 100000) (hN : L.ak.length ≤ 100000 ∧ L.wt.length ≤ 100000 ∧ L.ra.length ≤ 100000) (hra : L.ra ≠ []) (hrng : ∀ y ∈ L.ra, 0 ≤ y ∧ y < alEnd) (ht : 0 ≤ t ∧ t < 345686400000) :
    Calls Tryz.prog 200 #[.pointer (some ⟨x, 0, none⟩), .agg #[.int .i64 t, .int .i64 3, .string dd, .string rr, .string bb, .int .i64 un]] w fun e w' => FollowPost w x v ((akd L t (akA L t)), 0) e w' := by
  obtain ⟨i0, hi0, hz0, hz1, hz2⟩ := info_parts Tryz.infoIntA
  have hb1 : Below w.heap.size w (w.alloc (.cells #[.int .i64 t, .int .i64 3, .string dd, .string rr, .string bb, .int .i64 un] 47)) := (Below.refl _ _).alloc (Nat.le_refl _) _
  have hlt := h.lt
  have c2 := (show w.cell? ⟨x, 2, none⟩ = some (.int .i64 1) from hst ▸ cell_of_blk (j := 2) h.blk rfl)
  have HB := Lib.hid (And.intro hb1 (And.intro (heap_new w (.cells #[.int .i64 t, .int .i64 3, .string dd, .string rr, .string bb, .int .i64 un] 47)) (fun hf => by have := h.foot_lt (b := w.heap.size) hf; omega : ¬ lfFoot x v w.heap.size)))
  have HT := Lib.hid (turn_akA x t L v _ (h.below hb1) hst hfr hM)
  clear h hb1
  go_enter Tryz.func200, Tryz.ntmps200
  go_wp2_with (fail)
  refine HT.out.mono ?_
  rintro e w1 ⟨rfl, v1, hi1, hg1⟩
  have hz : w.heap.size < (w.alloc (.cells #[.int .i64 t, .int .i64 3, .string dd, .string rr, .string bb, .int .i64 un] 47)).heap.size := by simp
  have hbx := (hg1.gr.block w.heap.size hz HB.out.2.2).trans HB.out.2.1
  have g0 := cell_of_blk (j := 0) hbx rfl
  have g1 := cell_of_blk (j := 1) hbx rfl
  have hlg : w.heap.size < w1.heap.size := (Array.getElem?_eq_some_iff.1 hbx).1
  have HNF := Lib.hid (show ¬ lfFoot x v1 w.heap.size from fun hf => by rcases hg1.sub _ hf with hf | hf; exact HB.out.2.2 hf; (simp only [World.size_alloc] at hf; omega))
  have HBX := Lib.hid hbx
  have HI := Lib.hid hi1
  have HG := Lib.hid (LfGo.of_below HB.out.1 hg1)
  have hlt1 := hi1.lt
  clear hi1 hg1 hbx hz
  generalize hgg : w.heap.size = g at g0 g1 hlg HBX HNF ⊢
  have HGG := Lib.hid hgg
  clear hgg
  obtain ⟨A1, p1, hv1⟩ := own_slice (HI.out.row 4 (by omega))
  replace hv1 : v1 4 = .slice A1 L.ak.length p1 := hv1
  have e1 := cell_of_blk (j := 9) HI.out.blk rfl
  replace e1 : w1.cell? ⟨x, 9, none⟩ = some (.slice A1 L.ak.length p1) := e1.trans (congrArg some hv1)
  have HO1 := Lib.hid (show w1.ownsRow 0 3 1 (.slice A1 L.ak.length p1) L.ak.length (alI L.ak) from hv1 ▸ HI.out.row 4 (by omega))
  have HV1 := Lib.hid hv1
  obtain ⟨q1, hq1⟩ : ∃ q, L.ak.length = q := ⟨_, rfl⟩
  have hN1 : q1 ≤ 100000 := hq1 ▸ hN.1
  have HL1 := Lib.hid hq1
  rw [hq1] at e1 HO1 HV1
  clear hq1 hv1
  have HQ := Lib.hid (fun (V : World) (hV : Below w1.heap.size w1 V) => (And.intro ((hV.cell (p := ⟨x, 9, none⟩) hlt1).trans e1) ((hV.cell (p := ⟨g, 0, none⟩) hlg).trans g0)))
  clear e1
  go_upto_region 11 with (fail)
  refine QM.qRegionPt 8 (.pointer (some ⟨x, 0, none⟩)) [.pointer (some ⟨x, 0, none⟩), .pointer (some ⟨x, 0, none⟩), .pointer (some ⟨x, 9, none⟩), .slice A1 q1 p1, .pointer (some ⟨g, 0, none⟩), .int .i64 t, undef] [none, none, none, none, none, none, none, some (.cells #[.int .i64 t] 3, fun n => .slice (some ⟨n, 0, none⟩) 1 1)] (by kernel_rfl) (by kernel_rfl) rfl (Or.inl ⟨by rfl, fun w => by go_simp⟩) (fun _ _ _ h => h) rfl rfl (by rfl) ?_ ?_
  · simp only [List.take_succ_cons, List.take_zero, QM.putL, Act.put, List.setIfInBounds_toArray, List.set_cons_zero, List.set_cons_succ]
    refine ⟨?_, ?_, ?_, ?_, ?_, ?_, ?_, ?_, trivial⟩
    · exact fun V hV => .inl (by obtain ⟨r0, r1⟩ := HQ.out V hV; go_simp)
    · exact fun V hV => .inl (by obtain ⟨r0, r1⟩ := HQ.out V hV; go_simp)
    · exact fun V hV => .inl (by obtain ⟨r0, r1⟩ := HQ.out V hV; go_simp)
    · exact fun V hV => .inl (by obtain ⟨r0, r1⟩ := HQ.out V hV; go_simp)
    · exact fun V hV => .inl (by obtain ⟨r0, r1⟩ := HQ.out V hV; go_simp)
    · exact fun V hV => .inl (by obtain ⟨r0, r1⟩ := HQ.out V hV; go_simp)
    · exact fun V hV => .inl (by obtain ⟨r0, r1⟩ := HQ.out V hV; go_simp)
    · exact fun V => by go_simp
  intro G V1 hV1 hG
  obtain ⟨ha1, hb1⟩ := hG.1 7 _ rfl
  simp only [List.take_succ_cons, List.take_zero, List.drop_succ_cons, List.drop_zero, QM.putL, QM.putG, Act.put, List.setIfInBounds_toArray, List.set_cons_zero, List.set_cons_succ, Nat.zero_add, Nat.reduceAdd]
  generalize G 7 = gn1 at ha1 hb1 ⊢
  have HIV := Lib.hid (HI.out.below hV1)
  have HOV := Lib.hid (own_below HO1.out hV1)
  have HBV := Lib.hid hV1
  have HNB := Lib.hid hb1
  clear hV1 hb1 hG ha1 HQ
  go_wp2_with (at_builtin; go_loud (refine wpList_append_own2 _ rfl _ _ 22 rfl 0 3 i0 _ 1 8 Tryz.underlying22 hi0 hz0 hz1 hz2 rfl (by decide) (.slice A1 q1 p1) q1 (alI L.ak) rfl HOV.out ⟨gn1, 0, none⟩ 1 1 [.int .i64 t] rfl rfl (cells_add (cellsBlkA HNB.out rfl)) (oneI t) (h63A hN1) (h47A hN1) (Nat.zero_le _) ?_))
  intro v9 w21 ho9 hg9 hm9
  obtain ⟨B1, s1, rfl⟩ := own_slice ho9
  have hbx9 := (hg9.block x HIV.out.lt (own_ne HOV.out HIV.out.blk (by decide))).trans HIV.out.blk
  have f1 := cell_of_blk (j := 9) hbx9 rfl
  have z1 : w21.frozen? ⟨x, 9, none⟩ = false := by simp [World.frozen?, hbx9]
  have hlt21 : x < w21.heap.size := (Array.getElem?_eq_some_iff.1 hbx9).1
  have HP := Lib.hid (HIV.out.app (L' := ({ (akA L t) with ak := L.ak ++ [t] } : Lf)) (m := 4) (v' := .slice B1 (q1 + 1) s1) (by omega) ⟨rfl, rfl, rfl, rfl, rfl, fun k hk hne => by rcases k with _ | _ | _ | _ | _ | _ | k <;> first | exact ⟨rfl, rfl⟩ | exact absurd rfl hne | omega⟩ (HV1.out ▸ hg9) (HV1.out ▸ hm9) (by show w21.ownsRow 0 3 1 (.slice B1 (q1 + 1) s1) (L.ak ++ [t]).length (alI (L.ak ++ [t])); rw [List.length_append, HL1.out, alI_snoc]; exact ho9))
  clear ho9 hg9 hm9 hbx9
  go_upto_region 12 with (fail)
  obtain ⟨y1, ew⟩ : ∃ W1 : World, W1 = (w21.setCell ⟨x, 9, none⟩ (.slice B1 (q1 + 1) s1)) := ⟨_, rfl⟩
  replace HP := Lib.hid (show LfI (w21.setCell ⟨x, 9, none⟩ (.slice B1 (q1 + 1) s1)) x ({ (akA L t) with ak := L.ak ++ [t] } : Lf) (updV v1 4 (.slice B1 (q1 + 1) s1)) ∧ LfGo V1 (w21.setCell ⟨x, 9, none⟩ (.slice B1 (q1 + 1) s1)) x v1 (updV v1 4 (.slice B1 (q1 + 1) s1)) from HP.out)
  rw [← ew] at HP ⊢
  replace HBX := Lib.hid ((HP.out.2.gr.block g (Nat.lt_of_lt_of_le hlg HBV.out.size) HNF.out).trans ((HBV.out.block g hlg).trans HBX.out))
  have hVs := HBV.out.size
  replace HNF := Lib.hid (show ¬ lfFoot x (updV v1 4 (.slice B1 (q1 + 1) s1)) g from fun hf => by rcases HP.out.2.sub _ hf with hf | hf; exact HNF.out hf; omega)
  replace g0 := cell_of_blk (j := 0) HBX.out rfl
  replace hlg : g < y1.heap.size := (Array.getElem?_eq_some_iff.1 HBX.out).1
  replace HI := Lib.hid HP.out.1
  replace HG := Lib.hid ((HG.out.below HBV.out).trans HP.out.2)
  replace hlt1 := HI.out.lt
  clear ew HP HBV HIV HOV HNB f1 z1 hlt21
  obtain ⟨ar, yr, hra⟩ := snoc_of_ne hra
  have hr0 := HI.out.row 0 (by omega)
  obtain ⟨Ar, pr, hvr⟩ := own_slice hr0
  have er := cell_of_blk (j := 4) HI.out.blk rfl
  have hrl : L.ra.length = ar.length + 1 := by rw [hra]; simp
  replace hvr : (updV v1 4 (.slice B1 (q1 + 1) s1)) 0 = .slice Ar (ar.length + 1) pr := hvr.trans (by show Value.slice Ar L.ra.length pr = _; rw [hrl])
  replace hr0 : y1.ownsRow 0 3 1 (.slice Ar (ar.length + 1) pr) L.ra.length (alI L.ra) := hvr ▸ hr0
  replace er : y1.cell? ⟨x, 4, none⟩ = some (.slice Ar (ar.length + 1) pr) := er.trans (congrArg some hvr)
  obtain ⟨gr, rfl, dr⟩ := last_int hr0 hra
  have hgr := World.block_lt_of_cell? _ _ dr
  replace hgr : gr < y1.heap.size := hgr
  have HYR := Lib.hid (show L.ra.getLastD 0 = yr from by rw [hra]; simp)
  have hrg : 0 ≤ yr ∧ yr < alEnd := hrng yr (by rw [hra]; simp)
  unfold alEnd at hrg
  have hwt : IntKind.i64.wrap (t - yr) = t - yr := by rw [IntKind.wrap_i64]; omega
  have hqr : ar.length ≤ 100000 := by have := hN.2.2; omega
  generalize ar.length = qr at er dr hqr
  have hw1 : IntKind.i64.wrap (((qr + 1 : Nat) : Int) - 1) = (qr : Int) := by rw [show ((qr + 1 : Nat) : Int) - 1 = (qr : Int) by omega]; rw [IntKind.wrap_i64]; omega
  have hw2 : IntKind.i64.wrap (qr : Int) = (qr : Int) := by rw [IntKind.wrap_i64]; omega
  have hr0' : (0 : Int) ≤ (qr : Int) := by omega
  have hr1 : (qr : Int) < (qr : Int) + 1 := by omega
  have hr2 : qr < qr + 1 := by omega
  have hr3 : 0 < qr + 1 := by omega
  clear hr0 hvr hrl hra hrng
  obtain ⟨A2, p2, hv2⟩ := own_slice (HI.out.row 5 (by omega))
  replace hv2 : (updV v1 4 (.slice B1 (q1 + 1) s1)) 5 = .slice A2 L.wt.length p2 := hv2
  have e2 := cell_of_blk (j := 10) HI.out.blk rfl
  replace e2 : y1.cell? ⟨x, 10, none⟩ = some (.slice A2 L.wt.length p2) := e2.trans (congrArg some hv2)
  have HO2 := Lib.hid (show y1.ownsRow 0 3 1 (.slice A2 L.wt.length p2) L.wt.length (alI L.wt) from hv2 ▸ HI.out.row 5 (by omega))
  have HV2 := Lib.hid hv2
  obtain ⟨q2, hq2⟩ : ∃ q, L.wt.length = q := ⟨_, rfl⟩
  have hN2 : q2 ≤ 100000 := hq2 ▸ hN.2.1
  have HL2 := Lib.hid hq2
  rw [hq2] at e2 HO2 HV2
  clear hq2 hv2
  have HQ := Lib.hid (fun (V : World) (hV : Below y1.heap.size y1 V) => (And.intro ((hV.cell (p := ⟨x, 10, none⟩) hlt1).trans e2) (And.intro ((hV.cell (p := ⟨g, 0, none⟩) hlg).trans g0) (And.intro ((hV.cell (p := ⟨x, 4, none⟩) hlt1).trans er) ((hV.cell (p := ⟨gr, qr, none⟩) hgr).trans dr)))))
  clear e2
  go_upto_region 12 with (fail)
  refine QM.qRegionPt 21 (.pointer (some ⟨x, 0, none⟩)) [.pointer (some ⟨x, 0, none⟩), .pointer (some ⟨x, 0, none⟩), .pointer (some ⟨x, 10, none⟩), .slice A2 q2 p2, .pointer (some ⟨g, 0, none⟩), .int .i64 t, .pointer (some ⟨x, 0, none⟩), .pointer (some ⟨x, 0, none⟩), .pointer (some ⟨x, 4, none⟩), .slice (some ⟨gr, 0, none⟩) (qr + 1) pr, .pointer (some ⟨x, 0, none⟩), .pointer (some ⟨x, 0, none⟩), .pointer (some ⟨x, 4, none⟩), .slice (some ⟨gr, 0, none⟩) (qr + 1) pr, .int .i64 ((qr : Int) + 1), .int .i64 (qr : Int), .pointer (some ⟨gr, qr, none⟩), .int .i64 yr, .int .i64 (t - yr), undef] [none, none, none, none, none, none, none, none, none, none, none, none, none, none, none, none, none, none, none, none, some (.cells #[.int .i64 (t - yr)] 3, fun n => .slice (some ⟨n, 0, none⟩) 1 1)] (by kernel_rfl) (by kernel_rfl) rfl (Or.inl ⟨by rfl, fun w => by go_simp⟩) (fun _ _ _ h => h) rfl rfl (by rfl) ?_ ?_
  · simp only [List.take_succ_cons, List.take_zero, QM.putL, Act.put, List.setIfInBounds_toArray, List.set_cons_zero, List.set_cons_succ]
    refine ⟨?_, ?_, ?_, ?_, ?_, ?_, ?_, ?_, ?_, ?_, ?_, ?_, ?_, ?_, ?_, ?_, ?_, ?_, ?_, ?_, ?_, trivial⟩
    · exact fun V hV => .inl (by obtain ⟨r0, r1, r2, r3⟩ := HQ.out V hV; go_simp)
    · exact fun V hV => .inl (by obtain ⟨r0, r1, r2, r3⟩ := HQ.out V hV; go_simp)
    · exact fun V hV => .inl (by obtain ⟨r0, r1, r2, r3⟩ := HQ.out V hV; go_simp)
    · exact fun V hV => .inl (by obtain ⟨r0, r1, r2, r3⟩ := HQ.out V hV; go_simp)
    · exact fun V hV => .inl (by obtain ⟨r0, r1, r2, r3⟩ := HQ.out V hV; go_simp)
    · exact fun V hV => .inl (by obtain ⟨r0, r1, r2, r3⟩ := HQ.out V hV; go_simp)
    · exact fun V hV => .inl (by obtain ⟨r0, r1, r2, r3⟩ := HQ.out V hV; go_simp)
    · exact fun V hV => .inl (by obtain ⟨r0, r1, r2, r3⟩ := HQ.out V hV; go_simp)
    · exact fun V hV => .inl (by obtain ⟨r0, r1, r2, r3⟩ := HQ.out V hV; go_simp)
    · exact fun V hV => .inl (by obtain ⟨r0, r1, r2, r3⟩ := HQ.out V hV; go_simp)
    · exact fun V hV => .inl (by obtain ⟨r0, r1, r2, r3⟩ := HQ.out V hV; go_simp)
    · exact fun V hV => .inl (by obtain ⟨r0, r1, r2, r3⟩ := HQ.out V hV; go_simp)
    · exact fun V hV => .inl (by obtain ⟨r0, r1, r2, r3⟩ := HQ.out V hV; go_simp)
    · exact fun V hV => .inl (by obtain ⟨r0, r1, r2, r3⟩ := HQ.out V hV; go_simp)
    · exact fun V hV => .inl (by obtain ⟨r0, r1, r2, r3⟩ := HQ.out V hV; go_simp)
    · exact fun V hV => .inl (by obtain ⟨r0, r1, r2, r3⟩ := HQ.out V hV; go_simp)
    · exact fun V hV => .inl (by obtain ⟨r0, r1, r2, r3⟩ := HQ.out V hV; go_simp)
    · exact fun V hV => .inl (by obtain ⟨r0, r1, r2, r3⟩ := HQ.out V hV; go_simp)
    · exact fun V hV => .inl (by obtain ⟨r0, r1, r2, r3⟩ := HQ.out V hV; go_simp)
    · exact fun V hV => .inl (by obtain ⟨r0, r1, r2, r3⟩ := HQ.out V hV; go_simp)
    · exact fun V => by go_simp
  intro G V2 hV2 hG
  obtain ⟨ha2, hb2⟩ := hG.1 20 _ rfl
  simp only [List.take_succ_cons, List.take_zero, List.drop_succ_cons, List.drop_zero, QM.putL, QM.putG, Act.put, List.setIfInBounds_toArray, List.set_cons_zero, List.set_cons_succ, Nat.zero_add, Nat.reduceAdd]
  generalize G 20 = gn2 at ha2 hb2 ⊢
  have HIV := Lib.hid (HI.out.below hV2)
  have HOV := Lib.hid (own_below HO2.out hV2)
  have HBV := Lib.hid hV2
  have HNB := Lib.hid hb2
  clear hV2 hb2 hG ha2 HQ
  go_wp2_with (at_builtin; go_loud (refine wpList_append_own2 _ rfl _ _ 22 rfl 0 3 i0 _ 1 8 Tryz.underlying22 hi0 hz0 hz1 hz2 rfl (by decide) (.slice A2 q2 p2) q2 (alI L.wt) rfl HOV.out ⟨gn2, 0, none⟩ 1 1 [.int .i64 (t - yr)] rfl rfl (cells_add (cellsBlkA HNB.out rfl)) (oneI _) (h63A hN2) (h47A hN2) (Nat.zero_le _) ?_))
  intro v9 w22 ho9 hg9 hm9
  obtain ⟨B2, s2, rfl⟩ := own_slice ho9
  have hbx9 := (hg9.block x HIV.out.lt (own_ne HOV.out HIV.out.blk (by decide))).trans HIV.out.blk
  have f2 := cell_of_blk (j := 10) hbx9 rfl
  have z2 : w22.frozen? ⟨x, 10, none⟩ = false := by simp [World.frozen?, hbx9]
  have hlt22 : x < w22.heap.size := (Array.getElem?_eq_some_iff.1 hbx9).1
  have HP := Lib.hid (HIV.out.app (L' := (akd L t (akA L t))) (m := 5) (v' := .slice B2 (q2 + 1) s2) (by omega) ⟨rfl, rfl, rfl, rfl, rfl, fun k hk hne => by rcases k with _ | _ | _ | _ | _ | _ | k <;> first | exact ⟨rfl, rfl⟩ | exact absurd rfl hne | omega⟩ (HV2.out ▸ hg9) (HV2.out ▸ hm9) (by show w22.ownsRow 0 3 1 (.slice B2 (q2 + 1) s2) (L.wt ++ [t - L.ra.getLastD 0]).length (alI (L.wt ++ [t - L.ra.getLastD 0])); rw [List.length_append, HL2.out, alI_snoc, HYR.out]; exact ho9))
  clear ho9 hg9 hm9 hbx9
  go_wp2_with (fail)
  go_ret
  exact ⟨rfl, _, HP.out.1, (HG.out.below HBV.out).trans HP.out.2⟩
end Go.Proofs.YtgdnedhcbjonkaaGreatDoor

/- (*alarm.life).follow: each way that it goes. -/
namespace Go.Proofs.YtgdnedhcbjonkaaGreatDoor
open Go.RowKit

set_option maxRecDepth 100000 in
set_option maxHeartbeats 2000000 in
theorem follow_raise0 (x : Nat) (t un : Int) (dd rr bb : ByteArray) (L : Lf) (v : Nat → Value) (w : World) (h : LfI w x L v) (hst : L.st = 0) (hN : L.up.length ≤ 100000 ∧ L.fr.length ≤ 100000 ∧ L.ra.length ≤ 100000) :
    Calls Tryz.prog 160 #[.pointer (some ⟨x, 0, none⟩), .agg #[.int .i64 t, .int .i64 1, .string dd, .string rr, .string bb, .int .i64 un]] w fun e w' => FollowPost w x v (({ upL L t with ra := L.ra ++ [t] } : Lf), 0) e w' := by
  obtain ⟨i0, hi0, hz0, hz1, hz2⟩ := info_parts Tryz.infoIntA
  have hb1 : Below w.heap.size w (w.alloc (.cells #[.int .i64 t, .int .i64 1, .string dd, .string rr, .string bb, .int .i64 un] 47)) := (Below.refl _ _).alloc (Nat.le_refl _) _
  have hlt := h.lt
  have c2 := (show w.cell? ⟨x, 2, none⟩ = some (.int .i64 0) from hst ▸ cell_of_blk (j := 2) h.blk rfl)
  have HB := Lib.hid (And.intro hb1 (And.intro (heap_new w (.cells #[.int .i64 t, .int .i64 1, .string dd, .string rr, .string bb, .int .i64 un] 47)) (fun hf => by have := h.foot_lt (b := w.heap.size) hf; omega : ¬ lfFoot x v w.heap.size)))
  have HT := Lib.hid (turn_up0 x t L v _ (h.below hb1) hst ⟨hN.1, hN.2.1⟩)
  clear h hb1
  go_enter Tryz.func160, Tryz.ntmps160
  go_wp2_with (fail)
  refine HT.out.mono ?_
  rintro e w1 ⟨rfl, v1, hi1, hg1⟩
  have hz : w.heap.size < (w.alloc (.cells #[.int .i64 t, .int .i64 1, .string dd, .string rr, .string bb, .int .i64 un] 47)).heap.size := by simp
  have hbx := (hg1.gr.block w.heap.size hz HB.out.2.2).trans HB.out.2.1
  have g0 := cell_of_blk (j := 0) hbx rfl
  have g1 := cell_of_blk (j := 1) hbx rfl
  have hlg : w.heap.size < w1.heap.size := (Array.getElem?_eq_some_iff.1 hbx).1
  have HNF := Lib.hid (show ¬ lfFoot x v1 w.heap.size from fun hf => by rcases hg1.sub _ hf with hf | hf; exact HB.out.2.2 hf; (simp only [World.size_alloc] at hf; omega))
  have HBX := Lib.hid hbx
  have HI := Lib.hid hi1
  have HG := Lib.hid (LfGo.of_below HB.out.1 hg1)
  have hlt1 := hi1.lt
  clear hi1 hg1 hbx hz
  generalize hgg : w.heap.size = g at g0 g1 hlg HBX HNF ⊢
  have HGG := Lib.hid hgg
  clear hgg
  obtain ⟨A1, p1, hv1⟩ := own_slice (HI.out.row 0 (by omega))
  replace hv1 : v1 0 = .slice A1 L.ra.length p1 := hv1
  have e1 := cell_of_blk (j := 4) HI.out.blk rfl
  replace e1 : w1.cell? ⟨x, 4, none⟩ = some (.slice A1 L.ra.length p1) := e1.trans (congrArg some hv1)
  have HO1 := Lib.hid (show w1.ownsRow 0 3 1 (.slice A1 L.ra.length p1) L.ra.length (alI L.ra) from hv1 ▸ HI.out.row 0 (by omega))
  have HV1 := Lib.hid hv1
  obtain ⟨q1, hq1⟩ : ∃ q, L.ra.length = q := ⟨_, rfl⟩
  have hN1 : q1 ≤ 100000 := hq1 ▸ hN.2.2
  have HL1 := Lib.hid hq1
  rw [hq1] at e1 HO1 HV1
  clear hq1 hv1
  have HQ := Lib.hid (fun (V : World) (hV : Below w1.heap.size w1 V) => (And.intro ((hV.cell (p := ⟨x, 4, none⟩) hlt1).trans e1) ((hV.cell (p := ⟨g, 0, none⟩) hlg).trans g0)))
  clear e1
  go_upto_region 6 with (fail)
  refine QM.qRegionPt 8 (.pointer (some ⟨x, 0, none⟩)) [.pointer (some ⟨x, 0, none⟩), .pointer (some ⟨x, 0, none⟩), .pointer (some ⟨x, 4, none⟩), .slice A1 q1 p1, .pointer (some ⟨g, 0, none⟩), .int .i64 t, undef] [none, none, none, none, none, none, none, some (.cells #[.int .i64 t] 3, fun n => .slice (some ⟨n, 0, none⟩) 1 1)] (by kernel_rfl) (by kernel_rfl) rfl (Or.inl ⟨by rfl, fun w => by go_simp⟩) (fun _ _ _ h => h) rfl rfl (by rfl) ?_ ?_
  · simp only [List.take_succ_cons, List.take_zero, QM.putL, Act.put, List.setIfInBounds_toArray, List.set_cons_zero, List.set_cons_succ]
    refine ⟨?_, ?_, ?_, ?_, ?_, ?_, ?_, ?_, trivial⟩
    · exact fun V hV => .inl (by obtain ⟨r0, r1⟩ := HQ.out V hV; go_simp)
    · exact fun V hV => .inl (by obtain ⟨r0, r1⟩ := HQ.out V hV; go_simp)
    · exact fun V hV => .inl (by obtain ⟨r0, r1⟩ := HQ.out V hV; go_simp)
    · exact fun V hV => .inl (by obtain ⟨r0, r1⟩ := HQ.out V hV; go_simp)
    · exact fun V hV => .inl (by obtain ⟨r0, r1⟩ := HQ.out V hV; go_simp)
    · exact fun V hV => .inl (by obtain ⟨r0, r1⟩ := HQ.out V hV; go_simp)
    · exact fun V hV => .inl (by obtain ⟨r0, r1⟩ := HQ.out V hV; go_simp)
    · exact fun V => by go_simp
  intro G V1 hV1 hG
  obtain ⟨ha1, hb1⟩ := hG.1 7 _ rfl
  simp only [List.take_succ_cons, List.take_zero, List.drop_succ_cons, List.drop_zero, QM.putL, QM.putG, Act.put, List.setIfInBounds_toArray, List.set_cons_zero, List.set_cons_succ, Nat.zero_add, Nat.reduceAdd]
  generalize G 7 = gn1 at ha1 hb1 ⊢
  have HIV := Lib.hid (HI.out.below hV1)
  have HOV := Lib.hid (own_below HO1.out hV1)
  have HBV := Lib.hid hV1
  have HNB := Lib.hid hb1
  clear hV1 hb1 hG ha1 HQ
  go_wp2_with (at_builtin; go_loud (refine wpList_append_own2 _ rfl _ _ 22 rfl 0 3 i0 _ 1 8 Tryz.underlying22 hi0 hz0 hz1 hz2 rfl (by decide) (.slice A1 q1 p1) q1 (alI L.ra) rfl HOV.out ⟨gn1, 0, none⟩ 1 1 [.int .i64 t] rfl rfl (cells_add (cellsBlkA HNB.out rfl)) (oneI t) (h63A hN1) (h47A hN1) (Nat.zero_le _) ?_))
  intro v9 w21 ho9 hg9 hm9
  obtain ⟨B1, s1, rfl⟩ := own_slice ho9
  have hbx9 := (hg9.block x HIV.out.lt (own_ne HOV.out HIV.out.blk (by decide))).trans HIV.out.blk
  have f1 := cell_of_blk (j := 4) hbx9 rfl
  have z1 : w21.frozen? ⟨x, 4, none⟩ = false := by simp [World.frozen?, hbx9]
  have hlt21 : x < w21.heap.size := (Array.getElem?_eq_some_iff.1 hbx9).1
  have HP := Lib.hid (HIV.out.app (L' := ({ upL L t with ra := L.ra ++ [t] } : Lf)) (m := 0) (v' := .slice B1 (q1 + 1) s1) (by omega) ⟨rfl, rfl, rfl, rfl, rfl, fun k hk hne => by rcases k with _ | _ | _ | _ | _ | _ | k <;> first | exact ⟨rfl, rfl⟩ | exact absurd rfl hne | omega⟩ (HV1.out ▸ hg9) (HV1.out ▸ hm9) (by show w21.ownsRow 0 3 1 (.slice B1 (q1 + 1) s1) (L.ra ++ [t]).length (alI (L.ra ++ [t])); rw [List.length_append, HL1.out, alI_snoc]; exact ho9))
  clear ho9 hg9 hm9 hbx9
  go_wp2_with (fail)
  go_ret
  exact ⟨rfl, _, HP.out.1, (HG.out.below HBV.out).trans HP.out.2⟩
set_option maxRecDepth 100000 in
set_option maxHeartbeats 2000000 in
theorem follow_raise3 (x : Nat) (t un : Int) (dd rr bb : ByteArray) (L : Lf) (v : Nat → Value) (w : World) (h : LfI w x L v) (hst : L.st = 3) (hN : L.up.length ≤ 100000 ∧ L.fr.length ≤ 100000 ∧ L.ra.length ≤ 100000) :
    Calls Tryz.prog 160 #[.pointer (some ⟨x, 0, none⟩), .agg #[.int .i64 t, .int .i64 1, .string dd, .string rr, .string bb, .int .i64 un]] w fun e w' => FollowPost w x v (({ upL L t with ra := L.ra ++ [t] } : Lf), 0) e w' := by
  obtain ⟨i0, hi0, hz0, hz1, hz2⟩ := info_parts Tryz.infoIntA
  have hb1 : Below w.heap.size w (w.alloc (.cells #[.int .i64 t, .int .i64 1, .string dd, .string rr, .string bb, .int .i64 un] 47)) := (Below.refl _ _).alloc (Nat.le_refl _) _
  have hlt := h.lt
  have c2 := (show w.cell? ⟨x, 2, none⟩ = some (.int .i64 3) from hst ▸ cell_of_blk (j := 2) h.blk rfl)
  have HB := Lib.hid (And.intro hb1 (And.intro (heap_new w (.cells #[.int .i64 t, .int .i64 1, .string dd, .string rr, .string bb, .int .i64 un] 47)) (fun hf => by have := h.foot_lt (b := w.heap.size) hf; omega : ¬ lfFoot x v w.heap.size)))
  have HT := Lib.hid (turn_up3 x t L v _ (h.below hb1) hst ⟨hN.1, hN.2.1⟩)
  clear h hb1
  go_enter Tryz.func160, Tryz.ntmps160
  go_wp2_with (fail)
  refine HT.out.mono ?_
  rintro e w1 ⟨rfl, v1, hi1, hg1⟩
  have hz : w.heap.size < (w.alloc (.cells #[.int .i64 t, .int .i64 1, .string dd, .string rr, .string bb, .int .i64 un] 47)).heap.size := by simp
  have hbx := (hg1.gr.block w.heap.size hz HB.out.2.2).trans HB.out.2.1
  have g0 := cell_of_blk (j := 0) hbx rfl
  have g1 := cell_of_blk (j := 1) hbx rfl
  have hlg : w.heap.size < w1.heap.size := (Array.getElem?_eq_some_iff.1 hbx).1
  have HNF := Lib.hid (show ¬ lfFoot x v1 w.heap.size from fun hf => by rcases hg1.sub _ hf with hf | hf; exact HB.out.2.2 hf; (simp only [World.size_alloc] at hf; omega))
  have HBX := Lib.hid hbx
  have HI := Lib.hid hi1
  have HG := Lib.hid (LfGo.of_below HB.out.1 hg1)
  have hlt1 := hi1.lt
  clear hi1 hg1 hbx hz
  generalize hgg : w.heap.size = g at g0 g1 hlg HBX HNF ⊢
  have HGG := Lib.hid hgg
  clear hgg
  obtain ⟨A1, p1, hv1⟩ := own_slice (HI.out.row 0 (by omega))
  replace hv1 : v1 0 = .slice A1 L.ra.length p1 := hv1
  have e1 := cell_of_blk (j := 4) HI.out.blk rfl
  replace e1 : w1.cell? ⟨x, 4, none⟩ = some (.slice A1 L.ra.length p1) := e1.trans (congrArg some hv1)
  have HO1 := Lib.hid (show w1.ownsRow 0 3 1 (.slice A1 L.ra.length p1) L.ra.length (alI L.ra) from hv1 ▸ HI.out.row 0 (by omega))
  have HV1 := Lib.hid hv1
  obtain ⟨q1, hq1⟩ : ∃ q, L.ra.length = q := ⟨_, rfl⟩
  have hN1 : q1 ≤ 100000 := hq1 ▸ hN.2.2
  have HL1 := Lib.hid hq1
  rw [hq1] at e1 HO1 HV1
  clear hq1 hv1
  have HQ := Lib.hid (fun (V : World) (hV : Below w1.heap.size w1 V) => (And.intro ((hV.cell (p := ⟨x, 4, none⟩) hlt1).trans e1) ((hV.cell (p := ⟨g, 0, none⟩) hlg).trans g0)))
  clear e1
  go_upto_region 6 with (fail)
  refine QM.qRegionPt 8 (.pointer (some ⟨x, 0, none⟩)) [.pointer (some ⟨x, 0, none⟩), .pointer (some ⟨x, 0, none⟩), .pointer (some ⟨x, 4, none⟩), .slice A1 q1 p1, .pointer (some ⟨g, 0, none⟩), .int .i64 t, undef] [none, none, none, none, none, none, none, some (.cells #[.int .i64 t] 3, fun n => .slice (some ⟨n, 0, none⟩) 1 1)] (by kernel_rfl) (by kernel_rfl) rfl (Or.inl ⟨by rfl, fun w => by go_simp⟩) (fun _ _ _ h => h) rfl rfl (by rfl) ?_ ?_
  · simp only [List.take_succ_cons, List.take_zero, QM.putL, Act.put, List.setIfInBounds_toArray, List.set_cons_zero, List.set_cons_succ]
    refine ⟨?_, ?_, ?_, ?_, ?_, ?_, ?_, ?_, trivial⟩
    · exact fun V hV => .inl (by obtain ⟨r0, r1⟩ := HQ.out V hV; go_simp)
    · exact fun V hV => .inl (by obtain ⟨r0, r1⟩ := HQ.out V hV; go_simp)
    · exact fun V hV => .inl (by obtain ⟨r0, r1⟩ := HQ.out V hV; go_simp)
    · exact fun V hV => .inl (by obtain ⟨r0, r1⟩ := HQ.out V hV; go_simp)
    · exact fun V hV => .inl (by obtain ⟨r0, r1⟩ := HQ.out V hV; go_simp)
    · exact fun V hV => .inl (by obtain ⟨r0, r1⟩ := HQ.out V hV; go_simp)
    · exact fun V hV => .inl (by obtain ⟨r0, r1⟩ := HQ.out V hV; go_simp)
    · exact fun V => by go_simp
  intro G V1 hV1 hG
  obtain ⟨ha1, hb1⟩ := hG.1 7 _ rfl
  simp only [List.take_succ_cons, List.take_zero, List.drop_succ_cons, List.drop_zero, QM.putL, QM.putG, Act.put, List.setIfInBounds_toArray, List.set_cons_zero, List.set_cons_succ, Nat.zero_add, Nat.reduceAdd]
  generalize G 7 = gn1 at ha1 hb1 ⊢
  have HIV := Lib.hid (HI.out.below hV1)
  have HOV := Lib.hid (own_below HO1.out hV1)
  have HBV := Lib.hid hV1
  have HNB := Lib.hid hb1
  clear hV1 hb1 hG ha1 HQ
  go_wp2_with (at_builtin; go_loud (refine wpList_append_own2 _ rfl _ _ 22 rfl 0 3 i0 _ 1 8 Tryz.underlying22 hi0 hz0 hz1 hz2 rfl (by decide) (.slice A1 q1 p1) q1 (alI L.ra) rfl HOV.out ⟨gn1, 0, none⟩ 1 1 [.int .i64 t] rfl rfl (cells_add (cellsBlkA HNB.out rfl)) (oneI t) (h63A hN1) (h47A hN1) (Nat.zero_le _) ?_))
  intro v9 w21 ho9 hg9 hm9
  obtain ⟨B1, s1, rfl⟩ := own_slice ho9
  have hbx9 := (hg9.block x HIV.out.lt (own_ne HOV.out HIV.out.blk (by decide))).trans HIV.out.blk
  have f1 := cell_of_blk (j := 4) hbx9 rfl
  have z1 : w21.frozen? ⟨x, 4, none⟩ = false := by simp [World.frozen?, hbx9]
  have hlt21 : x < w21.heap.size := (Array.getElem?_eq_some_iff.1 hbx9).1
  have HP := Lib.hid (HIV.out.app (L' := ({ upL L t with ra := L.ra ++ [t] } : Lf)) (m := 0) (v' := .slice B1 (q1 + 1) s1) (by omega) ⟨rfl, rfl, rfl, rfl, rfl, fun k hk hne => by rcases k with _ | _ | _ | _ | _ | _ | k <;> first | exact ⟨rfl, rfl⟩ | exact absurd rfl hne | omega⟩ (HV1.out ▸ hg9) (HV1.out ▸ hm9) (by show w21.ownsRow 0 3 1 (.slice B1 (q1 + 1) s1) (L.ra ++ [t]).length (alI (L.ra ++ [t])); rw [List.length_append, HL1.out, alI_snoc]; exact ho9))
  clear ho9 hg9 hm9 hbx9
  go_wp2_with (fail)
  go_ret
  exact ⟨rfl, _, HP.out.1, (HG.out.below HBV.out).trans HP.out.2⟩
set_option maxRecDepth 100000 in
set_option maxHeartbeats 2000000 in
theorem follow_raise1 (x : Nat) (t un : Int) (dd rr bb : ByteArray) (L : Lf) (v : Nat → Value) (w : World) (h : LfI w x L v) (hst : L.st = 1) :
    Calls Tryz.prog 160 #[.pointer (some ⟨x, 0, none⟩), .agg #[.int .i64 t, .int .i64 1, .string dd, .string rr, .string bb, .int .i64 un]] w fun e w' => FollowPost w x v (L, 6) e w' := by
  have hb1 : Below w.heap.size w (w.alloc (.cells #[.int .i64 t, .int .i64 1, .string dd, .string rr, .string bb, .int .i64 un] 47)) := (Below.refl _ _).alloc (Nat.le_refl _) _
  have hlt := h.lt
  have c2 := (show w.cell? ⟨x, 2, none⟩ = some (.int .i64 1) from hst ▸ cell_of_blk (j := 2) h.blk rfl)
  have HB := Lib.hid (And.intro hb1 (And.intro (heap_new w (.cells #[.int .i64 t, .int .i64 1, .string dd, .string rr, .string bb, .int .i64 un] 47)) (fun hf => by have := h.foot_lt (b := w.heap.size) hf; omega : ¬ lfFoot x v w.heap.size)))
  have HI := Lib.hid h
  have HGX := Lib.hid (And.intro (h.below hb1) (LfGo.below (LfGo.refl w x v) hb1))
  clear h hb1 HB
  go_enter Tryz.func160, Tryz.ntmps160
  go_wp2_with (fail)
  go_ret
  exact ⟨rfl, _, HGX.out.1, HGX.out.2⟩
set_option maxRecDepth 100000 in
set_option maxHeartbeats 2000000 in
theorem follow_raise2 (x : Nat) (t un : Int) (dd rr bb : ByteArray) (L : Lf) (v : Nat → Value) (w : World) (h : LfI w x L v) (hst : L.st = 2) :
    Calls Tryz.prog 160 #[.pointer (some ⟨x, 0, none⟩), .agg #[.int .i64 t, .int .i64 1, .string dd, .string rr, .string bb, .int .i64 un]] w fun e w' => FollowPost w x v (L, 6) e w' := by
  have hb1 : Below w.heap.size w (w.alloc (.cells #[.int .i64 t, .int .i64 1, .string dd, .string rr, .string bb, .int .i64 un] 47)) := (Below.refl _ _).alloc (Nat.le_refl _) _
  have hlt := h.lt
  have c2 := (show w.cell? ⟨x, 2, none⟩ = some (.int .i64 2) from hst ▸ cell_of_blk (j := 2) h.blk rfl)
  have HB := Lib.hid (And.intro hb1 (And.intro (heap_new w (.cells #[.int .i64 t, .int .i64 1, .string dd, .string rr, .string bb, .int .i64 un] 47)) (fun hf => by have := h.foot_lt (b := w.heap.size) hf; omega : ¬ lfFoot x v w.heap.size)))
  have HI := Lib.hid h
  have HGX := Lib.hid (And.intro (h.below hb1) (LfGo.below (LfGo.refl w x v) hb1))
  clear h hb1 HB
  go_enter Tryz.func160, Tryz.ntmps160
  go_wp2_with (fail)
  go_ret
  exact ⟨rfl, _, HGX.out.1, HGX.out.2⟩
set_option maxRecDepth 100000 in
set_option maxHeartbeats 2000000 in
theorem follow_clear (x : Nat) (t un : Int) (dd rr bb : ByteArray) (v : Nat → Value) (w : World) (R : Lf × Int) (L : Lf) (h : LfI w x L v)
    (hl : ∀ V, LfI V x L v → Calls Tryz.prog 200 #[.pointer (some ⟨x, 0, none⟩), .agg #[.int .i64 t, .int .i64 2, .string dd, .string rr, .string bb, .int .i64 un]] V fun e w' => FollowPost V x v R e w') :
    Calls Tryz.prog 160 #[.pointer (some ⟨x, 0, none⟩), .agg #[.int .i64 t, .int .i64 2, .string dd, .string rr, .string bb, .int .i64 un]] w fun e w' => FollowPost w x v R e w' := by
  have hb1 : Below w.heap.size w (w.alloc (.cells #[.int .i64 t, .int .i64 2, .string dd, .string rr, .string bb, .int .i64 un] 47)) := (Below.refl _ _).alloc (Nat.le_refl _) _
  have hlt := h.lt
  have HB := Lib.hid (And.intro hb1 (And.intro (heap_new w (.cells #[.int .i64 t, .int .i64 2, .string dd, .string rr, .string bb, .int .i64 un] 47)) (fun hf => by have := h.foot_lt (b := w.heap.size) hf; omega : ¬ lfFoot x v w.heap.size)))
  have HL := Lib.hid (hl _ (h.below hb1))
  clear h hb1 hl hlt
  go_enter Tryz.func160, Tryz.ntmps160
  go_wp2_with (fail)
  refine HL.out.mono ?_
  rintro e w1 ⟨rfl, v1, hi1, hg1⟩
  have HP := Lib.hid (And.intro hi1 (LfGo.of_below HB.out.1 hg1))
  clear hi1 hg1
  go_wp2_with (fail)
  go_ret
  exact ⟨rfl, _, HP.out.1, HP.out.2⟩
set_option maxRecDepth 100000 in
set_option maxHeartbeats 2000000 in
theorem follow_ack (x : Nat) (t un : Int) (dd rr bb : ByteArray) (v : Nat → Value) (w : World) (R : Lf × Int) (L : Lf) (h : LfI w x L v)
    (hl : ∀ V, LfI V x L v → Calls Tryz.prog 200 #[.pointer (some ⟨x, 0, none⟩), .agg #[.int .i64 t, .int .i64 3, .string dd, .string rr, .string bb, .int .i64 un]] V fun e w' => FollowPost V x v R e w') :
    Calls Tryz.prog 160 #[.pointer (some ⟨x, 0, none⟩), .agg #[.int .i64 t, .int .i64 3, .string dd, .string rr, .string bb, .int .i64 un]] w fun e w' => FollowPost w x v R e w' := by
  have hb1 : Below w.heap.size w (w.alloc (.cells #[.int .i64 t, .int .i64 3, .string dd, .string rr, .string bb, .int .i64 un] 47)) := (Below.refl _ _).alloc (Nat.le_refl _) _
  have hlt := h.lt
  have HB := Lib.hid (And.intro hb1 (And.intro (heap_new w (.cells #[.int .i64 t, .int .i64 3, .string dd, .string rr, .string bb, .int .i64 un] 47)) (fun hf => by have := h.foot_lt (b := w.heap.size) hf; omega : ¬ lfFoot x v w.heap.size)))
  have HL := Lib.hid (hl _ (h.below hb1))
  clear h hb1 hl hlt
  go_enter Tryz.func160, Tryz.ntmps160
  go_wp2_with (fail)
  refine HL.out.mono ?_
  rintro e w1 ⟨rfl, v1, hi1, hg1⟩
  have HP := Lib.hid (And.intro hi1 (LfGo.of_below HB.out.1 hg1))
  clear hi1 hg1
  go_wp2_with (fail)
  go_ret
  exact ⟨rfl, _, HP.out.1, HP.out.2⟩
set_option maxRecDepth 100000 in
set_option maxHeartbeats 2000000 in
theorem follow_shelve (x : Nat) (t un : Int) (dd rr bb : ByteArray) (L : Lf) (v : Nat → Value) (w : World) (h : LfI w x L v) (hsh : ¬ t < L.sh) (hN : L.as_.length ≤ 100000) :
    Calls Tryz.prog 160 #[.pointer (some ⟨x, 0, none⟩), .agg #[.int .i64 t, .int .i64 4, .string dd, .string rr, .string bb, .int .i64 un]] w fun e w' => FollowPost w x v (({ L with sh := un, as_ := L.as_ ++ [(t, un)] } : Lf), 0) e w' := by
  obtain ⟨i0, hi0, hz0, hz1, hz2⟩ := info_parts Tryz.infoWinA
  have hb1 : Below w.heap.size w (w.alloc (.cells #[.int .i64 t, .int .i64 4, .string dd, .string rr, .string bb, .int .i64 un] 47)) := (Below.refl _ _).alloc (Nat.le_refl _) _
  have hlt := h.lt
  have HB := Lib.hid (And.intro hb1 (And.intro (heap_new w (.cells #[.int .i64 t, .int .i64 4, .string dd, .string rr, .string bb, .int .i64 un] 47)) (fun hf => by have := h.foot_lt (b := w.heap.size) hf; omega : ¬ lfFoot x v w.heap.size)))
  have HI := Lib.hid (h.below hb1)
  have HG := Lib.hid (LfGo.of_below hb1 (LfGo.refl _ x v))
  clear h hb1 hlt
  go_enter Tryz.func160, Tryz.ntmps160
  go_upto_region 12 with (fail)
  obtain ⟨w1, eW⟩ : ∃ W : World, W = w.alloc (.cells #[.int .i64 t, .int .i64 4, .string dd, .string rr, .string bb, .int .i64 un] 47) := ⟨_, rfl⟩
  have HBX := Lib.hid (show w1.heap[w.heap.size]? = some (.cells #[.int .i64 t, .int .i64 4, .string dd, .string rr, .string bb, .int .i64 un] 47) from eW ▸ HB.out.2.1)
  have HNF := Lib.hid (show ¬ lfFoot x v w.heap.size from HB.out.2.2)
  rw [← eW] at HI HG ⊢
  clear eW HB
  have c5 : w1.cell? ⟨x, 5, none⟩ = some (.int .i64 L.sh) := cell_of_blk (j := 5) HI.out.blk rfl
  generalize hss : L.sh = sh at c5 hsh
  have HSS := Lib.hid hss
  clear hss
  have hlg : w.heap.size < w1.heap.size := (Array.getElem?_eq_some_iff.1 HBX.out).1
  have g0 := cell_of_blk (j := 0) HBX.out rfl
  have hlt1 := HI.out.lt
  generalize hgg : w.heap.size = g at hlg g0 HBX HNF ⊢
  have HGG := Lib.hid hgg
  clear hgg
  have HQ := Lib.hid (fun (V : World) (hV : Below w1.heap.size w1 V) => And.intro ((hV.cell (p := ⟨x, 5, none⟩) hlt1).trans c5) ((hV.cell (p := ⟨g, 0, none⟩) hlg).trans g0))
  have hdec : decide (t < sh) = false := decide_eq_false hsh
  go_upto_region 12 with (fail)
  refine qRegion (by kernel_rfl) (by kernel_rfl) ?_
  repeat (first
    | (go_big_quiet_want; refine qVal (fun V hV => (by (obtain ⟨r0, r1⟩ := HQ.out V hV; go_simp; try rfl))) ?_; simp only [Act.put, List.setIfInBounds_toArray, List.set_cons_zero, List.set_cons_succ]; go_big_quiet_on)
    | go_big_quiet_skip)
  refine wpQuiet_nil ?_
  intro V hV
  replace HI := Lib.hid (HI.out.below hV)
  replace HG := Lib.hid (HG.out.below hV)
  replace HBX := Lib.hid ((hV.block g hlg).trans HBX.out)
  replace hlg : g < V.heap.size := (Array.getElem?_eq_some_iff.1 HBX.out).1
  replace hlt1 : x < V.heap.size := HI.out.lt
  clear hV g0 c5 HQ
  have g0 := cell_of_blk (j := 0) HBX.out rfl
  have g5 := cell_of_blk (j := 5) HBX.out rfl
  have c5 := cell_of_blk (j := 5) HI.out.blk rfl
  have z5 := HI.out.fro 5
  go_upto_region 15 with (fail)
  obtain ⟨y0, ew⟩ : ∃ W1 : World, W1 = (V.setCell ⟨x, 5, none⟩ (.int .i64 un)) := ⟨_, rfl⟩
  have HP := Lib.hid (HI.out.num (j := 5) (u := .int .i64 un) (L' := ({ L with sh := un } : Lf)) rfl (fun k _ => ⟨rfl, rfl⟩))
  rw [← ew] at HP ⊢
  replace HBX := Lib.hid ((HP.out.2.gr.block g hlg HNF.out).trans HBX.out)
  replace HI := Lib.hid HP.out.1
  replace HG := Lib.hid (HG.out.trans HP.out.2)
  replace hlt1 : x < y0.heap.size := HI.out.lt
  replace hlg : g < y0.heap.size := (Array.getElem?_eq_some_iff.1 HBX.out).1
  clear ew HP g0 g5 c5 z5
  have g0 := cell_of_blk (j := 0) HBX.out rfl
  have g5 := cell_of_blk (j := 5) HBX.out rfl
  obtain ⟨A1, p1, hv1⟩ := own_slice (HI.out.row 3 (by omega))
  replace hv1 : v 3 = .slice A1 L.as_.length p1 := hv1
  have e1 := cell_of_blk (j := 8) HI.out.blk rfl
  replace e1 : y0.cell? ⟨x, 8, none⟩ = some (.slice A1 L.as_.length p1) := e1.trans (congrArg some hv1)
  have HO1 := Lib.hid (show y0.ownsRow 0 55 2 (.slice A1 L.as_.length p1) L.as_.length (recs alW L.as_) from hv1 ▸ HI.out.row 3 (by omega))
  have HV1 := Lib.hid hv1
  obtain ⟨q1, hq1⟩ : ∃ q, L.as_.length = q := ⟨_, rfl⟩
  have hN1 : q1 ≤ 100000 := hq1 ▸ hN
  have HL1 := Lib.hid hq1
  rw [hq1] at e1 HO1 HV1
  clear hq1 hv1
  have HQ := Lib.hid (fun (V : World) (hV : Below y0.heap.size y0 V) => (And.intro ((hV.cell (p := ⟨x, 8, none⟩) hlt1).trans e1) (And.intro ((hV.cell (p := ⟨g, 0, none⟩) hlg).trans g0) ((hV.cell (p := ⟨g, 5, none⟩) hlg).trans g5))))
  clear e1
  go_upto_region 15 with (fail)
  refine QM.qRegionPt 11 (.pointer (some ⟨x, 0, none⟩)) [.pointer (some ⟨x, 0, none⟩), .pointer (some ⟨x, 0, none⟩), .pointer (some ⟨x, 8, none⟩), .slice A1 q1 p1, .pointer (some ⟨g, 0, none⟩), .int .i64 t, .pointer (some ⟨g, 5, none⟩), .int .i64 un, .agg #[.int .i64 t, .int .i64 un], undef] [none, none, none, none, none, none, none, none, none, none, some (.cells #[.int .i64 t, .int .i64 un] 55, fun n => .slice (some ⟨n, 0, none⟩) 1 1)] (by kernel_rfl) (by kernel_rfl) rfl (Or.inl ⟨by rfl, fun w => by go_simp⟩) (fun _ _ _ h => h) rfl rfl (by rfl) ?_ ?_
  · simp only [List.take_succ_cons, List.take_zero, QM.putL, Act.put, List.setIfInBounds_toArray, List.set_cons_zero, List.set_cons_succ]
    refine ⟨?_, ?_, ?_, ?_, ?_, ?_, ?_, ?_, ?_, ?_, ?_, trivial⟩
    · exact fun V hV => .inl (by obtain ⟨r0, r1, r2⟩ := HQ.out V hV; go_simp)
    · exact fun V hV => .inl (by obtain ⟨r0, r1, r2⟩ := HQ.out V hV; go_simp)
    · exact fun V hV => .inl (by obtain ⟨r0, r1, r2⟩ := HQ.out V hV; go_simp)
    · exact fun V hV => .inl (by obtain ⟨r0, r1, r2⟩ := HQ.out V hV; go_simp)
    · exact fun V hV => .inl (by obtain ⟨r0, r1, r2⟩ := HQ.out V hV; go_simp)
    · exact fun V hV => .inl (by obtain ⟨r0, r1, r2⟩ := HQ.out V hV; go_simp)
    · exact fun V hV => .inl (by obtain ⟨r0, r1, r2⟩ := HQ.out V hV; go_simp)
    · exact fun V hV => .inl (by obtain ⟨r0, r1, r2⟩ := HQ.out V hV; go_simp)
    · exact fun V hV => .inl (by obtain ⟨r0, r1, r2⟩ := HQ.out V hV; go_simp)
    · exact fun V hV => .inl (by obtain ⟨r0, r1, r2⟩ := HQ.out V hV; go_simp)
    · exact fun V => by go_simp
  intro G V1 hV1 hG
  obtain ⟨ha1, hb1⟩ := hG.1 10 _ rfl
  simp only [List.take_succ_cons, List.take_zero, List.drop_succ_cons, List.drop_zero, QM.putL, QM.putG, Act.put, List.setIfInBounds_toArray, List.set_cons_zero, List.set_cons_succ, Nat.zero_add, Nat.reduceAdd]
  generalize G 10 = gn1 at ha1 hb1 ⊢
  have HIV := Lib.hid (HI.out.below hV1)
  have HOV := Lib.hid (own_below HO1.out hV1)
  have HBV := Lib.hid hV1
  have HNB := Lib.hid hb1
  clear hV1 hb1 hG ha1 HQ
  go_wp2_with (at_builtin; go_loud (refine wpList_append_own2 _ rfl _ _ 143 rfl 0 55 i0 _ 2 16 Tryz.underlying143 hi0 hz0 hz1 hz2 rfl (by decide) (.slice A1 q1 p1) q1 (recs alW L.as_) rfl HOV.out ⟨gn1, 0, none⟩ 1 1 (alW (t, un)) rfl rfl (cells_add (cellsBlkA HNB.out rfl)) (twoI t un) (h63A hN1) (h47B hN1) (Nat.zero_le _) ?_))
  intro v9 w21 ho9 hg9 hm9
  obtain ⟨B1, s1, rfl⟩ := own_slice ho9
  have hbx9 := (hg9.block x HIV.out.lt (own_ne HOV.out HIV.out.blk (by decide))).trans HIV.out.blk
  have f1 := cell_of_blk (j := 8) hbx9 rfl
  have z1 : w21.frozen? ⟨x, 8, none⟩ = false := by simp [World.frozen?, hbx9]
  have hlt21 : x < w21.heap.size := (Array.getElem?_eq_some_iff.1 hbx9).1
  have HP := Lib.hid (HIV.out.app (L' := ({ L with sh := un, as_ := L.as_ ++ [(t, un)] } : Lf)) (m := 3) (v' := .slice B1 (q1 + 1) s1) (by omega) ⟨rfl, rfl, rfl, rfl, rfl, fun k hk hne => by rcases k with _ | _ | _ | _ | _ | _ | k <;> first | exact ⟨rfl, rfl⟩ | exact absurd rfl hne | omega⟩ (HV1.out ▸ hg9) (HV1.out ▸ hm9) (by show w21.ownsRow 0 55 2 (.slice B1 (q1 + 1) s1) (L.as_ ++ [(t, un)]).length (recs alW (L.as_ ++ [(t, un)])); rw [List.length_append, HL1.out, recs_snoc]; exact ho9))
  clear ho9 hg9 hm9 hbx9
  go_wp2_with (fail)
  go_ret
  exact ⟨rfl, _, HP.out.1, (HG.out.below HBV.out).trans HP.out.2⟩
set_option maxRecDepth 100000 in
set_option maxHeartbeats 2000000 in
theorem follow_shelveX (x : Nat) (t un : Int) (dd rr bb : ByteArray) (L : Lf) (v : Nat → Value) (w : World) (h : LfI w x L v) (hsh : t < L.sh) :
    Calls Tryz.prog 160 #[.pointer (some ⟨x, 0, none⟩), .agg #[.int .i64 t, .int .i64 4, .string dd, .string rr, .string bb, .int .i64 un]] w fun e w' => FollowPost w x v (L, 11) e w' := by
  have hb1 : Below w.heap.size w (w.alloc (.cells #[.int .i64 t, .int .i64 4, .string dd, .string rr, .string bb, .int .i64 un] 47)) := (Below.refl _ _).alloc (Nat.le_refl _) _
  have hlt := h.lt
  have HB := Lib.hid (And.intro hb1 (And.intro (heap_new w (.cells #[.int .i64 t, .int .i64 4, .string dd, .string rr, .string bb, .int .i64 un] 47)) (fun hf => by have := h.foot_lt (b := w.heap.size) hf; omega : ¬ lfFoot x v w.heap.size)))
  have HI := Lib.hid (h.below hb1)
  have HG := Lib.hid (LfGo.of_below hb1 (LfGo.refl _ x v))
  clear h hb1 hlt
  go_enter Tryz.func160, Tryz.ntmps160
  go_upto_region 12 with (fail)
  obtain ⟨w1, eW⟩ : ∃ W : World, W = w.alloc (.cells #[.int .i64 t, .int .i64 4, .string dd, .string rr, .string bb, .int .i64 un] 47) := ⟨_, rfl⟩
  have HBX := Lib.hid (show w1.heap[w.heap.size]? = some (.cells #[.int .i64 t, .int .i64 4, .string dd, .string rr, .string bb, .int .i64 un] 47) from eW ▸ HB.out.2.1)
  have HNF := Lib.hid (show ¬ lfFoot x v w.heap.size from HB.out.2.2)
  rw [← eW] at HI HG ⊢
  clear eW HB
  have c5 : w1.cell? ⟨x, 5, none⟩ = some (.int .i64 L.sh) := cell_of_blk (j := 5) HI.out.blk rfl
  generalize hss : L.sh = sh at c5 hsh
  have HSS := Lib.hid hss
  clear hss
  have hlg : w.heap.size < w1.heap.size := (Array.getElem?_eq_some_iff.1 HBX.out).1
  have g0 := cell_of_blk (j := 0) HBX.out rfl
  have hlt1 := HI.out.lt
  generalize hgg : w.heap.size = g at hlg g0 HBX HNF ⊢
  have HGG := Lib.hid hgg
  clear hgg
  have HQ := Lib.hid (fun (V : World) (hV : Below w1.heap.size w1 V) => And.intro ((hV.cell (p := ⟨x, 5, none⟩) hlt1).trans c5) ((hV.cell (p := ⟨g, 0, none⟩) hlg).trans g0))
  have hdec : decide (t < sh) = true := decide_eq_true hsh
  go_upto_region 12 with (fail)
  refine qRegion (by kernel_rfl) (by kernel_rfl) ?_
  repeat (first
    | (go_big_quiet_want; refine qVal (fun V hV => (by (obtain ⟨r0, r1⟩ := HQ.out V hV; go_simp; try rfl))) ?_; simp only [Act.put, List.setIfInBounds_toArray, List.set_cons_zero, List.set_cons_succ]; go_big_quiet_on)
    | go_big_quiet_skip)
  refine wpQuiet_nil ?_
  intro V hV
  replace HI := Lib.hid (HI.out.below hV)
  replace HG := Lib.hid (HG.out.below hV)
  clear hV g0 c5 HQ
  go_wp2_with (fail)
  go_ret
  exact ⟨rfl, _, HI.out, HG.out⟩
set_option maxRecDepth 100000 in
set_option maxHeartbeats 2000000 in
theorem follow_unshelve (x : Nat) (t un : Int) (dd rr bb : ByteArray) (L : Lf) (v : Nat → Value) (w : World) (h : LfI w x L v) (hsh : ¬ L.sh ≤ t) (has : L.as_ ≠ []) (hN : L.as_.length ≤ 100000) :
    Calls Tryz.prog 160 #[.pointer (some ⟨x, 0, none⟩), .agg #[.int .i64 t, .int .i64 5, .string dd, .string rr, .string bb, .int .i64 un]] w fun e w' => FollowPost w x v (({ L with sh := t, as_ := setLast L.as_ t } : Lf), 0) e w' := by
  have hb1 : Below w.heap.size w (w.alloc (.cells #[.int .i64 t, .int .i64 5, .string dd, .string rr, .string bb, .int .i64 un] 47)) := (Below.refl _ _).alloc (Nat.le_refl _) _
  have hlt := h.lt
  have HB := Lib.hid (And.intro hb1 (And.intro (heap_new w (.cells #[.int .i64 t, .int .i64 5, .string dd, .string rr, .string bb, .int .i64 un] 47)) (fun hf => by have := h.foot_lt (b := w.heap.size) hf; omega : ¬ lfFoot x v w.heap.size)))
  have HI := Lib.hid (h.below hb1)
  have HG := Lib.hid (LfGo.of_below hb1 (LfGo.refl _ x v))
  clear h hb1 hlt
  go_enter Tryz.func160, Tryz.ntmps160
  go_upto_region 17 with (fail)
  obtain ⟨w1, eW⟩ : ∃ W : World, W = w.alloc (.cells #[.int .i64 t, .int .i64 5, .string dd, .string rr, .string bb, .int .i64 un] 47) := ⟨_, rfl⟩
  have HBX := Lib.hid (show w1.heap[w.heap.size]? = some (.cells #[.int .i64 t, .int .i64 5, .string dd, .string rr, .string bb, .int .i64 un] 47) from eW ▸ HB.out.2.1)
  have HNF := Lib.hid (show ¬ lfFoot x v w.heap.size from HB.out.2.2)
  rw [← eW] at HI HG ⊢
  clear eW HB
  have c5 : w1.cell? ⟨x, 5, none⟩ = some (.int .i64 L.sh) := cell_of_blk (j := 5) HI.out.blk rfl
  generalize hss : L.sh = sh at c5 hsh
  have HSS := Lib.hid hss
  clear hss
  have hlg : w.heap.size < w1.heap.size := (Array.getElem?_eq_some_iff.1 HBX.out).1
  have g0 := cell_of_blk (j := 0) HBX.out rfl
  have hlt1 := HI.out.lt
  generalize hgg : w.heap.size = g at hlg g0 HBX HNF ⊢
  have HGG := Lib.hid hgg
  clear hgg
  have HQ := Lib.hid (fun (V : World) (hV : Below w1.heap.size w1 V) => And.intro ((hV.cell (p := ⟨x, 5, none⟩) hlt1).trans c5) ((hV.cell (p := ⟨g, 0, none⟩) hlg).trans g0))
  have hdec : decide (sh ≤ t) = false := decide_eq_false hsh
  go_upto_region 17 with (fail)
  refine qRegion (by kernel_rfl) (by kernel_rfl) ?_
  repeat (first
    | (go_big_quiet_want; refine qVal (fun V hV => (by (obtain ⟨r0, r1⟩ := HQ.out V hV; go_simp; try rfl))) ?_; simp only [Act.put, List.setIfInBounds_toArray, List.set_cons_zero, List.set_cons_succ]; go_big_quiet_on)
    | go_big_quiet_skip)
  refine wpQuiet_nil ?_
  intro V hV
  replace HI := Lib.hid (HI.out.below hV)
  replace HG := Lib.hid (HG.out.below hV)
  replace HBX := Lib.hid ((hV.block g hlg).trans HBX.out)
  replace hlg : g < V.heap.size := (Array.getElem?_eq_some_iff.1 HBX.out).1
  replace hlt1 : x < V.heap.size := HI.out.lt
  clear hV g0 c5 HQ
  have g0 := cell_of_blk (j := 0) HBX.out rfl
  have g5 := cell_of_blk (j := 5) HBX.out rfl
  have c5 := cell_of_blk (j := 5) HI.out.blk rfl
  have z5 := HI.out.fro 5
  go_upto_region 20 with (fail)
  obtain ⟨y0, ew⟩ : ∃ W1 : World, W1 = (V.setCell ⟨x, 5, none⟩ (.int .i64 t)) := ⟨_, rfl⟩
  have HP := Lib.hid (HI.out.num (j := 5) (u := .int .i64 t) (L' := ({ L with sh := t } : Lf)) rfl (fun k _ => ⟨rfl, rfl⟩))
  rw [← ew] at HP ⊢
  replace HBX := Lib.hid ((HP.out.2.gr.block g hlg HNF.out).trans HBX.out)
  replace HI := Lib.hid HP.out.1
  replace HG := Lib.hid (HG.out.trans HP.out.2)
  replace hlt1 : x < y0.heap.size := HI.out.lt
  replace hlg : g < y0.heap.size := (Array.getElem?_eq_some_iff.1 HBX.out).1
  clear ew HP g0 g5 c5 z5
  have g0 := cell_of_blk (j := 0) HBX.out rfl
  have g5 := cell_of_blk (j := 5) HBX.out rfl
  obtain ⟨gs, ps, hv, hgs, hgx⟩ := HI.out.rowAt (m := 3) (by omega) (show 0 < L.as_.length from List.length_pos_iff.2 has)
  obtain ⟨⟨us, ds⟩, zs⟩ := HI.out.lastCell (m := 3) (by omega) rfl (show 0 < L.as_.length from List.length_pos_iff.2 has) hv
  have es := cell_of_blk (j := 8) HI.out.blk rfl
  replace es : y0.cell? ⟨x, 8, none⟩ = some (.slice (some ⟨gs, 0, none⟩) L.as_.length ps) := es.trans (congrArg some hv)
  replace zs : y0.frozen? ⟨gs, (L.as_.length - 1) * 2 + 1, none⟩ = false := zs
  replace ds : y0.cell? ⟨gs, (L.as_.length - 1) * 2 + 1, none⟩ = some us := ds
  have HP := Lib.hid (fun (V : World) (hV : Below y0.heap.size y0 V) => (HI.out.below hV).put (L' := ({ L with sh := t, as_ := setLast L.as_ t } : Lf)) (m := 3) (o := (L.as_.length - 1) * 2 + 1) (u := .int .i64 t) (by omega) ⟨rfl, rfl, rfl, rfl, rfl, fun k hk hne => by rcases k with _ | _ | _ | _ | _ | _ | k <;> first | exact ⟨rfl, rfl⟩ | exact absurd rfl hne | omega⟩ hv rfl (setLast_len _ _ has) (recs_setLast _ _ has))
  obtain ⟨qs, hqs⟩ : ∃ q, L.as_.length = q + 1 := ⟨L.as_.length - 1, by have := List.length_pos_iff.2 has; omega⟩
  rw [hqs] at zs ds es hN
  simp only [hqs, Nat.add_sub_cancel] at zs ds HP
  have hq2 : qs ≤ 100000 := by omega
  have hw1 : IntKind.i64.wrap (((qs + 1 : Nat) : Int) - 1) = (qs : Int) := by rw [show ((qs + 1 : Nat) : Int) - 1 = (qs : Int) by omega]; rw [IntKind.wrap_i64]; omega
  have hw2 : IntKind.i64.wrap (qs : Int) = (qs : Int) := by rw [IntKind.wrap_i64]; omega
  have hr0 : (0 : Int) ≤ (qs : Int) := by omega
  have hr1 : (qs : Int) < (qs : Int) + 1 := by omega
  have hr2 : qs < qs + 1 := by omega
  clear hv hqs has hN
  have HQ := Lib.hid (fun (V : World) (hV : Below y0.heap.size y0 V) => And.intro ((hV.cell (p := ⟨x, 8, none⟩) hlt1).trans es) ((hV.cell (p := ⟨g, 0, none⟩) hlg).trans g0))
  have HZ := Lib.hid (fun (V : World) (hV : Below y0.heap.size y0 V) => And.intro ((hV.cell (p := ⟨gs, qs * 2 + 1, none⟩) hgs).trans ds) ((hV.frozen (p := ⟨gs, qs * 2 + 1, none⟩) hgs).trans zs))
  clear es zs ds g0 g5
  go_upto_region 20 with (fail)
  refine qRegionTail 14 (by kernel_rfl) (by kernel_rfl) ?_
  simp only [List.take_succ_cons, List.take_zero, List.drop_succ_cons, List.drop_zero]
  repeat (first
    | (go_big_quiet_want; refine qVal (fun V hV => (by (obtain ⟨r0, r1⟩ := HQ.out V hV; go_simp; try rfl))) ?_; simp only [Act.put, List.setIfInBounds_toArray, List.set_cons_zero, List.set_cons_succ]; go_big_quiet_on)
    | go_big_quiet_skip)
  refine wpQuiet_nil ?_
  intro V2 hV2
  obtain ⟨ds, zs⟩ := HZ.out V2 hV2
  have HGV := Lib.hid (HG.out.below hV2)
  have HPV := Lib.hid (HP.out V2 hV2)
  have hlg2 : gs < V2.heap.size := Nat.lt_of_lt_of_le hgs hV2.size
  clear hV2
  go_wp2_with (fail)
  go_ret
  exact ⟨rfl, _, HPV.out.1, HGV.out.trans HPV.out.2⟩
set_option maxRecDepth 100000 in
set_option maxHeartbeats 2000000 in
theorem follow_unshelveX (x : Nat) (t un : Int) (dd rr bb : ByteArray) (L : Lf) (v : Nat → Value) (w : World) (h : LfI w x L v) (hsh : L.sh ≤ t) :
    Calls Tryz.prog 160 #[.pointer (some ⟨x, 0, none⟩), .agg #[.int .i64 t, .int .i64 5, .string dd, .string rr, .string bb, .int .i64 un]] w fun e w' => FollowPost w x v (L, 11) e w' := by
  have hb1 : Below w.heap.size w (w.alloc (.cells #[.int .i64 t, .int .i64 5, .string dd, .string rr, .string bb, .int .i64 un] 47)) := (Below.refl _ _).alloc (Nat.le_refl _) _
  have hlt := h.lt
  have HB := Lib.hid (And.intro hb1 (And.intro (heap_new w (.cells #[.int .i64 t, .int .i64 5, .string dd, .string rr, .string bb, .int .i64 un] 47)) (fun hf => by have := h.foot_lt (b := w.heap.size) hf; omega : ¬ lfFoot x v w.heap.size)))
  have HI := Lib.hid (h.below hb1)
  have HG := Lib.hid (LfGo.of_below hb1 (LfGo.refl _ x v))
  clear h hb1 hlt
  go_enter Tryz.func160, Tryz.ntmps160
  go_upto_region 17 with (fail)
  obtain ⟨w1, eW⟩ : ∃ W : World, W = w.alloc (.cells #[.int .i64 t, .int .i64 5, .string dd, .string rr, .string bb, .int .i64 un] 47) := ⟨_, rfl⟩
  have HBX := Lib.hid (show w1.heap[w.heap.size]? = some (.cells #[.int .i64 t, .int .i64 5, .string dd, .string rr, .string bb, .int .i64 un] 47) from eW ▸ HB.out.2.1)
  have HNF := Lib.hid (show ¬ lfFoot x v w.heap.size from HB.out.2.2)
  rw [← eW] at HI HG ⊢
  clear eW HB
  have c5 : w1.cell? ⟨x, 5, none⟩ = some (.int .i64 L.sh) := cell_of_blk (j := 5) HI.out.blk rfl
  generalize hss : L.sh = sh at c5 hsh
  have HSS := Lib.hid hss
  clear hss
  have hlg : w.heap.size < w1.heap.size := (Array.getElem?_eq_some_iff.1 HBX.out).1
  have g0 := cell_of_blk (j := 0) HBX.out rfl
  have hlt1 := HI.out.lt
  generalize hgg : w.heap.size = g at hlg g0 HBX HNF ⊢
  have HGG := Lib.hid hgg
  clear hgg
  have HQ := Lib.hid (fun (V : World) (hV : Below w1.heap.size w1 V) => And.intro ((hV.cell (p := ⟨x, 5, none⟩) hlt1).trans c5) ((hV.cell (p := ⟨g, 0, none⟩) hlg).trans g0))
  have hdec : decide (sh ≤ t) = true := decide_eq_true hsh
  go_upto_region 17 with (fail)
  refine qRegion (by kernel_rfl) (by kernel_rfl) ?_
  repeat (first
    | (go_big_quiet_want; refine qVal (fun V hV => (by (obtain ⟨r0, r1⟩ := HQ.out V hV; go_simp; try rfl))) ?_; simp only [Act.put, List.setIfInBounds_toArray, List.set_cons_zero, List.set_cons_succ]; go_big_quiet_on)
    | go_big_quiet_skip)
  refine wpQuiet_nil ?_
  intro V hV
  replace HI := Lib.hid (HI.out.below hV)
  replace HG := Lib.hid (HG.out.below hV)
  clear hV g0 c5 HQ
  go_wp2_with (fail)
  go_ret
  exact ⟨rfl, _, HI.out, HG.out⟩
end Go.Proofs.YtgdnedhcbjonkaaGreatDoor

/- (*alarm.life).follow by its contract. -/
namespace Go.Proofs.YtgdnedhcbjonkaaGreatDoor
open Go.RowKit

theorem follow_any (x k : Nat) (s : Sg) (L : Lf) (v : Nat → Value) (w : World) (h : LfI w x L v) (hL : LfOk L k) (hk : k ≤ 100000) (hkd : 1 ≤ s.kd ∧ s.kd ≤ 5) (h1 : 0 ≤ s.at_) (h2 : s.at_ < alEnd) :
    Calls Tryz.prog 160 #[.pointer (some ⟨x, 0, none⟩), sgV s] w fun e w' => FollowPost w x v (followL L s) e w' := by
  obtain ⟨t, kd, d, r, b, un⟩ := s
  simp only at hkd h1 h2
  unfold sgV
  simp only
  have l0 : L.ra.length ≤ 100000 := Nat.le_trans (hL.len 0 (by omega)) hk
  have l1 : L.up.length ≤ 100000 := Nat.le_trans (hL.len 1 (by omega)) hk
  have l2 : L.fr.length ≤ 100000 := Nat.le_trans (hL.len 2 (by omega)) hk
  have l3 : L.as_.length ≤ 100000 := Nat.le_trans (hL.len 3 (by omega)) hk
  have l4 : L.ak.length ≤ 100000 := Nat.le_trans (hL.len 4 (by omega)) hk
  have l5 : L.wt.length ≤ 100000 := Nat.le_trans (hL.len 5 (by omega)) hk
  have h3 : t < 345686400000 := h2
  unfold followL
  simp only
  obtain h | h | h | h | h : kd = 1 ∨ kd = 2 ∨ kd = 3 ∨ kd = 4 ∨ kd = 5 := by omega
  · subst h
    rw [if_pos rfl]
    rcases hL.st with h0 | h0 | h0 | h0
    · rw [if_neg (by omega)]
      exact follow_raise0 x t un _ _ _ L v w h h0 ⟨l1, l2, l0⟩
    · rw [if_pos (by omega)]
      exact follow_raise1 x t un _ _ _ L v w h h0
    · rw [if_pos (by omega)]
      exact follow_raise2 x t un _ _ _ L v w h h0
    · rw [if_neg (by omega)]
      exact follow_raise3 x t un _ _ _ L v w h h0 ⟨l1, l2, l0⟩
  · subst h
    rw [if_neg (by omega), if_pos rfl]
    rcases hL.st with h0 | h0 | h0 | h0
    · rw [if_neg (by omega), if_neg (by omega)]
      exact follow_clear x t un _ _ _ v w _ L h fun V hV => lower_cl0 x t un _ _ _ L v V hV h0
    · rw [if_pos h0]
      exact follow_clear x t un _ _ _ v w _ L h fun V hV => lower_cl1 x t un _ _ _ L v V hV h0 (hL.fr h0) (hL.up (.inl h0)) ⟨l1, l2⟩
    · rw [if_neg (by omega), if_pos h0]
      exact follow_clear x t un _ _ _ v w _ L h fun V hV => lower_cl2 x t un _ _ _ L v V hV h0 (hL.up (.inr h0)) ⟨l1, l2⟩
    · rw [if_neg (by omega), if_neg (by omega)]
      exact follow_clear x t un _ _ _ v w _ L h fun V hV => lower_cl3 x t un _ _ _ L v V hV h0
  · subst h
    rw [if_neg (by omega), if_neg (by omega), if_pos rfl]
    rcases hL.st with h0 | h0 | h0 | h0
    · rw [if_neg (by omega), if_neg (by omega)]
      exact follow_ack x t un _ _ _ v w _ L h fun V hV => lower_ak0 x t un _ _ _ L v V hV h0
    · rw [if_neg (by omega), if_pos h0]
      exact follow_ack x t un _ _ _ v w _ L h fun V hV => lower_ak1 x t un _ _ _ L v V hV h0 (hL.fr h0) ⟨l1, l2⟩ ⟨l4, l5, l0⟩ (hL.ra (by omega)) hL.rng ⟨h1, h3⟩
    · rw [if_neg (by omega), if_neg (by omega)]
      exact follow_ack x t un _ _ _ v w _ L h fun V hV => lower_ak2 x t un _ _ _ L v V hV h0
    · rw [if_pos h0]
      exact follow_ack x t un _ _ _ v w _ L h fun V hV => lower_ak3 x t un _ _ _ L v V hV h0 ⟨l4, l5, l0⟩ (hL.ra (by omega)) hL.rng ⟨h1, h3⟩
  · subst h
    rw [if_neg (by omega), if_neg (by omega), if_neg (by omega), if_pos rfl]
    by_cases hs : t < L.sh
    · rw [if_pos hs]
      exact follow_shelveX x t un _ _ _ L v w h hs
    · rw [if_neg hs]
      exact follow_shelve x t un _ _ _ L v w h hs l3
  · subst h
    rw [if_neg (by omega), if_neg (by omega), if_neg (by omega), if_neg (by omega)]
    by_cases hs : L.sh ≤ t
    · rw [if_pos hs]
      exact follow_unshelveX x t un _ _ _ L v w h hs
    · rw [if_neg hs]
      exact follow_unshelve x t un _ _ _ L v w h hs (hL.as_ (by omega)) l3
end Go.Proofs.YtgdnedhcbjonkaaGreatDoor
