/- slices.Equal of equal notes; three lists of notes that are made side by side, by their contracts. -/
import Derived.Test.YtjjfhblaefbpgaaGreatDoorNoM
import Derived.Test.YtjjfhblaefbpgaaGreatDoorMgB
import Derived.Deep.RegionLawGrows
namespace Go.Proofs.YtjjfhblaefbpgaaGreatDoor
open Go.RowKit

set_option maxHeartbeats 2000000 in
theorem eqNo_any (l : List No) (n c c' : Nat) (A A' : Option Addr) (w : World) (hn : l.length = n) (hn2 : n ≤ 1000000) (hr : Row w w.heap.size A (recs noC l)) (hr' : Row w w.heap.size A' (recs noC l)) :
    Calls Tryz.prog 12 #[.slice A n c, .slice A' n c'] w fun e w' => e = .returned (.bool true) ∧ Below w.heap.size w w' := by
  have HR := Lib.hid hr
  have HR' := Lib.hid hr'
  have HN := Lib.hid hn
  clear hr hr' hn
  go_enter Tryz.func12, Tryz.ntmps12
  go_wp2_with (fail)
  go_loopw [13] (fun i wr => ∃ k : Nat, k ≤ n ∧ i = .int .i64 k ∧ Below w.heap.size w wr) (fun i _ => n - (intOf i).toNat)
  case atStart => exact ⟨0, Nat.zero_le _, rfl, Below.refl _ _⟩
  case round =>
    obtain ⟨k, hk, rfl, hbl⟩ := hrel
    by_cases hlt : k < n
    · have hkl : k < l.length := by have := HN.out; omega
      obtain ⟨b, o, rfl, hb, hc⟩ := (HR.out).posR noC_len (by omega) (by omega)
      obtain ⟨b', o', rfl, hb', hc'⟩ := (HR'.out).posR noC_len (by omega) (by omega)
      obtain ⟨x, hx⟩ : ∃ x, l[k]? = some x := ⟨_, List.getElem?_eq_getElem hkl⟩
      obtain ⟨c0, c1, c2, c3, c4, c5, c6, c7, c8⟩ := no_cells (hc.keep (hbl.block b hb)) k x hx
      obtain ⟨d0, d1, d2, d3, d4, d5, d6, d7, d8⟩ := no_cells (hc'.keep (hbl.block b' hb')) k x hx
      have HBL := Lib.hid hbl
      have hlt' : (k : Int) < (n : Int) := by omega
      clear hbl hx hkl hc hc'
      go_wp2_with (fail)
      go_quiet (fail)
      go_wp2_with (fail)
      go_roundw
      case rel => exact ⟨k + 1, by omega, by go_num, below_drewN HBL.out _⟩
      case measure => simp [intOf]; omega
    · have HBL := Lib.hid hbl
      clear hbl
      go_wp2_with (fail)
      go_ret
      exact ⟨rfl, HBL.out⟩
/-- An append to an owned row as a step of a drawn region; where the row lies behind it. -/
theorem step_append_rowM {P : Program} {ops : Array Oper} {o : Oper} {a : Act} {w : World} {K : Act → World → Prop} {Q : Exit → Act → World → Prop} {E : Prop}
    (hg : o.guard = none) (s x : Operand) (t : TypeId) (hop : o.op = Op.call { callee := Callee.builtin Builtin.append, args := #[s, x], argTypes := #[t, t] })
    (base : Nat) (e : TypeId) (i : TypeInfo) (z : Value) (size bytes : Nat) (h1 : P.underlying t = some (.slice e)) (h2 : P.info? e = some i) (h3 : i.zero = some z) (h4 : i.size = size) (h5 : i.bytes = bytes) (h6 : z.cells.size = size) (h7 : 0 < size)
    (v : Value) (n : Nat) (xs : List Value) (hs : a.eval s = v) (hown : w.ownsRow base e size v n xs)
    (ad : Addr) (m c : Nat) (news : List Value) (hx : a.eval x = .slice (some ad) m c) (hn : news.length = m * size) (hc : ∀ j u, news[j]? = some u → w.cell? (ad.add j) = some u) (h1c : ∀ u ∈ news, u.oneCell' = true)
    (b1 : n + m ≤ maxLen) (b2 : (n + m) * bytes ≤ 140737488355328) (hb : base ≤ w.heap.size)
    (hK : ∀ v' w', w'.ownsRow base e size v' (n + m) (xs ++ news) → w.grownBy w' v.ownBlock → Moved w v v' → K (a.put o.dst v') w') :
    if Region.wanted o (yielded ops a.tmps) = true then Oper.wp P o a w K Q else E := by
  have hw : Region.wanted o (yielded ops a.tmps) = true := by simp [Region.wanted, hg]
  rw [if_pos hw]
  obtain ⟨v', w', hrun, r1, r2, r3⟩ := run_append_own2 (P := P) w base t o.type e i z size bytes h1 h2 h3 h4 h5 h6 h7 v n xs hown ad m c news hn hc h1c b1 b2 hb
  unfold Oper.wp
  simp [execOp, hop, resolve, invoke, builtin, hs, hx, hrun, Result.andThen]
  exact hK v' w' r1 r2 r3
/-- Three rows of notes beside the stream p; a holds where they lie. -/
structure GenI (w : World) (Bs p a : Nat) (xs : List Int) (k : Nat) (l : Nat → List No) (v : Nat → Value) (V : World) : Prop where
  st : Strm V p xs k
  blk : V.heap[a]? = some (.cells #[v 0, v 1, v 2] 27 (0, 0))
  row : ∀ m, m < 3 → V.ownsRow Bs 34 9 (v m) (l m).length (recs noC (l m))
  ok : ∀ m, m < 3 → NsOk (l m)
  apart : ∀ m m', m < 3 → m' < 3 → m ≠ m' → ∀ q, (v m).ownBlock = some q → (v m').ownBlock ≠ some q
  low : Below w.heap.size w V
  big : Bs ≤ V.heap.size
  pa : p < a
  aB : a < Bs
  wp : w.heap.size ≤ p
theorem own_keptN {w w' : World} {base : Nat} {e : TypeId} {size n : Nat} {v : Value} {xs : List Value} {row : Option Nat} (h : w.ownsRow base e size v n xs) (hg : w.grownBy w' row) (hne : ∀ q, v.ownBlock = some q → row ≠ some q) : w'.ownsRow base e size v n xs := by
  refine h.kept (row := row) hg ?_
  cases hv : v.ownBlock with
  | none => exact .inl rfl
  | some q => exact .inr (fun e => hne q hv e.symm)
theorem GenI.grown {w : World} {Bs p a : Nat} {xs : List Int} {k k' : Nat} {l : Nat → List No} {v : Nat → Value} {V V' : World} (h : GenI w Bs p a xs k l v V) (hg : V.grownBy V' (some p)) (hs : Strm V' p xs k') : GenI w Bs p a xs k' l v V' := by
  have h1 := h.pa
  have h2 := h.aB
  have h3 := h.wp
  have h4 := h.big
  have h5 := hg.size
  exact ⟨hs, (hg.block a (by omega) (by simp; omega)).trans h.blk, fun m hm => own_keptN (h.row m hm) hg (fun q hq e => by
    have := ((h.row m hm).lt q hq).1
    injection e with e
    omega), h.ok, h.apart, h.low.grown hg h.low.size (fun q hq => by cases hq; exact h.wp), by omega, h1, h2, h3⟩
theorem GenI.below {w : World} {Bs p a : Nat} {xs : List Int} {k : Nat} {l : Nat → List No} {v : Nat → Value} {V V' : World} (h : GenI w Bs p a xs k l v V) (hb : Below V.heap.size V V') : GenI w Bs p a xs k l v V' := by
  have h2 := h.aB
  have h4 := h.big
  have h5 := hb.size
  exact ⟨h.st.below hb, (hb.block a (by omega)).trans h.blk, fun m hm => own_belowP (h.row m hm) hb, h.ok, h.apart, h.low.trans (hb.mono h.low.size), by omega, h.pa, h2, h.wp⟩
theorem GenI.cell {w : World} {Bs p a : Nat} {xs : List Int} {k : Nat} {l : Nat → List No} {v : Nat → Value} {V : World} (h : GenI w Bs p a xs k l v V) (i : Nat) (hi : i < 3) : V.cell? ⟨a, i, none⟩ = some (v i) := by
  refine cell_of_blk (j := i) h.blk ?_
  have : i = 0 ∨ i = 1 ∨ i = 2 := by omega
  rcases this with rfl | rfl | rfl <;> rfl
def upd {α : Type} (f : Nat → α) (i : Nat) (x : α) : Nat → α := fun m => if m = i then x else f m
theorem upd_same {α : Type} (f : Nat → α) (i : Nat) (x : α) : upd f i x i = x := if_pos rfl
theorem upd_other {α : Type} (f : Nat → α) (i m : Nat) (x : α) (h : m ≠ i) : upd f i x m = f m := if_neg h
/-- The row i is one note longer, and its place is stored. -/
theorem GenI.set {w : World} {Bs p a : Nat} {xs : List Int} {k i : Nat} {l : Nat → List No} {v : Nat → Value} {V V' : World} {x : No} {v' : Value} (h : GenI w Bs p a xs k l v V) (hi : i < 3) (hg : V.grownBy V' (v i).ownBlock) (hm : Moved V (v i) v')
    (ho : V'.ownsRow Bs 34 9 v' ((l i).length + 1) (recs noC (l i ++ [x]))) (hok : NsOk (l i ++ [x])) :
    GenI w Bs p a xs k (upd l i (l i ++ [x])) (upd v i v') (V'.setCell ⟨a, i, none⟩ v') := by
  have h1 := h.pa
  have h2 := h.aB
  have h3 := h.wp
  have h4 := h.big
  have h5 := hg.size
  have hoi := h.row i hi
  have hnp : ∀ q, (v i).ownBlock = some q → Bs ≤ q := fun q hq => (hoi.lt q hq).1
  have hblk : V'.heap[a]? = some (.cells #[v 0, v 1, v 2] 27 (0, 0)) := (hg.block a (by omega) (fun e => by have := hnp a e.symm; omega)).trans h.blk
  have hst : Strm V' p xs k := h.st.row hg (fun g e => by have := hnp g e; omega)
  have hset : V'.grownBy (V'.setCell ⟨a, i, none⟩ v') (some a) := grown_set (grown_refl V' (some a)) (q := ⟨a, i, none⟩) (.inl rfl) v'
  refine ⟨hst.keep (fun b hb => by simp [World.setCell, Array.getElem?_modify]; intro e; omega), ?_, fun m hm3 => ?_, fun m hm3 => ?_, fun m m' hm3 hm3' hne q hq => ?_, ?_, by simp; omega, h1, h2, h3⟩
  · have : i = 0 ∨ i = 1 ∨ i = 2 := by omega
    rcases this with rfl | rfl | rfl <;> simp [World.setCell, Array.getElem?_modify, hblk, upd]
  · by_cases e : m = i
    · subst e
      rw [upd_same, upd_same, List.length_append]
      exact own_keptN ho hset (fun q hq e => by have := (ho.lt q hq).1; injection e with e; omega)
    · rw [upd_other _ _ _ _ e, upd_other _ _ _ _ e]
      have hr := own_keptN (h.row m hm3) hg (fun q hq => h.apart i m hi hm3 (fun x => e x.symm) q |> fun f hh => f hh hq)
      exact own_keptN hr hset (fun q hq e => by have := (hr.lt q hq).1; injection e with e; omega)
  · by_cases e : m = i
    · subst e; rw [upd_same]; exact hok
    · rw [upd_other _ _ _ _ e]; exact h.ok m hm3
  · have hfresh : ∀ m, m < 3 → ∀ q, (v m).ownBlock = some q → q < V.heap.size := fun m hm q hq => ((h.row m hm).lt q hq).2
    by_cases e : m = i
    · subst e
      rw [upd_same] at hq
      rw [upd_other _ _ _ _ (fun x => hne x.symm)]
      rcases hm with hm | ⟨g, hm, hgs⟩
      · rw [hm] at hq; exact h.apart m m' hm3 hm3' hne q hq
      · rw [hm] at hq
        injection hq with hq
        intro hq'
        have := hfresh m' hm3' q hq'
        omega
    · rw [upd_other _ _ _ _ e] at hq
      by_cases e' : m' = i
      · subst e'
        rw [upd_same]
        rcases hm with hm | ⟨g, hm, hgs⟩
        · rw [hm]; exact h.apart m m' hm3 hm3' hne q hq
        · rw [hm]
          intro hq'
          injection hq' with hq'
          have := hfresh m hm3 q hq
          omega
      · rw [upd_other _ _ _ _ e']; exact h.apart m m' hm3 hm3' hne q hq
  · exact (h.low.grown hg h.low.size (fun q hq => by have := hnp q hq; omega)).setCell (p := ⟨a, i, none⟩) (by show w.heap.size ≤ a; omega) _
theorem range_in (w : World) (p k : Nat) (xs : List Int) (lo hi : Int) (hk : k < 1000000) (h1 : -1000 < lo) (h2 : lo ≤ hi) (h3 : hi < 1000) (hs : Strm w p xs k) :
    Calls Tryz.prog 7 #[.pointer (some ⟨p, 0, none⟩), .int .i64 lo, .int .i64 hi] w fun e w' => ∃ x : Int, e = .returned (.int .i64 x) ∧ lo ≤ x ∧ x ≤ hi ∧ Strm w' p xs (k + 1) ∧ w.grownBy w' (some p) := by
  have hr := nextV_range xs k (hi - lo + 1) (by omega)
  refine (range_any w p k xs lo hi hk (by omega) h2 (by omega) (by omega) hs).mono ?_
  rintro e w' ⟨h, hs', hg⟩
  exact ⟨_, h, by omega, by omega, hs', hg⟩
end Go.Proofs.YtjjfhblaefbpgaaGreatDoor
