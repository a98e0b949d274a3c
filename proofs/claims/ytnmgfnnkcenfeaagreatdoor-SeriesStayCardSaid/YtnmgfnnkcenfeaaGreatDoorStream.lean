/- The stream of numbers: Below, Next, Range, Pick, Flip, each by its contract. -/
import Derived.Test.YtnmgfnnkcenfeaaGreatDoorProg
import Derived.Test.YtnmgfnnkcenfeaaGreatDoorMgA
namespace Go.Proofs.YtnmgfnnkcenfeaaGreatDoor
open Go.RowKit

theorem below_any (x n : Int) (w : World) (hn : n ≤ 1099511627776) : Calls Tryz.prog 61 #[.int .i64 x, .int .i64 n] w fun e w' => e = .returned (.int .i64 (below x n)) ∧ w = w' := by
  by_cases h : n < 1
  · have hb : below x n = 0 := by simp [below, h]
    rw [hb]
    go_enter Tryz.func61, Tryz.ntmps61
    go_wp2
    go_ret; exact ⟨rfl, rfl⟩
  · have hb : below x n = x % n := by simp [below, h]
    rw [hb]
    have h1 : 1 ≤ n := by omega
    have H := Lib.hid (tmod_cases x n h1)
    have hlo : -n < x.tmod n := by have := Int.lt_tmod_of_pos x (b := n) (by omega); omega
    have hhi : x.tmod n < n := Int.tmod_lt_of_pos x (by omega)
    have hn0 : ¬ n = 0 := by omega
    clear hb h
    go_enter Tryz.func61, Tryz.ntmps61
    go_wp2
    · go_ret; exact ⟨ret_int (H.out.1 (by assumption)).1.symm, rfl⟩
    · go_ret; exact ⟨ret_int (H.out.2 (by assumption)).symm, rfl⟩

/-- Block p is a stream that has handed out k numbers of a slice. -/
def SBlk (w : World) (p : Nat) (A : Option Addr) (n c : Nat) (k : Nat) : Prop := w.heap[p]? = some (.cells #[.slice A n c, .int .i64 (k : Int)] 25 (0, 0))
theorem SBlk.cell0 {w p A n c k} (h : SBlk w p A n c k) : w.cell? ⟨p, 0, none⟩ = some (.slice A n c) := cell_of_blk h rfl
theorem SBlk.cell1 {w p A n c k} (h : SBlk w p A n c k) : w.cell? ⟨p, 1, none⟩ = some (.int .i64 (k : Int)) := cell_of_blk h rfl
theorem SBlk.fr1 {w p A n c k} (h : SBlk w p A n c k) : w.frozen? ⟨p, 1, none⟩ = false := by simp [World.frozen?, show w.heap[p]? = _ from h]

set_option maxHeartbeats 400000 in
theorem next_nil (w : World) (p c k : Nat) (A : Option Addr) (m : Int) (hm : m ≤ 1099511627776) (hk : k < 1000000) (hs : SBlk w p A 0 c k) :
    Calls Tryz.prog 26 #[.pointer (some ⟨p, 0, none⟩), .int .i64 m] w fun e w' => e = .returned (.int .i64 (nextV [] k m)) ∧ ∃ q, w' = (w.setCell ⟨p, 1, none⟩ (.int .i64 ((k : Int) + 1))).drewN q := by
  have h0 := hs.cell0
  have h1 := hs.cell1
  have h2 := hs.fr1
  clear hs
  have hk' : (k : Int) < 1000000 := by omega
  go_enter Tryz.func26, Tryz.ntmps26
  go_wp2_with (go_at_call 61; refine (below_any _ _ _ (by omega)).mono ?_; rintro e w' ⟨rfl, rfl⟩)
  go_ret
  exact ⟨ret_int (by simp [nextV]), 0, rfl⟩

set_option maxHeartbeats 1000000 in
theorem next_some (w : World) (p n c k b o : Nat) (xs : List Int) (m : Int) (hm : m ≤ 1099511627776) (hk : k < 1000000) (hn : 0 < n) (hn2 : n ≤ 17592186044416) (hlen : xs.length = n)
    (hs : SBlk w p (some ⟨b, o, none⟩) n c k) (hbp : b ≠ p) (hx : w.cell? ⟨b, o + k % n, none⟩ = some (.int .i64 (xs.getD (k % n) 0))) :
    Calls Tryz.prog 26 #[.pointer (some ⟨p, 0, none⟩), .int .i64 m] w fun e w' => e = .returned (.int .i64 (nextV xs k m)) ∧ ∃ q, w' = (w.setCell ⟨p, 1, none⟩ (.int .i64 ((k : Int) + 1))).drewN q := by
  have h0 := hs.cell0
  have h1 := hs.cell1
  have h2 := hs.fr1
  obtain ⟨x, hxd⟩ : ∃ x, x = xs.getD (k % n) 0 := ⟨_, rfl⟩
  obtain ⟨q, hq⟩ : ∃ q, q = k / n := ⟨_, rfl⟩
  obtain ⟨r, hr⟩ : ∃ r, r = k % n := ⟨_, rfl⟩
  obtain ⟨t, ht⟩ : ∃ t, t = q * (7919 + r) := ⟨_, rfl⟩
  have HV := Lib.hid (show nextV xs k m = below (below x 1073741824 + (t : Int)) m by
    unfold nextV; rw [if_neg (by omega), hlen, hxd, ht, hq, hr])
  have HR : t ≤ k * 7920 := by rw [ht, hq, hr]; exact round_le k n hn
  have hb0 := below_range x 1073741824 (by omega)
  have hrn : r < n := by rw [hr]; exact Nat.mod_lt _ hn
  have hqk : q ≤ k := by rw [hq]; exact Nat.div_le_self _ _
  rw [← hxd, ← hr] at hx
  have hw2 : (k : Int) % (n : Int) = (r : Int) := by rw [hr]; rfl
  have hw3 : (k : Int) / (n : Int) = (q : Int) := by rw [hq]; rfl
  have hw4 : wrap64 ((q : Int) * (7919 + (r : Int))) = (t : Int) := by
    rw [show ((q : Int) * (7919 + (r : Int))) = (t : Int) by rw [ht, Int.natCast_mul, Int.natCast_add]; rfl]; unfold wrap64; omega
  clear hs hlen ht hq hr hxd
  have hn0 : ¬ (n : Int) = 0 := by omega
  go_enter Tryz.func26, Tryz.ntmps26
  go_wp2_with (fail)
  go_quiet (fail)
  go_wp2_with (fail)
  go_quiet (fail)
  go_wp2_with (go_at_call 61; refine (below_any _ _ _ (by omega)).mono ?_; rintro e w' ⟨rfl, rfl⟩)
  go_ret
  exact ⟨ret_int HV.out.symm, _, rfl⟩

/-- A list of numbers, and where it lies. -/
structure LiA where
  l : List Int
  A : Option Addr
  c : Nat
instance : CoeOut LiA (List Int) := ⟨LiA.l⟩
/-- Block p is a stream over the numbers xs, k of which it has handed out. -/
def Strm (w : World) (p : Nat) (xs : LiA) (k : Nat) : Prop :=
  xs.l.length ≤ 17592186044416 ∧ SBlk w p xs.A xs.l.length xs.c k ∧ Row w p xs.A (xs.l.map (Value.int .i64))

theorem Strm.keep {w w' : World} {p k : Nat} {xs : LiA} (h : Strm w p xs k) (hb : ∀ b, b ≤ p → w'.heap[b]? = w.heap[b]?) : Strm w' p xs k := by
  obtain ⟨h1, h2, h3⟩ := h
  exact ⟨h1, (hb p (Nat.le_refl _)).trans h2, h3.keep fun b hlt => hb b (by omega)⟩
theorem Strm.lt {w : World} {p k : Nat} {xs : LiA} (h : Strm w p xs k) : p < w.heap.size := by
  obtain ⟨h1, h2, h3⟩ := h
  unfold SBlk at h2
  exact (Array.getElem?_eq_some_iff.1 h2).1
theorem Strm.below {w w' : World} {p k : Nat} {xs : LiA} (h : Strm w p xs k) (hb : Below w.heap.size w w') : Strm w' p xs k :=
  h.keep fun b hlt => hb.block b (by have := h.lt; omega)

theorem Strm.row {w w' : World} {p k : Nat} {xs : LiA} {row : Option Nat} (h : Strm w p xs k) (hg : w.grownBy w' row) (hr : ∀ g, row = some g → p < g) : Strm w' p xs k :=
  h.keep fun b hlt => hg.block b (by have := h.lt; omega) (fun e => by have := hr b e.symm; omega)
theorem Strm.alloc {w : World} {p k : Nat} {xs : LiA} (h : Strm w p xs k) (o : Obj) : Strm (w.alloc o) p xs k :=
  h.keep fun b hb => Below.heap_alloc _ _ b (by have := h.lt; omega)

theorem next_any (w : World) (p k : Nat) (xs : LiA) (m : Int) (hm : m ≤ 1099511627776) (hk : k < 1000000) (hs : Strm w p xs k) :
    Calls Tryz.prog 26 #[.pointer (some ⟨p, 0, none⟩), .int .i64 m] w fun e w' => e = .returned (.int .i64 (nextV xs k m)) ∧ Strm w' p xs (k + 1) ∧ w.grownBy w' (some p) := by
  have hlt := hs.lt
  obtain ⟨xs, A, c⟩ := xs
  obtain ⟨h1, h2, h3⟩ := hs
  simp only at h1 h2 h3
  have fin : ∀ q, Strm ((w.setCell ⟨p, 1, none⟩ (.int .i64 ((k : Int) + 1))).drewN q) p ⟨xs, A, c⟩ (k + 1) ∧ w.grownBy ((w.setCell ⟨p, 1, none⟩ (.int .i64 ((k : Int) + 1))).drewN q) (some p) := by
    intro q
    refine ⟨⟨h1, ?_, ?_⟩, grown_drewN (grown_set (grown_refl w _) (.inl rfl) _) q⟩
    · show (w.setCell ⟨p, 1, none⟩ (.int .i64 ((k : Int) + 1))).heap[p]? = _
      unfold SBlk at h2
      simp [World.setCell, Array.getElem?_modify, h2]
    · exact h3.keep fun b hb => Below.heap_setCell w ⟨p, 1, none⟩ _ b (by show b ≠ p; omega)
  by_cases hn : xs.length = 0
  · obtain rfl : xs = [] := List.eq_nil_of_length_eq_zero hn
    refine (next_nil w p c k A m hm hk h2).mono ?_
    rintro e w' ⟨rfl, q, rfl⟩
    exact ⟨rfl, fin q⟩
  · rcases h3 with h3 | ⟨b, o, rfl, hb, hc⟩
    · simp at h3; simp [h3] at hn
    · have hj : k % xs.length < xs.length := Nat.mod_lt _ (by omega)
      have hcell := hc (k % xs.length) (.int .i64 (xs.getD (k % xs.length) 0)) (by simp [List.getElem?_eq_getElem hj])
      refine (next_some w p xs.length c k b o xs m hm hk (by omega) h1 rfl h2 (by omega) hcell).mono ?_
      rintro e w' ⟨rfl, q, rfl⟩
      exact ⟨rfl, fin q⟩

theorem range_any (w : World) (p k : Nat) (xs : LiA) (lo hi : Int) (hk : k < 1000000) (h1 : -1000000000000 < lo) (h2 : lo ≤ hi) (h3 : hi < 1000000000000) (h4 : hi - lo < 1000000000000) (hs : Strm w p xs k) :
    Calls Tryz.prog 20 #[.pointer (some ⟨p, 0, none⟩), .int .i64 lo, .int .i64 hi] w fun e w' => e = .returned (.int .i64 (lo + nextV xs k (hi - lo + 1))) ∧ Strm w' p xs (k + 1) ∧ w.grownBy w' (some p) := by
  have hr := nextV_range xs k (hi - lo + 1) (by omega)
  have HS := Lib.hid hs
  clear hs
  go_enter Tryz.func20, Tryz.ntmps20
  go_wp2_with (go_at_call 26; refine (next_any _ _ _ xs _ (by omega) hk HS.out).mono ?_; rintro e w' ⟨rfl, hs', hg'⟩)
  go_ret
  exact ⟨rfl, hs', hg'⟩

theorem pick_any (w : World) (p k g m c : Nat) (xs : LiA) (vs : List Int) (hk : k < 1000000) (hm : vs.length = m) (h0 : 0 < m) (h1 : m ≤ 1000000) (hs : Strm w p xs k) (hg : g ≠ p)
    (hc : Cells w g 0 (vs.map (Value.int .i64))) :
    Calls Tryz.prog 21 #[.pointer (some ⟨p, 0, none⟩), .slice (some ⟨g, 0, none⟩) m c] w fun e w' => e = .returned (.int .i64 (vs.getD (nextN xs k m) 0)) ∧ Strm w' p xs (k + 1) ∧ w.grownBy w' (some p) := by
  have hj := nextN_lt xs k m h0
  have HE := Lib.hid (nextN_eq xs k m h0)
  obtain ⟨j, ej⟩ : ∃ j, j = nextN xs k m := ⟨_, rfl⟩
  rw [← ej] at HE hj ⊢
  have hcell := hc j (.int .i64 (vs.getD j 0)) (by simp [List.getElem?_eq_getElem (show j < vs.length by omega)])
  have hlt := World.block_lt_of_cell? w _ hcell
  simp only [Nat.zero_add] at hcell hlt
  obtain ⟨x, ex⟩ : ∃ x, x = vs.getD j 0 := ⟨_, rfl⟩
  rw [← ex] at hcell ⊢
  have HS := Lib.hid hs
  clear hs hc ej ex hm
  go_enter Tryz.func21, Tryz.ntmps21
  go_wp2_with (go_at_call 26; refine (next_any _ _ _ xs _ (by omega) hk HS.out).mono ?_; rw [HE.out]; rintro e w' ⟨rfl, hs', hg'⟩; have hc' := hg'.cell hcell (by simpa using hg); clear hcell; have HS' := Lib.hid hs'; have HG' := Lib.hid hg'; clear hs' hg')
  go_ret
  exact ⟨rfl, HS'.out, HG'.out⟩
/-- Where the list lies is below p. -/
def LoA (p : Nat) (xs : LiA) : Prop := xs.l.map (Value.int .i64) = [] ∨ ∃ b o, xs.A = some ⟨b, o, none⟩ ∧ b < p
theorem Strm.low {w : World} {p k : Nat} {xs : LiA} (h : Strm w p xs k) : LoA p xs := by
  obtain ⟨_, _, h3⟩ := h
  rcases h3 with h3 | ⟨b, o, h4, h5, _⟩
  · exact .inl h3
  · exact .inr ⟨b, o, h4, h5⟩
/-- Another stream over the same list goes on; this one stays. -/
theorem Strm.other {w w' : World} {p q k : Nat} {xs : LiA} (h : Strm w q xs k) (hl : LoA p xs) (hg : w.grownBy w' (some p)) (hpq : p ≠ q) : Strm w' q xs k := by
  have hlt := h.lt
  obtain ⟨h1, h2, h3⟩ := h
  refine ⟨h1, (hg.block q hlt (fun e => hpq (by injection e with e; exact e.symm))).trans h2, ?_⟩
  rcases h3 with h3 | ⟨b, o, h4, h5, h6⟩
  · exact .inl h3
  · rcases hl with hl | ⟨b', o', e, hb⟩
    · exact .inl hl
    · rw [h4] at e
      injection e with e
      injection e with e1 e2
      subst e1
      exact .inr ⟨b, o, h4, h5, h6.keep (hg.block b (by omega) (fun e => by injection e with e; omega))⟩
theorem Strm.twin {w : World} {p q k : Nat} {xs : LiA} (h : Strm w p xs k) (hpq : p ≤ q) (hq : w.heap[q]? = w.heap[p]?) : Strm w q xs k :=
  ⟨h.1, hq.trans h.2.1, h.2.2.mono hpq⟩
theorem range_nat (w : World) (p k m : Nat) (xs : LiA) (hk : k < 1000000) (h3 : m < 1000000000) (hs : Strm w p xs k) :
    Calls Tryz.prog 20 #[.pointer (some ⟨p, 0, none⟩), .int .i64 0, .int .i64 (m : Int)] w fun e w' => e = .returned (.int .i64 (nextN xs k (m + 1) : Int)) ∧ Strm w' p xs (k + 1) ∧ w.grownBy w' (some p) := by
  refine (range_any w p k xs 0 m hk (by omega) (by omega) (by omega) (by omega) hs).mono ?_
  rintro e w' ⟨rfl, h⟩
  refine ⟨ret_int ?_, h⟩
  have := nextN_eq xs k (m + 1) (by omega)
  rw [← this]
  simp
end Go.Proofs.YtnmgfnnkcenfeaaGreatDoor
