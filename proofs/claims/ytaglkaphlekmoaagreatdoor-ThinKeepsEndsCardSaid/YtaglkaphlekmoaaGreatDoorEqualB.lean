/- slices.Equal of buckets; length, bounded. -/
import Derived.Test.YtaglkaphlekmoaaGreatDoorCheckB
namespace Go.Proofs.YtaglkaphlekmoaaGreatDoor
open Go.RowKit

theorem Row.posB {w : World} {B : Nat} {A : Option Addr} {l : List Bkt} (h : Row w B A (bCells l)) (hl : 0 < l.length) : ∃ b o, A = some ⟨b, o, none⟩ ∧ b < B ∧ Cells w b o (bCells l) := by
  rcases h with h | h
  · have := bCells_length l; rw [h] at this; simp at this; omega
  · exact h

set_option maxHeartbeats 2000000 in
theorem eqB_any (l : List Bkt) (n c c' : Nat) (A A' : Option Addr) (w : World) (hn : l.length = n) (hn2 : n ≤ 1000000) (hr : Row w w.heap.size A (bCells l)) (hr' : Row w w.heap.size A' (bCells l)) :
    Calls Tryz.prog 34 #[.slice A n c, .slice A' n c'] w fun e w' => e = .returned (.bool true) ∧ Below w.heap.size w w' := by
  have HR := Lib.hid hr
  have HR' := Lib.hid hr'
  have HN := Lib.hid hn
  clear hr hr' hn
  go_enter Tryz.func34, Tryz.ntmps34
  go_wp2_with (fail)
  go_loopw [13] (fun i wr => ∃ k : Nat, k ≤ n ∧ i = .int .i64 k ∧ Below w.heap.size w wr) (fun i _ => n - (intOf i).toNat)
  case atStart => exact ⟨0, Nat.zero_le _, rfl, Below.refl _ _⟩
  case round =>
    obtain ⟨k, hk, rfl, hbl⟩ := hrel
    by_cases hlt : k < n
    · have hkl : k < l.length := by have := HN.out; omega
      obtain ⟨b, o, rfl, hb, hc⟩ := Row.posB HR.out (by omega)
      obtain ⟨b', o', rfl, hb', hc'⟩ := Row.posB HR'.out (by omega)
      obtain ⟨x, hx⟩ : ∃ x, l[k]? = some x := ⟨_, List.getElem?_eq_getElem hkl⟩
      have C := fun j hj => bkt_cells (hc.keep (hbl.block b hb)) k x hx j hj
      have C' := fun j hj => bkt_cells (hc'.keep (hbl.block b' hb')) k x hx j hj
      obtain ⟨fr, to_, cnt, sum, mn, mx, fi, la⟩ := x
      have c0 := (C 0 (by omega)).trans rfl
      have c1 := (C 1 (by omega)).trans rfl
      have c2 := (C 2 (by omega)).trans rfl
      have c3 := (C 3 (by omega)).trans rfl
      have c4 := (C 4 (by omega)).trans rfl
      have c5 := (C 5 (by omega)).trans rfl
      have c6 := (C 6 (by omega)).trans rfl
      have c7 := (C 7 (by omega)).trans rfl
      have d0 := (C' 0 (by omega)).trans rfl
      have d1 := (C' 1 (by omega)).trans rfl
      have d2 := (C' 2 (by omega)).trans rfl
      have d3 := (C' 3 (by omega)).trans rfl
      have d4 := (C' 4 (by omega)).trans rfl
      have d5 := (C' 5 (by omega)).trans rfl
      have d6 := (C' 6 (by omega)).trans rfl
      have d7 := (C' 7 (by omega)).trans rfl
      simp only [bktC, List.getElem?_cons_zero, List.getElem?_cons_succ, Nat.add_zero] at c0 c1 c2 c3 c4 c5 c6 c7 d0 d1 d2 d3 d4 d5 d6 d7
      have HBL := Lib.hid hbl
      have hlt' : (k : Int) < (n : Int) := by omega
      clear hbl hx hkl C C' hc hc'
      go_wp2_with (fail)
      go_quiet (fail)
      go_wp2_with (fail)
      go_roundw
      case rel => exact ⟨k + 1, by omega, by go_num, below_drewN HBL.out _⟩
      case measure => simp [intOf]; omega
    · have HBL := Lib.hid hbl
      clear hbl
      go_wp2_with (fail)
      go_ret
      exact ⟨rfl, HBL.out⟩

set_option maxHeartbeats 2000000 in
theorem bounded_any (l : List Bkt) (n c : Nat) (A : Option Addr) (w : World) (hn : l.length = n) (hn2 : n ≤ 5000) (hc : ∀ (i : Nat) (x : Bkt), l[i]? = some x → x.cnt ≤ 5000) (hr : Row w w.heap.size A (bCells l)) :
    Calls Tryz.prog 74 #[.slice A n c] w fun e w' => e = .returned (.tuple #[.slice A n c, .int .i64 0]) ∧ Below w.heap.size w w' := by
  have HR := Lib.hid hr
  have HC := Lib.hid hc
  have HN := Lib.hid hn
  clear hr hc hn
  go_enter Tryz.func74, Tryz.ntmps74
  go_wp2_with (fail)
  go_loopw [11] (fun i wr => ∃ k : Nat, k ≤ n ∧ i = .int .i64 k ∧ Below w.heap.size w wr) (fun i _ => n - (intOf i).toNat)
  case atStart => exact ⟨0, Nat.zero_le _, rfl, Below.refl _ _⟩
  case round =>
    obtain ⟨k, hk, rfl, hbl⟩ := hrel
    have hsz := hbl.size
    by_cases hlt : k < n
    · have hkl : k < l.length := by have := HN.out; omega
      obtain ⟨b, o, rfl, hb, hc⟩ := Row.posB HR.out (by omega)
      obtain ⟨x, hx⟩ : ∃ x, l[k]? = some x := ⟨_, List.getElem?_eq_getElem hkl⟩
      have C := fun j hj => bkt_cells (hc.keep (hbl.block b hb)) k x hx j hj
      have hcnt := HC.out k x hx
      obtain ⟨fr, to_, cnt, sum, mn, mx, fi, la⟩ := x
      simp only at hcnt
      have c0 := (C 0 (by omega)).trans rfl
      have c1 := (C 1 (by omega)).trans rfl
      have c2 := (C 2 (by omega)).trans rfl
      have c3 := (C 3 (by omega)).trans rfl
      have c4 := (C 4 (by omega)).trans rfl
      have c5 := (C 5 (by omega)).trans rfl
      have c6 := (C 6 (by omega)).trans rfl
      have c7 := (C 7 (by omega)).trans rfl
      simp only [bktC, List.getElem?_cons_zero, List.getElem?_cons_succ, Nat.add_zero] at c0 c1 c2 c3 c4 c5 c6 c7
      have HBL := Lib.hid hbl
      have hlt' : (k : Int) < (n : Int) := by omega
      have hblt : b < wr.heap.size := by omega
      clear hbl hx hkl C hc
      go_wp2_with (fail)
      go_roundw
      case rel => exact ⟨k + 1, by omega, by go_num, HBL.out.alloc hsz _⟩
      case measure => simp [intOf]; omega
    · have HBL := Lib.hid hbl
      clear hbl
      go_wp2_with (fail)
      go_ret2
      exact ⟨rfl, HBL.out⟩

theorem length_some (x : Bkt) (m c b o : Nat) (L : Int) (w : World) (hm : 0 < m) (hL : 1 ≤ L) (hL2 : L ≤ 345686400000) (hf0 : 0 ≤ x.fr) (hf1 : x.fr < 345686400000) (ht : x.to_ = x.fr + L) (h0 : w.cell? ⟨b, o, none⟩ = some (.int .i64 x.fr)) (h1 : w.cell? ⟨b, o + 1, none⟩ = some (.int .i64 x.to_)) :
    Calls Tryz.prog 73 #[.slice (some ⟨b, o, none⟩) m c] w fun e w' => e = .returned (.int .i64 L) ∧ Below w.heap.size w w' := by
  obtain ⟨fr, to_, cnt, sum, mn, mx, fi, la⟩ := x
  simp only at hf0 hf1 ht h0 h1
  subst ht
  have hw : IntKind.i64.wrap (fr + L - fr) = L := by rw [IntKind.wrap_i64]; omega
  have hm0 : (0 : Int) < (m : Int) := by omega
  go_enter Tryz.func73, Tryz.ntmps73
  go_wp2_with (fail)
  go_quiet (fail)
  go_wp2_with (fail)
  go_ret
  exact ⟨rfl, below_drewN (Below.refl _ _) _⟩
end Go.Proofs.YtaglkaphlekmoaaGreatDoor
