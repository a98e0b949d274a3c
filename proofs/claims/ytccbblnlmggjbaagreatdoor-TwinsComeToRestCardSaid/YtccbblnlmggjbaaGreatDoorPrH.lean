/- slices.Sort, slices.Compact of the names by their contracts. -/
import Derived.Test.YtccbblnlmggjbaaGreatDoorPrS
import Derived.Test.YtccbblnlmggjbaaGreatDoorLay190
import Derived.Test.YtccbblnlmggjbaaGreatDoorLay194
import Derived.Lib.OwnBridge
import Derived.Lib.RowBridge
namespace Go.Proofs.YtccbblnlmggjbaaGreatDoor
open Go.RowKit Go.Shelf Go.Sort Go.Lib

def nmC (i : Nat) : List Value := [.string (nm i)]
theorem nmC_len (i : Nat) : (nmC i).length = 1 := rfl
theorem nmC_one (i : Nat) : ∀ u ∈ nmC i, u.oneCell' = true := by
  intro u hu; simp only [nmC, List.mem_singleton] at hu; subst hu; rfl
theorem enc_nm (i : Nat) : encStr (nmL i) = .string (nm i) := by simp [encStr, nmL]
theorem recs_nm (r : List Nat) : recs nmC r = (r.map nmL).map encStr := by
  induction r with
  | nil => rfl
  | cons i r ih => simp only [recs, List.flatMap_cons, List.map_cons] at ih ⊢; rw [ih, enc_nm]; rfl
def srtN (r : List Nat) : List Nat := r.mergeSort (fun x y => decide (x ≤ y))
theorem srtN_perm (r : List Nat) : (srtN r).Perm r := List.mergeSort_perm _ _
theorem srtN_sorted (r : List Nat) : (srtN r).Pairwise (· ≤ ·) := by
  have := List.pairwise_mergeSort (le := fun x y : Nat => decide (x ≤ y)) (fun a b c => by simp; omega) (fun a b => by simp; omega) r
  exact this.imp (fun h => by simpa using h)
theorem sort_names (w : World) (base g cap n : Nat) (r : List Nat) (h7 : ∀ i ∈ r, i < 7) (hn8 : n ≤ 1000) (ho : w.ownsRow base 9 1 (.slice (some ⟨g, 0, none⟩) n cap) n (recs nmC r)) :
    Calls Tryz.prog 88 #[.slice (some ⟨g, 0, none⟩) n cap] w fun e w' => e = .returned (.tuple #[]) ∧ w'.ownsRow base 9 1 (.slice (some ⟨g, 0, none⟩) n cap) n (recs nmC (srtN r)) ∧ w.grownBy w' (some g) := by
  rw [recs_nm] at ho
  obtain ⟨g', cap', e', hb, hg, h1, h2, hl, hH⟩ := Lib.holds_of_ownsRow ho (by simp)
  cases e'
  subst hl
  refine (Any.slices_Sort_string lay190 g 0 cap (r.map nmL) w hH hg (by omega)).mono ?_
  rintro e w' ⟨rfl, q, os, rfl⟩
  refine ⟨rfl, ?_, grownBy_sorted _⟩
  rcases ho.2 with ⟨hv, _⟩ | ⟨g2, cap2, cur, hv, hb2, hh, hc, hcm, hcs, ht⟩
  · cases hv
  · cases hv
    rw [recs_nm, sort_rank r h7]
    exact ownsRow_sorted (by simp [List.length_mergeSort]) hb hh h1 h2 hcs
theorem rkF_length_le (r : List Nat) (hs : r.Pairwise (· ≤ ·)) (h7 : ∀ i ∈ r, i < 7) : (rkF r).length ≤ r.length := by
  have h := Lib.compact_length_le (r.map nmL)
  rw [compact_rank r hs h7] at h
  simpa using h
theorem grown_putRow {w : World} {g q : Nat} (d : Array (List UInt8)) : w.grownBy (putRow encStr (Sort.ahead w q) g 0 d) (some g) := by
  have := grownBy_sorted (w := w) (g := g) (n := q) (os := #[]) d
  simpa using this
theorem compact_names (w : World) (base g cap n : Nat) (r : List Nat) (hs : r.Pairwise (· ≤ ·)) (h7 : ∀ i ∈ r, i < 7) (hn8 : n ≤ 1000) (ho : w.ownsRow base 9 1 (.slice (some ⟨g, 0, none⟩) n cap) n (recs nmC r)) :
    Calls Tryz.prog 89 #[.slice (some ⟨g, 0, none⟩) n cap] w fun e w' => e = .returned (.slice (some ⟨g, 0, none⟩) (rkF r).length cap) ∧ w'.ownsRow base 9 1 (.slice (some ⟨g, 0, none⟩) (rkF r).length cap) (rkF r).length (recs nmC (rkF r)) ∧ w.grownBy w' (some g) := by
  rw [recs_nm] at ho
  obtain ⟨g', cap', e', hb, hg, h1, h2, hl, hH⟩ := Lib.holds_of_ownsRow ho (by simp)
  cases e'
  subst hl
  have hle := rkF_length_le r hs h7
  refine (Any.slices_Compact_string lay194 g 0 cap (r.map nmL) w hH (by omega) h1).mono ?_
  rintro e w' ⟨h, q, rfl⟩
  rw [compact_rank r hs h7] at h ⊢
  rw [List.length_map] at h
  refine ⟨h, ?_, grown_putRow _⟩
  have := Lib.ownsRow_putRow (q := q) (k := (rkF r).length) (ys := (rkF r).map nmL ++ List.replicate ((r.map nmL).length - ((rkF r).map nmL).length) []) ho (by simp; omega) (by simpa using hle)
  rw [recs_nm]
  rw [List.take_append_of_le_length (by simp), List.take_of_length_le (by simp)] at this
  exact this
end Go.Proofs.YtccbblnlmggjbaaGreatDoor
