/- slices.Sort, slices.Compact of devices by their contracts. -/
import Derived.Test.YtlfphndnkgoinaaGreatDoorDvS
import Derived.Test.YtlfphndnkgoinaaGreatDoorLay190
import Derived.Test.YtlfphndnkgoinaaGreatDoorLay194
import Derived.Lib.OwnBridge
import Derived.Lib.RowBridge
namespace Go.Proofs.YtlfphndnkgoinaaGreatDoor
open Go.RowKit Go.Shelf Go.Sort Go.Lib

def dvC (i : Nat) : List Value := [.string (teT i)]
theorem dvC_len (i : Nat) : (dvC i).length = 1 := rfl
theorem dvC_one (i : Nat) : ∀ u ∈ dvC i, u.oneCell' = true := by
  intro u hu; simp only [dvC, List.mem_singleton] at hu; subst hu; rfl
theorem enc_dv (i : Nat) : encStr (dvL i) = .string (teT i) := by simp [encStr, dvL]
theorem recs_dv (r : List Nat) : recs dvC r = (r.map dvL).map encStr := by
  induction r with
  | nil => rfl
  | cons i r ih => simp only [recs, List.flatMap_cons, List.map_cons] at ih ⊢; rw [ih, enc_dv]; rfl
def srtD (r : List Nat) : List Nat := r.mergeSort (fun x y => decide (x ≤ y))
theorem srtD_perm (r : List Nat) : (srtD r).Perm r := List.mergeSort_perm _ _
theorem srtD_sorted (r : List Nat) : (srtD r).Pairwise (· ≤ ·) := by
  have := List.pairwise_mergeSort (le := fun x y : Nat => decide (x ≤ y)) (fun a b c => by simp; omega) (fun a b => by simp; omega) r
  exact this.imp (fun h => by simpa using h)
theorem sort_devs (w : World) (base g cap n : Nat) (r : List Nat) (h2d : ∀ i ∈ r, i < 2) (hn8 : n ≤ 1000) (ho : w.ownsRow base 9 1 (.slice (some ⟨g, 0, none⟩) n cap) n (recs dvC r)) :
    Calls Tryz.prog 128 #[.slice (some ⟨g, 0, none⟩) n cap] w fun e w' => e = .returned (.tuple #[]) ∧ w'.ownsRow base 9 1 (.slice (some ⟨g, 0, none⟩) n cap) n (recs dvC (srtD r)) ∧ w.grownBy w' (some g) := by
  rw [recs_dv] at ho
  obtain ⟨g', cap', e', hb, hg, h1, h2, hl, hH⟩ := Lib.holds_of_ownsRow ho (by simp)
  cases e'
  subst hl
  refine (Any.slices_Sort_string lay190 g 0 cap (r.map dvL) w hH hg (by omega)).mono ?_
  rintro e w' ⟨rfl, q, os, rfl⟩
  refine ⟨rfl, ?_, grownBy_sorted _⟩
  rcases ho.2 with ⟨hv, _⟩ | ⟨g2, cap2, cur, hv, hb2, hh, hc, hcm, hcs, ht⟩
  · cases hv
  · cases hv
    rw [recs_dv, sort_dv r h2d]
    exact ownsRow_sorted (by simp [List.length_mergeSort]) hb hh h1 h2 hcs
theorem dvF_length_le (r : List Nat) (hs : r.Pairwise (· ≤ ·)) (h2d : ∀ i ∈ r, i < 2) : (dvF r).length ≤ r.length := by
  have h := Lib.compact_length_le (r.map dvL)
  rw [compact_dv r hs h2d] at h
  simpa using h
theorem grown_putRowD {w : World} {g q : Nat} (d : Array (List UInt8)) : w.grownBy (putRow encStr (Sort.ahead w q) g 0 d) (some g) := by
  have := grownBy_sorted (w := w) (g := g) (n := q) (os := #[]) d
  simpa using this
theorem compact_devs (w : World) (base g cap n : Nat) (r : List Nat) (hs : r.Pairwise (· ≤ ·)) (h2d : ∀ i ∈ r, i < 2) (hn8 : n ≤ 1000) (ho : w.ownsRow base 9 1 (.slice (some ⟨g, 0, none⟩) n cap) n (recs dvC r)) :
    Calls Tryz.prog 129 #[.slice (some ⟨g, 0, none⟩) n cap] w fun e w' => e = .returned (.slice (some ⟨g, 0, none⟩) (dvF r).length cap) ∧ w'.ownsRow base 9 1 (.slice (some ⟨g, 0, none⟩) (dvF r).length cap) (dvF r).length (recs dvC (dvF r)) ∧ w.grownBy w' (some g) := by
  rw [recs_dv] at ho
  obtain ⟨g', cap', e', hb, hg, h1, h2, hl, hH⟩ := Lib.holds_of_ownsRow ho (by simp)
  cases e'
  subst hl
  have hle := dvF_length_le r hs h2d
  refine (Any.slices_Compact_string lay194 g 0 cap (r.map dvL) w hH (by omega) h1).mono ?_
  rintro e w' ⟨h, q, rfl⟩
  rw [compact_dv r hs h2d] at h ⊢
  rw [List.length_map] at h
  refine ⟨h, ?_, grown_putRowD _⟩
  have := Lib.ownsRow_putRow (q := q) (k := (dvF r).length) (ys := (dvF r).map dvL ++ List.replicate ((r.map dvL).length - ((dvF r).map dvL).length) []) ho (by simp; omega) (by simpa using hle)
  rw [recs_dv]
  rw [List.take_append_of_le_length (by simp), List.take_of_length_le (by simp)] at this
  exact this
end Go.Proofs.YtlfphndnkgoinaaGreatDoor
