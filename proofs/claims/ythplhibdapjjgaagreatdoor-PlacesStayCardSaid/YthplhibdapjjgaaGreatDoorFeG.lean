/- Fences: place.crossed says no of right corners. -/
import Derived.Test.YthplhibdapjjgaaGreatDoorFeF
namespace Go.Proofs.YthplhibdapjjgaaGreatDoor
open Go.RowKit

theorem nodup_gp {l : List Pt} (h : l.Nodup) {i j : Nat} (hi : i < l.length) (hj : j < l.length) (he : gp l i = gp l j) : i = j := by
  have h1 := gp_lt hi
  have h2 := gp_lt hj
  rw [List.getElem?_eq_getElem hi] at h1
  rw [List.getElem?_eq_getElem hj] at h2
  injection h1 with h1
  injection h2 with h2
  exact (List.getElem_inj h).1 (by rw [h1, h2, he])
theorem onB_ow {a b s : Pt} (h : owB a b s = false) : onB a b s = false := by
  rw [Bool.eq_false_iff] at h ⊢
  exact fun h1 => h (ow_on (onB_iff.1 h1))
theorem meB_to {a b c d : Pt} (h : toB a b c d = false) : meB a b c d = false := by
  rw [Bool.eq_false_iff] at h ⊢
  exact fun h1 => h (to_me (meB_iff.1 h1))
/-- An edge and the next one. -/
theorem FOk.after {l : List Pt} (h : FOk l) {i : Nat} (hi : i + 1 < l.length) : onB (ed1 l i) (ed2 l i) (ed2 l (i + 1)) = false ∧ onB (ed1 l (i + 1)) (ed2 l (i + 1)) (ed1 l i) = false := by
  have he : ed2 l i = ed1 l (i + 1) := by unfold ed2 ed1; rw [Nat.mod_eq_of_lt hi]
  rcases h.pairs i (by omega) (i + 1) hi with h1 | ⟨_, h1, h2⟩ | ⟨h1, _⟩
  · omega
  · exact ⟨onB_ow h1, onB_ow h2⟩
  · exact absurd he h1
/-- The last edge and the first one. -/
theorem FOk.before {l : List Pt} (h : FOk l) {k : Nat} (hk : k + 1 = l.length) : onB (ed1 l 0) (ed2 l 0) (ed1 l k) = false ∧ onB (ed1 l k) (ed2 l k) (ed2 l 0) = false := by
  have hl := h.lo
  have he : ed2 l k = ed1 l 0 := by unfold ed2 ed1; rw [hk, Nat.mod_self]
  rcases h.pairs k (by omega) 0 (by omega) with h1 | ⟨_, h1, h2⟩ | ⟨h1, _⟩
  · omega
  · exact ⟨onB_ow h2, onB_ow h1⟩
  · exact absurd he h1
/-- Two edges that are not next to each other. -/
theorem FOk.apart {l : List Pt} (h : FOk l) {i k : Nat} (hik : i < k) (hk : k < l.length) (ha : k ≠ i + 1) (hb : (k + 1) % l.length ≠ i) : meB (ed1 l i) (ed2 l i) (ed1 l k) (ed2 l k) = false := by
  rcases h.pairs i (by omega) k hk with h1 | ⟨h1, _⟩ | ⟨_, h1 | h1⟩
  · omega
  · exfalso
    unfold ed2 ed1 at h1
    rw [Nat.mod_eq_of_lt (by omega)] at h1
    have := nodup_gp h.nodup (by omega) hk h1
    omega
  · exfalso
    unfold ed2 ed1 at h1
    exact hb (nodup_gp h.nodup (Nat.mod_lt _ (by omega)) (by omega) h1)
  · exact meB_to h1
end Go.Proofs.YthplhibdapjjgaaGreatDoor
