/- Join of right buckets and nothing, Wider of right buckets to their own length: what they make is new memory. -/
import Derived.Test.YtnmgfnnkcenfeaaGreatDoorPkB
import Derived.Test.YtnmgfnnkcenfeaaGreatDoorJoin
import Derived.Test.YtnmgfnnkcenfeaaGreatDoorMgB
namespace Go.Proofs.YtnmgfnnkcenfeaaGreatDoor
open Go.RowKit

structure BkR (y : List Bkt) : Prop where
  good : GoodBs 10 y
  ok : ∀ x ∈ y, BOk 10 10 x
  len : y.length ≤ 10
theorem boL_r (xs : LiA) (k N : Nat) (hN : N ≤ 10) : BkR (boL (serL xs k (-100) N)) := by
  have hF := serL_fine xs k N (by omega)
  have hl := serL_length xs k (-100) N
  obtain ⟨l, el⟩ : ∃ l, l = serL xs k (-100) N := ⟨_, rfl⟩
  rw [← el] at hF hl ⊢
  rw [boL_eq hF.le]
  have hs : ∀ s ∈ l.filter inB, (0 ≤ s.1 ∧ s.1 < 345686400000) ∧ -1000000000 ≤ s.2 ∧ s.2 ≤ 1000000000 := fun s hs => by
    have := hF.all s ((List.mem_filter.1 hs).1)
    omega
  have hfl : (l.filter inB).length ≤ 10 := Nat.le_trans (List.length_filter_le _ _) (by omega)
  refine ⟨bktsOf_goodBs 10 (by omega) _ (by omega) (hF.le.filter _) hs, fun x hx => (bktsOf_ok 10 _ (fun s h => (hs s h).2) x hx).mono (by omega), ?_⟩
  have := bktsOf_length 10 (l.filter inB)
  omega
def JyPost (w : World) (e : Ending) (w' : World) : Prop :=
  ∃ (A : Option Addr) (n c : Nat) (l : List Value), e = .returned (.tuple #[.slice A n c, .int .i64 0]) ∧ n ≤ 10 ∧ l.length = n * 8 ∧ w'.ownsRow w.heap.size 46 8 (.slice A n c) n l ∧ Below w.heap.size w w'
theorem joinY_any (y : List Bkt) (n c base : Nat) (A : Option Addr) (w : World) (hn : y.length = n) (hy : BkR y) (ho : w.ownsRow base 46 8 (.slice A n c) n (bCells y)) :
    Calls Tryz.prog 11 #[.slice A n c, .slice none 0 0] w fun e w' => JyPost w e w' := by
  have h10 : n ≤ 10 := by have := hy.len; omega
  refine (join_any y [] n 0 c 0 10 A none 10 w (by omega) (by omega) hn rfl (own_cap ho) (Nat.le_refl _) hy.good ⟨by simp, by simp, by simp⟩ (by simpa using hy.ok) (by simp) (by omega) (by omega) (by omega) (own_row ho) (.inl rfl)).mono ?_
  rintro e w' ⟨v, rfl, ho', hb⟩
  obtain ⟨A', c', rfl⟩ := own_slice ho'
  have hl := joinB_length (y ++ [])
  rw [List.length_append, List.length_nil] at hl
  exact ⟨A', _, c', _, rfl, by omega, ho'.1, ho', hb⟩
theorem widerY_any (y : List Bkt) (n c base : Nat) (A : Option Addr) (w : World) (hn : y.length = n) (hy : BkR y) (ho : w.ownsRow base 46 8 (.slice A n c) n (bCells y)) :
    Calls Tryz.prog 13 #[.slice A n c, .int .i64 10] w fun e w' => JyPost w e w' := by
  have h10 : n ≤ 10 := by have := hy.len; omega
  rcases Nat.eq_zero_or_pos n with h0 | h0
  · subst h0
    refine (wider_empty A c 10 w (by omega) (by omega)).mono ?_
    rintro e w' ⟨rfl, hb⟩
    exact ⟨none, 0, 0, [], rfl, by omega, rfl, World.ownsRow_nil _ _ _ _, hb⟩
  · obtain ⟨h5, h6, h7⟩ | ⟨g, rfl, hg1, hg2⟩ := own_two ho
    · omega
    have hr := own_row ho
    refine (wider_some y n c g 0 10 10 10 w (by omega) (by omega) (by omega) (by omega) (by decide) hn h0 (by omega) hy.good hy.ok (by omega) hr).mono ?_
    rintro e w' ⟨v, rfl, ho', hb⟩
    obtain ⟨A', c', rfl⟩ := own_slice ho'
    have hl := widOf_length 10 y
    exact ⟨A', _, c', _, rfl, by omega, ho'.1, ho', hb⟩
end Go.Proofs.YtnmgfnnkcenfeaaGreatDoor
