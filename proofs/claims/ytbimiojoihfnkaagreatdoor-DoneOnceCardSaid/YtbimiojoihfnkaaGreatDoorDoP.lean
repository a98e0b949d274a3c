/- DoneOnce: the plain law of what a device remembers. -/
import Derived.Test.YtbimiojoihfnkaaGreatDoorRec
namespace Go.Proofs.YtbimiojoihfnkaaGreatDoor
open Go.RowKit

/-- The letters of the law, by number: name and end. -/
def ltId (i : Nat) : ByteArray := ⟨#[108, 97 + UInt8.ofNat i]⟩
def ltU (i : Nat) : Int := [20, 50, 50, 100, 1000].getD i 0
theorem ltId_ne {i j : Nat} (hi : i < 5) (hj : j < 5) (h : i ≠ j) : ltId i ≠ ltId j := by
  have : (i = 0 ∨ i = 1 ∨ i = 2 ∨ i = 3 ∨ i = 4) ∧ (j = 0 ∨ j = 1 ∨ j = 2 ∨ j = 3 ∨ j = 4) := by omega
  obtain ⟨h1, h2⟩ := this
  rcases h1 with rfl | rfl | rfl | rfl | rfl <;> rcases h2 with rfl | rfl | rfl | rfl | rfl <;> first | (exact absurd rfl h) | decide
theorem ltU_range {i : Nat} (hi : i < 5) : 20 ≤ ltU i ∧ ltU i ≤ 1000 := by
  have : i = 0 ∨ i = 1 ∨ i = 2 ∨ i = 3 ∨ i = 4 := by omega
  rcases this with rfl | rfl | rfl | rfl | rfl <;> decide
/-- What is remembered of a letter. -/
def dnC (i : Nat) : List Value := [.string (ltId i), .int .i64 (ltU i)]
theorem dnC_len (i : Nat) : (dnC i).length = 2 := rfl
theorem dnC_one (i : Nat) : ∀ u ∈ dnC i, u.oneCell' = true := by
  intro u hu
  simp only [dnC, List.mem_cons, List.not_mem_nil, or_false] at hu
  rcases hu with rfl | rfl <;> rfl
/-- The memory N comes of L and letter i at a moment: nothing is lost that has not ended. -/
structure Mem (L N : List Nat) (i : Nat) (at_ : Int) : Prop where
  five : ∀ j ∈ N, j < 5
  new : i ∈ N
  old : ∀ j ∈ L, j ∈ N ∨ ltU j ≤ at_
theorem Mem.start {L : List Nat} {i : Nat} {at_ : Int} (h : ∀ j ∈ L, j < 5) (hi : i < 5) : Mem L (L ++ [i]) i at_ := by
  refine ⟨?_, by simp, fun j hj => .inl (by simp [hj])⟩
  intro j hj
  rcases List.mem_append.1 hj with hj | hj
  · exact h j hj
  · simp only [List.mem_singleton] at hj; omega
theorem Mem.erase {L N : List Nat} {i k m : Nat} {at_ : Int} (h : Mem L N i at_) (hi : at_ < ltU i) (hk : N[k]? = some m) (hm : ltU m ≤ at_) : Mem L (N.eraseIdx k) i at_ := by
  have he : ∀ j, j ∈ N → j ∈ N.eraseIdx k ∨ ltU j ≤ at_ := by
    intro j hj
    obtain ⟨p, hp⟩ := List.getElem?_of_mem hj
    by_cases e : p = k
    · subst e
      rw [hk] at hp
      injection hp with hp
      subst hp
      exact .inr hm
    · refine .inl (List.mem_eraseIdx_iff_getElem?.2 ⟨p, e, hp⟩)
  refine ⟨fun j hj => h.five j (List.mem_of_mem_eraseIdx hj), ?_, ?_⟩
  · rcases he i h.new with h1 | h1
    · exact h1
    · omega
  · intro j hj
    rcases h.old j hj with h1 | h1
    · exact he j h1
    · exact .inr h1
/-- What is done is remembered or has ended. -/
def Kpt (D L : List Nat) (at_ : Int) : Prop := ∀ j ∈ D, j ∈ L ∨ ltU j ≤ at_
theorem Kpt.later {D L : List Nat} {a b : Int} (h : Kpt D L a) (hab : a ≤ b) : Kpt D L b := fun j hj => (h j hj).imp id (by omega)
theorem Kpt.do {D L N : List Nat} {i : Nat} {a : Int} (h : Kpt D L a) (hm : Mem L N i a) : Kpt (D ++ [i]) N a := by
  intro j hj
  rcases List.mem_append.1 hj with hj | hj
  · rcases h j hj with h1 | h1
    · exact hm.old j h1
    · exact .inr h1
  · simp only [List.mem_singleton] at hj
    subst hj
    exact .inl hm.new
theorem Kpt.fresh {D L : List Nat} {i : Nat} {a : Int} (h : Kpt D L a) (hi : i ∉ L) (hu : a < ltU i) : i ∉ D := by
  intro hd
  rcases h i hd with h1 | h1
  · exact hi h1
  · omega
end Go.Proofs.YtbimiojoihfnkaaGreatDoor
