/- CommandsStay: an office with one letter, in plain words. No program in sight. -/
import Derived.Test.YtnnncddjcdjhoaaGreatDoorOfW
namespace Go.Proofs.YtnnncddjcdjhoaaGreatDoor
open Go.RowKit

def ofP : Po := ⟨5, 10, 2, 5⟩
def ofX : Ol := ⟨0, 0, 1, 0, 0, 50⟩
def ofN1 : On := ⟨ofX, 1, 0, 0⟩
def ofN2 : On := ⟨ofX, 2, 1, 1⟩
theorem ofP_ok : PoOk ofP := ⟨by decide, by decide, by decide, by decide⟩
theorem ofX_ok : OlOk ofX := ⟨by decide, by decide, by decide, by decide, by decide, by decide⟩
def one (n : On) : Of := fun i => if i = n.l.id then some n else none
theorem one_some {n m : On} {i : Nat} : one n i = some m ↔ i = n.l.id ∧ m = n := by
  unfold one
  by_cases h : i = n.l.id
  · rw [if_pos h]
    constructor
    · intro e; injection e with e; exact ⟨h, e.symm⟩
    · rintro ⟨_, rfl⟩; rfl
  · rw [if_neg h]
    constructor
    · intro e; cases e
    · rintro ⟨h2, _⟩; exact absurd h2 h
theorem aged_none {p : Po} {a : Int} {h : Of} (H : Aged p (fM []) a h) : h = fun _ => none := by
  obtain ⟨E, _, e⟩ := H
  funext i
  rw [e]
  rfl
theorem aged_one {p : Po} {n : On} {a : Int} {h : Of} (hs : enB n.s = false) (ha : a < tuN p n) (H : Aged p (one n) a h) : h = one n := by
  obtain ⟨E, hE, e⟩ := H
  funext i
  rw [e]
  unfold one
  by_cases hi : i = n.l.id
  · rw [if_pos hi]
    show (if gro p n a ∈ outL p E then none else some (gro p n a)) = some n
    rw [gro_wait ha, if_neg]
    intro hm
    obtain ⟨_, m, _, _, h3⟩ := (hE.2 n).1 (List.mem_of_mem_take hm)
    rw [hs] at h3
    cases h3
  · rw [if_neg hi]
    rfl
theorem ofOk_n1 (tm : Int) (h : 0 ≤ tm) : OfOk ofP (one ofN1) tm := by
  constructor
  · intro i n hn; obtain ⟨rfl, rfl⟩ := one_some.1 hn; rfl
  · intro i n hn; obtain ⟨rfl, rfl⟩ := one_some.1 hn; exact ofX_ok
  · intro i n hn; obtain ⟨rfl, rfl⟩ := one_some.1 hn; decide
  · intro i n hn; obtain ⟨rfl, rfl⟩ := one_some.1 hn; decide
  · intro i n hn _; obtain ⟨rfl, rfl⟩ := one_some.1 hn; decide
  · intro i n hn; obtain ⟨rfl, rfl⟩ := one_some.1 hn; exact ⟨by decide, h, by decide⟩
  · intro i n hn hs; obtain ⟨rfl, rfl⟩ := one_some.1 hn; exact absurd hs (by decide)
  · intro i j n m hn hm _ _ _ _ _ _; obtain ⟨rfl, rfl⟩ := one_some.1 hn; obtain ⟨rfl, rfl⟩ := one_some.1 hm; rfl
theorem ofOk_n2 (tm : Int) (h : 1 ≤ tm) : OfOk ofP (one ofN2) tm := by
  constructor
  · intro i n hn; obtain ⟨rfl, rfl⟩ := one_some.1 hn; rfl
  · intro i n hn; obtain ⟨rfl, rfl⟩ := one_some.1 hn; exact ofX_ok
  · intro i n hn; obtain ⟨rfl, rfl⟩ := one_some.1 hn; decide
  · intro i n hn; obtain ⟨rfl, rfl⟩ := one_some.1 hn; decide
  · intro i n hn hs; obtain ⟨rfl, rfl⟩ := one_some.1 hn; exact absurd hs (by decide)
  · intro i n hn; obtain ⟨rfl, rfl⟩ := one_some.1 hn; exact ⟨by decide, h, by decide⟩
  · intro i n hn _; obtain ⟨rfl, rfl⟩ := one_some.1 hn; decide
  · intro i j n m hn hm _ _ _ _ _ _; obtain ⟨rfl, rfl⟩ := one_some.1 hn; obtain ⟨rfl, rfl⟩ := one_some.1 hm; rfl
/-- The letter is put. -/
theorem put_one {h : Of} (H : Aged ofP (fM []) ofX.at_ h) : putZ ofP h ofX = 0 ∧ putH h ofX = one ofN1 := by
  rw [aged_none H]
  constructor
  · decide
  · funext i
    unfold putH
    have e : repO (fun _ => none) ofX = fun _ => none := by
      unfold repO
      rw [show oldO (fun _ => none) ofX = none by decide]
    rw [e]
    by_cases hi : i = 0
    · subst hi; rfl
    · exact (if_neg hi).trans (if_neg hi).symm
theorem fetch_one {h : Of} {ls : List Ol} (H : Aged ofP (one ofN1) 1 h) : fetH h 1 ls = one ofN1 ∨ fetH h 1 ls = one ofN2 := by
  rw [aged_one (by decide) (by decide) H]
  by_cases hm : ofX ∈ ls
  · right
    funext i
    by_cases hi : i = 0
    · subst hi
      show some (if ofX ∈ ls then _ else _) = _
      rw [if_pos hm]
      rfl
    · have e1 : one ofN1 i = none := if_neg hi
      have e2 : one ofN2 i = none := if_neg hi
      unfold fetH
      rw [e1, e2]
      rfl
  · left
    funext i
    by_cases hi : i = 0
    · subst hi
      show some (if ofX ∈ ls then _ else _) = _
      rw [if_neg hm]
      rfl
    · have e1 : one ofN1 i = none := if_neg hi
      unfold fetH
      rw [e1]
      rfl
theorem note_one {n : On} {L : List On} (h : NoteL (one n) L) : L = [n] := by
  obtain ⟨h1, h2⟩ := h
  have hn : n ∈ L := (h2 n).2 ⟨n.l.id, one_some.2 ⟨rfl, rfl⟩⟩
  have ha : ∀ m ∈ L, m = n := fun m hm => by
    obtain ⟨i, hi⟩ := (h2 m).1 hm
    exact (one_some.1 hi).2
  match L, h1, hn, ha with
  | [m], _, _, ha => rw [ha m (List.mem_singleton.2 rfl)]
  | m :: k :: l, h1, _, ha =>
    have h3 := (List.pairwise_cons.1 h1).1 k (by simp)
    rw [ha m (by simp), ha k (by simp)] at h3
    omega
end Go.Proofs.YtnnncddjcdjhoaaGreatDoor
