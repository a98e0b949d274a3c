/- Plain: how many letters are pending, which one is replaced, what is put. No function of the program in sight. -/
import Derived.Test.YtnnncddjcdjhoaaGreatDoorOfQ
namespace Go.Proofs.YtnnncddjcdjhoaaGreatDoor
open Go.RowKit

def peB (n : On) : Bool := !enB n.s
def pen (f : Of) : Nat := ((List.range 6).filter fun i => match f i with | some n => peB n | none => false).length
theorem pen_of {M D : Mp} {ck : Nat} (hM : MpOk M ck) (hp : D.Perm M) : (D.filter fun q => peB q.2).length = pen (fM M) := by
  unfold pen
  have hD : NdM D := nd_of_sub hM (fun x hx => hp.mem_iff.1 hx) (hp.nodup_iff.2 hM.nodup)
  have h1 : ((D.filter fun q => peB q.2).map (·.2.l.id)).Nodup := List.pairwise_map.2 (List.Pairwise.filter _ hD)
  have h2 : ((List.range 6).filter fun i => match fM M i with | some n => peB n | none => false).Nodup := List.Pairwise.filter _ List.nodup_range
  have h3 : ((D.filter fun q => peB q.2).map (·.2.l.id)).Perm ((List.range 6).filter fun i => match fM M i with | some n => peB n | none => false) := by
    refine (List.perm_ext_iff_of_nodup h1 h2).2 fun i => ?_
    rw [List.mem_map, List.mem_filter]
    constructor
    · rintro ⟨q, hq, rfl⟩
      obtain ⟨hq1, hq2⟩ := List.mem_filter.1 hq
      have hqM := hp.mem_iff.1 hq1
      refine ⟨List.mem_range.2 (hM.id q hqM), ?_⟩
      rw [(fM_mem hM.nd).2 ⟨rfl, q.1, hqM⟩]
      exact hq2
    · rintro ⟨_, hi⟩
      cases hf : fM M i with
      | none => rw [hf] at hi; cases hi
      | some n =>
        rw [hf] at hi
        obtain ⟨e, b, hb⟩ := (fM_mem hM.nd).1 hf
        exact ⟨(b, n), List.mem_filter.2 ⟨hp.mem_iff.2 hb, hi⟩, e⟩
  have := h3.length_eq
  rw [List.length_map] at this
  exact this
/-- Whether a note is one that a letter replaces. -/
def mtB (x : Ol) (n : On) : Bool := decide (x.sl ≠ 0) && decide (n.l.sl = x.sl) && decide (n.s = 1) && decide (n.t = 0)
theorem mtB_iff (x : Ol) (n : On) : mtB x n = true ↔ x.sl ≠ 0 ∧ n.l.sl = x.sl ∧ n.s = 1 ∧ n.t = 0 := by
  unfold mtB
  simp [and_assoc]
def oldO (f : Of) (x : Ol) : Option Nat := (List.range 6).find? fun i => match f i with | some n => mtB x n | none => false
/-- What the loop finds is what there is: at most one note waits in a slot, untried. -/
theorem old_of {p : Po} {M D : Mp} {ck : Nat} {tm : Int} {x : Ol} {r : Option Nat} (hM : MpOk M ck) (hp : D.Perm M) (hf : OfOk p (fM M) tm) (h0 : r = none → ∀ q ∈ D, mtB x q.2 = false) (h1 : ∀ i, r = some i → ∃ q ∈ D, q.2.l.id = i ∧ mtB x q.2 = true) : r = oldO (fM M) x := by
  unfold oldO
  cases hr : r with
  | none =>
    symm
    rw [List.find?_eq_none]
    intro i hi
    cases hfi : fM M i with
    | none => simp
    | some n =>
      obtain ⟨e, b, hb⟩ := (fM_mem hM.nd).1 hfi
      have := h0 hr (b, n) (hp.mem_iff.2 hb)
      simp only at this ⊢
      rw [this]
      simp
  | some i =>
    obtain ⟨q, hq, hqi, hqm⟩ := h1 i hr
    have hqM := hp.mem_iff.1 hq
    have hfi : fM M i = some q.2 := (fM_mem hM.nd).2 ⟨hqi, q.1, hqM⟩
    have hs : ((List.range 6).find? fun i => match fM M i with | some n => mtB x n | none => false).isSome := by
      rw [List.find?_isSome]
      exact ⟨i, List.mem_range.2 (by rw [← hqi]; exact hM.id q hqM), by rw [hfi]; exact hqm⟩
    obtain ⟨j, hj⟩ := Option.isSome_iff_exists.1 hs
    rw [hj]
    have hjm := List.find?_some hj
    cases hfj : fM M j with
    | none => rw [hfj] at hjm; cases hjm
    | some n =>
      rw [hfj] at hjm
      obtain ⟨a1, a2, a3, a4⟩ := (mtB_iff x q.2).1 hqm
      obtain ⟨b1, b2, b3, b4⟩ := (mtB_iff x n).1 hjm
      rw [hf.sl i j q.2 n hfi hfj (by rw [a2]; exact a1) (by rw [a2, b2]) a3 b3 a4 b4]
def putZ (p : Po) (f : Of) (x : Ol) : Int := if (f x.id).isSome then 6 else if p.room + (if (oldO f x).isSome then 1 else 0) ≤ (pen f : Int) then 12 else 0
def repO (f : Of) (x : Ol) : Of :=
  match oldO f x with
  | none => f
  | some i => match f i with
    | none => f
    | some n => setO f { n with s := 6, c := x.at_ }
def putH (f : Of) (x : Ol) : Of := setO (repO f x) ⟨x, 1, 0, x.at_⟩
end Go.Proofs.YtnnncddjcdjhoaaGreatDoor
