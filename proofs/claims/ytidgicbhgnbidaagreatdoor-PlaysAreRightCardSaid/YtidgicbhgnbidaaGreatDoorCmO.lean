/- Whether a moment lies in the hours of a campaign, somehow. -/
import Derived.Test.YtidgicbhgnbidaaGreatDoorCmN
import Derived.Test.YtidgicbhgnbidaaGreatDoorCmW
namespace Go.Proofs.YtidgicbhgnbidaaGreatDoor
open Go.RowKit

def ihV (a b m : Int) : Bool := if a < b then decide (a ≤ m) && decide (m < b) else if b < a then decide (a ≤ m) || decide (m < b) else true
def inV (C : Cm) (t : Int) : Bool := ihV C.h0 C.h1 ((t % 86400000 + 86400000) % 86400000)
set_option maxRecDepth 100000 in
set_option maxHeartbeats 2000000 in
theorem inHours_any (C : Cm) (g : Nat) (t : Int) (w : World) (hC : CmOk C) (ht : 0 ≤ t ∧ t ≤ 1000000) (hg : w.heap[g]? = some (cmB C)) :
    Calls Tryz.prog 118 #[.pointer (some ⟨g, 0, none⟩), .int .i64 0, .int .i64 t] w fun e w' => e = .returned (.bool (inV C t)) ∧ Below w.heap.size w w' := by
  have hl := (Array.getElem?_eq_some_iff.1 hg).1
  obtain ⟨h0, e0⟩ : ∃ h, h = C.h0 := ⟨_, rfl⟩
  obtain ⟨h1, e1⟩ : ∃ h, h = C.h1 := ⟨_, rfl⟩
  have hb0 := hC.h0
  have hb1 := hC.h1
  unfold inV
  rw [← e0, ← e1]
  rw [← e0] at hb0
  rw [← e1] at hb1
  have HQ := Lib.hid (fun (V : World) (hV : Below w.heap.size w V) => show V.cell? ⟨g, 6, none⟩ = some (.int .i64 h0) ∧ V.cell? ⟨g, 7, none⟩ = some (.int .i64 h1) from by
    have h := (hV.block g hl).trans hg
    rw [e0, e1]
    exact ⟨cell_of_blk (j := 6) h rfl, cell_of_blk (j := 7) h rfl⟩)
  clear hC hg e0 e1
  obtain ⟨r, er⟩ : ∃ r, r = ihV h0 h1 ((t % 86400000 + 86400000) % 86400000) := ⟨_, rfl⟩
  rw [← er]
  go_enter Tryz.func118, Tryz.ntmps118
  go_upto_region 2 with (fail)
  refine qRegion (by kernel_rfl) (by kernel_rfl) ?_
  repeat (first
    | (go_big_quiet_want; refine qVal (fun V hV => (by (obtain ⟨q0, q1⟩ := HQ.out V hV; go_simp; try rfl))) ?_; simp only [Act.put, List.setIfInBounds_toArray, List.set_cons_zero, List.set_cons_succ]; go_big_quiet_on)
    | go_big_quiet_skip)
  refine wpQuiet_nil ?_
  intro w1 hb
  have HB := Lib.hid hb
  clear hb HQ
  generalize (t % 86400000 + 86400000) % 86400000 = m at er ⊢
  generalize t % 86400000 = m0 at *
  unfold ihV at er
  by_cases h2 : h0 < h1
  · rw [if_pos h2] at er
    by_cases h3 : h0 ≤ m
    · rw [decide_eq_true h3, Bool.true_and] at er
      have HE := Lib.hid er
      clear er
      go_wp2_with (fail)
      go_ret
      exact ⟨by rw [HE.out]; rfl, HB.out⟩
    · rw [decide_eq_false h3, Bool.false_and] at er
      subst er
      go_wp2_with (fail)
      go_ret
      exact ⟨rfl, HB.out⟩
  · rw [if_neg h2] at er
    by_cases h4 : h1 < h0
    · rw [if_pos h4] at er
      by_cases h3 : h0 ≤ m
      · rw [decide_eq_true h3, Bool.true_or] at er
        subst er
        go_wp2_with (fail)
        go_ret
        exact ⟨rfl, HB.out⟩
      · rw [decide_eq_false h3, Bool.false_or] at er
        have HE := Lib.hid er
        clear er
        go_wp2_with (fail)
        go_ret
        exact ⟨by rw [HE.out]; rfl, HB.out⟩
    · rw [if_neg h4] at er
      subst er
      go_wp2_with (fail)
      go_ret
      exact ⟨rfl, HB.out⟩
end Go.Proofs.YtidgicbhgnbidaaGreatDoor
