/- Fences as the maker checks them: fleetref2.onWay by its contract. -/
import Derived.Test.YthplhibdapjjgaaGreatDoorFeP
namespace Go.Proofs.YthplhibdapjjgaaGreatDoor
open Go.RowKit

set_option maxRecDepth 100000 in
set_option maxHeartbeats 2000000 in
theorem onWay_any (a b s : Pt) (w : World) (ha : SpB a) (hb : SpB b) (hs : SpB s) :
    Calls Tryz.prog 59 #[ptV a, ptV b, ptV s] w fun e w' => e = .returned (.bool (owB a b s)) ∧ Below w.heap.size w w' := by
  have HRS := Lib.hid (fun V => rside_any a b s V ha hb hs)
  have HM1 := Lib.hid (fun V => minus_any a s V ha hs)
  have HM2 := Lib.hid (fun V => minus_any b s V hb hs)
  have HDT := Lib.hid (fun V => dot_any (mnP a s) (mnP b s) V (ha.diff hs) (hb.diff hs))
  have HOW := Lib.hid (show owB a b s = (decide (sgI (sd a b s) = 0) && decide (dotP (mnP a s) (mnP b s) ≤ 0)) from rfl)
  obtain ⟨q, eq⟩ : ∃ q, q = owB a b s := ⟨_, rfl⟩
  obtain ⟨r, er⟩ : ∃ r, r = sgI (sd a b s) := ⟨_, rfl⟩
  obtain ⟨d, ed⟩ : ∃ d, d = dotP (mnP a s) (mnP b s) := ⟨_, rfl⟩
  rw [← er] at HRS HOW
  rw [← ed] at HDT HOW
  rw [← eq] at HOW ⊢
  obtain ⟨u, eu⟩ : ∃ u, u = mnP a s := ⟨_, rfl⟩
  obtain ⟨v, ev⟩ : ∃ u, u = mnP b s := ⟨_, rfl⟩
  rw [← eu] at HM1 HDT
  rw [← ev] at HM2 HDT
  have HBX := Lib.hid (bx3.new w a b s)
  have HBW := Lib.hid (below3 w (.cells #[.int .i64 a.1, .int .i64 a.2] 37) (.cells #[.int .i64 b.1, .int .i64 b.2] 37) (.cells #[.int .i64 s.1, .int .i64 s.2] 37))
  clear ed er eu ev eq ha hb hs
  obtain ⟨ax, ay⟩ := a
  obtain ⟨bx, by_⟩ := b
  obtain ⟨sx, sy⟩ := s
  obtain ⟨ux, uy⟩ := u
  obtain ⟨vx, vy⟩ := v
  unfold ptV at HRS HM1 HM2 HDT ⊢
  simp only at HRS HM1 HM2 HDT HBX HBW ⊢
  go_enter Tryz.func59, Tryz.ntmps59
  go_upto_region 1 with (fail)
  generalize hW : ((w.alloc (.cells #[.int .i64 ax, .int .i64 ay] 37)).alloc (.cells #[.int .i64 bx, .int .i64 by_] 37)).alloc (.cells #[.int .i64 sx, .int .i64 sy] 37) = W
  have hWs : W.heap.size = w.heap.size + 1 + 1 + 1 := by rw [← hW]; simp
  rw [hW] at HBX HBW
  clear hW
  have HQ := Lib.hid (fun (V : World) (hV : Below W.heap.size W V) => HBX.out.keep (by omega) hV)
  by_cases hr : r = 0
  · subst hr
    refine qRegion (by kernel_rfl) (by kernel_rfl) ?_
    repeat (first
      | (go_big_quiet_want; refine qVal (fun V hV => (by (obtain ⟨q0, q1, q2, q3, q4, q5⟩ := HQ.out V hV; go_simp; try rfl))) ?_; simp only [Act.put, List.setIfInBounds_toArray, List.set_cons_zero, List.set_cons_succ]; go_big_quiet_on)
      | (go_big_quiet_want
         refine qCall (fun V hV => (by (go_simp; exact ⟨rfl, rfl⟩))) (fun V hV => (by first
           | with_reducible exact (HRS.out V).mono (fun e w' h => ⟨h.1, hV.trans (h.2.mono hV.size)⟩)
           | with_reducible exact (HM1.out V).mono (fun e w' h => ⟨h.1, hV.trans (h.2.mono hV.size)⟩)
           | with_reducible exact (HM2.out V).mono (fun e w' h => ⟨h.1, hV.trans (h.2.mono hV.size)⟩)
           | with_reducible exact (HDT.out V).mono (fun e w' h => ⟨h.1, hV.trans (h.2.mono hV.size)⟩))) ?_
         simp only [Act.put, List.setIfInBounds_toArray, List.set_cons_zero, List.set_cons_succ]; go_big_quiet_on)
      | go_big_quiet_skip)
    refine wpQuiet_nil ?_
    intro w9 hb9
    have HB9 := Lib.hid (HBW.out.trans (hb9.mono (by omega)))
    clear hb9
    go_wp2_with (fail)
    go_ret
    exact ⟨ret_boolB (by rw [HOW.out]; simp), HB9.out⟩
  · have hrb : (r == 0) = false := by simpa using hr
    have hrd : decide (r = 0) = false := decide_eq_false hr
    refine qRegion (by kernel_rfl) (by kernel_rfl) ?_
    repeat (first
      | (go_big_quiet_want; refine qVal (fun V hV => (by (obtain ⟨q0, q1, q2, q3, q4, q5⟩ := HQ.out V hV; go_simp; try rfl))) ?_; simp only [Act.put, List.setIfInBounds_toArray, List.set_cons_zero, List.set_cons_succ]; go_big_quiet_on)
      | (go_big_quiet_want
         refine qCall (fun V hV => (by (go_simp; exact ⟨rfl, rfl⟩))) (fun V hV => (by first
           | with_reducible exact (HRS.out V).mono (fun e w' h => ⟨h.1, hV.trans (h.2.mono hV.size)⟩))) ?_
         simp only [Act.put, List.setIfInBounds_toArray, List.set_cons_zero, List.set_cons_succ]; go_big_quiet_on)
      | go_big_quiet_skip)
    refine wpQuiet_nil ?_
    intro w9 hb9
    have HB9 := Lib.hid (HBW.out.trans (hb9.mono (by omega)))
    clear hb9
    go_wp2_with (fail)
    go_ret
    exact ⟨ret_boolB (by rw [HOW.out, decide_eq_false hr]; rfl), HB9.out⟩

end Go.Proofs.YthplhibdapjjgaaGreatDoor
