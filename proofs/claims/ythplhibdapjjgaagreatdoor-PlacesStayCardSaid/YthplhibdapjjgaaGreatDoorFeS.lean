/- Fences as the maker checks them: fleetref2.touches, SpotFault, edge, Contains by their contracts. -/
import Derived.Test.YthplhibdapjjgaaGreatDoorFeO
namespace Go.Proofs.YthplhibdapjjgaaGreatDoor
open Go.RowKit

set_option maxRecDepth 100000 in
set_option maxHeartbeats 4000000 in
theorem touches_any (a b c d : Pt) (w : World) (ha : SpB a) (hb : SpB b) (hc : SpB c) (hd : SpB d) :
    Calls Tryz.prog 60 #[ptV a, ptV b, ptV c, ptV d] w fun e w' => e = .returned (.bool (toB a b c d)) ∧ Below w.heap.size w w' := by
  have HO1 := Lib.hid (fun V => onWay_any a b c V ha hb hc)
  have HO2 := Lib.hid (fun V => onWay_any a b d V ha hb hd)
  have HO3 := Lib.hid (fun V => onWay_any c d a V hc hd ha)
  have HO4 := Lib.hid (fun V => onWay_any c d b V hc hd hb)
  have HS1 := Lib.hid (fun V => rside_any a b c V ha hb hc)
  have HS2 := Lib.hid (fun V => rside_any a b d V ha hb hd)
  have HS3 := Lib.hid (fun V => rside_any c d a V hc hd ha)
  have HS4 := Lib.hid (fun V => rside_any c d b V hc hd hb)
  obtain ⟨r, er⟩ : ∃ r, r = toB a b c d := ⟨_, rfl⟩
  obtain ⟨r1, e1⟩ : ∃ r, r = owB a b c := ⟨_, rfl⟩
  obtain ⟨r2, e2⟩ : ∃ r, r = owB a b d := ⟨_, rfl⟩
  obtain ⟨r3, e3⟩ : ∃ r, r = owB c d a := ⟨_, rfl⟩
  obtain ⟨r4, e4⟩ : ∃ r, r = owB c d b := ⟨_, rfl⟩
  obtain ⟨p, ep⟩ : ∃ p, p = sd a b c := ⟨_, rfl⟩
  obtain ⟨q, eq⟩ : ∃ p, p = sd a b d := ⟨_, rfl⟩
  obtain ⟨s, es⟩ : ∃ p, p = sd c d a := ⟨_, rfl⟩
  obtain ⟨t, et⟩ : ∃ p, p = sd c d b := ⟨_, rfl⟩
  have HR := Lib.hid (show r = (r1 || r2 || r3 || r4 || decide (opp p q ∧ opp s t)) by rw [er, e1, e2, e3, e4, ep, eq, es, et]; rfl)
  rw [← er]
  rw [← e1] at HO1; rw [← e2] at HO2; rw [← e3] at HO3; rw [← e4] at HO4
  rw [← ep] at HS1; rw [← eq] at HS2; rw [← es] at HS3; rw [← et] at HS4
  have HBX := Lib.hid (bx4.new w a b c d)
  have HBW := Lib.hid (below4 w (.cells #[.int .i64 a.1, .int .i64 a.2] 37) (.cells #[.int .i64 b.1, .int .i64 b.2] 37) (.cells #[.int .i64 c.1, .int .i64 c.2] 37) (.cells #[.int .i64 d.1, .int .i64 d.2] 37))
  clear er e1 e2 e3 e4 ep eq es et ha hb hc hd
  obtain ⟨ax, ay⟩ := a
  obtain ⟨bx, by_⟩ := b
  obtain ⟨cx, cy⟩ := c
  obtain ⟨dx, dy⟩ := d
  unfold ptV at HO1 HO2 HO3 HO4 HS1 HS2 HS3 HS4 ⊢
  simp only at HO1 HO2 HO3 HO4 HS1 HS2 HS3 HS4 HBX HBW ⊢
  go_enter Tryz.func60, Tryz.ntmps60
  go_wp2_with (fail)
  generalize hW : (((w.alloc (.cells #[.int .i64 ax, .int .i64 ay] 37)).alloc (.cells #[.int .i64 bx, .int .i64 by_] 37)).alloc (.cells #[.int .i64 cx, .int .i64 cy] 37)).alloc (.cells #[.int .i64 dx, .int .i64 dy] 37) = W
  have hWs : W.heap.size = w.heap.size + 1 + 1 + 1 + 1 := by rw [← hW]; simp
  rw [hW] at HBX HBW
  clear hW
  refine (HO1.out W).mono ?_
  rintro e w1 ⟨rfl, hb1⟩
  obtain ⟨c0, c1, c2, c3, c4, c5, c6, c7⟩ := HBX.out.keep (by omega) hb1
  have HB1 := Lib.hid hb1
  have hs1 := hb1.size
  clear hb1
  cases r1 with
  | true =>
    go_wp2_with (fail)
    go_ret
    exact ⟨ret_boolB (by rw [HR.out]; rfl), HBW.out.trans (HB1.out.mono (by omega))⟩
  | false =>
    go_wp2_with (fail)
    refine (HO2.out w1).mono ?_
    rintro e w2 ⟨rfl, hb2⟩
    have HB2 := Lib.hid (HB1.out.trans (hb2.mono hs1))
    clear hb2 c0 c1 c2 c3 c4 c5 c6 c7
    obtain ⟨c0, c1, c2, c3, c4, c5, c6, c7⟩ := HBX.out.keep (by omega) HB2.out
    have hs2 := HB2.out.size
    cases r2 with
    | true =>
      go_wp2_with (fail)
      go_ret
      exact ⟨ret_boolB (by rw [HR.out]; rfl), HBW.out.trans (HB2.out.mono (by omega))⟩
    | false =>
      go_wp2_with (fail)
      refine (HO3.out w2).mono ?_
      rintro e w3 ⟨rfl, hb3⟩
      have HB3 := Lib.hid (HB2.out.trans (hb3.mono hs2))
      clear hb3 c0 c1 c2 c3 c4 c5 c6 c7
      obtain ⟨c0, c1, c2, c3, c4, c5, c6, c7⟩ := HBX.out.keep (by omega) HB3.out
      have hs3 := HB3.out.size
      cases r3 with
      | true =>
        go_wp2_with (fail)
        go_ret
        exact ⟨ret_boolB (by rw [HR.out]; rfl), HBW.out.trans (HB3.out.mono (by omega))⟩
      | false =>
        go_wp2_with (fail)
        refine (HO4.out w3).mono ?_
        rintro e w4 ⟨rfl, hb4⟩
        have HB4 := Lib.hid (HB3.out.trans (hb4.mono hs3))
        clear hb4 c0 c1 c2 c3 c4 c5 c6 c7
        obtain ⟨c0, c1, c2, c3, c4, c5, c6, c7⟩ := HBX.out.keep (by omega) HB4.out
        have hs4 := HB4.out.size
        cases r4 with
        | true =>
          go_wp2_with (fail)
          go_ret
          exact ⟨ret_boolB (by rw [HR.out]; rfl), HBW.out.trans (HB4.out.mono (by omega))⟩
        | false =>
          have g1 := sg_rng p
          have g2 := sg_rng q
          have g3 := sg_rng s
          have g4 := sg_rng t
          have HOP1 := Lib.hid (sg_opp (x := p) (y := q))
          have HOP2 := Lib.hid (sg_opp (x := s) (y := t))
          obtain ⟨k1, ek1⟩ : ∃ k, k = sgI p := ⟨_, rfl⟩
          obtain ⟨k2, ek2⟩ : ∃ k, k = sgI q := ⟨_, rfl⟩
          obtain ⟨k3, ek3⟩ : ∃ k, k = sgI s := ⟨_, rfl⟩
          obtain ⟨k4, ek4⟩ : ∃ k, k = sgI t := ⟨_, rfl⟩
          rw [← ek1] at g1 HS1 HOP1
          rw [← ek2] at g2 HS2 HOP1
          rw [← ek3] at g3 HS3 HOP2
          rw [← ek4] at g4 HS4 HOP2
          have m1 := prod_le (a := k1) (b := k2) (A := 1) (B := 1) (by omega) (by omega) (by omega) (by omega) (by omega) (by omega)
          have m2 := prod_le (a := k3) (b := k4) (A := 1) (B := 1) (by omega) (by omega) (by omega) (by omega) (by omega) (by omega)
          have wm1 : IntKind.i64.wrap (k1 * k2) = k1 * k2 := by rw [IntKind.wrap_i64]; omega
          have wm2 : IntKind.i64.wrap (k3 * k4) = k3 * k4 := by rw [IntKind.wrap_i64]; omega
          have HQ := Lib.hid (fun (V : World) (hV : Below w4.heap.size w4 V) => HBX.out.keep (by omega) (HB4.out.trans (hV.mono hs4)))
          clear ek1 ek2 ek3 ek4 c0 c1 c2 c3 c4 c5 c6 c7 HO1 HO2 HO3 HO4
          by_cases o1 : k1 * k2 < 0
          · have o1d : decide (k1 * k2 < 0) = true := decide_eq_true o1
            go_upto_region 3 with (fail)
            refine qRegion (by kernel_rfl) (by kernel_rfl) ?_
            repeat (first
              | (go_big_quiet_want; refine qVal (fun V hV => (by (obtain ⟨q0, q1, q2, q3, q4, q5, q6, q7⟩ := HQ.out V hV; go_simp; try rfl))) ?_; simp only [Act.put, List.setIfInBounds_toArray, List.set_cons_zero, List.set_cons_succ]; go_big_quiet_on)
              | (go_big_quiet_want
                 refine qCall (fun V hV => (by (go_simp; exact ⟨rfl, rfl⟩))) (fun V hV => (by first
                   | with_reducible exact (HS1.out V).mono (fun e w' h => ⟨h.1, hV.trans (h.2.mono hV.size)⟩)
                   | with_reducible exact (HS2.out V).mono (fun e w' h => ⟨h.1, hV.trans (h.2.mono hV.size)⟩)
                   | with_reducible exact (HS3.out V).mono (fun e w' h => ⟨h.1, hV.trans (h.2.mono hV.size)⟩)
                   | with_reducible exact (HS4.out V).mono (fun e w' h => ⟨h.1, hV.trans (h.2.mono hV.size)⟩))) ?_
                 simp only [Act.put, List.setIfInBounds_toArray, List.set_cons_zero, List.set_cons_succ]; go_big_quiet_on))
            refine wpQuiet_nil ?_
            intro w9 hb9
            have HB9 := Lib.hid (HBW.out.trans ((HB4.out.trans (hb9.mono hs4)).mono (by omega)))
            clear hb9
            go_wp2_with (fail)
            go_ret
            refine ⟨ret_boolB ?_, HB9.out⟩
            rw [HR.out, Bool.eq_iff_iff]
            have h1 := HOP1.out
            have h2 := HOP2.out
            simp [h1.1 o1, h2]
          · have o1d : decide (k1 * k2 < 0) = false := decide_eq_false o1
            go_upto_region 3 with (fail)
            refine qRegion (by kernel_rfl) (by kernel_rfl) ?_
            repeat (first
              | (go_big_quiet_want; refine qVal (fun V hV => (by (obtain ⟨q0, q1, q2, q3, q4, q5, q6, q7⟩ := HQ.out V hV; go_simp; try rfl))) ?_; simp only [Act.put, List.setIfInBounds_toArray, List.set_cons_zero, List.set_cons_succ]; go_big_quiet_on)
              | (go_big_quiet_want
                 refine qCall (fun V hV => (by (go_simp; exact ⟨rfl, rfl⟩))) (fun V hV => (by first
                   | with_reducible exact (HS1.out V).mono (fun e w' h => ⟨h.1, hV.trans (h.2.mono hV.size)⟩)
                   | with_reducible exact (HS2.out V).mono (fun e w' h => ⟨h.1, hV.trans (h.2.mono hV.size)⟩))) ?_
                 simp only [Act.put, List.setIfInBounds_toArray, List.set_cons_zero, List.set_cons_succ]; go_big_quiet_on)
              | go_big_quiet_skip)
            refine wpQuiet_nil ?_
            intro w9 hb9
            have HB9 := Lib.hid (HBW.out.trans ((HB4.out.trans (hb9.mono hs4)).mono (by omega)))
            clear hb9
            go_wp2_with (fail)
            go_ret
            refine ⟨ret_boolB ?_, HB9.out⟩
            rw [HR.out, decide_eq_false (fun h => by have := HOP1.out.2 h.1; omega)]
            rfl
end Go.Proofs.YthplhibdapjjgaaGreatDoor
