/- How a course stands: ready, out, busy, follow by their contracts. -/
import Derived.Test.YtidgicbhgnbidaaGreatDoorCmB
import Derived.Test.YtidgicbhgnbidaaGreatDoorMgC
import Derived.BigRegion
import Derived.Deep.RegionLawGrows
import Derived.Deep.CutBlock
namespace Go.Proofs.YtidgicbhgnbidaaGreatDoor
open Go.RowKit

theorem below_drewC {n : Nat} {a w : World} (h : Below n a w) : ∀ q, Below n a (w.drewN q) := fun _ => ⟨h.os, h.tape, h.output, h.size, h.block⟩
set_option maxRecDepth 100000 in
theorem ready_any (C : Cm) (x : Cu) (gs gc gx : Nat) (w : World) (h0 : w.cell? ⟨gs, 0, none⟩ = some (.pointer (some ⟨gc, 0, none⟩))) (hc : w.heap[gc]? = some (cmB C)) (hx : w.heap[gx]? = some (cuB x)) :
    Calls Tryz.prog 105 #[.pointer (some ⟨gs, 0, none⟩), .pointer (some ⟨gx, 0, none⟩)] w fun e w' => e = .returned (.bool (rdV C x)) ∧ Below w.heap.size w w' := by
  have hgs := World.block_lt_of_cell? w _ h0
  simp only at hgs
  have hgc := (Array.getElem?_eq_some_iff.1 hc).1
  have hgx := (Array.getElem?_eq_some_iff.1 hx).1
  have c1 := cell_of_blk (j := 1) hc rfl
  have c2 := cell_of_blk (j := 2) hc rfl
  have c3 := cell_of_blk (j := 3) hc rfl
  have x2 := cell_of_blk (j := 2) hx rfl
  have x3 := cell_of_blk (j := 3) hx rfl
  have x4 := cell_of_blk (j := 4) hx rfl
  have hq := fun W : World => ver_eql x.v C.t W
  unfold rdV
  obtain ⟨r, er⟩ : ∃ r, r = decide (x.v = C.t) := ⟨_, rfl⟩
  simp only [← er] at hq ⊢
  unfold veV at hq
  clear er hc hx
  go_enter Tryz.func105, Tryz.ntmps105
  go_wp2_with (fail)
  go_quiet (fail)
  go_wp2_with (fail)
  go_ret
  exact ⟨rfl, below_drewC (Below.refl _ _) _⟩
set_option maxRecDepth 100000 in
theorem out_any (C : Cm) (x : Cu) (gs gc gx : Nat) (w : World) (h0 : w.cell? ⟨gs, 0, none⟩ = some (.pointer (some ⟨gc, 0, none⟩))) (hc : w.heap[gc]? = some (cmB C)) (hx : w.heap[gx]? = some (cuB x)) :
    Calls Tryz.prog 107 #[.pointer (some ⟨gs, 0, none⟩), .pointer (some ⟨gx, 0, none⟩)] w fun e w' => e = .returned (.bool (ouV C x)) ∧ Below w.heap.size w w' := by
  have HR := Lib.hid (ready_any C x gs gc gx w h0 hc hx)
  have HX := Lib.hid hx
  have hgx := (Array.getElem?_eq_some_iff.1 hx).1
  unfold ouV
  obtain ⟨r, er⟩ : ∃ r, r = rdV C x := ⟨_, rfl⟩
  rw [← er] at HR ⊢
  clear er h0 hc hx
  go_enter Tryz.func107, Tryz.ntmps107
  go_wp2_with (fail)
  refine HR.out.mono ?_
  rintro e w1 ⟨rfl, hb1⟩
  have hx1 := (hb1.block gx hgx).trans HX.out
  have hgx1 := (Array.getElem?_eq_some_iff.1 hx1).1
  have x0 := cell_of_blk (j := 0) hx1 rfl
  have x5 := cell_of_blk (j := 5) hx1 rfl
  have HB1 := Lib.hid hb1
  clear hx1 hb1 HR
  cases r
  · by_cases hf : 3 ≤ x.f
    · go_wp2_with (fail)
      go_ret
      exact ⟨by simp [hf], HB1.out⟩
    · by_cases hk : x.kd = 5
      · rw [hk] at x0
        go_wp2_with (fail)
        go_ret
        exact ⟨by simp [hk], HB1.out⟩
      · go_wp2_with (fail)
        go_ret
        exact ⟨by simp [hk], HB1.out⟩
  · go_wp2_with (fail)
    go_ret
    exact ⟨rfl, HB1.out⟩
def bzV (x : Cu) : Bool := decide (x.kd = 1) || decide (x.kd = 2)
set_option maxRecDepth 100000 in
theorem busy_any (x : Cu) (gx : Nat) (w : World) (hx : w.heap[gx]? = some (cuB x)) :
    Calls Tryz.prog 119 #[.pointer (some ⟨gx, 0, none⟩)] w fun e w' => e = .returned (.bool (bzV x)) ∧ Below w.heap.size w w' := by
  have hgx := (Array.getElem?_eq_some_iff.1 hx).1
  have x0 := cell_of_blk (j := 0) hx rfl
  unfold bzV
  by_cases h1 : x.kd = 1
  · rw [h1] at x0 ⊢
    go_enter Tryz.func119, Tryz.ntmps119
    go_wp2_with (fail)
    go_ret
    exact ⟨rfl, Below.refl _ _⟩
  · by_cases h2 : x.kd = 2
    · rw [h2] at x0 ⊢
      go_enter Tryz.func119, Tryz.ntmps119
      go_wp2_with (fail)
      go_ret
      exact ⟨rfl, Below.refl _ _⟩
    · go_enter Tryz.func119, Tryz.ntmps119
      go_wp2_with (fail)
      go_ret
      exact ⟨by simp [h1, h2], Below.refl _ _⟩
theorem grown_drewC {a w : World} {row : Option Nat} (h : a.grownBy w row) : a.grownBy w.drew row := ⟨h.os, h.tape, h.output, h.size, h.block⟩
theorem heap_drewC {w : World} {g : Nat} {o : Obj} (h : w.heap[g]? = some o) : w.drew.heap[g]? = some o := h
theorem cu_set5 {w : World} {g : Nat} {a b c d e f p q r : Value} (a' b' p' q' r' : Value) (h : w.heap[g]? = some (.cells #[a, b, c, d, e, f, p, q, r] 168 (0, 0))) :
    ((((((w.setCell ⟨g, 0, none⟩ a').setCell ⟨g, 1, none⟩ b').setCell ⟨g, 6, none⟩ p').setCell ⟨g, 7, none⟩ q').setCell ⟨g, 8, none⟩ r').drew).heap[g]? = some (.cells #[a', b', c, d, e, f, p', q', r'] 168 (0, 0)) ∧
    w.grownBy ((((((w.setCell ⟨g, 0, none⟩ a').setCell ⟨g, 1, none⟩ b').setCell ⟨g, 6, none⟩ p').setCell ⟨g, 7, none⟩ q').setCell ⟨g, 8, none⟩ r').drew) (some g) := by
  have h0 := (setblkV (j := 0) a' h).trans rfl
  have h1 := (setblkV (j := 1) b' h0).trans rfl
  have h2 := (setblkV (j := 6) p' h1).trans rfl
  have h3 := (setblkV (j := 7) q' h2).trans rfl
  have h4 := (setblkV (j := 8) r' h3).trans rfl
  refine ⟨heap_drewC h4, ?_⟩
  have hg := grown_set (grown_set (grown_set (grown_set (grown_set (grown_refl w (some g)) (q := ⟨g, 0, none⟩) (.inl rfl) a') (q := ⟨g, 1, none⟩) (.inl rfl) b') (q := ⟨g, 6, none⟩) (.inl rfl) p') (q := ⟨g, 7, none⟩) (.inl rfl) q') (q := ⟨g, 8, none⟩) (.inl rfl) r'
  exact grown_drewC hg
theorem cu_set3 {w : World} {g : Nat} {a b c d e f p q r : Value} (c' d' e' : Value) (h : w.heap[g]? = some (.cells #[a, b, c, d, e, f, p, q, r] 168 (0, 0))) :
    (((w.setCell ⟨g, 2, none⟩ c').setCell ⟨g, 3, none⟩ d').setCell ⟨g, 4, none⟩ e').heap[g]? = some (.cells #[a, b, c', d', e', f, p, q, r] 168 (0, 0)) ∧
    w.grownBy (((w.setCell ⟨g, 2, none⟩ c').setCell ⟨g, 3, none⟩ d').setCell ⟨g, 4, none⟩ e') (some g) := by
  have h0 := (setblkV (j := 2) c' h).trans rfl
  have h1 := (setblkV (j := 3) d' h0).trans rfl
  have h2 := (setblkV (j := 4) e' h1).trans rfl
  exact ⟨h2, grown_set (grown_set (grown_set (grown_refl w (some g)) (q := ⟨g, 2, none⟩) (.inl rfl) c') (q := ⟨g, 3, none⟩) (.inl rfl) d') (q := ⟨g, 4, none⟩) (.inl rfl) e'⟩
theorem cu_set1 {w : World} {g : Nat} {a b c d e f p q r : Value} (f' : Value) (h : w.heap[g]? = some (.cells #[a, b, c, d, e, f, p, q, r] 168 (0, 0))) :
    (w.setCell ⟨g, 5, none⟩ f').heap[g]? = some (.cells #[a, b, c, d, e, f', p, q, r] 168 (0, 0)) ∧ w.grownBy (w.setCell ⟨g, 5, none⟩ f') (some g) :=
  ⟨(setblkV (j := 5) f' h).trans rfl, grown_set (grown_refl w (some g)) (q := ⟨g, 5, none⟩) (.inl rfl) f'⟩
set_option maxRecDepth 100000 in
set_option maxHeartbeats 4000000 in
theorem follow_any (x : Cu) (m : Mk) (n gx : Nat) (w : World) (hn : n ≤ 1000) (hxo : CuOk x n) (hmo : MkOk m) (hx : w.heap[gx]? = some (cuB x)) :
    Calls Tryz.prog 79 #[.pointer (some ⟨gx, 0, none⟩), mkW m] w fun e w' => e = .returned (.bool (foOk x m)) ∧ w'.heap[gx]? = some (cuB (foV x m)) ∧ w.grownBy w' (some gx) := by
  have hgx := (Array.getElem?_eq_some_iff.1 hx).1
  have HV := Lib.hid (fun W : World => ver_eql m.v x.o W)
  obtain ⟨ok, hok⟩ : ∃ ok, ok = foOk x m := ⟨_, rfl⟩
  have hcu : cuB (foV x m) = if ok then cuB (foTo x m) else cuB x := by unfold foV; rw [← hok]; split <;> rfl
  have hxf := hxo.f
  have hkd := hmo.kd
  obtain ⟨r, er⟩ : ∃ r, r = decide (m.v = x.o) := ⟨_, rfl⟩
  have hq : ∀ W : World, (binOp .eql 29 (veV m.v) (veV x.o)).run Tryz.prog W = .ok (.bool r) W := fun W => by rw [er]; exact HV.out W
  unfold foOk at hok
  rw [← er] at hok
  rw [hcu, show foOk x m = ok from by rw [hok]; unfold foOk; rw [er]]
  have HOK := Lib.hid hok
  obtain ⟨w0, e0⟩ : ∃ V : World, V = w.alloc (mkB m) := ⟨_, rfl⟩
  obtain ⟨gm, egm⟩ : ∃ g, g = w.heap.size := ⟨_, rfl⟩
  have hb0 : Below w.heap.size w w0 := by rw [e0]; exact (Below.refl _ _).alloc (Nat.le_refl _) _
  have hm0 : w0.heap[gm]? = some (mkB m) := by rw [e0, egm]; exact heap_new w _
  have hx0 := (hb0.block gx hgx).trans hx
  have hne : gx ≠ gm := by omega
  have HB0 := Lib.hid hb0
  have HM0 := Lib.hid hm0
  have HX0 := Lib.hid hx0
  have hlm := (Array.getElem?_eq_some_iff.1 hm0).1
  have hlx := (Array.getElem?_eq_some_iff.1 hx0).1
  unfold mkB at e0
  unfold mkW
  obtain ⟨xk, xs, ⟨va, vb, vc⟩, xf, ⟨oa, ob, oc⟩⟩ := x
  obtain ⟨ma, md, mk, ⟨na, nb, nc⟩⟩ := m
  unfold veV at hq
  simp only at hq HOK hxf hkd e0 ⊢
  have m0 := cell_of_blk (j := 0) hm0 rfl
  have m1 := cell_of_blk (j := 1) hm0 rfl
  have m2 := cell_of_blk (j := 2) hm0 rfl
  have m3 := cell_of_blk (j := 3) hm0 rfl
  have m4 := cell_of_blk (j := 4) hm0 rfl
  have m5 := cell_of_blk (j := 5) hm0 rfl
  have x0 := cell_of_blk (j := 0) hx0 rfl
  have x6 := cell_of_blk (j := 6) hx0 rfl
  have x7 := cell_of_blk (j := 7) hx0 rfl
  have x8 := cell_of_blk (j := 8) hx0 rfl
  clear hok hcu hx hx0 hm0 hb0 er HV hxo hmo hgx
  go_enter Tryz.func79, Tryz.ntmps79
  go_upto_region 1 with (fail)
  rw [← egm, ← e0]
  clear e0 egm
  go_quiet (fail)
  go_upto_block 0 with (fail)
  go_cut [6] (fun s wx => s = .bool ok ∧ Below w0.heap.size w0 wx)
  case first =>
    by_cases k1 : mk = 1
    · subst k1
      rw [if_pos rfl] at HOK
      by_cases a0 : xk = 0
      · subst a0
        go_wp2_with (fail)
        go_meet
        exact ⟨by rw [HOK.out]; rfl, below_drewC (Below.refl _ _) _⟩
      · by_cases a3 : xk = 3
        · subst a3
          go_wp2_with (fail)
          go_meet
          exact ⟨by rw [HOK.out]; rfl, below_drewC (Below.refl _ _) _⟩
        · by_cases a4 : xk = 4
          · subst a4
            go_wp2_with (fail)
            go_meet
            exact ⟨by rw [HOK.out]; rfl, below_drewC (Below.refl _ _) _⟩
          · go_wp2_with (fail)
            go_meet
            exact ⟨by rw [HOK.out]; simp [a0, a3, a4], below_drewC (Below.refl _ _) _⟩
    · rw [if_neg k1] at HOK
      by_cases k2 : mk = 2 ∨ mk = 5
      · rw [if_pos k2] at HOK
        by_cases a1 : xk = 1
        · subst a1
          have HO2 := Lib.hid (show ok = r from by rw [HOK.out]; simp)
          rcases k2 with k2 | k2
          · subst k2
            go_wp2_with (fail)
            go_meet
            exact ⟨by rw [HO2.out], below_drewC (Below.refl _ _) _⟩
          · subst k2
            go_wp2_with (fail)
            go_meet
            exact ⟨by rw [HO2.out], below_drewC (Below.refl _ _) _⟩
        · have HO2 := Lib.hid (show ok = false from by rw [HOK.out]; simp [a1])
          rcases k2 with k2 | k2
          · subst k2
            go_wp2_with (fail)
            go_meet
            exact ⟨by rw [HO2.out], below_drewC (Below.refl _ _) _⟩
          · subst k2
            go_wp2_with (fail)
            go_meet
            exact ⟨by rw [HO2.out], below_drewC (Below.refl _ _) _⟩
      · rw [if_neg k2] at HOK
        have k3 : ¬ mk = 2 := fun h => k2 (.inl h)
        have k5 : ¬ mk = 5 := fun h => k2 (.inr h)
        by_cases a2 : xk = 2
        · subst a2
          have HO2 := Lib.hid (show ok = r from by rw [HOK.out]; simp)
          go_wp2_with (fail)
          go_meet
          exact ⟨by rw [HO2.out], below_drewC (Below.refl _ _) _⟩
        · have HO2 := Lib.hid (show ok = false from by rw [HOK.out]; simp [a2])
          go_wp2_with (fail)
          go_meet
          exact ⟨by rw [HO2.out], below_drewC (Below.refl _ _) _⟩
  case rest =>
  obtain ⟨rfl, hb1⟩ := hcut
  obtain ⟨w1, rfl⟩ : ∃ wy : World, wy = wc := ⟨_, rfl⟩
  have hm1 := (hb1.block gm hlm).trans HM0.out
  have hx1 := (hb1.block gx hlx).trans HX0.out
  have HB1 := Lib.hid (HB0.out.trans (hb1.mono HB0.out.size))
  have hlm1 := (Array.getElem?_eq_some_iff.1 hm1).1
  have hlx1 := (Array.getElem?_eq_some_iff.1 hx1).1
  have HX1 := Lib.hid hx1
  have HM1 := Lib.hid hm1
  clear m0 m1 m2 m3 m4 m5 x0 x6 x7 x8 hb1 hlm hlx
  cases ok with
  | false =>
    clear hm1 hx1
    go_wp2_with (fail)
    go_ret
    exact ⟨rfl, HX1.out, ⟨HB1.out.os, HB1.out.tape, HB1.out.output, HB1.out.size, fun b hb _ => HB1.out.block b hb⟩⟩
  | true =>
    have m0 := cell_of_blk (j := 0) hm1 rfl
    have m2 := cell_of_blk (j := 2) hm1 rfl
    have m3 := cell_of_blk (j := 3) hm1 rfl
    have m4 := cell_of_blk (j := 4) hm1 rfl
    have m5 := cell_of_blk (j := 5) hm1 rfl
    have x0 := cell_of_blk (j := 0) hx1 rfl
    have x1 := cell_of_blk (j := 1) hx1 rfl
    have x6 := cell_of_blk (j := 6) hx1 rfl
    have x7 := cell_of_blk (j := 7) hx1 rfl
    have x8 := cell_of_blk (j := 8) hx1 rfl
    have fr : ∀ j, w1.frozen? ⟨gx, j, none⟩ = false := by intro j; simp [World.frozen?, hx1, cuB]
    have f0 := fr 0
    have f1 := fr 1
    have f6 := fr 6
    have f7 := fr 7
    have f8 := fr 8
    clear fr hm1 hx1
    go_upto_region 12 with (fail)
    go_region
    have hset := cu_set5 (.int .i64 mk) (.int .i64 ma) (.int .i64 na) (.int .i64 nb) (.int .i64 nc) HX1.out
    generalize hW2 : ((((((w1.setCell ⟨gx, 0, none⟩ (.int .i64 mk)).setCell ⟨gx, 1, none⟩ (.int .i64 ma)).setCell ⟨gx, 6, none⟩ (.int .i64 na)).setCell ⟨gx, 7, none⟩ (.int .i64 nb)).setCell ⟨gx, 8, none⟩ (.int .i64 nc)).drew) = w2 at hset ⊢
    obtain ⟨hx2, hg2⟩ := hset
    have hm2 := (hg2.block gm hlm1 (by intro e; injection e with e; omega)).trans HM1.out
    have HG2 := Lib.hid (show w.grownBy w2 (some gx) from grown_trans ⟨HB1.out.os, HB1.out.tape, HB1.out.output, HB1.out.size, fun b hb _ => HB1.out.block b hb⟩ hg2)
    have hlx2 := (Array.getElem?_eq_some_iff.1 hx2).1
    have hlm2 := (Array.getElem?_eq_some_iff.1 hm2).1
    have HX2 := Lib.hid hx2
    clear hW2 m0 m2 m3 m4 m5 x0 x1 x6 x7 x8 f0 f1 f6 f7 f8 hg2 HX1 HM1
    have m2 := cell_of_blk (j := 2) hm2 rfl
    have m3 := cell_of_blk (j := 3) hm2 rfl
    have m4 := cell_of_blk (j := 4) hm2 rfl
    have m5 := cell_of_blk (j := 5) hm2 rfl
    have x2 := cell_of_blk (j := 2) hx2 rfl
    have x3 := cell_of_blk (j := 3) hx2 rfl
    have x4 := cell_of_blk (j := 4) hx2 rfl
    have x5 := cell_of_blk (j := 5) hx2 rfl
    have fr : ∀ j, w2.frozen? ⟨gx, j, none⟩ = false := by intro j; simp [World.frozen?, hx2]
    have f2 := fr 2
    have f3 := fr 3
    have f4 := fr 4
    have f5 := fr 5
    clear fr hm2 hx2
    by_cases k3 : mk = 3
    · subst k3
      have HS := Lib.hid (cu_set3 (.int .i64 na) (.int .i64 nb) (.int .i64 nc) HX2.out)
      go_wp2_with (fail)
      go_ret
      exact ⟨rfl, HS.out.1, grown_trans HG2.out HS.out.2⟩
    · by_cases k4 : mk = 4
      · subst k4
        have HS := Lib.hid (cu_set1 (.int .i64 (xf + 1)) HX2.out)
        go_wp2_with (fail)
        go_ret
        exact ⟨rfl, HS.out.1, grown_trans HG2.out HS.out.2⟩
      · have HE := Lib.hid (show cuB (foTo ⟨xk, xs, ⟨va, vb, vc⟩, xf, ⟨oa, ob, oc⟩⟩ ⟨ma, md, mk, ⟨na, nb, nc⟩⟩) = .cells #[.int .i64 mk, .int .i64 ma, .int .i64 va, .int .i64 vb, .int .i64 vc, .int .i64 xf, .int .i64 na, .int .i64 nb, .int .i64 nc] 168 (0, 0) from by
          unfold foTo cuB
          simp only [if_neg k3, if_neg k4])
        go_wp2_with (fail)
        go_ret
        refine ⟨rfl, ?_, HG2.out⟩
        rw [HE.out]
        exact HX2.out
end Go.Proofs.YtidgicbhgnbidaaGreatDoor
