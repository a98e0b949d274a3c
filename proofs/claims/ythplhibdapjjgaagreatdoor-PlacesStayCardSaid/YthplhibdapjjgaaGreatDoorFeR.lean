/- Fences as the maker checks them: fleetref2's side, onWay, touches by their contracts. -/
import Derived.Test.YthplhibdapjjgaaGreatDoorFeA
import Derived.Test.YthplhibdapjjgaaGreatDoorQt
namespace Go.Proofs.YthplhibdapjjgaaGreatDoor
open Go.RowKit

/-- A difference of two spots. -/
structure SpD (s : Pt) : Prop where
  x0 : -40000 ≤ s.1
  x1 : s.1 ≤ 40000
  y0 : -40000 ≤ s.2
  y1 : s.2 ≤ 40000
def mnP (a b : Pt) : Pt := (a.1 - b.1, a.2 - b.2)
theorem SpB.diff {a b : Pt} (ha : SpB a) (hb : SpB b) : SpD (mnP a b) := by
  have := ha.x0; have := ha.x1; have := ha.y0; have := ha.y1
  have := hb.x0; have := hb.x1; have := hb.y0; have := hb.y1
  exact ⟨by simp only [mnP]; omega, by simp only [mnP]; omega, by simp only [mnP]; omega, by simp only [mnP]; omega⟩
def crP (a b : Pt) : Int := a.1 * b.2 - a.2 * b.1
def dotP (a b : Pt) : Int := a.1 * b.1 + a.2 * b.2
def sgI (n : Int) : Int := if n < 0 then -1 else if 0 < n then 1 else 0

theorem minus_any (a b : Pt) (w : World) (ha : SpB a) (hb : SpB b) :
    Calls Tryz.prog 101 #[ptV a, ptV b] w fun e w' => e = .returned (ptV (mnP a b)) ∧ Below w.heap.size w w' := by
  obtain ⟨ax, ay⟩ := a
  obtain ⟨bx, by_⟩ := b
  have a1 := ha.x0; have a2 := ha.x1; have a3 := ha.y0; have a4 := ha.y1
  have b1 := hb.x0; have b2 := hb.x1; have b3 := hb.y0; have b4 := hb.y1
  unfold ptV mnP
  simp only at a1 a2 a3 a4 b1 b2 b3 b4 ⊢
  have w1 : IntKind.i64.wrap (ax - bx) = ax - bx := by rw [IntKind.wrap_i64]; omega
  have w2 : IntKind.i64.wrap (ay - by_) = ay - by_ := by rw [IntKind.wrap_i64]; omega
  clear ha hb
  go_enter Tryz.func101, Tryz.ntmps101
  go_wp2_with (fail)
  have HW := Lib.hid (below3 w (.cells #[.int .i64 ax, .int .i64 ay] 37) (.cells #[.int .i64 bx, .int .i64 by_] 37) (.cells #[.int .i64 (ax - bx), .int .i64 (ay - by_)] 37))
  have hb := heap_new ((w.alloc (.cells #[.int .i64 ax, .int .i64 ay] 37)).alloc (.cells #[.int .i64 bx, .int .i64 by_] 37)) (.cells #[.int .i64 (ax - bx), .int .i64 (ay - by_)] 37)
  rw [World.size_alloc, World.size_alloc] at hb
  have r0 := cell_of_blk (j := 0) hb rfl
  have r1 := cell_of_blk (j := 1) hb rfl
  exact bodyPost_ret (v := .agg #[.int .i64 (ax - bx), .int .i64 (ay - by_)]) (by simp [results, Tryz.results101, go_sem, r0, r1]) rfl ⟨rfl, HW.out⟩
theorem cross_any (a b : Pt) (w : World) (ha : SpD a) (hb : SpD b) :
    Calls Tryz.prog 140 #[ptV a, ptV b] w fun e w' => e = .returned (.int .i64 (crP a b)) ∧ Below w.heap.size w w' := by
  obtain ⟨ax, ay⟩ := a
  obtain ⟨bx, by_⟩ := b
  have a1 := ha.x0; have a2 := ha.x1; have a3 := ha.y0; have a4 := ha.y1
  have b1 := hb.x0; have b2 := hb.x1; have b3 := hb.y0; have b4 := hb.y1
  unfold ptV crP
  simp only at a1 a2 a3 a4 b1 b2 b3 b4 ⊢
  have p1 := prod_le (a := ax) (b := by_) (A := 40000) (B := 40000) (by omega) (by omega) (by omega) (by omega) (by omega) (by omega)
  have p2 := prod_le (a := ay) (b := bx) (A := 40000) (B := 40000) (by omega) (by omega) (by omega) (by omega) (by omega) (by omega)
  have w1 : IntKind.i64.wrap (ax * by_) = ax * by_ := by rw [IntKind.wrap_i64]; omega
  have w2 : IntKind.i64.wrap (ay * bx) = ay * bx := by rw [IntKind.wrap_i64]; omega
  have w3 : IntKind.i64.wrap (ax * by_ - ay * bx) = ax * by_ - ay * bx := by rw [IntKind.wrap_i64]; omega
  clear ha hb
  go_enter Tryz.func140, Tryz.ntmps140
  go_wp2_with (fail)
  go_ret
  exact ⟨rfl, ((Below.refl _ _).alloc (Nat.le_refl _) _).alloc (by simp) _⟩
theorem dot_any (a b : Pt) (w : World) (ha : SpD a) (hb : SpD b) :
    Calls Tryz.prog 100 #[ptV a, ptV b] w fun e w' => e = .returned (.int .i64 (dotP a b)) ∧ Below w.heap.size w w' := by
  obtain ⟨ax, ay⟩ := a
  obtain ⟨bx, by_⟩ := b
  have a1 := ha.x0; have a2 := ha.x1; have a3 := ha.y0; have a4 := ha.y1
  have b1 := hb.x0; have b2 := hb.x1; have b3 := hb.y0; have b4 := hb.y1
  unfold ptV dotP
  simp only at a1 a2 a3 a4 b1 b2 b3 b4 ⊢
  have p1 := prod_le (a := ax) (b := bx) (A := 40000) (B := 40000) (by omega) (by omega) (by omega) (by omega) (by omega) (by omega)
  have p2 := prod_le (a := ay) (b := by_) (A := 40000) (B := 40000) (by omega) (by omega) (by omega) (by omega) (by omega) (by omega)
  have w1 : IntKind.i64.wrap (ax * bx) = ax * bx := by rw [IntKind.wrap_i64]; omega
  have w2 : IntKind.i64.wrap (ay * by_) = ay * by_ := by rw [IntKind.wrap_i64]; omega
  have w3 : IntKind.i64.wrap (ax * bx + ay * by_) = ax * bx + ay * by_ := by rw [IntKind.wrap_i64]; omega
  clear ha hb
  go_enter Tryz.func100, Tryz.ntmps100
  go_wp2_with (fail)
  go_ret
  exact ⟨rfl, ((Below.refl _ _).alloc (Nat.le_refl _) _).alloc (by simp) _⟩
theorem sign_any (n : Int) (w : World) : Calls Tryz.prog 139 #[.int .i64 n] w fun e w' => e = .returned (.int .i64 (sgI n)) ∧ w = w' := by
  unfold sgI
  by_cases h1 : n < 0
  · rw [if_pos h1]
    go_enter Tryz.func139, Tryz.ntmps139
    go_wp2_with (fail)
    go_ret
    exact ⟨rfl, rfl⟩
  · rw [if_neg h1]
    by_cases h2 : 0 < n
    · rw [if_pos h2]
      go_enter Tryz.func139, Tryz.ntmps139
      go_wp2_with (fail)
      go_ret
      exact ⟨rfl, rfl⟩
    · rw [if_neg h2]
      go_enter Tryz.func139, Tryz.ntmps139
      go_wp2_with (fail)
      go_ret
      exact ⟨rfl, rfl⟩
theorem cross_sd (a b s : Pt) : crP (mnP b a) (mnP s a) = sd a b s := rfl

set_option maxRecDepth 100000 in
set_option maxHeartbeats 2000000 in
theorem rside_any (a b s : Pt) (w : World) (ha : SpB a) (hb : SpB b) (hs : SpB s) :
    Calls Tryz.prog 99 #[ptV a, ptV b, ptV s] w fun e w' => e = .returned (.int .i64 (sgI (sd a b s))) ∧ Below w.heap.size w w' := by
  have HM1 := Lib.hid (fun V => minus_any b a V hb ha)
  have HM2 := Lib.hid (fun V => minus_any s a V hs ha)
  have HCR := Lib.hid (fun V => cross_any (mnP b a) (mnP s a) V (hb.diff ha) (hs.diff ha))
  rw [cross_sd] at HCR
  obtain ⟨d, ed⟩ : ∃ d, d = sd a b s := ⟨_, rfl⟩
  rw [← ed] at HCR ⊢
  have HSG := Lib.hid (fun V => sign_any d V)
  obtain ⟨r, er⟩ : ∃ r, r = sgI d := ⟨_, rfl⟩
  rw [← er] at HSG ⊢
  obtain ⟨u, eu⟩ : ∃ u, u = mnP b a := ⟨_, rfl⟩
  obtain ⟨v, ev⟩ : ∃ u, u = mnP s a := ⟨_, rfl⟩
  rw [← eu] at HM1 HCR
  rw [← ev] at HM2 HCR
  have HBX := Lib.hid (bx3.new w a b s)
  have HBW := Lib.hid (below3 w (.cells #[.int .i64 a.1, .int .i64 a.2] 37) (.cells #[.int .i64 b.1, .int .i64 b.2] 37) (.cells #[.int .i64 s.1, .int .i64 s.2] 37))
  clear ed er eu ev ha hb hs
  obtain ⟨ax, ay⟩ := a
  obtain ⟨bx, by_⟩ := b
  obtain ⟨sx, sy⟩ := s
  obtain ⟨ux, uy⟩ := u
  obtain ⟨vx, vy⟩ := v
  unfold ptV at HM1 HM2 HCR ⊢
  simp only at HM1 HM2 HCR HBX HBW ⊢
  go_enter Tryz.func99, Tryz.ntmps99
  go_upto_region 1 with (fail)
  generalize hW : ((w.alloc (.cells #[.int .i64 ax, .int .i64 ay] 37)).alloc (.cells #[.int .i64 bx, .int .i64 by_] 37)).alloc (.cells #[.int .i64 sx, .int .i64 sy] 37) = W
  have hWs : W.heap.size = w.heap.size + 1 + 1 + 1 := by rw [← hW]; simp
  rw [hW] at HBX HBW
  clear hW
  have HQ := Lib.hid (fun (V : World) (hV : Below W.heap.size W V) => HBX.out.keep (by omega) hV)
  refine qRegion (by kernel_rfl) (by kernel_rfl) ?_
  repeat (first
    | (go_big_quiet_want; refine qVal (fun V hV => (by (obtain ⟨q0, q1, q2, q3, q4, q5⟩ := HQ.out V hV; go_simp; try rfl))) ?_; simp only [Act.put, List.setIfInBounds_toArray, List.set_cons_zero, List.set_cons_succ]; go_big_quiet_on)
    | (go_big_quiet_want
       refine qCall (fun V hV => (by (go_simp; exact ⟨rfl, rfl⟩))) (fun V hV => (by first
         | with_reducible exact (HM1.out V).mono (fun e w' h => ⟨h.1, hV.trans (h.2.mono hV.size)⟩)
         | with_reducible exact (HM2.out V).mono (fun e w' h => ⟨h.1, hV.trans (h.2.mono hV.size)⟩)
         | with_reducible exact (HCR.out V).mono (fun e w' h => ⟨h.1, hV.trans (h.2.mono hV.size)⟩)
         | with_reducible exact (HSG.out V).mono (fun e w' h => ⟨h.1, h.2 ▸ hV⟩))) ?_
       simp only [Act.put, List.setIfInBounds_toArray, List.set_cons_zero, List.set_cons_succ]; go_big_quiet_on)
    | go_big_quiet_skip)
  refine wpQuiet_nil ?_
  intro w9 hb9
  have HB9 := Lib.hid (HBW.out.trans (hb9.mono (by omega)))
  clear hb9
  go_wp2_with (fail)
  go_ret
  exact ⟨rfl, HB9.out⟩
end Go.Proofs.YthplhibdapjjgaaGreatDoor
