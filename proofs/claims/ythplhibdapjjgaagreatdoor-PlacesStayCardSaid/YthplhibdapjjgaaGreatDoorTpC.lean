/- place.far, place.side, place.Length by their contracts. -/
import Derived.Test.YthplhibdapjjgaaGreatDoorTpB
import Derived.Test.YthplhibdapjjgaaGreatDoorMgC
import Derived.Test.YthplhibdapjjgaaGreatDoorFxE
import Derived.Test.YthplhibdapjjgaaGreatDoorVmB
import Derived.Deep.RegionHeld3
import Derived.Deep.DeepCutAuto
namespace Go.Proofs.YthplhibdapjjgaaGreatDoor
open Go.RowKit

/-- Bounds of a fix of a track: x within 10000, y within 100. -/
structure NarF (x : Fx) : Prop where
  x0 : -10000 ≤ x.2.1
  x1 : x.2.1 ≤ 10000
  y0 : -100 ≤ x.2.2.1
  y1 : x.2.2.1 ≤ 100
theorem prod_le {a b A B : Int} (h1 : -A ≤ a) (h2 : a ≤ A) (h3 : -B ≤ b) (h4 : b ≤ B) (hA : 0 ≤ A) (hB : 0 ≤ B) : -(A * B) ≤ a * b ∧ a * b ≤ A * B := by
  have hn : (a * b).natAbs ≤ (A * B).natAbs := by
    rw [Int.natAbs_mul, Int.natAbs_mul]
    exact Nat.mul_le_mul (by omega) (by omega)
  have := Int.mul_nonneg hA hB
  omega

set_option maxHeartbeats 2000000 in
theorem side_any (a b s : Fx) (w : World) (ha : NarF a) (hb : NarF b) (hs : NarF s) :
    Calls Tryz.prog 67 #[.agg #[.int .i64 a.2.1, .int .i64 a.2.2.1], .agg #[.int .i64 b.2.1, .int .i64 b.2.2.1], .agg #[.int .i64 s.2.1, .int .i64 s.2.2.1]] w fun e w' => e = .returned (.int .i64 (crossW a b s)) ∧ Below w.heap.size w w' := by
  obtain ⟨a0, ax, ay, ae⟩ := a
  obtain ⟨b0, bx, by_, be⟩ := b
  obtain ⟨s0, sx, sy, se⟩ := s
  have a1 := ha.x0; have a2 := ha.x1; have a3 := ha.y0; have a4 := ha.y1
  have b1 := hb.x0; have b2 := hb.x1; have b3 := hb.y0; have b4 := hb.y1
  have s1 := hs.x0; have s2 := hs.x1; have s3 := hs.y0; have s4 := hs.y1
  simp only at a1 a2 a3 a4 b1 b2 b3 b4 s1 s2 s3 s4 ⊢
  have w1 : IntKind.i64.wrap (bx - ax) = bx - ax := by rw [IntKind.wrap_i64]; omega
  have w2 : IntKind.i64.wrap (sy - ay) = sy - ay := by rw [IntKind.wrap_i64]; omega
  have w3 : IntKind.i64.wrap (by_ - ay) = by_ - ay := by rw [IntKind.wrap_i64]; omega
  have w4 : IntKind.i64.wrap (sx - ax) = sx - ax := by rw [IntKind.wrap_i64]; omega
  have p1 := prod_le (a := bx - ax) (b := sy - ay) (A := 20000) (B := 200) (by omega) (by omega) (by omega) (by omega) (by omega) (by omega)
  have p2 := prod_le (a := by_ - ay) (b := sx - ax) (A := 200) (B := 20000) (by omega) (by omega) (by omega) (by omega) (by omega) (by omega)
  obtain ⟨u, eu⟩ : ∃ u, u = (bx - ax) * (sy - ay) := ⟨_, rfl⟩
  obtain ⟨v, ev⟩ : ∃ v, v = (by_ - ay) * (sx - ax) := ⟨_, rfl⟩
  rw [← eu] at p1
  rw [← ev] at p2
  have w5 : IntKind.i64.wrap ((bx - ax) * (sy - ay)) = u := by rw [← eu, IntKind.wrap_i64]; omega
  have w6 : IntKind.i64.wrap ((by_ - ay) * (sx - ax)) = v := by rw [← ev, IntKind.wrap_i64]; omega
  have w7 : IntKind.i64.wrap (u - v) = u - v := by rw [IntKind.wrap_i64]; omega
  have HE := Lib.hid (show crossW (a0, ax, ay, ae) (b0, bx, by_, be) (s0, sx, sy, se) = u - v by unfold crossW; rw [eu, ev])
  rw [HE.out]
  clear eu ev ha hb hs
  go_enter Tryz.func67, Tryz.ntmps67
  go_wp2_with (fail)
  go_ret
  exact ⟨rfl, (((Below.refl _ _).alloc (Nat.le_refl _) _).alloc (by simp) _).alloc (by simp; omega) _⟩

theorem NarF.sq {a b : Fx} (ha : NarF a) (hb : NarF b) (w : World) : Calls Tryz.prog 48 #[.agg #[.int .i64 a.2.1, .int .i64 a.2.2.1], .agg #[.int .i64 b.2.1, .int .i64 b.2.2.1]] w fun e w' => e = .returned (.int .i64 (sq2 a.2.1 a.2.2.1 b.2.1 b.2.2.1)) ∧ Below w.heap.size w w' := by
  have := ha.y0; have := ha.y1; have := hb.y0; have := hb.y1
  exact square_any _ _ _ _ w ⟨ha.x0, ha.x1⟩ ⟨by omega, by omega⟩ ⟨hb.x0, hb.x1⟩ ⟨by omega, by omega⟩
theorem sq2_nar {a b : Fx} (ha : NarF a) (hb : NarF b) : 0 ≤ sq2 a.2.1 a.2.2.1 b.2.1 b.2.2.1 ∧ sq2 a.2.1 a.2.2.1 b.2.1 b.2.2.1 ≤ 400040000 := by
  have := ha.x0; have := ha.x1; have := hb.x0; have := hb.x1
  have := ha.y0; have := ha.y1; have := hb.y0; have := hb.y1
  have s1 := sqr_le (a := a.2.1 - b.2.1) (B := 20000) (by omega) (by omega)
  have s2 := sqr_le (a := a.2.2.1 - b.2.2.1) (B := 200) (by omega) (by omega)
  unfold sq2
  omega
theorem along_nar {a b s : Fx} (ha : NarF a) (hb : NarF b) (hs : NarF s) : -400040000 ≤ alongW a b s ∧ alongW a b s ≤ 400040000 := by
  have := ha.x0; have := ha.x1; have := hb.x0; have := hb.x1; have := hs.x0; have := hs.x1
  have := ha.y0; have := ha.y1; have := hb.y0; have := hb.y1; have := hs.y0; have := hs.y1
  have p1 := prod_le (a := s.2.1 - a.2.1) (b := b.2.1 - a.2.1) (A := 20000) (B := 20000) (by omega) (by omega) (by omega) (by omega) (by omega) (by omega)
  have p2 := prod_le (a := s.2.2.1 - a.2.2.1) (b := b.2.2.1 - a.2.2.1) (A := 200) (B := 200) (by omega) (by omega) (by omega) (by omega) (by omega) (by omega)
  unfold alongW
  omega
theorem cross_nar {a b s : Fx} (ha : NarF a) (hb : NarF b) (hs : NarF s) : -8000000 ≤ crossW a b s ∧ crossW a b s ≤ 8000000 := by
  have := ha.x0; have := ha.x1; have := hb.x0; have := hb.x1; have := hs.x0; have := hs.x1
  have := ha.y0; have := ha.y1; have := hb.y0; have := hb.y1; have := hs.y0; have := hs.y1
  have p1 := prod_le (a := b.2.1 - a.2.1) (b := s.2.2.1 - a.2.2.1) (A := 20000) (B := 200) (by omega) (by omega) (by omega) (by omega) (by omega) (by omega)
  have p2 := prod_le (a := b.2.2.1 - a.2.2.1) (b := s.2.1 - a.2.1) (A := 200) (B := 20000) (by omega) (by omega) (by omega) (by omega) (by omega) (by omega)
  unfold crossW
  omega

set_option maxRecDepth 100000 in
set_option maxHeartbeats 8000000 in
theorem far_any (a b s : Fx) (w : World) (ha : NarF a) (hb : NarF b) (hs : NarF s) :
    Calls Tryz.prog 43 #[.agg #[.int .i64 a.2.1, .int .i64 a.2.2.1], .agg #[.int .i64 b.2.1, .int .i64 b.2.2.1], .agg #[.int .i64 s.2.1, .int .i64 s.2.2.1]] w fun e w' => (∃ p q : Nat, e = .returned (.agg #[.int .i64 (p : Int), .int .i64 (q : Int)]) ∧ farIs a b s p q ∧ 1 ≤ q ∧ p ≤ 100000000000000 ∧ q ≤ 1000000000) ∧ Below w.heap.size w w' := by
  have HSQ := Lib.hid (fun V => And.intro (ha.sq hb V) (And.intro (ha.sq hs V) (hb.sq hs V)))
  have HSD := Lib.hid (fun V => side_any a b s V ha hb hs)
  have q1 := sq2_nar ha hb
  have q2 := sq2_nar ha hs
  have q3 := sq2_nar hb hs
  have q4 := along_nar ha hb hs
  have q5 := cross_nar ha hb hs
  have HFI := Lib.hid (show ∀ p q : Int, (alongW a b s ≤ 0 ∧ p = sq2 a.2.1 a.2.2.1 s.2.1 s.2.2.1 ∧ q = 1) ∨ (¬ alongW a b s ≤ 0 ∧ sq2 a.2.1 a.2.2.1 b.2.1 b.2.2.1 ≤ alongW a b s ∧ p = sq2 b.2.1 b.2.2.1 s.2.1 s.2.2.1 ∧ q = 1) ∨
      (¬ alongW a b s ≤ 0 ∧ ¬ sq2 a.2.1 a.2.2.1 b.2.1 b.2.2.1 ≤ alongW a b s ∧ ∃ g, 1 ≤ g ∧ p * g = crossW a b s * crossW a b s ∧ q * g = sq2 a.2.1 a.2.2.1 b.2.1 b.2.2.1 ∧ 1 ≤ q) → farIs a b s p q by
    intro p q h
    have el : longW a b = sq2 a.2.1 a.2.2.1 b.2.1 b.2.2.1 := by rw [sq2_symm]; rfl
    unfold farIs
    rw [el]
    rcases h with ⟨h1, h2⟩ | ⟨h1, h2, h3⟩ | ⟨h1, h2, h3⟩
    · rw [if_pos h1]; exact h2
    · rw [if_neg h1, if_pos h2]; exact h3
    · rw [if_neg h1, if_neg h2]; exact h3)
  have HAL := Lib.hid (show alongW a b s = (s.2.1 - a.2.1) * (b.2.1 - a.2.1) + (s.2.2.1 - a.2.2.1) * (b.2.2.1 - a.2.2.1) from rfl)
  have b1 := ha.x0; have b2 := ha.x1; have b3 := ha.y0; have b4 := ha.y1
  have b5 := hb.x0; have b6 := hb.x1; have b7 := hb.y0; have b8 := hb.y1
  have b9 := hs.x0; have b10 := hs.x1; have b11 := hs.y0; have b12 := hs.y1
  obtain ⟨a0, ax, ay, ae⟩ := a
  obtain ⟨b0, bx, by_, be⟩ := b
  obtain ⟨s0, sx, sy, se⟩ := s
  simp only at HSQ HSD q1 q2 q3 HFI HAL b1 b2 b3 b4 b5 b6 b7 b8 b9 b10 b11 b12 ⊢
  obtain ⟨L, eL⟩ : ∃ L, L = sq2 ax ay bx by_ := ⟨_, rfl⟩
  obtain ⟨P, eP⟩ : ∃ P, P = sq2 ax ay sx sy := ⟨_, rfl⟩
  obtain ⟨Q, eQ⟩ : ∃ Q, Q = sq2 bx by_ sx sy := ⟨_, rfl⟩
  rw [← eL, ← eP, ← eQ] at HSQ HFI
  rw [← eL] at q1
  rw [← eP] at q2
  rw [← eQ] at q3
  obtain ⟨al, eal⟩ : ∃ al, al = alongW (a0, ax, ay, ae) (b0, bx, by_, be) (s0, sx, sy, se) := ⟨_, rfl⟩
  rw [← eal] at HFI HAL q4
  obtain ⟨cr, ecr⟩ : ∃ cr, cr = crossW (a0, ax, ay, ae) (b0, bx, by_, be) (s0, sx, sy, se) := ⟨_, rfl⟩
  rw [← ecr] at HFI HSD q5
  have p1 := prod_le (a := sx - ax) (b := bx - ax) (A := 20000) (B := 20000) (by omega) (by omega) (by omega) (by omega) (by omega) (by omega)
  have p2 := prod_le (a := sy - ay) (b := by_ - ay) (A := 200) (B := 200) (by omega) (by omega) (by omega) (by omega) (by omega) (by omega)
  have w1 : IntKind.i64.wrap (sx - ax) = sx - ax := by rw [IntKind.wrap_i64]; omega
  have w2 : IntKind.i64.wrap (bx - ax) = bx - ax := by rw [IntKind.wrap_i64]; omega
  have w3 : IntKind.i64.wrap (sy - ay) = sy - ay := by rw [IntKind.wrap_i64]; omega
  have w4 : IntKind.i64.wrap (by_ - ay) = by_ - ay := by rw [IntKind.wrap_i64]; omega
  obtain ⟨u, eu⟩ : ∃ u, u = (sx - ax) * (bx - ax) := ⟨_, rfl⟩
  obtain ⟨v, ev⟩ : ∃ v, v = (sy - ay) * (by_ - ay) := ⟨_, rfl⟩
  rw [← eu] at p1 HAL
  rw [← ev] at p2 HAL
  have w5 : IntKind.i64.wrap ((sx - ax) * (bx - ax)) = u := by rw [← eu, IntKind.wrap_i64]; omega
  have w6 : IntKind.i64.wrap ((sy - ay) * (by_ - ay)) = v := by rw [← ev, IntKind.wrap_i64]; omega
  have w7 : IntKind.i64.wrap (u + v) = al := by rw [HAL.out, IntKind.wrap_i64]; omega
  have hcc := sqr_le (a := cr) (B := 8000000) (by omega) (by omega)
  obtain ⟨cc, ecc⟩ : ∃ cc, cc = cr * cr := ⟨_, rfl⟩
  rw [← ecc] at HFI hcc
  have w8 : IntKind.i64.wrap (cr * cr) = cc := by rw [← ecc, IntKind.wrap_i64]; omega
  clear eL eP eQ eal ecr eu ev ecc ha hb hs HAL
  go_enter Tryz.func43, Tryz.ntmps43
  go_wp2_with (fail)
  generalize hX : (((w.alloc (.cells #[.int .i64 ax, .int .i64 ay] 37)).alloc (.cells #[.int .i64 bx, .int .i64 by_] 37)).alloc (.cells #[.int .i64 sx, .int .i64 sy] 37)).alloc (.cells #[.int .i64 0, .int .i64 0] 78) = X
  have hXs : X.heap.size = w.heap.size + 1 + 1 + 1 + 1 := by rw [← hX]; simp
  have hBX : Below w.heap.size w X := by rw [← hX]; exact ((((Below.refl _ _).alloc (Nat.le_refl _) _).alloc (by simp) _).alloc (by simp; omega) _).alloc (by simp; omega) _
  have x0 : X.heap[w.heap.size]? = some (.cells #[.int .i64 ax, .int .i64 ay] 37) := by
    rw [← hX, Below.heap_alloc _ _ _ (by simp; omega), Below.heap_alloc _ _ _ (by simp; omega), Below.heap_alloc _ _ _ (by simp)]; exact heap_new w _
  have x1 : X.heap[w.heap.size + 1]? = some (.cells #[.int .i64 bx, .int .i64 by_] 37) := by
    rw [← hX, Below.heap_alloc _ _ _ (by simp), Below.heap_alloc _ _ _ (by simp)]
    have := heap_new (w.alloc (.cells #[.int .i64 ax, .int .i64 ay] 37)) (.cells #[.int .i64 bx, .int .i64 by_] 37); simpa using this
  have x2 : X.heap[w.heap.size + 1 + 1]? = some (.cells #[.int .i64 sx, .int .i64 sy] 37) := by
    rw [← hX, Below.heap_alloc _ _ _ (by simp)]
    have := heap_new ((w.alloc (.cells #[.int .i64 ax, .int .i64 ay] 37)).alloc (.cells #[.int .i64 bx, .int .i64 by_] 37)) (.cells #[.int .i64 sx, .int .i64 sy] 37); simpa using this
  have x3 : X.heap[w.heap.size + 1 + 1 + 1]? = some (.cells #[.int .i64 0, .int .i64 0] 78) := by
    rw [← hX]
    have := heap_new (((w.alloc (.cells #[.int .i64 ax, .int .i64 ay] 37)).alloc (.cells #[.int .i64 bx, .int .i64 by_] 37)).alloc (.cells #[.int .i64 sx, .int .i64 sy] 37)) (.cells #[.int .i64 0, .int .i64 0] 78); simpa using this
  have HX := Lib.hid (And.intro x0 (And.intro x1 (And.intro x2 x3)))
  have HBX := Lib.hid hBX
  clear hX hBX x0 x1 x2 x3
  have HK := Lib.hid (fun (V : World) (hV : Below X.heap.size X V) => show (V.cell? ⟨w.heap.size, 0, none⟩ = some (.int .i64 ax) ∧ V.cell? ⟨w.heap.size, 1, none⟩ = some (.int .i64 ay) ∧ V.cell? ⟨w.heap.size + 1, 0, none⟩ = some (.int .i64 bx) ∧ V.cell? ⟨w.heap.size + 1, 1, none⟩ = some (.int .i64 by_) ∧
      V.cell? ⟨w.heap.size + 1 + 1, 0, none⟩ = some (.int .i64 sx) ∧ V.cell? ⟨w.heap.size + 1 + 1, 1, none⟩ = some (.int .i64 sy)) ∧ V.heap[w.heap.size + 1 + 1 + 1]? = some (.cells #[.int .i64 0, .int .i64 0] 78) ∧ X.heap.size ≤ V.heap.size ∧ Below w.heap.size w V from by
    have k0 := (hV.block w.heap.size (by omega)).trans HX.out.1
    have k1 := (hV.block (w.heap.size + 1) (by omega)).trans HX.out.2.1
    have k2 := (hV.block (w.heap.size + 1 + 1) (by omega)).trans HX.out.2.2.1
    have k3 := (hV.block (w.heap.size + 1 + 1 + 1) (by omega)).trans HX.out.2.2.2
    exact ⟨⟨cell_of_blk k0 rfl, cell_of_blk k0 rfl, cell_of_blk k1 rfl, cell_of_blk k1 rfl, cell_of_blk k2 rfl, cell_of_blk k2 rfl⟩, k3, hV.size, HBX.out.trans (hV.mono (by omega))⟩)
  have HST := Lib.hid (fun (V : World) (hV : Below X.heap.size X V) (p q : Int) => show ((V.setCell ⟨w.heap.size + 1 + 1 + 1, 0, none⟩ (.int .i64 p)).setCell ⟨w.heap.size + 1 + 1 + 1, 1, none⟩ (.int .i64 q)).cell? ⟨w.heap.size + 1 + 1 + 1, 0, none⟩ = some (.int .i64 p) ∧
      ((V.setCell ⟨w.heap.size + 1 + 1 + 1, 0, none⟩ (.int .i64 p)).setCell ⟨w.heap.size + 1 + 1 + 1, 1, none⟩ (.int .i64 q)).cell? ⟨w.heap.size + 1 + 1 + 1, 1, none⟩ = some (.int .i64 q) ∧ Below w.heap.size w ((V.setCell ⟨w.heap.size + 1 + 1 + 1, 0, none⟩ (.int .i64 p)).setCell ⟨w.heap.size + 1 + 1 + 1, 1, none⟩ (.int .i64 q)) from by
    obtain ⟨_, hk, _, hbw⟩ := HK.out V hV
    have h := heap_setCell_same _ _ 1 _ _ (.int .i64 q) (heap_setCell_same _ _ 0 _ _ (.int .i64 p) hk)
    exact ⟨cell_of_blk h rfl, cell_of_blk h rfl, (hbw.setCell (p := ⟨w.heap.size + 1 + 1 + 1, 0, none⟩) (by show w.heap.size ≤ w.heap.size + 1 + 1 + 1; omega) _).setCell (p := ⟨w.heap.size + 1 + 1 + 1, 1, none⟩) (by show w.heap.size ≤ w.heap.size + 1 + 1 + 1; omega) _⟩)
  have HFZ := Lib.hid (fun (V : World) (hV : Below X.heap.size X V) (j : Nat) => show V.frozen? ⟨w.heap.size + 1 + 1 + 1, j, none⟩ = false by simp [World.frozen?, (HK.out V hV).2.1])
  refine (HSQ.out X).1.mono ?_
  rintro e w1' ⟨rfl, hb1⟩
  obtain ⟨⟨c0, c1, c2, c3, c4, c5⟩, hk3, hsz1, _⟩ := HK.out w1' hb1
  have HB1 := Lib.hid hb1
  have g0 : w.heap.size < w1'.heap.size := by omega
  have g1 : w.heap.size + 1 < w1'.heap.size := by omega
  have g2 : w.heap.size + 1 + 1 < w1'.heap.size := by omega
  clear hb1 hk3
  by_cases k1 : al ≤ 0
  · go_wp2_with (fail)
    refine (HSQ.out w1').2.1.mono ?_
    rintro e w2' ⟨rfl, hb2⟩
    have hb := HB1.out.trans (hb2.mono hsz1)
    have n0 := cell_of_blk (j := 0) (HK.out w2' hb).2.1 rfl
    have n1 := cell_of_blk (j := 1) (HK.out w2' hb).2.1 rfl
    have f0 := HFZ.out w2' hb 0
    have f1 := HFZ.out w2' hb 1
    have hg3 : w.heap.size + 1 + 1 + 1 < w2'.heap.size := by have := (HK.out w2' hb).2.2.1; omega
    obtain ⟨r0, r1, hbf⟩ := HST.out w2' hb P 1
    have HBF := Lib.hid hbf
    have R := Lib.hid (And.intro r0 r1)
    obtain ⟨Pn, rfl⟩ : ∃ Pn : Nat, P = (Pn : Int) := ⟨P.toNat, by omega⟩
    have HF := Lib.hid (HFI.out (Pn : Int) 1 (.inl ⟨k1, rfl, rfl⟩))
    clear hb2 hb hbf r0 r1
    go_wp2_with (fail)
    exact bodyPost_ret (v := .agg #[.int .i64 (Pn : Int), .int .i64 1]) (by simp [results, Tryz.results43, go_sem, R.out.1, R.out.2]) rfl ⟨⟨Pn, 1, rfl, HF.out, by omega, by omega, by omega⟩, HBF.out⟩
  · by_cases k2 : L ≤ al
    · go_wp2_with (fail)
      refine (HSQ.out w1').2.2.mono ?_
      rintro e w2' ⟨rfl, hb2⟩
      have hb := HB1.out.trans (hb2.mono hsz1)
      have n0 := cell_of_blk (j := 0) (HK.out w2' hb).2.1 rfl
      have n1 := cell_of_blk (j := 1) (HK.out w2' hb).2.1 rfl
      have f0 := HFZ.out w2' hb 0
      have f1 := HFZ.out w2' hb 1
      have hg3 : w.heap.size + 1 + 1 + 1 < w2'.heap.size := by have := (HK.out w2' hb).2.2.1; omega
      obtain ⟨r0, r1, hbf⟩ := HST.out w2' hb Q 1
      have HBF := Lib.hid hbf
      have R := Lib.hid (And.intro r0 r1)
      obtain ⟨Qn, rfl⟩ : ∃ Qn : Nat, Q = (Qn : Int) := ⟨Q.toNat, by omega⟩
      have HF := Lib.hid (HFI.out (Qn : Int) 1 (.inr (.inl ⟨k1, k2, rfl, rfl⟩)))
      clear hb2 hb hbf r0 r1
      go_wp2_with (fail)
      exact bodyPost_ret (v := .agg #[.int .i64 (Qn : Int), .int .i64 1]) (by simp [results, Tryz.results43, go_sem, R.out.1, R.out.2]) rfl ⟨⟨Qn, 1, rfl, HF.out, by omega, by omega, by omega⟩, HBF.out⟩
    · go_wp2_with (fail)
      refine (HSD.out w1').mono ?_
      rintro e w2' ⟨rfl, hb2⟩
      have hb := HB1.out.trans (hb2.mono hsz1)
      have HB2 := Lib.hid hb
      have hs2 := (HK.out w2' hb).2.2.1
      obtain ⟨Ln, rfl⟩ : ∃ Ln : Nat, L = (Ln : Int) := ⟨L.toNat, by omega⟩
      clear hb2 hb
      go_wp2_with (fail)
      refine (fraction_any cc Ln w2' (by omega) (by omega) (by omega) (by omega)).mono ?_
      rintro e w3' ⟨⟨p, q, g, rfl, hp, hq, hg1, hq1⟩, hb3⟩
      have hb := HB2.out.trans (hb3.mono hs2)
      have n0 := cell_of_blk (j := 0) (HK.out w3' hb).2.1 rfl
      have n1 := cell_of_blk (j := 1) (HK.out w3' hb).2.1 rfl
      have f0 := HFZ.out w3' hb 0
      have f1 := HFZ.out w3' hb 1
      have hg3 : w.heap.size + 1 + 1 + 1 < w3'.heap.size := by have := (HK.out w3' hb).2.2.1; omega
      obtain ⟨r0, r1, hbf⟩ := HST.out w3' hb p q
      have HBF := Lib.hid hbf
      have R := Lib.hid (And.intro r0 r1)
      have hp0 : 0 ≤ p := by
        rcases Int.lt_or_le p 0 with h | h
        · have := Int.mul_le_mul_of_nonneg_right (show p ≤ -1 by omega) (show (0 : Int) ≤ g by omega)
          omega
        · exact h
      have hpc : p ≤ cc := by
        have : p * 1 ≤ p * g := Int.mul_le_mul_of_nonneg_left hg1 hp0
        omega
      have hqc : q ≤ (Ln : Int) := by
        have : q * 1 ≤ q * g := Int.mul_le_mul_of_nonneg_left hg1 (by omega)
        omega
      have HF := Lib.hid (HFI.out p q (.inr (.inr ⟨k1, k2, g, hg1, hp, hq, hq1⟩)))
      obtain ⟨pn, rfl⟩ : ∃ pn : Nat, p = (pn : Int) := ⟨p.toNat, by omega⟩
      obtain ⟨qn, rfl⟩ : ∃ qn : Nat, q = (qn : Int) := ⟨q.toNat, by omega⟩
      clear hb3 hb hbf r0 r1 hp hq
      go_wp2_with (fail)
      exact bodyPost_ret (v := .agg #[.int .i64 (pn : Int), .int .i64 (qn : Int)]) (by simp [results, Tryz.results43, go_sem, R.out.1, R.out.2]) rfl ⟨⟨pn, qn, rfl, HF.out, by omega, by omega, by omega⟩, HBF.out⟩
end Go.Proofs.YthplhibdapjjgaaGreatDoor
