/- RightTrack of the stream, its result as a function of the list. Printed by gen_GnT.py out of XFxB. -/
import Derived.Test.YthplhibdapjjgaaGreatDoorGnA
import Derived.Deep.RegionHeld3
import Derived.Deep.DeepCutAuto
import Derived.Deep.RegionLawGrows
namespace Go.Proofs.YthplhibdapjjgaaGreatDoor
open Go.RowKit

/-- A track in the making: draws, time, spot, fixes. -/
structure TrS where
  k : Nat
  at_ : Int
  X : Int
  Y : Int
  l : List Fx
def trX (xs : List Int) (k : Nat) (pX : Int) : Int := if flV xs (k + 1) 6 = true then plV xs (k + 2) else pX + rgV xs (k + 2)
def trY (xs : List Int) (k : Nat) (pY : Int) : Int := if flV xs (k + 1) 6 = true then plV xs (k + 3) else pY + rgV xs (k + 3)
def trE (xs : List Int) (k : Nat) : Int := erPicks.getD (nextN xs (k + 4) 5) 0
def trZ (xs : List Int) (k : Nat) (X : Int) : Int := if flV xs (k + 5) 10 = true then xxPicks.getD (nextN xs (k + 6) 3) 0 else X
def trJ (xs : List Int) (k : Nat) : Nat := if flV xs (k + 5) 10 = true then k + 7 else k + 6
def trN (xs : List Int) (s : TrS) : TrS :=
  ⟨trJ xs s.k, s.at_ + tmPicks.getD (nextN xs s.k 5) 0, trX xs s.k s.X, trY xs s.k s.Y, s.l ++ [(s.at_ + tmPicks.getD (nextN xs s.k 5) 0, trZ xs s.k (trX xs s.k s.X), trY xs s.k s.Y, trE xs s.k)]⟩
def trA (xs : List Int) (k : Nat) : Nat → TrS
  | 0 => ⟨k + 3, 0, plV xs k, plV xs (k + 1), []⟩
  | j + 1 => trN xs (trA xs k j)
def trL (xs : List Int) (k m : Nat) : List Fx := (trA xs k (nextN xs (k + 2) (m + 1))).l
def trK (xs : List Int) (k m : Nat) : Nat := (trA xs k (nextN xs (k + 2) (m + 1))).k
set_option maxRecDepth 100000 in
set_option maxHeartbeats 8000000 in
theorem rightTrackX_any (w : World) (p k m : Nat) (xs : List Int) (hk : k < 100000) (hm : m ≤ 20) (hs : Strm w p xs k) :
    Calls Tryz.prog 5 #[.pointer (some ⟨p, 0, none⟩), .int .i64 (m : Int)] w fun e w' => ∃ (v : Value) (l : List Fx) (a : Int) (k' : Nat), (l = trL xs k m ∧ k' = trK xs k m) ∧ e = .returned v ∧ Trk l l.length a ∧ l.length ≤ m ∧ a ≤ 1000 * m ∧ w'.ownsRow w.heap.size 42 5 v l.length (recs fxC l) ∧ Strm w' p xs k' ∧ k' ≤ k + 1000 ∧ w.grownBy w' (some p) := by
  obtain ⟨i0, hi0, hz0, hz1, hz2⟩ := info_parts Tryz.infoFx
  have hplt := hs.lt
  have HS := Lib.hid hs
  clear hs
  go_enter Tryz.func5, Tryz.ntmps5
  go_wp2_with (fail)
  refine (placeX_any w p k xs (by omega) HS.out).mono ?_
  rintro e w1 ⟨X0, Y0, hXY0, rfl, hb0, hst1, hg1⟩
  have hz1' := hg1.size
  have HXY0 := Lib.hid hXY0
  clear hXY0
  have HST1 := Lib.hid hst1
  have HG1 := Lib.hid hg1
  clear hst1 hg1
  go_wp2_with (fail)
  have hN := nextN_lt xs (k + 2) (m + 1) (by omega)
  refine (range_nat _ p (k + 2) m xs (by omega) (by omega) (HST1.out.alloc _)).mono ?_
  obtain ⟨N, eN⟩ : ∃ N, N = nextN xs (k + 2) (m + 1) := ⟨_, rfl⟩
  rw [← eN] at hN ⊢
  rintro e w2 ⟨rfl, hst2, hg2⟩
  have hz2' := hg2.size
  simp only [World.size_alloc] at hz2'
  obtain ⟨gp, egp⟩ : ∃ gp, gp = w1.heap.size := ⟨_, rfl⟩
  have HT2 := Lib.hid (show TSt w w2 p gp xs (k + 3) X0 Y0 (-5) 20 from
    ⟨by rw [egp]; exact (hg2.block w1.heap.size (by simp) (by intro e; injection e with e; omega)).trans (heap_new w1 _), ⟨hb0.1, hb0.2.1⟩, ⟨hb0.2.2.1, hb0.2.2.2⟩, hst2, grown_trans HG1.out (grown_of_alloc hg2)⟩)
  have hpg : p < gp ∧ w.heap.size ≤ gp := by omega
  rw [← egp] at hz2'
  have HEN := Lib.hid eN
  clear hst2 hg2 eN
  go_wp2_with (fail)
  rw [← egp]
  clear egp
  go_loopw [5, 6, 14] (fun v a i wr => ∃ (j k' : Nat) (l : List Fx) (at_ pX pY : Int), j ≤ N ∧ i = .int .i64 (j : Int) ∧ a = .int .i64 at_ ∧ 0 ≤ at_ ∧ at_ ≤ 1000 * j ∧ Trk l j at_ ∧ wr.ownsRow (gp + 1) 42 5 v j (recs fxC l) ∧ TSt w wr p gp xs k' pX pY (-5 - 2 * j) (20 + 2 * j) ∧ k' ≤ k + 3 + 10 * j ∧ Hid (trA xs k j = ⟨k', at_, pX, pY, l⟩)) (fun _ _ i _ => N - (intOf i).toNat)
  case atStart => exact ⟨0, k + 3, [], 0, X0, Y0, Nat.zero_le _, rfl, rfl, Int.le_refl _, by simp, ⟨rfl, by simp, by simp⟩, World.ownsRow_nil _ _ _ _, HT2.out, by omega, Lib.hid (by rw [HXY0.out.1, HXY0.out.2]; rfl)⟩
  case round =>
    obtain ⟨j, k', l, at_, pX, pY, hj, rfl, rfl, hat0, hat1, htrk, hown, hts, hk', HTA⟩ := hrel
    have HTR := Lib.hid htrk
    have HOWN := Lib.hid hown
    have HTS := Lib.hid hts
    have hgplt := hts.lt
    by_cases hlt : j < N
    · have hlt' : (j : Int) < (N : Int) := by omega
      clear htrk hown hts
      go_wp2_with (fail)
      refine (pick_any _ p k' _ 5 5 xs tmPicks (by omega) rfl (by omega) (by omega) (HTS.out.strm.alloc _) (by omega) (Cells.new _ _ _ _ _ rfl)).mono ?_
      rintro e w3 ⟨rfl, hst3, hg3⟩
      have hd := tmPicks_range (nextN xs k' 5) (nextN_lt _ _ _ (by omega))
      obtain ⟨d, ed⟩ : ∃ d, d = tmPicks.getD (nextN xs k' 5) 0 := ⟨_, rfl⟩
      rw [← ed] at hd ⊢
      have HT3 := Lib.hid (HTS.out.step (grown_of_alloc hg3) hst3 hpg.1)
      have HO3 := Lib.hid (own_kept HOWN.out (grown_of_alloc hg3) (by omega))
      have hw1 : IntKind.i64.wrap (at_ + d) = at_ + d := by rw [IntKind.wrap_i64]; omega
      have HED := Lib.hid ed
      clear ed hst3 hg3
      go_wp2_with (fail)
      refine (flipX_any w3 p (k' + 1) xs 6 (by omega) (by omega) (by omega) HT3.out.strm).mono ?_
      rintro e w4 ⟨b, hb, rfl, hst4, hg4⟩
      have HT4 := Lib.hid (HT3.out.step hg4 hst4 hpg.1)
      have HO4 := Lib.hid (own_kept HO3.out hg4 (by omega))
      have hgp4 := HT4.out.lt
      have HBF := Lib.hid hb
      clear hst4 hg4 hb
      go_upto_if 22 with (fail)
      go_cut [] (fun wx => ∃ (X Y : Int), TSt w wx p gp xs (k' + 4) X Y (-5 - 2 * ((j : Int) + 1)) (20 + 2 * ((j : Int) + 1)) ∧ wx.ownsRow (gp + 1) 42 5 u5 j (recs fxC l) ∧ Hid (X = trX xs k' pX ∧ Y = trY xs k' pY))
      case first =>
        cases b with
        | true =>
          go_wp2_with (fail)
          refine (placeX_any w4 p (k' + 2) xs (by omega) HT4.out.strm).mono ?_
          rintro e w5 ⟨X, Y, hXY, rfl, hb5, hst5, hg5⟩
          have ht5 := HT4.out.step hg5 hst5 hpg.1
          have n0 := cell_of_blk (j := 0) ht5.blk rfl
          have n1 := cell_of_blk (j := 1) ht5.blk rfl
          have fr : ∀ j, w5.frozen? ⟨gp, j, none⟩ = false := by intro j; simp [World.frozen?, ht5.blk]
          have f0 := fr 0
          have f1 := fr 1
          have hgp5 := ht5.lt
          have HSET := Lib.hid (ht5.set (X := X) (Y := Y) (lo' := -5 - 2 * ((j : Int) + 1)) (hi' := 20 + 2 * ((j : Int) + 1)) hpg.1 hpg.2 (by omega) (by omega))
          have HO5 := Lib.hid (own_kept HO4.out hg5 (by omega))
          have HXY := Lib.hid (show X = trX xs k' pX ∧ Y = trY xs k' pY by
            unfold trX trY
            rw [← HBF.out]
            exact hXY)
          clear fr hst5 hg5 ht5 hXY
          go_wp2_with (fail)
          go_meet
          exact ⟨X, Y, HSET.out.1, own_kept HO5.out HSET.out.2 (by omega), HXY⟩
        | false =>
          have n0 := cell_of_blk (j := 0) HT4.out.blk rfl
          have n1 := cell_of_blk (j := 1) HT4.out.blk rfl
          have HSD := Lib.hid (show Strm w4.drew p xs (k' + 2) from HT4.out.strm.keep fun b hb => rfl)
          have hbx := HT4.out.bx
          have hby := HT4.out.by_
          have HK4 := Lib.hid (fun (wA : World) (k2 : Nat) (hst : Strm wA p xs k2) (hg : w4.drew.grownBy wA (some p)) => HT4.out.step (wz := wA) ⟨hg.os, hg.tape, hg.output, hg.size, hg.block⟩ hst hpg.1)
          have HO5 := Lib.hid (fun (wA : World) (hg : w4.drew.grownBy wA (some p)) => own_kept HO4.out (w' := wA) ⟨hg.os, hg.tape, hg.output, hg.size, hg.block⟩ (show p < gp + 1 by omega))
          have HFR := Lib.hid (fun (wA : World) (h : wA.heap[gp]? = some (.cells #[.int .i64 pX, .int .i64 pY] 37 (0, 0))) (j : Nat) => show wA.frozen? ⟨gp, j, none⟩ = false by simp [World.frozen?, h])
          go_wp2_with (fail)
          go_region_law (first
            | (go_simp; go_at_call 17; refine (rangeX_sm _ p (k' + 3) xs (by omega) hstA).mono ?_; rintro e wB ⟨rB, erB, rfl, hrB, hstB, hgB⟩; have HRB := Lib.hid erB; clear erB; have hgAB := grown_trans hgA hgB; have htB := HK4.out wB _ hstB hgAB; have n0 := cell_of_blk (j := 0) htB.blk rfl; have n1 := cell_of_blk (j := 1) htB.blk rfl; have f0 := HFR.out wB htB.blk 0; have f1 := HFR.out wB htB.blk 1; have hgpB := htB.lt; have hwY : IntKind.i64.wrap (pY + rB) = pY + rB := (by rw [IntKind.wrap_i64]; omega))
            | (go_simp; go_at_call 17; refine (rangeX_sm _ p (k' + 2) xs (by omega) HSD.out).mono ?_; rintro e wA ⟨rA, erA, rfl, hrA, hstA, hgA⟩; have HRA := Lib.hid erA; clear erA; have htA := HK4.out wA _ hstA hgA; have n0 := cell_of_blk (j := 0) htA.blk rfl; have n1 := cell_of_blk (j := 1) htA.blk rfl; have hgpA := htA.lt; have hwX : IntKind.i64.wrap (pX + rA) = pX + rA := (by rw [IntKind.wrap_i64]; omega)))
          all_goals
            go_wp2_with (fail)
            go_meet
            have hset := htB.set (X := pX + rA) (Y := pY + rB) (lo' := -5 - 2 * ((j : Int) + 1)) (hi' := 20 + 2 * ((j : Int) + 1)) hpg.1 hpg.2 (by omega) (by omega)
            exact ⟨pX + rA, pY + rB, hset.1, own_kept (HO5.out wB hgAB) hset.2 (by omega), Lib.hid (by unfold trX trY; rw [← HBF.out, HRA.out, HRB.out]; exact ⟨rfl, rfl⟩)⟩
      case rest =>
        obtain ⟨X, Y, hts5, hown5, HXY⟩ := hcut
        obtain ⟨w5, rfl⟩ : ∃ w5 : World, w5 = wc := ⟨_, rfl⟩
        have HT5 := Lib.hid hts5
        have HO5 := Lib.hid hown5
        have n0 := cell_of_blk (j := 0) hts5.blk rfl
        have n1 := cell_of_blk (j := 1) hts5.blk rfl
        have hbx := hts5.bx
        have hby := hts5.by_
        have hgp5 := hts5.lt
        obtain ⟨nat_, enat⟩ : ∃ nat_, nat_ = at_ + d := ⟨_, rfl⟩
        rw [← enat]
        have hna : at_ < nat_ ∧ nat_ ≤ at_ + 1000 := by omega
        have HNA := Lib.hid enat
        clear hts5 hown5 enat hw1 HT4 HO4 HT3 HO3 HTS HOWN
        have HPK := Lib.hid (fun (V : World) (g : Nat) (hV : w5.grownBy V (some p)) (hst : Strm V p xs (k' + 4)) (hg : g ≠ p) (hc : Cells V g 0 (erPicks.map (Value.int .i64))) => show Calls Tryz.prog 20 #[.pointer (some ⟨p, 0, none⟩), .slice (some ⟨g, 0, none⟩) 5 5] V fun e w' => ∃ E : Int, e = .returned (.int .i64 E) ∧ (0 ≤ E ∧ E ≤ 5) ∧ Hid (E = trE xs k') ∧ Strm w' p xs (k' + 5) ∧ w5.grownBy w' (some p) ∧ V.grownBy w' (some p) from
          (pick_any V p (k' + 4) g 5 5 xs erPicks (by omega) rfl (by omega) (by omega) hst hg hc).mono fun e w' ⟨h1, h2, h3⟩ => ⟨_, h1, erPicks_range _ (nextN_lt _ _ _ (by omega)), Lib.hid rfl, h2, grown_trans hV h3, h3⟩)
        have HSP := Lib.hid (fun (V : World) (hV : w5.grownBy V (some p)) => show V.cell? ⟨gp, 0, none⟩ = some (.int .i64 X) ∧ V.cell? ⟨gp, 1, none⟩ = some (.int .i64 Y) from
          ⟨hV.cell n0 (by simp; omega), hV.cell n1 (by simp; omega)⟩)
        have HZF := Lib.hid (fun (V w' : World) (g : Nat) (h : V.heap[g]? = some (.cells #[.string ⟨#[]⟩, .int .i64 0, .int .i64 0, .int .i64 0, .int .i64 0] 42 (0, 0))) (hg : V.grownBy w' (some p)) (hp : p < g) => show w'.heap[g]? = some (.cells #[.string ⟨#[]⟩, .int .i64 0, .int .i64 0, .int .i64 0, .int .i64 0] 42 (0, 0)) from
          (hg.block g (Array.getElem?_eq_some_iff.1 h).1 (by intro e; injection e with e; omega)).trans h)
        have HST5 := Lib.hid HT5.out.strm
        have HFZ := Lib.hid (fun (V : World) (g : Nat) (h : V.heap[g]? = some (.cells #[.string ⟨#[]⟩, .int .i64 0, .int .i64 0, .int .i64 0, .int .i64 0] 42 (0, 0))) (j : Nat) => show V.frozen? ⟨g, j, none⟩ = false by simp [World.frozen?, h])
        have hne1 : ¬ gp = w5.heap.size := by omega
        have hne2 : ¬ gp = w5.heap.size + 1 := by omega
        have hne3 : ¬ w5.heap.size = gp := by omega
        have hne4 : ¬ w5.heap.size + 1 = gp := by omega
        have hp5 : p < w5.heap.size := by omega
        have HCE := Lib.hid (fun (V : World) (g : Nat) (hg : g = V.heap.size) => show Cells (V.alloc (.cells #[.int .i64 0, .int .i64 0, .int .i64 1, .int .i64 2, .int .i64 5] 3)) g 0 (erPicks.map (Value.int .i64)) from cells_atF rfl hg)
        have HP1 := Lib.hid (HPK.out (w5.alloc (.cells #[.int .i64 0, .int .i64 0, .int .i64 1, .int .i64 2, .int .i64 5] 3)).drew w5.heap.size (grown_drew1 (grown_alloc (grown_refl _ _) _)) (HST5.out.alloc _).drew1 (by omega) (HCE.out w5 _ rfl).drew1)
        have HP2 := Lib.hid (HPK.out ((w5.alloc (.cells #[.int .i64 0, .int .i64 0, .int .i64 1, .int .i64 2, .int .i64 5] 3)).alloc (.cells #[.string ⟨#[]⟩, .int .i64 0, .int .i64 0, .int .i64 0, .int .i64 0] 42)).drew w5.heap.size (grown_drew1 (grown_alloc (grown_alloc (grown_refl _ _) _) _)) ((HST5.out.alloc _).alloc _).drew1 (by omega) ((HCE.out w5 _ rfl).alloc (by simp) _).drew1)
        have HP3 := Lib.hid (HPK.out ((w5.alloc (.cells #[.string ⟨#[]⟩, .int .i64 0, .int .i64 0, .int .i64 0, .int .i64 0] 42)).alloc (.cells #[.int .i64 0, .int .i64 0, .int .i64 1, .int .i64 2, .int .i64 5] 3)).drew (w5.heap.size + 1) (grown_drew1 (grown_alloc (grown_alloc (grown_refl _ _) _) _)) ((HST5.out.alloc _).alloc _).drew1 (by omega) (HCE.out (w5.alloc (.cells #[.string ⟨#[]⟩, .int .i64 0, .int .i64 0, .int .i64 0, .int .i64 0] 42)) _ (by simp)).drew1)
        have HZ2 := Lib.hid (show ((w5.alloc (.cells #[.int .i64 0, .int .i64 0, .int .i64 1, .int .i64 2, .int .i64 5] 3)).alloc (.cells #[.string ⟨#[]⟩, .int .i64 0, .int .i64 0, .int .i64 0, .int .i64 0] 42)).drew.heap[w5.heap.size + 1]? = some (.cells #[.string ⟨#[]⟩, .int .i64 0, .int .i64 0, .int .i64 0, .int .i64 0] 42 (0, 0)) by
          have h := heap_new (w5.alloc (.cells #[.int .i64 0, .int .i64 0, .int .i64 1, .int .i64 2, .int .i64 5] 3)) (.cells #[.string ⟨#[]⟩, .int .i64 0, .int .i64 0, .int .i64 0, .int .i64 0] 42)
          rw [World.size_alloc] at h
          exact h)
        have HZ3 := Lib.hid (show ((w5.alloc (.cells #[.string ⟨#[]⟩, .int .i64 0, .int .i64 0, .int .i64 0, .int .i64 0] 42)).alloc (.cells #[.int .i64 0, .int .i64 0, .int .i64 1, .int .i64 2, .int .i64 5] 3)).drew.heap[w5.heap.size]? = some (.cells #[.string ⟨#[]⟩, .int .i64 0, .int .i64 0, .int .i64 0, .int .i64 0] 42 (0, 0)) from (Below.heap_alloc _ _ _ (by simp)).trans (heap_new w5 _))
        go_upto_region 10 with (fail)
        go_cut [8] (fun s8 wx => ∃ (gf : Nat) (E : Int), s8 = .pointer (some ⟨gf, 0, none⟩) ∧ wx.heap[gf]? = some (.cells #[.string ⟨#[100]⟩, .int .i64 nat_, .int .i64 X, .int .i64 Y, .int .i64 E] 42 (0, 0)) ∧ (0 ≤ E ∧ E ≤ 5) ∧ Hid (E = trE xs k') ∧ w5.heap.size ≤ gf ∧ Strm wx p xs (k' + 5) ∧ w5.grownBy wx (some p))
        case first =>
          go_region_held3 (fun w' => w'.cell? ⟨gp, 0, none⟩ = some (.int .i64 X) ∧ w'.cell? ⟨gp, 1, none⟩ = some (.int .i64 Y))
            (first | go_keep | (exact hS))
            (first
              | (go_at_call 20; with_reducible refine HP1.out.mono ?_; rintro e w6 ⟨E, rfl, hE, HEE, hst6, hg6, hk6⟩; have hS := HSP.out w6 hg6)
              | (go_at_call 20; with_reducible refine HP2.out.mono ?_; rintro e w6 ⟨E, rfl, hE, HEE, hst6, hg6, hk6⟩; have hS := HSP.out w6 hg6; have hzb := HZF.out _ w6 (w5.heap.size + 1) HZ2.out hk6 (by omega); have z0 := cell_of_blk (j := 0) hzb rfl; have z1 := cell_of_blk (j := 1) hzb rfl; have z2 := cell_of_blk (j := 2) hzb rfl; have z3 := cell_of_blk (j := 3) hzb rfl; have z4 := cell_of_blk (j := 4) hzb rfl; have y0 := HFZ.out w6 _ hzb 0; have y1 := HFZ.out w6 _ hzb 1; have y2 := HFZ.out w6 _ hzb 2; have y3 := HFZ.out w6 _ hzb 3; have y4 := HFZ.out w6 _ hzb 4)
              | (go_at_call 20; with_reducible refine HP3.out.mono ?_; rintro e w6 ⟨E, rfl, hE, HEE, hst6, hg6, hk6⟩; have hS := HSP.out w6 hg6; have hzb := HZF.out _ w6 w5.heap.size HZ3.out hk6 (by omega); have z0 := cell_of_blk (j := 0) hzb rfl; have z1 := cell_of_blk (j := 1) hzb rfl; have z2 := cell_of_blk (j := 2) hzb rfl; have z3 := cell_of_blk (j := 3) hzb rfl; have z4 := cell_of_blk (j := 4) hzb rfl; have y0 := HFZ.out w6 _ hzb 0; have y1 := HFZ.out w6 _ hzb 1; have y2 := HFZ.out w6 _ hzb 2; have y3 := HFZ.out w6 _ hzb 3; have y4 := HFZ.out w6 _ hzb 4))
          all_goals
            go_wp2_with (fail)
            go_meet
            first
              | with_reducible exact ⟨_, E, rfl, heap_new w6 _, hE, HEE, hg6.size, hst6.alloc _, grown_alloc hg6 _⟩
              | (have hfs := fix_set (v0 := .string ⟨#[100]⟩) (v1 := .int .i64 nat_) (v2 := .int .i64 X) (v3 := .int .i64 Y) (v4 := .int .i64 E) hzb hg6 hst6 (by omega) (by omega)
                 with_reducible exact ⟨_, E, rfl, hfs.1, hE, HEE, by omega, hfs.2.1, hfs.2.2⟩)
        case rest =>
          obtain ⟨gf, E, rfl, hfb, hE, HEE, hgf, hst6, hg6⟩ := hcut
          obtain ⟨w6, rfl⟩ : ∃ w6 : World, w6 = wc := ⟨_, rfl⟩
          have HT6 := Lib.hid (HT5.out.step hg6 hst6 hpg.1)
          have HO6 := Lib.hid (own_kept HO5.out hg6 (by omega))
          have HOB := Lib.hid (fun k hk => (HO5.out.lt k hk).2)
          have hgflt := (Array.getElem?_eq_some_iff.1 hfb).1
          have HFB := Lib.hid hfb
          clear hfb hst6 hg6 n0 n1
          go_wp2_with (fail)
          refine (flipX_any w6 p (k' + 5) xs 10 (by omega) (by omega) (by omega) HT6.out.strm).mono ?_
          rintro e w7 ⟨b2, hb2, rfl, hst7, hg7⟩
          have hs7 := hg7.size
          have HT7 := Lib.hid (HT6.out.step hg7 hst7 hpg.1)
          have HO7 := Lib.hid (own_kept HO6.out hg7 (by omega))
          have HFB7 := Lib.hid ((hg7.block gf hgflt (by intro e; injection e with e; omega)).trans HFB.out)
          have HBG := Lib.hid hb2
          clear hst7 hg7 hb2
          go_upto_if 46 with (fail)
          go_cut [] (fun wx => ∃ (X' : Int) (k2 : Nat), wx.heap[gf]? = some (.cells #[.string ⟨#[100]⟩, .int .i64 nat_, .int .i64 X', .int .i64 Y, .int .i64 E] 42 (0, 0)) ∧ (-10000 ≤ X' ∧ X' ≤ 5000) ∧ k2 ≤ k' + 7 ∧ TSt w wx p gp xs k2 X Y (-5 - 2 * ((j : Int) + 1)) (20 + 2 * ((j : Int) + 1)) ∧ wx.ownsRow (gp + 1) 42 5 u5 j (recs fxC l) ∧ Hid (X' = trZ xs k' X ∧ k2 = trJ xs k'))
          case first =>
            cases b2 with
            | false =>
              go_wp2_with (fail)
              go_meet
              exact ⟨X, _, HFB7.out, by omega, by omega, HT7.out, HO7.out, Lib.hid (by unfold trZ trJ; rw [← HBG.out]; exact ⟨rfl, rfl⟩)⟩
            | true =>
              go_wp2_with (fail)
              refine (pick_any _ p (k' + 6) _ 3 3 xs xxPicks (by omega) rfl (by omega) (by omega) (HT7.out.strm.alloc _) (by omega) (Cells.new _ _ _ _ _ rfl)).mono ?_
              rintro e w8 ⟨rfl, hst8, hg8⟩
              have hxp := xxPicks_range (nextN xs (k' + 6) 3) (nextN_lt _ _ _ (by omega))
              obtain ⟨X', eX⟩ : ∃ X', X' = xxPicks.getD (nextN xs (k' + 6) 3) 0 := ⟨_, rfl⟩
              rw [← eX] at hxp ⊢
              have hg78 := grown_of_alloc hg8
              have hs8 := hg78.size
              have ht8 := HT7.out.step hg78 hst8 hpg.1
              have ho8 := own_kept HO7.out hg78 (by omega)
              have hf8 := (hg78.block gf (by omega) (by intro e; injection e with e; omega)).trans HFB7.out
              have z2 := cell_of_blk (j := 2) hf8 rfl
              have y2 : w8.frozen? ⟨gf, 2, none⟩ = false := by simp [World.frozen?, hf8]
              have hgf8 : gf < w8.heap.size := by omega
              have hsg := grown_set (grown_refl w8 (some gf)) (q := ⟨gf, 2, none⟩) (.inl rfl) (.int .i64 X')
              have HFIN := Lib.hid (show (w8.setCell ⟨gf, 2, none⟩ (.int .i64 X')).heap[gf]? = some (.cells #[.string ⟨#[100]⟩, .int .i64 nat_, .int .i64 X', .int .i64 Y, .int .i64 E] 42 (0, 0)) ∧ TSt w (w8.setCell ⟨gf, 2, none⟩ (.int .i64 X')) p gp xs (k' + 7) X Y (-5 - 2 * ((j : Int) + 1)) (20 + 2 * ((j : Int) + 1)) ∧ (w8.setCell ⟨gf, 2, none⟩ (.int .i64 X')).ownsRow (gp + 1) 42 5 u5 j (recs fxC l) from by
                refine ⟨?_, ⟨(hsg.block gp ht8.lt (by intro e; injection e with e; omega)).trans ht8.blk, ht8.bx, ht8.by_, ht8.strm.row hsg (fun g e => by injection e with e; omega), grown_set ht8.grown (q := ⟨gf, 2, none⟩) (.inr (by show w.heap.size ≤ gf; omega)) _⟩, ?_⟩
                · have h := heap_setCell_same _ _ 2 _ _ (.int .i64 X') hf8
                  simpa using h
                · refine ho8.kept hsg ?_
                  cases hv : u5.ownBlock with
                  | none => exact .inl rfl
                  | some q => exact .inr (fun e => by have := HOB.out q hv; injection e with e; omega))
              have HEX := Lib.hid eX
              clear eX hst8 hg8 hg78 ht8 ho8 hf8 hsg
              go_wp2_with (fail)
              go_meet
              exact ⟨X', _, HFIN.out.1, hxp, Nat.le_refl _, HFIN.out.2.1, HFIN.out.2.2, Lib.hid (by unfold trZ trJ; rw [← HBG.out, HEX.out]; exact ⟨rfl, rfl⟩)⟩
          case rest =>
            obtain ⟨X', k2, hf9, hX', hk2, ht9, ho9, HXZ⟩ := hcut
            obtain ⟨w9, rfl⟩ : ∃ w9 : World, w9 = wc := ⟨_, rfl⟩
            have q0 := cell_of_blk (j := 0) hf9 rfl
            have q1 := cell_of_blk (j := 1) hf9 rfl
            have q2 := cell_of_blk (j := 2) hf9 rfl
            have q3 := cell_of_blk (j := 3) hf9 rfl
            have q4 := cell_of_blk (j := 4) hf9 rfl
            have hgf9 := (Array.getElem?_eq_some_iff.1 hf9).1
            have HT9 := Lib.hid ht9
            have HO9 := Lib.hid ho9
            have hgp9 := ht9.lt
            have HSN := Lib.hid (HTR.out.snoc (X := X') (Y := Y) (E := E) hat0 hna.1 hX' (by omega) hE)
            clear hf9 ht9 ho9 HT7 HO7 HFB7 HT6 HO6 HFB HT5 HO5
            go_wp2_with (at_builtin; refine wpList_append_own _ rfl _ _ 30 rfl (gp + 1) 42 i0 _ 5 48 Tryz.underlying30 hi0 hz0 hz1 hz2 rfl (by decide) _ _ _ rfl (HO9.out.alloc _) ⟨w9.heap.size, 0, none⟩ 1 1 (fxC (nat_, X', Y, E)) rfl rfl ?c1 ?c2 ?c3 ?c4 ?c5 ?_)
            case c1 => exact cells_add (Cells.new w9 _ _ _ _ rfl)
            case c2 => exact fxC_one _
            case c3 => unfold maxLen; omega
            case c4 => omega
            case c5 => simp; omega
            intro v10 w10 ho10 hg10 _
            have hg910 := grown_of_alloc hg10
            have hlo : ∀ q, u5.ownBlock = some q → gp + 1 ≤ q := fun q hq => (HO9.out.lt q hq).1
            have HT10 := Lib.hid (show TSt w w10 p gp xs k2 X Y (-5 - 2 * ((j : Int) + 1)) (20 + 2 * ((j : Int) + 1)) from
              ⟨(hg910.block gp hgp9 (by intro e; have := hlo gp e.symm; omega)).trans HT9.out.blk, HT9.out.bx, HT9.out.by_, HT9.out.strm.row hg910 (fun g e => by have := hlo g e; omega), grown_row HT9.out.grown hg910 (fun g e => by have := hlo g e; omega)⟩)
            have HO10 := Lib.hid ho10
            clear ho10 hg10 hg910 hlo q0 q1 q2 q3 q4
            go_wp2_with (fail)
            go_roundw
            case rel =>
              refine ⟨j + 1, k2, l ++ [(nat_, X', Y, E)], nat_, X, Y, by omega, by go_num, rfl, by omega, by omega, HSN.out, by rw [recs_snoc]; exact HO10.out, ?_, by omega, Lib.hid (by rw [trA, HTA.out]; unfold trN; simp only; rw [← HXY.out.1, ← HXY.out.2, ← HXZ.out.1, ← HXZ.out.2, ← HEE.out, ← HED.out, ← HNA.out])⟩
              have h := HT10.out
              rw [show ((j + 1 : Nat) : Int) = (j : Int) + 1 by omega]
              exact h
            case measure => simp [intOf]; omega
    · have hjN : j = N := by omega
      subst hjN
      obtain ⟨A7, c7, rfl⟩ := own_slice hown
      have hl := htrk.len
      clear htrk hown hts
      go_wp2_with (fail)
      go_ret
      refine ⟨_, l, at_, k', ⟨by unfold trL; rw [← HEN.out, HTA.out], by unfold trK; rw [← HEN.out, HTA.out]⟩, rfl, by rw [hl]; exact HTR.out, by omega, by omega, ?_, HTS.out.strm, by omega, HTS.out.grown⟩
      rw [hl]
      exact own_mono HOWN.out (by omega)
end Go.Proofs.YthplhibdapjjgaaGreatDoor
