/- StaysAreNear: the law function. -/
import Derived.Test.YtbimiojoihfnkaaGreatDoorFxS
import Derived.Test.YtbimiojoihfnkaaGreatDoorFxB
import Derived.Test.YtbimiojoihfnkaaGreatDoorReady
namespace Go.Proofs.YtbimiojoihfnkaaGreatDoor
open Go.RowKit

theorem sty_cells {w : World} {b o : Nat} {l : List Sty} (h : Cells w b o (recs stC l)) (k : Nat) (x : Sty) (hx : l[k]? = some x) :
    w.cell? ⟨b, o + k * 4, none⟩ = some (.int .i64 x.1) ∧ w.cell? ⟨b, o + k * 4 + 1, none⟩ = some (.int .i64 x.2.1) ∧ w.cell? ⟨b, o + k * 4 + 2, none⟩ = some (.int .i64 x.2.2.1) ∧ w.cell? ⟨b, o + k * 4 + 3, none⟩ = some (.int .i64 x.2.2.2) :=
  ⟨rec_cell stC_len h k x hx 0 _ rfl, rec_cell stC_len h k x hx 1 _ rfl, rec_cell stC_len h k x hx 2 _ rfl, rec_cell stC_len h k x hx 3 _ rfl⟩
def lgPicks : List Int := [1, 10, 1000]
theorem lgPicks_range (j : Nat) (h : j < 3) : 1 ≤ lgPicks.getD j 0 ∧ lgPicks.getD j 0 ≤ 1000 := by
  have : j = 0 ∨ j = 1 ∨ j = 2 := by omega
  rcases this with h | h | h <;> subst h <;> decide

set_option maxRecDepth 100000 in
set_option maxHeartbeats 8000000 in
theorem fxL_yes (w : World) (xs : List Int) (n c : Nat) (A : Option Addr) (hs : ∀ (W : World), Below w.heap.size w W → W.heap[w.heap.size]? = some (.cells #[.slice A n c, .int .i64 0] 25) → Strm W w.heap.size xs 0) :
    Calls Tryz.prog 3 #[.slice A n c] w fun e w' => e = .returned (.bool true) ∧ Below w.heap.size w w' := by
  have HS := Lib.hid hs
  clear hs
  go_enter Tryz.func3, Tryz.ntmps3
  go_wp2_with (fail)
  generalize hW : w.alloc (.cells #[.slice A n c, .int .i64 0] 25) = W
  have hWs : W.heap.size = w.heap.size + 1 := by rw [← hW]; simp
  have hB0 : Below w.heap.size w W := hW ▸ (Below.refl _ _).alloc (Nat.le_refl _) _
  have HS0 := Lib.hid (HS.out W hB0 (by rw [← hW]; exact heap_new w _))
  have HB0 := Lib.hid hB0
  clear hW hB0 HS
  refine (rightTrack_any W w.heap.size 0 14 xs (by omega) (by omega) HS0.out).mono ?_
  rintro e w1 ⟨v1, l, a, k1, rfl, htrk, hlm, ha, hown1, hst1, hk1, hg1⟩
  have hs1 := hg1.size
  obtain ⟨N, eN⟩ : ∃ N, N = l.length := ⟨_, rfl⟩
  rw [← eN] at hown1 hlm htrk
  obtain ⟨A1, c1, rfl⟩ := own_slice hown1
  have HTR := Lib.hid htrk
  have HGF := Lib.hid (htrk.good (by omega) (by omega))
  have HN := Lib.hid eN.symm
  have HO1 := Lib.hid hown1
  have HST1 := Lib.hid hst1
  have HG1 := Lib.hid hg1
  clear htrk hown1 hst1 hg1 HS0 eN
  go_wp2_with (fail)
  refine (range_nat w1 w.heap.size k1 6 xs (by omega) (by omega) HST1.out).mono ?_
  have hnr := nextN_lt xs k1 7 (by omega)
  obtain ⟨near, enear⟩ : ∃ near : Nat, near = nextN xs k1 7 := ⟨_, rfl⟩
  simp only [Nat.reduceAdd]
  rw [← enear] at hnr ⊢
  rintro e w2 ⟨rfl, hst2, hg2⟩
  have hs2 := hg2.size
  have HO2 := Lib.hid (own_kept HO1.out hg2 (by omega))
  have HST2 := Lib.hid hst2
  have HG2 := Lib.hid (grown_trans HG1.out hg2)
  clear hst2 hg2 enear HO1 HST1 HG1
  go_wp2_with (fail)
  refine (pick_any _ w.heap.size (k1 + 1) _ 3 3 xs lgPicks (by omega) rfl (by omega) (by omega) (HST2.out.alloc _) (by omega) (Cells.new _ _ _ _ _ rfl)).mono ?_
  rintro e w3 ⟨rfl, hst3, hg3⟩
  have hlg := lgPicks_range (nextN xs (k1 + 1) 3) (nextN_lt _ _ _ (by omega))
  obtain ⟨long, elong⟩ : ∃ long, long = lgPicks.getD (nextN xs (k1 + 1) 3) 0 := ⟨_, rfl⟩
  rw [← elong] at hlg ⊢
  have hg23 := grown_of_alloc hg3
  have hs3 := hg23.size
  have ho3 := own_kept HO2.out hg23 (by omega)
  have HR3 := Lib.hid (own_row ho3)
  have HB3 := Lib.hid (HB0.out.grown (grown_trans HG2.out hg23) (by omega) (fun g hg => by injection hg with hg; omega))
  clear elong hst3 hg3 hg23 ho3 HO2 HST2 HG2
  go_wp2_with (fail)
  refine (stays_any l N c1 A1 (near : Int) long w3 HN.out HGF.out HR3.out (by omega) (by omega) hlg.1 (by omega)).mono ?_
  rintro e w4 ⟨v4, S, rfl, hok, hSn, hown4, hb4⟩
  have hs4 := hb4.size
  obtain ⟨m, em⟩ : ∃ m, m = S.length := ⟨_, rfl⟩
  rw [← em] at hown4 hSn
  obtain ⟨A4, c4, rfl⟩ := own_slice hown4
  have HM := Lib.hid em.symm
  have HOK := Lib.hid hok
  have HR4 := Lib.hid (own_row hown4)
  have HRA := Lib.hid ((HR3.out.below hb4).mono hs4)
  have HB4 := Lib.hid (HB3.out.trans (hb4.mono (by have := HB3.out.size; omega)))
  have hnn := sqr_le (a := (near : Int)) (B := 10) (by omega) (by omega)
  obtain ⟨nn, enn⟩ : ∃ nn, nn = (near : Int) * near := ⟨_, rfl⟩
  rw [← enn] at hnn
  have HNN := Lib.hid enn
  have hwnn : IntKind.i64.wrap ((near : Int) * near) = nn := by rw [← enn, IntKind.wrap_i64]; omega
  clear hok hown4 hb4 em enn HR3 HB3
  go_wp2_with (fail)
  go_loopw [9, 37] (fun s i wr => ∃ k : Nat, k ≤ m ∧ i = .int .i64 (k : Int) ∧ s = .int .i64 (lastS (S.take k)) ∧ Below w4.heap.size w4 wr) (fun _ i _ => m - (intOf i).toNat)
  case atStart => exact ⟨0, Nat.zero_le _, rfl, by simp [lastS], Below.refl _ _⟩
  case round =>
    obtain ⟨k, hk, rfl, rfl, hbl⟩ := hrel
    have hsz := hbl.size
    have HBL := Lib.hid hbl
    by_cases hlt : k < m
    · obtain ⟨b1, o1, rfl, hb1, hc1⟩ := Row.posR stC_len (by omega) HR4.out (by have := HM.out; omega)
      obtain ⟨x, hx⟩ : ∃ x, S[k]? = some x := ⟨_, List.getElem?_eq_getElem (by have := HM.out; omega)⟩
      obtain ⟨s0, s1, s2, s3⟩ := sty_cells (hc1.keep (hbl.block b1 hb1)) k x hx
      have hfr := HOK.out.from_ x (List.mem_of_getElem? hx)
      have hxx := HOK.out.x_ x (List.mem_of_getElem? hx)
      have hlo := HOK.out.long_ x (List.mem_of_getElem? hx)
      have HNE := Lib.hid (HOK.out.near_ x (List.mem_of_getElem? hx))
      have hla := lastS_lt HOK.out k x hx
      have HTK := Lib.hid (show lastS (S.take (k + 1)) = x.2.1 by rw [List.take_add_one, hx]; exact lastS_snoc _ _)
      obtain ⟨la, ela⟩ : ∃ la, la = lastS (S.take k) := ⟨_, rfl⟩
      rw [← ela] at hla ⊢
      obtain ⟨xf, xt, xx, xy⟩ := x
      simp only at s0 s1 s2 s3 hfr hxx hlo HNE hla HTK
      have hlt' : (k : Int) < (m : Int) := by omega
      have hb1w : b1 < wr.heap.size := by omega
      have hwl : IntKind.i64.wrap (xt - xf) = xt - xf := by rw [IntKind.wrap_i64]; omega
      have hn1 : ¬ xt - xf < long := by omega
      have hn2 : ¬ xf ≤ la := by omega
      clear hbl hc1 hx ela
      go_upto_region 10 with (fail)
      generalize hV : wr.alloc (.cells #[.int .i64 xf, .int .i64 xt, .int .i64 xx, .int .i64 xy] 37) = V
      have hVs : V.heap.size = wr.heap.size + 1 := by rw [← hV]; simp
      have hvb : V.heap[wr.heap.size]? = some (.cells #[.int .i64 xf, .int .i64 xt, .int .i64 xx, .int .i64 xy] 37) := by rw [← hV]; exact heap_new wr _
      have hBV : Below wr.heap.size wr V := hV ▸ (Below.refl _ _).alloc (Nat.le_refl _) _
      have v0 := cell_of_blk (j := 0) hvb rfl
      have v1 := cell_of_blk (j := 1) hvb rfl
      have hgs : wr.heap.size < V.heap.size := by omega
      have HVB := Lib.hid hvb
      have HBV := Lib.hid (HBL.out.trans (hBV.mono hsz))
      have HRV := Lib.hid ((HRA.out.below HBV.out).mono HBV.out.size)
      clear hV hvb hBV s0 s1 s2 s3
      go_wp2_with (fail)
      obtain ⟨wo, rfl⟩ : ∃ wo : World, wo = wr := ⟨_, rfl⟩
      go_loopw [58] (fun i wi => ∃ j : Nat, j ≤ N ∧ i = .int .i64 (j : Int) ∧ Below V.heap.size V wi) (fun i _ => N - (intOf i).toNat)
      case atStart => exact ⟨0, Nat.zero_le _, rfl, Below.refl _ _⟩
      case round =>
        obtain ⟨j, hj, rfl, hbi⟩ := hrel
        have hsi := hbi.size
        have HBI := Lib.hid hbi
        have hvb := (hbi.block wo.heap.size hgs).trans HVB.out
        have v0 := cell_of_blk (j := 0) hvb rfl
        have v1 := cell_of_blk (j := 1) hvb rfl
        have v2 := cell_of_blk (j := 2) hvb rfl
        have v3 := cell_of_blk (j := 3) hvb rfl
        have hgr : wo.heap.size < wr.heap.size := by omega
        by_cases hjN : j < N
        · obtain ⟨b, o, rfl, hb, hc⟩ := Row.posR fxC_len (by omega) HRV.out (by have := HN.out; omega)
          obtain ⟨y, hy⟩ : ∃ y, l[j]? = some y := ⟨_, List.getElem?_eq_getElem (by have := HN.out; omega)⟩
          obtain ⟨t0, t1, t2, t3, t4⟩ := fix_cells (hc.keep (hbi.block b hb)) j y hy
          have hoy := HGF.out.get hy
          have hny := HNE.out y (List.mem_of_getElem? hy)
          have hym := HTR.out.ok y (List.mem_of_getElem? hy)
          obtain ⟨ya, yx, yy, ye⟩ := y
          simp only at t1 t2 t3 t4 hny hym
          have hj' : (j : Int) < (N : Int) := by omega
          have hbw : b < wr.heap.size := by omega
          have w1' : IntKind.i64.wrap (yx - xx) = yx - xx := by rw [IntKind.wrap_i64]; omega
          have w2' : IntKind.i64.wrap (yy - xy) = yy - xy := by rw [IntKind.wrap_i64]; omega
          have q1 := sqr_le (a := yx - xx) (B := 20000) (by omega) (by omega)
          have q2 := sqr_le (a := yy - xy) (B := 20000) (by omega) (by omega)
          obtain ⟨p1, ep1⟩ : ∃ p1, p1 = (yx - xx) * (yx - xx) := ⟨_, rfl⟩
          obtain ⟨p2, ep2⟩ : ∃ p2, p2 = (yy - xy) * (yy - xy) := ⟨_, rfl⟩
          rw [← ep1] at q1
          rw [← ep2] at q2
          have w3' : IntKind.i64.wrap ((yx - xx) * (yx - xx)) = p1 := by rw [← ep1, IntKind.wrap_i64]; omega
          have w4' : IntKind.i64.wrap ((yy - xy) * (yy - xy)) = p2 := by rw [← ep2, IntKind.wrap_i64]; omega
          have w5' : IntKind.i64.wrap (p1 + p2) = p1 + p2 := by rw [IntKind.wrap_i64]; omega
          have hsq : xf ≤ ya → ya ≤ xt → ¬ nn < p1 + p2 := by
            intro h1 h2
            have h := hny h1 h2
            have hN2 := HNN.out
            unfold sq2 at h
            rw [← ep1, ← ep2, ← hN2] at h
            omega
          have HB5 := Lib.hid (HBI.out.alloc hsi (.cells #[.string ⟨#[100]⟩, .int .i64 ya, .int .i64 yx, .int .i64 yy, .int .i64 ye] 39))
          clear hbi hvb hc hy hoy hny hym ep1 ep2
          by_cases g1 : xf ≤ ya
          · by_cases g2 : ya ≤ xt
            · have g3 := hsq g1 g2
              go_wp2_with (fail)
              go_quiet (fail)
              go_wp2_with (fail)
              go_roundw
              case rel => exact ⟨j + 1, by omega, by go_num, below_drewN HB5.out _⟩
              case measure => simp [intOf]; omega
            · go_wp2_with (fail)
              go_quiet (fail)
              go_wp2_with (fail)
              go_roundw
              case rel => exact ⟨j + 1, by omega, by go_num, below_drewN HB5.out _⟩
              case measure => simp [intOf]; omega
          · go_wp2_with (fail)
            go_quiet (fail)
            go_wp2_with (fail)
            go_roundw
            case rel => exact ⟨j + 1, by omega, by go_num, below_drewN HB5.out _⟩
            case measure => simp [intOf]; omega
        · have hjn : j = N := by omega
          subst hjn
          clear hbi hvb
          go_wp2_with (fail)
          go_roundw
          case rel => exact ⟨k + 1, by omega, by go_num, by rw [HTK.out], HBV.out.trans (HBI.out.mono HBV.out.size)⟩
          case measure => simp [intOf]; omega
    · have hkm : k = m := by omega
      subst hkm
      clear hbl
      go_wp2_with (fail)
      refine (ready_yes wr).mono ?_
      rintro e w9 ⟨rfl, hb9⟩
      have HB9 := Lib.hid ((HB4.out.trans (HBL.out.mono (by have := HB4.out.size; omega))).trans (hb9.mono (by have := HB4.out.size; omega)))
      clear hb9
      go_wp2_with (fail)
      go_ret
      exact ⟨rfl, HB9.out⟩
end Go.Proofs.YtbimiojoihfnkaaGreatDoor
