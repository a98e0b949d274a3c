/- CheckCampaign, CheckFleet, CheckMarks, zoneFault, fault at right ones: nothing is wrong. -/
import Derived.Test.YtidgicbhgnbidaaGreatDoorCmA
import Derived.Test.YtidgicbhgnbidaaGreatDoorMyC
import Derived.Test.YtidgicbhgnbidaaGreatDoorMgB
import Derived.Test.YtidgicbhgnbidaaGreatDoorMgA
namespace Go.Proofs.YtidgicbhgnbidaaGreatDoor
open Go.RowKit Go.Sort

theorem ckT_key (i : Nat) : isKey (ckT i) = true := by
  unfold ckT
  split <;> decide +kernel
theorem dvT_key {i : Nat} (h : i < 6) : isKey (dvT i) = true := by
  rcases six_ofD h with h | h | h | h | h | h <;> subst h <;> decide +kernel
theorem tnT_key : isKey tnT = true := by decide +kernel
theorem dvT_cmp {i j : Nat} (hi : i < 6) (hj : j < 6) : Lib.compareBytes (dvT i).data.toList (dvT j).data.toList = cmpI (i : Int) (j : Int) := by
  rcases six_ofD hi with h | h | h | h | h | h <;> subst h <;> rcases six_ofD hj with h | h | h | h | h | h <;> subst h <;> decide +kernel
theorem dvT_le {i j : Nat} (hi : i < 6) (hj : j < 6) : (Op.bytesLess (dvT i).toList (dvT j).toList || (dvT i).toList == (dvT j).toList) = decide (i ≤ j) := by
  rcases six_ofD hi with h | h | h | h | h | h <;> subst h <;> rcases six_ofD hj with h | h | h | h | h | h <;> subst h <;> decide +kernel
set_option maxRecDepth 100000 in
set_option maxHeartbeats 4000000 in
theorem checkCampaign_any (C : Cm) (w : World) (hC : CmOk C) (hw : Row w w.heap.size C.wa (recs wvC C.ws)) :
    Calls Tryz.prog 59 #[cmV C] w fun e w' => e = .returned (.int .i64 0) ∧ Below w.heap.size w w' := by
  obtain ⟨N, hN⟩ : ∃ N, N = C.ws.length := ⟨_, rfl⟩
  have hN3 : 1 ≤ N ∧ N ≤ 3 := by rw [hN]; exact hC.n
  have h0 := hC.h0
  have h1 := hC.h1
  have hrm := hC.rm
  have hat := hC.at_
  have HT := Lib.hid hC.t
  have HC := Lib.hid hC
  have HN := Lib.hid hN
  have hk := ckT_key C.key
  have hNa : ((N : Int) == 0) = false := by simp; omega
  have hNb : decide ((20 : Int) < (N : Int)) = false := decide_eq_false (by omega)
  have hNc : ¬ (20 : Int) < (N : Int) := by omega
  have hNd : ¬ (N : Int) = 0 := by omega
  obtain ⟨w0, e0⟩ : ∃ V : World, V = w.alloc (cmB C) := ⟨_, rfl⟩
  have hb0 : Below w.heap.size w w0 := by rw [e0]; exact (Below.refl _ _).alloc (Nat.le_refl _) _
  obtain ⟨g, eg⟩ : ∃ g, g = w.heap.size := ⟨_, rfl⟩
  have hg0 : w0.heap[g]? = some (cmB C) := by rw [e0, eg]; exact heap_new w _
  have HW := Lib.hid ((hw.below hb0).mono hb0.size)
  have HB0 := Lib.hid hb0
  have HG0 := Lib.hid hg0
  have hgl := (Array.getElem?_eq_some_iff.1 hg0).1
  unfold cmB at e0 hg0
  unfold cmV
  rw [← hN] at e0 hg0 ⊢
  clear hC hw hb0 hN
  go_enter Tryz.func59, Tryz.ntmps59
  go_upto_region 1 with (fail)
  rw [← eg, ← e0]
  clear e0 eg
  have c0 := cell_of_blk (j := 0) hg0 rfl
  have c1 := cell_of_blk (j := 1) hg0 rfl
  have c2 := cell_of_blk (j := 2) hg0 rfl
  have c3 := cell_of_blk (j := 3) hg0 rfl
  have c4 := cell_of_blk (j := 4) hg0 rfl
  have c5 := cell_of_blk (j := 5) hg0 rfl
  have HV := Lib.hid (fun V => version_any C.t V HT.out)
  unfold veV at HV
  clear hg0
  go_wp2_with (go_at_call 69; refine (key_yes _ _ hk).mono ?_; rintro e w' ⟨rfl, rfl⟩)
  refine (HV.out _).mono ?_
  rintro e w1 ⟨rfl, hb1⟩
  have hg1 := (hb1.block g hgl).trans HG0.out
  have HB1 := Lib.hid hb1
  unfold cmB at hg1
  rw [← HN.out] at hg1
  have hgl1 := (Array.getElem?_eq_some_iff.1 hg1).1
  have HG1 := Lib.hid hg1
  clear c0 c1 c2 c3 c4 c5 hb1
  have c4 := cell_of_blk (j := 4) hg1 rfl
  have c5 := cell_of_blk (j := 5) hg1 rfl
  clear hg1
  go_wp2_with (go_at_call 68; refine (moment_yes _ _ (by omega) (by omega)).mono ?_; rintro e w' ⟨rfl, rfl⟩)
  go_loopw [35, 3] (fun i v wr => ∃ (k : Nat) (s : Int), k ≤ N ∧ i = .int .i64 (k : Int) ∧ v = .int .i64 s ∧ 0 ≤ s ∧ s ≤ 1000 * (k : Int) ∧ Hid (Below w1.heap.size w1 wr ∧ s = ((C.ws.take k).map (·.pt)).sum)) (fun i _ _ => N - (intOf i).toNat)
  case atStart => exact ⟨0, 0, Nat.zero_le _, rfl, rfl, Int.le_refl _, by omega, Lib.hid ⟨Below.refl _ _, rfl⟩⟩
  case round =>
    obtain ⟨k, s, hk', rfl, rfl, hs0, hs1, HQ⟩ := hrel
    by_cases hlt : k < N
    · have hltI : (k : Int) < (N : Int) := by omega
      obtain ⟨x, hx⟩ : ∃ x, C.ws[k]? = some x := ⟨_, List.getElem?_eq_getElem (by have := HN.out; omega)⟩
      have hxo := HC.out.w x (List.mem_of_getElem? hx)
      obtain ⟨x1, x2⟩ := hxo.pt
      obtain ⟨x3, x4⟩ := hxo.wt
      obtain ⟨x5, x6⟩ := hxo.ls
      obtain ⟨x7, x8⟩ := hxo.fl
      have HBT := Lib.hid (HB1.out.trans (HQ.out.1.mono HB1.out.size))
      obtain ⟨b, o, ewa, hbw, hCl⟩ := (HW.out.below HBT.out).posR wvC_len (by omega) (by have := HN.out; omega)
      have hbr : b < wr.heap.size := by have := HBT.out.size; have := HB0.out.size; omega
      have e0 : wr.cell? ⟨b, o + k * 4, none⟩ = some (.int .i64 x.pt) := rec_cell wvC_len hCl k x hx 0 _ rfl
      have e1 := rec_cell wvC_len hCl k x hx 1 _ rfl
      have e2 := rec_cell wvC_len hCl k x hx 2 _ rfl
      have e3 := rec_cell wvC_len hCl k x hx 3 _ rfl
      have HS := Lib.hid (show s + x.pt = ((C.ws.take (k + 1)).map (·.pt)).sum from by
        rw [List.take_add_one, hx, List.map_append, List.sum_append, ← HQ.out.2]
        simp)
      have HBA := Lib.hid (fun o => (HQ.out.1.alloc HQ.out.1.size o))
      rw [ewa]
      clear hCl hx hxo
      go_wp2_with (go_at_call 62; refine (out_no _ _ _ _ (by omega) (by omega)).mono ?_; rintro e w' ⟨rfl, rfl⟩)
      go_roundw
      case rel =>
        exact ⟨k + 1, s + x.pt, by omega, by go_num, rfl, by omega, by omega, Lib.hid ⟨HBA.out _, HS.out⟩⟩
      case measure => simp [intOf]; omega
    · have hltI : ¬ (k : Int) < (N : Int) := by omega
      have hs : s = 1000 := by rw [HQ.out.2, List.take_of_length_le (by have := HN.out; omega)]; exact HC.out.sum
      subst hs
      have hgr := (HQ.out.1.block g hgl1).trans HG1.out
      have hglr := (Array.getElem?_eq_some_iff.1 hgr).1
      have d6 := cell_of_blk (j := 6) hgr rfl
      have d7 := cell_of_blk (j := 7) hgr rfl
      have d8 := cell_of_blk (j := 8) hgr rfl
      have HF := Lib.hid (HB0.out.trans ((HB1.out.trans (HQ.out.1.mono HB1.out.size)).mono HB0.out.size))
      obtain ⟨y1, y2⟩ := h0
      obtain ⟨y3, y4⟩ := h1
      obtain ⟨y5, y6⟩ := hrm
      clear hgr
      go_wp2_with (go_at_call 62; refine (out_no _ _ _ _ (by omega) (by omega)).mono ?_; rintro e w' ⟨rfl, rfl⟩)
      go_ret
      exact ⟨rfl, HF.out⟩
set_option maxRecDepth 100000 in
set_option maxHeartbeats 4000000 in
theorem checkFleet_any (F : List Dv) (n c : Nat) (A : Option Addr) (w : World) (hF : FlOk F) (hn : F.length = n) (hr : Row w w.heap.size A (recs dvC F)) :
    Calls Tryz.prog 61 #[.slice A n c] w fun e w' => e = .returned (.int .i64 0) ∧ Below w.heap.size w w' := by
  have HF := Lib.hid hF
  have HN := Lib.hid hn
  have HR := Lib.hid hr
  have hn6 : n ≤ 6 := by rw [← hn]; exact hF.n
  have hnI : ¬ (500 : Int) < (n : Int) := by omega
  have htk := tnT_key
  clear hF hn hr
  go_enter Tryz.func61, Tryz.ntmps61
  go_wp2_with (fail)
  go_loopw [10] (fun i wr => ∃ k : Nat, k ≤ n ∧ i = .int .i64 (k : Int) ∧ Hid (Below w.heap.size w wr)) (fun i _ => n - (intOf i).toNat)
  case atStart => exact ⟨0, Nat.zero_le _, rfl, Lib.hid (Below.refl _ _)⟩
  case round =>
    obtain ⟨k, hk, rfl, HB⟩ := hrel
    by_cases hlt : k < n
    · have hltI : (k : Int) < (n : Int) := by omega
      obtain ⟨x, hx⟩ : ∃ x, F[k]? = some x := ⟨_, List.getElem?_eq_getElem (by have := HN.out; omega)⟩
      have hxo := HF.out.ok x (List.mem_of_getElem? hx)
      have hk1 := dvT_key hxo.k
      have hk2 := md_key x.md
      have HXK := Lib.hid hxo.k
      obtain ⟨b, o, rfl, hbw, hCl⟩ := (HR.out.below HB.out).posR dvC_len (by omega) (by have := HN.out; omega)
      have hbr : b < wr.heap.size := by have := HB.out.size; omega
      have HCl := Lib.hid hCl
      have HX := Lib.hid hx
      have e0 : wr.cell? ⟨b, o + k * 7, none⟩ = some (.string (dvT x.k)) := rec_cell dvC_len hCl k x hx 0 _ rfl
      have e1 := rec_cell dvC_len hCl k x hx 1 _ rfl
      have e2 := rec_cell dvC_len hCl k x hx 2 _ rfl
      have e3 := rec_cell dvC_len hCl k x hx 3 _ rfl
      have e4 := rec_cell dvC_len hCl k x hx 4 _ rfl
      have e5 := rec_cell dvC_len hCl k x hx 5 _ rfl
      have e6 := rec_cell dvC_len hCl k x hx 6 _ rfl
      have HV := Lib.hid (fun V => version_any x.fw V hxo.fw)
      unfold veV at HV
      clear hCl hx
      go_upto_region 6 with (fail)
      obtain ⟨gx, egx⟩ : ∃ y, y = wr.heap.size := ⟨_, rfl⟩
      obtain ⟨w1, ew1⟩ : ∃ V : World, V = wr.alloc (.cells #[.string (dvT x.k), .string (mdT x.md), .string tnT, .int .i64 x.fw.a, .int .i64 x.fw.b, .int .i64 x.fw.c, .slice none 0 0] 67) := ⟨_, rfl⟩
      have hb1 : Below wr.heap.size wr w1 := by rw [ew1]; exact (Below.refl _ _).alloc (Nat.le_refl _) _
      have hg1 : w1.heap[gx]? = some (dvB x) := by rw [ew1, egx]; exact heap_new wr _
      rw [← egx, ← ew1]
      have hl1 := (Array.getElem?_eq_some_iff.1 hg1).1
      have HB1 := Lib.hid (HB.out.trans (hb1.mono HB.out.size))
      have hbr1 : b < w1.heap.size := by have := hb1.size; omega
      have HCL1 := Lib.hid (fun j u hj => (hb1.cell (p := ⟨b, o + j, none⟩) hbr).trans (HCl.out j u hj))
      have HG1 := Lib.hid hg1
      have p0 := cell_of_blk (j := 0) hg1 rfl
      have p1 := cell_of_blk (j := 1) hg1 rfl
      have p2 := cell_of_blk (j := 2) hg1 rfl
      have p3 := cell_of_blk (j := 3) hg1 rfl
      have p4 := cell_of_blk (j := 4) hg1 rfl
      have p5 := cell_of_blk (j := 5) hg1 rfl
      clear egx ew1 hb1 hg1 e0 e1 e2 e3 e4 e5 e6 hbr
      go_wp2_with (first
        | (go_at_call 69; (with_reducible refine (key_yes _ _ hk1).mono ?_); rintro e w' ⟨rfl, rfl⟩)
        | (go_at_call 69; (with_reducible refine (key_yes _ _ hk2).mono ?_); rintro e w' ⟨rfl, rfl⟩)
        | (go_at_call 69; (with_reducible refine (key_yes _ _ htk).mono ?_); rintro e w' ⟨rfl, rfl⟩))
      go_upto_region 8 with (fail)
      go_cut [32] (fun s wx => s = .bool false ∧ Below w1.heap.size w1 wx)
      case first =>
        cases k with
        | zero =>
          go_upto_region 8 with (fail)
          refine qRegion (by kernel_rfl) (by kernel_rfl) ?_
          repeat (first
            | (go_big_quiet_want; refine qVal (fun V hV => (by (go_simp; try rfl))) ?_; simp only [Act.put, List.setIfInBounds_toArray, List.set_cons_zero, List.set_cons_succ]; go_big_quiet_on)
            | go_big_quiet_skip)
          refine wpQuiet_nil ?_
          intro w3 hb3
          go_wp2_with (fail)
          go_meet
          exact ⟨rfl, hb3⟩
        | succ i =>
          obtain ⟨y, hy⟩ : ∃ y, F[i]? = some y := ⟨_, List.getElem?_eq_getElem (by have := HN.out; omega)⟩
          have hyo := HF.out.ok y (List.mem_of_getElem? hy)
          have hle : (Op.bytesLess (dvT x.k).toList (dvT y.k).toList || (dvT x.k).toList == (dvT y.k).toList) = false := by
            rw [dvT_le HXK.out hyo.k]
            have h1 := (List.pairwise_iff_getElem.1 HF.out.ord) i (i + 1) (by have := HN.out; omega) (by have := HN.out; omega) (by omega)
            have h2 := (List.getElem?_eq_some_iff.1 hy).2
            have h3 := (List.getElem?_eq_some_iff.1 HX.out).2
            rw [h2, h3] at h1
            exact decide_eq_false (by omega)
          have hi1 : IntKind.i64.wrap ((i : Int) + 1 - 1) = (i : Int) := by rw [IntKind.wrap_i64]; omega
          have hi2 : IntKind.i64.wrap (i : Int) = (i : Int) := by rw [IntKind.wrap_i64]; omega
          have hiR : i < n := by omega
          have hiRI : (i : Int) < (n : Int) := by omega
          have HQ := Lib.hid (fun (V : World) (hV : Below w1.heap.size w1 V) => show V.cell? ⟨gx, 0, none⟩ = some (.string (dvT x.k)) ∧ V.cell? ⟨b, o + i * 7, none⟩ = some (.string (dvT y.k)) from by
            have h1 := (hV.block gx hl1).trans HG1.out
            have hq : ∀ j u, (recs dvC F)[j]? = some u → V.cell? ⟨b, o + j, none⟩ = some u := fun j u hj => (hV.cell (p := ⟨b, o + j, none⟩) hbr1).trans (HCL1.out j u hj)
            exact ⟨cell_of_blk (j := 0) h1 rfl, rec_cell dvC_len hq i y hy 0 _ rfl⟩)
          clear hy
          go_upto_region 8 with (fail)
          refine qRegion (by kernel_rfl) (by kernel_rfl) ?_
          repeat (first
            | (go_big_quiet_want; refine qVal (fun V hV => (by (obtain ⟨q0, q1⟩ := HQ.out V hV; go_simp; try rfl))) ?_; simp only [Act.put, List.setIfInBounds_toArray, List.set_cons_zero, List.set_cons_succ]; go_big_quiet_on)
            | go_big_quiet_skip)
          refine wpQuiet_nil ?_
          intro w3 hb3
          clear HQ
          go_wp2_with (fail)
          go_meet
          exact ⟨rfl, hb3⟩
      case rest =>
      obtain ⟨rfl, hb3⟩ := hcut
      obtain ⟨w3, rfl⟩ : ∃ wy : World, wy = wc := ⟨_, rfl⟩
      have hg3 := (hb3.block gx hl1).trans HG1.out
      have HB3 := Lib.hid (HB1.out.trans (hb3.mono HB1.out.size))
      have hl3 := (Array.getElem?_eq_some_iff.1 hg3).1
      have HG3 := Lib.hid hg3
      unfold dvB at hg3
      clear p0 p1 p2 p3 p4 p5 hb3 hl1 hbr1 HCL1
      have p3 := cell_of_blk (j := 3) hg3 rfl
      have p4 := cell_of_blk (j := 4) hg3 rfl
      have p5 := cell_of_blk (j := 5) hg3 rfl
      clear hg3
      go_wp2_with (fail)
      refine (HV.out _).mono ?_
      rintro e w4 ⟨rfl, hb4⟩
      have hg4 := (hb4.block gx hl3).trans HG3.out
      have HB4 := Lib.hid (HB3.out.trans (hb4.mono HB3.out.size))
      have hl4 := (Array.getElem?_eq_some_iff.1 hg4).1
      unfold dvB at hg4
      clear p3 p4 p5 hb4
      have p6 := cell_of_blk (j := 6) hg4 rfl
      clear hg4
      go_wp2_with (fail)
      go_roundw
      case rel => exact ⟨k + 1, by omega, by go_num, HB4⟩
      case measure => simp [intOf]; omega
    · have hltI : ¬ (k : Int) < (n : Int) := by omega
      go_wp2_with (fail)
      go_ret
      exact ⟨rfl, HB.out⟩
def cmpM (x y : Mk) : Int := orI [cmpI x.at_ y.at_, Lib.compareBytes (dvT x.d).data.toList (dvT y.d).data.toList]
theorem cmpM_eq {x y : Mk} (hx : x.d < 6) (hy : y.d < 6) : cmpM x y = if x.at_ < y.at_ then -1 else if y.at_ < x.at_ then 1 else if x.d < y.d then -1 else if y.d < x.d then 1 else 0 := by
  unfold cmpM
  rw [dvT_cmp hx hy]
  unfold cmpI
  simp only [orI]
  repeat' split
  all_goals first | rfl | omega
theorem cmpM_lt {x y : Mk} (hx : x.d < 6) (hy : y.d < 6) : cmpM x y < 0 ↔ mkL x y := by
  rw [cmpM_eq hx hy]
  unfold mkL
  repeat' split
  all_goals constructor <;> intro h <;> omega
theorem cmpM_le {x y : Mk} (hx : x.d < 6) (hy : y.d < 6) : cmpM x y ≤ 0 ↔ ¬ mkL y x := by
  rw [cmpM_eq hx hy]
  unfold mkL
  repeat' split
  all_goals constructor <;> intro h <;> omega
set_option maxRecDepth 100000 in
set_option maxHeartbeats 2000000 in
theorem byMoment_grow (x y : Mk) (w : World) : Calls Tryz.prog 71 #[mkW x, mkW y] w fun e w' => e = .returned (.int .i64 (cmpM x y)) ∧ ∃ q os', w' = grow (w.drewN q) os' := by
  have HC0 := Lib.hid (fun V => compare_any x.at_ y.at_ V)
  have HC1 := Lib.hid (fun V => scompare_any (dvT x.d) (dvT y.d) V)
  unfold mkW cmpM
  generalize cmpI x.at_ y.at_ = r0 at HC0 ⊢
  generalize Lib.compareBytes (dvT x.d).data.toList (dvT y.d).data.toList = r1 at HC1 ⊢
  obtain ⟨x0, x1, x2, ⟨x3, x4, x5⟩⟩ := x
  obtain ⟨y0, y1, y2, ⟨y3, y4, y5⟩⟩ := y
  simp only at HC0 HC1 ⊢
  go_enter Tryz.func71, Tryz.ntmps71
  go_wp2_with (fail)
  generalize hW : ((w.alloc (.cells #[.int .i64 x0, .string (dvT x1), .int .i64 x2, .int .i64 x3, .int .i64 x4, .int .i64 x5] 64)).alloc (.cells #[.int .i64 y0, .string (dvT y1), .int .i64 y2, .int .i64 y3, .int .i64 y4, .int .i64 y5] 64)) = W
  have hG : W = grow (w.drewN 0) #[.cells #[.int .i64 x0, .string (dvT x1), .int .i64 x2, .int .i64 x3, .int .i64 x4, .int .i64 x5] 64, .cells #[.int .i64 y0, .string (dvT y1), .int .i64 y2, .int .i64 y3, .int .i64 y4, .int .i64 y5] 64] := by rw [← hW, alloc_eq_grow, alloc_eq_grow, grow_grow]; rfl
  have hx : W.heap[w.heap.size]? = some (.cells #[.int .i64 x0, .string (dvT x1), .int .i64 x2, .int .i64 x3, .int .i64 x4, .int .i64 x5] 64) := by
    rw [← hW, Below.heap_alloc _ _ _ (by simp)]; exact heap_new w _
  have hy : W.heap[w.heap.size + 1]? = some (.cells #[.int .i64 y0, .string (dvT y1), .int .i64 y2, .int .i64 y3, .int .i64 y4, .int .i64 y5] 64) := by
    rw [← hW]; have := heap_new (w.alloc (.cells #[.int .i64 x0, .string (dvT x1), .int .i64 x2, .int .i64 x3, .int .i64 x4, .int .i64 x5] 64)) (.cells #[.int .i64 y0, .string (dvT y1), .int .i64 y2, .int .i64 y3, .int .i64 y4, .int .i64 y5] 64); simpa using this
  have p0 : W.cell? ⟨w.heap.size, 0, none⟩ = some (.int .i64 x0) := cell_of_blk hx rfl
  have p1 : W.cell? ⟨w.heap.size, 1, none⟩ = some (.string (dvT x1)) := cell_of_blk hx rfl
  have q0 : W.cell? ⟨w.heap.size + 1, 0, none⟩ = some (.int .i64 y0) := cell_of_blk hy rfl
  have q1 : W.cell? ⟨w.heap.size + 1, 1, none⟩ = some (.string (dvT y1)) := cell_of_blk hy rfl
  have HG := Lib.hid hG
  clear hW hx hy hG
  refine wp_region_still_tail 10 (by kernel_rfl) (by kernel_rfl) ?_
  simp only [List.take_succ_cons, List.take_zero, List.drop_succ_cons, List.drop_zero]
  change wpStill _ _ W.drew _ _ _
  repeat still_step
  still_call (flip_ (HC0.out _))
  repeat still_step
  still_call (flip_ (HC1.out _))
  try refine wpStill_nil ?_
  have hsz' : W.drew.heap.size = W.heap.size := rfl
  go_wp2_with (fail)
  have hcs : Cells (W.alloc (.cells #[.int .i64 r0, .int .i64 r1] 3)).drew W.heap.size 0 ([r0, r1].map (Value.int .i64)) := Cells.new W #[.int .i64 r0, .int .i64 r1] 3 (0, 0) _ rfl
  refine (or_any [r0, r1] 2 2 W.heap.size _ rfl (by omega) hcs).mono ?_
  rintro e w' ⟨rfl, rfl⟩
  go_wp2_with (fail)
  go_ret
  refine ⟨rfl, 1, #[.cells #[.int .i64 x0, .string (dvT x1), .int .i64 x2, .int .i64 x3, .int .i64 x4, .int .i64 x5] 64, .cells #[.int .i64 y0, .string (dvT y1), .int .i64 y2, .int .i64 y3, .int .i64 y4, .int .i64 y5] 64] ++ #[.cells #[.int .i64 r0, .int .i64 r1] 3], ?_⟩
  rw [HG.out, alloc_eq_grow, grow_grow]
  rfl
theorem byMoment_any (x y : Mk) (w : World) : Calls Tryz.prog 71 #[mkW x, mkW y] w fun e w' => e = .returned (.int .i64 (cmpM x y)) ∧ Below w.heap.size w w' := by
  refine (byMoment_grow x y w).mono ?_
  rintro e w' ⟨rfl, q, os, rfl⟩
  exact ⟨rfl, grow_below w q os⟩
set_option maxRecDepth 100000 in
set_option maxHeartbeats 4000000 in
theorem checkMarks_any (l : List Mk) (n c : Nat) (A : Option Addr) (w : World) (hl : MksOk l) (hn : l.length = n) (hr : Row w w.heap.size A (recs mkC l)) :
    Calls Tryz.prog 21 #[.slice A n c] w fun e w' => e = .returned (.int .i64 0) ∧ Below w.heap.size w w' := by
  have HF := Lib.hid hl
  have HN := Lib.hid hn
  have HR := Lib.hid hr
  have hn6 : n ≤ 14 := by rw [← hn]; exact hl.n
  have hnI : ¬ (3000 : Int) < (n : Int) := by omega
  clear hl hn hr
  go_enter Tryz.func21, Tryz.ntmps21
  go_wp2_with (fail)
  go_loopw [10] (fun i wr => ∃ k : Nat, k ≤ n ∧ i = .int .i64 (k : Int) ∧ Hid (Below w.heap.size w wr)) (fun i _ => n - (intOf i).toNat)
  case atStart => exact ⟨0, Nat.zero_le _, rfl, Lib.hid (Below.refl _ _)⟩
  case round =>
    obtain ⟨k, hk, rfl, HB⟩ := hrel
    by_cases hlt : k < n
    · have hltI : (k : Int) < (n : Int) := by omega
      obtain ⟨x, hx⟩ : ∃ x, l[k]? = some x := ⟨_, List.getElem?_eq_getElem (by have := HN.out; omega)⟩
      have hxo := HF.out.ok x (List.mem_of_getElem? hx)
      have hk1 := dvT_key hxo.d
      have HXK := Lib.hid hxo.d
      obtain ⟨xa, xb⟩ := hxo.at_
      obtain ⟨xc, xd⟩ := hxo.kd
      obtain ⟨b, o, rfl, hbw, hCl⟩ := (HR.out.below HB.out).posR mkC_len (by omega) (by have := HN.out; omega)
      have hbr : b < wr.heap.size := by have := HB.out.size; omega
      have HCl := Lib.hid hCl
      have HX := Lib.hid hx
      have e0 : wr.cell? ⟨b, o + k * 6, none⟩ = some (.int .i64 x.at_) := rec_cell mkC_len hCl k x hx 0 _ rfl
      have e1 := rec_cell mkC_len hCl k x hx 1 _ rfl
      have e2 := rec_cell mkC_len hCl k x hx 2 _ rfl
      have e3 := rec_cell mkC_len hCl k x hx 3 _ rfl
      have e4 := rec_cell mkC_len hCl k x hx 4 _ rfl
      have e5 := rec_cell mkC_len hCl k x hx 5 _ rfl
      have HV := Lib.hid (fun V => version_any x.v V hxo.v)
      unfold veV at HV
      clear hCl hx
      go_upto_region 6 with (fail)
      obtain ⟨gx, egx⟩ : ∃ y, y = wr.heap.size := ⟨_, rfl⟩
      obtain ⟨w1, ew1⟩ : ∃ V : World, V = wr.alloc (.cells #[.int .i64 x.at_, .string (dvT x.d), .int .i64 x.kd, .int .i64 x.v.a, .int .i64 x.v.b, .int .i64 x.v.c] 64) := ⟨_, rfl⟩
      have hb1 : Below wr.heap.size wr w1 := by rw [ew1]; exact (Below.refl _ _).alloc (Nat.le_refl _) _
      have hg1 : w1.heap[gx]? = some (mkB x) := by rw [ew1, egx]; exact heap_new wr _
      rw [← egx, ← ew1]
      have hl1 := (Array.getElem?_eq_some_iff.1 hg1).1
      have HB1 := Lib.hid (HB.out.trans (hb1.mono HB.out.size))
      have hbr1 : b < w1.heap.size := by have := hb1.size; omega
      have HCL1 := Lib.hid (fun j u hj => (hb1.cell (p := ⟨b, o + j, none⟩) hbr).trans (HCl.out j u hj))
      have HG1 := Lib.hid hg1
      have p0 := cell_of_blk (j := 0) hg1 rfl
      have p1 := cell_of_blk (j := 1) hg1 rfl
      have p2 := cell_of_blk (j := 2) hg1 rfl
      have p3 := cell_of_blk (j := 3) hg1 rfl
      have p4 := cell_of_blk (j := 4) hg1 rfl
      have p5 := cell_of_blk (j := 5) hg1 rfl
      clear egx ew1 hb1 hg1 e0 e1 e2 e3 e4 e5 hbr
      go_wp2_with (first
        | (go_at_call 69; (with_reducible refine (key_yes _ _ hk1).mono ?_); rintro e w' ⟨rfl, rfl⟩)
        | (go_at_call 68; refine (moment_yes _ _ (by omega) (by omega)).mono ?_; rintro e w' ⟨rfl, rfl⟩)
        | (go_at_call 62; refine (out_no _ _ _ _ (by omega) (by omega)).mono ?_; rintro e w' ⟨rfl, rfl⟩))
      refine (HV.out _).mono ?_
      rintro e w2 ⟨rfl, hb2⟩
      have hg2 := (hb2.block gx hl1).trans HG1.out
      have HB2 := Lib.hid (HB1.out.trans (hb2.mono HB1.out.size))
      have hl2 := (Array.getElem?_eq_some_iff.1 hg2).1
      have hbr2 : b < w2.heap.size := by have := hb2.size; omega
      have HCL2 := Lib.hid (fun j u hj => (hb2.cell (p := ⟨b, o + j, none⟩) hbr1).trans (HCL1.out j u hj))
      have HG2 := Lib.hid hg2
      clear p0 p1 p2 p3 p4 p5 hb2 hg2
      go_upto_region 14 with (fail)
      cases k with
      | zero =>
        refine qRegion (by kernel_rfl) (by kernel_rfl) ?_
        repeat (first
          | (go_big_quiet_want; refine qVal (fun V hV => (by (go_simp; try rfl))) ?_; simp only [Act.put, List.setIfInBounds_toArray, List.set_cons_zero, List.set_cons_succ]; go_big_quiet_on)
          | go_big_quiet_skip)
        refine wpQuiet_nil ?_
        intro w3 hb3
        have HB3 := Lib.hid (HB2.out.trans (hb3.mono HB2.out.size))
        clear hb3
        go_wp2_with (fail)
        go_roundw
        case rel => exact ⟨1, by omega, by go_num, HB3⟩
        case measure => simp [intOf]; omega
      | succ i =>
        obtain ⟨y, hy⟩ : ∃ y, l[i]? = some y := ⟨_, List.getElem?_eq_getElem (by have := HN.out; omega)⟩
        have hyo := HF.out.ok y (List.mem_of_getElem? hy)
        have hle : ¬ cmpM x y ≤ 0 := by
          rw [cmpM_le HXK.out hyo.d]
          have h1 := (List.pairwise_iff_getElem.1 HF.out.ord) i (i + 1) (by have := HN.out; omega) (by have := HN.out; omega) (by omega)
          have h2 := (List.getElem?_eq_some_iff.1 hy).2
          have h3 := (List.getElem?_eq_some_iff.1 HX.out).2
          rw [h2, h3] at h1
          exact fun h => h h1
        have HBM := Lib.hid (fun V => byMoment_any x y V)
        obtain ⟨z, ez⟩ : ∃ z, z = cmpM x y := ⟨_, rfl⟩
        rw [← ez] at hle HBM
        clear ez
        have hi1 : IntKind.i64.wrap ((i : Int) + 1 - 1) = (i : Int) := by rw [IntKind.wrap_i64]; omega
        have hi2 : IntKind.i64.wrap (i : Int) = (i : Int) := by rw [IntKind.wrap_i64]; omega
        have hiR : i < n := by omega
        have hiRI : (i : Int) < (n : Int) := by omega
        have HQ := Lib.hid (fun (V : World) (hV : Below w2.heap.size w2 V) => show V.cell? ⟨gx, 0, none⟩ = some (.int .i64 x.at_) ∧ V.cell? ⟨gx, 1, none⟩ = some (.string (dvT x.d)) ∧ V.cell? ⟨gx, 2, none⟩ = some (.int .i64 x.kd) ∧ V.cell? ⟨gx, 3, none⟩ = some (.int .i64 x.v.a) ∧ V.cell? ⟨gx, 4, none⟩ = some (.int .i64 x.v.b) ∧ V.cell? ⟨gx, 5, none⟩ = some (.int .i64 x.v.c) ∧
            V.cell? ⟨b, o + i * 6, none⟩ = some (.int .i64 y.at_) ∧ V.cell? ⟨b, o + i * 6 + 1, none⟩ = some (.string (dvT y.d)) ∧ V.cell? ⟨b, o + i * 6 + 2, none⟩ = some (.int .i64 y.kd) ∧ V.cell? ⟨b, o + i * 6 + 3, none⟩ = some (.int .i64 y.v.a) ∧ V.cell? ⟨b, o + i * 6 + 4, none⟩ = some (.int .i64 y.v.b) ∧ V.cell? ⟨b, o + i * 6 + 5, none⟩ = some (.int .i64 y.v.c) from by
          have h1 := (hV.block gx hl2).trans HG2.out
          have hq : ∀ j u, (recs mkC l)[j]? = some u → V.cell? ⟨b, o + j, none⟩ = some u := fun j u hj => (hV.cell (p := ⟨b, o + j, none⟩) hbr2).trans (HCL2.out j u hj)
          exact ⟨cell_of_blk (j := 0) h1 rfl, cell_of_blk (j := 1) h1 rfl, cell_of_blk (j := 2) h1 rfl, cell_of_blk (j := 3) h1 rfl, cell_of_blk (j := 4) h1 rfl, cell_of_blk (j := 5) h1 rfl, rec_cell mkC_len hq i y hy 0 _ rfl, rec_cell mkC_len hq i y hy 1 _ rfl, rec_cell mkC_len hq i y hy 2 _ rfl, rec_cell mkC_len hq i y hy 3 _ rfl, rec_cell mkC_len hq i y hy 4 _ rfl, rec_cell mkC_len hq i y hy 5 _ rfl⟩)
        unfold mkW at HBM
        clear hy
        refine qRegion (by kernel_rfl) (by kernel_rfl) ?_
        repeat (first
          | (go_big_quiet_want; refine qVal (fun V hV => (by (obtain ⟨q0, q1, q2, q3, q4, q5, p0, p1, p2, p3, p4, p5⟩ := HQ.out V hV; go_simp; try rfl))) ?_; simp only [Act.put, List.setIfInBounds_toArray, List.set_cons_zero, List.set_cons_succ]; go_big_quiet_on)
          | (go_big_quiet_want
             refine qCall (fun V hV => (by (obtain ⟨q0, q1, q2, q3, q4, q5, p0, p1, p2, p3, p4, p5⟩ := HQ.out V hV; go_simp; exact ⟨rfl, rfl⟩))) (fun V hV => (by first
               | with_reducible exact (HBM.out V).mono (fun e w' h => ⟨h.1, hV.trans (h.2.mono hV.size)⟩))) ?_
             simp only [Act.put, List.setIfInBounds_toArray, List.set_cons_zero, List.set_cons_succ]; go_big_quiet_on)
          | go_big_quiet_skip)
        refine wpQuiet_nil ?_
        intro w3 hb3
        have HB3 := Lib.hid (HB2.out.trans (hb3.mono HB2.out.size))
        clear hb3 HQ HBM
        go_wp2_with (fail)
        go_roundw
        case rel => exact ⟨i + 2, by omega, by go_num, HB3⟩
        case measure => simp [intOf]; omega
    · have hltI : ¬ (k : Int) < (n : Int) := by omega
      go_wp2_with (fail)
      go_ret
      exact ⟨rfl, HB.out⟩
set_option maxRecDepth 100000 in
theorem zoneFault_any (z at_ : Int) (w : World) (h1 : -86400000 ≤ z ∧ z ≤ 86400000) (h2 : 0 ≤ at_ ∧ at_ ≤ 1000000) : Calls Tryz.prog 75 #[.int .i64 z, .int .i64 at_] w fun e w' => e = .returned (.int .i64 0) ∧ Below w.heap.size w w' := by
  obtain ⟨a1, a2⟩ := h1
  obtain ⟨a3, a4⟩ := h2
  go_enter Tryz.func75, Tryz.ntmps75
  go_wp2_with (first
    | (go_at_call 68; refine (moment_yes _ _ (by omega) (by omega)).mono ?_; rintro e w' ⟨rfl, rfl⟩)
    | (go_at_call 62; refine (out_no _ _ _ _ (by omega) (by omega)).mono ?_; rintro e w' ⟨rfl, rfl⟩))
  go_ret
  exact ⟨rfl, Below.refl _ _⟩
set_option maxRecDepth 100000 in
set_option maxHeartbeats 1000000 in
theorem fault_any (C : Cm) (F : List Dv) (l : List Mk) (g n c m c2 : Nat) (A A2 : Option Addr) (at_ : Int) (w : World) (hC : CmOk C) (hF : FlOk F) (hl : MksOk l) (hn : F.length = n) (hm : l.length = m) (ha : 0 ≤ at_ ∧ at_ ≤ 1000000)
    (hg : w.heap[g]? = some (cmB C)) (hw : Row w w.heap.size C.wa (recs wvC C.ws)) (hr : Row w w.heap.size A (recs dvC F)) (hr2 : Row w w.heap.size A2 (recs mkC l)) :
    Calls Tryz.prog 78 #[.pointer (some ⟨g, 0, none⟩), .slice A n c, .slice A2 m c2, .int .i64 at_] w fun e w' => e = .returned (.int .i64 0) ∧ Below w.heap.size w w' := by
  have HC := Lib.hid (checkCampaign_any C w hC hw)
  have HCF := Lib.hid (fun V (hV : Below w.heap.size w V) => checkFleet_any F n c A V hF hn ((hr.below hV).mono hV.size))
  have HCM := Lib.hid (fun V (hV : Below w.heap.size w V) => checkMarks_any l m c2 A2 V hl hm ((hr2.below hV).mono hV.size))
  obtain ⟨a1, a2⟩ := ha
  obtain ⟨N, hN⟩ : ∃ N, N = C.ws.length := ⟨_, rfl⟩
  unfold cmB at hg
  unfold cmV at HC
  rw [← hN] at hg HC
  have hgl := (Array.getElem?_eq_some_iff.1 hg).1
  have c0 := cell_of_blk (j := 0) hg rfl
  have c1 := cell_of_blk (j := 1) hg rfl
  have c2 := cell_of_blk (j := 2) hg rfl
  have c3 := cell_of_blk (j := 3) hg rfl
  have c4 := cell_of_blk (j := 4) hg rfl
  have c5 := cell_of_blk (j := 5) hg rfl
  have c6 := cell_of_blk (j := 6) hg rfl
  have c7 := cell_of_blk (j := 7) hg rfl
  have c8 := cell_of_blk (j := 8) hg rfl
  clear hg hN hw hr hr2 hn hm
  go_enter Tryz.func78, Tryz.ntmps78
  go_wp2_with (fail)
  refine HC.out.mono ?_
  rintro e w1 ⟨rfl, hb1⟩
  have HB1 := Lib.hid hb1
  clear hb1
  go_wp2_with (fail)
  refine (HCF.out w1 HB1.out).mono ?_
  rintro e w2 ⟨rfl, hb2⟩
  have HB2 := Lib.hid (HB1.out.trans (hb2.mono HB1.out.size))
  clear hb2
  go_wp2_with (fail)
  refine (HCM.out w2 HB2.out).mono ?_
  rintro e w3 ⟨rfl, hb3⟩
  have HB3 := Lib.hid (HB2.out.trans (hb3.mono HB2.out.size))
  clear hb3
  go_wp2_with (fail)
  refine (first_ok 3 3 w3.heap.size _ (by omega) (Cells.new _ _ _ _ _ rfl)).mono ?_
  rintro e w4 ⟨rfl, rfl⟩
  have HB4 := Lib.hid (fun o => HB3.out.alloc HB3.out.size o)
  go_wp2_with (go_at_call 68; refine (moment_yes _ _ (by omega) (by omega)).mono ?_; rintro e w' ⟨rfl, rfl⟩)
  go_ret
  exact ⟨rfl, HB4.out _⟩
end Go.Proofs.YtidgicbhgnbidaaGreatDoor
