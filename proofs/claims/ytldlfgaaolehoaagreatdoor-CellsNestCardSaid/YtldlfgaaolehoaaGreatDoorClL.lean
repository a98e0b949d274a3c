/- CellsNest: the law function. -/
import Derived.Test.YtldlfgaaolehoaaGreatDoorClD
import Derived.Test.YtldlfgaaolehoaaGreatDoorFeJ
import Derived.Test.YtldlfgaaolehoaaGreatDoorFeK
import Derived.Test.YtldlfgaaolehoaaGreatDoorMgA
namespace Go.Proofs.YtldlfgaaolehoaaGreatDoor
open Go.RowKit

theorem FcAt.grownC {w w' : World} {l : List Pt} {n c b o p : Nat} (h : FcAt w l n c b o) (hg : w.grownBy w' (some p)) (hb : b ≠ p) : FcAt w' l n c b o :=
  ⟨h.ok, h.len, h.cap, h.cells.keep (hg.block b h.lt (by intro e; injection e with e; omega)), Nat.lt_of_lt_of_le h.lt hg.size⟩
/-- A spot that the stream makes between bounds, and a level. -/
theorem range_sp (w : World) (p k : Nat) (xs : List Int) (hk : k < 1000000) (hs : Strm w p xs k) (lo hi : Int) (h1 : -1000000 ≤ lo) (h2 : lo ≤ hi) (h3 : hi ≤ 1000000) :
    Calls Tryz.prog 20 #[.pointer (some ⟨p, 0, none⟩), .int .i64 lo, .int .i64 hi] w fun e w' => (∃ X : Int, e = .returned (.int .i64 X) ∧ lo ≤ X ∧ X ≤ hi) ∧ Strm w' p xs (k + 1) ∧ w.grownBy w' (some p) := by
  refine (range_any w p k xs lo hi hk (by omega) h2 (by omega) (by omega) hs).mono ?_
  rintro e w' ⟨rfl, h⟩
  have hn := nextV_range xs k (hi - lo + 1) (by omega)
  exact ⟨⟨_, rfl, by omega, by omega⟩, h⟩
theorem key_cut (ds : List Nat) (d : Nat) : (kyB (ds ++ [d])).extract 0 ds.length = kyB ds := by
  unfold kyB
  apply ByteArray.ext
  simp
/-- What the fence's cells are. -/
structure CfOk (l : List Pt) (q : Pt) (F : List (List Nat)) : Prop where
  ds : ∀ x ∈ F, isDs x
  sorted : F.Pairwise ltD
  has : F.length ≤ 1000 → whI l q ≠ 0 → cellD q 11 ∈ F
theorem cf_ok (l : List Pt) (q : Pt) (hq : SpN q) : CfOk l q (clF l 11 [] []) := by
  obtain ⟨N, e, h⟩ := clF_ok l 11 [] []
  rw [e]
  simp only [List.nil_append]
  have q1 := hq.x0; have q2 := hq.x1; have q3 := hq.y0; have q4 := hq.y1
  refine ⟨?_, h.sorted, ?_⟩
  · intro x hx
    obtain ⟨s, h1, _, h3⟩ := h.shape x hx
    rw [h1]
    simpa using h3
  · intro hl hw
    have hi := (whI_inn l q).1 hw
    have := h.all (by simpa using hl) (cellD q 11) (cellD_length q 11) (cellD_ds q 11) (by
      intro j hj
      rw [List.nil_append, cellD_take q 11 j hj]
      exact cell_touch hi (by omega) (by omega) (by omega) (by omega) j (by omega))
    simpa using this

set_option maxRecDepth 100000 in
set_option maxHeartbeats 8000000 in
theorem clL_yes (w : World) (xs : List Int) (n c : Nat) (A : Option Addr) (hs : ∀ (W : World), Below w.heap.size w W → W.heap[w.heap.size]? = some (.cells #[.slice A n c, .int .i64 0] 25) → Strm W w.heap.size xs 0) :
    Calls Tryz.prog 9 #[.slice A n c] w fun e w' => e = .returned (.bool true) ∧ Below w.heap.size w w' := by
  have HS := Lib.hid hs
  clear hs
  go_enter Tryz.func9, Tryz.ntmps9
  go_wp2_with (fail)
  generalize hW : w.alloc (.cells #[.slice A n c, .int .i64 0] 25) = W
  have hWs : W.heap.size = w.heap.size + 1 := by rw [← hW]; simp
  have hB0 : Below w.heap.size w W := hW ▸ (Below.refl _ _).alloc (Nat.le_refl _) _
  have HS0 := Lib.hid (HS.out W hB0 (by rw [← hW]; exact heap_new w _))
  have HB0 := Lib.hid hB0
  obtain ⟨p, ep⟩ : ∃ p, p = w.heap.size := ⟨_, rfl⟩
  rw [← ep] at HS0 ⊢
  have hpW : p < W.heap.size := by omega
  have HP := Lib.hid ep
  clear hW hB0 HS ep
  refine (range_sp W p 0 xs (by omega) HS0.out (-10000) 10000 (by omega) (by omega) (by omega)).mono ?_
  rintro e w1 ⟨⟨X, rfl, hX1, hX2⟩, hst1, hg1⟩
  have HST1 := Lib.hid hst1
  have HG1 := Lib.hid hg1
  have hs1 := hg1.size
  clear hst1 hg1 HS0
  go_wp2_with (fail)
  refine (range_sp w1 p 1 xs (by omega) HST1.out (-10000) 10000 (by omega) (by omega) (by omega)).mono ?_
  rintro e w2 ⟨⟨Y, rfl, hY1, hY2⟩, hst2, hg2⟩
  have HST2 := Lib.hid hst2
  have HG2 := Lib.hid (grown_trans HG1.out hg2)
  have hs2 := hg2.size
  clear hst2 hg2 HST1 HG1
  go_wp2_with (fail)
  refine (range_sp w2 p 2 xs (by omega) HST2.out 1 15 (by omega) (by omega) (by omega)).mono ?_
  rintro e w3 ⟨⟨N, rfl, hN1, hN2⟩, hst3, hg3⟩
  have HST3 := Lib.hid hst3
  have HG3 := Lib.hid (grown_trans HG2.out hg3)
  have hs3 := hg3.size
  obtain ⟨M, rfl⟩ : ∃ M : Nat, N = (M : Int) + 1 := ⟨(N - 1).toNat, by omega⟩
  have hM : M ≤ 14 := by omega
  clear hst3 hg3 HST2 HG2 hN1 hN2
  go_upto_region 3 with (fail)
  obtain ⟨ga, ega⟩ : ∃ g, g = w3.heap.size := ⟨_, rfl⟩
  generalize hV : w3.alloc (.cells #[.int .i64 X, .int .i64 Y] 83) = V
  have hBV : Below w3.heap.size w3 V := hV ▸ (Below.refl _ _).alloc (Nat.le_refl _) _
  have hvb : V.heap[ga]? = some (.cells #[.int .i64 X, .int .i64 Y] 83 (0, 0)) := by rw [← hV, ega]; exact heap_new w3 _
  have hgaV : ga < V.heap.size := (Array.getElem?_eq_some_iff.1 hvb).1
  have HQA := Lib.hid (fun (U : World) (hU : Below V.heap.size V U) => show U.cell? ⟨ga, 0, none⟩ = some (.int .i64 X) ∧ U.cell? ⟨ga, 1, none⟩ = some (.int .i64 Y) from by
    have h := (hU.block ga hgaV).trans hvb
    exact ⟨cell_of_blk (j := 0) h rfl, cell_of_blk (j := 1) h rfl⟩)
  have HSV := Lib.hid (HST3.out.below hBV)
  have hB3 : Below w.heap.size w w3 := HB0.out.grown HG3.out (by have := HP.out; omega) (fun g hg => by injection hg with hg; have := HP.out; omega)
  have HBV := Lib.hid (hB3.trans (hBV.mono hB3.size))
  have hwV : w.heap.size ≤ V.heap.size := by have := HBV.out.size; omega
  have hpV : p < V.heap.size := by have := HP.out; omega
  have HPA : SpN (X, Y) := ⟨by simp only; omega, by simp only; omega, by simp only; omega, by simp only; omega⟩
  have HC1 := Lib.hid (fun U => by
    have h := cellF_any (X, Y) (M + 1) U HPA (by omega)
    rw [show ((M + 1 : Nat) : Int) = (M : Int) + 1 by omega] at h
    exact h)
  have HC2 := Lib.hid (fun U => cellF_any (X, Y) M U HPA (by omega))
  have HC3 := Lib.hid (fun U => boxF_any (cellD (X, Y) (M + 1)) U (cellD_ds _ _) (by rw [cellD_length]; omega))
  obtain ⟨b1, b2, b3, b4⟩ := cellD_in (X, Y) (by simp only; omega) (by simp only; omega) (by simp only; omega) (by simp only; omega) (M + 1) (by omega)
  have hfi := bx_fine (cellD (X, Y) (M + 1)) (cellD_ds _ _) (by rw [cellD_length]; omega)
  have hsz := kyB_size (cellD (X, Y) (M + 1))
  rw [cellD_length] at hsz
  have hcut : (kyB (cellD (X, Y) (M + 1))).extract 0 M = kyB (cellD (X, Y) M) := by
    have h := key_cut (cellD (X, Y) M) (dgt (X, Y) M)
    rw [cellD_length] at h
    rw [cellD_succ]
    exact h
  obtain ⟨cx, ecx⟩ : ∃ x, x = (bxOf (cellD (X, Y) (M + 1))).1 := ⟨_, rfl⟩
  obtain ⟨cy, ecy⟩ : ∃ x, x = (bxOf (cellD (X, Y) (M + 1))).2.1 := ⟨_, rfl⟩
  obtain ⟨L, eL⟩ : ∃ x, x = (bxOf (cellD (X, Y) (M + 1))).2.2 := ⟨_, rfl⟩
  rw [← ecx, ← ecy, ← eL] at HC3
  rw [← ecx, ← eL] at b2
  rw [← ecx] at b1
  rw [← ecy, ← eL] at b4
  rw [← ecy] at b3
  rw [← ecx, ← ecy, ← eL] at hfi
  have f1 := hfi.2.1; have f2 := hfi.2.2.1; have f3 := hfi.2.2.2.1; have f4 := hfi.2.2.2.2.1; have f5 := hfi.2.2.2.2.2
  clear hfi
  obtain ⟨ka, eka⟩ : ∃ k, k = kyB (cellD (X, Y) (M + 1)) := ⟨_, rfl⟩
  obtain ⟨kb, ekb⟩ : ∃ k, k = kyB (cellD (X, Y) M) := ⟨_, rfl⟩
  rw [← eka] at HC1 HC3 hsz hcut
  rw [← ekb] at HC2 hcut
  unfold ptV at HC1 HC2
  simp only at HC1 HC2 b1 b2 b3 b4
  have g1 : ¬ X < cx := by omega
  have g2 : ¬ cx + L ≤ X := by omega
  have g3 : ¬ Y < cy := by omega
  have g4 : ¬ cy + L ≤ Y := by omega
  have HCUT := Lib.hid hcut
  have HSZ := Lib.hid hsz
  obtain ⟨q0, q1⟩ := HQA.out V (Below.refl _ _)
  rw [← ega]
  clear hV hBV hvb hB3 HST3 HG3 HPA ecx ecy eL eka ekb hcut hsz ega
  go_wp2_with (fail)
  refine (HC1.out V).mono ?_
  rintro e w4 ⟨rfl, hb4⟩
  have HB4 := Lib.hid hb4
  clear hb4 q0 q1
  obtain ⟨q0, q1⟩ := HQA.out w4 HB4.out
  have hw4 : (M : Int) + 1 - 1 = (M : Int) := by omega
  go_wp2_with (fail)
  refine (HC2.out w4).mono ?_
  rintro e w5 ⟨rfl, hb5⟩
  have HB5 := Lib.hid (HB4.out.trans (hb5.mono HB4.out.size))
  clear hb5 q0 q1
  go_wp2_with (fail)
  refine (HC3.out w5).mono ?_
  rintro e w6 ⟨rfl, hb6⟩
  have HB6 := Lib.hid (HB5.out.trans (hb6.mono HB5.out.size))
  clear hb6
  go_upto_region 6 with (fail)
  obtain ⟨gc, egc⟩ : ∃ g, g = w6.heap.size := ⟨_, rfl⟩
  generalize hU : w6.alloc (.cells #[.int .i64 cx, .int .i64 cy] 83) = U
  have hBU : Below w6.heap.size w6 U := hU ▸ (Below.refl _ _).alloc (Nat.le_refl _) _
  have hub : U.heap[gc]? = some (.cells #[.int .i64 cx, .int .i64 cy] 83 (0, 0)) := by rw [← hU, egc]; exact heap_new w6 _
  have hgcU : gc < U.heap.size := (Array.getElem?_eq_some_iff.1 hub).1
  have HBU := Lib.hid (HB6.out.trans (hBU.mono HB6.out.size))
  have HSU := Lib.hid (HSV.out.below HBU.out)
  have HBwU := Lib.hid (HBV.out.trans (HBU.out.mono HBV.out.size))
  rw [← egc]
  have HE := Lib.hid (show Cells (U.alloc (.cells #[.int .i64 0, .int .i64 0, .int .i64 0] 29)) U.heap.size 0 (List.replicate 3 (.int .i64 0)) from Cells.new _ _ _ _ _ rfl)
  have HUB := Lib.hid hub
  have hcut := HCUT.out
  have hsz := HSZ.out
  have hszI : (ka.size : Int) = (M : Int) + 1 := by omega
  have hM1 : (M : Int) ≤ (M : Int) + 1 := by omega
  have hM2 : M ≤ M + 1 := by omega
  have wx1 : IntKind.i64.wrap (cx + L) = cx + L := by rw [IntKind.wrap_i64]; omega
  have wy1 : IntKind.i64.wrap (cy + L) = cy + L := by rw [IntKind.wrap_i64]; omega
  clear hU hBU hub egc
  go_wp2_with (first | (go_at_call 14; refine (errs_ok 3 3 _ _ (by omega) HE.out).mono ?_; rintro e w' ⟨rfl, rfl⟩; generalize hZ : U.alloc (.cells #[.int .i64 0, .int .i64 0, .int .i64 0] 29) = Z; have HBZ := Lib.hid (show Below U.heap.size U Z from hZ ▸ (Below.refl _ _).alloc (Nat.le_refl _) _); obtain ⟨q0, q1⟩ := HQA.out Z (HBU.out.trans (HBZ.out.mono HBU.out.size)); have hz := (HBZ.out.block gc hgcU).trans HUB.out; have q2 := cell_of_blk (j := 0) hz rfl; have q3 := cell_of_blk (j := 1) hz rfl; clear hZ hz HE))
  have HSZ2 := Lib.hid (HSU.out.below HBZ.out)
  have HBwZ := Lib.hid (HBwU.out.trans (HBZ.out.mono HBwU.out.size))
  have hpZ : p < Z.heap.size := by have := HBwZ.out.size; have := HP.out; have h1 := HBU.out.size; have h2 := HBZ.out.size; omega
  clear q0 q1 q2 q3 hcut hsz hszI hM1 hM2 wx1 wy1 hw4
  refine (rightFence_any Z p 3 xs (by omega) HSZ2.out).mono ?_
  rintro e z1 ⟨l, n1, c1, b1_, k1, rfl, hf1, hb1_, hB1, hn1, hst1, hk1, hg1⟩
  have HF1 := Lib.hid hf1
  have HT1 := Lib.hid hst1
  have HGZ1 := Lib.hid hg1
  have hzs1 := hg1.size
  clear hf1 hB1 hst1 hg1
  unfold fcV
  go_wp2_with (fail)
  refine (place_any z1 p k1 xs (by omega) HT1.out).mono ?_
  rintro e z2 ⟨PX, PY, rfl, hXY, hst2, hg2⟩
  have HF2 := Lib.hid (HF1.out.grownC hg2 (by omega))
  have hzs2 := hg2.size
  have HB2 := Lib.hid (HBwZ.out.grown (grown_trans HGZ1.out hg2) HBwZ.out.size (fun g hg => by injection hg with hg; have := HP.out; omega))
  have hsp : SpN (PX, PY) := ⟨by simp only; omega, by simp only; omega, by simp only; omega, by simp only; omega⟩
  clear hst2 hg2 HF1 HT1 HGZ1
  go_upto_region 9 with (fail)
  obtain ⟨gd, egd⟩ : ∃ g, g = z2.heap.size := ⟨_, rfl⟩
  generalize hT : (z2.alloc (.cells #[.string ⟨#[102]⟩, .slice (some ⟨b1_, 0, none⟩) n1 c1] 80)).alloc (.cells #[.int .i64 PX, .int .i64 PY] 83) = T
  have hBT : Below z2.heap.size z2 T := by rw [← hT]; exact ((Below.refl _ _).alloc (Nat.le_refl _) _).alloc (by simp) _
  have ht0 : T.heap[gd]? = some (.cells #[.string ⟨#[102]⟩, .slice (some ⟨b1_, 0, none⟩) n1 c1] 80 (0, 0)) := by rw [← hT, egd, Below.heap_alloc _ _ _ (by simp)]; exact heap_new z2 _
  have ht1 : T.heap[gd + 1]? = some (.cells #[.int .i64 PX, .int .i64 PY] 83 (0, 0)) := by
    rw [← hT, egd]
    have h := heap_new (z2.alloc (.cells #[.string ⟨#[102]⟩, .slice (some ⟨b1_, 0, none⟩) n1 c1] 80)) (.cells #[.int .i64 PX, .int .i64 PY] 83)
    rwa [World.size_alloc] at h
  have hgdT : gd + 1 < T.heap.size := (Array.getElem?_eq_some_iff.1 ht1).1
  have HQT := Lib.hid (fun (V : World) (hV : Below T.heap.size T V) => show V.cell? ⟨gd, 0, none⟩ = some (.string ⟨#[102]⟩) ∧ V.cell? ⟨gd, 1, none⟩ = some (.slice (some ⟨b1_, 0, none⟩) n1 c1) ∧ V.cell? ⟨gd + 1, 0, none⟩ = some (.int .i64 PX) ∧ V.cell? ⟨gd + 1, 1, none⟩ = some (.int .i64 PY) from by
    have h0 := (hV.block gd (by omega)).trans ht0
    have h1 := (hV.block (gd + 1) hgdT).trans ht1
    exact ⟨cell_of_blk (j := 0) h0 rfl, cell_of_blk (j := 1) h0 rfl, cell_of_blk (j := 0) h1 rfl, cell_of_blk (j := 1) h1 rfl⟩)
  have HFT := Lib.hid (HF2.out.below hBT)
  have HBT := Lib.hid (HB2.out.trans (hBT.mono HB2.out.size))
  have HW1 := Lib.hid (fun (V : World) (hV : Below T.heap.size T V) => whereF_any l (PX, PY) n1 c1 b1_ 0 V (HFT.out.below hV) hsp)
  have HW2 := Lib.hid (fun V => cellF_any (PX, PY) 11 V hsp (by omega))
  have HW3 := Lib.hid (fun (V : World) (hV : Below T.heap.size T V) => cellsF_any l n1 c1 b1_ 0 11 V (HFT.out.below hV) (by omega))
  have hcf := cf_ok l (PX, PY) hsp
  obtain ⟨F, eF⟩ : ∃ F, F = clF l 11 [] [] := ⟨_, rfl⟩
  have HEF := Lib.hid eF
  rw [← eF] at hcf
  have HCF := Lib.hid hcf
  obtain ⟨wv, ewv⟩ : ∃ v, v = whI l (PX, PY) := ⟨_, rfl⟩
  have HWV := Lib.hid ewv
  rw [← ewv] at HW1
  obtain ⟨kq, ekq⟩ : ∃ k, k = kyB (cellD (PX, PY) 11) := ⟨_, rfl⟩
  have HKQ := Lib.hid ekq
  rw [← ekq] at HW2
  unfold fcV ptV at HW1
  unfold ptV at HW2
  unfold fcV at HW3
  simp only at HW1 HW2
  rw [← egd]
  obtain ⟨q0, q1, q2, q3⟩ := HQT.out T (Below.refl _ _)
  clear hT hBT ht0 ht1 egd hcf eF ewv ekq HF2 HB2 hsp HFT
  go_wp2_with (fail)
  refine (HW1.out T (Below.refl _ _)).mono ?_
  rintro e t1 ⟨rfl, hb1⟩
  have HT1 := Lib.hid hb1
  clear hb1 q0 q1 q2 q3
  obtain ⟨q0, q1, q2, q3⟩ := HQT.out t1 HT1.out
  go_wp2_with (fail)
  refine (HW2.out t1).mono ?_
  rintro e t2 ⟨rfl, hb2⟩
  have HT2 := Lib.hid (HT1.out.trans (hb2.mono HT1.out.size))
  clear hb2 q0 q1 q2 q3
  obtain ⟨q0, q1, q2, q3⟩ := HQT.out t2 HT2.out
  go_wp2_with (fail)
  refine (HW3.out t2 HT2.out).mono ?_
  rintro e t3 ⟨hb3, hcs⟩
  have HT3 := Lib.hid (HT2.out.trans (hb3.mono HT2.out.size))
  have HBT3 := Lib.hid (HBT.out.trans (HT3.out.mono HBT.out.size))
  clear hb3 q0 q1 q2 q3
  rcases hcs with rfl | ⟨v, rfl, hlen, hown⟩
  · go_wp2_with (fail)
    refine (ready_yes _).mono ?_
    rintro e t4 ⟨rfl, hb4⟩
    have HB9 := Lib.hid (HBT3.out.trans (hb4.mono HBT3.out.size))
    clear hb4
    go_wp2_with (fail)
    go_ret
    exact ⟨rfl, HB9.out⟩
  · rw [← HEF.out] at hlen hown
    obtain ⟨m, em⟩ : ∃ m, m = F.length := ⟨_, rfl⟩
    have HM := Lib.hid em.symm
    rw [← em] at hlen hown
    obtain ⟨A8, c8, rfl⟩ := own_slice hown
    have HOW := Lib.hid hown
    have HSO := Lib.hid (sortedS_yes F m c8 A8 t3 HM.out (by omega) (own_row hown) HCF.out.ds HCF.out.sorted)
    clear hown em
    go_wp2_with (fail)
    refine HSO.out.mono ?_
    rintro e t4 ⟨rfl, hb4⟩
    have HB4_ := Lib.hid (HBT3.out.trans (hb4.mono HBT3.out.size))
    have HO4 := Lib.hid (own_below HOW.out hb4)
    clear hb4
    by_cases hwv : wv = 0
    · subst hwv
      go_wp2_with (fail)
      refine (ready_yes _).mono ?_
      rintro e t5 ⟨rfl, hb5⟩
      have HB9 := Lib.hid (HB4_.out.trans (hb5.mono HB4_.out.size))
      clear hb5
      go_wp2_with (fail)
      go_ret
      exact ⟨rfl, HB9.out⟩
    · have hwb : (wv == 0) = false := by simpa using hwv
      have hmem := HCF.out.has (by rw [HM.out]; exact hlen) (by rw [← HWV.out]; exact hwv)
      obtain ⟨g, rfl, _, hg4⟩ : ∃ g, A8 = some ⟨g, 0, none⟩ ∧ t2.heap.size ≤ g ∧ g < t4.heap.size := by
        rcases own_two HO4.out with ⟨_, h, _⟩ | h
        · have h1 := List.length_pos_of_mem hmem
          have h2 := HM.out
          omega
        · exact h
      have HCN := Lib.hid (containsS_yes F (cellD (PX, PY) 11) m c8 g 0 t4 HM.out (by omega) hmem (own_cells0 HO4.out) hg4)
      rw [← HKQ.out] at HCN
      clear hmem hwv
      go_wp2_with (fail)
      refine HCN.out.mono ?_
      rintro e t5 ⟨rfl, hb5⟩
      have HB5_ := Lib.hid (HB4_.out.trans (hb5.mono HB4_.out.size))
      clear hb5
      go_wp2_with (fail)
      refine (ready_yes _).mono ?_
      rintro e t6 ⟨rfl, hb6⟩
      have HB9 := Lib.hid (HB5_.out.trans (hb6.mono HB5_.out.size))
      clear hb6
      go_wp2_with (fail)
      go_ret
      exact ⟨rfl, HB9.out⟩
end Go.Proofs.YtldlfgaaolehoaaGreatDoor
