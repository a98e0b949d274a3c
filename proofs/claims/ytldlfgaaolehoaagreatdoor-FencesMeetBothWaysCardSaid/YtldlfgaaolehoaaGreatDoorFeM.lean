/- FencesMeetBothWays: the law function. -/
import Derived.Test.YtldlfgaaolehoaaGreatDoorFeJ
import Derived.Test.YtldlfgaaolehoaaGreatDoorFeK
import Derived.Test.YtldlfgaaolehoaaGreatDoorFeT
import Derived.Test.YtldlfgaaolehoaaGreatDoorMgA
namespace Go.Proofs.YtldlfgaaolehoaaGreatDoor
open Go.RowKit

theorem FcAt.grown {w w' : World} {l : List Pt} {n c b o p : Nat} (h : FcAt w l n c b o) (hg : w.grownBy w' (some p)) (hb : b ≠ p) : FcAt w' l n c b o :=
  ⟨h.ok, h.len, h.cap, h.cells.keep (hg.block b h.lt (by intro e; injection e with e; omega)), Nat.lt_of_lt_of_le h.lt hg.size⟩

set_option maxRecDepth 100000 in
set_option maxHeartbeats 8000000 in
theorem feL_yes (w : World) (xs : List Int) (n c : Nat) (A : Option Addr) (hs : ∀ (W : World), Below w.heap.size w W → W.heap[w.heap.size]? = some (.cells #[.slice A n c, .int .i64 0] 25) → Strm W w.heap.size xs 0) :
    Calls Tryz.prog 6 #[.slice A n c] w fun e w' => e = .returned (.bool true) ∧ Below w.heap.size w w' := by
  have HS := Lib.hid hs
  clear hs
  go_enter Tryz.func6, Tryz.ntmps6
  go_wp2_with (fail)
  generalize hW : w.alloc (.cells #[.slice A n c, .int .i64 0] 25) = W
  have hWs : W.heap.size = w.heap.size + 1 := by rw [← hW]; simp
  have hB0 : Below w.heap.size w W := hW ▸ (Below.refl _ _).alloc (Nat.le_refl _) _
  have HS0 := Lib.hid (HS.out W hB0 (by rw [← hW]; exact heap_new w _))
  have HB0 := Lib.hid hB0
  obtain ⟨p, ep⟩ : ∃ p, p = w.heap.size := ⟨_, rfl⟩
  rw [← ep] at HS0 ⊢
  have hpW : p < W.heap.size := by omega
  have HP := Lib.hid ep
  clear hW hB0 HS ep
  refine (rightFence_any W p 0 xs (by omega) HS0.out).mono ?_
  rintro e w1 ⟨l, n1, c1, b1, k1, rfl, hf1, hb1, hB1, hn1, hst1, hk1, hg1⟩
  have HF1 := Lib.hid hf1
  have HST1 := Lib.hid hst1
  have HG1 := Lib.hid hg1
  have hs1 := hg1.size
  clear hf1 hB1 hst1 hg1 HS0
  unfold fcV
  go_wp2_with (fail)
  refine (rightFence_any w1 p k1 xs (by omega) HST1.out).mono ?_
  rintro e w2 ⟨m, n2, c2, b2, k2, rfl, hf2, hb2, hB2, hn2, hst2, hk2, hg2⟩
  have HF2 := Lib.hid hf2
  have HF12 := Lib.hid (HF1.out.grown hg2 (by omega))
  have HST2 := Lib.hid hst2
  have HG2 := Lib.hid (grown_trans HG1.out hg2)
  have hs2 := hg2.size
  clear hf2 hB2 hst2 hg2 HF1 HST1 HG1
  unfold fcV
  go_wp2_with (fail)
  refine (place_any w2 p k2 xs (by omega) HST2.out).mono ?_
  rintro e w3 ⟨X, Y, rfl, hXY, hst3, hg3⟩
  have hs3 := hg3.size
  have HF13 := Lib.hid (HF12.out.grown hg3 (by omega))
  have HF23 := Lib.hid (HF2.out.grown hg3 (by omega))
  have HB3 := Lib.hid (HB0.out.grown (grown_trans HG2.out hg3) (by have := HP.out; omega) (fun g hg => by injection hg with hg; have := HP.out; omega))
  have hsp : SpN (X, Y) := ⟨by simp only; omega, by simp only; omega, by simp only; omega, by simp only; omega⟩
  clear hst3 hg3 HF12 HF2 HST2 HG2
  go_upto_region 3 with (fail)
  generalize hV : ((w3.alloc (.cells #[.string ⟨#[102]⟩, .slice (some ⟨b1, 0, none⟩) n1 c1] 80)).alloc (.cells #[.string ⟨#[102]⟩, .slice (some ⟨b2, 0, none⟩) n2 c2] 80)).alloc (.cells #[.int .i64 X, .int .i64 Y] 83) = V
  have hVs : V.heap.size = w3.heap.size + 1 + 1 + 1 := by rw [← hV]; simp
  have hBV : Below w3.heap.size w3 V := by rw [← hV]; exact below3 _ _ _ _
  have hv0 : V.heap[w3.heap.size]? = some (.cells #[.string ⟨#[102]⟩, .slice (some ⟨b1, 0, none⟩) n1 c1] 80 (0, 0)) := by rw [← hV, Below.heap_alloc _ _ _ (by simp; omega), Below.heap_alloc _ _ _ (by simp)]; exact heap_new w3 _
  have hv1 : V.heap[w3.heap.size + 1]? = some (.cells #[.string ⟨#[102]⟩, .slice (some ⟨b2, 0, none⟩) n2 c2] 80 (0, 0)) := by
    rw [← hV, Below.heap_alloc _ _ _ (by simp)]
    have h := heap_new (w3.alloc (.cells #[.string ⟨#[102]⟩, .slice (some ⟨b1, 0, none⟩) n1 c1] 80)) (.cells #[.string ⟨#[102]⟩, .slice (some ⟨b2, 0, none⟩) n2 c2] 80)
    rwa [World.size_alloc] at h
  have hv2 : V.heap[w3.heap.size + 1 + 1]? = some (.cells #[.int .i64 X, .int .i64 Y] 83 (0, 0)) := by
    rw [← hV]
    have h := heap_new ((w3.alloc (.cells #[.string ⟨#[102]⟩, .slice (some ⟨b1, 0, none⟩) n1 c1] 80)).alloc (.cells #[.string ⟨#[102]⟩, .slice (some ⟨b2, 0, none⟩) n2 c2] 80)) (.cells #[.int .i64 X, .int .i64 Y] 83)
    rwa [World.size_alloc, World.size_alloc] at h
  have HQ := Lib.hid (fun (U : World) (hU : Below V.heap.size V U) => show U.cell? ⟨w3.heap.size, 0, none⟩ = some (.string ⟨#[102]⟩) ∧ U.cell? ⟨w3.heap.size, 1, none⟩ = some (.slice (some ⟨b1, 0, none⟩) n1 c1) ∧ U.cell? ⟨w3.heap.size + 1, 0, none⟩ = some (.string ⟨#[102]⟩) ∧ U.cell? ⟨w3.heap.size + 1, 1, none⟩ = some (.slice (some ⟨b2, 0, none⟩) n2 c2) ∧ U.cell? ⟨w3.heap.size + 1 + 1, 0, none⟩ = some (.int .i64 X) ∧ U.cell? ⟨w3.heap.size + 1 + 1, 1, none⟩ = some (.int .i64 Y) from by
    have h0 := (hU.block w3.heap.size (by omega)).trans hv0
    have h1 := (hU.block (w3.heap.size + 1) (by omega)).trans hv1
    have h2 := (hU.block (w3.heap.size + 1 + 1) (by omega)).trans hv2
    exact ⟨cell_of_blk (j := 0) h0 rfl, cell_of_blk (j := 1) h0 rfl, cell_of_blk (j := 0) h1 rfl, cell_of_blk (j := 1) h1 rfl, cell_of_blk (j := 0) h2 rfl, cell_of_blk (j := 1) h2 rfl⟩)
  have hfl : 0 < l.length := by have := HF13.out.ok.lo; omega
  have HLM := Lib.hid (fun (h : tcB l m = false) => show whI l (X, Y) = 0 ∨ whI m (X, Y) = 0 from by
    by_cases h1 : whI l (X, Y) = 0
    · exact .inl h1
    · by_cases h2 : whI m (X, Y) = 0
      · exact .inr h2
      · have := tcB_inn ((whI_inn l (X, Y)).1 h1) ((whI_inn m (X, Y)).1 h2)
        rw [h] at this
        cases this)
  have HFV1 := Lib.hid (HF13.out.below hBV)
  have HFV2 := Lib.hid (HF23.out.below hBV)
  have HC1 := Lib.hid (fun (U : World) (hU : Below V.heap.size V U) => meetF_any l m n1 c1 b1 0 n2 c2 b2 0 U (HFV1.out.below hU) (HFV2.out.below hU))
  have HC2 := Lib.hid (fun (U : World) (hU : Below V.heap.size V U) => by
    have h := meetF_any m l n2 c2 b2 0 n1 c1 b1 0 U (HFV2.out.below hU) (HFV1.out.below hU)
    rw [tcB_symm l m] at h
    exact h)
  have HC3 := Lib.hid (fun (U : World) (hU : Below V.heap.size V U) => by
    have h := meetF_any l l n1 c1 b1 0 n1 c1 b1 0 U (HFV1.out.below hU) (HFV1.out.below hU)
    rw [tcB_self hfl] at h
    exact h)
  have HC4 := Lib.hid (fun (U : World) (hU : Below V.heap.size V U) => whereF_any l (X, Y) n1 c1 b1 0 U (HFV1.out.below hU) hsp)
  have HC5 := Lib.hid (fun (U : World) (hU : Below V.heap.size V U) => whereF_any m (X, Y) n2 c2 b2 0 U (HFV2.out.below hU) hsp)
  obtain ⟨r, er⟩ : ∃ r, r = tcB l m := ⟨_, rfl⟩
  obtain ⟨x, ex⟩ : ∃ x, x = whI l (X, Y) := ⟨_, rfl⟩
  obtain ⟨y, ey⟩ : ∃ y, y = whI m (X, Y) := ⟨_, rfl⟩
  rw [← er, ← ex, ← ey] at HLM
  rw [← er] at HC1 HC2
  rw [← ex] at HC4
  rw [← ey] at HC5
  unfold fcV at HC1 HC2 HC3 HC4 HC5
  unfold ptV at HC4 HC5
  simp only at HC4 HC5
  have HV_V := Lib.hid (Below.refl V.heap.size V)
  have HB4 := Lib.hid (HB3.out.trans (hBV.mono HB3.out.size))
  obtain ⟨q0, q1, q2, q3, q4, q5⟩ := HQ.out V HV_V.out
  clear hV hBV hv0 hv1 hv2 er ex ey hfl hsp HF13 HF23 HFV1 HFV2 HB3
  go_wp2_with (fail)
  refine (HC1.out V HV_V.out).mono ?_
  rintro e v1 ⟨rfl, hb_v1⟩
  have HV_v1 := Lib.hid (HV_V.out.trans (hb_v1.mono HV_V.out.size))
  clear hb_v1 q0 q1 q2 q3 q4 q5
  obtain ⟨q0, q1, q2, q3, q4, q5⟩ := HQ.out v1 HV_v1.out
  go_wp2_with (fail)
  refine (HC2.out v1 HV_v1.out).mono ?_
  rintro e v2 ⟨rfl, hb_v2⟩
  have HV_v2 := Lib.hid (HV_v1.out.trans (hb_v2.mono HV_v1.out.size))
  clear hb_v2 q0 q1 q2 q3 q4 q5
  obtain ⟨q0, q1, q2, q3, q4, q5⟩ := HQ.out v2 HV_v2.out
  go_wp2_with (fail)
  refine (HC3.out v2 HV_v2.out).mono ?_
  rintro e v3 ⟨rfl, hb_v3⟩
  have HV_v3 := Lib.hid (HV_v2.out.trans (hb_v3.mono HV_v2.out.size))
  clear hb_v3 q0 q1 q2 q3 q4 q5
  obtain ⟨q0, q1, q2, q3, q4, q5⟩ := HQ.out v3 HV_v3.out
  go_wp2_with (fail)
  refine (HC4.out v3 HV_v3.out).mono ?_
  rintro e v4 ⟨rfl, hb_v4⟩
  have HV_v4 := Lib.hid (HV_v3.out.trans (hb_v4.mono HV_v3.out.size))
  clear hb_v4 q0 q1 q2 q3 q4 q5
  obtain ⟨q0, q1, q2, q3, q4, q5⟩ := HQ.out v4 HV_v4.out
  go_wp2_with (fail)
  refine (HC5.out v4 HV_v4.out).mono ?_
  rintro e v5 ⟨rfl, hb_v5⟩
  have HV_v5 := Lib.hid (HV_v4.out.trans (hb_v5.mono HV_v4.out.size))
  clear hb_v5 q0 q1 q2 q3 q4 q5
  obtain ⟨q0, q1, q2, q3, q4, q5⟩ := HQ.out v5 HV_v5.out
  clear q0 q1 q2 q3 q4 q5
  cases r with
  | true =>
    have HE := Lib.hid (show Cells (v5.alloc (.cells #[.int .i64 0, .int .i64 0, .int .i64 0, .int .i64 0, .int .i64 0] 29)) v5.heap.size 0 (List.replicate 5 (.int .i64 0)) from Cells.new _ _ _ _ _ rfl)
    go_wp2_with (first | (go_at_call 14; refine (errs_ok 5 5 _ _ (by omega) HE.out).mono ?_; rintro e w' ⟨rfl, rfl⟩))
    refine (ready_yes _).mono ?_
    rintro e v6 ⟨rfl, hb6⟩
    have HB6 := Lib.hid (HB4.out.trans ((((HV_v5.out.alloc HV_v5.out.size (.cells #[.int .i64 0, .int .i64 0, .int .i64 0, .int .i64 0, .int .i64 0] 29))).trans (hb6.mono (by have := HV_v5.out.size; simp; omega))).mono HB4.out.size))
    clear hb6
    go_wp2_with (fail)
    go_ret
    exact ⟨rfl, HB6.out⟩
  | false =>
    have hxy := HLM.out rfl
    clear HLM
    by_cases hx : x = 0
    · subst hx
      have HE := Lib.hid (show Cells (v5.alloc (.cells #[.int .i64 0, .int .i64 0, .int .i64 0, .int .i64 0, .int .i64 0] 29)) v5.heap.size 0 (List.replicate 5 (.int .i64 0)) from Cells.new _ _ _ _ _ rfl)
      go_wp2_with (first | (go_at_call 14; refine (errs_ok 5 5 _ _ (by omega) HE.out).mono ?_; rintro e w' ⟨rfl, rfl⟩))
      refine (ready_yes _).mono ?_
      rintro e v6 ⟨rfl, hb6⟩
      have HB6 := Lib.hid (HB4.out.trans ((((HV_v5.out.alloc HV_v5.out.size (.cells #[.int .i64 0, .int .i64 0, .int .i64 0, .int .i64 0, .int .i64 0] 29))).trans (hb6.mono (by have := HV_v5.out.size; simp; omega))).mono HB4.out.size))
      clear hb6
      go_wp2_with (fail)
      go_ret
      exact ⟨rfl, HB6.out⟩

    · have hy : y = 0 := by omega
      subst hy
      have hxb : (x == 0) = false := by simpa using hx
      clear hxy
      have HE := Lib.hid (show Cells (v5.alloc (.cells #[.int .i64 0, .int .i64 0, .int .i64 0, .int .i64 0, .int .i64 0] 29)) v5.heap.size 0 (List.replicate 5 (.int .i64 0)) from Cells.new _ _ _ _ _ rfl)
      go_wp2_with (first | (go_at_call 14; refine (errs_ok 5 5 _ _ (by omega) HE.out).mono ?_; rintro e w' ⟨rfl, rfl⟩))
      refine (ready_yes _).mono ?_
      rintro e v6 ⟨rfl, hb6⟩
      have HB6 := Lib.hid (HB4.out.trans ((((HV_v5.out.alloc HV_v5.out.size (.cells #[.int .i64 0, .int .i64 0, .int .i64 0, .int .i64 0, .int .i64 0] 29))).trans (hb6.mono (by have := HV_v5.out.size; simp; omega))).mono HB4.out.size))
      clear hb6
      go_wp2_with (fail)
      go_ret
      exact ⟨rfl, HB6.out⟩
end Go.Proofs.YtldlfgaaolehoaaGreatDoor
