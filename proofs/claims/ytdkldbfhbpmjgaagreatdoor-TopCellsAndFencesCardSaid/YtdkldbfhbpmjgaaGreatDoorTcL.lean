/- TopCellsAndFences: the law function. -/
import Derived.Test.YtdkldbfhbpmjgaaGreatDoorTcA
import Derived.Test.YtdkldbfhbpmjgaaGreatDoorFeJ
import Derived.Test.YtdkldbfhbpmjgaaGreatDoorFeK
import Derived.Test.YtdkldbfhbpmjgaaGreatDoorMgA
namespace Go.Proofs.YtdkldbfhbpmjgaaGreatDoor
open Go.RowKit

theorem FcAt.grownT {w w' : World} {l : List Pt} {n c b o p : Nat} (h : FcAt w l n c b o) (hg : w.grownBy w' (some p)) (hb : b ≠ p) : FcAt w' l n c b o :=
  ⟨h.ok, h.len, h.cap, h.cells.keep (hg.block b h.lt (by intro e; injection e with e; omega)), Nat.lt_of_lt_of_le h.lt hg.size⟩

set_option maxRecDepth 100000 in
set_option maxHeartbeats 8000000 in
theorem tcL_yes (w : World) (xs : List Int) (n c : Nat) (A : Option Addr) (hs : ∀ (W : World), Below w.heap.size w W → W.heap[w.heap.size]? = some (.cells #[.slice A n c, .int .i64 0] 25) → Strm W w.heap.size xs 0) :
    Calls Tryz.prog 4 #[.slice A n c] w fun e w' => e = .returned (.bool true) ∧ Below w.heap.size w w' := by
  have HR1 := Lib.hid (show ∀ (args : Array Value) (V : World), (callFunc 15 args).run Tryz.prog V = .ok (.enter 15 args) V from fun args V => call_enter Tryz.func15 (by kernel_rfl) (by kernel_rfl) args V)
  have HS := Lib.hid hs
  clear hs
  go_enter Tryz.func4, Tryz.ntmps4
  go_wp2_with (fail)
  generalize hW : w.alloc (.cells #[.slice A n c, .int .i64 0] 25) = W
  have hWs : W.heap.size = w.heap.size + 1 := by rw [← hW]; simp
  have hB0 : Below w.heap.size w W := hW ▸ (Below.refl _ _).alloc (Nat.le_refl _) _
  have HS0 := Lib.hid (HS.out W hB0 (by rw [← hW]; exact heap_new w _))
  have HB0 := Lib.hid hB0
  obtain ⟨p, ep⟩ : ∃ p, p = w.heap.size := ⟨_, rfl⟩
  rw [← ep] at HS0 ⊢
  have hpW : p < W.heap.size := by omega
  have HP := Lib.hid ep
  clear hW hB0 HS ep hWs
  refine (rightFence_any W p 0 xs (by omega) HS0.out).mono ?_
  rintro e w1 ⟨l, n1, c1, b1, k1, rfl, hf1, hb1, hB1, hn1, hst1, hk1, hg1⟩
  have HF1 := Lib.hid hf1
  have HST1 := Lib.hid hst1
  have HG1 := Lib.hid hg1
  have hs1 := hg1.size
  clear hf1 hB1 hst1 hg1 HS0
  unfold fcV
  go_wp2_with (fail)
  refine (rightFence_any w1 p k1 xs (by omega) HST1.out).mono ?_
  rintro e w2 ⟨m, n2, c2, b2, k2, rfl, hf2, hb2, hB2, hn2, hst2, hk2, hg2⟩
  have HF2 := Lib.hid hf2
  have HF12 := Lib.hid (HF1.out.grownT hg2 (by omega))
  have HST2 := Lib.hid hst2
  have HG2 := Lib.hid (grown_trans HG1.out hg2)
  have hs2 := hg2.size
  clear hf2 hB2 hst2 hg2 HF1 HST1 HG1
  unfold fcV
  go_wp2_with (fail)
  refine (range_nat w2 p k2 12 xs (by omega) (by omega) HST2.out).mono ?_
  have hnl := nextN_lt xs k2 13 (by omega)
  obtain ⟨lev, elev⟩ : ∃ lev : Nat, lev = nextN xs k2 13 := ⟨_, rfl⟩
  simp only [Nat.reduceAdd]
  rw [← elev] at hnl ⊢
  rintro e w3 ⟨rfl, hst3, hg3⟩
  have hs3 := hg3.size
  have HF13 := Lib.hid (HF12.out.grownT hg3 (by omega))
  have HF23 := Lib.hid (HF2.out.grownT hg3 (by omega))
  have HB3 := Lib.hid (HB0.out.grown (grown_trans HG2.out hg3) (by have := HP.out; have := HB0.out.size; omega) (fun g hg => by injection hg with hg; have := HP.out; omega))
  clear hst3 hg3 HF12 HF2 HST2 HG2 elev
  go_upto_region 3 with (fail)
  obtain ⟨g1, eg1⟩ : ∃ g, g = w3.heap.size := ⟨_, rfl⟩
  generalize hV : (w3.alloc (.cells #[.string ⟨#[102]⟩, .slice (some ⟨b1, 0, none⟩) n1 c1] 28)).alloc (.cells #[.string ⟨#[102]⟩, .slice (some ⟨b2, 0, none⟩) n2 c2] 28) = V
  have hBV : Below w3.heap.size w3 V := by rw [← hV]; exact ((Below.refl _ _).alloc (Nat.le_refl _) _).alloc (by simp) _
  have hv0 : V.heap[g1]? = some (.cells #[.string ⟨#[102]⟩, .slice (some ⟨b1, 0, none⟩) n1 c1] 28 (0, 0)) := by rw [← hV, eg1, Below.heap_alloc _ _ _ (by simp)]; exact heap_new w3 _
  have hv1 : V.heap[g1 + 1]? = some (.cells #[.string ⟨#[102]⟩, .slice (some ⟨b2, 0, none⟩) n2 c2] 28 (0, 0)) := by
    rw [← hV, eg1]
    have h := heap_new (w3.alloc (.cells #[.string ⟨#[102]⟩, .slice (some ⟨b1, 0, none⟩) n1 c1] 28)) (.cells #[.string ⟨#[102]⟩, .slice (some ⟨b2, 0, none⟩) n2 c2] 28)
    rwa [World.size_alloc] at h
  have hg1V : g1 + 1 < V.heap.size := (Array.getElem?_eq_some_iff.1 hv1).1
  have HQ := Lib.hid (fun (U : World) (hU : Below V.heap.size V U) => show U.cell? ⟨g1, 0, none⟩ = some (.string ⟨#[102]⟩) ∧ U.cell? ⟨g1, 1, none⟩ = some (.slice (some ⟨b1, 0, none⟩) n1 c1) ∧ U.cell? ⟨g1 + 1, 0, none⟩ = some (.string ⟨#[102]⟩) ∧ U.cell? ⟨g1 + 1, 1, none⟩ = some (.slice (some ⟨b2, 0, none⟩) n2 c2) from by
    have h0 := (hU.block g1 (by omega)).trans hv0
    have h1 := (hU.block (g1 + 1) hg1V).trans hv1
    exact ⟨cell_of_blk (j := 0) h0 rfl, cell_of_blk (j := 1) h0 rfl, cell_of_blk (j := 0) h1 rfl, cell_of_blk (j := 1) h1 rfl⟩)
  have HFV1 := Lib.hid (HF13.out.below hBV)
  have HFV2 := Lib.hid (HF23.out.below hBV)
  have HM1 := Lib.hid (meetF_any l m n1 c1 b1 0 n2 c2 b2 0 V HFV1.out HFV2.out)
  have HC1 := Lib.hid (fun (U : World) (hU : Below V.heap.size V U) => cellsF_any l n1 c1 b1 0 lev U (HFV1.out.below hU) (by omega))
  have HC2 := Lib.hid (fun (U : World) (hU : Below V.heap.size V U) => cellsF_any m n2 c2 b2 0 lev U (HFV2.out.below hU) (by omega))
  have HCC := Lib.hid (fun (h : tcB l m = true) => common_cell (by have := HF13.out.ok.lo; omega) (by have := HF23.out.ok.lo; omega) HF13.out.ok.sp HF23.out.ok.sp h)
  have HT1 := Lib.hid (cfT_ok l lev (by omega))
  have HT2 := Lib.hid (cfT_ok m lev (by omega))
  obtain ⟨F, eF⟩ : ∃ F, F = clF l lev [] [] := ⟨_, rfl⟩
  obtain ⟨G, eG⟩ : ∃ F, F = clF m lev [] [] := ⟨_, rfl⟩
  rw [← eF] at HT1
  rw [← eG] at HT2
  have HEF := Lib.hid eF
  have HEG := Lib.hid eG
  obtain ⟨r, er⟩ : ∃ r, r = tcB l m := ⟨_, rfl⟩
  rw [← er] at HM1 HCC
  have HBV := Lib.hid (HB3.out.trans (hBV.mono HB3.out.size))
  unfold fcV at HM1 HC1 HC2
  rw [← eg1]
  obtain ⟨q0, q1, q2, q3⟩ := HQ.out V (Below.refl _ _)
  clear hV hBV hv0 hv1 eg1 er eF eG HF13 HF23 HB3 HFV1 HFV2
  go_wp2_with (fail)
  refine HM1.out.mono ?_
  rintro e v1 ⟨rfl, hb1⟩
  have HV1 := Lib.hid hb1
  clear hb1 q0 q1 q2 q3
  obtain ⟨q0, q1, q2, q3⟩ := HQ.out v1 HV1.out
  go_wp2_with (fail)
  refine (HC1.out v1 HV1.out).mono ?_
  rintro e v2 ⟨hb2, hcs1⟩
  have HV2 := Lib.hid (HV1.out.trans (hb2.mono HV1.out.size))
  clear hb2 q0 q1 q2 q3
  obtain ⟨q0, q1, q2, q3⟩ := HQ.out v2 HV2.out
  rcases hcs1 with rfl | ⟨va, rfl, hla, howa⟩
  · go_wp2_with (fail)
    refine (HC2.out v2 HV2.out).mono ?_
    rintro e v3 ⟨hb3, hcs2⟩
    have HV3 := Lib.hid (HBV.out.trans ((HV2.out.trans (hb3.mono HV2.out.size)).mono HBV.out.size))
    clear hb3 q0 q1 q2 q3
    rcases hcs2 with rfl | ⟨vb, rfl, hlb, howb⟩
    · go_wp2_with (fail)
      refine (h10facts_yes _).mono ?_
      rintro e v4 ⟨rfl, hb4⟩
      have HB9 := Lib.hid ((HV3.out.alloc HV3.out.size (.cells #[.slice none 0 0] 47)).trans (hb4.mono (by have := HV3.out.size; simp; omega)))
      clear hb4
      go_wp2_with (fail)
      go_ret
      exact ⟨rfl, HB9.out⟩
    · obtain ⟨Ab, cb, rfl⟩ := own_slice howb
      clear howb
      go_wp2_with (fail)
      refine (h10facts_yes _).mono ?_
      rintro e v4 ⟨rfl, hb4⟩
      have HB9 := Lib.hid ((HV3.out.alloc HV3.out.size (.cells #[.slice Ab (clF m lev [] []).length cb] 47)).trans (hb4.mono (by have := HV3.out.size; simp; omega)))
      clear hb4
      go_wp2_with (fail)
      go_ret
      exact ⟨rfl, HB9.out⟩
  · rw [← HEF.out] at hla howa
    obtain ⟨ma, ema⟩ : ∃ q, q = F.length := ⟨_, rfl⟩
    have HMA := Lib.hid ema.symm
    rw [← ema] at hla howa
    obtain ⟨Aa, ca, rfl⟩ := own_slice howa
    have HOA := Lib.hid howa
    clear howa ema
    go_wp2_with (fail)
    refine (HC2.out v2 HV2.out).mono ?_
    rintro e v3 ⟨hb3, hcs2⟩
    have HOA3 := Lib.hid (own_below HOA.out hb3)
    have HV3 := Lib.hid (HBV.out.trans ((HV2.out.trans (hb3.mono HV2.out.size)).mono HBV.out.size))
    clear hb3 q0 q1 q2 q3
    rcases hcs2 with rfl | ⟨vb, rfl, hlb, howb⟩
    · go_wp2_with (fail)
      refine (h10facts_yes _).mono ?_
      rintro e v4 ⟨rfl, hb4⟩
      have HB9 := Lib.hid ((HV3.out.alloc HV3.out.size (.cells #[.slice none 0 0] 47)).trans (hb4.mono (by have := HV3.out.size; simp; omega)))
      clear hb4
      go_wp2_with (fail)
      go_ret
      exact ⟨rfl, HB9.out⟩
    · rw [← HEG.out] at hlb howb
      obtain ⟨mb, emb⟩ : ∃ q, q = G.length := ⟨_, rfl⟩
      have HMB := Lib.hid emb.symm
      rw [← emb] at hlb howb
      obtain ⟨Ab, cb, rfl⟩ := own_slice howb
      have HOB := Lib.hid howb
      clear howb emb
      have HCOM := Lib.hid (show r = true → ∃ x, x ∈ F ∧ x ∈ G from fun h => by
        obtain ⟨q, hq⟩ := HCC.out h
        exact ⟨cellD q lev, HT1.out.has (by rw [HMA.out]; exact hla) q (fun n hn => (hq n hn).1), HT2.out.has (by rw [HMB.out]; exact hlb) q (fun n hn => (hq n hn).2)⟩)
      go_upto_region 10 with (fail)
      obtain ⟨gb, egb⟩ : ∃ g, g = v3.heap.size := ⟨_, rfl⟩
      generalize hU : v3.alloc (.cells #[.slice Ab mb cb] 47) = U
      have hBU : Below v3.heap.size v3 U := hU ▸ (Below.refl _ _).alloc (Nat.le_refl _) _
      have hub : U.heap[gb]? = some (.cells #[.slice Ab mb cb] 47 (0, 0)) := by rw [← hU, egb]; exact heap_new v3 _
      have hgbU : gb < U.heap.size := (Array.getElem?_eq_some_iff.1 hub).1
      have HRA := Lib.hid (own_row (own_below HOA3.out hBU))
      have HRB := Lib.hid (own_row (own_below HOB.out hBU))
      have HBU := Lib.hid (HV3.out.trans (hBU.mono HV3.out.size))
      have HUB := Lib.hid hub
      have HCF := Lib.hid (containsFT_any F G 15 ma ca (.pointer (some ⟨gb, 0, none⟩)) Aa U HMA.out (by omega) HRA.out HR1.out (fun Z x hZ => tc1_any G x mb cb gb Ab Z HMB.out (by omega) ((HRB.out.below hZ).mono hZ.size) (cell_of_blk (j := 0) ((hZ.block gb hgbU).trans HUB.out) rfl)))
      rw [← egb]
      clear hU hBU hub egb
      go_wp2_with (fail)
      refine HCF.out.mono ?_
      rintro e v5 ⟨t, rfl, ht, hb5⟩
      have HB5 := Lib.hid (HBU.out.trans (hb5.mono HBU.out.size))
      have HTT := Lib.hid (fun h => ht (HCOM.out h))
      clear ht hb5
      cases r with
      | true =>
        have ht := HTT.out rfl
        subst ht
        go_wp2_with (fail)
        refine (h10facts_yes _).mono ?_
        rintro e v6 ⟨rfl, hb6⟩
        have HB9 := Lib.hid (HB5.out.trans (hb6.mono HB5.out.size))
        clear hb6
        go_wp2_with (fail)
        go_ret
        exact ⟨rfl, HB9.out⟩
      | false =>
        go_wp2_with (fail)
        refine (h10facts_yes _).mono ?_
        rintro e v6 ⟨rfl, hb6⟩
        have HB9 := Lib.hid (HB5.out.trans (hb6.mono HB5.out.size))
        clear hb6
        go_wp2_with (fail)
        go_ret
        exact ⟨rfl, HB9.out⟩
end Go.Proofs.YtdkldbfhbpmjgaaGreatDoor
