/- TopVisitsFromPlainTracks: the law function. -/
import Derived.Test.YtdkldbfhbpmjgaaGreatDoorTvP
import Derived.Test.YtdkldbfhbpmjgaaGreatDoorVsU
import Derived.Test.YtdkldbfhbpmjgaaGreatDoorFeK
import Derived.Test.YtdkldbfhbpmjgaaGreatDoorFxB
import Derived.Test.YtdkldbfhbpmjgaaGreatDoorTpG
import Derived.Test.YtdkldbfhbpmjgaaGreatDoorTpD
import Derived.Test.YtdkldbfhbpmjgaaGreatDoorMgA
namespace Go.Proofs.YtdkldbfhbpmjgaaGreatDoor
open Go.RowKit

theorem Trk.narT {l : List Fx} {j : Nat} {a : Int} (h : Trk l j a) : ∀ x ∈ l, NarF x := fun x hx => by
  have := h.ok x hx
  exact ⟨by omega, by omega, by omega, by omega⟩
theorem fcN_ofT {l : List Pt} (h : ∀ x ∈ l, B2 x) : FcN l := ⟨fun y hy => by
  have := h y hy
  unfold B2 at this
  exact ⟨by unfold ptF; simp only; omega, by unfold ptF; simp only; omega, by unfold ptF; simp only; omega, by unfold ptF; simp only; omega⟩⟩
theorem FcAt.grownU {w w' : World} {l : List Pt} {n c b o p : Nat} (h : FcAt w l n c b o) (hg : w.grownBy w' (some p)) (hb : b ≠ p) : FcAt w' l n c b o :=
  ⟨h.ok, h.len, h.cap, h.cells.keep (hg.block b h.lt (by intro e; injection e with e; omega)), Nat.lt_of_lt_of_le h.lt hg.size⟩
theorem atF_memT {l : List Fx} {is : List Nat} (hlt : ∀ i ∈ is, i < l.length) : ∀ x ∈ atF l is, x ∈ l := by
  intro x hx
  obtain ⟨i, hi, rfl⟩ := List.mem_map.1 hx
  have hg := List.getElem?_eq_getElem (hlt i hi)
  rw [getF_some hg]
  exact List.mem_of_getElem? hg
theorem good_atT {l : List Fx} {is : List Nat} (hg : GoodF l) (hr : is.Pairwise (· < ·)) (hlt : ∀ i ∈ is, i < l.length) (hl : is.length ≤ 100) : GoodF (atF l is) := by
  refine ⟨by simpa [atF] using hl, fun x hx => hg.ok x (atF_memT hlt x hx), ?_⟩
  unfold atF
  rw [List.pairwise_map]
  refine hr.imp_of_mem ?_
  intro a b ha hb hab
  have h1 := List.getElem?_eq_getElem (hlt a ha)
  have h2 := List.getElem?_eq_getElem (hlt b hb)
  rw [getF_some h1, getF_some h2]
  exact hg.lt hab h1 h2
theorem VOk.count {cls : Fx → Int} {l : List Fx} {S : List Vis} (h : VOk cls l l.length S) : S.length = (visN cls l).1 := by
  have := h.cnt
  rw [List.take_length] at this
  rw [this]
theorem natT_cell {w : World} {b o : Nat} {is : List Nat} (h : Cells w b o (recs natC is)) (k x : Nat) (hx : is[k]? = some x) : w.cell? ⟨b, o + k, none⟩ = some (.int .i64 (x : Int)) := by
  have := rec_cell natC_len h k x hx 0 _ rfl
  simpa using this

set_option maxRecDepth 100000 in
set_option maxHeartbeats 8000000 in
theorem tvL_yes (w : World) (xs : List Int) (n c : Nat) (A : Option Addr) (hs : ∀ (W : World), Below w.heap.size w W → W.heap[w.heap.size]? = some (.cells #[.slice A n c, .int .i64 0] 25) → Strm W w.heap.size xs 0) :
    Calls Tryz.prog 3 #[.slice A n c] w fun e w' => e = .returned (.bool true) ∧ Below w.heap.size w w' := by
  obtain ⟨i0, hi0, hz0, hz1, hz2⟩ := info_parts Tryz.infoFx
  have HS := Lib.hid hs
  clear hs
  go_enter Tryz.func3, Tryz.ntmps3
  go_wp2_with (fail)
  generalize hW : w.alloc (.cells #[.slice A n c, .int .i64 0] 25) = W
  have hWs : W.heap.size = w.heap.size + 1 := by rw [← hW]; simp
  have hB0 : Below w.heap.size w W := hW ▸ (Below.refl _ _).alloc (Nat.le_refl _) _
  have HS0 := Lib.hid (HS.out W hB0 (by rw [← hW]; exact heap_new w _))
  have HB0 := Lib.hid hB0
  obtain ⟨p, ep⟩ : ∃ p, p = w.heap.size := ⟨_, rfl⟩
  rw [← ep] at HS0 ⊢
  have hpW : p < W.heap.size := by omega
  have HP := Lib.hid ep
  clear hW hB0 HS ep hWs
  refine (rightFence_any W p 0 xs (by omega) HS0.out).mono ?_
  rintro e w1 ⟨l, n1, c1, b1, k1, rfl, hf1, hb1, hB1, hn1, hst1, hk1, hg1⟩
  have HF1 := Lib.hid hf1
  have hb1w := hf1.lt
  have HFN := Lib.hid (fcN_ofT hB1)
  have HST1 := Lib.hid hst1
  have HG1 := Lib.hid hg1
  have hs1 := hg1.size
  clear hf1 hB1 hst1 hg1 HS0
  unfold fcV
  go_wp2_with (fail)
  refine (rightTrack_any w1 p k1 12 xs (by omega) (by omega) HST1.out).mono ?_
  rintro e w2 ⟨v2, L, a2, k2, rfl, htrk, hL12, ha2, hown2, hst2, hk2, hg2⟩
  have hs2 := hg2.size
  obtain ⟨N, eN⟩ : ∃ N, N = L.length := ⟨_, rfl⟩
  rw [← eN] at hown2 hL12 htrk
  obtain ⟨A2, c2, rfl⟩ := own_slice hown2
  have HGF := Lib.hid (htrk.good (by omega) (by omega))
  have HNA := Lib.hid htrk.narT
  have HN := Lib.hid eN.symm
  have HF2 := Lib.hid (HF1.out.grownU hg2 (by omega))
  have HO2 := Lib.hid hown2
  have HB2 := Lib.hid (HB0.out.grown (grown_trans HG1.out hg2) (by have := HP.out; have := HB0.out.size; omega) (fun g hg => by injection hg with hg; have := HP.out; omega))
  clear htrk hown2 hst2 hg2 HF1 HST1 HG1 eN ha2
  go_upto_region 3 with (fail)
  obtain ⟨gf, egf⟩ : ∃ g, g = w2.heap.size := ⟨_, rfl⟩
  generalize hV : w2.alloc (.cells #[.string ⟨#[102]⟩, .slice (some ⟨b1, 0, none⟩) n1 c1] 28) = V
  have hBV : Below w2.heap.size w2 V := hV ▸ (Below.refl _ _).alloc (Nat.le_refl _) _
  have hfb : V.heap[gf]? = some (.cells #[.string ⟨#[102]⟩, .slice (some ⟨b1, 0, none⟩) n1 c1] 28 (0, 0)) := by rw [← hV, egf]; exact heap_new w2 _
  have HFV := Lib.hid (HF2.out.below hBV)
  have HOV := Lib.hid (own_below HO2.out hBV)
  have hgr2 : ∀ g, A2 = some (⟨g, 0, none⟩ : Addr) → w1.heap.size ≤ g ∧ g < gf := fun g hg => by
    subst hg
    have := HO2.out.lt g rfl
    rw [egf]; exact this
  have HGR := Lib.hid hgr2
  have HBV := Lib.hid (HB2.out.trans (hBV.mono HB2.out.size))
  have HFB := Lib.hid hfb
  have hw1 : w.heap.size ≤ w1.heap.size := by have := HP.out; have := HB0.out.size; omega
  rw [← egf]
  clear hV hBV hfb egf HF2 HO2 HB2 hgr2
  go_wp2_with (fail)
  go_loopw [29] (fun s wr => ∃ (k : Nat) (l' : List Fx), k ≤ N ∧ s = .int .i64 (k : Int) ∧ l'.length = N ∧ GoodF l' ∧ (∀ x ∈ l', NarF x) ∧ wr.ownsRow w1.heap.size 33 5 (.slice A2 N c2) N (recs fxC l') ∧ FcAt wr l n1 c1 b1 0 ∧ wr.heap[gf]? = some (.cells #[.string ⟨#[102]⟩, .slice (some ⟨b1, 0, none⟩) n1 c1] 28 (0, 0)) ∧ Below w.heap.size w wr) (fun s _ => N - (intOf s).toNat)
  case atStart => exact ⟨0, L, Nat.zero_le _, rfl, HN.out, HGF.out, HNA.out, HOV.out, HFV.out, HFB.out, HBV.out⟩
  case round =>
    obtain ⟨k, L, hk, rfl, hlen, hgd, hnr, hown, hfc, hfb, hbl⟩ := hrel
    have HOW := Lib.hid hown
    have HGD := Lib.hid hgd
    have HNR := Lib.hid hnr
    have HFC := Lib.hid hfc
    have HFB := Lib.hid hfb
    have HBL := Lib.hid hbl
    have HLN := Lib.hid hlen
    by_cases hlt : k < N
    · obtain ⟨g, rfl, hg1, hg2⟩ : ∃ g, A2 = some ⟨g, 0, none⟩ ∧ w1.heap.size ≤ g ∧ g < wr.heap.size := by
        rcases own_two hown with ⟨_, h, _⟩ | h
        · omega
        · exact h
      have hgf := (HGR.out g rfl).2
      obtain ⟨x, hx⟩ : ∃ x, L[k]? = some x := ⟨_, List.getElem?_eq_getElem (by have := HLN.out; omega)⟩
      have c4 := (fix_cells (own_cells0 hown) k x hx).2.2.2.2
      rw [Nat.zero_add] at c4
      have z4 := hown.frozenAt (k * 5 + 4)
      have HX := Lib.hid hx
      have HST := Lib.hid (hown.stored (k * 5 + 4) (.int .i64 0))
      have hkI : (k : Int) < (N : Int) := by omega
      have hk0 : (0 : Int) ≤ (k : Int) := by omega
      clear hgd hnr hown hfc hfb hbl hx hlen
      go_wp2_with (fail)
      go_roundw
      case rel =>
        obtain ⟨hst, hgr⟩ := HST.out
        rw [recs_set4 L k x 0 HX.out] at hst
        have hox := HGD.out.get HX.out
        have hnx := HNR.out x (List.mem_of_getElem? HX.out)
        refine ⟨k + 1, L.set k (x.1, x.2.1, x.2.2.1, 0), by omega, by go_num, by rw [List.length_set]; exact HLN.out, ?_, ?_, hst, HFC.out.grownU hgr (by omega), ?_, HBL.out.setCell (p := ⟨g, k * 5 + 4, none⟩) (by show w.heap.size ≤ g; omega) _⟩
        · exact goodF_set HGD.out HX.out rfl ⟨hox.at0, hox.at1, hox.x0, hox.x1, hox.y0, hox.y1, by simp only; omega, by simp only; omega⟩
        · intro z hz
          rcases List.mem_or_eq_of_mem_set hz with hz | hz
          · exact HNR.out z hz
          · rw [hz]; exact ⟨hnx.x0, hnx.x1, hnx.y0, hnx.y1⟩
        · exact (hgr.block gf (Array.getElem?_eq_some_iff.1 HFB.out).1 (by intro e; injection e with e; omega)).trans HFB.out
      case measure => simp [intOf]; omega
    · have HR2 := Lib.hid (own_row hown)
      have hgfw := (Array.getElem?_eq_some_iff.1 hfb).1
      have HPL := Lib.hid (by
        have h := plain_any L N c2 0 A2 wr (by omega) hlen hgd hnr (own_row hown)
        rw [show ((0 : Nat) : Int) = 0 from rfl] at h
        exact h)
      clear hgd hnr hown hfc hfb hbl hlen
      obtain ⟨w3, rfl⟩ : ∃ w3 : World, w3 = wr := ⟨_, rfl⟩
      go_wp2_with (fail)
      refine HPL.out.mono ?_
      rintro e w4 ⟨v4, B, rfl, hBl, hgk, hown4, hb4⟩
      have hs4 := hb4.size
      have HSO := Lib.hid (kI_sorted B N)
      have HLT := Lib.hid (fun i (h : i ∈ kI B N) => show i < L.length by rw [HLN.out]; exact (kI_mem.1 h).1)
      have hML := kI_length B N
      obtain ⟨is, eis⟩ : ∃ is, is = kI B N := ⟨_, rfl⟩
      rw [← eis] at hown4 HSO HLT hML
      obtain ⟨M, eM⟩ : ∃ M, M = is.length := ⟨_, rfl⟩
      rw [← eM] at hown4 hML
      obtain ⟨A4, c4, rfl⟩ := own_slice hown4
      have HM := Lib.hid eM.symm
      have HR4 := Lib.hid (own_row hown4)
      have HRA4 := Lib.hid ((HR2.out.below hb4).mono hs4)
      have HF4 := Lib.hid (HFC.out.below hb4)
      have HFB4 := Lib.hid ((hb4.block gf hgfw).trans HFB.out)
      have HB4 := Lib.hid (HBL.out.trans (hb4.mono HBL.out.size))
      have hgf4 : gf < w4.heap.size := by omega
      clear hown4 hb4 hBl hgk eis eM HPL HR2
      go_wp2_with (fail)
      go_loopw [9, 46] (fun v i wr => ∃ k : Nat, k ≤ M ∧ i = .int .i64 (k : Int) ∧ wr.ownsRow w4.heap.size 33 5 v k (recs fxC (atF L (is.take k))) ∧ Below w4.heap.size w4 wr) (fun _ i _ => M - (intOf i).toNat)
      case atStart => exact ⟨0, Nat.zero_le _, rfl, World.ownsRow_nil _ _ _ _, Below.refl _ _⟩
      case round =>
        obtain ⟨j, hj, rfl, hown, hbl⟩ := hrel
        have hsz := hbl.size
        have HBJ := Lib.hid hbl
        have HOJ := Lib.hid hown
        by_cases hjt : j < M
        · obtain ⟨bp, op, rfl, hbp, hcp⟩ := Row.posR natC_len (by omega) HR4.out (by have := HM.out; omega)
          obtain ⟨q, hq⟩ : ∃ q, is[j]? = some q := ⟨_, List.getElem?_eq_getElem (by have := HM.out; omega)⟩
          have hqL := HLT.out q (List.mem_of_getElem? hq)
          obtain ⟨x, hx⟩ : ∃ x, L[q]? = some x := ⟨_, List.getElem?_eq_getElem hqL⟩
          obtain ⟨b, o, rfl, hb, hc⟩ := Row.posR fxC_len (by omega) HRA4.out (by omega)
          have cp := natT_cell (hcp.keep (hbl.block bp hbp)) j q hq
          obtain ⟨s0, s1, s2, s3, s4⟩ := fix_cells (hc.keep (hbl.block b hb)) q x hx
          have HTK := Lib.hid (show atF L (is.take (j + 1)) = atF L (is.take j) ++ [x] by rw [List.take_add_one, hq]; simp [atF, getF_some hx])
          obtain ⟨xa, xx, xy, xe⟩ := x
          simp only at s1 s2 s3 s4
          have hkM : (j : Int) < (M : Int) := by omega
          have hpNI : (q : Int) < (N : Int) := by have := HLN.out; omega
          have hp0 : (0 : Int) ≤ (q : Int) := by omega
          have hk0 : (0 : Int) ≤ (j : Int) := by omega
          clear hbl hown hcp hq hx hc
          go_wp2_with (at_builtin; refine wpList_append_own _ rfl _ _ 30 rfl w4.heap.size 33 i0 _ 5 48 Tryz.underlying30 hi0 hz0 hz1 hz2 rfl (by decide) _ _ _ rfl (HOJ.out.alloc _) ⟨wr.heap.size, 0, none⟩ 1 1 (fxC (xa, xx, xy, xe)) rfl rfl ?c1 ?c2 ?c3 ?c4 ?c5 ?_)
          case c1 => exact cells_add (Cells.new wr _ _ _ _ rfl)
          case c2 => exact fxC_one _
          case c3 => unfold maxLen; omega
          case c4 => omega
          case c5 => simp; omega
          intro v9 w9 ho9 hg9 _
          have hg9' := grown_of_alloc hg9
          have HO9 := Lib.hid ho9
          have HB9 := Lib.hid (HBJ.out.grown hg9' (by omega) (fun q hq => (HOJ.out.lt q hq).1))
          clear ho9 hg9 hg9' cp s0 s1 s2 s3 s4
          go_wp2_with (fail)
          go_roundw
          case rel =>
            refine ⟨j + 1, by omega, by go_num, ?_, HB9.out⟩
            rw [HTK.out, recs_snoc]
            exact HO9.out
          case measure => simp [intOf]; omega
        · obtain rfl : M = j := by omega
          have HTA := Lib.hid (show is.take M = is from List.take_of_length_le (by have := HM.out; omega))
          rw [HTA.out] at HOJ
          obtain ⟨A8, c8, rfl⟩ := own_slice hown
          have HR8 := Lib.hid (own_row HOJ.out)
          have HRL := Lib.hid ((HRA4.out.below hbl).mono hsz)
          have HF5 := Lib.hid (HF4.out.below hbl)
          have HFB5 := Lib.hid (fun (Z : World) (hZ : Below wr.heap.size wr Z) => (hZ.block gf (by omega)).trans ((hbl.block gf hgf4).trans HFB4.out))
          have HB5 := Lib.hid (HB4.out.trans (hbl.mono HB4.out.size))
          have hgl := good_atT HGD.out HSO.out HLT.out (by have := HM.out; have := HGD.out.len; have := HLN.out; omega)
          have hnl : ∀ x ∈ atF L is, NarF x := fun x hx => HNR.out x (atF_memT HLT.out x hx)
          have hbn : (atF L is).length = M := by unfold atF; rw [List.length_map]; exact HM.out
          have hsub := visN_sub (sureW l) (atF_sub L is 0 HSO.out (fun i hi => ⟨Nat.zero_le _, HLT.out i hi⟩))
          rw [List.drop_zero] at hsub
          have HSUB := Lib.hid hsub
          have HL1 := Lib.hid (fun (Z : World) (hZ : Below wr.heap.size wr Z) => length_any L N c2 A2 Z HLN.out HGD.out HNR.out ((HRL.out.below hZ).mono hZ.size))
          have HL2 := Lib.hid (fun (Z : World) (hZ : Below wr.heap.size wr Z) => length_any (atF L is) M c8 A8 Z hbn hgl hnl ((HR8.out.below hZ).mono hZ.size))
          have HV1 := Lib.hid (fun (Z : World) (hZ : Below wr.heap.size wr Z) => visits_any l (atF L is) n1 c1 b1 0 M c8 A8 Z (HF5.out.below hZ) HFN.out hbn hgl hnl ((HR8.out.below hZ).mono hZ.size))
          have HV2 := Lib.hid (fun (Z : World) (hZ : Below wr.heap.size wr Z) => visits_any l L n1 c1 b1 0 N c2 A2 Z (HF5.out.below hZ) HFN.out HLN.out HGD.out HNR.out ((HRL.out.below hZ).mono hZ.size))
          obtain ⟨le1, ele1⟩ : ∃ q, q = lenW L (N - 1) := ⟨_, rfl⟩
          obtain ⟨le2, ele2⟩ : ∃ q, q = lenW (atF L is) (M - 1) := ⟨_, rfl⟩
          rw [← ele1] at HL1
          rw [← ele2] at HL2
          unfold fcV at HV1 HV2
          have g1 : (0 : Int) ≤ (le1 : Int) := by omega
          have g2 : (0 : Int) ≤ (le2 : Int) := by omega
          clear hbl hown hgl hnl hbn hsub ele1 ele2 HBJ HTA HOJ HRA4 HF4 HFB4 HB4
          go_wp2_with (fail)
          refine (HL1.out wr (Below.refl _ _)).mono ?_
          rintro e t1 ⟨rfl, hb1_⟩
          have HT1 := Lib.hid hb1_
          clear hb1_
          go_wp2_with (fail)
          refine (HL2.out t1 HT1.out).mono ?_
          rintro e t2 ⟨rfl, hb2_⟩
          have HT2 := Lib.hid (HT1.out.trans (hb2_.mono HT1.out.size))
          clear hb2_
          have q0 := cell_of_blk (j := 0) (HFB5.out t2 HT2.out) rfl
          have q1 := cell_of_blk (j := 1) (HFB5.out t2 HT2.out) rfl
          go_wp2_with (fail)
          refine (HV1.out t2 HT2.out).mono ?_
          rintro e t3 ⟨v3, S1, rfl, hv1, ho1, hb3_⟩
          have HT3 := Lib.hid (HT2.out.trans (hb3_.mono HT2.out.size))
          have HC1 := Lib.hid hv1.count
          obtain ⟨m1, em1⟩ : ∃ m, m = S1.length := ⟨_, rfl⟩
          rw [← em1] at ho1
          obtain ⟨A9, c9, rfl⟩ := own_slice ho1
          have HM1 := Lib.hid em1
          clear hb3_ hv1 ho1 em1 q0 q1
          have q0 := cell_of_blk (j := 0) (HFB5.out t3 HT3.out) rfl
          have q1 := cell_of_blk (j := 1) (HFB5.out t3 HT3.out) rfl
          go_wp2_with (fail)
          refine (HV2.out t3 HT3.out).mono ?_
          rintro e t4 ⟨v4, S2, rfl, hv2, ho2, hb4_⟩
          have HT4 := Lib.hid (HT3.out.trans (hb4_.mono HT3.out.size))
          have HC2 := Lib.hid hv2.count
          obtain ⟨m2, em2⟩ : ∃ m, m = S2.length := ⟨_, rfl⟩
          rw [← em2] at ho2
          obtain ⟨A10, c10, rfl⟩ := own_slice ho2
          have hmm : m1 ≤ m2 := by rw [HM1.out, em2, HC1.out, HC2.out]; exact HSUB.out
          have hmmI : (m1 : Int) ≤ (m2 : Int) := by omega
          clear hb4_ hv2 ho2 em2 q0 q1
          go_wp2_with (fail)
          refine (h10facts_yes _).mono ?_
          rintro e t5 ⟨rfl, hb5_⟩
          have HB9 := Lib.hid (HB5.out.trans ((HT4.out.trans (hb5_.mono HT4.out.size)).mono HB5.out.size))
          clear hb5_
          go_wp2_with (fail)
          go_ret
          exact ⟨rfl, HB9.out⟩
end Go.Proofs.YtdkldbfhbpmjgaaGreatDoor
