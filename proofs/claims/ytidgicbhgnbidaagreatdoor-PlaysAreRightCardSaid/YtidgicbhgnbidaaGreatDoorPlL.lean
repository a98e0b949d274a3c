/- PlaysAreRight: the law function. Printed by gen_PlL.py, its beginning out of XCnL. -/
import Derived.Test.YtidgicbhgnbidaaGreatDoorPlQ
import Derived.Test.YtidgicbhgnbidaaGreatDoorPlE
import Derived.Test.YtidgicbhgnbidaaGreatDoorPlH
import Derived.Test.YtidgicbhgnbidaaGreatDoorCmZ
import Derived.Test.YtidgicbhgnbidaaGreatDoorMyI
import Derived.Test.YtidgicbhgnbidaaGreatDoorMyK
import Derived.Test.YtidgicbhgnbidaaGreatDoorMgA
namespace Go.Proofs.YtidgicbhgnbidaaGreatDoor
open Go.RowKit

/-- What the law has made of its stream. -/
structure WwS (w : World) (B p k : Nat) (xs : List Int) (C : Cm) (L : List Im) (A : Option Addr) (N c : Nat) (F : List Dv) (AF : Option Addr) (nf cf gc : Nat) (wx : World) : Prop where
  st : Strm wx p xs k
  wv : wx.ownsRow B 138 4 (.slice C.wa C.ws.length C.wc) C.ws.length (recs wvC C.ws)
  im : wx.ownsRow B 91 6 (.slice A N c) N (recs imC L)
  imo : ∀ x ∈ L, ImO wx B x
  fl : wx.ownsRow B 67 7 (.slice AF nf cf) nf (recs dvC F)
  cm : wx.heap[gc]? = some (cmB C)
  be : Below w.heap.size w wx
  lo : w.heap.size ≤ p ∧ p < B ∧ B ≤ gc
section
variable {w wx wy : World} {B p k N c nf cf gc : Nat} {xs : List Int} {C : Cm} {L : List Im} {F : List Dv} {A AF : Option Addr}
theorem WwS.strm (h : WwS w B p k xs C L A N c F AF nf cf gc wx) {k' : Nat} (hs : Strm wy p xs k') (hg : wx.grownBy wy (some p)) : WwS w B p k' xs C L A N c F AF nf cf gc wy := by
  obtain ⟨l1, l2, l3⟩ := h.lo
  exact ⟨hs, own_pM h.wv l2 hg, own_pM h.im l2 hg, fun x hx => (h.imo x hx).strm hg l2, own_pM h.fl l2 hg, blk_pM h.cm (by omega) hg, h.be.grown hg h.be.size (fun k hk => by cases hk; exact l1), h.lo⟩
theorem WwS.below (h : WwS w B p k xs C L A N c F AF nf cf gc wx) (hb : Below wx.heap.size wx wy) : WwS w B p k xs C L A N c F AF nf cf gc wy :=
  h.strm (h.st.below hb) ⟨hb.os, hb.tape, hb.output, hb.size, fun b hl _ => hb.block b hl⟩
theorem WwS.imsI (h : WwS w B p k xs C L A N c F AF nf cf gc wx) : ImsI wx wx.heap.size A L :=
  ⟨own_row h.im, fun x hx => ⟨own_row (h.imo x hx).mo, own_row (h.imo x hx).rs⟩⟩
end
theorem playAt (C : Cm) (F : List Dv) (L : List Im) (n c NL CL R : Nat) (AF AL : Option Addr) (w : World) (t : Int) (hC : CmOk C) (hF : FlOk F) (hL : ImsOk L) (hn : F.length = n) (hNL : L.length = NL) (hR : R ≤ 15) (ht : C.at_ + 10 * (R : Int) = t)
    (hw : Row w w.heap.size C.wa (recs wvC C.ws)) (hI : ImsI w w.heap.size AL L) (hr : Row w w.heap.size AF (recs dvC F)) :
    Calls Tryz.prog 20 #[cmV C, .slice AL NL CL, .slice AF n c, .int .i64 10, .slice (some ⟨w.heap.size, 0, none⟩) 1 1, .agg #[.int .i64 C.at_, .int .i64 t]] (w.alloc (.cells #[.string ⟨#[100, 50]⟩] 9)) fun e w' => PlPost C L F R (w.alloc (.cells #[.string ⟨#[100, 50]⟩] 9)) e w' := by
  subst ht
  have hb : Below w.heap.size w (w.alloc (.cells #[.string ⟨#[100, 50]⟩] 9)) := (Below.refl _ _).alloc (Nat.le_refl _) _
  have hz := zz_heap w (.cells #[.string ⟨#[100, 50]⟩] 9)
  exact play_any C F L n c NL CL 1 R AF AL _ _ hC hF hL hn hNL hR ((hw.below hb).mono hb.size) (hI.up hb) ((hr.below hb).mono hb.size) (.inr ⟨_, 0, rfl, by simp, cells_blkV hz rfl⟩)
theorem Row.front {α : Type} {f : α → List Value} {w : World} {B : Nat} {A : Option Addr} {l r : List α} (h : Row w B A (recs f (l ++ r))) : Row w B A (recs f l) := by
  rw [recs_append] at h
  rcases h with h | ⟨b, o, h1, h2, h3⟩
  · exact .inl (List.append_eq_nil_iff.1 h).1
  · refine .inr ⟨b, o, h1, h2, fun j v hv => h3 j v ?_⟩
    rw [List.getElem?_append_left (List.getElem?_eq_some_iff.1 hv).1]
    exact hv
theorem dvT_one : (dvT 1).toList = [100, 50] := by decide +kernel
set_option maxRecDepth 100000 in
set_option maxHeartbeats 8000000 in
theorem plL_yes (w : World) (xs : List Int) (n c : Nat) (A0 : Option Addr) (hs : ∀ (W : World), Below w.heap.size w W → W.heap[w.heap.size]? = some (.cells #[.slice A0 n c, .int .i64 0] 25) → Strm W w.heap.size xs 0) :
    Calls Tryz.prog 4 #[.slice A0 n c] w fun e w' => e = .returned (.bool true) ∧ Below w.heap.size w w' := by
  have HS := Lib.hid hs
  clear hs
  go_enter Tryz.func4, Tryz.ntmps4
  go_upto_region 2 with (fail)
  generalize hW : w.alloc (.cells #[.slice A0 n c, .int .i64 0] 25) = w0
  have hB0 : Below w.heap.size w w0 := hW ▸ (Below.refl _ _).alloc (Nat.le_refl _) _
  have HST0 := Lib.hid (HS.out w0 hB0 (by rw [← hW]; exact heap_new w _))
  have HB0 := Lib.hid hB0
  clear hW hB0 HS
  obtain ⟨p, ep⟩ : ∃ p, p = w.heap.size := ⟨_, rfl⟩
  have hpw : w.heap.size ≤ p := by omega
  rw [← ep] at HST0 ⊢
  clear ep
  obtain ⟨B, eB⟩ : ∃ B, B = w0.heap.size := ⟨_, rfl⟩
  have hpB : p < B := by rw [eB]; exact HST0.out.lt
  have hBle : B ≤ w0.heap.size := by omega
  have hBge : w0.heap.size ≤ B := by omega
  clear eB
  go_wp2_with (fail)
  refine (rightCampaign_any w0 p 0 xs (by omega) HST0.out).mono ?_
  rintro e w1 ⟨C, k1, hC, hk1, rfl, hwv, hst1, hg1⟩
  have HC := Lib.hid hC
  have H1 := Lib.hid (show Strm w1 p xs k1 ∧ w1.ownsRow B 138 4 (.slice C.wa C.ws.length C.wc) C.ws.length (recs wvC C.ws) ∧ w0.grownBy w1 (some p) from ⟨hst1, own_mono hwv hBle, hg1⟩)
  have hs1 := hg1.size
  clear hC hwv hst1 hg1 HST0
  unfold cmV
  go_wp2_with (fail)
  refine (rightImages_any w1 p k1 xs (by omega) H1.out.1).mono ?_
  rintro e w2 ⟨L, A, cL, N, k2, rfl, hN, hL, hIm, hown, hst2, hk2, hg2⟩
  have HL := Lib.hid hL
  have HN := Lib.hid hN
  have hs2 := hg2.size
  have H2 := Lib.hid (show Strm w2 p xs k2 ∧ w2.ownsRow B 138 4 (.slice C.wa C.ws.length C.wc) C.ws.length (recs wvC C.ws) ∧ w0.grownBy w2 (some p) ∧ w2.ownsRow B 91 6 (.slice A N cL) N (recs imC L) ∧ ∀ x ∈ L, ImO w2 B x from ⟨hst2, own_pM H1.out.2.1 hpB hg2, grown_trans H1.out.2.2 hg2, own_mono hown (by omega), fun x hx => ⟨own_mono (hIm x hx).mo (by omega), own_mono (hIm x hx).rs (by omega)⟩⟩)
  clear hL hN hIm hown hst2 hg2 H1
  go_wp2_with (fail)
  refine (rightFleet5_any w2 p k2 xs (by omega) H2.out.1).mono ?_
  rintro e w3 ⟨F, AF, nf, cf, k3, hF, hnf, hk3, rfl, hfl, hst3, hg3⟩
  have hs3 := hg3.size
  obtain ⟨gc, egc⟩ : ∃ g, g = w3.heap.size := ⟨_, rfl⟩
  obtain ⟨w4, e4⟩ : ∃ V : World, V = w3.alloc (cmB C) := ⟨_, rfl⟩
  have hb4 : Below w3.heap.size w3 w4 := by rw [e4]; exact (Below.refl _ _).alloc (Nat.le_refl _) _
  have hgc4 : w4.heap[gc]? = some (cmB C) := by rw [e4, egc]; exact zz_heap _ _
  have H4 := Lib.hid (show WwS w B p k3 xs C L A N cL F AF nf cf gc w4 from
    ⟨hst3.below hb4, own_below (own_pM H2.out.2.1 hpB hg3) hb4, own_below (own_pM H2.out.2.2.2.1 hpB hg3) hb4, fun x hx => ((H2.out.2.2.2.2 x hx).strm hg3 hpB).below hb4, own_below (own_mono hfl (by omega)) hb4, hgc4, ((HB0.out.grown (grown_trans H2.out.2.2.1 hg3) HB0.out.size (fun k hk => by cases hk; exact hpw)).trans (hb4.mono (by have := HB0.out.size; omega))), ⟨hpw, hpB, by omega⟩⟩)
  have HF := Lib.hid (And.intro hF hnf)
  unfold cmB at e4
  go_upto_region 3 with (fail)
  rw [← egc, ← e4]
  clear e4 egc hb4 hgc4 hF hnf hfl hst3 hg3 H2 HB0 hs1 hs2 hs3 hk1 hk2 hk3 hBle hBge
  have hat := HC.out.at_
  have hw150 : IntKind.i64.wrap (C.at_ + 150) = C.at_ + 150 := by rw [IntKind.wrap_i64]; omega
  have hw80 : IntKind.i64.wrap (C.at_ + 80) = C.at_ + 80 := by rw [IntKind.wrap_i64]; omega
  have hcm := H4.out.cm
  have c0 := cell_of_blk (j := 0) hcm rfl
  have c1 := cell_of_blk (j := 1) hcm rfl
  have c2 := cell_of_blk (j := 2) hcm rfl
  have c3 := cell_of_blk (j := 3) hcm rfl
  have c4 := cell_of_blk (j := 4) hcm rfl
  have c5 := cell_of_blk (j := 5) hcm rfl
  have c6 := cell_of_blk (j := 6) hcm rfl
  have c7 := cell_of_blk (j := 7) hcm rfl
  have c8 := cell_of_blk (j := 8) hcm rfl
  have hgl := (Array.getElem?_eq_some_iff.1 hcm).1
  clear hcm
  have HPL := Lib.hid (playAt C F L nf cf N cL 15 AF A w4 (C.at_ + 150) HC.out HF.out.1 HL.out HF.out.2 HN.out.symm (by omega) (by omega) (own_row H4.out.wv) H4.out.imsI (own_row H4.out.fl))
  have HB5 := Lib.hid (show Below w4.heap.size w4 (w4.alloc (.cells #[.string ⟨#[100, 50]⟩] 9)) from (Below.refl _ _).alloc (Nat.le_refl _) _)
  unfold cmV at HPL
  go_wp2_with (fail)
  refine HPL.out.mono ?_
  rintro e w6 ⟨A1, n1, k1, rfl, hn1, hn1b, ho1, hb6⟩
  have hb46 := HB5.out.trans (hb6.mono HB5.out.size)
  have H6 := Lib.hid (H4.out.below hb46)
  obtain ⟨M1, eM1⟩ : ∃ M, M = plR C L F 15 C.at_ (nwV (wvN C) C F) := ⟨_, rfl⟩
  have HE1 := Lib.hid eM1
  rw [← eM1] at hn1 ho1
  have HM1 := Lib.hid (show MkqOk M1 by rw [eM1]; exact plR_mkq HC.out HF.out.1 HL.out (Nat.le_refl _))
  have HO6 := Lib.hid (own_mono ho1 HB5.out.size)
  have HN1 := Lib.hid hn1
  have hn1c : n1 ≤ 90 := by omega
  clear HPL HB5 hb6 hb46 eM1 hn1 ho1 hn1b c0 c1 c2 c3 c4 c5 c6 c7 c8 hgl
  have HCK := Lib.hid (checkMarksL_any M1 n1 k1 A1 w6 HM1.out HN1.out.symm (own_row HO6.out))
  go_wp2_with (fail)
  refine HCK.out.mono ?_
  rintro e w7 ⟨rfl, hb7⟩
  have H7 := Lib.hid (H6.out.below hb7)
  have HO7 := Lib.hid (own_below HO6.out hb7)
  clear hb7 HCK
  have hcm := H7.out.cm
  have c0 := cell_of_blk (j := 0) hcm rfl
  have c1 := cell_of_blk (j := 1) hcm rfl
  have c2 := cell_of_blk (j := 2) hcm rfl
  have c3 := cell_of_blk (j := 3) hcm rfl
  have c4 := cell_of_blk (j := 4) hcm rfl
  have c5 := cell_of_blk (j := 5) hcm rfl
  have c6 := cell_of_blk (j := 6) hcm rfl
  have c7 := cell_of_blk (j := 7) hcm rfl
  have c8 := cell_of_blk (j := 8) hcm rfl
  have hgl := (Array.getElem?_eq_some_iff.1 hcm).1
  clear hcm
  have HPL := Lib.hid (playAt C F L nf cf N cL 8 AF A w7 (C.at_ + 80) HC.out HF.out.1 HL.out HF.out.2 HN.out.symm (by omega) (by omega) (own_row H7.out.wv) H7.out.imsI (own_row H7.out.fl))
  have HB5 := Lib.hid (show Below w7.heap.size w7 (w7.alloc (.cells #[.string ⟨#[100, 50]⟩] 9)) from (Below.refl _ _).alloc (Nat.le_refl _) _)
  unfold cmV at HPL
  go_wp2_with (fail)
  refine HPL.out.mono ?_
  rintro e w8 ⟨A2, n2, k2, rfl, hn2, hn2b, ho2, hb8⟩
  have hb78 := HB5.out.trans (hb8.mono HB5.out.size)
  have H8 := Lib.hid (H7.out.below hb78)
  have HO8 := Lib.hid (own_below HO7.out hb78)
  have HQ8 := Lib.hid (own_mono ho2 HB5.out.size)
  obtain ⟨M2, eM2⟩ : ∃ M, M = plR C L F 8 C.at_ (nwV (wvN C) C F) := ⟨_, rfl⟩
  obtain ⟨r, hr⟩ := plR_pre C L F 7 8 C.at_ (nwV (wvN C) C F)
  have HP := Lib.hid (show M1 = M2 ++ r by rw [HE1.out, eM2]; exact hr)
  rw [← eM2] at hn2 ho2 HQ8
  have hn21 : n2 ≤ n1 := by rw [hn2, HN1.out, HP.out, List.length_append]; omega
  have hn21I : ¬ (n1 : Int) < (n2 : Int) := by omega
  have hk1 : n1 ≤ k1 := own_cap HO8.out
  have HN2 := Lib.hid hn2
  have HT := Lib.hid (show M1.take n2 = M2 by rw [HP.out, hn2]; exact List.take_left)
  clear hr hn2 hn2b ho2 hb8 hb78 HPL HB5 eM2 c0 c1 c2 c3 c4 c5 c6 c7 c8 hgl
  have HEQ := Lib.hid (eqMk_any M2 n2 k1 k2 A1 A2 w8 HN2.out.symm (by omega) (by
    have h := own_row HO8.out
    rw [HP.out] at h
    exact h.front) (own_row HQ8.out))
  go_wp2_with (fail)
  refine HEQ.out.mono ?_
  rintro e w9 ⟨rfl, hb9⟩
  have H9 := Lib.hid (H8.out.below hb9)
  have HO9 := Lib.hid (own_below HO8.out hb9)
  clear hb9 HEQ
  have hnf6 : nf ≤ 6 := by rw [← HF.out.2]; exact HF.out.1.n
  go_upto_region 11 with (fail)
  go_loopw [82] (fun i wr => ∃ j : Nat, j ≤ nf ∧ i = .int .i64 (j : Int) ∧ Hid (Below w9.heap.size w9 wr)) (fun i _ => nf - (intOf i).toNat)
  case atStart => exact ⟨0, Nat.zero_le _, rfl, Lib.hid (Below.refl _ _)⟩
  case round =>
    obtain ⟨j, hj, rfl, HR⟩ := hrel
    obtain ⟨wa, rfl⟩ : ∃ wy : World, wy = wr := ⟨_, rfl⟩
    have HA := Lib.hid (H9.out.below HR.out)
    have HOA := Lib.hid (own_below HO9.out HR.out)
    by_cases hlt : j < nf
    · have hltI : (j : Int) < (nf : Int) := by omega
      obtain ⟨d, hd⟩ : ∃ d, F[j]? = some d := ⟨_, List.getElem?_eq_getElem (by rw [HF.out.2]; exact hlt)⟩
      have HDO := Lib.hid (HF.out.1.ok d (List.mem_of_getElem? hd))
      have hmd : d.md < 2 := HDO.out.md
      have HCH := Lib.hid (plR_dev (C := C) (L := L) HF.out.1 (R := 15) hmd hd)
      rw [← HE1.out] at HCH
      obtain ⟨h1, h2, h3⟩ | ⟨gf, rfl, hgf1, hgf2⟩ := own_two HA.out.fl
      · omega
      have hcl := own_cells0 HA.out.fl
      have e0 : wa.cell? ⟨gf, j * 7, none⟩ = some (.string (dvT d.k)) := by have := rec_cell dvC_len hcl j d hd 0 _ rfl; simpa using this
      have e1 : wa.cell? ⟨gf, j * 7 + 1, none⟩ = some (.string (mdT d.md)) := by have := rec_cell dvC_len hcl j d hd 1 _ rfl; simpa using this
      have e2 : wa.cell? ⟨gf, j * 7 + 2, none⟩ = some (.string tnT) := by have := rec_cell dvC_len hcl j d hd 2 _ rfl; simpa using this
      have e3 : wa.cell? ⟨gf, j * 7 + 3, none⟩ = some (.int .i64 d.fw.a) := by have := rec_cell dvC_len hcl j d hd 3 _ rfl; simpa using this
      have e4 : wa.cell? ⟨gf, j * 7 + 4, none⟩ = some (.int .i64 d.fw.b) := by have := rec_cell dvC_len hcl j d hd 4 _ rfl; simpa using this
      have e5 : wa.cell? ⟨gf, j * 7 + 5, none⟩ = some (.int .i64 d.fw.c) := by have := rec_cell dvC_len hcl j d hd 5 _ rfl; simpa using this
      have e6 : wa.cell? ⟨gf, j * 7 + 6, none⟩ = some (.slice none 0 0) := by have := rec_cell dvC_len hcl j d hd 6 _ rfl; simpa using this
      clear hcl hd
      obtain ⟨gd, egd⟩ : ∃ g, g = wa.heap.size := ⟨_, rfl⟩
      obtain ⟨wb, eb⟩ : ∃ V : World, V = wa.alloc (dvB d) := ⟨_, rfl⟩
      have hbb : Below wa.heap.size wa wb := by rw [eb]; exact (Below.refl _ _).alloc (Nat.le_refl _) _
      have hgb : wb.heap[gd]? = some (dvB d) := by rw [eb, egd]; exact zz_heap _ _
      have HBB := Lib.hid (HR.out.trans (hbb.mono HR.out.size))
      have HB := Lib.hid (HA.out.below hbb)
      have HOB := Lib.hid (own_below HOA.out hbb)
      have HGB := Lib.hid hgb
      have hgbl := (Array.getElem?_eq_some_iff.1 hgb).1
      have HCLN := Lib.hid (cloneM_any M1 n1 _ _ wb HN1.out.symm (by omega) HOB.out)
      unfold dvB at eb
      clear hgb hbb HOA
      go_upto_region 13 with (fail)
      rw [← egd, ← eb]
      clear eb egd e0 e1 e2 e3 e4 e5 e6
      go_wp2_with (fail)
      refine HCLN.out.mono ?_
      rintro e w10 ⟨vc, rfl, hoc, hb10⟩
      obtain ⟨Ac, cc, rfl⟩ := own_slice hoc
      have HGC := Lib.hid ((hb10.block gd hgbl).trans HGB.out)
      have hgcl : gd < w10.heap.size := Nat.lt_of_lt_of_le hgbl hb10.size
      have HBC := Lib.hid hb10
      have HOC := Lib.hid hoc
      have HDL := Lib.hid (deleteM_any d gd M1 HDO.out.k (fun x hx => (HM1.out.ok x hx).d) n1 cc _ Ac w10 HGC.out HN1.out.symm (by omega) hoc)
      clear hoc hb10 HCLN
      go_wp2_with (fail)
      refine HDL.out.mono ?_
      rintro e w12 ⟨rfl, hof, hg12⟩
      obtain ⟨Mf, eMf⟩ : ∃ M, M = M1.filter (kpM d) := ⟨_, rfl⟩
      have HMS := Lib.hid (show ∀ m ∈ Mf, MkOk m from fun m hm => HM1.out.ok m (by rw [eMf] at hm; exact (List.mem_filter.1 hm).1))
      have hMl : Mf.length ≤ 90 := by rw [eMf]; have := List.length_filter_le (kpM d) M1; have := HN1.out; omega
      rw [← eMf] at HCH hof ⊢
      obtain ⟨nq, enq⟩ : ∃ q, q = Mf.length := ⟨_, rfl⟩
      rw [← enq] at hof hMl ⊢
      have HNQ := Lib.hid enq
      have hb12 : Below wb.heap.size wb w12 := HBC.out.grown (by rw [HN1.out] at *; exact hg12) HBC.out.size (fun q hq => (HOC.out.lt q hq).1)
      have HC12 := Lib.hid (HB.out.below hb12)
      have HB12 := Lib.hid (HBB.out.trans (hb12.mono HBB.out.size))
      have HO12 := Lib.hid hof
      have hgd12 := (hb12.block gd hgbl).trans HGB.out
      have HG12 := Lib.hid hgd12
      have hgl12 := (Array.getElem?_eq_some_iff.1 hgd12).1
      have p3 := cell_of_blk (j := 3) hgd12 rfl
      have p4 := cell_of_blk (j := 4) hgd12 rfl
      have p5 := cell_of_blk (j := 5) hgd12 rfl
      obtain ⟨gv, egv⟩ : ∃ g, g = w12.heap.size := ⟨_, rfl⟩
      obtain ⟨w13, e13⟩ : ∃ V : World, V = w12.alloc (veB d.fw) := ⟨_, rfl⟩
      have hb13 : Below w12.heap.size w12 w13 := by rw [e13]; exact (Below.refl _ _).alloc (Nat.le_refl _) _
      have hg13 : w13.heap[gv]? = some (veB d.fw) := by rw [e13, egv]; exact zz_heap _ _
      have HI0 := Lib.hid (show ∃ v, VeOk v ∧ chkL L d hmd v (Mf.drop 0) ∧ w13.heap[gv]? = some (veB v) ∧ Below w12.heap.size w12 w13 from ⟨d.fw, HDO.out.fw, HCH.out, hg13, hb13⟩)
      have hgvl : w12.heap.size ≤ gv := by omega
      unfold veB at e13
      clear HDL hof hg12 eMf enq hb12 hgd12 hb13 hg13
      go_upto_region 15 with (fail)
      rw [← egv, ← e13]
      clear e13 egv p3 p4 p5
      go_upto_region 16 with (fail)
      go_loopw [94] (fun i wx => ∃ ii : Nat, ii ≤ nq ∧ i = .int .i64 (ii : Int) ∧ Hid (∃ v, VeOk v ∧ chkL L d hmd v (Mf.drop ii) ∧ wx.heap[gv]? = some (veB v) ∧ Below w12.heap.size w12 wx)) (fun i _ => nq - (intOf i).toNat)
      case atStart => exact ⟨0, Nat.zero_le _, rfl, HI0⟩
      case round =>
        obtain ⟨ii, hii, rfl, HX⟩ := hrel
        obtain ⟨wx, rfl⟩ : ∃ wy : World, wy = wr := ⟨_, rfl⟩
        by_cases hlt2 : ii < nq
        · have hltI2 : (ii : Int) < (nq : Int) := by omega
          obtain ⟨v, hvo, hch, hgx, hbx⟩ := HX.out
          obtain ⟨m, hm⟩ : ∃ m, Mf[ii]? = some m := ⟨_, List.getElem?_eq_getElem (by have := HNQ.out; omega)⟩
          have hdr : Mf.drop ii = m :: Mf.drop (ii + 1) := by
            obtain ⟨h1, h2⟩ := List.getElem?_eq_some_iff.1 hm
            rw [List.drop_eq_getElem_cons h1, h2]
          rw [hdr] at hch
          obtain ⟨⟨hct, hc3⟩, hch2⟩ := hch
          have HCT := Lib.hid hct
          have HCH2 := Lib.hid hch2
          have HMO := Lib.hid (HMS.out m (List.mem_of_getElem? hm))
          have HVO := Lib.hid hvo
          have HXW := Lib.hid (HC12.out.below hbx)
          have hox := own_below HO12.out hbx
          obtain ⟨h1, h2, h3⟩ | ⟨gn, rfl, hgn1, hgn2⟩ := own_two hox
          · omega
          have hcl := own_cells0 hox
          have e0 : wx.cell? ⟨gn, ii * 6, none⟩ = some (.int .i64 m.at_) := by have := rec_cell mkC_len hcl ii m hm 0 _ rfl; simpa using this
          have e1 : wx.cell? ⟨gn, ii * 6 + 1, none⟩ = some (.string (dvT m.d)) := by have := rec_cell mkC_len hcl ii m hm 1 _ rfl; simpa using this
          have e2 : wx.cell? ⟨gn, ii * 6 + 2, none⟩ = some (.int .i64 m.kd) := by have := rec_cell mkC_len hcl ii m hm 2 _ rfl; simpa using this
          have e3 : wx.cell? ⟨gn, ii * 6 + 3, none⟩ = some (.int .i64 m.v.a) := by have := rec_cell mkC_len hcl ii m hm 3 _ rfl; simpa using this
          have e4 : wx.cell? ⟨gn, ii * 6 + 4, none⟩ = some (.int .i64 m.v.b) := by have := rec_cell mkC_len hcl ii m hm 4 _ rfl; simpa using this
          have e5 : wx.cell? ⟨gn, ii * 6 + 5, none⟩ = some (.int .i64 m.v.c) := by have := rec_cell mkC_len hcl ii m hm 5 _ rfl; simpa using this
          clear hcl hox
          obtain ⟨gm, egm⟩ : ∃ g, g = wx.heap.size := ⟨_, rfl⟩
          obtain ⟨wm, em⟩ : ∃ V : World, V = wx.alloc (mkB m) := ⟨_, rfl⟩
          have hbm : Below wx.heap.size wx wm := by rw [em]; exact (Below.refl _ _).alloc (Nat.le_refl _) _
          have hgm : wm.heap[gm]? = some (mkB m) := by rw [em, egm]; exact zz_heap _ _
          have hgvx := (Array.getElem?_eq_some_iff.1 hgx).1
          have hgvm := (hbm.block gv hgvx).trans hgx
          have hgdm := ((hbx.trans (hbm.mono hbx.size)).block gd hgl12).trans HG12.out
          have HBM := Lib.hid (hbx.trans (hbm.mono hbx.size))
          have HMW := Lib.hid (HXW.out.below hbm)
          have HGM := Lib.hid (And.intro hgm (And.intro hgvm hgdm))
          have v0 := cell_of_blk (j := 0) hgvm rfl
          have v1 := cell_of_blk (j := 1) hgvm rfl
          have v2 := cell_of_blk (j := 2) hgvm rfl
          have p1 := cell_of_blk (j := 1) hgdm rfl
          have lgv := (Array.getElem?_eq_some_iff.1 hgvm).1
          have lgd := (Array.getElem?_eq_some_iff.1 hgdm).1
          have lgm := (Array.getElem?_eq_some_iff.1 hgm).1
          have HNX := Lib.hid (show Calls Tryz.prog 15 #[.slice A N cL, .string (mdT d.md), veV v] wm (fun e w' => @NexPost ⟨d.md, hmd⟩ L v wm e w') from @next_im ⟨d.md, hmd⟩ L v N cL A wm HMW.out.imsI HN.out.symm HL.out HVO.out)
          unfold veV at HNX
          unfold mkB at em
          clear hct hch2 hvo hbx hbm hgm hgvm hgdm hgx hdr hm
          go_upto_region 18 with (fail)
          rw [← egm, ← em]
          clear em egm e0 e1 e2 e3 e4 e5
          go_wp2_with (fail)
          refine HNX.out.mono ?_
          rintro e w16 ⟨An, cn, nn, hnn, rfl, hon, hb16⟩
          have HB16 := Lib.hid (HBM.out.trans (hb16.mono HBM.out.size))
          have hgm6 := (hb16.block gm lgm).trans HGM.out.1
          have HG16 := Lib.hid (show w16.heap[gm]? = some (mkB m) ∧ w16.heap[gv]? = some (veB v) ∧ w16.heap[gd]? = some (dvB d) from ⟨hgm6, (hb16.block gv lgv).trans HGM.out.2.1, (hb16.block gd lgd).trans HGM.out.2.2⟩)
          have q3 := cell_of_blk (j := 3) hgm6 rfl
          have q4 := cell_of_blk (j := 4) hgm6 rfl
          have q5 := cell_of_blk (j := 5) hgm6 rfl
          have lgm6 := (Array.getElem?_eq_some_iff.1 hgm6).1
          have hnn8 : nn ≤ 5000 := by
            rw [hnn]
            unfold tkV
            rw [List.length_map]
            have h1 := @tak_len ⟨d.md, hmd⟩ L v
            have h2 := HL.out.len
            omega
          have HCV := Lib.hid (containsV_any (@tkV ⟨d.md, hmd⟩ L v) m.v nn cn An w16 hnn.symm hnn8 (own_row hon))
          rw [decide_eq_true HCT.out] at HCV
          unfold veV at HCV
          clear hnn hon hb16 HNX hnn8 hgm6 v0 v1 v2 p1
          go_wp2_with (fail)
          refine HCV.out.mono ?_
          rintro e w17 ⟨rfl, hb17⟩
          have l1 := (Array.getElem?_eq_some_iff.1 HG16.out.1).1
          have l2 := (Array.getElem?_eq_some_iff.1 HG16.out.2.1).1
          have l3 := (Array.getElem?_eq_some_iff.1 HG16.out.2.2).1
          have g1 := (hb17.block gm l1).trans HG16.out.1
          have g2 := (hb17.block gv l2).trans HG16.out.2.1
          have g3 := (hb17.block gd l3).trans HG16.out.2.2
          have HB17 := Lib.hid (HB16.out.trans (hb17.mono HB16.out.size))
          have HG17 := Lib.hid g2
          have q0 := cell_of_blk (j := 2) g1 rfl
          have z1 := (Array.getElem?_eq_some_iff.1 g1).1
          have z2 := (Array.getElem?_eq_some_iff.1 g2).1
          have z3 := (Array.getElem?_eq_some_iff.1 g3).1
          have p0 := cell_of_blk (j := 0) g3 rfl
          clear l1 l2 l3 hb17 HCV q3 q4 q5 lgm6 lgv lgd lgm
          by_cases hk3 : m.kd = 3
          · have hdk : ¬ d.k = 1 := fun e => hc3 ⟨hk3, e⟩
            have hd2 : ((dvT d.k).toList == [100, 50]) = false := by rw [← dvT_one]; exact (dvT_beq HDO.out.k (show 1 < 6 by omega)).2.trans (decide_eq_false hdk)
            rw [hk3] at q0
            have q3 := cell_of_blk (j := 3) g1 rfl
            have q4 := cell_of_blk (j := 4) g1 rfl
            have q5 := cell_of_blk (j := 5) g1 rfl
            have v0 := cell_of_blk (j := 0) g2 rfl
            have v1 := cell_of_blk (j := 1) g2 rfl
            have v2 := cell_of_blk (j := 2) g2 rfl
            have f0 : w17.frozen? ⟨gv, 0, none⟩ = false := by simp [World.frozen?, g2, veB]
            have f1 : w17.frozen? ⟨gv, 1, none⟩ = false := by simp [World.frozen?, g2, veB]
            have f2 : w17.frozen? ⟨gv, 2, none⟩ = false := by simp [World.frozen?, g2, veB]
            obtain ⟨w18, e18⟩ : ∃ V : World, V = ((w17.setCell ⟨gv, 0, none⟩ (.int .i64 m.v.a)).setCell ⟨gv, 1, none⟩ (.int .i64 m.v.b)).setCell ⟨gv, 2, none⟩ (.int .i64 m.v.c) := ⟨_, rfl⟩
            have HG18 := Lib.hid (show w18.heap[gv]? = some (veB m.v) ∧ Below w12.heap.size w12 w18 from by
              constructor
              · rw [e18]
                have h0 : (w17.setCell ⟨gv, 0, none⟩ (.int .i64 m.v.a)).heap[gv]? = some (.cells #[.int .i64 m.v.a, .int .i64 v.b, .int .i64 v.c] 29 (0, 0)) := (setblkV (j := 0) _ g2).trans rfl
                have h1 : ((w17.setCell ⟨gv, 0, none⟩ (.int .i64 m.v.a)).setCell ⟨gv, 1, none⟩ (.int .i64 m.v.b)).heap[gv]? = some (.cells #[.int .i64 m.v.a, .int .i64 m.v.b, .int .i64 v.c] 29 (0, 0)) := (setblkV (j := 1) _ h0).trans rfl
                exact (setblkV (j := 2) _ h1).trans rfl
              · rw [e18]
                exact ((HB17.out.setCell hgvl _).setCell hgvl _).setCell hgvl _)
            rw [if_pos hk3] at HCH2
            clear g1 g2 g3
            go_wp2_with (fail)
            rw [← e18]
            clear e18
            go_roundw
            case rel => exact ⟨ii + 1, by omega, by go_num, Lib.hid ⟨m.v, HMO.out.v, HCH2.out, HG18.out.1, HG18.out.2⟩⟩
            case measure => simp [intOf]; omega
          · rw [if_neg hk3] at HCH2
            clear g1 g2 g3
            go_wp2_with (fail)
            go_roundw
            case rel => exact ⟨ii + 1, by omega, by go_num, Lib.hid ⟨v, HVO.out, HCH2.out, HG17.out, HB17.out⟩⟩
            case measure => simp [intOf]; omega
        · have hltI2 : ¬ (ii : Int) < (nq : Int) := by omega
          obtain ⟨v, _, _, _, hbx⟩ := HX.out
          have HBX := Lib.hid hbx
          clear hbx
          go_wp2_with (fail)
          go_roundw
          case rel => exact ⟨_, _, _, _, _, _, _, _, ⟨j + 1, by omega, rfl, Lib.hid (HB12.out.trans (HBX.out.mono HB12.out.size))⟩, rfl, rfl, rfl, rfl, rfl, rfl, rfl, by go_num⟩
          case measure => simp [intOf]; omega
    · have hltI : ¬ (j : Int) < (nf : Int) := by omega
      have HBE := Lib.hid HA.out.be
      go_wp2_with (fail)
      refine (ready_yes wa).mono ?_
      rintro e wz ⟨rfl, hbz⟩
      have HBZ := Lib.hid (HBE.out.trans (hbz.mono HBE.out.size))
      clear hbz
      go_wp2_with (fail)
      go_ret
      exact ⟨rfl, HBZ.out⟩
end Go.Proofs.YtidgicbhgnbidaaGreatDoor
