/- WavesWait: the law function. -/
import Derived.Test.YtidgicbhgnbidaaGreatDoorCmJ
import Derived.Test.YtidgicbhgnbidaaGreatDoorCnB
import Derived.Test.YtidgicbhgnbidaaGreatDoorCnC
import Derived.Test.YtidgicbhgnbidaaGreatDoorMyK
import Derived.Test.YtidgicbhgnbidaaGreatDoorMgA
import Derived.Deep.RegionLawGrows
namespace Go.Proofs.YtidgicbhgnbidaaGreatDoor
open Go.RowKit

/-- What the law has made of its stream. -/
structure WwS (w : World) (B p k : Nat) (xs : List Int) (C : Cm) (L : List Im) (A : Option Addr) (N c : Nat) (F : List Dv) (AF : Option Addr) (nf cf gc : Nat) (wx : World) : Prop where
  st : Strm wx p xs k
  wv : wx.ownsRow B 138 4 (.slice C.wa C.ws.length C.wc) C.ws.length (recs wvC C.ws)
  im : wx.ownsRow B 91 6 (.slice A N c) N (recs imC L)
  imo : ∀ x ∈ L, ImO wx B x
  fl : wx.ownsRow B 67 7 (.slice AF nf cf) nf (recs dvC F)
  cm : wx.heap[gc]? = some (cmB C)
  be : Below w.heap.size w wx
  lo : w.heap.size ≤ p ∧ p < B ∧ B ≤ gc
section
variable {w wx wy : World} {B p k N c nf cf gc : Nat} {xs : List Int} {C : Cm} {L : List Im} {F : List Dv} {A AF : Option Addr}
theorem WwS.strm (h : WwS w B p k xs C L A N c F AF nf cf gc wx) {k' : Nat} (hs : Strm wy p xs k') (hg : wx.grownBy wy (some p)) : WwS w B p k' xs C L A N c F AF nf cf gc wy := by
  obtain ⟨l1, l2, l3⟩ := h.lo
  exact ⟨hs, own_pM h.wv l2 hg, own_pM h.im l2 hg, fun x hx => (h.imo x hx).strm hg l2, own_pM h.fl l2 hg, blk_pM h.cm (by omega) hg, h.be.grown hg h.be.size (fun k hk => by cases hk; exact l1), h.lo⟩
theorem WwS.below (h : WwS w B p k xs C L A N c F AF nf cf gc wx) (hb : Below wx.heap.size wx wy) : WwS w B p k xs C L A N c F AF nf cf gc wy :=
  h.strm (h.st.below hb) ⟨hb.os, hb.tape, hb.output, hb.size, fun b hl _ => hb.block b hl⟩
theorem WwS.imsI (h : WwS w B p k xs C L A N c F AF nf cf gc wx) : ImsI wx wx.heap.size A L :=
  ⟨own_row h.im, fun x hx => ⟨own_row (h.imo x hx).mo, own_row (h.imo x hx).rs⟩⟩
end
theorem r14_any (w : World) (p k : Nat) (xs : List Int) (hk : k < 1000000) (hs : Strm w p xs k) :
    Calls Tryz.prog 8 #[.pointer (some ⟨p, 0, none⟩), .int .i64 0, .int .i64 14] w fun e w' => e = .returned (.int .i64 (nextN xs k 15 : Int)) ∧ Strm w' p xs (k + 1) ∧ w.grownBy w' (some p) := by
  have := range_nat w p k 14 xs hk (by omega) hs
  simpa using this
def pkAt5 : List Int := [0, 50, 100, 150, 300]
theorem pick5_any (V : World) (p k g : Nat) (xs : List Int) (hk : k < 1000000) (hs : Strm V p xs k) (hg : p < g) (hb : V.heap[g]? = some (.cells #[.int .i64 0, .int .i64 50, .int .i64 100, .int .i64 150, .int .i64 300] 3 (0, 0))) :
    Calls Tryz.prog 9 #[.pointer (some ⟨p, 0, none⟩), .slice (some ⟨g, 0, none⟩) 5 5] V fun e w' => (∃ t : Int, (0 ≤ t ∧ t ≤ 300) ∧ e = .returned (.int .i64 t)) ∧ Strm w' p xs (k + 1) ∧ V.grownBy w' (some p) := by
  refine (pick_any V p k g 5 5 xs pkAt5 hk rfl (by omega) (by omega) hs (by omega) (cells_blkV hb rfl)).mono ?_
  rintro e w' ⟨rfl, h⟩
  exact ⟨⟨_, pkv_all (fun v => 0 ≤ v ∧ v ≤ 300) pkAt5 (by decide) (nextN xs k 5) (nextN_lt _ _ _ (by omega)), rfl⟩, h⟩
def WwM (w : World) (B p k : Nat) (xs : List Int) (C : Cm) (L : List Im) (A : Option Addr) (N c : Nat) (F : List Dv) (AF : Option Addr) (nf cf gc : Nat) (s u : Value) (wx : World) : Prop :=
  ∃ (M : List Mk) (A6 : Option Addr) (n6 c6 : Nat) (t : Int) (k2 : Nat), s = .slice A6 n6 c6 ∧ u = .int .i64 t ∧ MksOk M ∧ M.length = n6 ∧ (0 ≤ t ∧ t ≤ 300) ∧ k2 ≤ k + 987 ∧ wx.ownsRow B 64 6 (.slice A6 n6 c6) n6 (recs mkC M) ∧ WwS w B p k2 xs C L A N c F AF nf cf gc wx
set_option maxRecDepth 100000 in
set_option maxHeartbeats 8000000 in
theorem wwL_yes (w : World) (xs : List Int) (n c : Nat) (A0 : Option Addr) (hs : ∀ (W : World), Below w.heap.size w W → W.heap[w.heap.size]? = some (.cells #[.slice A0 n c, .int .i64 0] 25) → Strm W w.heap.size xs 0) :
    Calls Tryz.prog 5 #[.slice A0 n c] w fun e w' => e = .returned (.bool true) ∧ Below w.heap.size w w' := by
  have HS := Lib.hid hs
  clear hs
  go_enter Tryz.func5, Tryz.ntmps5
  go_upto_region 2 with (fail)
  generalize hW : w.alloc (.cells #[.slice A0 n c, .int .i64 0] 25) = w0
  have hB0 : Below w.heap.size w w0 := hW ▸ (Below.refl _ _).alloc (Nat.le_refl _) _
  have HST0 := Lib.hid (HS.out w0 hB0 (by rw [← hW]; exact heap_new w _))
  have HB0 := Lib.hid hB0
  clear hW hB0 HS
  obtain ⟨p, ep⟩ : ∃ p, p = w.heap.size := ⟨_, rfl⟩
  have hpw : w.heap.size ≤ p := by omega
  rw [← ep] at HST0 ⊢
  clear ep
  obtain ⟨B, eB⟩ : ∃ B, B = w0.heap.size := ⟨_, rfl⟩
  have hpB : p < B := by rw [eB]; exact HST0.out.lt
  have hBle : B ≤ w0.heap.size := by omega
  have hBge : w0.heap.size ≤ B := by omega
  clear eB
  go_wp2_with (fail)
  refine (rightCampaign_any w0 p 0 xs (by omega) HST0.out).mono ?_
  rintro e w1 ⟨C, k1, hC, hk1, rfl, hwv, hst1, hg1⟩
  have HC := Lib.hid hC
  have H1 := Lib.hid (show Strm w1 p xs k1 ∧ w1.ownsRow B 138 4 (.slice C.wa C.ws.length C.wc) C.ws.length (recs wvC C.ws) ∧ w0.grownBy w1 (some p) from ⟨hst1, own_mono hwv hBle, hg1⟩)
  have hs1 := hg1.size
  clear hC hwv hst1 hg1 HST0
  unfold cmV
  go_wp2_with (fail)
  refine (rightImages_any w1 p k1 xs (by omega) H1.out.1).mono ?_
  rintro e w2 ⟨L, A, cL, N, k2, rfl, hN, hL, hIm, hown, hst2, hk2, hg2⟩
  have HL := Lib.hid hL
  have HN := Lib.hid hN
  have hs2 := hg2.size
  have H2 := Lib.hid (show Strm w2 p xs k2 ∧ w2.ownsRow B 138 4 (.slice C.wa C.ws.length C.wc) C.ws.length (recs wvC C.ws) ∧ w0.grownBy w2 (some p) ∧ w2.ownsRow B 91 6 (.slice A N cL) N (recs imC L) ∧ ∀ x ∈ L, ImO w2 B x from ⟨hst2, own_pM H1.out.2.1 hpB hg2, grown_trans H1.out.2.2 hg2, own_mono hown (by omega), fun x hx => ⟨own_mono (hIm x hx).mo (by omega), own_mono (hIm x hx).rs (by omega)⟩⟩)
  clear hL hN hIm hown hst2 hg2 H1
  go_wp2_with (fail)
  refine (rightFleet_any w2 p k2 xs (by omega) H2.out.1).mono ?_
  rintro e w3 ⟨F, AF, nf, cf, k3, hF, hnf, hk3, rfl, hfl, hst3, hg3⟩
  have hs3 := hg3.size
  obtain ⟨gc, egc⟩ : ∃ g, g = w3.heap.size := ⟨_, rfl⟩
  obtain ⟨w4, e4⟩ : ∃ V : World, V = w3.alloc (cmB C) := ⟨_, rfl⟩
  have hb4 : Below w3.heap.size w3 w4 := by rw [e4]; exact (Below.refl _ _).alloc (Nat.le_refl _) _
  have hgc4 : w4.heap[gc]? = some (cmB C) := by rw [e4, egc]; exact zz_heap _ _
  have H4 := Lib.hid (show WwS w B p k3 xs C L A N cL F AF nf cf gc w4 from
    ⟨hst3.below hb4, own_below (own_pM H2.out.2.1 hpB hg3) hb4, own_below (own_pM H2.out.2.2.2.1 hpB hg3) hb4, fun x hx => ((H2.out.2.2.2.2 x hx).strm hg3 hpB).below hb4, own_below (own_mono hfl (by omega)) hb4, hgc4, ((HB0.out.grown (grown_trans H2.out.2.2.1 hg3) HB0.out.size (fun k hk => by cases hk; exact hpw)).trans (hb4.mono (by have := HB0.out.size; omega))), ⟨hpw, hpB, by omega⟩⟩)
  have HF := Lib.hid (And.intro hF hnf)
  have hk3' : k3 ≤ 200 := by omega
  unfold cmB at e4
  go_upto_region 3 with (fail)
  rw [← egc, ← e4]
  clear e4 egc hb4 hgc4 hF hnf hfl hst3 hg3 H2 HB0 hs1 hs2 hs3 hk1 hk2 hk3 hBle hBge
  go_cut [7, 8] (fun s u wx => WwM w B p k3 xs C L A N cL F AF nf cf gc s u wx)
  case first =>
    have hcm := H4.out.cm
    have c0 := cell_of_blk (j := 0) hcm rfl
    have c1 := cell_of_blk (j := 1) hcm rfl
    have c2 := cell_of_blk (j := 2) hcm rfl
    have c3 := cell_of_blk (j := 3) hcm rfl
    have c4 := cell_of_blk (j := 4) hcm rfl
    have c5 := cell_of_blk (j := 5) hcm rfl
    have c6 := cell_of_blk (j := 6) hcm rfl
    have c7 := cell_of_blk (j := 7) hcm rfl
    have c8 := cell_of_blk (j := 8) hcm rfl
    have hgl := (Array.getElem?_eq_some_iff.1 hcm).1
    clear hcm
    have hb0 : Below w4.heap.size w4 w4.drew := (Below.refl _ _).drew
    have hb1 : Below w4.heap.size w4 ((w4.alloc (.cells #[.int .i64 0, .int .i64 50, .int .i64 100, .int .i64 150, .int .i64 300] 3)).drew) := ((Below.refl _ _).alloc (Nat.le_refl _) _).drew
    have hbk : ((w4.alloc (.cells #[.int .i64 0, .int .i64 50, .int .i64 100, .int .i64 150, .int .i64 300] 3)).drew).heap[w4.heap.size]? = some (.cells #[.int .i64 0, .int .i64 50, .int .i64 100, .int .i64 150, .int .i64 300] 3 (0, 0)) := zz_heap _ _
    have HR0 := Lib.hid (r14_any w4.drew p k3 xs (by omega) (H4.out.st.below hb0))
    have HR1 := Lib.hid (r14_any _ p k3 xs (by omega) (H4.out.st.below hb1))
    have HW0 := Lib.hid (H4.out.below hb0)
    have HW1 := Lib.hid (H4.out.below hb1)
    have HBK := Lib.hid hbk
    have hpg : p < w4.heap.size := H4.out.st.lt
    have hr15 := nextN_lt xs k3 15 (by omega)
    obtain ⟨r, er⟩ : ∃ r, r = nextN xs k3 15 := ⟨_, rfl⟩
    rw [← er] at HR0 HR1 hr15
    have HM0 := Lib.hid (fun (V : World) (hV : WwS w B p (k3 + 1) xs C L A N cL F AF nf cf gc V) => rightMarks_any C F r nf cf B AF V p (k3 + 1) xs (by omega) (by omega) HC.out HF.out.1 HF.out.2 hV.st hpB (by have := (Array.getElem?_eq_some_iff.1 hV.cm).1; have := hV.lo; omega) hV.fl)
    unfold cmV at HM0
    clear hb0 hb1 hbk er
    go_region_law (first
      | (go_simp
         go_at_call 8
         (with_reducible refine HR0.out.mono ?_)
         rintro e w5 ⟨rfl, hs5, hg5⟩
         have H5 := Lib.hid (HW0.out.strm hs5 hg5)
         have q0 := cell_of_blk (j := 0) H5.out.cm rfl
         have q1 := cell_of_blk (j := 1) H5.out.cm rfl
         have q2 := cell_of_blk (j := 2) H5.out.cm rfl
         have q3 := cell_of_blk (j := 3) H5.out.cm rfl
         have q4 := cell_of_blk (j := 4) H5.out.cm rfl
         have q5 := cell_of_blk (j := 5) H5.out.cm rfl
         have q6 := cell_of_blk (j := 6) H5.out.cm rfl
         have q7 := cell_of_blk (j := 7) H5.out.cm rfl
         have q8 := cell_of_blk (j := 8) H5.out.cm rfl
         have hql := (Array.getElem?_eq_some_iff.1 H5.out.cm).1
         have hpl := H5.out.st.lt
         (try clear hs5 hg5))
      | (go_simp
         go_at_call 8
         (with_reducible refine HR1.out.mono ?_)
         rintro e w5 ⟨rfl, hs5, hg5⟩
         have H5 := Lib.hid (HW1.out.strm hs5 hg5)
         have HBK5 := Lib.hid (blk_pM HBK.out hpg hg5)
         have q0 := cell_of_blk (j := 0) H5.out.cm rfl
         have q1 := cell_of_blk (j := 1) H5.out.cm rfl
         have q2 := cell_of_blk (j := 2) H5.out.cm rfl
         have q3 := cell_of_blk (j := 3) H5.out.cm rfl
         have q4 := cell_of_blk (j := 4) H5.out.cm rfl
         have q5 := cell_of_blk (j := 5) H5.out.cm rfl
         have q6 := cell_of_blk (j := 6) H5.out.cm rfl
         have q7 := cell_of_blk (j := 7) H5.out.cm rfl
         have q8 := cell_of_blk (j := 8) H5.out.cm rfl
         have hql := (Array.getElem?_eq_some_iff.1 H5.out.cm).1
         have hpl := H5.out.st.lt
         (try clear hs5 hg5))
      | (go_simp
         go_at_call 26
         have hq5 := HBK5
         (with_reducible refine (HM0.out w5 H5.out).mono ?_)
         rintro e w6 ⟨M, A6, n6, c6, k6, hM, hn6, hk6, rfl, ho6, hs6, hg6⟩
         have H6 := Lib.hid (H5.out.strm hs6 hg6)
         have HMO6 := Lib.hid (And.intro hM (And.intro hn6 (own_mono ho6 (show B ≤ w5.heap.size from by have := H5.out.lo; omega))))
         have HBK6 := Lib.hid (blk_pM HBK5.out hpg hg6)
         (try clear hM hn6 ho6 hs6 hg6 q0 q1 q2 q3 q4 q5 q6 q7 q8))
      | (go_simp
         go_at_call 26
         have hq5 := H5
         (with_reducible refine (HM0.out w5 H5.out).mono ?_)
         rintro e w6 ⟨M, A6, n6, c6, k6, hM, hn6, hk6, rfl, ho6, hs6, hg6⟩
         have H6 := Lib.hid (H5.out.strm hs6 hg6)
         have HMO6 := Lib.hid (And.intro hM (And.intro hn6 (own_mono ho6 (show B ≤ w5.heap.size from by have := H5.out.lo; omega))))
         have hl6 := hs6.lt
         (try clear hM hn6 ho6 hs6 hg6 q0 q1 q2 q3 q4 q5 q6 q7 q8))
      | (go_simp
         go_at_call 26
         have hq5 := H5
         have H5a := Lib.hid (H5.out.below (wy := w5.alloc (.cells #[.int .i64 0, .int .i64 50, .int .i64 100, .int .i64 150, .int .i64 300] 3)) ((Below.refl _ _).alloc (Nat.le_refl _) _))
         (with_reducible refine (HM0.out _ H5a.out).mono ?_)
         rintro e w6 ⟨M, A6, n6, c6, k6, hM, hn6, hk6, rfl, ho6, hs6, hg6⟩
         have H6 := Lib.hid (H5a.out.strm hs6 hg6)
         have HMO6 := Lib.hid (And.intro hM (And.intro hn6 (own_mono ho6 (show B ≤ (w5.alloc (.cells #[.int .i64 0, .int .i64 50, .int .i64 100, .int .i64 150, .int .i64 300] 3)).heap.size from by have := H5.out.lo; simp only [World.size_alloc]; omega))))
         have HBK6b := Lib.hid (blk_pM (zz_heap w5 (.cells #[.int .i64 0, .int .i64 50, .int .i64 100, .int .i64 150, .int .i64 300] 3)) hpl hg6)
         (try clear hM hn6 ho6 hs6 hg6 q0 q1 q2 q3 q4 q5 q6 q7 q8))
      | (go_simp
         go_at_call 9
         have hq6 := HBK6
         (with_reducible refine (pick5_any w6 p _ _ xs (by omega) H6.out.st hpg HBK6.out).mono ?_)
         rintro e w7 ⟨⟨t, ht, rfl⟩, hs7, hg7⟩
         have H7 := Lib.hid (H6.out.strm hs7 hg7)
         have HMO7 := Lib.hid (own_pM HMO6.out.2.2 hpB hg7)
         (try clear hs7 hg7))
      | (go_simp
         go_at_call 9
         have hq6 := HBK6b
         (with_reducible refine (pick5_any w6 p _ _ xs (by omega) H6.out.st hpl HBK6b.out).mono ?_)
         rintro e w7 ⟨⟨t, ht, rfl⟩, hs7, hg7⟩
         have H7 := Lib.hid (H6.out.strm hs7 hg7)
         have HMO7 := Lib.hid (own_pM HMO6.out.2.2 hpB hg7)
         (try clear hs7 hg7))
      | (go_simp
         go_at_call 9
         have hq6 := hl6
         have hb6a : Below w6.heap.size w6 (w6.alloc (.cells #[.int .i64 0, .int .i64 50, .int .i64 100, .int .i64 150, .int .i64 300] 3)) := (Below.refl _ _).alloc (Nat.le_refl _) _
         (with_reducible refine (pick5_any _ p _ _ xs (by omega) (H6.out.st.below hb6a) hl6 (zz_heap w6 _)).mono ?_)
         rintro e w7 ⟨⟨t, ht, rfl⟩, hs7, hg7⟩
         have H7 := Lib.hid ((H6.out.below hb6a).strm hs7 hg7)
         have HMO7 := Lib.hid (own_pM (own_below HMO6.out.2.2 hb6a) hpB hg7)
         (try clear hs7 hg7)))
    all_goals
      go_wp2_with (fail)
      go_meet
      exact ⟨M, A6, n6, c6, t, k6 + 1, rfl, rfl, HMO6.out.1, HMO6.out.2.1, ht, by omega, HMO7.out, H7.out⟩
  case rest =>
  obtain ⟨M, A6, n6, c6, t, k2, rfl, rfl, hM, hn6, ht, hk2, hmo, h5⟩ := hcut
  obtain ⟨w5, rfl⟩ : ∃ wy : World, wy = wc := ⟨_, rfl⟩
  have H5 := Lib.hid h5
  have HMO5 := Lib.hid hmo
  have HM := Lib.hid (And.intro hM hn6)
  have hcm := h5.cm
  have c0 := cell_of_blk (j := 0) hcm rfl
  have c1 := cell_of_blk (j := 1) hcm rfl
  have c2 := cell_of_blk (j := 2) hcm rfl
  have c3 := cell_of_blk (j := 3) hcm rfl
  have c4 := cell_of_blk (j := 4) hcm rfl
  have c5 := cell_of_blk (j := 5) hcm rfl
  have c6' := cell_of_blk (j := 6) hcm rfl
  have c7 := cell_of_blk (j := 7) hcm rfl
  have c8 := cell_of_blk (j := 8) hcm rfl
  have hgl := (Array.getElem?_eq_some_iff.1 hcm).1
  have ht2 : 0 ≤ t ∧ t ≤ 1000000 := by omega
  have HOF := Lib.hid (offersX_any C F M L nf cf n6 c6 N cL AF A6 A t w5 HC.out HF.out.1 hM HL.out HF.out.2 hn6 HN.out.symm ht2 (own_row h5.wv) h5.imsI (own_row h5.fl) (own_row hmo))
  unfold cmV at HOF
  clear h5 hmo hM hn6 hcm H4
  go_wp2_with (fail)
  refine HOF.out.mono ?_
  rintro e w6 ⟨AO, cO, kO, O, rfl, hkO, hok, hoO, hb6⟩
  have HOK := Lib.hid (And.intro hkO hok)
  have HO6 := Lib.hid hoO
  have H6 := Lib.hid (H5.out.below hb6)
  have HMO6 := Lib.hid (own_below HMO5.out hb6)
  have hsz5 := hb6.size
  clear hkO hok hoO hb6 HOF c0 c1 c2 c3 c4 c5 c6' c7 c8 hgl
  have hcm := H6.out.cm
  have c0 := cell_of_blk (j := 0) hcm rfl
  have c1 := cell_of_blk (j := 1) hcm rfl
  have c2 := cell_of_blk (j := 2) hcm rfl
  have c3 := cell_of_blk (j := 3) hcm rfl
  have c4 := cell_of_blk (j := 4) hcm rfl
  have c5 := cell_of_blk (j := 5) hcm rfl
  have c6' := cell_of_blk (j := 6) hcm rfl
  have c7 := cell_of_blk (j := 7) hcm rfl
  have c8 := cell_of_blk (j := 8) hcm rfl
  have hgl := (Array.getElem?_eq_some_iff.1 hcm).1
  have HBE := Lib.hid (begins_any C F M nf cf n6 c6 AF A6 t w6 HC.out HF.out.1 HM.out.1 HF.out.2 HM.out.2 ht2 (own_row H6.out.wv) (own_row H6.out.fl) (own_row HMO6.out))
  unfold cmV at HBE
  clear hcm
  go_wp2_with (fail)
  refine HBE.out.mono ?_
  rintro e w7 ⟨⟨AB, cB, kB, hkB, rfl⟩, hb7⟩
  have H7 := Lib.hid (H6.out.below hb7)
  have HMO7 := Lib.hid (own_below HMO6.out hb7)
  have HO7 := Lib.hid (own_below HO6.out hb7)
  have HKB := Lib.hid hkB
  clear hb7 hkB HBE c0 c1 c2 c3 c4 c5 c6' c7 c8 hgl
  obtain ⟨cs, ecs⟩ : ∃ cs, cs = (fiV C F t M).cs := ⟨_, rfl⟩
  have HCS := Lib.hid ecs
  have HCL := Lib.hid (show cs.length = nf by rw [ecs, fiV_len HC.out HF.out.1 ht2 HM.out.1]; exact HF.out.2)
  clear ecs
  have hnf6 : nf ≤ 6 := by rw [← HF.out.2]; exact HF.out.1.n
  go_upto_region 10 with (fail)
  go_loopw [65, 13] (fun i b wr => ∃ (j : Nat) (z : Int), j ≤ nf ∧ i = .int .i64 (j : Int) ∧ b = .int .i64 z ∧ 0 ≤ z ∧ z ≤ j ∧ Hid (z = (bzN (cs.take j) : Int) ∧ Below w7.heap.size w7 wr)) (fun i _ _ => nf - (intOf i).toNat)
  case atStart => exact ⟨0, 0, Nat.zero_le _, rfl, rfl, Int.le_refl _, Int.le_refl _, Lib.hid ⟨by simp [bzN], Below.refl _ _⟩⟩
  case round =>
    obtain ⟨j, z, hj, rfl, rfl, hz0, hz1, HR⟩ := hrel
    obtain ⟨w8, rfl⟩ : ∃ wy : World, wy = wr := ⟨_, rfl⟩
    by_cases hlt : j < nf
    · have hltI : (j : Int) < (nf : Int) := by omega
      obtain ⟨d, hd⟩ : ∃ d, F[j]? = some d := ⟨_, List.getElem?_eq_getElem (by rw [HF.out.2]; exact hlt)⟩
      have H8 := Lib.hid (H7.out.below HR.out.2)
      have HDO := Lib.hid (HF.out.1.ok d (List.mem_of_getElem? hd))
      have HD := Lib.hid hd
      obtain ⟨h1, h2, h3⟩ | ⟨gf, rfl, hgf1, hgf2⟩ := own_two H8.out.fl
      · omega
      have hcl := own_cells0 H8.out.fl
      have e0 : w8.cell? ⟨gf, j * 7, none⟩ = some (.string (dvT d.k)) := by have := rec_cell dvC_len hcl j d hd 0 _ rfl; simpa using this
      have e1 : w8.cell? ⟨gf, j * 7 + 1, none⟩ = some (.string (mdT d.md)) := by have := rec_cell dvC_len hcl j d hd 1 _ rfl; simpa using this
      have e2 : w8.cell? ⟨gf, j * 7 + 2, none⟩ = some (.string tnT) := by have := rec_cell dvC_len hcl j d hd 2 _ rfl; simpa using this
      have e3 : w8.cell? ⟨gf, j * 7 + 3, none⟩ = some (.int .i64 d.fw.a) := by have := rec_cell dvC_len hcl j d hd 3 _ rfl; simpa using this
      have e4 : w8.cell? ⟨gf, j * 7 + 4, none⟩ = some (.int .i64 d.fw.b) := by have := rec_cell dvC_len hcl j d hd 4 _ rfl; simpa using this
      have e5 : w8.cell? ⟨gf, j * 7 + 5, none⟩ = some (.int .i64 d.fw.c) := by have := rec_cell dvC_len hcl j d hd 5 _ rfl; simpa using this
      have e6 : w8.cell? ⟨gf, j * 7 + 6, none⟩ = some (.slice none 0 0) := by have := rec_cell dvC_len hcl j d hd 6 _ rfl; simpa using this
      clear hcl hd
      obtain ⟨gd, egd⟩ : ∃ g, g = w8.heap.size := ⟨_, rfl⟩
      obtain ⟨w9, e9⟩ : ∃ V : World, V = w8.alloc (dvB d) := ⟨_, rfl⟩
      have hb9 : Below w8.heap.size w8 w9 := by rw [e9]; exact (Below.refl _ _).alloc (Nat.le_refl _) _
      have hg9 : w9.heap[gd]? = some (dvB d) := by rw [e9, egd]; exact zz_heap _ _
      have HB9 := Lib.hid (HR.out.2.trans (hb9.mono HR.out.2.size))
      have H9 := Lib.hid (H8.out.below hb9)
      have HG9 := Lib.hid hg9
      have hcm := H9.out.cm
      have c0 := cell_of_blk (j := 0) hcm rfl
      have c1 := cell_of_blk (j := 1) hcm rfl
      have c2 := cell_of_blk (j := 2) hcm rfl
      have c3 := cell_of_blk (j := 3) hcm rfl
      have c4 := cell_of_blk (j := 4) hcm rfl
      have c5 := cell_of_blk (j := 5) hcm rfl
      have c6' := cell_of_blk (j := 6) hcm rfl
      have c7 := cell_of_blk (j := 7) hcm rfl
      have c8 := cell_of_blk (j := 8) hcm rfl
      have hgl := (Array.getElem?_eq_some_iff.1 hcm).1
      have p0 := cell_of_blk (j := 0) hg9 rfl
      have p1 := cell_of_blk (j := 1) hg9 rfl
      have p2 := cell_of_blk (j := 2) hg9 rfl
      have p3 := cell_of_blk (j := 3) hg9 rfl
      have p4 := cell_of_blk (j := 4) hg9 rfl
      have p5 := cell_of_blk (j := 5) hg9 rfl
      have p6 := cell_of_blk (j := 6) hg9 rfl
      have hgl9 := (Array.getElem?_eq_some_iff.1 hg9).1
      have HST := Lib.hid (stands_any C d M n6 c6 A6 t w9 HC.out HDO.out HM.out.1 HM.out.2 ht2 (own_row H9.out.wv) (own_row (own_below (own_below HMO7.out HR.out.2) hb9)))
      unfold dvB at e9
      unfold cmV dvW sdV at HST
      obtain ⟨x, ex⟩ : ∃ x, x = stV C d t M := ⟨_, rfl⟩
      rw [← ex] at HST
      have HX := Lib.hid (show cs[j]? = some x by rw [HCS.out, ex]; exact fiV_cs HF.out.1 HM.out.1 HD.out)
      have HXO := Lib.hid (show CuOk x M.length by rw [ex]; exact stV_ok HDO.out M HM.out.1.ok)
      have HXE := Lib.hid ex
      clear ex
      go_upto_region 12 with (fail)
      rw [← egd, ← e9]
      clear e9 egd hb9 hg9 hcm e0 e1 e2 e3 e4 e5 e6
      go_wp2_with (fail)
      refine HST.out.mono ?_
      rintro e w10 ⟨rfl, hb10⟩
      obtain ⟨gs, egs⟩ : ∃ g, g = w10.heap.size := ⟨_, rfl⟩
      obtain ⟨w11, e11⟩ : ∃ V : World, V = w10.alloc (.cells #[.int .i64 x.kd, .int .i64 x.si, .int .i64 x.v.a, .int .i64 x.v.b, .int .i64 x.v.c, .int .i64 x.f] 78) := ⟨_, rfl⟩
      have hb11 : Below w10.heap.size w10 w11 := by rw [e11]; exact (Below.refl _ _).alloc (Nat.le_refl _) _
      have hg11 : w11.heap[gs]? = some (.cells #[.int .i64 x.kd, .int .i64 x.si, .int .i64 x.v.a, .int .i64 x.v.b, .int .i64 x.v.c, .int .i64 x.f] 78 (0, 0)) := by rw [e11, egs]; exact zz_heap _ _
      have hb12 := hb10.trans (hb11.mono hb10.size)
      have HB11 := Lib.hid (HB9.out.trans (hb12.mono HB9.out.size))
      have H11 := Lib.hid (H9.out.below hb12)
      have hgd11 := (hb12.block gd hgl9).trans HG9.out
      have HG11 := Lib.hid (show w11.heap[gd]? = some (dvB d) ∧ w11.heap[gs]? = some (.cells #[.int .i64 x.kd, .int .i64 x.si, .int .i64 x.v.a, .int .i64 x.v.b, .int .i64 x.v.c, .int .i64 x.f] 78 (0, 0)) from ⟨hgd11, hg11⟩)
      have s0 := cell_of_blk (j := 0) hg11 rfl
      have hgs11 := (Array.getElem?_eq_some_iff.1 hg11).1
      have hgl11 := (Array.getElem?_eq_some_iff.1 hgd11).1
      go_upto_region 13 with (fail)
      rw [← egs, ← e11]
      clear e11 egs hb10 hb11 hg11 hb12 hgd11 HST c0 c1 c2 c3 c4 c5 c6' c7 c8 hgl p0 p1 p2 p3 p4 p5 p6 hgl9
      go_upto_region 15 with (fail)
      obtain ⟨bz, ebz⟩ : ∃ b, b = bzV x := ⟨_, rfl⟩
      have HBZ := Lib.hid ebz
      go_cut [86] (fun s wx => s = .bool bz ∧ wx = w11)
      case first =>
        unfold bzV at ebz
        by_cases hk1 : x.kd = 1
        · rw [hk1] at s0 ebz
          simp at ebz
          subst ebz
          go_wp2_with (fail)
          go_meet
          exact ⟨rfl, rfl⟩
        · by_cases hk2 : x.kd = 2
          · rw [hk2] at s0 ebz
            simp at ebz
            subst ebz
            go_wp2_with (fail)
            go_meet
            exact ⟨rfl, rfl⟩
          · simp [hk1, hk2] at ebz
            subst ebz
            go_wp2_with (fail)
            go_meet
            exact ⟨by simp [hk1, hk2], rfl⟩
      case rest =>
      obtain ⟨rfl, ew⟩ := hcut
      rw [ew]
      clear ew ebz
      obtain ⟨z2, ez2⟩ : ∃ z2 : Int, z2 = z + (if bz = true then 1 else 0) := ⟨_, rfl⟩
      have hz2 : 0 ≤ z2 ∧ z2 ≤ (j : Int) + 1 := by rw [ez2]; split <;> omega
      have HZ2 := Lib.hid (show z2 = (bzN (cs.take (j + 1)) : Int) from by
        rw [bzN_snoc HX.out, ez2, HR.out.1, HBZ.out]
        split <;> simp)
      go_upto_if 86 with (fail)
      go_cut [13] (fun s wx => s = .int .i64 z2 ∧ wx = w11)
      case first =>
        cases bz with
        | true =>
          have e : z2 = z + 1 := by simpa using ez2
          clear ez2
          go_wp2_with (fail)
          go_meet
          exact ⟨by rw [e], rfl⟩
        | false =>
          have e : z2 = z := by simpa using ez2
          clear ez2
          go_wp2_with (fail)
          go_meet
          exact ⟨by rw [e], rfl⟩
      case rest =>
      obtain ⟨rfl, ew⟩ := hcut
      rw [ew]
      clear ew ez2 s0
      have hmo11 := own_below HMO7.out (Below.mono HB11.out (Nat.le_refl _))
      have HO11 := Lib.hid (own_below HO7.out HB11.out)
      have hOlen : kO ≤ 5000 := by
        have := HOK.out.2.2
        rcases Nat.eq_zero_or_pos kO with h | h
        · omega
        · have h2 := this (fun e => by have h3 := HOK.out.1; rw [e] at h3; simp at h3; omega)
          have h3 := HC.out.rm
          have h4 := HOK.out.1
          omega
      have hO6 : ∀ y ∈ O, y.d < 6 := fun y hy => by
        obtain ⟨d', x', h1, h2, _⟩ := HOK.out.2.1 y hy
        rw [h2]
        exact (HF.out.1.ok d' (List.of_mem_zip h1).1).k
      have HIX := Lib.hid (indexO_any 31 #[.pointer (some ⟨gd, 0, none⟩)] O (fun y => decide (y.d = d.k)) kO cO AO w11 HOK.out.1.symm hOlen (own_row HO11.out) (enters_of Tryz.func31 (by kernel_rfl) rfl) (fun V y hy hV => ww1_any y d gd V (hO6 y hy) HDO.out.k ((hV.block gd hgl11).trans HG11.out.1)))
      have HOR := Lib.hid (fstO_or (q := fun y => decide (y.d = d.k)) (l := O))
      obtain ⟨ix, eix⟩ : ∃ ix, ix = fstO (fun y => decide (y.d = d.k)) O := ⟨_, rfl⟩
      rw [← eix] at HIX HOR
      clear eix hO6 hmo11
      go_wp2_with (fail)
      refine HIX.out.mono ?_
      rintro e w12 ⟨rfl, hb12⟩
      have hgd12 := (hb12.block gd hgl11).trans HG11.out.1
      have hgs12 := (hb12.block gs hgs11).trans HG11.out.2
      have HB12 := Lib.hid (HB11.out.trans (hb12.mono HB11.out.size))
      have H12 := Lib.hid (H11.out.below hb12)
      have HO12 := Lib.hid (own_below HO11.out hb12)
      clear hb12 HIX
      rcases HOR.out with hno | ⟨i, y, hy, hyd, hix⟩
      · subst hno
        clear hgd12 hgs12
        go_wp2_with (fail)
        go_roundw
        case rel => exact ⟨j + 1, z2, by omega, by go_num, rfl, hz2.1, by omega, Lib.hid ⟨HZ2.out, HB12.out⟩⟩
        case measure => simp [intOf]; omega
      · subst hix
        have hiI : ¬ (i : Int) < 0 := by omega
        have hil := (List.getElem?_eq_some_iff.1 hy).1
        have hiK : i < kO := by rw [HOK.out.1]; exact hil
        have hiKI : (i : Int) < (kO : Int) := by omega
        have hyk : y.d = d.k := by simpa using hyd
        obtain ⟨hwv, hmd, htk⟩ := ofr_of HF.out.1 HM.out.1 HOK.out.2 HD.out (List.mem_of_getElem? hy) hyk
        rw [← HXE.out] at htk
        have HWV := Lib.hid (show (wvN C d.k : Int) < (kB : Int) from by rw [HKB.out]; omega)
        have HTK := Lib.hid htk
        have hcm := H12.out.cm
        have c0 := cell_of_blk (j := 0) hcm rfl
        have c1 := cell_of_blk (j := 1) hcm rfl
        have c2 := cell_of_blk (j := 2) hcm rfl
        have c3 := cell_of_blk (j := 3) hcm rfl
        have c4 := cell_of_blk (j := 4) hcm rfl
        have c5 := cell_of_blk (j := 5) hcm rfl
        have c6' := cell_of_blk (j := 6) hcm rfl
        have c7 := cell_of_blk (j := 7) hcm rfl
        have c8 := cell_of_blk (j := 8) hcm rfl
        have hgl := (Array.getElem?_eq_some_iff.1 hcm).1
        have p0 := cell_of_blk (j := 0) hgd12 rfl
        have hgl12 := (Array.getElem?_eq_some_iff.1 hgd12).1
        have hgs12' := (Array.getElem?_eq_some_iff.1 hgs12).1
        have HG12 := Lib.hid (And.intro hgd12 hgs12)
        have HWA := Lib.hid (wave_any C d.k w12 HC.out HDO.out.k (own_row H12.out.wv))
        have HY := Lib.hid hy
        unfold cmV at HWA
        clear hcm hgd12 hgs12 hy hyd htk hwv
        go_wp2_with (fail)
        refine HWA.out.mono ?_
        rintro e w13 ⟨rfl, hb13⟩
        have hgd13 := (hb13.block gd hgl12).trans HG12.out.1
        have hgs13 := (hb13.block gs hgs12').trans HG12.out.2
        have HB13 := Lib.hid (HB12.out.trans (hb13.mono HB12.out.size))
        have H13 := Lib.hid (H12.out.below hb13)
        have HO13 := Lib.hid (own_below HO12.out hb13)
        have p1 := cell_of_blk (j := 1) hgd13 rfl
        have s2 := cell_of_blk (j := 2) hgs13 rfl
        have s3 := cell_of_blk (j := 3) hgs13 rfl
        have s4 := cell_of_blk (j := 4) hgs13 rfl
        have hgl13 := (Array.getElem?_eq_some_iff.1 hgd13).1
        have hgs13' := (Array.getElem?_eq_some_iff.1 hgs13).1
        have HNX := Lib.hid (show Calls Tryz.prog 15 #[.slice A N cL, .string (mdT d.md), veV x.v] w13 (fun e w' => @NexPost ⟨d.md, hmd⟩ L x.v w13 e w') from @next_im ⟨d.md, hmd⟩ L x.v N cL A w13 H13.out.imsI HN.out.symm HL.out HXO.out.v)
        unfold veV at HNX
        clear hb13 hgd13 hgs13 HWA c0 c1 c2 c3 c4 c5 c6' c7 c8 hgl p0 hgl12 hgs12'
        go_wp2_with (fail)
        refine HNX.out.mono ?_
        rintro e w14 ⟨An, cn, nn, hnn, rfl, hon, hb14⟩
        have HB14 := Lib.hid (HB13.out.trans (hb14.mono HB13.out.size))
        have ho14 := own_below HO13.out hb14
        obtain ⟨h1, h2, h3⟩ | ⟨go, rfl, hgo1, hgo2⟩ := own_two ho14
        · omega
        have hcl := own_cells0 ho14
        have o1 : w14.cell? ⟨go, i * 5 + 1, none⟩ = some (.int .i64 y.v.a) := by have := rec_cell ofC_len hcl i y HY.out 1 _ rfl; simpa using this
        have o2 : w14.cell? ⟨go, i * 5 + 2, none⟩ = some (.int .i64 y.v.b) := by have := rec_cell ofC_len hcl i y HY.out 2 _ rfl; simpa using this
        have o3 : w14.cell? ⟨go, i * 5 + 3, none⟩ = some (.int .i64 y.v.c) := by have := rec_cell ofC_len hcl i y HY.out 3 _ rfl; simpa using this
        have hnn8 : nn ≤ 5000 := by
          rw [hnn]
          unfold tkV
          rw [List.length_map]
          have h1 := @tak_len ⟨d.md, hmd⟩ L x.v
          have h2 := HL.out.len
          omega
        have HCV := Lib.hid (containsV_any (@tkV ⟨d.md, hmd⟩ L x.v) y.v nn cn An w14 hnn.symm hnn8 (own_row hon))
        rw [decide_eq_true HTK.out] at HCV
        unfold veV at HCV
        have hw1 : ¬ (kB : Int) ≤ (wvN C d.k : Int) := by have := HWV.out; omega
        clear hnn hon hb14 HNX ho14 hcl hnn8 p1 s2 s3 s4
        go_wp2_with (fail)
        refine HCV.out.mono ?_
        rintro e w15 ⟨rfl, hb15⟩
        have HB15 := Lib.hid (HB14.out.trans (hb15.mono HB14.out.size))
        clear hb15 HCV
        go_wp2_with (fail)
        go_roundw
        case rel => exact ⟨j + 1, z2, by omega, by go_num, rfl, hz2.1, by omega, Lib.hid ⟨HZ2.out, HB15.out⟩⟩
        case measure => simp [intOf]; omega
    · have hltI : ¬ (j : Int) < (nf : Int) := by omega
      have hjn : j = nf := by omega
      have HZ := Lib.hid (show z = (bzN cs : Int) from by
        rw [HR.out.1, hjn, List.take_of_length_le (by rw [HCL.out]; exact Nat.le_refl _)])
      have H8 := Lib.hid (H7.out.below HR.out.2)
      have hcm := H8.out.cm
      have c8 := cell_of_blk (j := 8) hcm rfl
      have hgl := (Array.getElem?_eq_some_iff.1 hcm).1
      have HBE := Lib.hid (H8.out.be)
      clear hcm
      by_cases hk0 : kO = 0
      · subst hk0
        go_wp2_with (fail)
        refine (ready_yes w8).mono ?_
        rintro e w9 ⟨rfl, hb9⟩
        have HB9 := Lib.hid (HBE.out.trans (hb9.mono HBE.out.size))
        clear hb9
        go_wp2_with (fail)
        go_ret
        exact ⟨rfl, HB9.out⟩
      · have hkI : ¬ (kO : Int) = 0 := by omega
        have hrm : z + (kO : Int) ≤ C.rm := by
          have h1 := HOK.out.2.2 (fun e => by have h3 := HOK.out.1; rw [e] at h3; simp at h3; omega)
          rw [← HCS.out, ← HZ.out, ← HOK.out.1] at h1
          exact h1
        have hrm5 := HC.out.rm
        go_wp2_with (fail)
        refine (ready_yes w8).mono ?_
        rintro e w9 ⟨rfl, hb9⟩
        have HB9 := Lib.hid (HBE.out.trans (hb9.mono HBE.out.size))
        clear hb9
        go_wp2_with (fail)
        go_ret
        exact ⟨rfl, HB9.out⟩
end Go.Proofs.YtidgicbhgnbidaaGreatDoor
