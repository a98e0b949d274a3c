/- AgesInSteps: the law function. Printed by gen_AgL.py. -/
import Derived.Test.YtjfjmlmnilmihaaGreatDoorOfL
import Derived.Test.YtjfjmlmnilmihaaGreatDoorOfA
import Derived.Test.YtjfjmlmnilmihaaGreatDoorOfE
import Derived.Test.YtjfjmlmnilmihaaGreatDoorMgA
import Derived.BigRegion
import Derived.Deep.RegionLawGrows
namespace Go.Proofs.YtjfjmlmnilmihaaGreatDoor
open Go.RowKit

structure AgI (w wx : World) (p k : Nat) (xs : List Int) (q : Po) (oa ob : Nat) (a : Int) (ma cka : Nat) (Ma : Mp) (ta : Int) (mb ckb : Nat) (Mb : Mp) (tb : Int) : Prop where
  st : Strm wx p xs k
  be : Below w.heap.size w wx
  ia : OfI wx oa ma cka Ma q ta
  ib : OfI wx ob mb ckb Mb q tb
  ka : OfOk q (fM Ma) ta
  kb : OfOk q (fM Mb) tb
  la : ta ≤ a
  lb : tb ≤ a
  rl : Rl q (fM Ma) (fM Mb) tb a
  pa : p < oa
  pb : p < ob
  ne : oa ≠ ob
  wp : w.heap.size ≤ p
theorem strm_ne {w : World} {p k m ck : Nat} {xs : List Int} {M : Mp} (h : Strm w p xs k) (hm : MpI w m M ck) : m ≠ p := by
  intro e
  obtain ⟨_, A, c, hb, _⟩ := h
  unfold MpI at hm
  unfold SBlk at hb
  rw [e, hb] at hm
  cases hm
section
variable {w wx wy : World} {p k : Nat} {xs : List Int} {q : Po} {oa ob : Nat} {a : Int} {ma cka : Nat} {Ma : Mp} {ta : Int} {mb ckb : Nat} {Mb : Mp} {tb : Int}
theorem AgI.stream (h : AgI w wx p k xs q oa ob a ma cka Ma ta mb ckb Mb tb) {k' : Nat} (hs : Strm wy p xs k') (hg : wx.grownBy wy (some p)) : AgI w wy p k' xs q oa ob a ma cka Ma ta mb ckb Mb tb :=
  ⟨hs, h.be.grown hg h.be.size (fun k hk => by cases hk; exact h.wp), h.ia.row hg (by have := h.pa; omega) (strm_ne h.st h.ia.map), h.ib.row hg (by have := h.pb; omega) (strm_ne h.st h.ib.map), h.ka, h.kb, h.la, h.lb, h.rl, h.pa, h.pb, h.ne, h.wp⟩
theorem AgI.below (h : AgI w wx p k xs q oa ob a ma cka Ma ta mb ckb Mb tb) (hb : Below wx.heap.size wx wy) : AgI w wy p k xs q oa ob a ma cka Ma ta mb ckb Mb tb :=
  ⟨h.st.below hb, h.be.trans (hb.mono h.be.size), h.ia.below hb, h.ib.below hb, h.ka, h.kb, h.la, h.lb, h.rl, h.pa, h.pb, h.ne, h.wp⟩
theorem AgI.opA (h : AgI w wx p k xs q oa ob a ma cka Ma ta mb ckb Mb tb) {ma' cka' : Nat} {Ma' : Mp} {ta' : Int} (hi : OfI wy oa ma' cka' Ma' q ta') (hg : wx.grownBy wy (some oa)) (hk : OfOk q (fM Ma') ta') (hl : ta' ≤ a) (hr : Rl q (fM Ma') (fM Mb) tb a) : AgI w wy p k xs q oa ob a ma' cka' Ma' ta' mb ckb Mb tb :=
  ⟨h.st.row hg (fun g e => by cases e; exact h.pa), h.be.grown hg h.be.size (fun k hk => by cases hk; have := h.pa; have := h.wp; omega), hi, h.ib.oth h.ia (Ne.symm h.ne) hg, hk, h.kb, hl, h.lb, hr, h.pa, h.pb, h.ne, h.wp⟩
theorem AgI.opB (h : AgI w wx p k xs q oa ob a ma cka Ma ta mb ckb Mb tb) {mb' ckb' : Nat} {Mb' : Mp} {tb' : Int} (hi : OfI wy ob mb' ckb' Mb' q tb') (hg : wx.grownBy wy (some ob)) (hk : OfOk q (fM Mb') tb') (hl : tb' ≤ a) (hr : Rl q (fM Ma) (fM Mb') tb' a) : AgI w wy p k xs q oa ob a ma cka Ma ta mb' ckb' Mb' tb' :=
  ⟨h.st.row hg (fun g e => by cases e; exact h.pb), h.be.grown hg h.be.size (fun k hk => by cases hk; have := h.pb; have := h.wp; omega), h.ia.oth h.ib h.ne hg, hi, h.ka, hk, h.la, hl, hr, h.pa, h.pb, h.ne, h.wp⟩
theorem AgI.to (h : AgI w wx p k xs q oa ob a ma cka Ma ta mb ckb Mb tb) {b : Int} (hb : a ≤ b) : AgI w wx p k xs q oa ob b ma cka Ma ta mb ckb Mb tb :=
  ⟨h.st, h.be, h.ia, h.ib, h.ka, h.kb, by have := h.la; omega, by have := h.lb; omega, h.rl.mono hb, h.pa, h.pb, h.ne, h.wp⟩
end
def pkTo : List Int := [1, 5, 12, 30]
set_option maxRecDepth 100000 in
set_option maxHeartbeats 8000000 in
theorem agL_yes (w : World) (xs : List Int) (n c : Nat) (A0 : Option Addr) (hs : ∀ (W : World), Below w.heap.size w W → W.heap[w.heap.size]? = some (.cells #[.slice A0 n c, .int .i64 0] 25) → Strm W w.heap.size xs 0) (hT : U8T w) :
    Calls Tryz.prog 3 #[.slice A0 n c] w fun e w' => e = .returned (.bool true) ∧ Below w.heap.size w w' := by
  have HS := Lib.hid hs
  have HT := Lib.hid (fun V (hV : Below w.heap.size w V) => hT.below hV)
  clear hs hT
  go_enter Tryz.func3, Tryz.ntmps3
  go_upto_region 2 with (fail)
  generalize hW : w.alloc (.cells #[.slice A0 n c, .int .i64 0] 25) = w0
  have hB0 : Below w.heap.size w w0 := hW ▸ (Below.refl _ _).alloc (Nat.le_refl _) _
  have HST0 := Lib.hid (HS.out w0 hB0 (by rw [← hW]; exact heap_new w _))
  have HB0 := Lib.hid hB0
  clear hW hB0 HS
  obtain ⟨p, ep⟩ : ∃ p, p = w.heap.size := ⟨_, rfl⟩
  have hpw : w.heap.size ≤ p := by omega
  rw [← ep] at HST0 ⊢
  clear ep
  go_wp2_with (fail)
  refine (rightPost_any w0 p 0 xs (by omega) HST0.out).mono ?_
  rintro e w1 ⟨q, hq, _, rfl, hst1, hg1⟩
  have HP := Lib.hid hq
  have HB1 := Lib.hid (HB0.out.grown hg1 HB0.out.size (fun k hk => by cases hk; exact hpw))
  have HST1 := Lib.hid hst1
  clear hst1 hg1 hq
  go_upto_region 3 with (fail)
  obtain ⟨gp, egp⟩ : ∃ b, b = w1.heap.size := ⟨_, rfl⟩
  obtain ⟨w2, e2⟩ : ∃ V : World, V = w1.alloc (.cells #[.int .i64 q.room, .int .i64 q.tmo, .int .i64 q.tri, .int .i64 q.kept] 27) := ⟨_, rfl⟩
  have hb2 : Below w1.heap.size w1 w2 := by rw [e2]; exact (Below.refl _ _).alloc (Nat.le_refl _) _
  have hg2 : w2.heap[gp]? = some (.cells #[.int .i64 q.room, .int .i64 q.tmo, .int .i64 q.tri, .int .i64 q.kept] 27 (0, 0)) := by rw [e2, egp]; exact heap_new w1 _
  rw [← egp, ← e2]
  clear egp e2
  have hlg2 := (Array.getElem?_eq_some_iff.1 hg2).1
  have HB2 := Lib.hid (HB1.out.trans (hb2.mono HB1.out.size))
  have HST2 := Lib.hid (HST1.out.below hb2)
  have HG2 := Lib.hid hg2
  have k0 := cell_of_blk (j := 0) hg2 rfl
  have k1 := cell_of_blk (j := 1) hg2 rfl
  have k2 := cell_of_blk (j := 2) hg2 rfl
  have k3 := cell_of_blk (j := 3) hg2 rfl
  clear hb2 hg2
  go_wp2_with (fail)
  refine (new_any q w2 HP.out).mono ?_
  rintro e w3 ⟨oa, ma0, rfl, hia, hb3, hoa, hma⟩
  have hg3 := (hb3.block gp hlg2).trans HG2.out
  have hlg3 := (Array.getElem?_eq_some_iff.1 hg3).1
  have HB3 := Lib.hid (HB2.out.trans (hb3.mono HB2.out.size))
  have HST3 := Lib.hid (HST2.out.below hb3)
  have HIA := Lib.hid hia
  have hpo : p < oa := by have := HST2.out.lt; omega
  have hoa3 := hia.lt
  clear k0 k1 k2 k3 hb3 hia hma
  have k0 := cell_of_blk (j := 0) hg3 rfl
  have k1 := cell_of_blk (j := 1) hg3 rfl
  have k2 := cell_of_blk (j := 2) hg3 rfl
  have k3 := cell_of_blk (j := 3) hg3 rfl
  clear hg3
  go_wp2_with (fail)
  refine (new_any q w3 HP.out).mono ?_
  rintro e w4 ⟨ob, mb0, rfl, hib, hb4, hob, hmb⟩
  have HI4 := Lib.hid (show AgI w w4 p 4 xs q oa ob 0 ma0 0 [] 0 mb0 0 [] 0 from
    ⟨HST3.out.below hb4, HB3.out.trans (hb4.mono HB3.out.size), HIA.out.below hb4, hib, ofOk_nil _ _, ofOk_nil _ _, Int.le_refl _, Int.le_refl _, .inl rfl, hpo, by have := HST3.out.lt; omega, by omega, hpw⟩)
  clear k0 k1 k2 k3 hib hb4 hob hmb HIA HST3 HST2 HST1 HST0 HB3 HB2 HB1 HB0 hoa hoa3 hpo hlg2 hlg3 HG2
  go_wp2_with (fail)
  refine (range_any w4 p 4 xs 1 6 (by omega) (by omega) (by omega) (by omega) (by omega) HI4.out.st).mono ?_
  have hN := nextV_range xs 4 6 (by omega)
  obtain ⟨N, eN⟩ : ∃ N, N = 1 + nextV xs 4 (6 - 1 + 1) := ⟨_, rfl⟩
  have hN1 : 1 ≤ N ∧ N ≤ 6 := by rw [eN]; have e : (6 : Int) - 1 + 1 = 6 := by omega
                                 rw [e]; omega
  rw [← eN]
  clear eN hN
  rintro e w5 ⟨rfl, hst5, hg5⟩
  have HI5 := Lib.hid (HI4.out.stream hst5 hg5)
  clear hst5 hg5 HI4
  go_wp2_with (fail)
  go_loopw [9, 52] (fun s u wx => ∃ (i k : Nat) (a : Int) (ma cka : Nat) (Ma : Mp) (ta : Int) (mb ckb : Nat) (Mb : Mp) (tb : Int), (i : Int) ≤ N ∧ s = .int .i64 a ∧ u = .int .i64 (i : Int) ∧ 0 ≤ a ∧ a ≤ 30 * (i : Int) ∧ k ≤ 5 + 10 * i ∧ Hid (AgI w wx p k xs q oa ob a ma cka Ma ta mb ckb Mb tb)) (fun _ u _ => 6 - (intOf u).toNat)
  case atStart => exact ⟨0, 5, 0, ma0, 0, [], 0, mb0, 0, [], 0, by omega, rfl, rfl, by omega, by omega, by omega, HI5⟩
  case round =>
    obtain ⟨i, k, a, ma, cka, Ma, ta, mb, ckb, Mb, tb, hiN, rfl, rfl, ha0, ha1, hk, HI⟩ := hrel
    by_cases hlt : (i : Int) < N
    case neg =>
      have HNA := Lib.hid (notes_any wr oa ma cka Ma q ta a HI.out.ia HP.out HI.out.ka HI.out.la ⟨ha0, by omega⟩)
      go_wp2_with (fail)
      refine HNA.out.mono ?_
      rintro e w6 ⟨ha, La, va, ma1, cka1, Ma1, hagA, hLa, rfl, hoA, hiA, hgA, hfA⟩
      have HKA := Lib.hid (show OfOk q (fM Ma1) a from by rw [hfA]; exact hagA.ok HP.out HI.out.ka HI.out.la)
      have HI6 := Lib.hid (HI.out.opA hiA hgA HKA.out (Int.le_refl _) (by rw [hfA]; exact HI.out.rl.wake HI.out.kb HI.out.lb hagA))
      have HAA := Lib.hid hagA
      have HLA := Lib.hid hLa
      have HOA := Lib.hid hoA
      have HNB := Lib.hid (notes_any w6 ob mb ckb Mb q tb a HI6.out.ib HP.out HI6.out.kb HI6.out.lb ⟨ha0, by omega⟩)
      have hs6 := hgA.size
      clear hagA hLa hoA hiA hgA hfA HNA
      go_wp2_with (fail)
      refine HNB.out.mono ?_
      rintro e w7 ⟨hb, Lb, vb, mb1, ckb1, Mb1, hagB, hLb, rfl, hoB, hiB, hgB, hfB⟩
      have hab : ha = hb := HI.out.rl.aged HI.out.kb HAA.out hagB
      have hLL : Lb = La := by rw [← hab] at hLb; exact note_det hLb HLA.out
      rw [hLL] at hoB
      obtain ⟨Aa, ca, rfl⟩ := own_slice HOA.out
      obtain ⟨Ab, cb, rfl⟩ := own_slice hoB
      have HOA7 := Lib.hid (own_kept' HOA.out hgB (fun b hb2 e => by
        have h1 := (HOA.out.lt b hb2).1
        have h2 := HI.out.ib.lt
        omega))
      have HB7 := Lib.hid (HI6.out.be.grown hgB HI6.out.be.size (fun k hk => by cases hk; have := HI6.out.pb; omega))
      have hln : La.length ≤ 1000000 := note_len HLA.out (HAA.out.ok HP.out HI.out.ka HI.out.la)
      have HEQ := Lib.hid (eqOn_any La La.length ca cb Aa Ab w7 rfl hln (own_row HOA7.out) (own_row hoB))
      obtain ⟨nl, enl⟩ : ∃ z, z = La.length := ⟨_, rfl⟩
      have hLb2 : Lb.length = nl := by rw [hLL, enl]
      rw [← enl] at HEQ ⊢
      try rw [hLb2]
      clear hLL hab hagB hLb hoB hiB hgB hfB enl HNB hLb2 hln
      go_wp2_with (fail)
      refine HEQ.out.mono ?_
      rintro e w8 ⟨rfl, hb8⟩
      have HB8 := Lib.hid (HB7.out.trans (hb8.mono HB7.out.size))
      clear hb8 HEQ
      go_wp2_with (fail)
      refine (ready_yes w8).mono ?_
      rintro e w9 ⟨rfl, hb9⟩
      have HB9 := Lib.hid (HB8.out.trans (hb9.mono HB8.out.size))
      clear hb9
      go_wp2_with (fail)
      go_ret
      exact ⟨rfl, HB9.out⟩
    have hiN6 : (i : Int) < 6 := by omega
    go_wp2_with (fail)
    refine (rightLetter_any wr p k xs a (by omega) ⟨ha0, by omega⟩ HI.out.st).mono ?_
    rintro e w6 ⟨x, hx, hxa, hxu, rfl, hst6, hg6⟩
    subst hxa
    unfold olV
    have HX := Lib.hid hx
    have HI6 := Lib.hid (HI.out.stream hst6 hg6)
    clear hx hst6 hg6 hxu
    go_wp2_with (fail)
    refine (range_nat w6 p (k + 5) 2 xs (by omega) (by omega) HI6.out.st).mono ?_
    have hmn := nextN_lt xs (k + 5) 3 (by omega)
    obtain ⟨mn, emn⟩ : ∃ z, z = nextN xs (k + 5) 3 := ⟨_, rfl⟩
    rw [← emn] at hmn ⊢
    clear emn
    rintro e w7 ⟨rfl, hst7, hg7⟩
    have HI7 := Lib.hid (HI6.out.stream hst7 hg7)
    clear hst7 hg7 HI6
    go_upto_region 11 with (fail)
    obtain ⟨gx, egx⟩ : ∃ z, z = w7.heap.size := ⟨_, rfl⟩
    obtain ⟨w8, e8⟩ : ∃ V : World, V = w7.alloc (.cells #[.string (idL x.id), .string (slL x.sl), .string (boL x.bo), .int .i64 x.pr, .int .i64 x.at_, .int .i64 x.un] 35) := ⟨_, rfl⟩
    have hb8 : Below w7.heap.size w7 w8 := by rw [e8]; exact (Below.refl _ _).alloc (Nat.le_refl _) _
    have hg8 : w8.heap[gx]? = some (.cells #[.string (idL x.id), .string (slL x.sl), .string (boL x.bo), .int .i64 x.pr, .int .i64 x.at_, .int .i64 x.un] 35 (0, 0)) := by rw [e8, egx]; exact heap_new w7 _
    rw [← egx, ← e8]
    have hoax : oa ≠ gx := by have := HI7.out.ia.lt; omega
    clear egx e8
    have hlg8 := (Array.getElem?_eq_some_iff.1 hg8).1
    have HI8 := Lib.hid (HI7.out.below hb8)
    have HID := Lib.hid (show AgI w w8.drew p (k + 6) xs q oa ob x.at_ ma cka Ma ta mb ckb Mb tb from HI8.out.below ⟨rfl, rfl, rfl, Nat.le_refl _, fun _ _ => rfl⟩)
    have HG8 := Lib.hid hg8
    have k0 := cell_of_blk (j := 0) hg8 rfl
    have k1 := cell_of_blk (j := 1) hg8 rfl
    have k2 := cell_of_blk (j := 2) hg8 rfl
    have k3 := cell_of_blk (j := 3) hg8 rfl
    have k4 := cell_of_blk (j := 4) hg8 rfl
    have k5 := cell_of_blk (j := 5) hg8 rfl
    clear hb8 hg8 HI7
    have HPA := Lib.hid (put_any w8.drew oa ma cka Ma q ta x HID.out.ia HP.out HID.out.ka HX.out HID.out.la (HT.out _ HID.out.be))
    unfold PutPost olV at HPA
    go_cut [65] (fun s wx => ∃ (ma cka : Nat) (Ma : Mp) (ta : Int) (mb ckb : Nat) (Mb : Mp) (tb : Int), s = .bool false ∧ AgI w wx p (k + 6) xs q oa ob x.at_ ma cka Ma ta mb ckb Mb tb)
    case first =>
      go_region_law (first
        | (go_simp
           go_at_call 9
           (with_reducible refine HPA.out.mono ?_)
           rintro e w9 ⟨ha, ma1, cka1, Ma1, ta1, hagA, rfl, hiA, hgA, hcA⟩
           have HGO := Lib.hid (show Aged q (fM Ma) x.at_ ha from hagA)
           have HCA := Lib.hid hcA
           have HIA := Lib.hid hiA
           have HGA := Lib.hid hgA
           have HB9 := Lib.hid (show OfI w9 ob mb ckb Mb q tb from HID.out.ib.oth HID.out.ia (Ne.symm HID.out.ne) hgA)
           have hbe9 : Below w.heap.size w w9 := HID.out.be.grown hgA HID.out.be.size (fun k hk => by cases hk; have := HID.out.pa; omega)
           have HPB := Lib.hid (put_any w9 ob mb ckb Mb q tb x HB9.out HP.out HID.out.kb HX.out HID.out.lb (HT.out _ hbe9))
           unfold PutPost olV at HPB
           have hx9 := (hgA.block gx hlg8 (fun e => hoax (Option.some.inj e).symm)).trans HG8.out
           have hlg9 := (Array.getElem?_eq_some_iff.1 hx9).1
           have l0 := cell_of_blk (j := 0) hx9 rfl
           have l1 := cell_of_blk (j := 1) hx9 rfl
           have l2 := cell_of_blk (j := 2) hx9 rfl
           have l3 := cell_of_blk (j := 3) hx9 rfl
           have l4 := cell_of_blk (j := 4) hx9 rfl
           have l5 := cell_of_blk (j := 5) hx9 rfl
           obtain ⟨z, ez⟩ : ∃ z, z = putZ q ha x := ⟨_, rfl⟩
           rw [← ez]
           have HZ := Lib.hid ez
           (try clear hagA)
           (try clear hcA)
           (try clear hiA)
           (try clear hgA)
           (try clear hx9)
           (try clear ez))
        | (go_simp
           go_at_call 9
           (with_reducible refine HPB.out.mono ?_)
           rintro e w10 ⟨hb, mb1, ckb1, Mb1, tb1, hagB, rfl, hiB, hgB, hcB⟩
           have hab : ha = hb := HID.out.rl.aged HID.out.kb HGO.out hagB
           subst hab
           rw [← HZ.out]
           have HFN := Lib.hid (show AgI w w10 p (k + 6) xs q oa ob x.at_ ma1 cka1 Ma1 ta1 mb1 ckb1 Mb1 tb1 from by
             have hok := HGO.out.ok HP.out HID.out.ka HID.out.la
             have hia := HIA.out.oth HB9.out HID.out.ne hgB
             have hst := (HID.out.st.row HGA.out (fun g e => by cases e; exact HID.out.pa)).row hgB (fun g e => by cases e; exact HID.out.pb)
             have hbe := hbe9.grown hgB hbe9.size (fun k hk => by cases hk; have := HID.out.pb; omega)
             rcases HCA.out with ⟨h1, h2, h3⟩ | ⟨h1, h2, h3⟩
             · rcases hcB with ⟨g1, g2, g3⟩ | ⟨g1, _, _⟩
               · have hp2 := put_ok HP.out hok HX.out HGO.out.due
                 exact ⟨hst, hbe, hia, hiB, by rw [h2, h3]; exact hp2, by rw [g2, g3]; exact hp2, by rw [h3]; exact Int.le_refl _, by rw [g3]; exact Int.le_refl _, .inl (by rw [h2, g2]), HID.out.pa, HID.out.pb, HID.out.ne, HID.out.wp⟩
               · exact absurd h1 g1
             · rcases hcB with ⟨g1, _, _⟩ | ⟨g1, g2, g3⟩
               · exact absurd g1 h1
               · exact ⟨hst, hbe, hia, hiB, by rw [h2, h3]; exact HID.out.ka, by rw [g2, g3]; exact HID.out.kb, by rw [h3]; exact HID.out.la, by rw [g3]; exact HID.out.lb, by rw [h2, g2, g3]; exact HID.out.rl, HID.out.pa, HID.out.pb, HID.out.ne, HID.out.wp⟩)
           (try clear hagB hiB hgB hcB HPB)))
      all_goals
        go_wp2_with (fail)
        go_meet
        exact ⟨_, _, _, _, _, _, _, _, rfl, HFN.out⟩
    case rest =>
    obtain ⟨ma1, cka1, Ma1, ta1, mb1, ckb1, Mb1, tb1, rfl, hi⟩ := hcut
    obtain ⟨w11, rfl⟩ : ∃ wy : World, wy = wc := ⟨_, rfl⟩
    have HI11 := Lib.hid hi
    clear hi HPA HID HI8 HG8 hoax hlg8 k0 k1 k2 k3 k4 k5 HI
    have HFA := Lib.hid (fetch_any w11 oa ma1 cka1 Ma1 q ta1 x.at_ mn HI11.out.ia HP.out HI11.out.ka HI11.out.la ⟨ha0, by omega⟩ (by omega))
    unfold FetPost at HFA
    go_wp2_with (fail)
    refine HFA.out.mono ?_
    rintro e w12 ⟨ha, Wa, va, ma2, cka2, Ma2, hagA, hwA, rfl, hoA, hiA, hgA, hfA⟩
    have HB12 := Lib.hid (show OfI w12 ob mb1 ckb1 Mb1 q tb1 from HI11.out.ib.oth HI11.out.ia (Ne.symm HI11.out.ne) hgA)
    have HFB := Lib.hid (fetch_any w12 ob mb1 ckb1 Mb1 q tb1 x.at_ mn HB12.out HP.out HI11.out.kb HI11.out.lb ⟨ha0, by omega⟩ (by omega))
    unfold FetPost at HFB
    have HAG := Lib.hid hagA
    have HWA := Lib.hid hwA
    have HOA := Lib.hid hoA
    have HIA := Lib.hid hiA
    have HGA := Lib.hid hgA
    have HFF := Lib.hid hfA
    clear hagA hwA hoA hiA hgA hfA HFA
    go_wp2_with (fail)
    refine HFB.out.mono ?_
    rintro e w13 ⟨hb, Wb, vb, mb2, ckb2, Mb2, hagB, hwB, rfl, hoB, hiB, hgB, hfB⟩
    have hab : ha = hb := HI11.out.rl.aged HI11.out.kb HAG.out hagB
    subst hab
    have hWW : Wb = Wa := wait_det hwB HWA.out
    have hokA := HAG.out.ok HP.out HI11.out.ka HI11.out.la
    have hfk := fet_ok (mn := mn) hokA HWA.out HAG.out.due
    have hbe12 := HI11.out.be.grown HGA.out HI11.out.be.size (fun k hk => by cases hk; have := HI11.out.pa; omega)
    have HI13 := Lib.hid (show AgI w w13 p (k + 6) xs q oa ob x.at_ ma2 cka2 Ma2 x.at_ mb2 ckb2 Mb2 x.at_ from
      ⟨(HI11.out.st.row HGA.out (fun g e => by cases e; exact HI11.out.pa)).row hgB (fun g e => by cases e; exact HI11.out.pb), hbe12.grown hgB hbe12.size (fun k hk => by cases hk; have := HI11.out.pb; omega), HIA.out.oth HB12.out HI11.out.ne hgB, hiB, by rw [HFF.out]; exact hfk, by rw [hfB, hWW]; exact hfk, Int.le_refl _, Int.le_refl _, .inl (by rw [HFF.out, hfB, hWW]), HI11.out.pa, HI11.out.pb, HI11.out.ne, HI11.out.wp⟩)
    obtain ⟨Aa, ca, rfl⟩ := own_slice HOA.out
    obtain ⟨Ab, cb, rfl⟩ := own_slice hoB
    have hoA13 := own_kept' HOA.out hgB (fun b hb2 e => by
      have h1 := (HOA.out.lt b hb2).1
      have h2 := HI11.out.ib.lt
      omega)
    have hwl := wait_len HWA.out hokA
    rw [hWW] at hoB ⊢
    obtain ⟨nn, enn⟩ : ∃ z, z = min mn Wa.length := ⟨_, rfl⟩
    have HEQ := Lib.hid (eqOl_any (Wa.take mn) nn ca cb Aa Ab w13 (by rw [List.length_take, enn]) (by omega) (own_row hoA13) (own_row hoB))
    rw [← enn]
    clear hWW hokA hfk hbe12 hagB hwB hoB hiB hgB hfB hoA13 hwl enn HFB HAG HWA HOA HIA HGA HFF HB12 HI11
    go_wp2_with (fail)
    refine HEQ.out.mono ?_
    rintro e w14 ⟨rfl, hb14⟩
    have HI14 := Lib.hid (HI13.out.below hb14)
    clear hb14 HEQ HI13
    go_wp2_with (fail)
    refine (pick_any _ p (k + 6) w14.heap.size 4 4 xs pkTo (by omega) rfl (by omega) (by omega) (HI14.out.st.alloc _) (by have := HI14.out.st.lt; omega) (Cells.new _ _ _ _ _ rfl)).mono ?_
    have hv := pk_all (fun v => 1 ≤ v ∧ v ≤ 30) pkTo (by decide) (nextN xs (k + 6) 4) (nextN_lt _ _ _ (by omega))
    obtain ⟨v, ev⟩ : ∃ z, z = pkTo.getD (nextN xs (k + 6) 4) 0 := ⟨_, rfl⟩
    rw [← ev] at hv ⊢
    clear ev
    rintro e w15 ⟨rfl, hst15, hg15⟩
    have HI15 := Lib.hid (HI14.out.stream hst15 (grown_of_alloc hg15))
    clear hst15 hg15 HI14
    obtain ⟨tt, eto⟩ : ∃ z, z = x.at_ + v := ⟨_, rfl⟩
    have hto : IntKind.i64.wrap (x.at_ + v) = tt := by rw [IntKind.wrap_i64]; omega
    have hto1 : x.at_ ≤ tt ∧ tt ≤ x.at_ + 30 := by omega
    clear eto hv
    go_wp2_with (fail)
    clear hto
    go_loopw [9, 97] (fun s u wx => ∃ (j : Nat) (a : Int) (ma cka : Nat) (Ma : Mp) (ta : Int), j ≤ 50 ∧ s = .int .i64 a ∧ u = .int .i64 (j : Int) ∧ 0 ≤ a ∧ a ≤ tt ∧ x.at_ ≤ a ∧ Hid (AgI w wx p (k + 7) xs q oa ob a ma cka Ma ta mb2 ckb2 Mb2 x.at_)) (fun _ u _ => 50 - (intOf u).toNat)
    case atStart => exact ⟨0, x.at_, ma2, cka2, Ma2, x.at_, by omega, rfl, rfl, ha0, by omega, Int.le_refl _, HI15⟩
    case round =>
      obtain ⟨j, a, ma3, cka3, Ma3, ta3, hj, rfl, rfl, haz, hat, hax, HI⟩ := hrel
      by_cases hlj : j < 50
      case neg =>
        have hljI : ¬ (j : Int) < 50 := by omega
        have HIZ := HI
        go_wp2_with (fail)
        go_roundw
        case rel => exact ⟨i + 1, k + 7, tt, _, _, _, _, _, _, _, _, by omega, rfl, by go_num, by omega, by omega, by omega, Lib.hid (HIZ.out.to (by omega))⟩
        case measure => simp [intOf]; omega
      have hljI : (j : Int) < 50 := by omega
      have HWK := Lib.hid (wake_any wr oa ma3 cka3 Ma3 q ta3 a HI.out.ia HP.out HI.out.ka HI.out.la ⟨haz, by omega⟩)
      unfold WakePost at HWK
      go_wp2_with (fail)
      refine HWK.out.mono ?_
      rintro e w16 ⟨hh, ma4, cka4, Ma4, kk, hag, rfl, hkk, hi4, hg4, hf4⟩
      have HIZ := Lib.hid (HI.out.opA hi4 hg4 (by rw [hf4]; exact hag.ok HP.out HI.out.ka HI.out.la) (Int.le_refl _) (by rw [hf4]; exact HI.out.rl.wake HI.out.kb HI.out.lb hag))
      clear hag hi4 hg4 hf4 HWK
      rcases hkk with ⟨rfl, _⟩ | ⟨hkk, _⟩
      · go_wp2_with (fail)
        go_roundw
        case rel => exact ⟨i + 1, k + 7, tt, _, _, _, _, _, _, _, _, by omega, rfl, by go_num, by omega, by omega, by omega, Lib.hid (HIZ.out.to (by omega))⟩
        case measure => simp [intOf]; omega
      have hk0 : 0 ≤ kk := by omega
      have hk1 : ¬ kk < 0 := by omega
      have hk2 : ¬ kk ≤ a := by omega
      by_cases hkt : tt < kk
      · go_wp2_with (fail)
        go_roundw
        case rel => exact ⟨i + 1, k + 7, tt, _, _, _, _, _, _, _, _, by omega, rfl, by go_num, by omega, by omega, by omega, Lib.hid (HIZ.out.to (by omega))⟩
        case measure => simp [intOf]; omega
      have hkt2 : ¬ tt < kk := by omega
      go_wp2_with (fail)
      go_roundw
      case rel => exact ⟨j + 1, kk, ma4, cka4, Ma4, a, by omega, rfl, by go_num, hk0, by omega, by omega, Lib.hid (HIZ.out.to (by omega))⟩
      case measure => simp [intOf]; omega
end Go.Proofs.YtjfjmlmnilmihaaGreatDoor
