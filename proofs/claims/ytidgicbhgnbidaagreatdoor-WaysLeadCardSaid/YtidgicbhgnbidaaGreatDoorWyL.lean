/- WaysLead: the law function. Printed by gen_WyL.py. -/
import Derived.Test.YtidgicbhgnbidaaGreatDoorWyG
import Derived.Test.YtidgicbhgnbidaaGreatDoorWyH
import Derived.Test.YtidgicbhgnbidaaGreatDoorWyI
import Derived.Test.YtidgicbhgnbidaaGreatDoorWyK
import Derived.Test.YtidgicbhgnbidaaGreatDoorMgA
namespace Go.Proofs.YtidgicbhgnbidaaGreatDoor
open Go.RowKit

structure WyS (w : World) (B p k : Nat) (xs : List Int) (A : Option Addr) (N c : Nat) (L : List Im) (wx : World) : Prop where
  st : Strm wx p xs k
  own : wx.ownsRow B 91 6 (.slice A N c) N (recs imC L)
  im : ∀ x ∈ L, ImO wx B x
  be : Below w.heap.size w wx
  lo : w.heap.size ≤ p ∧ p < B
section
variable {w wx wy : World} {B p k N c : Nat} {xs : List Int} {A : Option Addr} {L : List Im}
theorem WyS.strm (h : WyS w B p k xs A N c L wx) {k' : Nat} (hs : Strm wy p xs k') (hg : wx.grownBy wy (some p)) : WyS w B p k' xs A N c L wy :=
  ⟨hs, own_kept h.own hg h.lo.2, fun x hx => (h.im x hx).strm hg h.lo.2, h.be.grown hg h.be.size (fun k hk => by cases hk; exact h.lo.1), h.lo⟩
theorem WyS.below (h : WyS w B p k xs A N c L wx) (hb : Below wx.heap.size wx wy) : WyS w B p k xs A N c L wy :=
  ⟨h.st.below hb, own_below h.own hb, fun x hx => (h.im x hx).below hb, h.be.trans (hb.mono h.be.size), h.lo⟩
theorem WyS.imsI (h : WyS w B p k xs A N c L wx) : ImsI wx wx.heap.size A L :=
  ⟨own_row h.own, fun x hx => ⟨own_row (h.im x hx).mo, own_row (h.im x hx).rs⟩⟩
end
/-- Where the law stands on its way. -/
structure WlR (L : List Im) (v : Ve) (l : List Ve) (t : Ve) (nB g12 j : Nat) (u : Ve) (w8 wx : World) : Prop where
  ok : VeOk u
  way : wayV L u (l.drop j) t
  cell : wx.heap[g12]? = some (veB u)
  be : Below g12 w8 wx
theorem WlR.next {L : List Im} {v : Ve} {l : List Ve} {t : Ve} {nB g12 j : Nat} {u y : Ve} {w8 wx : World} (h : WlR L v l t nB g12 j u w8 wx) (hy : l[j]? = some y) : y ∈ tkV L u ∧ wayV L y (l.drop (j + 1)) t := by
  have hw := h.way
  obtain ⟨hlt, he⟩ := List.getElem?_eq_some_iff.1 hy
  rw [List.drop_eq_getElem_cons hlt, he] at hw
  obtain ⟨⟨x, hx, e⟩, hw⟩ := hw
  exact ⟨List.mem_map.2 ⟨x, hx, e⟩, hw⟩
def pkTw : List Int := [0, 5]
set_option maxRecDepth 100000 in
set_option maxHeartbeats 8000000 in
theorem wyL_yes (w : World) (xs : List Int) (n c : Nat) (A0 : Option Addr) (hs : ∀ (W : World), Below w.heap.size w W → W.heap[w.heap.size]? = some (.cells #[.slice A0 n c, .int .i64 0] 25) → Strm W w.heap.size xs 0) :
    Calls Tryz.prog 3 #[.slice A0 n c] w fun e w' => e = .returned (.bool true) ∧ Below w.heap.size w w' := by
  have HS := Lib.hid hs
  clear hs
  go_enter Tryz.func3, Tryz.ntmps3
  go_upto_region 2 with (fail)
  generalize hW : w.alloc (.cells #[.slice A0 n c, .int .i64 0] 25) = w0
  have hB0 : Below w.heap.size w w0 := hW ▸ (Below.refl _ _).alloc (Nat.le_refl _) _
  have HST0 := Lib.hid (HS.out w0 hB0 (by rw [← hW]; exact heap_new w _))
  have HB0 := Lib.hid hB0
  clear hW hB0 HS
  obtain ⟨p, ep⟩ : ∃ p, p = w.heap.size := ⟨_, rfl⟩
  have hpw : w.heap.size ≤ p := by omega
  rw [← ep] at HST0 ⊢
  clear ep
  go_wp2_with (fail)
  refine (rightImages_any w0 p 0 xs (by omega) HST0.out).mono ?_
  rintro e w1 ⟨L, A, cL, N, k1, rfl, hN, hL, hIm, hown, hst1, hk1, hg1⟩
  have hN8 : N ≤ 8 := by have := hL.len; omega
  have HL := Lib.hid hL
  have HN := Lib.hid hN
  have HI1 := Lib.hid (show WyS w w0.heap.size p k1 xs A N cL L w1 from ⟨hst1, hown, hIm, HB0.out.grown hg1 HB0.out.size (fun k hk => by cases hk; exact hpw), hpw, HST0.out.lt⟩)
  clear hL hN hIm hown hst1 hg1 HST0 HB0
  go_wp2_with (fail)
  refine (rightVersion_any w1 p k1 xs (by omega) HI1.out.st).mono ?_
  rintro e w2 ⟨v, hv, rfl, hs2, hg2⟩
  have HV := Lib.hid hv
  have HI2 := Lib.hid (HI1.out.strm hs2 hg2)
  clear hv hs2 hg2 HI1
  unfold veV
  go_wp2_with (fail)
  have hrg := nextV_range xs (k1 + 3) ((5 : Int) - 2 + 1) (by omega)
  have HRA := Lib.hid (range_any w2 p (k1 + 3) xs 2 5 (by omega) (by omega) (by omega) (by omega) (by omega) HI2.out.st)
  obtain ⟨M, eM⟩ : ∃ z, z = 2 + nextV xs (k1 + 3) ((5 : Int) - 2 + 1) := ⟨_, rfl⟩
  rw [← eM] at HRA
  have hM : 2 ≤ M ∧ M ≤ 5 := by omega
  clear eM hrg
  refine HRA.out.mono ?_
  rintro e w3 ⟨rfl, hs3, hg3⟩
  have HI3 := Lib.hid (HI2.out.strm hs3 hg3)
  clear hs3 hg3 HRA HI2
  have hl3 := HI3.out.st.lt
  go_wp2_with (fail)
  refine (pick_any _ p (k1 + 4) w3.heap.size 2 2 xs pkTw (by omega) rfl (by omega) (by omega) (HI3.out.st.alloc _) (by omega) (Cells.new _ _ _ _ _ rfl)).mono ?_
  have hh := pkv_all (fun v => 0 ≤ v ∧ v ≤ 5) pkTw (by decide) (nextN xs (k1 + 4) 2) (nextN_lt _ _ _ (by omega))
  obtain ⟨z, ez⟩ : ∃ z, z = pkTw.getD (nextN xs (k1 + 4) 2) 0 := ⟨_, rfl⟩
  rw [← ez] at hh ⊢
  clear ez
  rintro e w4 ⟨rfl, hs4, hg4⟩
  have HI4 := Lib.hid (HI3.out.strm hs4 (grown_of_alloc hg4))
  clear hs4 hg4 HI3 hl3
  have HT := Lib.hid (show VeOk (⟨M, z, 0⟩ : Ve) from ⟨by show 0 ≤ M ∧ M ≤ 9999; omega, by show 0 ≤ z ∧ z ≤ 9999; omega, by show (0 : Int) ≤ 0 ∧ (0 : Int) ≤ 9999; omega⟩)
  go_upto_region 3 with (fail)
  obtain ⟨g5, eg5⟩ : ∃ y, y = w4.heap.size := ⟨_, rfl⟩
  obtain ⟨g6, eg6⟩ : ∃ y, y = w4.heap.size + 1 := ⟨_, rfl⟩
  obtain ⟨w5, e5⟩ : ∃ V : World, V = (w4.alloc (.cells #[.int .i64 v.a, .int .i64 v.b, .int .i64 v.c] 29)).alloc (.cells #[.int .i64 M, .int .i64 z, .int .i64 0] 29) := ⟨_, rfl⟩
  have hb5 : Below w4.heap.size w4 w5 := by rw [e5]; exact ((Below.refl _ _).alloc (Nat.le_refl _) _).alloc (by simp) _
  have hg5 : w5.heap[g5]? = some (veB v) := by rw [e5, eg5, Below.heap_alloc _ _ _ (by simp)]; exact heap_new w4 _
  have hg6 : w5.heap[g6]? = some (veB (⟨M, z, 0⟩ : Ve)) := by
    have h := heap_new (w4.alloc (.cells #[.int .i64 v.a, .int .i64 v.b, .int .i64 v.c] 29)) (.cells #[.int .i64 M, .int .i64 z, .int .i64 0] 29)
    rw [show (w4.alloc (.cells #[.int .i64 v.a, .int .i64 v.b, .int .i64 v.c] 29)).heap.size = w4.heap.size + 1 by simp] at h
    rw [e5, eg6]; exact h
  rw [← eg6, ← eg5, ← e5]
  have HI5 := Lib.hid (HI4.out.below hb5)
  have HG5 := Lib.hid (And.intro hg5 hg6)
  have hl5 : g5 < w5.heap.size ∧ g6 < w5.heap.size := ⟨(Array.getElem?_eq_some_iff.1 hg5).1, (Array.getElem?_eq_some_iff.1 hg6).1⟩
  have q0 := cell_of_blk (j := 0) hg5 rfl
  have q1 := cell_of_blk (j := 1) hg5 rfl
  have q2 := cell_of_blk (j := 2) hg5 rfl
  have r0 := cell_of_blk (j := 0) hg6 rfl
  have r1 := cell_of_blk (j := 1) hg6 rfl
  have r2 := cell_of_blk (j := 2) hg6 rfl
  have HW := Lib.hid (way_any L v (⟨M, z, 0⟩ : Ve) N cL A w5 HI5.out.imsI HN.out.symm HL.out HV.out HT.out)
  unfold veV at HW
  clear e5 eg6 eg5 hb5 hg5 hg6 HI4 hM hh
  go_wp2_with (fail)
  refine HW.out.mono ?_
  intro e w6 hway
  clear HW q0 q1 q2 r0 r1 r2
  unfold WayPost at hway
  rcases hway with ⟨hr, rfl, hb6⟩ | ⟨l, B, cB, nB, hr, hway, hnB, hnB8, hok, rfl, ho6, hb6⟩
  · have HR := Lib.hid hr
    have HI6 := Lib.hid (HI5.out.below hb6)
    have HG6 := Lib.hid (show w6.heap[g5]? = some (veB v) ∧ w6.heap[g6]? = some (veB (⟨M, z, 0⟩ : Ve)) from ⟨(hb6.block g5 hl5.1).trans HG5.out.1, (hb6.block g6 hl5.2).trans HG5.out.2⟩)
    have hl6 : g5 < w6.heap.size ∧ g6 < w6.heap.size := ⟨(Array.getElem?_eq_some_iff.1 HG6.out.1).1, (Array.getElem?_eq_some_iff.1 HG6.out.2).1⟩
    have r0 := cell_of_blk (j := 0) HG6.out.2 rfl
    have r1 := cell_of_blk (j := 1) HG6.out.2 rfl
    have r2 := cell_of_blk (j := 2) HG6.out.2 rfl
    have HRE := Lib.hid (reach_any L (⟨M, z, 0⟩ : Ve) N cL A w6 HI6.out.imsI HN.out.symm HL.out HT.out)
    unfold veV ReaPost at HRE
    clear hr hb6 hl5 HI5 HG5
    go_wp2_with (fail)
    refine HRE.out.mono ?_
    rintro e w7 ⟨O, C, cC, nO, hnO, hnO17, hokO, hin, rfl, hoO, hb7⟩
    have HI7 := Lib.hid (HI6.out.below hb7)
    have HG7 := Lib.hid (show w7.heap[g5]? = some (veB v) ∧ w7.heap[g6]? = some (veB (⟨M, z, 0⟩ : Ve)) from ⟨(hb7.block g5 hl6.1).trans HG6.out.1, (hb7.block g6 hl6.2).trans HG6.out.2⟩)
    have hl7 : g5 < w7.heap.size ∧ g6 < w7.heap.size := ⟨(Array.getElem?_eq_some_iff.1 HG7.out.1).1, (Array.getElem?_eq_some_iff.1 HG7.out.2).1⟩
    have hany : (O.any fun r => inR r v) = false := by
      have h := hin v HV.out
      cases hb : (O.any fun r => inR r v) with
      | false => rfl
      | true => exact absurd (h.1 hb) HR.out
    have HC := Lib.hid (containsR_any 13 #[.pointer (some ⟨g5, 0, none⟩)] O (fun r => inR r v) nO cC C w7 hnO.symm (by omega) (own_row hoO) (enters_of Tryz.func13 (by kernel_rfl) rfl) (fun V r hr hV => wl1_any r v g5 V (hokO r hr) HV.out ((hV.block _ hl7.1).trans HG7.out.1)))
    rw [fstR_any, hany] at HC
    change _ at HC
    clear hnO hokO hin hoO hb7 hany HRE r0 r1 r2 hl6 HI6 HG6
    go_wp2_with (fail)
    refine HC.out.mono ?_
    rintro e w8 ⟨rfl, hb8⟩
    have HI8 := Lib.hid (HI7.out.below hb8)
    have HG8 := Lib.hid (show w8.heap[g5]? = some (veB v) ∧ w8.heap[g6]? = some (veB (⟨M, z, 0⟩ : Ve)) from ⟨(hb8.block g5 hl7.1).trans HG7.out.1, (hb8.block g6 hl7.2).trans HG7.out.2⟩)
    have hl8 : g5 < w8.heap.size ∧ g6 < w8.heap.size := ⟨(Array.getElem?_eq_some_iff.1 HG8.out.1).1, (Array.getElem?_eq_some_iff.1 HG8.out.2).1⟩
    have q0 := cell_of_blk (j := 0) HG8.out.1 rfl
    have q1 := cell_of_blk (j := 1) HG8.out.1 rfl
    have q2 := cell_of_blk (j := 2) HG8.out.1 rfl
    clear hb8 HC hl7 HI7 HG7
    go_upto_region 11 with (fail)
    obtain ⟨g12, eg12⟩ : ∃ y, y = w8.heap.size := ⟨_, rfl⟩
    obtain ⟨w9, e9⟩ : ∃ V : World, V = w8.alloc (.cells #[.int .i64 v.a, .int .i64 v.b, .int .i64 v.c] 29) := ⟨_, rfl⟩
    have hb9 : Below w8.heap.size w8 w9 := by rw [e9]; exact (Below.refl _ _).alloc (Nat.le_refl _) _
    have hg9 : w9.heap[g12]? = some (veB v) := by rw [e9, eg12]; exact heap_new w8 _
    rw [← eg12, ← e9]
    have HB9 := Lib.hid (show Below g12 w8 w9 from by rw [eg12]; exact hb9)
    have HE12 := Lib.hid eg12
    have hl12 : g5 < g12 ∧ g6 < g12 := by omega
    have HG9 := Lib.hid hg9
    clear q0 q1 q2 hb9 hg9 e9 eg12 hl8
    go_wp2_with (fail)
    go_loopw [63] (fun s wx => s = .int .i64 0 ∧ Hid (wx = w9)) (fun _ _ => 0)
    case atStart => exact ⟨rfl, Lib.hid rfl⟩
    case round =>
      obtain ⟨rfl, hww⟩ := hrel
      have hw := hww.out
      subst hw
      go_wp2_with (fail)
      refine (ready_yes _).mono ?_
      rintro e w10 ⟨rfl, hb10⟩
      have HF := Lib.hid (show Below w.heap.size w w10 from by
        have h1 := HI8.out.be
        have h2 := h1.trans (HB9.out.mono (by have := h1.size; have := HE12.out; omega))
        exact h2.trans (hb10.mono h2.size))
      clear hb10
      go_wp2_with (fail)
      go_ret
      exact ⟨rfl, HF.out⟩
  · have HR := Lib.hid hr
    have HI6 := Lib.hid (HI5.out.below hb6)
    have HG6 := Lib.hid (show w6.heap[g5]? = some (veB v) ∧ w6.heap[g6]? = some (veB (⟨M, z, 0⟩ : Ve)) from ⟨(hb6.block g5 hl5.1).trans HG5.out.1, (hb6.block g6 hl5.2).trans HG5.out.2⟩)
    have hl6 : g5 < w6.heap.size ∧ g6 < w6.heap.size := ⟨(Array.getElem?_eq_some_iff.1 HG6.out.1).1, (Array.getElem?_eq_some_iff.1 HG6.out.2).1⟩
    have HWAY := Lib.hid (show wayV L v l (⟨M, z, 0⟩ : Ve) ∧ nB = l.length ∧ (∀ u ∈ l, VeOk u) from ⟨hway, hnB, hok⟩)
    have HB6 := Lib.hid (own_row ho6)
    clear hway hnB hok ho6
    have r0 := cell_of_blk (j := 0) HG6.out.2 rfl
    have r1 := cell_of_blk (j := 1) HG6.out.2 rfl
    have r2 := cell_of_blk (j := 2) HG6.out.2 rfl
    have HRE := Lib.hid (reach_any L (⟨M, z, 0⟩ : Ve) N cL A w6 HI6.out.imsI HN.out.symm HL.out HT.out)
    unfold veV ReaPost at HRE
    clear hr hb6 hl5 HI5 HG5
    go_wp2_with (fail)
    refine HRE.out.mono ?_
    rintro e w7 ⟨O, C, cC, nO, hnO, hnO17, hokO, hin, rfl, hoO, hb7⟩
    have HI7 := Lib.hid (HI6.out.below hb7)
    have HG7 := Lib.hid (show w7.heap[g5]? = some (veB v) ∧ w7.heap[g6]? = some (veB (⟨M, z, 0⟩ : Ve)) from ⟨(hb7.block g5 hl6.1).trans HG6.out.1, (hb7.block g6 hl6.2).trans HG6.out.2⟩)
    have hl7 : g5 < w7.heap.size ∧ g6 < w7.heap.size := ⟨(Array.getElem?_eq_some_iff.1 HG7.out.1).1, (Array.getElem?_eq_some_iff.1 HG7.out.2).1⟩
    have HB7 := Lib.hid ((HB6.out.below hb7).mono hb7.size)
    have hany : (O.any fun r => inR r v) = true := by
      have h := hin v HV.out
      exact h.2 HR.out
    have HC := Lib.hid (containsR_any 13 #[.pointer (some ⟨g5, 0, none⟩)] O (fun r => inR r v) nO cC C w7 hnO.symm (by omega) (own_row hoO) (enters_of Tryz.func13 (by kernel_rfl) rfl) (fun V r hr hV => wl1_any r v g5 V (hokO r hr) HV.out ((hV.block _ hl7.1).trans HG7.out.1)))
    rw [fstR_any, hany] at HC
    change _ at HC
    clear hnO hokO hin hoO hb7 hany HRE r0 r1 r2 hl6 HI6 HG6
    go_wp2_with (fail)
    refine HC.out.mono ?_
    rintro e w8 ⟨rfl, hb8⟩
    have HI8 := Lib.hid (HI7.out.below hb8)
    have HG8 := Lib.hid (show w8.heap[g5]? = some (veB v) ∧ w8.heap[g6]? = some (veB (⟨M, z, 0⟩ : Ve)) from ⟨(hb8.block g5 hl7.1).trans HG7.out.1, (hb8.block g6 hl7.2).trans HG7.out.2⟩)
    have hl8 : g5 < w8.heap.size ∧ g6 < w8.heap.size := ⟨(Array.getElem?_eq_some_iff.1 HG8.out.1).1, (Array.getElem?_eq_some_iff.1 HG8.out.2).1⟩
    have HB8 := Lib.hid ((HB7.out.below hb8).mono hb8.size)
    have q0 := cell_of_blk (j := 0) HG8.out.1 rfl
    have q1 := cell_of_blk (j := 1) HG8.out.1 rfl
    have q2 := cell_of_blk (j := 2) HG8.out.1 rfl
    clear hb8 HC hl7 HI7 HG7
    go_upto_region 11 with (fail)
    obtain ⟨g12, eg12⟩ : ∃ y, y = w8.heap.size := ⟨_, rfl⟩
    obtain ⟨w9, e9⟩ : ∃ V : World, V = w8.alloc (.cells #[.int .i64 v.a, .int .i64 v.b, .int .i64 v.c] 29) := ⟨_, rfl⟩
    have hb9 : Below w8.heap.size w8 w9 := by rw [e9]; exact (Below.refl _ _).alloc (Nat.le_refl _) _
    have hg9 : w9.heap[g12]? = some (veB v) := by rw [e9, eg12]; exact heap_new w8 _
    rw [← eg12, ← e9]
    have HB9 := Lib.hid (show Below g12 w8 w9 from by rw [eg12]; exact hb9)
    have HE12 := Lib.hid eg12
    have hl12 : g5 < g12 ∧ g6 < g12 := by omega
    have HG9 := Lib.hid hg9
    clear q0 q1 q2 hb9 hg9 e9 eg12 hl8
    go_wp2_with (fail)
    have HR9 := Lib.hid (show WlR L v l (⟨M, z, 0⟩ : Ve) nB g12 0 v w8 w9 from ⟨HV.out, HWAY.out.1, HG9.out, HB9.out⟩)
    go_loopw [63] (fun s wx => ∃ (j : Nat) (u : Ve), j ≤ nB ∧ s = .int .i64 (j : Int) ∧ Hid (WlR L v l (⟨M, z, 0⟩ : Ve) nB g12 j u w8 wx)) (fun s _ => nB - (intOf s).toNat)
    case atStart => exact ⟨0, v, Nat.zero_le _, rfl, HR9⟩
    case round =>
      obtain ⟨j, u, hj, rfl, HRR⟩ := hrel
      clear HR9 HG9 HB9
      have hgu := HRR.out.cell
      have hlu := (Array.getElem?_eq_some_iff.1 hgu).1
      by_cases hlt : j < nB
      · obtain ⟨y, hy⟩ : ∃ y, l[j]? = some y := ⟨_, List.getElem?_eq_getElem (by have := HWAY.out.2.1; omega)⟩
        have hnx := HRR.out.next hy
        have HNX := Lib.hid hnx
        have HYO := Lib.hid (HWAY.out.2.2 y (List.mem_of_getElem? hy))
        have hIr : ImsI wr g12 A L := (show ImsI w8 g12 A L from by rw [HE12.out]; exact HI8.out.imsI).below HRR.out.be
        have hBr : Row wr g12 B (recs veC l) := (show Row w8 g12 B (recs veC l) from by rw [HE12.out]; exact HB8.out).below HRR.out.be
        obtain ⟨b, o, rfl, hbw, hC⟩ := hBr.posR veC_len (by omega) (by have := HWAY.out.2.1; omega)
        have c0 : wr.cell? ⟨b, o + j * 3, none⟩ = some (.int .i64 y.a) := rec_cell veC_len hC j y hy 0 _ rfl
        have c1 := rec_cell veC_len hC j y hy 1 _ rfl
        have c2 := rec_cell veC_len hC j y hy 2 _ rfl
        have HIR := Lib.hid hIr
        have hltI : (j : Int) < (nB : Int) := by omega
        have hblt : b < wr.heap.size := by omega
        have HGU := Lib.hid hgu
        clear hnx hIr hBr hC hgu
        go_upto_region 14 with (fail)
        obtain ⟨g14, eg14⟩ : ∃ y, y = wr.heap.size := ⟨_, rfl⟩
        obtain ⟨w10, e10⟩ : ∃ V : World, V = wr.alloc (.cells #[.int .i64 y.a, .int .i64 y.b, .int .i64 y.c] 29) := ⟨_, rfl⟩
        have hb10 : Below wr.heap.size wr w10 := by rw [e10]; exact (Below.refl _ _).alloc (Nat.le_refl _) _
        have hg14 : w10.heap[g14]? = some (veB y) := by rw [e10, eg14]; exact heap_new wr _
        rw [← eg14, ← e10]
        have hg12 := (hb10.block g12 hlu).trans HGU.out
        have hl14 := (Array.getElem?_eq_some_iff.1 hg14).1
        have hl10 := (Array.getElem?_eq_some_iff.1 hg12).1
        have HB10 := Lib.hid (HRR.out.be.trans (hb10.mono (by omega)))
        have HG10 := Lib.hid (And.intro hg12 hg14)
        have HNE := Lib.hid (next_im L u N cL A w10 ((HIR.out.below (hb10.mono (by omega))).mono (by omega)) HN.out.symm HL.out HRR.out.ok)
        unfold veV NexPost at HNE
        have s0 := cell_of_blk (j := 0) hg12 rfl
        have s1 := cell_of_blk (j := 1) hg12 rfl
        have s2 := cell_of_blk (j := 2) hg12 rfl
        clear c0 c1 c2 hb10 hg14 hg12 e10 eg14 HGU HIR hbw hblt
        go_wp2_with (fail)
        refine HNE.out.mono ?_
        rintro e w11 ⟨D, cD, nD, hnD, rfl, hoD, hb11⟩
        have hg14 := (hb11.block g14 hl14).trans HG10.out.2
        have HG11 := Lib.hid (show w11.heap[g12]? = some (veB u) ∧ w11.heap[g14]? = some (veB y) from ⟨(hb11.block g12 hl10).trans HG10.out.1, hg14⟩)
        have HB11 := Lib.hid (HB10.out.trans (hb11.mono (by omega)))
        have hl11 : g12 < w11.heap.size ∧ g14 < w11.heap.size := ⟨(Array.getElem?_eq_some_iff.1 HG11.out.1).1, (Array.getElem?_eq_some_iff.1 HG11.out.2).1⟩
        have htk : (tkV L u).length ≤ 8 := by
          have h1 := HL.out.len
          have h2 : (tkV L u).length = (tak L u).length := by unfold tkV; rw [List.length_map]
          have h3 := tak_len (L := L) (v := u)
          omega
        have HCV := Lib.hid (containsV_any (tkV L u) y nD cD D w11 hnD.symm (by omega) (own_row hoD))
        rw [decide_eq_true HNX.out.1] at HCV
        unfold veV at HCV
        clear s0 s1 s2 hnD hoD hb11 htk HNE HB10 HG10 hl14 hl10
        have p0 := cell_of_blk (j := 0) hg14 rfl
        have p1 := cell_of_blk (j := 1) hg14 rfl
        have p2 := cell_of_blk (j := 2) hg14 rfl
        clear hg14
        go_wp2_with (fail)
        refine HCV.out.mono ?_
        rintro e w12 ⟨rfl, hb12⟩
        have hg14 := (hb12.block g14 hl11.2).trans HG11.out.2
        have hg12 := (hb12.block g12 hl11.1).trans HG11.out.1
        have hl12' := (Array.getElem?_eq_some_iff.1 hg12).1
        have HB12 := Lib.hid (HB11.out.trans (hb12.mono (by omega)))
        have HEND := Lib.hid (fun (W : World) (hW : W = (((w12.setCell ⟨g12, 0, none⟩ (.int .i64 y.a)).setCell ⟨g12, 1, none⟩ (.int .i64 y.b)).setCell ⟨g12, 2, none⟩ (.int .i64 y.c))) => show WlR L v l (⟨M, z, 0⟩ : Ve) nB g12 (j + 1) y w8 W from by
          have h0 := (setblkV (j := 0) (.int .i64 y.a) hg12)
          have h1 := (setblkV (j := 1) (.int .i64 y.b) h0)
          have h2 := (setblkV (j := 2) (.int .i64 y.c) h1)
          subst hW
          exact ⟨HYO.out, HNX.out.2, h2.trans rfl, ((HB12.out.setCell (Nat.le_refl _) _).setCell (Nat.le_refl _) _).setCell (Nat.le_refl _) _⟩)
        have t0 := cell_of_blk (j := 0) hg14 rfl
        have t1 := cell_of_blk (j := 1) hg14 rfl
        have t2 := cell_of_blk (j := 2) hg14 rfl
        have s0 := cell_of_blk (j := 0) hg12 rfl
        have s1 := cell_of_blk (j := 1) hg12 rfl
        have s2 := cell_of_blk (j := 2) hg12 rfl
        have f0 : w12.frozen? ⟨g12, 0, none⟩ = false := by simp [World.frozen?, hg12, veB]
        have f1 : w12.frozen? ⟨g12, 1, none⟩ = false := by simp [World.frozen?, hg12, veB]
        have f2 : w12.frozen? ⟨g12, 2, none⟩ = false := by simp [World.frozen?, hg12, veB]
        clear p0 p1 p2 hg14 hg12 hb12 HCV HG11 HB11 HB12 hl11
        go_wp2_with (fail)
        go_roundw
        case rel => exact ⟨j + 1, y, by omega, by go_num, Lib.hid (HEND.out _ rfl)⟩
        case measure => simp [intOf]; omega
      · have hltI : ¬ (j : Int) < (nB : Int) := by omega
        have hut : u = (⟨M, z, 0⟩ : Ve) := by
          have h := HRR.out.way
          have hjn : j = l.length := by have := HWAY.out.2.1; omega
          rw [hjn, List.drop_length] at h
          exact h
        have hq : ∀ W : World, (binOp .eql 29 (veV u) (veV (⟨M, z, 0⟩ : Ve))).run Tryz.prog W = .ok (.bool true) W := fun W => by rw [ver_eql, decide_eq_true hut]
        unfold veV at hq
        have hg6 := (HRR.out.be.block g6 hl12.2).trans HG8.out.2
        have hl6 := (Array.getElem?_eq_some_iff.1 hg6).1
        have r0 := cell_of_blk (j := 0) hg6 rfl
        have r1 := cell_of_blk (j := 1) hg6 rfl
        have r2 := cell_of_blk (j := 2) hg6 rfl
        have s0 := cell_of_blk (j := 0) hgu rfl
        have s1 := cell_of_blk (j := 1) hgu rfl
        have s2 := cell_of_blk (j := 2) hgu rfl
        clear hut hg6 hgu
        go_wp2_with (fail)
        refine (ready_yes _).mono ?_
        rintro e w10 ⟨rfl, hb10⟩
        have HF := Lib.hid (show Below w.heap.size w w10 from by
          have h1 := HI8.out.be
          have h2 := h1.trans (HRR.out.be.mono (by have := h1.size; have := HE12.out; omega))
          exact h2.trans (hb10.mono h2.size))
        clear hb10
        go_wp2_with (fail)
        go_ret
        exact ⟨rfl, HF.out⟩
end Go.Proofs.YtidgicbhgnbidaaGreatDoor
