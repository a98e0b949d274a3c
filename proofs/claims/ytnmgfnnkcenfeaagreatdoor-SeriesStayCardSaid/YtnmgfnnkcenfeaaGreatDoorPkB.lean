/- The reference's PackOf; RightBuckets of the stream. -/
import Derived.Test.YtnmgfnnkcenfeaaGreatDoorPkA
namespace Go.Proofs.YtnmgfnnkcenfeaaGreatDoor
open Go.RowKit

theorem fine_in {l : List Smp} (h : Fine l) : ∀ s ∈ l, (0 ≤ s.1 ∧ s.1 < 100000) ∧ -1000 ≤ s.2 ∧ s.2 ≤ 1000 := fun s hs => by
  have := h.all s hs
  omega
def RbPost (w : World) (p k : Nat) (xs : LiA) (e : Ending) (w' : World) : Prop :=
  ∃ (L : List Bkt) (A : Option Addr) (c n k' : Nat), (L, k') = (boL (serL xs (k + 1) (-100) (nextN xs k 11)), k + 1 + 2 * nextN xs k 11) ∧ e = .returned (.slice A n c) ∧ L.length = n ∧ n ≤ 10 ∧ w'.ownsRow w.heap.size 46 8 (.slice A n c) n (bCells L) ∧ Strm w' p xs k' ∧ k' ≤ k + 30 ∧ w.grownBy w' (some p)
set_option maxRecDepth 100000 in
theorem rightBuckets_any (w : World) (p k : Nat) (xs : LiA) (hk : k < 800000) (hs : Strm w p xs k) :
    Calls Tryz.prog 5 #[.pointer (some ⟨p, 0, none⟩), .int .i64 10] w fun e w' => RbPost w p k xs e w' := by
  have hN := nextN_lt xs k 11 (by omega)
  have HS := Lib.hid hs
  clear hs
  go_enter Tryz.func5, Tryz.ntmps5
  go_wp2_with (fail)
  refine (rightSeries_any w p k 10 (-100) xs (by omega) (by omega) HS.out).mono ?_
  obtain ⟨N, eN⟩ : ∃ N, N = nextN xs k 11 := ⟨_, rfl⟩
  rw [show nextN xs k (10 + 1) = N from eN.symm]
  rw [← eN] at hN
  obtain ⟨l, el⟩ : ∃ l, l = serL xs (k + 1) (-100) N := ⟨_, rfl⟩
  rw [← el]
  have HF := Lib.hid (show Fine l from by rw [el]; exact serL_fine xs (k + 1) N (by omega))
  have HLN := Lib.hid (show l.length = N from by rw [el]; exact serL_length _ _ _ _)
  have HEL := Lib.hid (And.intro eN el)
  clear eN el
  rintro e w1 ⟨v, rfl, ho, hst, hg⟩
  obtain ⟨A, c, rfl⟩ := own_slice ho
  have HST := Lib.hid hst
  have HG := Lib.hid hg
  have HBO := Lib.hid (bucketsOf_any l N c A w1 HLN.out (by omega) (fine_in HF.out) (own_row ho))
  have hs1 := hg.size
  clear ho hst hg
  go_wp2_with (fail)
  refine HBO.out.mono ?_
  rintro e w2 ⟨A2, c2, rfl, ho, hb⟩
  have HFN := Lib.hid (show RbPost w p k xs (.returned (.slice A2 (boL l).length c2)) w2 from
    ⟨boL l, A2, c2, (boL l).length, k + 1 + 2 * N, by rw [HEL.out.2, HEL.out.1], rfl, rfl, by
      have : (boL l).length ≤ l.length := by unfold boL; rw [List.length_map]; exact orL_len l
      have := HLN.out
      omega, own_mono ho hs1, HST.out.below hb, by omega, grown_more HG.out (grown_belowP (r := none) hb) (by simp)⟩)
  clear ho hb
  go_wp2_with (fail)
  go_ret
  exact HFN.out
set_option maxRecDepth 100000 in
set_option maxHeartbeats 4000000 in
theorem packOf_any (l : List Smp) (n c : Nat) (A : Option Addr) (w : World) (hn : l.length = n) (hg : GoodS l) (hr : Row w w.heap.size A (cellsOf l)) (hs : StepsOk 0 0 0 true l) :
    Calls Tryz.prog 23 #[.slice A n c] w fun e w' => ∃ v, e = .returned v ∧ w'.ownsRow w.heap.size 5 1 v (packL l).length (bytesV (packL l)) ∧ Below w.heap.size w w' := by
  obtain ⟨i0, hi, hz0, hz1, hz2⟩ := info_parts Tryz.infoU8
  have h5 : n ≤ 5000 := by have := hg.len; omega
  have HRW := Lib.hid hr
  have HG := Lib.hid hg
  have HS := Lib.hid hs
  have HN := Lib.hid hn
  clear hr hg hs hn
  go_enter Tryz.func23, Tryz.ntmps23
  go_wp2_with (fail)
  refine (sevens_any w n (by omega)).mono ?_
  rintro e w1 ⟨g1, c1, rfl, hown1, hgl1, hb1⟩
  have HO1 := Lib.hid hown1
  have HB1 := Lib.hid hb1
  clear hown1 hb1
  go_wp2_with (fail)
  go_loopw [3, 4, 5, 6, 15] (fun v a d q i wr => ∃ (k : Nat) (at_ by_ val : Int) (ys : List Int), k ≤ n ∧ i = .int .i64 k ∧ a = .int .i64 at_ ∧ d = .int .i64 by_ ∧ q = .int .i64 val ∧
      wr.ownsRow w.heap.size 5 1 v ys.length (bytesV ys) ∧ Hid (ys ++ packS at_ by_ val (k == 0) (l.drop k) = packL l ∧ StepsOk at_ by_ val (k == 0) (l.drop k)) ∧ Below w.heap.size w wr ∧ ys.length ≤ 4 * k + 2 ∧
      (0 ≤ at_ ∧ at_ < 345686400000) ∧ (-345686400000 < by_ ∧ by_ < 345686400000) ∧ (-1000000000 ≤ val ∧ val ≤ 1000000000) ∧ (k = 0 → by_ = 0)) (fun _ _ _ _ i _ => n - (intOf i).toNat)
  case atStart =>
    refine ⟨0, 0, 0, 0, sev n, Nat.zero_le _, rfl, rfl, rfl, rfl, HO1.out, ?_, HB1.out, by have := sev_len2 n; omega, by omega, by omega, by omega, by omega⟩
    exact ⟨by simp [packL, HN.out], by simpa using HS.out⟩
  case round =>
    obtain ⟨k, at_, by_, val, ys, hk, rfl, rfl, rfl, rfl, hown, hrest, hbl, hlen, ⟨ha1, ha2⟩, ⟨hy1, hy2⟩, ⟨hv1, hv2⟩, hby⟩ := hrel
    have hsz := hbl.size
    by_cases hlt : k < n
    · have hltI : (k : Int) < n := by omega
      have hkl : k < l.length := by have := HN.out; omega
      obtain ⟨x, hx⟩ : ∃ x, l[k]? = some x := ⟨_, List.getElem?_eq_getElem hkl⟩
      have hdr : l.drop k = x :: l.drop (k + 1) := by
        rw [List.drop_eq_getElem_cons hkl]; congr 1
        rw [List.getElem?_eq_getElem hkl] at hx; injection hx
      obtain ⟨b, o, rfl, hb, hcr⟩ := (HRW.out.below hbl).pos (by omega)
      obtain ⟨c0, c1', c2, c3⟩ := smp_cells hcr k x hx
      have hblt : b < wr.heap.size := by omega
      have hat := HG.out.at_ k x hx
      have hval := HG.out.val k x hx
      obtain ⟨a, v⟩ := x
      simp only at c2 c3 hat hval
      have hR := hrest.out
      rw [hdr] at hR
      simp only [packS, StepsOk] at hR
      obtain ⟨hR1, hs1, hs2, hs3, hs4, hR2⟩ := hR
      have HR1 := Lib.hid hR1
      have HR2 := Lib.hid hR2
      have HBL := Lib.hid hbl
      have HOWN := Lib.hid hown
      have HL1 := sev_len2 (dbl (a - at_ - by_))
      have HL2 := sev_len2 (dbl (v - val))
      obtain ⟨gs, egs⟩ : ∃ g, g = wr.heap.size := ⟨_, rfl⟩
      have hbox := heap_new wr (.cells #[.string ⟨#[100]⟩, .string ⟨#[109]⟩, .int .i64 a, .int .i64 v] 37)
      rw [← egs] at hbox
      have HBOX := Lib.hid hbox
      have HGS := Lib.hid egs
      obtain ⟨XA, xc, rfl⟩ := own_slice hown
      clear hbl hcr hx hdr hrest hown hR1 hR2 hbox hkl
      go_upto_region 6 with (fail)
      obtain ⟨wb, ewb⟩ : ∃ V : World, V = wr.alloc (.cells #[.string ⟨#[100]⟩, .string ⟨#[109]⟩, .int .i64 a, .int .i64 v] 37) := ⟨_, rfl⟩
      rw [← ewb] at HBOX
      have HBB := Lib.hid (show Below wr.heap.size wr wb from by rw [ewb]; exact (Below.refl _ _).alloc (Nat.le_refl _) _)
      rw [← egs, ← ewb]
      have hgl := (Array.getElem?_eq_some_iff.1 HBOX.out).1
      have HOB := Lib.hid (own_belowP HOWN.out HBB.out)
      have HBL2 := Lib.hid (HBL.out.trans (HBB.out.mono hsz))
      have hsb := HBB.out.size
      have b2 := cell_of_blk (j := 2) HBOX.out rfl
      have b3 := cell_of_blk (j := 3) HBOX.out rfl
      clear ewb egs c0 c1' c2 c3
      go_wp2_with (go_at_call 60; refine (turned_any _ _ (by omega) (by omega)).mono ?_; rintro e w' ⟨rfl, rfl⟩)
      refine (sevens_any _ (dbl (a - at_ - by_)) (dbl_lt _ hs1 hs2)).mono ?_
      rintro e w2 ⟨g2, q2, rfl, hown2, hgl2, hb2⟩
      obtain ⟨m1, em1⟩ : ∃ m, m = (sev (dbl (a - at_ - by_))).length := ⟨_, rfl⟩
      rw [← em1] at hown2 HL1 ⊢
      have HM1 := Lib.hid em1.symm
      have HC2 := Lib.hid (own_cells0 hown2)
      have HO2 := Lib.hid (own_belowP HOB.out hb2)
      have HB2 := Lib.hid (HBL2.out.trans (hb2.mono (by omega)))
      have HX2 := Lib.hid ((hb2.block gs hgl).trans HBOX.out)
      have hs2' := hb2.size
      have hsw2 := HB2.out.size
      clear hown2 hb2 b2 b3 em1 HOB HBL2 HBL
      go_wp2_with (at_builtin; refine wpList_append_own2 _ rfl (.tmp 24) (.tmp 29) 30 rfl w.heap.size 5 i0 (.int .u8 0) 1 1 Tryz.underlying30 hi hz0 hz1 hz2 rfl (by decide) _ _ _ rfl HO2.out ⟨g2, 0, none⟩ m1 q2 (bytesV (sev (dbl (a - at_ - by_)))) rfl ?c0 ?c1 ?c2 ?c3 ?c4 ?c5 ?_)
      case c0 => simp [bytesV, HM1.out]
      case c1 => exact cells_add HC2.out
      case c2 => exact bytesV_one _
      case c3 => unfold maxLen; omega
      case c4 => omega
      case c5 => omega
      intro v3 w3 ho3 hg3 hm3
      have hx3 := (hg3.block gs (by omega) (own_ne HO2.out HX2.out (by decide))).trans HX2.out
      have HX3 := Lib.hid hx3
      have HO3 := Lib.hid (show w3.ownsRow w.heap.size 5 1 v3 (ys.length + m1) (bytesV (ys ++ sev (dbl (a - at_ - by_)))) from by rw [bytesV_app]; exact ho3)
      have HB3 := Lib.hid (HB2.out.grown hg3 hsw2 (fun g e => (HO2.out.lt g e).1))
      have hs3' := hg3.size
      have hsw3 := HB3.out.size
      have b2 := cell_of_blk (j := 2) hx3 rfl
      have b3 := cell_of_blk (j := 3) hx3 rfl
      have hgl3 : gs < w3.heap.size := by omega
      obtain ⟨VA, vc3, rfl⟩ := own_slice ho3
      clear ho3 hg3 hm3 hx3 HO2 HC2 HX2
      go_wp2_with (go_at_call 60; refine (turned_any _ _ (by omega) (by omega)).mono ?_; rintro e w' ⟨rfl, rfl⟩)
      refine (sevens_any _ (dbl (v - val)) (dbl_lt _ hs3 hs4)).mono ?_
      rintro e w4 ⟨g4, q4, rfl, hown4, hgl4, hb4⟩
      obtain ⟨m2, em2⟩ : ∃ m, m = (sev (dbl (v - val))).length := ⟨_, rfl⟩
      rw [← em2] at hown4 HL2 ⊢
      have HM2 := Lib.hid em2.symm
      have HC4 := Lib.hid (own_cells0 hown4)
      have HO4 := Lib.hid (own_belowP HO3.out hb4)
      have HB4 := Lib.hid (HB3.out.trans (hb4.mono (by omega)))
      have HX4 := Lib.hid ((hb4.block gs hgl3).trans HX3.out)
      have hs4' := hb4.size
      have hsw4 := HB4.out.size
      clear hown4 hb4 b2 b3 em2 HO3 HB3 HX3
      go_wp2_with (at_builtin; refine wpList_append_own2 _ rfl (.tmp 31) (.tmp 37) 30 rfl w.heap.size 5 i0 (.int .u8 0) 1 1 Tryz.underlying30 hi hz0 hz1 hz2 rfl (by decide) _ _ _ rfl HO4.out ⟨g4, 0, none⟩ m2 q4 (bytesV (sev (dbl (v - val)))) rfl ?d0 ?d1 ?d2 ?d3 ?d4 ?d5 ?_)
      case d0 => simp [bytesV, HM2.out]
      case d1 => exact cells_add HC4.out
      case d2 => exact bytesV_one _
      case d3 => unfold maxLen; omega
      case d4 => omega
      case d5 => omega
      intro v5 w5 ho5 hg5 hm5
      have hx5 := (hg5.block gs (by omega) (own_ne HO4.out HX4.out (by decide))).trans HX4.out
      have HO5 := Lib.hid (show w5.ownsRow w.heap.size 5 1 v5 (ys ++ (sev (dbl (a - at_ - by_)) ++ sev (dbl (v - val)))).length (bytesV (ys ++ (sev (dbl (a - at_ - by_)) ++ sev (dbl (v - val))))) from by
        rw [List.length_append, List.length_append, ← Nat.add_assoc, HM1.out, HM2.out, ← List.append_assoc, bytesV_app]; exact ho5)
      have HB5 := Lib.hid (HB4.out.grown hg5 hsw4 (fun g e => (HO4.out.lt g e).1))
      have hs5' := hg5.size
      have b2 := cell_of_blk (j := 2) hx5 rfl
      have b3 := cell_of_blk (j := 3) hx5 rfl
      have hgl5 : gs < w5.heap.size := by omega
      have HLL := Lib.hid (show (ys ++ (sev (dbl (a - at_ - by_)) ++ sev (dbl (v - val)))).length ≤ 4 * (k + 1) + 2 from by rw [List.length_append, List.length_append, HM1.out, HM2.out]; omega)
      clear ho5 hg5 hm5 hx5 HO4 HC4 HX4
      go_wp2_with (fail)
      go_quiet (fail)
      by_cases hk0 : k = 0
      · have hk0I : (k : Int) = 0 := by omega
        have hby0 := hby hk0
        go_wp2_with (fail)
        refine ⟨⟨1, a, 0, v, _, by omega, rfl, rfl, rfl, rfl, own_drewN HO5.out _, ?_, below_drewN HB5.out _, by have := HLL.out; omega, ⟨by omega, by omega⟩, ⟨by omega, by omega⟩, ⟨by omega, by omega⟩, by omega⟩, by simp [intOf]; omega⟩
        have h1 := HR1.out
        have h2 := HR2.out
        subst hk0
        subst hby0
        exact ⟨by simpa [List.append_assoc] using h1, by simpa using h2⟩
      · have hk0I : ¬ (k : Int) = 0 := by omega
        go_wp2_with (fail)
        go_roundw
        case rel =>
          refine ⟨k + 1, a, a - at_, v, _, by omega, by go_num, rfl, rfl, rfl, own_drewN HO5.out _, ?_, below_drewN HB5.out _, HLL.out, ⟨by omega, by omega⟩, ⟨by omega, by omega⟩, ⟨by omega, by omega⟩, by omega⟩
          have e1 : (k == 0) = false := by simp; omega
          have := HR1.out
          have h2 := HR2.out
          rw [e1] at this h2
          exact ⟨by simpa [List.append_assoc] using this, by simpa using h2⟩
        case measure => simp [intOf]; omega
    · have hltI : ¬ (k : Int) < n := by omega
      have HBL := Lib.hid hbl
      have HOWN := Lib.hid hown
      have HE := Lib.hid (show ys = packL l by
        have := hrest.out.1
        rw [List.drop_of_length_le (by have := HN.out; omega)] at this
        simpa [packS] using this)
      clear hbl hown hrest
      go_wp2_with (fail)
      go_ret
      exact ⟨_, rfl, by rw [← HE.out]; exact HOWN.out, HBL.out⟩
end Go.Proofs.YtnmgfnnkcenfeaaGreatDoor
