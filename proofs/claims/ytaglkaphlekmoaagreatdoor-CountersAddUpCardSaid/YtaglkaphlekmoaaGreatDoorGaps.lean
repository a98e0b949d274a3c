/- series.Gaps of a good series. -/
import Derived.Test.YtaglkaphlekmoaaGreatDoorGap
namespace Go.Proofs.YtaglkaphlekmoaaGreatDoor
open Go.RowKit

set_option maxRecDepth 100000 in
set_option maxHeartbeats 4000000 in
theorem gaps_any (l : List Smp) (n c : Nat) (A : Option Addr) (a b M : Int) (w : World) (hn : l.length = n) (hn2 : n ≤ 1000) (hg : GoodS l) (hp : l.Pairwise (fun s t => s.1 ≤ t.1)) (hr : Row w w.heap.size A (cellsOf l)) (h1 : 0 ≤ a) (h2 : a ≤ b) (h3 : b ≤ 345686400000) (hM : 1 ≤ M) (hM2 : M ≤ 345686400000) :
    Calls Tryz.prog 16 #[.slice A n c, winV a b, .int .i64 M] w fun e w' => ∃ v, e = .returned (.tuple #[v, .int .i64 0]) ∧ w'.ownsRow w.heap.size 47 2 v (gapsOf M a b l).length (wCells (gapsOf M a b l)) ∧ Below w.heap.size w w' := by
  have HR := Lib.hid hr
  have HG := Lib.hid hg
  have HN := Lib.hid hn
  have HP := Lib.hid hp
  clear hr hg hn hp
  unfold winV
  go_enter Tryz.func16, Tryz.ntmps16
  go_wp2_with (fail)
  generalize hX : (w.alloc (.cells #[.int .i64 a, .int .i64 b] 47)).alloc (.cells #[.int .i64 M] 3) = X
  have hXs : X.heap.size = w.heap.size + 1 + 1 := by rw [← hX]; simp
  have hBX : Below w.heap.size w X := by rw [← hX]; exact ((Below.refl _ _).alloc (Nat.le_refl _) _).alloc (by simp) _
  have hx0 : X.heap[w.heap.size]? = some (.cells #[.int .i64 a, .int .i64 b] 47) := by rw [← hX, Below.heap_alloc _ _ _ (by simp)]; exact heap_new w _
  have hx1 : X.heap[w.heap.size + 1]? = some (.cells #[.int .i64 M] 3) := by rw [← hX]; have := heap_new (w.alloc (.cells #[.int .i64 a, .int .i64 b] 47)) (.cells #[.int .i64 M] 3); simpa using this
  have HX := Lib.hid (And.intro hx0 hx1)
  have x0 := cell_of_blk (j := 0) hx0 rfl
  have x1 := cell_of_blk (j := 1) hx0 rfl
  have HRX := Lib.hid ((HR.out.below hBX).mono (show w.heap.size ≤ X.heap.size by omega))
  have HBX := Lib.hid hBX
  clear hX hBX hx0 hx1
  refine (fault_any l n c A a b X HN.out HG.out HRX.out h1 h2 h3).mono ?_
  rintro e w1 ⟨rfl, hb1⟩
  have hs1 := hb1.size
  have HR1 := Lib.hid ((HRX.out.below hb1).mono hs1)
  have HX1 := Lib.hid (And.intro ((hb1.block w.heap.size (by omega)).trans HX.out.1) ((hb1.block (w.heap.size + 1) (by omega)).trans HX.out.2))
  have y0 := cell_of_blk (j := 0) HX1.out.1 rfl
  have y1 := cell_of_blk (j := 1) HX1.out.1 rfl
  have y2 := cell_of_blk (j := 0) HX1.out.2 rfl
  have HB1 := Lib.hid (HBX.out.trans (hb1.mono (by omega)))
  have hww : w.heap.size < w1.heap.size := by omega
  have hww1 : w.heap.size + 1 < w1.heap.size := by omega
  clear hb1 x0 x1 HX HRX HBX
  go_wp2_with (go_at_call 39; refine (out_no _ _ _ _ (by omega) (by omega)).mono ?_; rintro e w' ⟨rfl, rfl⟩)
  generalize hW : (w1.alloc (.cells #[.slice none 0 0] 48)).alloc (.cells #[.int .i64 a] 3) = W
  have hWs : W.heap.size = w1.heap.size + 1 + 1 := by rw [← hW]; simp
  have hBW : Below w1.heap.size w1 W := by rw [← hW]; exact ((Below.refl _ _).alloc (Nat.le_refl _) _).alloc (by simp) _
  have ho : W.heap[w1.heap.size]? = some (.cells #[.slice none 0 0] 48) := by rw [← hW, Below.heap_alloc _ _ _ (by simp)]; exact heap_new w1 _
  have ha : W.heap[w1.heap.size + 1]? = some (.cells #[.int .i64 a] 3) := by rw [← hW]; have := heap_new (w1.alloc (.cells #[.slice none 0 0] 48)) (.cells #[.int .i64 a] 3); simpa using this
  have HOA := Lib.hid (And.intro ho ha)
  have HXW := Lib.hid (And.intro ((hBW.block w.heap.size (by omega)).trans HX1.out.1) ((hBW.block (w.heap.size + 1) (by omega)).trans HX1.out.2))
  have HRW := Lib.hid ((HR1.out.below hBW).mono (show w1.heap.size ≤ W.heap.size by omega))
  have HBW := Lib.hid (HB1.out.trans (hBW.mono (by omega)))
  clear hW hBW ho ha y0 y1 y2 HX1 HR1 HB1
  go_loopw [27] (fun i wr => ∃ (k : Nat) (v : Value), k ≤ n ∧ i = .int .i64 k ∧ wr.heap[w.heap.size]? = some (.cells #[.int .i64 a, .int .i64 b] 47) ∧ wr.heap[w.heap.size + 1]? = some (.cells #[.int .i64 M] 3) ∧
      wr.heap[w1.heap.size]? = some (.cells #[v] 48) ∧ wr.heap[w1.heap.size + 1]? = some (.cells #[.int .i64 (endS a (stops a b (l.take k)))] 3) ∧
      wr.ownsRow (w1.heap.size + 2) 47 2 v (gaps M a (stops a b (l.take k))).length (wCells (gaps M a (stops a b (l.take k)))) ∧ W.heap.size ≤ wr.heap.size ∧ Below w.heap.size w wr) (fun i _ => n - (intOf i).toNat)
  case atStart => exact ⟨0, .slice none 0 0, Nat.zero_le _, rfl, HXW.out.1, HXW.out.2, HOA.out.1, HOA.out.2, by simpa [stops, gaps, wCells] using World.ownsRow_nil _ _ _ _, Nat.le_refl _, HBW.out⟩
  case round =>
    obtain ⟨k, v, hk, rfl, hb4, hb5, hbo, hba, hown, hsz, hbl⟩ := hrel
    have hszw := hbl.size
    obtain ⟨T, eT⟩ : ∃ T, T = endS a (stops a b (l.take k)) := ⟨_, rfl⟩
    obtain ⟨ws, ews⟩ : ∃ ws, ws = gaps M a (stops a b (l.take k)) := ⟨_, rfl⟩
    rw [← eT] at hba
    rw [← ews] at hown
    have hup := stops_ups a b (l.take k) (HP.out.sublist (List.take_sublist _ _))
    have hT1 : a ≤ T := by rw [eT]; exact ups_end _ _ hup.1
    have hT2 : T ≤ 345686400000 := by
      rw [eT]
      refine hup.2 _ (fun s hs => ?_) (by omega)
      obtain ⟨i, hi⟩ := List.getElem?_of_mem (List.mem_of_mem_take hs)
      have := HG.out.at_ i s hi
      omega
    have hwl : ws.length ≤ 1001 := by
      have h1 := gaps_length M (stops a b (l.take k)) a
      have h2 : (stops a b (l.take k)).length ≤ (l.take k).length := by simp only [stops, List.length_map]; exact List.length_filter_le _ _
      simp only [List.length_take] at h2
      rw [ews]
      omega
    have c0 := cell_of_blk (j := 0) hb4 rfl
    have c1 := cell_of_blk (j := 1) hb4 rfl
    have HE := Lib.hid (And.intro eT ews)
    have HBL := Lib.hid hbl
    have HB45 := Lib.hid (And.intro hb4 hb5)
    have HBOA := Lib.hid (And.intro hbo hba)
    have HOWN := Lib.hid hown
    have hwr : w.heap.size < wr.heap.size := by omega
    have hwr1 : w.heap.size + 1 < wr.heap.size := by omega
    clear eT ews hup hbl hb4 hb5 hbo hba hown
    by_cases hlt : k < n
    · have hkl : k < l.length := by have := HN.out; omega
      obtain ⟨bb, o, rfl, hbb, hcs⟩ := Row.pos HR.out (by omega)
      obtain ⟨x, hx⟩ : ∃ x, l[k]? = some x := ⟨_, List.getElem?_eq_getElem hkl⟩
      obtain ⟨s0, s1, s2, s3⟩ := smp_cells (hcs.keep (HBL.out.block bb hbb)) k x hx
      have hat := HG.out.at_ k x hx
      have HTK := Lib.hid (show l.take (k + 1) = l.take k ++ [x] by rw [List.take_add_one, hx]; rfl)
      obtain ⟨xa, xv⟩ := x
      simp only at hat s2 s3
      have hlt' : (k : Int) < (n : Int) := by omega
      have hbw : bb < wr.heap.size := by omega
      clear hcs hx hkl
      go_wp2_with (fail)
      generalize hY : wr.alloc (.cells #[.string ⟨#[100]⟩, .string ⟨#[109]⟩, .int .i64 xa, .int .i64 xv] 53) = Y
      have hYs : Y.heap.size = wr.heap.size + 1 := by rw [← hY]; simp
      have hBY : Below wr.heap.size wr Y := hY ▸ (Below.refl _ _).alloc (Nat.le_refl _) _
      have hyb : Y.heap[wr.heap.size]? = some (.cells #[.string ⟨#[100]⟩, .string ⟨#[109]⟩, .int .i64 xa, .int .i64 xv] 53) := by rw [← hY]; exact heap_new wr _
      have KY : ∀ (V : World), Below Y.heap.size Y V → V.heap[w.heap.size]? = some (.cells #[.int .i64 a, .int .i64 b] 47) ∧ V.heap[w.heap.size + 1]? = some (.cells #[.int .i64 M] 3) ∧ V.heap[w1.heap.size]? = some (.cells #[v] 48) ∧
          V.heap[w1.heap.size + 1]? = some (.cells #[.int .i64 T] 3) ∧ V.ownsRow (w1.heap.size + 2) 47 2 v ws.length (wCells ws) ∧ W.heap.size ≤ V.heap.size ∧ Below w.heap.size w V ∧ V.cell? ⟨wr.heap.size, 2, none⟩ = some (.int .i64 xa) := fun V hV => by
        have hV2 : Below wr.heap.size wr V := hBY.trans (hV.mono (by omega))
        have hz := hV2.size
        exact ⟨(hV2.block _ (by omega)).trans HB45.out.1, (hV2.block _ (by omega)).trans HB45.out.2, (hV2.block _ (by omega)).trans HBOA.out.1, (hV2.block _ (by omega)).trans HBOA.out.2, own_below HOWN.out hV2, by omega, HBL.out.trans (hV2.mono hszw),
          (hV.cell (p := ⟨wr.heap.size, 2, none⟩) (by show wr.heap.size < Y.heap.size; omega)).trans (cell_of_blk (j := 2) hyb rfl)⟩
      have KY := Lib.hid KY
      clear hY hBY hyb s0 s1 s2 s3 c0 c1
      by_cases hin : a ≤ xa ∧ xa < b
      · have HST := Lib.hid (show stops a b (l.take (k + 1)) = stops a b (l.take k) ++ [xa] by rw [HTK.out, stops_snoc, if_pos hin])
        have HWS := Lib.hid (show gaps M a (stops a b (l.take (k + 1))) = addW M T xa ws by rw [HST.out, gaps_snoc, ← HE.out.1, ← HE.out.2]; rfl)
        have HET := Lib.hid (show endS a (stops a b (l.take (k + 1))) = xa by rw [HST.out, endS_snoc])
        refine (in_yes a b xa Y hin.1 hin.2).mono ?_
        rintro e w3 ⟨rfl, hb3⟩
        have hs3 := hb3.size
        obtain ⟨p1, p2, p3, p4, p5, p6, p7, p8⟩ := KY.out w3 hb3
        have HSTEP := Lib.hid (gapStep_any w3 (w1.heap.size + 1) (w.heap.size + 1) w1.heap.size (w1.heap.size + 2) ws.length T M xa v ws p4 (cell_of_blk (j := 0) p2 rfl) p3 p5 rfl (by omega) (by omega) (by omega) (by omega) (by omega) (by omega) (by omega) (by omega) (by omega))
        have HP12 := Lib.hid (And.intro p1 p2)
        have HP7 := Lib.hid p7
        clear hb3 p1 p2 p3 p4 p5 p7 KY
        go_wp2_with (fail)
        refine HSTEP.out.mono ?_
        rintro e w4 ⟨rfl, v4, hst⟩
        have HS4 := Lib.hid hst
        have hs4 := hst.size
        clear hst p8
        go_wp2_with (fail)
        go_roundw
        case rel =>
          refine ⟨k + 1, v4, by omega, by go_num, ?_, ?_, HS4.out.out, ?_, ?_, by omega, HP7.out.trans (HS4.out.below _ (by omega) (by omega) (by omega))⟩
          · exact (HS4.out.kept _ (by omega) (by omega) (by omega)).trans HP12.out.1
          · exact (HS4.out.kept _ (by omega) (by omega) (by omega)).trans HP12.out.2
          · rw [HET.out]; exact HS4.out.at_
          · rw [HWS.out]; exact HS4.out.own
        case measure => simp [intOf]; omega
      · have HST := Lib.hid (show stops a b (l.take (k + 1)) = stops a b (l.take k) by rw [HTK.out, stops_snoc, if_neg hin, List.append_nil])
        refine (in_no a b xa Y (by omega)).mono ?_
        rintro e w3 ⟨rfl, hb3⟩
        have HK := Lib.hid (KY.out w3 hb3)
        clear hb3 KY
        go_wp2_with (fail)
        go_roundw
        case rel =>
          obtain ⟨p1, p2, p3, p4, p5, p6, p7, _⟩ := HK.out
          exact ⟨k + 1, v, by omega, by go_num, p1, p2, p3, by rw [HST.out, ← HE.out.1]; exact p4, by rw [HST.out, ← HE.out.2]; exact p5, p6, p7⟩
        case measure => simp [intOf]; omega
    · have hkn : k = n := by omega
      subst hkn
      have HT2 := Lib.hid (show l.take k = l by rw [List.take_of_length_le (by have := HN.out; omega)])
      have HWS := Lib.hid (show gapsOf M a b l = addW M T b ws by have h1 := HE.out.1; have h2 := HE.out.2; rw [HT2.out] at h1 h2; unfold gapsOf; rw [gaps_snoc, ← h1, ← h2]; rfl)
      have HSTEP := Lib.hid (gapStep_any wr (w1.heap.size + 1) (w.heap.size + 1) w1.heap.size (w1.heap.size + 2) ws.length T M b v ws HBOA.out.2 (cell_of_blk (j := 0) HB45.out.2 rfl) HBOA.out.1 HOWN.out rfl (by omega) (by omega) (by omega) (by omega) (by omega) (by omega) (by omega) (by omega) (by omega))
      go_wp2_with (fail)
      refine HSTEP.out.mono ?_
      rintro e w4 ⟨rfl, v4, hst⟩
      have HS4 := Lib.hid hst
      have q0 := cell_of_blk (j := 0) hst.out rfl
      obtain ⟨A4, c4, rfl⟩ := own_slice hst.own
      clear hst c0 c1
      go_wp2_with (fail)
      go_ret2
      refine ⟨_, rfl, ?_, HBL.out.trans (HS4.out.below _ (by omega) (by omega) (by omega))⟩
      rw [HWS.out]
      exact own_mono HS4.out.own (by omega)
end Go.Proofs.YtaglkaphlekmoaaGreatDoor
