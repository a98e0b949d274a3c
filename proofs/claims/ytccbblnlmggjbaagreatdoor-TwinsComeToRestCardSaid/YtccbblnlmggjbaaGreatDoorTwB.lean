/- twin.Owed of a right twin by its contract. -/
import Derived.Test.YtccbblnlmggjbaaGreatDoorTwA
import Derived.Test.YtccbblnlmggjbaaGreatDoorQp
import Derived.Deep.RegionHeld3
namespace Go.Proofs.YtccbblnlmggjbaaGreatDoor
open Go.RowKit

theorem tw_set {W V : World} {g1 g2 : Nat} (k1 n1 k2 n2 : Int) (f1 f2 : Bool) (s1 s2 : ByteArray) (hb : Below W.heap.size W V) (h1 : V.heap[g1]? = some (.cells #[.int .i64 0, .bool false, .int .i64 0, .string ⟨#[]⟩] 33 (0, 0))) (h2 : V.heap[g2]? = some (.cells #[.int .i64 0, .bool false, .int .i64 0, .string ⟨#[]⟩] 33 (0, 0))) (l1 : W.heap.size ≤ g1) (l2 : W.heap.size ≤ g2) (hne : g1 ≠ g2) :
    let U := (((((((V.setCell ⟨g1, 0, none⟩ (.int .i64 k1)).setCell ⟨g1, 1, none⟩ (.bool f1)).setCell ⟨g1, 2, none⟩ (.int .i64 n1)).setCell ⟨g1, 3, none⟩ (.string s1)).setCell ⟨g2, 0, none⟩ (.int .i64 k2)).setCell ⟨g2, 1, none⟩ (.bool f2)).setCell ⟨g2, 2, none⟩ (.int .i64 n2)).setCell ⟨g2, 3, none⟩ (.string s2)
    Below W.heap.size W U ∧ U.heap[g1]? = some (.cells #[.int .i64 k1, .bool f1, .int .i64 n1, .string s1] 33 (0, 0)) ∧ U.heap[g2]? = some (.cells #[.int .i64 k2, .bool f2, .int .i64 n2, .string s2] 33 (0, 0)) := by
  intro U
  refine ⟨(((((((hb.setCell l1 _).setCell l1 _).setCell l1 _).setCell l1 _).setCell l2 _).setCell l2 _).setCell l2 _).setCell l2 _, ?_, ?_⟩
  · simp [U, World.setCell, Array.getElem?_modify, h1, Ne.symm hne]
  · simp [U, World.setCell, Array.getElem?_modify, h2, hne]
def gnP (D : List Ce) (y : Ce) : Bool := !hasV y && !D.any (fun x => hdF x y)
theorem gn_take {l D : List Ce} {k : Nat} {y : Ce} (h : l[k]? = some y) : ((l.take (k + 1)).filter (gnP D)).map (·.1) = ((l.take k).filter (gnP D)).map (·.1) ++ (if gnP D y then [y.1] else []) := by
  rw [List.take_add_one, h, List.filter_append, List.map_append]
  congr 1
  simp only [Option.toList_some, List.filter_cons, List.filter_nil]
  split <;> rfl
def OwPost (D R : List Ce) (w : World) (e : Ending) (w' : World) : Prop :=
  ∃ A c n, e = .returned (.tuple #[.slice A n c, .int .i64 0]) ∧ (owL D R).length = n ∧ w'.ownsRow w.heap.size 112 9 (.slice A n c) n (recs chC (owL D R)) ∧ Below w.heap.size w w'
set_option maxRecDepth 100000 in
set_option maxHeartbeats 8000000 in
theorem owed_any (D R : List Ce) (n m c d : Nat) (A B : Option Addr) (w : World) (hD : CsOk D) (hR : CsOk R) (hn : D.length = n) (hm : R.length = m) (hn7 : n ≤ 100) (hm7 : m ≤ 100) (hra : Row w w.heap.size A (recs ceC D)) (hrb : Row w w.heap.size B (recs ceC R)) (hT : U8T w) :
    Calls Tryz.prog 17 #[.agg #[.slice A n c, .slice B m d]] w fun e w' => OwPost D R w e w' := by
  obtain ⟨i0, hi0, hz0, hz1, hz2⟩ := info_parts Tryz.infoCh
  obtain ⟨j0, hj0, hy0, hy1, hy2⟩ := info_parts Tryz.infoStrN
  have HRA := Lib.hid (fun V (hV : Below w.heap.size w V) => (hra.below hV).mono hV.size)
  have HRB := Lib.hid (fun V (hV : Below w.heap.size w V) => (hrb.below hV).mono hV.size)
  have HT := Lib.hid (fun V (hV : Below w.heap.size w V) => hT.below hV)
  have HD := Lib.hid hD
  have HR := Lib.hid hR
  have HN := Lib.hid hn
  have HM := Lib.hid hm
  have HGD := Lib.hid (viF_good hD)
  have HGR := Lib.hid (viF_good hR)
  have HFR := Lib.hid (owL_len D R)
  clear hra hrb hT hD hR hn hm
  go_enter Tryz.func17, Tryz.ntmps17
  go_upto_region 1 with (fail)
  obtain ⟨g0, eg0⟩ : ∃ g, g = w.heap.size := ⟨_, rfl⟩
  generalize hw0 : w.alloc (.cells #[.slice A n c, .slice B m d] 51) = w0
  have HB0 := Lib.hid (show Below w.heap.size w w0 from by rw [← hw0]; exact (Below.refl _ _).alloc (Nat.le_refl _) _)
  have hx0 : w0.heap[g0]? = some (.cells #[.slice A n c, .slice B m d] 51 (0, 0)) := by rw [← hw0, eg0]; exact heap_new w _
  have hg0 : g0 < w0.heap.size := (Array.getElem?_eq_some_iff.1 hx0).1
  rw [← eg0]
  clear hw0 eg0
  have HQ0 := Lib.hid (fun (V : World) (hV : Below w0.heap.size w0 V) => show V.cell? ⟨g0, 0, none⟩ = some (.slice A n c) ∧ V.cell? ⟨g0, 1, none⟩ = some (.slice B m d) from by
    have h1 := (hV.block g0 hg0).trans hx0
    exact ⟨cell_of_blk (j := 0) h1 rfl, cell_of_blk (j := 1) h1 rfl⟩)
  obtain ⟨q0, q1⟩ := HQ0.out w0 (Below.refl _ _)
  clear hx0
  go_wp2_with (fail)
  refine (twinFault_any D R n m c d A B w0 HD.out HR.out HN.out HM.out hn7 hm7 (HRA.out _ HB0.out) (HRB.out _ HB0.out) (HT.out _ HB0.out)).mono ?_
  rintro e w1 ⟨rfl, hb1⟩
  have HB1 := Lib.hid (HB0.out.trans (hb1.mono HB0.out.size))
  have HQ1 := Lib.hid (fun (V : World) (hV : Below w1.heap.size w1 V) => HQ0.out V (hb1.trans (hV.mono hb1.size)))
  clear q0 q1 hb1 HQ0
  obtain ⟨q0, q1⟩ := HQ1.out w1 (Below.refl _ _)
  have hg1 : g0 < w1.heap.size := World.block_lt_of_cell? w1 _ q0
  go_upto_region 4 with (fail)
  go_cut [5, 6] (fun s5 s6 wx => ∃ A5 c5 n5 A6 c6 n6, s5 = .slice A5 n5 c5 ∧ s6 = .slice A6 n6 c6 ∧ (viF D).length = n5 ∧ (viF R).length = n6 ∧ wx.ownsRow w1.heap.size 35 5 (.slice A5 n5 c5) n5 (recs prC (viF D)) ∧ wx.ownsRow w1.heap.size 35 5 (.slice A6 n6 c6) n6 (recs prC (viF R)) ∧ Below w1.heap.size w1 wx)
  case first =>
    have hB0 := (Below.refl w1.heap.size w1).drew
    have BU1 := Lib.hid (visibleS_any D n c A w1.drew HD.out HN.out hn7 (HRA.out _ (HB1.out.trans (hB0.mono HB1.out.size))))
    have BU2 := Lib.hid (fun V (hV : Below w1.heap.size w1 V) => visibleS_any R m d B V HR.out HM.out hm7 (HRB.out _ (HB1.out.trans (hV.mono HB1.out.size))))
    go_region_held3 (fun V => V.cell? ⟨g0, 0, none⟩ = some (.slice A n c) ∧ V.cell? ⟨g0, 1, none⟩ = some (.slice B m d))
      (first | go_keep | (exact hS))
      (first
        | (go_at_call 38; have hq := hBx; refine (BU2.out _ hq).mono ?_; rintro e wb ⟨A6, c6, n6, rfl, hl6, ho6, hb6⟩; have hBy := hq.trans (hb6.mono hq.size); have hS := HQ1.out wb hBy)
        | (go_at_call 38; refine BU1.out.mono ?_; rintro e wa ⟨A5, c5, n5, rfl, hl5, ho5, hb5⟩; have hBx := hB0.trans hb5; have hS := HQ1.out wa hBx))
    go_wp2_with (fail)
    go_meet
    exact ⟨A5, c5, n5, A6, c6, n6, rfl, rfl, hl5, hl6, own_belowP ho5 hb6, own_mono ho6 hBx.size, hBy⟩
  case rest =>
    obtain ⟨A5, c5, n5, A6, c6, n6, rfl, rfl, hl5, hl6, ho5, ho6, hb2⟩ := hcut
    obtain ⟨w2, e2⟩ : ∃ x, x = wc := ⟨_, rfl⟩
    subst e2
    have HB2 := Lib.hid (HB1.out.trans (hb2.mono HB1.out.size))
    have HQ2 := Lib.hid (fun (V : World) (hV : Below w2.heap.size w2 V) => HQ1.out V (hb2.trans (hV.mono hb2.size)))
    have HR5 := Lib.hid (fun V (hV : Below w2.heap.size w2 V) => ((own_row ho5).below hV).mono hV.size)
    have HR6 := Lib.hid (fun V (hV : Below w2.heap.size w2 V) => ((own_row ho6).below hV).mono hV.size)
    have HN5 := Lib.hid hl5
    have HN6 := Lib.hid hl6
    have hn57 : n5 ≤ 7 := by
      rw [← hl5, HGD.out.1.prs]
      exact Nat.le_trans (List.length_filterMap_le _ _) (by simp)
    have hn67 : n6 ≤ 7 := by
      rw [← hl6, HGR.out.1.prs]
      exact Nat.le_trans (List.length_filterMap_le _ _) (by simp)
    have hg2 : g0 < w2.heap.size := Nat.lt_of_lt_of_le hg1 hb2.size
    have HHD := Lib.hid (fun (y : Ce) (hy : y ∈ D) (V : World) (hV : Below w2.heap.size w2 V) => hidden_any D y n c A V (fun x hx => HD.out.2 x hx) (HD.out.2 y hy) HN.out (by omega) (HRA.out V (HB2.out.trans (hV.mono HB2.out.size))))
    clear q0 q1 hl5 hl6 ho5 ho6 hb2 HQ1
    obtain ⟨q0, q1⟩ := HQ2.out w2 (Below.refl _ _)
    go_wp2_with (fail)
    go_loopw [7, 29] (fun v s wr => ∃ (i k : Nat), i ≤ n ∧ s = .int .i64 (i : Int) ∧ (((D.take i).filter (gnP D)).map (·.1)).length = k ∧ k ≤ i ∧ wr.ownsRow w2.heap.size 9 1 v k (recs nmC (((D.take i).filter (gnP D)).map (·.1))) ∧ Below w2.heap.size w2 wr) (fun _ s _ => n - (intOf s).toNat)
    case atStart => exact ⟨0, 0, by omega, rfl, rfl, Nat.le_refl _, World.ownsRow_nil _ _ _ _, Below.refl _ _⟩
    case round =>
      obtain ⟨i, k, hin, rfl, hlm, hmi, hown, hbr⟩ := hrel
      have hbs := hbr.size
      have HB := Lib.hid hbr
      have HLM := Lib.hid hlm
      have HO := Lib.hid hown
      clear q0 q1
      by_cases hlt : i < n
      · have hltI : (i : Int) < n := by omega
        clear hown hbr hlm
        obtain ⟨y, hy⟩ : ∃ y, D[i]? = some y := ⟨_, List.getElem?_eq_getElem (by have := HN.out; omega)⟩
        obtain ⟨b, o, rfl, hb, hC⟩ := (HRA.out _ (HB2.out.trans (HB.out.mono HB2.out.size))).posR ceC_len (by omega) (by have := HN.out; omega)
        obtain ⟨c0, c1, c2, c3, c4, c5', c6', c7⟩ := ce_cells hC i y hy
        have HTK := Lib.hid (gn_take (D := D) hy)
        have HYM := Lib.hid (List.mem_of_getElem? hy)
        have HYV := Lib.hid (hasV_k (HD.out.2 y HYM.out).2)
        have HBA := Lib.hid (HB.out.alloc hbs (ceBlk y))
        have hgr : g0 < wr.heap.size := by omega
        have hgn : ¬ g0 = wr.heap.size := by omega
        obtain ⟨r0, r1⟩ := HQ2.out _ HBA.out
        unfold ceBlk at r0 r1
        clear hC hy
        by_cases hk : y.2.1.k = 0
        · have hk1 : (y.2.1.k == 0) = true := by simpa using hk
          have HHV := Lib.hid (show hasV y = false from by rw [HYV.out, decide_eq_true hk]; rfl)
          clear hk
          go_wp2_with (fail)
          refine (HHD.out y HYM.out _ HBA.out).mono ?_
          rintro e w3 ⟨rfl, hb3⟩
          have HB3 := Lib.hid (HBA.out.trans (hb3.mono HBA.out.size))
          have HO3 := Lib.hid (own_belowP (HO.out.alloc (ceBlk y)) hb3)
          have hyb : w3.heap[wr.heap.size]? = some (ceBlk y) := (hb3.block wr.heap.size (by simp)).trans (heap_new wr _)
          obtain ⟨y0, y1, y2, y3, y4, y5, y6, y7⟩ := ce_blk hyb
          obtain ⟨t, et⟩ : ∃ t, t = D.any (fun x => hdF x y) := ⟨_, rfl⟩
          rw [← et]
          have HVI := Lib.hid (show gnP D y = !t from by unfold gnP; rw [HHV.out, ← et]; rfl)
          clear hb3 hyb et c0 c1 c2 c3 c4 c5' c6' c7 hk1 r0 r1
          cases t
          · go_wp2_with (at_builtin; refine wpList_append_own2 _ rfl _ _ 105 rfl w2.heap.size 9 j0 _ 1 16 Tryz.underlying105 hj0 hy0 hy1 hy2 rfl (by decide) _ _ _ rfl (HO3.out.alloc _) ⟨_, 0, none⟩ 1 1 (nmC y.1) rfl rfl ?c1 ?c2 ?c3 ?c4 ?c5 ?_)
            case c1 => exact cells_add (cells_atF (by rfl) (by first | rfl | simp))
            case c2 => exact nmC_one _
            case c3 => unfold maxLen; omega
            case c4 => omega
            case c5 => have := HB3.out.size; first | omega | (simp; omega)
            intro v6 w6 ho6 hg6 hm6
            have hlo : ∀ q, u7.ownBlock = some q → w2.heap.size ≤ q := fun q hq => (HO3.out.lt q hq).1
            have HB6 := Lib.hid ((HB3.out.alloc HB3.out.size _).grown hg6 (by have := HB3.out.size; first | omega | (simp; omega)) hlo)
            have HO6 := Lib.hid ho6
            clear ho6 hg6 hm6 hlo
            go_wp2_with (fail)
            go_roundw
            case rel =>
              refine ⟨i + 1, k + 1, by omega, by simp, ?_, by omega, ?_, HB6.out⟩
              · rw [HTK.out, HVI.out]
                simp only [Bool.not_false, if_true, List.length_append, HLM.out, List.length_singleton]
              · rw [HTK.out, HVI.out]
                simp only [Bool.not_false, if_true, recs_snoc]
                exact HO6.out
            case measure => simp [intOf]; omega
          · go_wp2_with (fail)
            go_roundw
            case rel =>
              refine ⟨i + 1, k, by omega, by simp, ?_, by omega, ?_, HB3.out⟩
              · rw [HTK.out, HVI.out]; simpa using HLM.out
              · rw [HTK.out, HVI.out]
                simp only [Bool.not_true, Bool.false_eq_true, if_false, List.append_nil]
                exact HO3.out
            case measure => simp [intOf]; omega
        · have hk1 : (y.2.1.k == 0) = false := by simpa using hk
          have HVI := Lib.hid (show gnP D y = false from by unfold gnP; rw [HYV.out, decide_eq_false hk]; rfl)
          clear hk
          have HOa := Lib.hid (HO.out.alloc (ceBlk y))
          go_wp2_with (fail)
          go_roundw
          case rel =>
            refine ⟨i + 1, k, by omega, by simp, ?_, by omega, ?_, HBA.out⟩
            · rw [HTK.out, HVI.out]; simpa using HLM.out
            · rw [HTK.out, HVI.out]
              simp only [Bool.false_eq_true, if_false, List.append_nil]
              exact HOa.out
          case measure => simp [intOf]; omega
      · have hltI : ¬ (i : Int) < n := by omega
        have hin' : i = n := by omega
        subst hin'
        obtain ⟨A7, c7, rfl⟩ := own_slice hown
        have htk : ((D.take i).filter (gnP D)).map (·.1) = gnF D := by
          rw [List.take_of_length_le (by rw [HN.out]; exact Nat.le_refl _)]
          rfl
        rw [htk] at hown hlm
        obtain ⟨w3, e3⟩ : ∃ x, x = wr := ⟨_, rfl⟩
        subst e3
        have HB3 := Lib.hid (HB2.out.trans (hbr.mono HB2.out.size))
        have HN7 := Lib.hid hlm
        have HR7 := Lib.hid (fun V (hV : Below w3.heap.size w3 V) => ((own_row hown).below hV).mono hV.size)
        have HG7 := Lib.hid (fun x (hx : x ∈ gnF D) => show x < 7 from by
          unfold gnF at hx
          rw [List.mem_map] at hx
          obtain ⟨y, hy, rfl⟩ := hx
          exact (HD.out.2 y (List.mem_filter.1 hy).1).1)
        have HR5' := Lib.hid (fun V (hV : Below w3.heap.size w3 V) => HR5.out V (hbr.trans (hV.mono hbs)))
        have HR6' := Lib.hid (fun V (hV : Below w3.heap.size w3 V) => HR6.out V (hbr.trans (hV.mono hbs)))
        have hk100 : k ≤ 100 := by omega
        have hs3 := HB3.out.size
        clear hown hbr hlm htk HLM HB HO HR5 HR6 HHD HQ2
        go_wp2_with (fail)
        obtain ⟨W, hW⟩ : ∃ W, W = w3.alloc (.cells #[.slice A5 n5 c5, .slice A6 n6 c6] 41) := ⟨_, rfl⟩
        have HBW := Lib.hid (show Below w3.heap.size w3 W from by rw [hW]; exact (Below.refl _ _).alloc (Nat.le_refl _) _)
        have hWc : Cells W w3.heap.size 0 [.slice A5 n5 c5, .slice A6 n6 c6] := by rw [hW]; exact cells_atF rfl rfl
        have HLS := Lib.hid (show LsAt W w3.heap.size [viF D, viF R] from by
          intro k l hk
          match k, hk with
          | 0, hk => cases hk; exact ⟨A5, c5, by have := hWc 0 _ rfl; simpa [HN5.out] using this, HR5'.out _ HBW.out⟩
          | 1, hk => cases hk; exact ⟨A6, c6, by have := hWc 1 _ rfl; simpa [HN6.out] using this, HR6'.out _ HBW.out⟩)
        rw [← hW]
        clear hW hWc
        refine (names_any W _ 2 2 [viF D, viF R] rfl (by omega) (fun l hl => by simp at hl; rcases hl with rfl | rfl; exact HGD.out.1; exact HGR.out.1) (fun l hl => by simp at hl; rcases hl with rfl | rfl; rw [HN5.out]; omega; rw [HN6.out]; omega) HLS.out).mono ?_
        rintro e w4 ⟨An, cn, rfl, ho4, hb4⟩
        have HB4' := Lib.hid (HBW.out.trans (hb4.mono HBW.out.size))
        have HB4 := Lib.hid (HB3.out.trans (HB4'.out.mono hs3))
        obtain ⟨R0, eR⟩ : ∃ R0, R0 = nmsF [viF D, viF R] := ⟨_, rfl⟩
        rw [← eR] at ho4 ⊢
        have HRR := Lib.hid eR
        have hR7 := Lib.hid (fun i (hi : i ∈ R0) => ((mem_nmsF [viF D, viF R] i).1 (eR ▸ hi)).1)
        obtain ⟨N, eN⟩ : ∃ N, N = R0.length := ⟨_, rfl⟩
        rw [← eN] at ho4 ⊢
        have HNN := Lib.hid eN
        have HROWN := Lib.hid (own_row ho4)
        have HR7' := Lib.hid (fun V (hV : Below w4.heap.size w4 V) => HR7.out V (HB4'.out.trans (hV.mono HB4'.out.size)))
        have HR5x := Lib.hid (fun V (hV : Below w4.heap.size w4 V) => HR5'.out V (HB4'.out.trans (hV.mono HB4'.out.size)))
        have HR6x := Lib.hid (fun V (hV : Below w4.heap.size w4 V) => HR6'.out V (HB4'.out.trans (hV.mono HB4'.out.size)))
        have hs4 := HB4.out.size
        have hN7 : N ≤ 7 := by
          rw [HNN.out, HRR.out]
          exact Nat.le_trans (List.length_filter_le _ _) (by simp)
        clear ho4 hb4 eR eN HLS HBW HR7 HR5' HR6' HB4'
        go_wp2_with (fail)
        go_loopw [10, 57] (fun v s wr => ∃ i : Nat, i ≤ N ∧ s = .int .i64 (i : Int) ∧ wr.ownsRow w4.heap.size 112 9 v ((R0.take i).filterMap (owG D (viF R))).length (recs chC ((R0.take i).filterMap (owG D (viF R)))) ∧ Below w4.heap.size w4 wr) (fun _ s _ => N - (intOf s).toNat)
        case atStart => exact ⟨0, by omega, rfl, World.ownsRow_nil _ _ _ _, Below.refl _ _⟩
        case round =>
          obtain ⟨i, hiN, rfl, hown, hbr⟩ := hrel
          have hbs := hbr.size
          have HB := Lib.hid hbr
          have HO := Lib.hid hown
          by_cases hlt : i < N
          · have hltI : (i : Int) < N := by omega
            clear hown hbr
            obtain ⟨x, hx⟩ : ∃ x, R0[i]? = some x := ⟨_, List.getElem?_eq_getElem (by have := HNN.out; omega)⟩
            have hx7 := hR7.out x (List.mem_of_getElem? hx)
            obtain ⟨bn, on, rfl, hbn, hCn⟩ := (HROWN.out.below HB.out).posR nmC_len (by omega) (by have := HNN.out; omega)
            have n0 := nm_cell hCn i x hx
            have HX := Lib.hid hx
            clear hCn hx
            go_upto_region 16 with (fail)
            obtain ⟨gn, egn⟩ : ∃ g, g = wr.heap.size := ⟨_, rfl⟩
            generalize hWn : wr.alloc (.cells #[.string (nm x)] 9) = Wn
            have HBn := Lib.hid (show Below w4.heap.size w4 Wn from by rw [← hWn]; exact HB.out.alloc hbs _)
            have HOn := Lib.hid (show Wn.ownsRow w4.heap.size 112 9 u10 _ _ from by rw [← hWn]; exact HO.out.alloc _)
            have hgn : Wn.heap[gn]? = some (.cells #[.string (nm x)] 9 (0, 0)) := by rw [← hWn, egn]; exact heap_new wr _
            have hgs : gn < Wn.heap.size := (Array.getElem?_eq_some_iff.1 hgn).1
            rw [← egn]
            clear hWn egn n0
            have HGN := Lib.hid (fun V (hV : Below Wn.heap.size Wn V) => show V.cell? ⟨gn, 0, none⟩ = some (.string (nm x)) from cell_of_blk (j := 0) ((hV.block gn hgs).trans hgn) rfl)
            obtain ⟨⟨k1, f1, n1, s1⟩, e1⟩ : ∃ v, v = vo (viF R) x := ⟨_, rfl⟩
            obtain ⟨⟨k2, f2, n2, s2⟩, e2⟩ : ∃ v, v = vo (viF D) x := ⟨_, rfl⟩
            have HV1 := Lib.hid (fun V (hV : Below Wn.heap.size Wn V) => valueOf_any (viF R) n6 c6 x A6 V HGR.out.1 HN6.out (by omega) hx7 (HR6x.out V (HBn.out.trans (hV.mono HBn.out.size))))
            have HV2 := Lib.hid (fun V (hV : Below Wn.heap.size Wn V) => valueOf_any (viF D) n5 c5 x A5 V HGD.out.1 HN5.out (by omega) hx7 (HR5x.out V (HBn.out.trans (hV.mono HBn.out.size))))
            rw [← e1] at HV1
            rw [← e2] at HV2
            simp only at HV1 HV2
            have HE := Lib.hid (And.intro e1 e2)
            clear e1 e2 hgn
            refine qRegionPt 8 [.slice A6 n6 c6, .string (nm x), .agg #[.int .i64 k1, .bool f1, .int .i64 n1, .string s1], .slice A5 n5 c5, .string (nm x), .agg #[.int .i64 k2, .bool f2, .int .i64 n2, .string s2], undef, undef] [none, none, none, none, none, none, some (.cells #[.int .i64 0, .bool false, .int .i64 0, .string ⟨#[]⟩] 33), some (.cells #[.int .i64 0, .bool false, .int .i64 0, .string ⟨#[]⟩] 33)] (by kernel_rfl) (by kernel_rfl) rfl rfl (by rfl) ?_ ?_
            · simp only [List.take_succ_cons, List.take_zero, putL, Act.put, List.setIfInBounds_toArray, List.set_cons_zero, List.set_cons_succ]
              refine ⟨?_, ?_, ?_, ?_, ?_, ?_, ?_, ?_, trivial⟩
              · exact fun V hV => .inl (by go_simp)
              · exact fun V hV => .inl (by have h := HGN.out V hV; go_simp)
              · exact fun V hV => .inr ⟨_, _, (by go_simp <;> exact ⟨rfl, rfl⟩), HV1.out V hV⟩
              · exact fun V hV => .inl (by go_simp)
              · exact fun V hV => .inl (by have h := HGN.out V hV; go_simp)
              · exact fun V hV => .inr ⟨_, _, (by go_simp <;> exact ⟨rfl, rfl⟩), HV2.out V hV⟩
              · exact fun V => by go_simp
              · exact fun V => by go_simp
            · intro G W5 hb5 hG
              obtain ⟨h1a, h1b⟩ := hG.1 6 _ rfl
              obtain ⟨h2a, h2b⟩ := hG.1 7 _ rfl
              have hne := hG.2 6 7 _ _ rfl rfl (by decide)
              simp only [List.take_succ_cons, List.take_zero, List.drop_succ_cons, List.drop_zero, putL, putG, Act.put, List.setIfInBounds_toArray, List.set_cons_zero, List.set_cons_succ, Nat.zero_add, Nat.reduceAdd]
              generalize G 6 = g1 at h1a h1b hne ⊢
              generalize G 7 = g2 at h2a h2b hne ⊢
              have HTS := Lib.hid (tw_set k1 n1 k2 n2 f1 f2 s1 s2 hb5 h1b h2b h1a h2a hne)
              have z0 := cell_of_blk (j := 0) h1b rfl
              have z1 := cell_of_blk (j := 1) h1b rfl
              have z2 := cell_of_blk (j := 2) h1b rfl
              have z3 := cell_of_blk (j := 3) h1b rfl
              have v0 := cell_of_blk (j := 0) h2b rfl
              have v1 := cell_of_blk (j := 1) h2b rfl
              have v2 := cell_of_blk (j := 2) h2b rfl
              have v3 := cell_of_blk (j := 3) h2b rfl
              have fr : ∀ j, W5.frozen? ⟨g1, j, none⟩ = false := by intro j; simp [World.frozen?, h1b]
              have fs : ∀ j, W5.frozen? ⟨g2, j, none⟩ = false := by intro j; simp [World.frozen?, h2b]
              have fr0 := fr 0
              have fr1 := fr 1
              have fr2 := fr 2
              have fr3 := fr 3
              have fs0 := fs 0
              have fs1 := fs 1
              have fs2 := fs 2
              have fs3 := fs 3
              have hne' : ¬ g1 = g2 := hne
              have hne2 : ¬ g2 = g1 := Ne.symm hne
              clear fr fs h1b h2b hne hG
              go_upto_region 17 with (fail)
              generalize hWz : (((((((W5.setCell ⟨g1, 0, none⟩ (.int .i64 k1)).setCell ⟨g1, 1, none⟩ (.bool f1)).setCell ⟨g1, 2, none⟩ (.int .i64 n1)).setCell ⟨g1, 3, none⟩ (.string s1)).setCell ⟨g2, 0, none⟩ (.int .i64 k2)).setCell ⟨g2, 1, none⟩ (.bool f2)).setCell ⟨g2, 2, none⟩ (.int .i64 n2)).setCell ⟨g2, 3, none⟩ (.string s2) = Wz at HTS ⊢
              have HBz := Lib.hid HTS.out.1
              have hz1s : g1 < Wz.heap.size := (Array.getElem?_eq_some_iff.1 HTS.out.2.1).1
              have hz2s : g2 < Wz.heap.size := (Array.getElem?_eq_some_iff.1 HTS.out.2.2).1
              have HQz := Lib.hid (fun (V : World) (hV : Below Wz.heap.size Wz V) => show (V.cell? ⟨gn, 0, none⟩ = some (.string (nm x)) ∧ V.cell? ⟨g1, 0, none⟩ = some (.int .i64 k1) ∧ V.cell? ⟨g1, 1, none⟩ = some (.bool f1) ∧ V.cell? ⟨g1, 2, none⟩ = some (.int .i64 n1) ∧ V.cell? ⟨g1, 3, none⟩ = some (.string s1)) ∧ V.cell? ⟨g2, 0, none⟩ = some (.int .i64 k2) ∧ V.cell? ⟨g2, 1, none⟩ = some (.bool f2) ∧ V.cell? ⟨g2, 2, none⟩ = some (.int .i64 n2) ∧ V.cell? ⟨g2, 3, none⟩ = some (.string s2) from by
                have hx1 := (hV.block g1 hz1s).trans HTS.out.2.1
                have hx2 := (hV.block g2 hz2s).trans HTS.out.2.2
                exact ⟨⟨HGN.out V (HBz.out.trans (hV.mono HBz.out.size)), cell_of_blk (j := 0) hx1 rfl, cell_of_blk (j := 1) hx1 rfl, cell_of_blk (j := 2) hx1 rfl, cell_of_blk (j := 3) hx1 rfl⟩, cell_of_blk (j := 0) hx2 rfl, cell_of_blk (j := 1) hx2 rfl, cell_of_blk (j := 2) hx2 rfl, cell_of_blk (j := 3) hx2 rfl⟩)
              have hgz : gn < Wz.heap.size := by have := HBz.out.size; omega
              have HOz := Lib.hid (own_belowP HOn.out HBz.out)
              have HBnz := Lib.hid (HBn.out.trans (HBz.out.mono HBn.out.size))
              have HGH := Lib.hid (fun V (hV : Below Wz.heap.size Wz V) h => gnHas_any (gnF D) x gn k c7 A7 V HG7.out HN7.out (by omega) (HR7'.out V (HBnz.out.trans (hV.mono HBnz.out.size))) hx7 h (by have := hV.size; omega))
              have HWH := Lib.hid (fun V (hV : Below Wz.heap.size Wz V) h => wbHas_any (viF D) x gn n5 c5 A5 V (fun p hp => (HGD.out.1.2 p hp).1) HN5.out (by omega) (HR5x.out V (HBnz.out.trans (hV.mono HBnz.out.size))) hx7 h (by have := hV.size; omega))
              have HOWN := Lib.hid (show owN D x = ((gnF D).any (fun s => decide (s = x) || blN x s) || (viF D).any (fun p => blN p.1 x)) from rfl)
              obtain ⟨t1, et1⟩ : ∃ t, t = (gnF D).any (fun s => decide (s = x) || blN x s) := ⟨_, rfl⟩
              obtain ⟨t2, et2⟩ : ∃ t, t = (viF D).any (fun p => blN p.1 x) := ⟨_, rfl⟩
              rw [← et1] at HGH HOWN
              rw [← et2] at HWH HOWN
              clear hWz z0 z1 z2 z3 v0 v1 v2 v3 fr0 fr1 fr2 fr3 fs0 fs1 fs2 fs3 et1 et2 hb5 HTS
              go_cut [81] (fun s wx => ∃ t : Bool, s = .bool t ∧ (t = true ↔ (k2 = 0 ∧ owN D x = false)) ∧ Below Wz.heap.size Wz wx)
              case first =>
                obtain ⟨⟨n0, x0, x1, x2, x3⟩, y0, y1, y2, y3⟩ := HQz.out Wz (Below.refl _ _)
                by_cases hk2 : k2 = 0
                · have hk2b : (k2 == 0) = true := by simpa using hk2
                  have hgo : Below Wz.heap.size Wz Wz := Below.refl _ _
                  have HK2 := Lib.hid hk2
                  clear hk2
                  go_wp2_with (fail)
                  refine (HGH.out Wz hgo n0).mono ?_
                  rintro e w6 ⟨rfl, hb6⟩
                  have HB6 := Lib.hid hb6
                  clear hb6 n0 x0 x1 x2 x3 y0 y1 y2 y3 hgo
                  obtain ⟨⟨n0, x0, x1, x2, x3⟩, y0, y1, y2, y3⟩ := HQz.out w6 HB6.out
                  cases t1
                  · go_wp2_with (fail)
                    refine (HWH.out w6 HB6.out n0).mono ?_
                    rintro e w7 ⟨rfl, hb7⟩
                    have HB7 := Lib.hid (HB6.out.trans (hb7.mono HB6.out.size))
                    clear hb7
                    go_wp2_with (fail)
                    go_meet
                    refine ⟨_, rfl, ?_, HB7.out⟩
                    rw [HOWN.out]
                    have := HK2.out
                    cases t2 <;> simp [this]
                  · go_wp2_with (fail)
                    go_meet
                    refine ⟨_, rfl, ?_, HB6.out⟩
                    rw [HOWN.out]
                    simp
                · have hk2b : (k2 == 0) = false := by simpa using hk2
                  have HK2 := Lib.hid hk2
                  clear hk2
                  go_wp2_with (fail)
                  go_meet
                  refine ⟨_, rfl, ?_, Below.refl _ _⟩
                  have := HK2.out
                  simp [this]
              case rest =>
                obtain ⟨t, rfl, ht, hb6⟩ := hcut
                obtain ⟨w6, e6⟩ : ∃ y, y = wc := ⟨_, rfl⟩
                subst e6
                have HK0 := Lib.hid (show k2 = 0 ↔ vo (viF D) x = pvNone from by
                  rcases HGD.out.1.vo x with h | h
                  · have h2 := h
                    rw [← HE.out.2] at h2
                    injection h2 with h3
                    exact iff_of_true h3 h
                  · have h2 := h.kne
                    rw [← HE.out.2] at h2
                    exact iff_of_false h2 h.ne)
                have hs6 := hb6.size
                have HB6 := Lib.hid hb6
                have HBn6 := Lib.hid (HBnz.out.trans (hb6.mono HBnz.out.size))
                have HO6 := Lib.hid (own_belowP HOz.out hb6)
                have HTK := Lib.hid (show R0.take (i + 1) = R0.take i ++ [x] from by rw [List.take_add_one, HX.out]; rfl)
                have hlen : (List.filterMap (owG D (viF R)) (R0.take i)).length ≤ 7 := by
                  refine Nat.le_trans (List.length_filterMap_le _ _) ?_
                  rw [List.length_take]; omega
                cases t
                · have HT2 := Lib.hid (show ¬ (vo (viF D) x = pvNone ∧ owN D x = false) from by rw [← HK0.out]; intro h; have := ht.2 h; cases this)
                  obtain ⟨⟨n0, x0, x1, x2, x3⟩, y0, y1, y2, y3⟩ := HQz.out w6 HB6.out
                  clear ht hb6
                  go_upto_region 18 with (fail)
                  go_cut [84] (fun s wx => ∃ t : Bool, s = .bool t ∧ (t = true ↔ ¬ (Pv.mk k1 f1 n1 s1 = Pv.mk k2 f2 n2 s2)) ∧ wx = w6)
                  case first =>
                    go_wp2_with (fail)
                    all_goals go_meet
                    all_goals first
                      | exact ⟨true, rfl, by simp_all [toList_same], rfl⟩
                      | exact ⟨false, rfl, by simp_all [toList_same], rfl⟩
                  case rest =>
                    obtain ⟨t, rfl, ht, rfl⟩ := hcut
                    cases t
                    · have HG := Lib.hid (show owG D (viF R) x = none from by
                        unfold owG dfG
                        rw [if_neg HT2.out, ← HE.out.1, ← HE.out.2, if_pos (by simpa using ht)])
                      clear ht
                      go_wp2_with (fail)
                      go_roundw
                      case rel =>
                        refine ⟨i + 1, by omega, by simp, ?_, HBn6.out⟩
                        rw [HTK.out, List.filterMap_append, show List.filterMap (owG D (viF R)) [x] = [] by simp [HG.out], List.append_nil]
                        exact HO6.out
                      case measure => simp [intOf]; omega
                    · have HG := Lib.hid (show owG D (viF R) x = some (x, ⟨k1, f1, n1, s1⟩, ⟨k2, f2, n2, s2⟩) from by
                        unfold owG dfG
                        rw [if_neg HT2.out, ← HE.out.1, ← HE.out.2, if_neg (by simpa using ht)])
                      clear ht
                      go_wp2_with (at_builtin; refine wpList_append_own2 _ rfl _ _ 53 rfl w4.heap.size 112 i0 _ 9 96 Tryz.underlying53 hi0 hz0 hz1 hz2 rfl (by decide) _ _ _ rfl (HO6.out.alloc _) ⟨wc.heap.size, 0, none⟩ 1 1 (chC (x, ⟨k1, f1, n1, s1⟩, ⟨k2, f2, n2, s2⟩)) rfl rfl ?c1 ?c2 ?c3 ?c4 ?c5 ?_)
                      case c1 => exact cells_add (Cells.new wc _ _ _ _ rfl)
                      case c2 => exact chC_one _
                      case c3 => unfold maxLen; omega
                      case c4 => omega
                      case c5 => have := HBn6.out.size; simp; omega
                      intro v8 w8 ho8 hg8 hm8
                      have hlo : ∀ q, u10.ownBlock = some q → w4.heap.size ≤ q := fun q hq => (HO6.out.lt q hq).1
                      have HB8 := Lib.hid ((HBn6.out.alloc HBn6.out.size _).grown hg8 (by have := HBn6.out.size; simp; omega) hlo)
                      have HO8 := Lib.hid ho8
                      clear ho8 hg8 hm8 hlo
                      go_wp2_with (fail)
                      go_roundw
                      case rel =>
                        refine ⟨i + 1, by omega, by simp, ?_, HB8.out⟩
                        rw [HTK.out, List.filterMap_append, show List.filterMap (owG D (viF R)) [x] = [(x, ⟨k1, f1, n1, s1⟩, ⟨k2, f2, n2, s2⟩)] by simp [HG.out], recs_snoc, List.length_append, List.length_singleton]
                        exact HO8.out
                      case measure => simp [intOf]; omega
                · have HG := Lib.hid (show owG D (viF R) x = none from by
                    unfold owG
                    rw [if_pos (by have := ht.1 rfl; rw [HK0.out] at this; exact this)])
                  clear ht hb6
                  go_wp2_with (fail)
                  go_roundw
                  case rel =>
                    refine ⟨i + 1, by omega, by simp, ?_, HBn6.out⟩
                    rw [HTK.out, List.filterMap_append, show List.filterMap (owG D (viF R)) [x] = [] by simp [HG.out], List.append_nil]
                    exact HO6.out
                  case measure => simp [intOf]; omega
          · have hltI : ¬ (i : Int) < N := by omega
            have hiN' : i = N := by omega
            subst hiN'
            obtain ⟨Ad, cd, rfl⟩ := own_slice hown
            have hfin : (R0.take i).filterMap (owG D (viF R)) = owL D R := by
              rw [List.take_of_length_le (by rw [HNN.out]; exact Nat.le_refl _), HRR.out]
              rfl
            rw [hfin] at hown ⊢
            have HF := Lib.hid (show OwPost D R w (.returned (.tuple #[.slice Ad (owL D R).length cd, .int .i64 0])) wr from ⟨Ad, cd, _, rfl, rfl, own_mono hown hs4, HB4.out.trans (hbr.mono hs4)⟩)
            clear hown hbr hfin
            go_wp2_with (fail)
            go_ret2
            exact HF.out
end Go.Proofs.YtccbblnlmggjbaaGreatDoor
