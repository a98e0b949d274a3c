/- twin.Compact of right cells by its contract. Printed by gen_CeY.py. -/
import Derived.Test.YtkcpfppjdjkjeaaGreatDoorCeX
import Derived.Test.YtkcpfppjdjkjeaaGreatDoorMgA
namespace Go.Proofs.YtkcpfppjdjkjeaaGreatDoor
open Go.RowKit

theorem fl_take {l : List Ce} {f : Ce → Bool} {k : Nat} {y : Ce} (h : l[k]? = some y) : (l.take (k + 1)).filter f = (l.take k).filter f ++ (if f y then [y] else []) := by
  rw [List.take_add_one, h, List.filter_append]
  congr 1
  simp only [Option.toList_some, List.filter_cons, List.filter_nil]
def CoPost (l : List Ce) (t0 : Int) (w : World) (e : Ending) (w' : World) : Prop :=
  ∃ A c n, e = .returned (.tuple #[.slice A n c, .int .i64 0]) ∧ (cpL l t0).length = n ∧ w'.ownsRow w.heap.size 41 8 (.slice A n c) n (recs ceC (cpL l t0)) ∧ Below w.heap.size w w'
set_option maxRecDepth 100000 in
set_option maxHeartbeats 8000000 in
theorem compact_any (l : List Ce) (t0 : Int) (n c : Nat) (A : Option Addr) (w : World) (hl : CsOk l) (hn : l.length = n) (hn7 : n ≤ 100) (hr : Row w w.heap.size A (recs ceC l)) (ht0 : 0 ≤ t0) (ht1 : t0 ≤ 100) (hT : U8T w) :
    Calls Tryz.prog 8 #[.slice A n c, .int .i64 t0] w fun e w' => CoPost l t0 w e w' := by
  obtain ⟨i0, hi0, hz0, hz1, hz2⟩ := info_parts Tryz.infoCe
  have HR := Lib.hid (fun V (hV : Below w.heap.size w V) => (hr.below hV).mono hV.size)
  have HL := Lib.hid hl
  have HN := Lib.hid hn
  have HC := Lib.hid (fun V (hV : Below w.heap.size w V) => checkCells_any l n c A V hl hn hn7 ((hr.below hV).mono hV.size) (hT.below hV))
  have HH := Lib.hid (fun (y : Ce) (hy : y ∈ l) (gt : Nat) (V : World) (hV : Below w.heap.size w V) (h1 : V.cell? ⟨gt, 0, none⟩ = some (.int .i64 t0)) (h2 : gt < V.heap.size) => hiddenO_any l y t0 n c gt A V (fun x hx => hl.2 x hx) (hl.2 y hy) hn (by omega) ((hr.below hV).mono hV.size) h1 h2)
  clear hr hl hn hT
  go_enter Tryz.func8, Tryz.ntmps8
  go_upto_region 1 with (fail)
  have hA0 := Lib.hid ((Below.refl w.heap.size w).alloc (Nat.le_refl _) (.cells #[.int .i64 t0] 3))
  have hX0 := heap_new w (.cells #[.int .i64 t0] 3)
  generalize hw0 : w.alloc (.cells #[.int .i64 t0] 3) = w0 at hA0 hX0 ⊢
  have hs0 : w.heap.size < w0.heap.size := by rw [← hw0]; simp
  clear hw0
  go_wp2_with (fail)
  refine (HC.out _ hA0.out).mono ?_
  rintro e w1 ⟨rfl, hb1⟩
  have hs1 := hb1.size
  have HB1 := Lib.hid (hA0.out.trans (hb1.mono hA0.out.size))
  have hX1 : w1.heap[w.heap.size]? = some (.cells #[.int .i64 t0] 3 (0, 0)) := (hb1.block _ (by omega)).trans hX0
  have ht1c : w1.cell? ⟨w.heap.size, 0, none⟩ = some (.int .i64 t0) := cell_of_blk (j := 0) hX1 rfl
  have hs1' : w.heap.size < w1.heap.size := by omega
  clear hb1 hX0 hX1 HC hA0
  go_wp2_with (go_at_call 33; refine (out_no _ _ _ _ (by omega) (by omega)).mono ?_; rintro e w' ⟨rfl, rfl⟩)
  have HT0 := Lib.hid (fun V (hV : Below w1.heap.size w1 V) => show V.cell? ⟨w.heap.size, 0, none⟩ = some (.int .i64 t0) ∧ w.heap.size < V.heap.size from ⟨(hV.cell (p := ⟨w.heap.size, 0, none⟩) hs1').trans ht1c, by have := hV.size; omega⟩)
  clear ht1c
  go_loopw [8, 25] (fun v s wr => ∃ (i m : Nat), i ≤ n ∧ s = .int .i64 (i : Int) ∧ ((l.take i).filter (fun y => !hidO l t0 y)).length = m ∧ m ≤ i ∧ wr.ownsRow w1.heap.size 41 8 v m (recs ceC ((l.take i).filter (fun y => !hidO l t0 y))) ∧ Below w1.heap.size w1 wr) (fun _ s _ => n - (intOf s).toNat)
  case atStart => exact ⟨0, 0, by omega, rfl, rfl, Nat.le_refl _, World.ownsRow_nil _ _ _ _, Below.refl _ _⟩
  case round =>
    obtain ⟨i, m, hin, rfl, hlm, hmi, hown, hbr⟩ := hrel
    have hbs := hbr.size
    have HB := Lib.hid hbr
    have HLM := Lib.hid hlm
    have HO := Lib.hid hown
    by_cases hlt : i < n
    · have hltI : (i : Int) < n := by omega
      clear hown hbr hlm
      obtain ⟨y, hy⟩ : ∃ y, l[i]? = some y := ⟨_, List.getElem?_eq_getElem (by have := HN.out; omega)⟩
      have HBw := Lib.hid (HB1.out.trans (HB.out.mono HB1.out.size))
      obtain ⟨b, o, rfl, hb, hC⟩ := (HR.out _ HBw.out).posR ceC_len (by omega) (by have := HN.out; omega)
      obtain ⟨c0, c1, c2, c3, c4, c5, c6, c7⟩ := ce_cells hC i y hy
      have HTK := Lib.hid (fl_take (f := fun y => !hidO l t0 y) hy)
      have HYM := Lib.hid (List.mem_of_getElem? hy)
      have HBA := Lib.hid (HB.out.alloc hbs (ceBlk y))
      have HBB := Lib.hid (HB1.out.trans (HBA.out.mono HB1.out.size))
      clear hC hy
      go_wp2_with (fail)
      refine (HH.out y HYM.out w.heap.size _ HBB.out (HT0.out _ HBA.out).1 (HT0.out _ HBA.out).2).mono ?_
      rintro e w2 ⟨rfl, hb2⟩
      have hs2 := hb2.size
      simp only [World.size_alloc] at hs2
      have HB2 := Lib.hid (HBA.out.trans (hb2.mono HBA.out.size))
      have HBw2 := Lib.hid (HBB.out.trans (hb2.mono HBB.out.size))
      have HO1 := Lib.hid (own_belowP (HO.out.alloc (ceBlk y)) hb2)
      have hyb : w2.heap[wr.heap.size]? = some (ceBlk y) := (hb2.block wr.heap.size (by simp)).trans (heap_new wr _)
      obtain ⟨y0, y1, y2, y3, y4, y5, y6, y7⟩ := ce_blk hyb
      obtain ⟨t, et⟩ : ∃ t, t = l.any (fun x => hdF x y && oldC t0 x) := ⟨_, rfl⟩
      rw [← et]
      have HVI := Lib.hid (show hidO l t0 y = t from et.symm)
      clear hb2 hyb et c0 c1 c2 c3 c4 c5 c6 c7
      cases t
      · go_wp2_with (at_builtin; refine wpList_append_own2 _ rfl _ _ 26 rfl w1.heap.size 41 i0 _ 8 88 Tryz.underlying26 hi0 hz0 hz1 hz2 rfl (by decide) _ _ _ rfl (HO1.out.alloc _) ⟨_, 0, none⟩ 1 1 (ceC y) rfl rfl ?c1 ?c2 ?c3 ?c4 ?c5 ?_)
        case c1 => exact cells_add (cells_atF (by rfl) (by first | rfl | simp))
        case c2 => exact ceC_one _
        case c3 => unfold maxLen; omega
        case c4 => omega
        case c5 => have := HB2.out.size; first | omega | (simp; omega)
        intro v6 w6 ho6 hg6 hm6
        have hlo : ∀ q, u8.ownBlock = some q → w1.heap.size ≤ q := fun q hq => (HO1.out.lt q hq).1
        have HB6 := Lib.hid ((HB2.out.alloc HB2.out.size _).grown hg6 (by have := HB2.out.size; first | omega | (simp; omega)) hlo)
        have HO6 := Lib.hid ho6
        clear ho6 hg6 hm6 hlo
        go_wp2_with (fail)
        go_roundw
        case rel =>
          refine ⟨i + 1, m + 1, by omega, by simp, ?_, by omega, ?_, HB6.out⟩
          · rw [HTK.out, HVI.out]
            simp only [Bool.not_false, if_true, List.length_append, HLM.out, List.length_singleton]
          · rw [HTK.out, HVI.out]
            simp only [Bool.not_false, if_true, recs_snoc]
            exact HO6.out
        case measure => simp [intOf]; omega
      · go_wp2_with (fail)
        go_roundw
        case rel =>
          refine ⟨i + 1, m, by omega, by simp, ?_, by omega, ?_, HB2.out⟩
          · rw [HTK.out, HVI.out]; simpa using HLM.out
          · rw [HTK.out, HVI.out]
            simp only [Bool.not_true, Bool.false_eq_true, if_false, List.append_nil]
            exact HO1.out
        case measure => simp [intOf]; omega
    · have hltI : ¬ (i : Int) < n := by omega
      have hin' : i = n := by omega
      subst hin'
      obtain ⟨A1, cc1, rfl⟩ := own_slice hown
      have htk : (l.take i).filter (fun y => !hidO l t0 y) = lfF l t0 := by
        rw [List.take_of_length_le (by rw [HN.out]; exact Nat.le_refl _)]
        rfl
      rw [htk] at hown hlm
      have HO3 := Lib.hid hown
      have HN3 := Lib.hid hlm
      have HB3 := Lib.hid hbr
      have HR3 := Lib.hid (fun V (hV : Below wr.heap.size wr V) => ((own_row hown).below hV).mono hV.size)
      have HL3 := Lib.hid (fun y (hy : y ∈ lfF l t0) => HL.out.2 y (List.mem_filter.1 hy).1)
      have HH3 := Lib.hid (fun (y : Ce) (hy : y ∈ lfF l t0) (gy : Nat) (V : World) (hV : Below wr.heap.size wr V) (h1 : V.cell? ⟨gy, 0, none⟩ = some (.string (nm y.1))) (h2 : gy < V.heap.size) => containsB_any (lfF l t0) y m cc1 gy A1 V HL3.out (HL3.out y hy) hlm (by omega) (((own_row hown).below hV).mono hV.size) h1 h2)
      have HBw3 := Lib.hid (HB1.out.trans (HB3.out.mono HB1.out.size))
      have hwr : w.heap.size ≤ wr.heap.size := HBw3.out.size
      clear hown hbr hlm htk HLM HB HO
      have HT3 := Lib.hid (fun V (hV : Below wr.heap.size wr V) => HT0.out V (HB3.out.trans (hV.mono HB3.out.size)))
      obtain ⟨W3, eW3⟩ : ∃ W3, W3 = wr := ⟨_, rfl⟩
      subst eW3
      go_wp2_with (fail)
      go_loopw [9, 41] (fun v s wq => ∃ (i k : Nat), i ≤ m ∧ s = .int .i64 (i : Int) ∧ (((lfF l t0).take i).filter (cpKeep (lfF l t0) t0)).length = k ∧ k ≤ i ∧ wq.ownsRow W3.heap.size 41 8 v k (recs ceC (((lfF l t0).take i).filter (cpKeep (lfF l t0) t0))) ∧ Below W3.heap.size W3 wq) (fun _ s _ => m - (intOf s).toNat)
      case atStart => exact ⟨0, 0, by omega, rfl, rfl, Nat.le_refl _, World.ownsRow_nil _ _ _ _, Below.refl _ _⟩
      case round =>
        obtain ⟨i, k, hin, rfl, hlm, hmi, hown, hbr⟩ := hrel
        have hbs := hbr.size
        have HB := Lib.hid hbr
        have HLM := Lib.hid hlm
        have HO := Lib.hid hown
        by_cases hlt : i < m
        · have hltI : (i : Int) < m := by omega
          clear hown hbr hlm
          obtain ⟨y, hy⟩ : ∃ y, (lfF l t0)[i]? = some y := ⟨_, List.getElem?_eq_getElem (by have := HN3.out; omega)⟩
          obtain ⟨b, o, rfl, hb, hC⟩ := (HR3.out _ HB.out).posR ceC_len (by omega) (by have := HN3.out; omega)
          obtain ⟨c0, c1, c2, c3, c4, c5, c6, c7⟩ := ce_cells hC i y hy
          have HTK := Lib.hid (fl_take (f := cpKeep (lfF l t0) t0) hy)
          have HYM := Lib.hid (List.mem_of_getElem? hy)
          have HYV := Lib.hid (hasV_k (HL3.out y HYM.out).2)
          have HBA := Lib.hid (HB.out.alloc hbs (ceBlk y))
          clear hC hy
          have HKP := Lib.hid (show cpKeep (lfF l t0) t0 y = (!(decide (y.2.1.k = 0)) || !oldC t0 y || (lfF l t0).any (fun x => blN x.1 y.1)) from by unfold cpKeep; rw [HYV.out])
          clear HYV
          by_cases hk : y.2.1.k = 0
          · have hk1 : (y.2.1.k != 0) = false := by simpa using hk
            rw [decide_eq_true hk] at HKP
            clear hk
            go_wp2_with (fail)
            refine (old_any y t0 w.heap.size _ (HT3.out _ HBA.out).1 (HT3.out _ HBA.out).2).mono ?_
            rintro e w2 ⟨rfl, hb2⟩
            have hs2 := hb2.size
            simp only [World.size_alloc] at hs2
            have HB2 := Lib.hid (HBA.out.trans (hb2.mono HBA.out.size))
            have HO1 := Lib.hid (own_belowP (HO.out.alloc (ceBlk y)) hb2)
            have hyb : w2.heap[wr.heap.size]? = some (ceBlk y) := (hb2.block wr.heap.size (by simp)).trans (heap_new wr _)
            obtain ⟨y0, y1, y2, y3, y4, y5, y6, y7⟩ := ce_blk hyb
            obtain ⟨t, et⟩ : ∃ t, t = oldC t0 y := ⟨_, rfl⟩
            rw [← et] at HKP ⊢
            clear hb2 et c0 c1 c2 c3 c4 c5 c6 c7 hk1
            cases t
            · have HVI := Lib.hid (show cpKeep (lfF l t0) t0 y = !false from by rw [HKP.out]; rfl)
              clear hyb HKP
              go_wp2_with (at_builtin; refine wpList_append_own2 _ rfl _ _ 26 rfl W3.heap.size 41 i0 _ 8 88 Tryz.underlying26 hi0 hz0 hz1 hz2 rfl (by decide) _ _ _ rfl (HO1.out.alloc _) ⟨_, 0, none⟩ 1 1 (ceC y) rfl rfl ?c1 ?c2 ?c3 ?c4 ?c5 ?_)
              case c1 => exact cells_add (cells_atF (by rfl) (by first | rfl | simp))
              case c2 => exact ceC_one _
              case c3 => unfold maxLen; omega
              case c4 => omega
              case c5 => have := HB2.out.size; first | omega | (simp; omega)
              intro v6 w6 ho6 hg6 hm6
              have hlo : ∀ q, u9.ownBlock = some q → W3.heap.size ≤ q := fun q hq => (HO1.out.lt q hq).1
              have HB6 := Lib.hid ((HB2.out.alloc HB2.out.size _).grown hg6 (by have := HB2.out.size; first | omega | (simp; omega)) hlo)
              have HO6 := Lib.hid ho6
              clear ho6 hg6 hm6 hlo
              go_wp2_with (fail)
              go_roundw
              case rel =>
                refine ⟨i + 1, k + 1, by omega, by simp, ?_, by omega, ?_, HB6.out⟩
                · rw [HTK.out, HVI.out]
                  simp only [Bool.not_false, if_true, List.length_append, HLM.out, List.length_singleton]
                · rw [HTK.out, HVI.out]
                  simp only [Bool.not_false, if_true, recs_snoc]
                  exact HO6.out
              case measure => simp [intOf]; omega
            · go_wp2_with (fail)
              refine (HH3.out y HYM.out wr.heap.size _ HB2.out y0 (by omega)).mono ?_
              rintro e w3 ⟨rfl, hb3⟩
              have hs3 := hb3.size
              have HB3 := Lib.hid (HB2.out.trans (hb3.mono HB2.out.size))
              have HO2 := Lib.hid (own_belowP HO1.out hb3)
              replace hyb := (hb3.block wr.heap.size (by omega)).trans hyb
              clear y0 y1 y2 y3 y4 y5 y6 y7
              obtain ⟨y0, y1, y2, y3, y4, y5, y6, y7⟩ := ce_blk hyb
              obtain ⟨t, et⟩ : ∃ t, t = (lfF l t0).any (fun x => blN x.1 y.1) := ⟨_, rfl⟩
              rw [← et] at HKP ⊢
              clear hb3 hyb et
              cases t
              · have HVI := Lib.hid (show cpKeep (lfF l t0) t0 y = !true from by rw [HKP.out]; rfl)
                clear HKP
                go_wp2_with (fail)
                go_roundw
                case rel =>
                  refine ⟨i + 1, k, by omega, by simp, ?_, by omega, ?_, HB3.out⟩
                  · rw [HTK.out, HVI.out]; simpa using HLM.out
                  · rw [HTK.out, HVI.out]
                    simp only [Bool.not_true, Bool.false_eq_true, if_false, List.append_nil]
                    exact HO2.out
                case measure => simp [intOf]; omega
              · have HVI := Lib.hid (show cpKeep (lfF l t0) t0 y = !false from by rw [HKP.out]; rfl)
                clear HKP
                go_wp2_with (at_builtin; refine wpList_append_own2 _ rfl _ _ 26 rfl W3.heap.size 41 i0 _ 8 88 Tryz.underlying26 hi0 hz0 hz1 hz2 rfl (by decide) _ _ _ rfl (HO2.out.alloc _) ⟨_, 0, none⟩ 1 1 (ceC y) rfl rfl ?c1 ?c2 ?c3 ?c4 ?c5 ?_)
                case c1 => exact cells_add (cells_atF (by rfl) (by first | rfl | simp))
                case c2 => exact ceC_one _
                case c3 => unfold maxLen; omega
                case c4 => omega
                case c5 => have := HB3.out.size; first | omega | (simp; omega)
                intro v6 w6 ho6 hg6 hm6
                have hlo : ∀ q, u9.ownBlock = some q → W3.heap.size ≤ q := fun q hq => (HO2.out.lt q hq).1
                have HB6 := Lib.hid ((HB3.out.alloc HB3.out.size _).grown hg6 (by have := HB3.out.size; first | omega | (simp; omega)) hlo)
                have HO6 := Lib.hid ho6
                clear ho6 hg6 hm6 hlo
                go_wp2_with (fail)
                go_roundw
                case rel =>
                  refine ⟨i + 1, k + 1, by omega, by simp, ?_, by omega, ?_, HB6.out⟩
                  · rw [HTK.out, HVI.out]
                    simp only [Bool.not_false, if_true, List.length_append, HLM.out, List.length_singleton]
                  · rw [HTK.out, HVI.out]
                    simp only [Bool.not_false, if_true, recs_snoc]
                    exact HO6.out
                case measure => simp [intOf]; omega
          · have hk1 : (y.2.1.k != 0) = true := by simpa using hk
            have HVI := Lib.hid (show cpKeep (lfF l t0) t0 y = !false from by rw [HKP.out, decide_eq_false hk]; rfl)
            have HOa := Lib.hid (HO.out.alloc (ceBlk y))
            clear hk HKP
            go_wp2_with (at_builtin; refine wpList_append_own2 _ rfl _ _ 26 rfl W3.heap.size 41 i0 _ 8 88 Tryz.underlying26 hi0 hz0 hz1 hz2 rfl (by decide) _ _ _ rfl (HOa.out.alloc _) ⟨_, 0, none⟩ 1 1 (ceC y) rfl rfl ?c1 ?c2 ?c3 ?c4 ?c5 ?_)
            case c1 => exact cells_add (cells_atF (by rfl) (by first | rfl | simp))
            case c2 => exact ceC_one _
            case c3 => unfold maxLen; omega
            case c4 => omega
            case c5 => have := HBA.out.size; first | omega | (simp; omega)
            intro v6 w6 ho6 hg6 hm6
            have hlo : ∀ q, u9.ownBlock = some q → W3.heap.size ≤ q := fun q hq => (HOa.out.lt q hq).1
            have HB6 := Lib.hid ((HBA.out.alloc HBA.out.size _).grown hg6 (by have := HBA.out.size; first | omega | (simp; omega)) hlo)
            have HO6 := Lib.hid ho6
            clear ho6 hg6 hm6 hlo
            go_wp2_with (fail)
            go_roundw
            case rel =>
              refine ⟨i + 1, k + 1, by omega, by simp, ?_, by omega, ?_, HB6.out⟩
              · rw [HTK.out, HVI.out]
                simp only [Bool.not_false, if_true, List.length_append, HLM.out, List.length_singleton]
              · rw [HTK.out, HVI.out]
                simp only [Bool.not_false, if_true, recs_snoc]
                exact HO6.out
            case measure => simp [intOf]; omega
        · have hltI : ¬ (i : Int) < m := by omega
          have hin' : i = m := by omega
          subst hin'
          obtain ⟨A5, c5, rfl⟩ := own_slice hown
          have htk : (((lfF l t0).take i).filter (cpKeep (lfF l t0) t0)) = cpL l t0 := by
            rw [List.take_of_length_le (by rw [HN3.out]; exact Nat.le_refl _)]
            rfl
          rw [htk] at hown hlm
          have HF := Lib.hid (show CoPost l t0 w (.returned (.tuple #[.slice A5 k c5, .int .i64 0])) wr from ⟨A5, c5, k, rfl, hlm, own_mono hown hwr, HBw3.out.trans (hbr.mono hwr)⟩)
          clear hown hbr hlm htk
          go_wp2_with (fail)
          go_ret2
          exact HF.out
end Go.Proofs.YtkcpfppjdjkjeaaGreatDoor
