/- slices.Clone of cells, twin.Take, Settled, Get by their contracts. -/
import Derived.Test.YtccbblnlmggjbaaGreatDoorTwB
import Derived.Test.YtccbblnlmggjbaaGreatDoorCeN
import Derived.Test.YtccbblnlmggjbaaGreatDoorMgB
namespace Go.Proofs.YtccbblnlmggjbaaGreatDoor
open Go.RowKit

set_option maxRecDepth 100000 in
set_option maxHeartbeats 1000000 in
theorem cloneC_some (b off n c : Nat) (xs : List Value) (w : World) (hl : xs.length = n * 8) (h1 : ∀ u ∈ xs, u.oneCell' = true) (hn : n ≤ 1000000) (hc : Cells w b off xs) :
    Calls Tryz.prog 63 #[.slice (some ⟨b, off, none⟩) n c] w fun e w' => ∃ v', e = .returned v' ∧ w'.ownsRow w.heap.size 39 8 v' n xs ∧ Below w.heap.size w w' := by
  obtain ⟨i0, hi, hz0, hz1, hz2⟩ := info_parts Tryz.infoCe
  have q22 : ∀ (w : World) (a : Option Addr) (n c n' c' : Nat), (binOp .eql 26 (.slice a n c) (.slice none n' c')).run Tryz.prog w = .ok (.bool a.isNone) w := fun w a n c n' c' => Lib.run_eql_slice_nil w _ _ a n c n' c' Tryz.underlying26
  have HC := Lib.hid hc
  have H1 := Lib.hid h1
  have HL := Lib.hid hl
  clear hc h1 hl
  go_enter Tryz.func63, Tryz.ntmps63
  go_wp2_with (at_builtin; refine wpList_append_own _ rfl _ _ 26 rfl w.heap.size 39 i0 _ 8 88 Tryz.underlying26 hi hz0 hz1 hz2 rfl (by decide) _ _ _ rfl (World.ownsRow_made w #[] 0 (Nat.le_refl _) (Nat.zero_le _) rfl) ⟨b, off, none⟩ n c xs rfl ?qc1 ?qc2 ?qc3 ?qc4 ?qc5 ?qc6 ?_)
  case qc1 => exact HL.out
  case qc2 =>
    intro j u hj
    rw [Addr.add_lit]
    exact Lib.cell?_alloc_some _ (HC.out j u hj)
  case qc3 => exact H1.out
  case qc4 => unfold maxLen; omega
  case qc5 => omega
  case qc6 => simp
  intro v' w1 hown hgrow hnil
  go_wp2
  go_ret
  refine ⟨v', rfl, by simpa using hown, ?_⟩
  exact ((Below.refl _ w).alloc (Nat.le_refl _) _).grown hgrow (by simp) (by intro k hk; simp [Value.ownBlock] at hk; omega)
theorem cloneC_nil (n c : Nat) (w : World) : Calls Tryz.prog 63 #[.slice none n c] w fun e w' => e = .returned (.slice none 0 0) ∧ w = w' := by
  have q22 : ∀ (w : World) (a : Option Addr) (n c n' c' : Nat), (binOp .eql 26 (.slice a n c) (.slice none n' c')).run Tryz.prog w = .ok (.bool a.isNone) w := fun w a n c n' c' => Lib.run_eql_slice_nil w _ _ a n c n' c' Tryz.underlying26
  go_enter Tryz.func63, Tryz.ntmps63
  go_wp2
  go_ret
  exact ⟨rfl, rfl⟩
theorem cloneC_any (l : List Ce) (n c : Nat) (A : Option Addr) (w : World) (hn : l.length = n) (hn2 : n ≤ 5000) (ho : Ly w A n c (recs ceC l)) :
    Calls Tryz.prog 63 #[.slice A n c] w fun e w' => ∃ A' c', e = .returned (.slice A' n c') ∧ w'.ownsRow w.heap.size 39 8 (.slice A' n c') n (recs ceC l) ∧ Below w.heap.size w w' := by
  rcases ho with ⟨rfl, rfl, rfl, hx⟩ | ⟨b, o, rfl, hb, hC⟩
  · obtain rfl : l = [] := List.eq_nil_of_length_eq_zero hn
    refine (cloneC_nil 0 0 w).mono ?_
    rintro e w' ⟨rfl, rfl⟩
    exact ⟨none, 0, rfl, by simpa [recs] using World.ownsRow_nil _ _ _ _, Below.refl _ _⟩
  · refine (cloneC_some b o n c (recs ceC l) w (by rw [recs_length ceC_len, hn]) (recs_one ceC_one l) (by omega) hC).mono ?_
    rintro e w' ⟨v', rfl, h1, h2⟩
    obtain ⟨A', c', rfl⟩ := own_slice h1
    exact ⟨A', c', rfl, h1, h2⟩
theorem tk_take {l : List Ch} {k : Nat} {x : Ch} (h : l[k]? = some x) : tkL (l.take (k + 1)) = tkL (l.take k) ++ [(x.1, x.2.2, tkS)] := by
  unfold tkL
  rw [List.take_add_one, h, List.map_append]
  rfl
def TkPost (D R : List Ce) (n : Nat) (ch : List Ch) (w : World) (e : Ending) (w' : World) : Prop :=
  ∃ A B c d m, e = .returned (.tuple #[.agg #[.slice A n c, .slice B m d], .int .i64 0]) ∧ (mgL R (tkL ch)).length = m ∧ w'.ownsRow w.heap.size 39 8 (.slice A n c) n (recs ceC D) ∧ w'.ownsRow w.heap.size 39 8 (.slice B m d) m (recs ceC (mgL R (tkL ch))) ∧ Below w.heap.size w w'
set_option maxRecDepth 100000 in
set_option maxHeartbeats 8000000 in
theorem take_any (D R : List Ce) (ch : List Ch) (n m q c d e0 : Nat) (A B C : Option Addr) (w : World) (hD : CsOk D) (hR : CsOk R) (h9 : Erl R) (hch : ChsOk ch) (hn : D.length = n) (hm : R.length = m) (hq : ch.length = q) (hn7 : n ≤ 40) (hm7 : m ≤ 40) (hq7 : q ≤ 40) (hmd : m ≤ d) (hra : Ly w A n c (recs ceC D)) (hrb : Ly w B m d (recs ceC R)) (hrc : Row w w.heap.size C (recs chC ch)) (hT : U8T w) :
    Calls Tryz.prog 18 #[.agg #[.slice A n c, .slice B m d], .slice C q e0, .agg #[.int .i64 100, .string ⟨#[100]⟩, .int .i64 0]] w fun e w' => TkPost D R n ch w e w' := by
  obtain ⟨i0, hi0, hz0, hz1, hz2⟩ := info_parts Tryz.infoCe
  have HLA := Lib.hid (fun V (hV : Below w.heap.size w V) => hra.below hV)
  have HLB := Lib.hid (fun V (hV : Below w.heap.size w V) => hrb.below hV)
  have HRC := Lib.hid (fun V (hV : Below w.heap.size w V) => (hrc.below hV).mono hV.size)
  have HT := Lib.hid (fun V (hV : Below w.heap.size w V) => hT.below hV)
  have HD := Lib.hid hD
  have HR := Lib.hid hR
  have HCH := Lib.hid hch
  have HN := Lib.hid hn
  have HM := Lib.hid hm
  have HQ := Lib.hid hq
  have HTOK := Lib.hid (tk_ok hch)
  have HCF := Lib.hid (tk_cfl (c := ch) hR h9)
  have HLATE := Lib.hid (show R.any (fun x => tkLate x) = false from by
    rw [List.any_eq_false]
    intro x hx
    have := erl_sk hR h9 hx
    unfold tkLate cmpI
    rw [if_pos this]
    decide)
  clear hra hrb hrc hT hD hR h9 hch hn hm hq
  go_enter Tryz.func18, Tryz.ntmps18
  go_upto_region 1 with (fail)
  obtain ⟨g0, eg0⟩ : ∃ g, g = w.heap.size := ⟨_, rfl⟩
  generalize hw0 : ((w.alloc (.cells #[.slice A n c, .slice B m d] 51)).alloc (.cells #[.int .i64 100, .string ⟨#[100]⟩, .int .i64 0] 37)).alloc (.cells #[.slice none 0 0, .slice none 0 0] 51) = w0
  have HB0 := Lib.hid (show Below w.heap.size w w0 from by rw [← hw0]; exact (((Below.refl _ _).alloc (Nat.le_refl _) _).alloc (by simp) _).alloc (by simp; omega) _)
  have hx0 : w0.heap[g0]? = some (.cells #[.slice A n c, .slice B m d] 51 (0, 0)) := by
    rw [← hw0, eg0, Below.heap_alloc _ _ _ (by simp; omega), Below.heap_alloc _ _ _ (by simp)]; exact heap_new w _
  have hxs : w0.heap[g0 + 1]? = some (.cells #[.int .i64 100, .string ⟨#[100]⟩, .int .i64 0] 37 (0, 0)) := by
    rw [← hw0, eg0, Below.heap_alloc _ _ _ (by simp)]
    have := heap_new (w.alloc (.cells #[.slice A n c, .slice B m d] 51)) (.cells #[.int .i64 100, .string ⟨#[100]⟩, .int .i64 0] 37)
    simpa using this
  have hxr : w0.heap[g0 + 1 + 1]? = some (.cells #[.slice none 0 0, .slice none 0 0] 51 (0, 0)) := by
    rw [← hw0, eg0]
    have := heap_new ((w.alloc (.cells #[.slice A n c, .slice B m d] 51)).alloc (.cells #[.int .i64 100, .string ⟨#[100]⟩, .int .i64 0] 37)) (.cells #[.slice none 0 0, .slice none 0 0] 51)
    simpa using this
  have hg0 : g0 + 1 + 1 < w0.heap.size := (Array.getElem?_eq_some_iff.1 hxr).1
  have hgw : w.heap.size ≤ g0 := by omega
  rw [← eg0]
  clear hw0 eg0
  have HQ0 := Lib.hid (fun (V : World) (hV : Below w0.heap.size w0 V) => show V.cell? ⟨g0, 0, none⟩ = some (.slice A n c) ∧ V.cell? ⟨g0, 1, none⟩ = some (.slice B m d) ∧ V.cell? ⟨g0 + 1, 0, none⟩ = some (.int .i64 100) ∧ V.cell? ⟨g0 + 1, 1, none⟩ = some (.string ⟨#[100]⟩) ∧ V.cell? ⟨g0 + 1, 2, none⟩ = some (.int .i64 0) from by
    have h1 := (hV.block g0 (by omega)).trans hx0
    have h2 := (hV.block (g0 + 1) (by omega)).trans hxs
    exact ⟨cell_of_blk (j := 0) h1 rfl, cell_of_blk (j := 1) h1 rfl, cell_of_blk (j := 0) h2 rfl, cell_of_blk (j := 1) h2 rfl, cell_of_blk (j := 2) h2 rfl⟩)
  have HXR := Lib.hid (fun (V : World) (hV : Below w0.heap.size w0 V) => (hV.block (g0 + 1 + 1) hg0).trans hxr)
  clear hx0 hxs hxr
  have HV1 := Lib.hid (fun V (hV : Below w0.heap.size w0 V) => twinFault_any D R n m c d A B V HD.out HR.out HN.out HM.out (by omega) (by omega) (HLA.out V (HB0.out.trans (hV.mono HB0.out.size))).row_ (HLB.out V (HB0.out.trans (hV.mono HB0.out.size))).row_ (HT.out V (HB0.out.trans (hV.mono HB0.out.size))))
  have HV2 := Lib.hid (fun V (hV : Below w0.heap.size w0 V) => checkChanges_any ch q e0 C V HCH.out HQ.out (by omega) (HRC.out V (HB0.out.trans (hV.mono HB0.out.size))) (HT.out V (HB0.out.trans (hV.mono HB0.out.size))))
  have HV3 := Lib.hid (fun (V : World) => show Calls Tryz.prog 60 #[.agg #[.int .i64 100, .string ⟨#[100]⟩, .int .i64 0]] V (fun e w' => e = .returned (.int .i64 0) ∧ Below V.heap.size V w') from stampFault_any tkS (by unfold SpOk tkS; simp) V)
  go_upto_region 1 with (fail)
  refine qRegionTail 6 (by kernel_rfl) (by kernel_rfl) ?_
  simp only [List.take_succ_cons, List.take_zero, List.drop_succ_cons, List.drop_zero]
  repeat (first
    | (go_big_quiet_want; refine qVal (fun V hV => (by (obtain ⟨a0, a1, b0, b1, b2⟩ := HQ0.out V hV; go_simp; try rfl))) ?_; simp only [Act.put, List.setIfInBounds_toArray, List.set_cons_zero, List.set_cons_succ]; go_big_quiet_on)
    | (go_big_quiet_want
       refine qCall (fun V hV => (by (obtain ⟨a0, a1, b0, b1, b2⟩ := HQ0.out V hV; go_simp; exact ⟨rfl, rfl⟩))) (fun V hV => (by first
         | with_reducible exact (HV1.out V hV).mono (fun e w' h => ⟨h.1, hV.trans (h.2.mono hV.size)⟩)
         | with_reducible exact (HV2.out V hV).mono (fun e w' h => ⟨h.1, hV.trans (h.2.mono hV.size)⟩)
         | with_reducible exact (HV3.out V).mono (fun e w' h => ⟨h.1, hV.trans (h.2.mono hV.size)⟩))) ?_
       simp only [Act.put, List.setIfInBounds_toArray, List.set_cons_zero, List.set_cons_succ]; go_big_quiet_on)
    | go_big_quiet_skip)
  refine wpQuiet_nil ?_
  intro w1 hb1
  have HB1 := Lib.hid hb1
  clear hb1
  go_upto_region 4 with (go_at_call 29; refine (first_ok 3 3 _ _ (by omega) (Cells.new _ _ _ _ _ rfl)).mono ?_; rintro e w' ⟨rfl, rfl⟩)
  have hb2 : Below w1.heap.size w1 (w1.alloc (.cells #[.int .i64 0, .int .i64 0, .int .i64 0] 28)) := (Below.refl _ _).alloc (Nat.le_refl _) _
  generalize w1.alloc (.cells #[.int .i64 0, .int .i64 0, .int .i64 0] 28) = w2 at hb2 ⊢
  have HB2 := Lib.hid (HB1.out.trans (hb2.mono HB1.out.size))
  have HBw2 := Lib.hid (HB0.out.trans (HB2.out.mono HB0.out.size))
  clear hb2 HV1 HV2 HV3
  obtain ⟨a0, a1, b0, b1, b2⟩ := HQ0.out w2 HB2.out
  have hg2 : g0 + 1 < w2.heap.size := World.block_lt_of_cell? w2 _ b0
  go_wp2_with (fail)
  refine (tkHas_any R (g0 + 1) m d B w2 (fun x hx => (HR.out.2 x hx).2) HM.out (by omega) (HLB.out w2 HBw2.out).row_ ⟨b0, b1, b2⟩ hg2).mono ?_
  rintro e w3 ⟨rfl, hb3⟩
  rw [HLATE.out]
  have HB3 := Lib.hid (HB2.out.trans (hb3.mono HB2.out.size))
  have HBw3 := Lib.hid (HB0.out.trans (HB3.out.mono HB0.out.size))
  clear hb3 a0 a1 b0 b1 b2 HB1 HB2 HBw2
  go_wp2_with (fail)
  go_loopw [9, 33] (fun v s wr => ∃ i : Nat, i ≤ q ∧ s = .int .i64 (i : Int) ∧ wr.ownsRow w3.heap.size 39 8 v i (recs ceC (tkL (ch.take i))) ∧ Below w3.heap.size w3 wr) (fun _ s _ => q - (intOf s).toNat)
  case atStart => exact ⟨0, by omega, rfl, World.ownsRow_nil _ _ _ _, Below.refl _ _⟩
  case round =>
    obtain ⟨i, hiq, rfl, hown, hbr⟩ := hrel
    have hbs := hbr.size
    have HB := Lib.hid hbr
    have HO := Lib.hid hown
    have HBr := Lib.hid (HB3.out.trans (hbr.mono HB3.out.size))
    have HBw := Lib.hid (HBw3.out.trans (hbr.mono HBw3.out.size))
    obtain ⟨a0, a1, b0, b1, b2⟩ := HQ0.out wr HBr.out
    by_cases hlt : i < q
    · have hltI : (i : Int) < q := by omega
      clear hown hbr
      obtain ⟨x, hx⟩ : ∃ x, ch[i]? = some x := ⟨_, List.getElem?_eq_getElem (by have := HQ.out; omega)⟩
      obtain ⟨b, o, rfl, hb, hC⟩ := (HRC.out wr HBw.out).posR chC_len (by omega) (by have := HQ.out; omega)
      obtain ⟨c0, c1, c2, c3, c4, c5, c6, c7, c8⟩ := ch_cells hC i x hx
      have HTK := Lib.hid (tk_take hx)
      have hgr : g0 + 1 < wr.heap.size := World.block_lt_of_cell? wr _ b0
      have hgn : ¬ g0 + 1 = wr.heap.size := by omega
      clear hC hx
      go_upto_region 10 with (fail)
      generalize hWa : wr.alloc (.cells #[.string (nm x.1), .int .i64 x.2.1.k, .bool x.2.1.f, .int .i64 x.2.1.n, .string x.2.1.s, .int .i64 x.2.2.k, .bool x.2.2.f, .int .i64 x.2.2.n, .string x.2.2.s] 112) = Wa
      have hba : Below wr.heap.size wr Wa := by rw [← hWa]; exact (Below.refl _ _).alloc (Nat.le_refl _) _
      have hxa : Wa.heap[wr.heap.size]? = some (.cells #[.string (nm x.1), .int .i64 x.2.1.k, .bool x.2.1.f, .int .i64 x.2.1.n, .string x.2.1.s, .int .i64 x.2.2.k, .bool x.2.2.f, .int .i64 x.2.2.n, .string x.2.2.s] 112 (0, 0)) := by rw [← hWa]; exact heap_new wr _
      have y0 := cell_of_blk (j := 0) hxa rfl
      have y5 := cell_of_blk (j := 5) hxa rfl
      have y6 := cell_of_blk (j := 6) hxa rfl
      have y7 := cell_of_blk (j := 7) hxa rfl
      have y8 := cell_of_blk (j := 8) hxa rfl
      have HBa := Lib.hid (HB.out.trans (hba.mono hbs))
      have HOa := Lib.hid (own_belowP HO.out hba)
      clear a0 a1 b0 b1 b2 c0 c1 c2 c3 c4 c5 c6 c7 c8
      obtain ⟨a0, a1, b0, b1, b2⟩ := HQ0.out Wa (HBr.out.trans (hba.mono HBr.out.size))
      clear hWa hba hxa
      go_wp2_with (at_builtin; refine wpList_append_own2 _ rfl _ _ 26 rfl w3.heap.size 39 i0 _ 8 88 Tryz.underlying26 hi0 hz0 hz1 hz2 rfl (by decide) _ _ _ rfl (HOa.out.alloc _) ⟨_, 0, none⟩ 1 1 (ceC (x.1, x.2.2, tkS)) rfl rfl ?c1 ?c2 ?c3 ?c4 ?c5 ?_)
      case c1 => exact cells_add (cells_atF (by rfl) (by first | rfl | simp))
      case c2 => exact ceC_one _
      case c3 => unfold maxLen; omega
      case c4 => omega
      case c5 => have := HBa.out.size; first | omega | (simp; omega)
      intro v6 w6 ho6 hg6 hm6
      have hlo : ∀ k, u9.ownBlock = some k → w3.heap.size ≤ k := fun k hk => (HOa.out.lt k hk).1
      have HB6 := Lib.hid ((HBa.out.alloc HBa.out.size _).grown hg6 (by have := HBa.out.size; first | omega | (simp; omega)) hlo)
      have HO6 := Lib.hid ho6
      clear ho6 hg6 hm6 hlo a0 a1 b0 b1 b2 y0 y5 y6 y7 y8
      go_wp2_with (fail)
      go_roundw
      case rel =>
        refine ⟨i + 1, by omega, by simp, ?_, HB6.out⟩
        rw [HTK.out, recs_snoc]
        exact HO6.out
      case measure => simp [intOf]; omega
    · have hltI : ¬ (i : Int) < q := by omega
      have hiq' : i = q := by omega
      subst hiq'
      obtain ⟨A1, c1, rfl⟩ := own_slice hown
      rw [List.take_of_length_le (by rw [HQ.out]; exact Nat.le_refl _)] at hown
      have HOt := Lib.hid hown
      have HNt := Lib.hid (show (tkL ch).length = i from by unfold tkL; rw [List.length_map]; exact HQ.out)
      have hcap := own_cap hown
      obtain ⟨w4, e4⟩ : ∃ y, y = wr := ⟨_, rfl⟩
      subst e4
      have HLt := Lib.hid (own_ly hown)
      have hs3 := HBw3.out.size
      clear hown hbr
      go_wp2_with (fail)
      refine (merged_any R (tkL ch) m i d c1 B A1 w4 HR.out HTOK.out HM.out HNt.out hm7 hq7 hmd hcap (HLB.out w4 HBw.out) HLt.out).mono ?_
      rintro e w5 ⟨h, hb5⟩
      rw [HCF.out] at h
      replace h := h.resolve_left (fun k => by cases k.1)
      obtain ⟨_, A5, c5, m5, hl5, rfl, ho5⟩ := h
      have HB5 := Lib.hid (HBr.out.trans (hb5.mono HBr.out.size))
      have HBw5 := Lib.hid (HBw.out.trans (hb5.mono HBw.out.size))
      have HO5 := Lib.hid (own_mono ho5 HBw.out.size)
      have HN5 := Lib.hid hl5
      have hgb : g0 + 1 + 1 < w4.heap.size := by have := HBr.out.size; omega
      have HO5g := Lib.hid (fun k hk => show ¬ k = g0 + 1 + 1 from by have := (ho5.lt k hk).1; omega)
      clear hb5 ho5 hl5 a0 a1 b0 b1 b2 HB HO
      obtain ⟨a0, a1, b0, b1, b2⟩ := HQ0.out w5 HB5.out
      go_wp2_with (fail)
      refine (cloneC_any D n c A w5 HN.out (by omega) (HLA.out w5 HBw5.out)).mono ?_
      rintro e w6 ⟨A6, c6, rfl, ho6, hb6⟩
      have HB6 := Lib.hid (HB5.out.trans (hb6.mono HB5.out.size))
      have HBw6 := Lib.hid (HBw5.out.trans (hb6.mono HBw5.out.size))
      have HO6 := Lib.hid (own_mono ho6 HBw5.out.size)
      have HO56 := Lib.hid (own_belowP HO5.out hb6)
      have hs5 := HB5.out.size
      have HO6g := Lib.hid (fun k hk => show ¬ k = g0 + 1 + 1 from by have := (ho6.lt k hk).1; omega)
      have hxr := HXR.out w6 HB6.out
      clear ho6 hb6 a0 a1 b0 b1 b2
      have n0 := cell_of_blk (j := 0) hxr rfl
      have n1 := cell_of_blk (j := 1) hxr rfl
      have fr : ∀ j, w6.frozen? ⟨g0 + 1 + 1, j, none⟩ = false := by intro j; simp [World.frozen?, hxr]
      have f0 := fr 0
      have f1 := fr 1
      have hlt6 : g0 + 1 + 1 < w6.heap.size := (Array.getElem?_eq_some_iff.1 hxr).1
      have HG3 := Lib.hid (grown_set (grown_set (grown_refl w6 (some (g0 + 1 + 1))) (q := ⟨g0 + 1 + 1, 0, none⟩) (.inl rfl) (.slice A6 n c6)) (q := ⟨g0 + 1 + 1, 1, none⟩) (.inl rfl) (.slice A5 m5 c5))
      have HB7 := Lib.hid (show ((w6.setCell ⟨g0 + 1 + 1, 0, none⟩ (.slice A6 n c6)).setCell ⟨g0 + 1 + 1, 1, none⟩ (.slice A5 m5 c5)).heap[g0 + 1 + 1]? = some (.cells #[.slice A6 n c6, .slice A5 m5 c5] 51 (0, 0)) from by simp [World.setCell, Array.getElem?_modify, hxr])
      have HGF := Lib.hid (show Below w.heap.size w ((w6.setCell ⟨g0 + 1 + 1, 0, none⟩ (.slice A6 n c6)).setCell ⟨g0 + 1 + 1, 1, none⟩ (.slice A5 m5 c5)) from (HBw6.out.setCell (by show w.heap.size ≤ g0 + 1 + 1; omega) _).setCell (by show w.heap.size ≤ g0 + 1 + 1; omega) _)
      clear fr hxr
      go_wp2_with (fail)
      have r0 := cell_of_blk (j := 0) HB7.out rfl
      have r1 := cell_of_blk (j := 1) HB7.out rfl
      have hDo := own_neG HO6.out HG3.out (fun k hk => HO6g.out k hk)
      have hRo := own_neG HO56.out HG3.out (fun k hk => HO5g.out k hk)
      exact bodyPost_ret (v := .tuple #[.agg #[.slice A6 n c6, .slice A5 m5 c5], .int .i64 0]) (by simp [results, Tryz.results18, go_sem, r0, r1]) rfl ⟨A6, A5, c6, c5, m5, rfl, HN5.out, hDo, hRo, HGF.out⟩
set_option maxRecDepth 100000 in
set_option maxHeartbeats 1000000 in
theorem settled_any (D R : List Ce) (n m c d : Nat) (A B : Option Addr) (w : World) (hD : CsOk D) (hR : CsOk R) (hn : D.length = n) (hm : R.length = m) (hn7 : n ≤ 100) (hm7 : m ≤ 100) (hra : Row w w.heap.size A (recs ceC D)) (hrb : Row w w.heap.size B (recs ceC R)) (hT : U8T w) (ho : owL D R = []) :
    Calls Tryz.prog 19 #[.agg #[.slice A n c, .slice B m d]] w fun e w' => e = .returned (.tuple #[.bool true, .int .i64 0]) ∧ Below w.heap.size w w' := by
  have HO := Lib.hid (fun V (hV : Below w.heap.size w V) => owed_any D R n m c d A B V hD hR hn hm hn7 hm7 ((hra.below hV).mono hV.size) ((hrb.below hV).mono hV.size) (hT.below hV))
  have HE := Lib.hid ho
  have HB0 := Lib.hid ((Below.refl w.heap.size w).alloc (Nat.le_refl _) (.cells #[.slice A n c, .slice B m d] 51))
  clear hD hR hn hm hra hrb hT ho
  go_enter Tryz.func19, Tryz.ntmps19
  go_wp2_with (fail)
  refine (HO.out _ HB0.out).mono ?_
  rintro e w1 ⟨A1, c1, k, rfl, hl, _, hb1⟩
  rw [HE.out] at hl
  obtain rfl : k = 0 := by simpa using hl.symm
  have HB1 := Lib.hid (HB0.out.trans (hb1.mono HB0.out.size))
  clear hb1 hl
  go_wp2_with (fail)
  go_ret2
  exact ⟨rfl, HB1.out⟩
set_option maxRecDepth 100000 in
set_option maxHeartbeats 1000000 in
theorem get_any (l : List Pr) (n c j : Nat) (A : Option Addr) (w : World) (hl : PrsGood l) (hn : l.length = n) (hn7 : n ≤ 500) (hj : j < 7) (hr : Row w w.heap.size A (recs prC l)) (hT : U8T w) :
    Calls Tryz.prog 20 #[.slice A n c, .string (nm j)] w fun e w' => e = .returned (.tuple #[.agg #[.int .i64 (vo l j).k, .bool (vo l j).f, .int .i64 (vo l j).n, .string (vo l j).s], .int .i64 0]) ∧ Below w.heap.size w w' := by
  have HC := Lib.hid (fun V (hV : Below w.heap.size w V) => checkProps_any l n c A V hl.1 hn hn7 ((hr.below hV).mono hV.size) (hT.below hV))
  have HV := Lib.hid (fun V (hV : Below w.heap.size w V) => valueOf_any l n c j A V hl.1 hn hn7 hj ((hr.below hV).mono hV.size))
  rw [hl.2] at HC
  obtain ⟨⟨k1, f1, n1, s1⟩, e1⟩ : ∃ v, v = vo l j := ⟨_, rfl⟩
  rw [← e1] at HV ⊢
  simp only at HV ⊢
  clear hl hn hr hT e1
  go_enter Tryz.func20, Tryz.ntmps20
  go_upto_region 1 with (fail)
  generalize hw0 : w.alloc (.cells #[.int .i64 0, .bool false, .int .i64 0, .string ⟨#[]⟩] 33) = w0
  have HB0 := Lib.hid (show Below w.heap.size w w0 from by rw [← hw0]; exact (Below.refl _ _).alloc (Nat.le_refl _) _)
  have hx0 : w0.heap[w.heap.size]? = some (.cells #[.int .i64 0, .bool false, .int .i64 0, .string ⟨#[]⟩] 33 (0, 0)) := by rw [← hw0]; exact heap_new w _
  have hlt0 : w.heap.size < w0.heap.size := (Array.getElem?_eq_some_iff.1 hx0).1
  clear hw0
  go_wp2_with (fail)
  refine (HC.out _ HB0.out).mono ?_
  rintro e w1 ⟨rfl, hb1⟩
  have HB1 := Lib.hid (HB0.out.trans (hb1.mono HB0.out.size))
  replace hx0 := (hb1.block _ hlt0).trans hx0
  have hlt1 : w.heap.size < w1.heap.size := (Array.getElem?_eq_some_iff.1 hx0).1
  clear hb1
  go_wp2_with (fail)
  refine (isName_nm j w1).mono ?_
  rintro e w2 ⟨rfl, hb2⟩
  have HB2 := Lib.hid (HB1.out.trans (hb2.mono HB1.out.size))
  replace hx0 := (hb2.block _ hlt1).trans hx0
  have hlt2 : w.heap.size < w2.heap.size := (Array.getElem?_eq_some_iff.1 hx0).1
  clear hb2
  go_wp2_with (fail)
  refine (HV.out _ HB2.out).mono ?_
  rintro e w3 ⟨rfl, hb3⟩
  have HB3 := Lib.hid (HB2.out.trans (hb3.mono HB2.out.size))
  replace hx0 := (hb3.block _ hlt2).trans hx0
  have hlt3 : w.heap.size < w3.heap.size := (Array.getElem?_eq_some_iff.1 hx0).1
  clear hb3
  obtain ⟨k1', k2'⟩ := blk_set4 (.int .i64 k1) (.bool f1) (.int .i64 n1) (.string s1) hx0
  have HK1 := Lib.hid k1'
  have HK2 := Lib.hid k2'
  have z0 := cell_of_blk (j := 0) hx0 rfl
  have z1 := cell_of_blk (j := 1) hx0 rfl
  have z2 := cell_of_blk (j := 2) hx0 rfl
  have z3 := cell_of_blk (j := 3) hx0 rfl
  have fr : ∀ j, w3.frozen? ⟨w.heap.size, j, none⟩ = false := by intro j; simp [World.frozen?, hx0]
  have fr0 := fr 0
  have fr1 := fr 1
  have fr2 := fr 2
  have fr3 := fr 3
  clear fr hx0 k1' k2'
  go_wp2_with (fail)
  have r0 := cell_of_blk (j := 0) HK1.out rfl
  have r1 := cell_of_blk (j := 1) HK1.out rfl
  have r2 := cell_of_blk (j := 2) HK1.out rfl
  have r3 := cell_of_blk (j := 3) HK1.out rfl
  exact bodyPost_ret (v := .tuple #[.agg #[.int .i64 k1, .bool f1, .int .i64 n1, .string s1], .int .i64 0]) (by simp [results, Tryz.results20, go_sem, r0, r1, r2, r3]) rfl ⟨rfl, HB3.out.trans (HK2.out _ (Nat.le_refl _))⟩
end Go.Proofs.YtccbblnlmggjbaaGreatDoor
