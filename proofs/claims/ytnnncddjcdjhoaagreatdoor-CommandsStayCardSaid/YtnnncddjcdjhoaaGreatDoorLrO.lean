/- command.Order of any letters: what it hands back is its own. Printed by gen_LrO.py. -/
import Derived.Test.YtnnncddjcdjhoaaGreatDoorLrG
import Derived.Test.YtnnncddjcdjhoaaGreatDoorOfV
import Derived.Test.YtnnncddjcdjhoaaGreatDoorMgB
namespace Go.Proofs.YtnnncddjcdjhoaaGreatDoor
open Go.RowKit Go.Shelf Go.Sort

set_option maxRecDepth 100000 in
set_option maxHeartbeats 1000000 in
set_option maxHeartbeats 2000000 in
theorem ordR_grow (x y : Lr) (w : World) : Calls Tryz.prog 38 #[.agg (lrC x).toArray, .agg (lrC y).toArray] w fun e w' => e = .returned (.int .i64 (cfR x y)) ∧ ∃ q os', w' = grow (w.drewN q) os' := by
  have HP := Lib.hid (fun V => compare_any y.pr x.pr V)
  have HC := Lib.hid (fun V => compare_any x.at_ y.at_ V)
  have HD := Lib.hid (fun V => scompare_any x.id y.id V)
  show Calls Tryz.prog 38 #[.agg #[.string x.id, .string x.sl, .string x.bo, .int .i64 x.pr, .int .i64 x.at_, .int .i64 x.un], .agg #[.string y.id, .string y.sl, .string y.bo, .int .i64 y.pr, .int .i64 y.at_, .int .i64 y.un]] w _
  unfold cfR cbY
  obtain ⟨x0, x1, x2, x3, x4, x5⟩ := x
  obtain ⟨y0, y1, y2, y3, y4, y5⟩ := y
  simp only at HC HP HD ⊢
  generalize Lib.compareBytes x0.data.toList y0.data.toList = r2 at HD ⊢
  generalize cmpI x4 y4 = r1 at HC ⊢
  generalize cmpI y3 x3 = r0 at HP ⊢
  go_enter Tryz.func38, Tryz.ntmps38
  go_wp2_with (fail)
  generalize hW : ((w.alloc (.cells #[.string x0, .string x1, .string x2, .int .i64 x3, .int .i64 x4, .int .i64 x5] 35)).alloc (.cells #[.string y0, .string y1, .string y2, .int .i64 y3, .int .i64 y4, .int .i64 y5] 35)) = W
  have hG : W = grow (w.drewN 0) #[.cells #[.string x0, .string x1, .string x2, .int .i64 x3, .int .i64 x4, .int .i64 x5] 35, .cells #[.string y0, .string y1, .string y2, .int .i64 y3, .int .i64 y4, .int .i64 y5] 35] := by rw [← hW, alloc_eq_grow, alloc_eq_grow, grow_grow]; rfl
  have hx : W.heap[w.heap.size]? = some (.cells #[.string x0, .string x1, .string x2, .int .i64 x3, .int .i64 x4, .int .i64 x5] 35) := by
    rw [← hW, Below.heap_alloc _ _ _ (by simp)]; exact heap_new w _
  have hy : W.heap[w.heap.size + 1]? = some (.cells #[.string y0, .string y1, .string y2, .int .i64 y3, .int .i64 y4, .int .i64 y5] 35) := by
    rw [← hW]; have := heap_new (w.alloc (.cells #[.string x0, .string x1, .string x2, .int .i64 x3, .int .i64 x4, .int .i64 x5] 35)) (.cells #[.string y0, .string y1, .string y2, .int .i64 y3, .int .i64 y4, .int .i64 y5] 35); simpa using this
  have p0 : W.cell? ⟨w.heap.size, 0, none⟩ = some (.string x0) := cell_of_blk hx rfl
  have q0 : W.cell? ⟨w.heap.size + 1, 0, none⟩ = some (.string y0) := cell_of_blk hy rfl
  have p3 : W.cell? ⟨w.heap.size, 3, none⟩ = some (.int .i64 x3) := cell_of_blk hx rfl
  have q3 : W.cell? ⟨w.heap.size + 1, 3, none⟩ = some (.int .i64 y3) := cell_of_blk hy rfl
  have p4 : W.cell? ⟨w.heap.size, 4, none⟩ = some (.int .i64 x4) := cell_of_blk hx rfl
  have q4 : W.cell? ⟨w.heap.size + 1, 4, none⟩ = some (.int .i64 y4) := cell_of_blk hy rfl
  have HG := Lib.hid hG
  clear hW hx hy hG
  refine wp_region_still_tail 15 (by kernel_rfl) (by kernel_rfl) ?_
  simp only [List.take_succ_cons, List.take_zero, List.drop_succ_cons, List.drop_zero]
  change wpStill _ _ W.drew _ _ _
  repeat still_step
  still_call (flip_ (HP.out _))
  repeat still_step
  still_call (flip_ (HC.out _))
  repeat still_step
  still_call (flip_ (HD.out _))
  repeat still_step
  try refine wpStill_nil ?_
  have hsz' : W.drew.heap.size = W.heap.size := rfl
  go_wp2_with (fail)
  have hcs : Cells (W.alloc (.cells #[.int .i64 r0, .int .i64 r1, .int .i64 r2] 3)).drew W.heap.size 0 ([r0, r1, r2].map (Value.int .i64)) := Cells.new W #[.int .i64 r0, .int .i64 r1, .int .i64 r2] 3 (0, 0) _ rfl
  refine (or_any [r0, r1, r2] 3 3 W.heap.size _ rfl (by omega) hcs).mono ?_
  rintro e w' ⟨rfl, rfl⟩
  go_wp2_with (fail)
  go_ret
  refine ⟨rfl, 1, #[.cells #[.string x0, .string x1, .string x2, .int .i64 x3, .int .i64 x4, .int .i64 x5] 35, .cells #[.string y0, .string y1, .string y2, .int .i64 y3, .int .i64 y4, .int .i64 y5] 35] ++ #[.cells #[.int .i64 r0, .int .i64 r1, .int .i64 r2] 3], ?_⟩
  rw [HG.out, alloc_eq_grow, grow_grow]
  rfl
def sortRPost (l : List Lr) (n base : Nat) (v : Value) (w : World) (e : Ending) (w' : World) : Prop :=
  e = .returned (.tuple #[]) ∧ ∃ m : List Lr, m.Perm l ∧ m.length = n ∧ w'.ownsRow base 35 6 v n (recs lrC m) ∧ w.grownBy w' v.ownBlock
theorem sortR_any (l : List Lr) (n c base : Nat) (A : Option Addr) (w : World) (hn : l.length = n) (h12 : n ≤ 12) (ho : w.ownsRow base 35 6 (.slice A n c) n (recs lrC l)) :
    Calls Tryz.prog 37 #[.slice A n c, .func (.func 38) #[] #[]] w fun e w' => sortRPost l n base (.slice A n c) w e w' := by
  rcases own_two ho with ⟨rfl, rfl, rfl⟩ | ⟨b, rfl, hb, hlt⟩
  · refine (sortL_none none 0 _ w).mono ?_
    rintro e w' ⟨rfl, rfl⟩
    have hl := List.eq_nil_of_length_eq_zero hn
    subst hl
    exact ⟨rfl, [], List.Perm.refl _, rfl, ho, grown_refl _ _⟩
  · have eg : ∀ args w, (callFunc 38 args).run Tryz.prog w = .ok (.enter 38 args) w := enters_of Tryz.func38 (by kernel_rfl) rfl
    have hcmp : CmpLays Tryz.prog 38 #[] lrC 6 cfR b 0 l.toArray.size w := by
      intro m os dk _ x y
      exact ordR_grow x y _
    have h := AnyQ.slices_SortFunc_small_sorted laySL 6 Tryz.isAgg35 Tryz.sizeOf35 lrC lrC_len lrC_one cfR 38 #[] cfR_ok.swo b 0 c l.toArray w eg hcmp (holdsK_of_own lrC_len ho hn) hlt (by simpa [hn] using h12) bitsLenL
    have hsz : l.toArray.size = n := by simpa using hn
    rw [hsz] at h
    refine h.mono ?_
    rintro e w' ⟨rfl, d', q, os, hp, hs, rfl⟩
    rw [← hsz] at hp hs
    obtain ⟨h1, h2, h3⟩ := sorted_list hp hs
    obtain ⟨m, rfl⟩ : ∃ m : List Lr, d' = m.toArray := ⟨d'.toList, by simp⟩
    exact ⟨rfl, m, by simpa using h1, by simpa [hn] using h2, own_sortedK lrC_len ho (by simpa [hn] using h2) q os, grown_sortedK _⟩

theorem order1_b (y0 y1 y2 id : ByteArray) (y3 y4 y5 : Int) (q : Nat) (w : World) (h0 : w.cell? ⟨q, 0, none⟩ = some (.string id)) :
    Calls Tryz.prog 35 #[.agg #[.string y0, .string y1, .string y2, .int .i64 y3, .int .i64 y4, .int .i64 y5], .pointer (some ⟨q, 0, none⟩)] w fun e w' => YesNo e ∧ Below w.heap.size w w' := by
  have hq := World.block_lt_of_cell? w _ h0
  simp only at hq
  go_enter Tryz.func35, Tryz.ntmps35
  go_wp2_with (fail)
  go_ret
  exact ⟨⟨_, rfl⟩, (Below.refl _ _).alloc (Nat.le_refl _) _⟩
set_option maxRecDepth 100000 in
set_option maxHeartbeats 1000000 in
theorem idxL_b (L : List Lr) (id : ByteArray) (q n c b o : Nat) (w : World) (hn : L.length = n) (hn5 : n ≤ 5000) (hb : b < w.heap.size) (hc : Cells w b o (recs lrC L)) (h0 : w.cell? ⟨q, 0, none⟩ = some (.string id)) :
    Calls Tryz.prog 69 #[.slice (some ⟨b, o, none⟩) n c, .func (.func 35) #[] #[.pointer (some ⟨q, 0, none⟩)]] w fun e w' => (∃ r : Int, e = .returned (.int .i64 r)) ∧ Below w.heap.size w w' := by
  have hq := World.block_lt_of_cell? w _ h0
  simp only at hq
  have HC := Lib.hid hc
  have H0 := Lib.hid h0
  clear hc h0
  go_enter Tryz.func69, Tryz.ntmps69
  go_wp2_with (fail)
  go_loopw [8] (fun s wr => ∃ k : Nat, k ≤ n ∧ s = .int .i64 k ∧ Below w.heap.size w wr) (fun s _ => n - (intOf s).toNat)
  case atStart => exact ⟨0, Nat.zero_le _, rfl, Below.refl _ _⟩
  case round =>
    obtain ⟨k, hk, rfl, hbl⟩ := hrel
    have hsz := hbl.size
    by_cases hlt : k < n
    · obtain ⟨x, hx⟩ : ∃ x, L[k]? = some x := ⟨_, List.getElem?_eq_getElem (by omega)⟩
      have hcr := HC.out.keep (hbl.block b hb)
      have c0 := rec_cell lrC_len hcr k x hx 0 _ rfl
      have c1 := rec_cell lrC_len hcr k x hx 1 _ rfl
      have c2 := rec_cell lrC_len hcr k x hx 2 _ rfl
      have c3 := rec_cell lrC_len hcr k x hx 3 _ rfl
      have c4 := rec_cell lrC_len hcr k x hx 4 _ rfl
      have c5 := rec_cell lrC_len hcr k x hx 5 _ rfl
      simp only [Nat.add_zero] at c0
      have HBL := Lib.hid hbl
      have HCALL := Lib.hid (order1_b x.id x.sl x.bo id x.pr x.at_ x.un q wr ((hbl.cell (p := ⟨q, 0, none⟩) hq).trans H0.out))
      have hlt' : (k : Int) < (n : Int) := by omega
      clear hbl hcr hx
      go_wp2_with (fail)
      refine HCALL.out.mono ?_
      rintro e w' ⟨⟨b, rfl⟩, hbw⟩
      have HB3 := Lib.hid (show Below w.heap.size w w' from (HBL.out).trans (hbw.mono hsz))
      clear hbw
      cases b with
      | true =>
        go_wp2_with (fail)
        go_ret
        exact ⟨⟨_, rfl⟩, HB3.out⟩
      | false =>
        go_wp2_with (fail)
        go_roundw
        case rel => exact ⟨k + 1, by omega, by go_num, HB3.out⟩
        case measure => simp [intOf]; omega
    · have HBL := Lib.hid hbl
      clear hbl
      go_wp2_with (fail)
      go_ret
      exact ⟨⟨_, rfl⟩, HBL.out⟩
theorem contL_b (L : List Lr) (id : ByteArray) (q n c b o : Nat) (w : World) (hn : L.length = n) (hn5 : n ≤ 5000) (hb : b < w.heap.size) (hc : Cells w b o (recs lrC L)) (h0 : w.cell? ⟨q, 0, none⟩ = some (.string id)) :
    Calls Tryz.prog 34 #[.slice (some ⟨b, o, none⟩) n c, .func (.func 35) #[] #[.pointer (some ⟨q, 0, none⟩)]] w fun e w' => YesNo e ∧ Below w.heap.size w w' := by
  have H := Lib.hid (idxL_b L id q n c b o w hn hn5 hb hc h0)
  clear hc h0 hb hn
  go_enter Tryz.func34, Tryz.ntmps34
  go_wp2_with (fail)
  refine H.out.mono ?_
  rintro e w' ⟨⟨r, rfl⟩, hbw⟩
  have HB := Lib.hid hbw
  clear hbw
  go_wp2_with (fail)
  go_ret
  exact ⟨⟨_, rfl⟩, HB.out⟩
def OrPost (w : World) (e : Ending) (w' : World) : Prop :=
  ∃ (A : Option Addr) (n c : Nat) (z : Int) (L : List Lr), e = .returned (.tuple #[.slice A n c, .int .i64 z]) ∧ L.length = n ∧ n ≤ 5 ∧ w'.ownsRow w.heap.size 35 6 (.slice A n c) n (recs lrC L) ∧ Below w.heap.size w w'
theorem OrPost.nil {w w' : World} (z : Int) (h : Below w.heap.size w w') : OrPost w (.returned (.tuple #[.slice none 0 0, .int .i64 z])) w' :=
  ⟨Option.none, 0, 0, z, [], rfl, rfl, by omega, World.ownsRow_nil _ _ _ _, h⟩
theorem recs_takeL (L : List Lr) (i : Nat) : (recs lrC L).take (i * 6) = recs lrC (L.take i) := by
  induction L generalizing i with
  | nil => simp [recs]
  | cons x L ih =>
    cases i with
    | zero => simp [recs]
    | succ i =>
      have e : recs lrC (x :: L) = lrC x ++ recs lrC L := by simp [recs]
      have e2 : recs lrC ((x :: L).take (i + 1)) = lrC x ++ recs lrC (L.take i) := by simp [recs]
      rw [e, e2, ← ih i, show (i + 1) * 6 = (lrC x).length + i * 6 by rw [lrC_len]; omega, List.take_length_add_append]
set_option maxRecDepth 100000 in
set_option maxHeartbeats 2000000 in
theorem order_b (L : List Lr) (n c base : Nat) (A : Option Addr) (w : World) (hn : L.length = n) (hn5 : n ≤ 5) (hk : ∀ x ∈ L, LrK x) (ho : w.ownsRow base 35 6 (.slice A n c) n (recs lrC L)) (hT : U8T w) :
    Calls Tryz.prog 6 #[.slice A n c] w fun e w' => OrPost w e w' := by
  have hcap := own_cap ho
  rcases own_two ho with ⟨rfl, rfl, rfl⟩ | ⟨b, rfl, hb, hlt⟩
  · go_enter Tryz.func6, Tryz.ntmps6
    go_wp2_with (fail)
    refine wp_loop_rounds 1 ?_
    rw [rounds_succ]
    go_wp2_with (fail)
    refine (cloneO_nil 0 0 w).mono ?_
    rintro e w' ⟨rfl, rfl⟩
    go_wp2_with (fail)
    refine (sortR_any [] 0 0 w.heap.size none w rfl (by omega) (World.ownsRow_nil _ _ _ _)).mono ?_
    rintro e w' ⟨rfl, m, hp, hl, ho2, hg⟩
    have HF := Lib.hid (show OrPost w (.returned (.tuple #[.slice none 0 0, .int .i64 0])) w' from ⟨none, 0, 0, 0, m, rfl, hl, by omega, ho2, ⟨hg.os, hg.tape, hg.output, hg.size, fun i hi => hg.block i hi (by simp [Value.ownBlock])⟩⟩)
    clear hp hl ho2 hg
    go_wp2_with (fail)
    exact bodyPost_ret (v := .tuple #[.slice none 0 0, .int .i64 0]) (by simp [results, Tryz.results6, go_sem]) rfl HF.out
  · have HC := Lib.hid (own_cells0 ho)
    have HK := Lib.hid hk
    have HLN := Lib.hid hn
    have HT := Lib.hid hT
    clear ho hk hT hn
    go_enter Tryz.func6, Tryz.ntmps6
    go_wp2_with (fail)
    go_loopw [13] (fun s wr => ∃ k : Nat, k ≤ n ∧ s = .int .i64 k ∧ Below w.heap.size w wr) (fun s _ => n - (intOf s).toNat)
    case atStart => exact ⟨0, Nat.zero_le _, rfl, Below.refl _ _⟩
    case round =>
      obtain ⟨k, hk, rfl, hbl⟩ := hrel
      have hsz := hbl.size
      by_cases hltk : k < n
      · obtain ⟨x, hx⟩ : ∃ x, L[k]? = some x := ⟨_, List.getElem?_eq_getElem (by have := HLN.out; omega)⟩
        have hcr := HC.out.keep (hbl.block b hlt)
        have c0 := rec_cell lrC_len hcr k x hx 0 _ rfl
        have c1 := rec_cell lrC_len hcr k x hx 1 _ rfl
        have c2 := rec_cell lrC_len hcr k x hx 2 _ rfl
        have c3 := rec_cell lrC_len hcr k x hx 3 _ rfl
        have c4 := rec_cell lrC_len hcr k x hx 4 _ rfl
        have c5 := rec_cell lrC_len hcr k x hx 5 _ rfl
        simp only [Nat.add_zero, Nat.zero_add] at c0 c1 c2 c3 c4 c5
        have HXK := Lib.hid (HK.out x (List.mem_of_getElem? hx))
        have HBL := Lib.hid hbl
        have hlt' : (k : Int) < (n : Int) := by omega
        obtain ⟨g, eg⟩ : ∃ g, g = wr.heap.size := ⟨_, rfl⟩
        obtain ⟨w1, e1⟩ : ∃ V, V = wr.alloc (.cells #[.string x.id, .string x.sl, .string x.bo, .int .i64 x.pr, .int .i64 x.at_, .int .i64 x.un] 35) := ⟨_, rfl⟩
        have hg1 : w1.heap[g]? = some (.cells #[.string x.id, .string x.sl, .string x.bo, .int .i64 x.pr, .int .i64 x.at_, .int .i64 x.un] 35 (0, 0)) := by rw [e1, eg]; exact heap_new wr _
        have hb1 : Below w.heap.size w w1 := by rw [e1]; exact hbl.alloc (by omega) _
        have hgl := (Array.getElem?_eq_some_iff.1 hg1).1
        have d0 := cell_of_blk (j := 0) hg1 rfl
        have d1 := cell_of_blk (j := 1) hg1 rfl
        have d2 := cell_of_blk (j := 2) hg1 rfl
        have d3 := cell_of_blk (j := 3) hg1 rfl
        have d4 := cell_of_blk (j := 4) hg1 rfl
        have d5 := cell_of_blk (j := 5) hg1 rfl
        have HB1 := Lib.hid hb1
        have HG1 := Lib.hid hg1
        clear hbl hcr hx hb1 hg1
        go_upto_region 6 with (fail)
        rw [← eg, ← e1]
        clear eg e1 c0 c1 c2 c3 c4 c5
        go_wp2_with (fail)
        refine (checkLetter_b x w1 HXK.out (HT.out.below HB1.out)).mono ?_
        rintro e w2 ⟨⟨z, rfl⟩, hb2⟩
        have HB2 := Lib.hid (HB1.out.trans (hb2.mono HB1.out.size))
        have hg2 := (hb2.block g hgl).trans HG1.out
        have HI := Lib.hid (cell_of_blk (j := 0) hg2 rfl)
        clear hb2 hg2 d0 d1 d2 d3 d4 d5
        by_cases hz : z = 0
        · subst hz
          have hkc : k ≤ c := by omega
          go_wp2_with (fail)
          have hcs : Cells w2 b 0 (recs lrC (L.take k)) := by
            have h := HC.out.keep (HB2.out.block b hlt)
            intro j u hu
            refine h j u ?_
            rw [← recs_takeL, List.getElem?_take] at hu
            split at hu
            · exact hu
            · cases hu
          refine (contL_b (L.take k) x.id g k _ b 0 w2 (by rw [List.length_take]; have := HLN.out; omega) (by omega) (by have := HB2.out.size; omega) hcs HI.out).mono ?_
          rintro e w3 ⟨⟨bb, rfl⟩, hb3⟩
          have HB3 := Lib.hid (HB2.out.trans (hb3.mono HB2.out.size))
          clear hb3 hcs
          cases bb with
          | true =>
            go_wp2_with (fail)
            exact bodyPost_ret (v := .tuple #[.slice none 0 0, .int .i64 6]) (by simp [results, Tryz.results6, go_sem]) rfl (OrPost.nil _ HB3.out)
          | false =>
            go_wp2_with (fail)
            go_roundw
            case rel => exact ⟨k + 1, by omega, by go_num, HB3.out⟩
            case measure => simp [intOf]; omega
        · go_wp2_with (fail)
          exact bodyPost_ret (v := .tuple #[.slice none 0 0, .int .i64 z]) (by simp [results, Tryz.results6, go_sem]) rfl (OrPost.nil _ HB2.out)
      · obtain rfl : k = n := by omega
        have HBL := Lib.hid hbl
        have hblt : b < wr.heap.size := by omega
        have HC2 := Lib.hid (HC.out.keep (hbl.block b hlt))
        clear hbl
        go_wp2_with (fail)
        refine (cloneO_some b 0 k c (recs lrC L) wr (by rw [recs_length lrC_len, HLN.out]) (recs_one lrC_one L) (by omega) HC2.out).mono ?_
        rintro e w2 ⟨v, rfl, ho2, hb2⟩
        obtain ⟨A2, c2, rfl⟩ := own_slice ho2
        have HO2 := Lib.hid ho2
        have HB2 := Lib.hid (HBL.out.trans (hb2.mono hsz))
        clear ho2 hb2
        go_wp2_with (fail)
        refine (sortR_any L k c2 wr.heap.size A2 w2 HLN.out (by omega) HO2.out).mono ?_
        rintro e w3 ⟨rfl, m, hp, hl, ho3, hg⟩
        have hlo : ∀ q, (Value.slice A2 k c2).ownBlock = some q → w.heap.size ≤ q := fun q hq => by have := (HO2.out.lt q hq).1; omega
        have HF := Lib.hid (show OrPost w (.returned (.tuple #[.slice A2 k c2, .int .i64 0])) w3 from ⟨A2, k, c2, 0, m, rfl, hl, hn5, own_mono ho3 hsz, HB2.out.grown hg (by have := HB2.out.size; omega) hlo⟩)
        clear hp hl ho3 hg hlo
        go_wp2_with (fail)
        exact bodyPost_ret (v := .tuple #[.slice A2 k c2, .int .i64 0]) (by simp [results, Tryz.results6, go_sem]) rfl HF.out
end Go.Proofs.YtnnncddjcdjhoaaGreatDoor
