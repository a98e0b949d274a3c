/- CheckNotes of any notes says something; Merge of notes and none hands back its own. -/
import Derived.Test.YtnnncddjcdjhoaaGreatDoorLrG
import Derived.Test.YtnnncddjcdjhoaaGreatDoorCatN
import Derived.Test.YtnnncddjcdjhoaaGreatDoorMgB
namespace Go.Proofs.YtnnncddjcdjhoaaGreatDoor
open Go.RowKit Go.Shelf

set_option maxRecDepth 100000 in
set_option maxHeartbeats 4000000 in
theorem checkNotes_b (l : List Nr) (n c : Nat) (A : Option Addr) (w : World) (hl : ∀ x ∈ l, NrK x) (hn : l.length = n) (hn7 : n ≤ 1000) (hr : Row w w.heap.size A (recs nrC l)) (hT : U8T w) :
    Calls Tryz.prog 40 #[.slice A n c] w fun e w' => CkPost w e w' := by
  have HR := Lib.hid hr
  have HL := Lib.hid hl
  have HN := Lib.hid hn
  have HT := Lib.hid (fun V (hV : Below w.heap.size w V) => hT.below hV)
  have hnI : ¬ (n : Int) > 1500 := by omega
  have hnI2 : ¬ (1500 : Int) < n := by omega
  have HF := Lib.hid (fun (z : Int) (V : World) (h : Below w.heap.size w V) => show CkPost w (.returned (.int .i64 z)) V from ⟨⟨z, rfl⟩, h⟩)
  clear hr hl hn hT
  go_enter Tryz.func40, Tryz.ntmps40
  go_wp2_with (fail)
  go_loopw [11] (fun s wr => ∃ (i : Nat), i ≤ n ∧ s = .int .i64 (i : Int) ∧ Below w.heap.size w wr) (fun s _ => n - (intOf s).toNat)
  case atStart => exact ⟨0, by omega, rfl, Below.refl _ _⟩
  case round =>
    obtain ⟨i, hin, rfl, hbr⟩ := hrel
    have hbs := hbr.size
    have HB := Lib.hid hbr
    clear hbr
    by_cases hlt : i < n
    · have hltI : (i : Int) < n := by omega
      obtain ⟨x, hx⟩ : ∃ x, l[i]? = some x := ⟨_, List.getElem?_eq_getElem (by have := HN.out; omega)⟩
      obtain ⟨b, o, rfl, hb, hC⟩ := (HR.out.below HB.out).posR nrC_len (by omega) (by have := HN.out; omega)
      have HXO := Lib.hid (HL.out x (List.mem_of_getElem? hx))
      have c0 : wr.cell? ⟨b, o + i * 9, none⟩ = some (.string x.l.id) := rec_cell nrC_len hC i x hx 0 _ rfl
      have c1 := rec_cell nrC_len hC i x hx 1 _ rfl
      have c2 := rec_cell nrC_len hC i x hx 2 _ rfl
      have c3 := rec_cell nrC_len hC i x hx 3 _ rfl
      have c4 := rec_cell nrC_len hC i x hx 4 _ rfl
      have c5 := rec_cell nrC_len hC i x hx 5 _ rfl
      have c6 := rec_cell nrC_len hC i x hx 6 _ rfl
      have c7 := rec_cell nrC_len hC i x hx 7 _ rfl
      have c8 := rec_cell nrC_len hC i x hx 8 _ rfl
      obtain ⟨g, eg⟩ : ∃ z, z = wr.heap.size := ⟨_, rfl⟩
      obtain ⟨w0, e0⟩ : ∃ V : World, V = wr.alloc (.cells #[.string x.l.id, .string x.l.sl, .string x.l.bo, .int .i64 x.l.pr, .int .i64 x.l.at_, .int .i64 x.l.un, .int .i64 x.s, .int .i64 x.t, .int .i64 x.c] 40) := ⟨_, rfl⟩
      have hb0 : Below wr.heap.size wr w0 := by rw [e0]; exact (Below.refl _ _).alloc (Nat.le_refl _) _
      have hg0 : w0.heap[g]? = some (.cells #[.string x.l.id, .string x.l.sl, .string x.l.bo, .int .i64 x.l.pr, .int .i64 x.l.at_, .int .i64 x.l.un, .int .i64 x.s, .int .i64 x.t, .int .i64 x.c] 40 (0, 0)) := by rw [e0, eg]; exact heap_new wr _
      have HB0 := Lib.hid (HB.out.trans (hb0.mono hbs))
      have hlg0 := (Array.getElem?_eq_some_iff.1 hg0).1
      have HCL := Lib.hid (checkLetter_b x.l w0 HXO.out (HT.out _ HB0.out))
      have HG0 := Lib.hid hg0
      clear hx hC
      go_upto_region 6 with (fail)
      rw [← eg, ← e0]
      have k0 := cell_of_blk (j := 0) hg0 rfl
      have k1 := cell_of_blk (j := 1) hg0 rfl
      have k2 := cell_of_blk (j := 2) hg0 rfl
      have k3 := cell_of_blk (j := 3) hg0 rfl
      have k4 := cell_of_blk (j := 4) hg0 rfl
      have k5 := cell_of_blk (j := 5) hg0 rfl
      clear eg e0 hb0 hg0 c0 c1 c2 c3 c4 c5 c6 c7 c8
      go_wp2_with (fail)
      refine HCL.out.mono ?_
      rintro e w1 ⟨⟨z, rfl⟩, hb1⟩
      have hg := (hb1.block g hlg0).trans HG0.out
      have HB1 := Lib.hid (HB0.out.trans (hb1.mono HB0.out.size))
      have hlg1 := (Array.getElem?_eq_some_iff.1 hg).1
      clear k0 k1 k2 k3 k4 k5 HCL
      have k0 := cell_of_blk (j := 0) hg rfl
      have k6 := cell_of_blk (j := 6) hg rfl
      have k7 := cell_of_blk (j := 7) hg rfl
      have k8 := cell_of_blk (j := 8) hg rfl
      clear hb1 hg
      by_cases hz : z = 0
      · subst hz
        go_wp2_with (fail)
        refine (out_b x.s 1 7 w1).mono ?_
        rintro e w' ⟨⟨bb, rfl⟩, rfl⟩
        cases bb with
        | true =>
          go_wp2_with (fail)
          go_ret
          exact HF.out _ _ HB1.out
        | false =>
          go_wp2_with (fail)
          refine (out_b x.t 0 20 w1).mono ?_
          rintro e w' ⟨⟨bb, rfl⟩, rfl⟩
          cases bb with
          | true =>
            go_wp2_with (fail)
            go_ret
            exact HF.out _ _ HB1.out
          | false =>
            go_wp2_with (fail)
            refine (moment_b x.c w1).mono ?_
            rintro e w' ⟨⟨bb, rfl⟩, rfl⟩
            cases bb with
            | false =>
              go_wp2_with (fail)
              go_ret
              exact HF.out _ _ HB1.out
            | true =>
              go_upto_region 13 with (fail)
              by_cases hi0 : i = 0
              · subst hi0
                have hd : decide ((0 : Int) < 0) = false := by decide
                go_quiet (fail)
                go_wp2_with (fail)
                go_roundw
                case rel => exact ⟨1, by omega, by simp, below_drewN HB1.out _⟩
                case measure => simp [intOf]; omega
              · have hi1 : 1 ≤ i := by omega
                have hi1I : (0 : Int) < i := by omega
                have hd : decide ((0 : Int) < i) = true := by simpa using hi1I
                have hd2 : decide (0 < i) = true := by simp; omega
                have hd3 : 0 < i := hi1
                obtain ⟨q, hq⟩ : ∃ q, l[i - 1]? = some q := ⟨_, List.getElem?_eq_getElem (by have := HN.out; omega)⟩
                obtain ⟨b', o', e', hb', hC⟩ := (HR.out.below HB1.out).posR nrC_len (by omega) (by have := HN.out; omega)
                cases e'
                have d0 : w1.cell? ⟨b, o + (i - 1) * 9, none⟩ = some (.string q.l.id) := rec_cell nrC_len hC (i - 1) q hq 0 _ rfl
                have hwrap : (i : Int) - 1 = ((i - 1 : Nat) : Int) := by omega
                clear hC hq
                go_quiet (fail)
                generalize (Op.bytesLess x.l.id.toList q.l.id.toList || x.l.id.toList == q.l.id.toList) = bb
                cases bb with
                | true =>
                  go_wp2_with (fail)
                  go_ret
                  exact HF.out _ _ (below_drewN HB1.out _)
                | false =>
                  go_wp2_with (fail)
                  go_roundw
                  case rel => exact ⟨i + 1, by omega, by simp, below_drewN HB1.out _⟩
                  case measure => simp [intOf]; omega
      · go_wp2_with (fail)
        go_ret
        exact HF.out _ _ HB1.out
    · have hltI : ¬ (i : Int) < n := by omega
      have hin' : i = n := by omega
      subst hin'
      go_wp2_with (fail)
      go_ret
      exact HF.out _ _ HB.out
theorem first2_b (z1 z2 : Int) (g : Nat) (w : World) (h0 : w.cell? ⟨g, 0, none⟩ = some (.int .i64 z1)) (h1 : w.cell? ⟨g, 1, none⟩ = some (.int .i64 z2)) :
    Calls Tryz.prog 39 #[.slice (some ⟨g, 0, none⟩) 2 2] w fun e w' => (∃ z, e = .returned (.int .i64 z)) ∧ w = w' := by
  go_enter Tryz.func39, Tryz.ntmps39
  go_wp2_with (fail)
  refine wp_loop_rounds 3 ?_
  by_cases hz1 : z1 = 0
  · subst hz1
    rw [rounds_succ]
    go_wp2_with (fail)
    by_cases hz2 : z2 = 0
    · subst hz2
      rw [rounds_succ]
      go_wp2_with (fail)
      rw [rounds_succ]
      go_wp2_with (fail)
      go_ret
      exact ⟨⟨_, rfl⟩, rfl⟩
    · rw [rounds_succ]
      go_wp2_with (fail)
      go_ret
      exact ⟨⟨_, rfl⟩, rfl⟩
  · rw [rounds_succ]
    go_wp2_with (fail)
    go_ret
    exact ⟨⟨_, rfl⟩, rfl⟩
def MbPost (w : World) (e : Ending) (w' : World) : Prop :=
  ∃ (A : Option Addr) (n c : Nat) (z : Int) (L : List Nr), e = .returned (.tuple #[.slice A n c, .int .i64 z]) ∧ L.length = n ∧ n ≤ 5 ∧ w'.ownsRow w.heap.size 40 9 (.slice A n c) n (recs nrC L) ∧ Below w.heap.size w w'
theorem MbPost.nil {w w' : World} (z : Int) (h : Below w.heap.size w w') : MbPost w (.returned (.tuple #[.slice none 0 0, .int .i64 z])) w' :=
  ⟨Option.none, 0, 0, z, [], rfl, rfl, by omega, World.ownsRow_nil _ _ _ _, h⟩
set_option maxRecDepth 100000 in
set_option maxHeartbeats 4000000 in
theorem merge_b (L : List Nr) (n c base : Nat) (A : Option Addr) (w : World) (hn : L.length = n) (hn5 : n ≤ 5) (hk : ∀ x ∈ L, NrK x) (ho : w.ownsRow base 40 9 (.slice A n c) n (recs nrC L)) (hT : U8T w) :
    Calls Tryz.prog 8 #[.slice A n c, .slice none 0 0] w fun e w' => MbPost w e w' := by
  have HC1 := Lib.hid (checkNotes_b L n c A w hk hn (by omega) (own_row ho) hT)
  have HC2 := Lib.hid (fun V (hV : Below w.heap.size w V) => checkNotes_b [] 0 0 none V (by simp) rfl (by omega) (.inl rfl) (hT.below hV))
  have HLY := Lib.hid (show ∀ V, Below w.heap.size w V → Ly V A n c (recs nrC L) from fun V hV => (own_ly ho).below hV)
  have HN := Lib.hid hn
  clear hn hk ho hT
  go_enter Tryz.func8, Tryz.ntmps8
  go_wp2_with (fail)
  refine HC1.out.mono ?_
  rintro e w1 ⟨⟨z1, rfl⟩, hb1⟩
  have HB1 := Lib.hid hb1
  clear hb1
  go_wp2_with (fail)
  refine (HC2.out w1 HB1.out).mono ?_
  rintro e w2 ⟨⟨z2, rfl⟩, hb2⟩
  have HB2 := Lib.hid (HB1.out.trans (hb2.mono HB1.out.size))
  clear hb2
  go_wp2_with (fail)
  have HB3 := Lib.hid (HB2.out.alloc HB2.out.size (.cells #[.int .i64 z1, .int .i64 z2] 30))
  refine (first2_b z1 z2 w2.heap.size _ (cell_of_blk (heap_new w2 _) rfl) (cell_of_blk (heap_new w2 _) rfl)).mono ?_
  rintro e w3 ⟨⟨z, rfl⟩, rfl⟩
  generalize w2.alloc (.cells #[.int .i64 z1, .int .i64 z2] 30) = w3 at HB3 ⊢
  by_cases hz : z = 0
  · subst hz
    have HF := Lib.hid (fun (W : World) (e : Ending) (w4 : World) (hW : Below w.heap.size w W) (h : ∃ v, e = .returned v ∧ w4.ownsRow W.heap.size 40 9 v n (recs nrC L) ∧ Below W.heap.size W w4) => show ∃ (A' : Option Addr) (c' : Nat), e = .returned (.slice A' n c') ∧ MbPost w (.returned (.tuple #[.slice A' n c', .int .i64 0])) w4 from by
      obtain ⟨v, rfl, ho4, hb4⟩ := h
      obtain ⟨A2, c2, rfl⟩ := own_slice ho4
      exact ⟨A2, c2, rfl, A2, n, c2, 0, L, rfl, HN.out, hn5, own_mono ho4 hW.size, hW.trans (hb4.mono hW.size)⟩)
    have hnI : ¬ (1500 : Int) < n := by omega
    rcases Nat.eq_zero_or_pos n with h0 | h0
    · have hd : ¬ (0 : Int) < (n : Int) := by omega
      clear h0
      go_wp2_with (fail)
      refine wp_loop_rounds 1 ?_
      rw [rounds_succ]
      go_wp2_with (fail)
      have HB4 := Lib.hid (HB3.out.alloc HB3.out.size (.cells #[.slice none 0 0, .slice A n c, .slice none 0 0] 28))
      refine (cat3N_any L n c w3.heap.size A _ HN.out (by omega) (cell_of_blk (heap_new w3 _) rfl) (cell_of_blk (heap_new w3 _) rfl) (cell_of_blk (heap_new w3 _) rfl) (HLY.out _ HB4.out)).mono ?_
      intro e w4 hh
      obtain ⟨A2, c2, rfl, hp⟩ := HF.out _ e w4 HB4.out hh
      have HP := Lib.hid hp
      clear hp hh
      go_wp2_with (fail)
      exact bodyPost_ret (v := .tuple #[.slice A2 n c2, .int .i64 0]) (by simp [results, Tryz.results8, go_sem]) rfl HP.out
    · have hd : (0 : Int) < (n : Int) := by omega
      clear h0
      go_wp2_with (fail)
      refine wp_loop_rounds 1 ?_
      rw [rounds_succ]
      go_wp2_with (fail)
      have HB4 := Lib.hid (HB3.out.alloc HB3.out.size (.cells #[.slice none 0 0, .slice A n c, .slice none 0 0] 28))
      refine (cat3N_any L n c w3.heap.size A _ HN.out (by omega) (cell_of_blk (heap_new w3 _) rfl) (cell_of_blk (heap_new w3 _) rfl) (cell_of_blk (heap_new w3 _) rfl) (HLY.out _ HB4.out)).mono ?_
      intro e w4 hh
      obtain ⟨A2, c2, rfl, hp⟩ := HF.out _ e w4 HB4.out hh
      have HP := Lib.hid hp
      clear hp hh
      go_wp2_with (fail)
      exact bodyPost_ret (v := .tuple #[.slice A2 n c2, .int .i64 0]) (by simp [results, Tryz.results8, go_sem]) rfl HP.out
  · go_wp2_with (fail)
    exact bodyPost_ret (v := .tuple #[.slice none 0 0, .int .i64 z]) (by simp [results, Tryz.results8, go_sem]) rfl (MbPost.nil _ HB3.out)
end Go.Proofs.YtnnncddjcdjhoaaGreatDoor
