/- CheckNotes of right notes. Printed by gen_OfN.py. -/
import Derived.Test.YtjfjmlmnilmihaaGreatDoorOfX
namespace Go.Proofs.YtjfjmlmnilmihaaGreatDoor
open Go.RowKit

structure NnOk (n : On) : Prop where
  ol : OlOk n.l
  s : 1 ≤ n.s ∧ n.s ≤ 7
  t : 0 ≤ n.t ∧ n.t ≤ 20
  c : 0 ≤ n.c ∧ n.c < 345686400000
theorem idL_le (i j : Nat) (hi : i < 6) (hj : j < 6) : (Op.bytesLess (idL i).toList (idL j).toList || (idL i).toList == (idL j).toList) = decide (i ≤ j) := by
  rw [Lib.toList_data, Lib.toList_data]
  rcases six_of hi with h | h | h | h | h | h <;> subst h <;> rcases six_of hj with h | h | h | h | h | h <;> subst h <;> decide
theorem rising_getO {l : List On} (h : l.Pairwise (fun x y => x.l.id < y.l.id)) {i k : Nat} {x y : On} (hi : l[i]? = some x) (hk : l[k]? = some y) (hik : i < k) : x.l.id < y.l.id := by
  obtain ⟨h1, rfl⟩ := List.getElem?_eq_some_iff.1 hi
  obtain ⟨h2, rfl⟩ := List.getElem?_eq_some_iff.1 hk
  exact (List.pairwise_iff_getElem.1 h) i k h1 h2 hik
set_option maxRecDepth 100000 in
set_option maxHeartbeats 4000000 in
theorem checkNotesO_any (l : List On) (n c : Nat) (A : Option Addr) (w : World) (hs : l.Pairwise (fun x y => x.l.id < y.l.id)) (hl : ∀ x ∈ l, NnOk x) (hn : l.length = n) (hn7 : n ≤ 1000) (hr : Row w w.heap.size A (recs onC l)) (hT : U8T w) :
    Calls Tryz.prog 24 #[.slice A n c] w fun e w' => e = .returned (.int .i64 0) ∧ Below w.heap.size w w' := by
  have HR := Lib.hid hr
  have HL := Lib.hid hl
  have HSO := Lib.hid hs
  have HN := Lib.hid hn
  have HT := Lib.hid (fun V (hV : Below w.heap.size w V) => hT.below hV)
  have hnI : ¬ (n : Int) > 1500 := by omega
  have hnI2 : ¬ (1500 : Int) < n := by omega
  clear hr hl hn hT hs
  go_enter Tryz.func24, Tryz.ntmps24
  go_wp2_with (fail)
  go_loopw [11] (fun s wr => ∃ (i : Nat), i ≤ n ∧ s = .int .i64 (i : Int) ∧ Below w.heap.size w wr) (fun s _ => n - (intOf s).toNat)
  case atStart => exact ⟨0, by omega, rfl, Below.refl _ _⟩
  case round =>
    obtain ⟨i, hin, rfl, hbr⟩ := hrel
    have hbs := hbr.size
    have HB := Lib.hid hbr
    clear hbr
    by_cases hlt : i < n
    · have hltI : (i : Int) < n := by omega
      obtain ⟨x, hx⟩ : ∃ x, l[i]? = some x := ⟨_, List.getElem?_eq_getElem (by have := HN.out; omega)⟩
      obtain ⟨b, o, rfl, hb, hC⟩ := (HR.out.below HB.out).posR onC_len (by omega) (by have := HN.out; omega)
      have hok := HL.out x (List.mem_of_getElem? hx)
      obtain ⟨g1, g2⟩ := hok.s
      obtain ⟨g3, g4⟩ := hok.t
      obtain ⟨g5, g6⟩ := hok.c
      have HXO := Lib.hid hok.ol
      have c0 : wr.cell? ⟨b, o + i * 9, none⟩ = some (.string (idL x.l.id)) := rec_cell onC_len hC i x hx 0 _ rfl
      have c1 := rec_cell onC_len hC i x hx 1 _ rfl
      have c2 := rec_cell onC_len hC i x hx 2 _ rfl
      have c3 := rec_cell onC_len hC i x hx 3 _ rfl
      have c4 := rec_cell onC_len hC i x hx 4 _ rfl
      have c5 := rec_cell onC_len hC i x hx 5 _ rfl
      have c6 := rec_cell onC_len hC i x hx 6 _ rfl
      have c7 := rec_cell onC_len hC i x hx 7 _ rfl
      have c8 := rec_cell onC_len hC i x hx 8 _ rfl
      have HP := Lib.hid hx
      obtain ⟨g, eg⟩ : ∃ z, z = wr.heap.size := ⟨_, rfl⟩
      obtain ⟨w0, e0⟩ : ∃ V : World, V = wr.alloc (.cells #[.string (idL x.l.id), .string (slL x.l.sl), .string (boL x.l.bo), .int .i64 x.l.pr, .int .i64 x.l.at_, .int .i64 x.l.un, .int .i64 x.s, .int .i64 x.t, .int .i64 x.c] 50) := ⟨_, rfl⟩
      have hb0 : Below wr.heap.size wr w0 := by rw [e0]; exact (Below.refl _ _).alloc (Nat.le_refl _) _
      have hg0 : w0.heap[g]? = some (.cells #[.string (idL x.l.id), .string (slL x.l.sl), .string (boL x.l.bo), .int .i64 x.l.pr, .int .i64 x.l.at_, .int .i64 x.l.un, .int .i64 x.s, .int .i64 x.t, .int .i64 x.c] 50 (0, 0)) := by rw [e0, eg]; exact heap_new wr _
      have HB0 := Lib.hid (HB.out.trans (hb0.mono hbs))
      have hlg0 := (Array.getElem?_eq_some_iff.1 hg0).1
      have HCL := Lib.hid (checkLetter_any x.l w0 HXO.out (HT.out _ HB0.out))
      unfold olV at HCL
      have HG0 := Lib.hid hg0
      clear hx hC hok
      go_upto_region 6 with (fail)
      rw [← eg, ← e0]
      have k0 := cell_of_blk (j := 0) hg0 rfl
      have k1 := cell_of_blk (j := 1) hg0 rfl
      have k2 := cell_of_blk (j := 2) hg0 rfl
      have k3 := cell_of_blk (j := 3) hg0 rfl
      have k4 := cell_of_blk (j := 4) hg0 rfl
      have k5 := cell_of_blk (j := 5) hg0 rfl
      clear eg e0 hb0 hg0 c0 c1 c2 c3 c4 c5 c6 c7 c8
      go_wp2_with (fail)
      refine HCL.out.mono ?_
      rintro e w1 ⟨rfl, hb1⟩
      have hg := (hb1.block g hlg0).trans HG0.out
      have HB1 := Lib.hid (HB0.out.trans (hb1.mono HB0.out.size))
      have hlg1 := (Array.getElem?_eq_some_iff.1 hg).1
      clear k0 k1 k2 k3 k4 k5 HCL
      have k0 := cell_of_blk (j := 0) hg rfl
      have k6 := cell_of_blk (j := 6) hg rfl
      have k7 := cell_of_blk (j := 7) hg rfl
      have k8 := cell_of_blk (j := 8) hg rfl
      clear hb1 hg
      go_upto_region 13 with (first | (go_at_call 51; refine (moment_yes _ _ (by omega) (by omega)).mono ?_; rintro e w' ⟨rfl, rfl⟩) | (go_at_call 32; refine (out_no _ _ _ _ (by omega) (by omega)).mono ?_; rintro e w' ⟨rfl, rfl⟩))
      by_cases hi0 : i = 0
      · subst hi0
        have hd : decide ((0 : Int) < 0) = false := by decide
        go_quiet (fail)
        go_wp2_with (fail)
        go_roundw
        case rel => exact ⟨1, by omega, by simp, below_drewN HB1.out _⟩
        case measure => simp [intOf]; omega
      · have hi1 : 1 ≤ i := by omega
        have hi1I : (0 : Int) < i := by omega
        have hd : decide ((0 : Int) < i) = true := by simpa using hi1I
        have hd2 : decide (0 < i) = true := by simp; omega
        have hd3 : 0 < i := hi1
        obtain ⟨q, hq⟩ : ∃ q, l[i - 1]? = some q := ⟨_, List.getElem?_eq_getElem (by have := HN.out; omega)⟩
        obtain ⟨b', o', e', hb', hC⟩ := (HR.out.below HB1.out).posR onC_len (by omega) (by have := HN.out; omega)
        cases e'
        have hq7 := (HL.out q (List.mem_of_getElem? hq)).ol.id
        have hx7 := HXO.out.id
        have hqp := rising_getO HSO.out hq HP.out (by omega)
        have d0 : w1.cell? ⟨b, o + (i - 1) * 9, none⟩ = some (.string (idL q.l.id)) := rec_cell onC_len hC (i - 1) q hq 0 _ rfl
        have hwrap : (i : Int) - 1 = ((i - 1 : Nat) : Int) := by omega
        clear hC hq
        go_quiet (fail)
        have hle : (Op.bytesLess (idL x.l.id).toList (idL q.l.id).toList || (idL x.l.id).toList == (idL q.l.id).toList) = false := by rw [idL_le _ _ hx7 hq7]; simp; omega
        rw [hle]
        clear hle
        go_wp2_with (fail)
        go_roundw
        case rel => exact ⟨i + 1, by omega, by simp, below_drewN HB1.out _⟩
        case measure => simp [intOf]; omega
    · have hltI : ¬ (i : Int) < n := by omega
      have hin' : i = n := by omega
      subst hin'
      go_wp2_with (fail)
      go_ret
      exact ⟨rfl, HB.out⟩
end Go.Proofs.YtjfjmlmnilmihaaGreatDoor
