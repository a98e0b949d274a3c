/- twin.CheckCells at right cells; slices.Equal of equal cells, by their contracts. -/
import Derived.Test.YtkcpfppjdjkjeaaGreatDoorCeG
import Derived.Test.YtkcpfppjdjkjeaaGreatDoorMgB
import Derived.Test.YtkcpfppjdjkjeaaGreatDoorMgA
namespace Go.Proofs.YtkcpfppjdjkjeaaGreatDoor
open Go.RowKit

theorem rising_getE {l : List Ce} (h : l.Pairwise (fun x y => x.1 < y.1)) {i k : Nat} {x y : Ce} (hi : l[i]? = some x) (hk : l[k]? = some y) (hik : i < k) : x.1 < y.1 := by
  obtain ⟨h1, rfl⟩ := List.getElem?_eq_some_iff.1 hi
  obtain ⟨h2, rfl⟩ := List.getElem?_eq_some_iff.1 hk
  exact (List.pairwise_iff_getElem.1 h) i k h1 h2 hik
set_option maxRecDepth 100000 in
set_option maxHeartbeats 4000000 in
theorem checkCells_any (l : List Ce) (n c : Nat) (A : Option Addr) (w : World) (hl : CsOk l) (hn : l.length = n) (hn7 : n ≤ 100) (hr : Row w w.heap.size A (recs ceC l)) (hT : U8T w) :
    Calls Tryz.prog 31 #[.slice A n c] w fun e w' => e = .returned (.int .i64 0) ∧ Below w.heap.size w w' := by
  have HR := Lib.hid hr
  have HL := Lib.hid hl
  have HN := Lib.hid hn
  have HT := Lib.hid (fun V (hV : Below w.heap.size w V) => hT.below hV)
  have hnI : ¬ (n : Int) > 500 := by omega
  have hnI2 : ¬ (500 : Int) < n := by omega
  clear hr hl hn hT
  go_enter Tryz.func31, Tryz.ntmps31
  go_wp2_with (fail)
  go_loopw [11] (fun s wr => ∃ (i : Nat), i ≤ n ∧ s = .int .i64 (i : Int) ∧ Below w.heap.size w wr) (fun s _ => n - (intOf s).toNat)
  case atStart => exact ⟨0, by omega, rfl, Below.refl _ _⟩
  case round =>
    obtain ⟨i, hin, rfl, hbr⟩ := hrel
    have hbs := hbr.size
    have HB := Lib.hid hbr
    clear hbr
    by_cases hlt : i < n
    · have hltI : (i : Int) < n := by omega
      obtain ⟨x, hx⟩ : ∃ x, l[i]? = some x := ⟨_, List.getElem?_eq_getElem (by have := HN.out; omega)⟩
      obtain ⟨b, o, rfl, hb, hC⟩ := (HR.out.below HB.out).posR ceC_len (by omega) (by have := HN.out; omega)
      obtain ⟨hx7, hxv, hxs⟩ := HL.out.2 x (List.mem_of_getElem? hx)
      have HXV := Lib.hid hxv
      have HXS := Lib.hid hxs
      obtain ⟨c0, c1, c2, c3, c4, c5, c6, c7⟩ := ce_cells hC i x hx
      have HP := Lib.hid hx
      clear hx hC hxv hxs
      go_wp2_with (fail)
      refine (isName_nm x.1 _).mono ?_
      rintro e w1 ⟨rfl, hb1⟩
      have hg : w1.heap[wr.heap.size]? = some (ceBlk x) := (hb1.block wr.heap.size (by simp)).trans (heap_new wr _)
      have hz1 := hb1.size
      simp only [World.size_alloc] at hz1
      have HB1 := Lib.hid ((HB.out.alloc hbs _).trans (hb1.mono (by simp; omega)))
      have HG1 := Lib.hid hg
      have hlt1 : wr.heap.size < w1.heap.size := by omega
      have HQ := Lib.hid (fun (V : World) (hV : Below w1.heap.size w1 V) => show CeB V wr.heap.size x from ce_blk ((hV.block wr.heap.size hlt1).trans HG1.out))
      have HV1 := Lib.hid (fun (V : World) (hV : Below w1.heap.size w1 V) => valueFault_any x.2.1 V HXV.out (HT.out _ (HB1.out.trans (hV.mono (by omega)))))
      have HV2 := Lib.hid (fun (V : World) => stampFault_any x.2.2 HXS.out V)
      clear hb1 hg c0 c1 c2 c3 c4 c5 c6 c7
      go_upto_region 8 with (fail)
      refine qRegionTail 7 (by kernel_rfl) (by kernel_rfl) ?_
      simp only [List.take_succ_cons, List.take_zero, List.drop_succ_cons, List.drop_zero]
      repeat (first
        | (go_big_quiet_want; refine qVal (fun V hV => (by (obtain ⟨q0, q1, q2, q3, q4, q5, q6, q7⟩ := HQ.out V hV; go_simp; try rfl))) ?_; simp only [Act.put, List.setIfInBounds_toArray, List.set_cons_zero, List.set_cons_succ]; go_big_quiet_on)
        | (go_big_quiet_want
           refine qCall (fun V hV => (by (obtain ⟨q0, q1, q2, q3, q4, q5, q6, q7⟩ := HQ.out V hV; go_simp; exact ⟨rfl, rfl⟩))) (fun V hV => (by first
             | with_reducible exact (HV1.out V hV).mono (fun e w' h => ⟨h.1, hV.trans (h.2.mono hV.size)⟩)
             | with_reducible exact (HV2.out V).mono (fun e w' h => ⟨h.1, hV.trans (h.2.mono hV.size)⟩))) ?_
           simp only [Act.put, List.setIfInBounds_toArray, List.set_cons_zero, List.set_cons_succ]; go_big_quiet_on)
        | go_big_quiet_skip)
      refine wpQuiet_nil ?_
      intro w2 hb2
      have HB2 := Lib.hid hb2
      clear hb2
      have HF := Lib.hid (show Cells (w2.alloc (.cells #[.int .i64 0, .int .i64 0] 30)) w2.heap.size 0 (List.replicate 2 (.int .i64 0)) from Cells.new _ _ _ _ _ rfl)
      go_upto_region 11 with (go_at_call 30; refine (first_ok 2 2 _ _ (by omega) HF.out).mono ?_; rintro e w' ⟨rfl, rfl⟩)
      generalize hV : w2.alloc (.cells #[.int .i64 0, .int .i64 0] 30) = V
      have hBV : Below w1.heap.size w1 V := (hV ▸ HB2.out.alloc HB2.out.size _)
      have hzV := hBV.size
      obtain ⟨q0, q1, q2, q3, q4, q5, q6, q7⟩ := HQ.out V hBV
      have HBV := Lib.hid (HB1.out.trans (hBV.mono (by omega)))
      clear hV hBV HF HV1 HV2 q1 q2 q3 q4 q5 q6 q7
      by_cases hi0 : i = 0
      · subst hi0
        have hd : decide ((0 : Int) < 0) = false := by decide
        go_wp2_with (fail)
        go_quiet (fail)
        go_wp2_with (fail)
        go_roundw
        case rel => exact ⟨1, by omega, by simp, below_drewN HBV.out _⟩
        case measure => simp [intOf]; omega
      · have hi1 : 1 ≤ i := by omega
        have hi1I : (0 : Int) < i := by omega
        have hd : decide ((0 : Int) < i) = true := by simpa using hi1I
        have hd2 : decide (0 < i) = true := by simp; omega
        have hd3 : 0 < i := hi1
        obtain ⟨q, hq⟩ : ∃ q, l[i - 1]? = some q := ⟨_, List.getElem?_eq_getElem (by have := HN.out; omega)⟩
        obtain ⟨b', o', e', hb', hC⟩ := (HR.out.below HBV.out).posR ceC_len (by omega) (by have := HN.out; omega)
        cases e'
        have hq7 := (HL.out.2 q (List.mem_of_getElem? hq)).1
        have hqp := rising_getE HL.out.1 hq HP.out (by omega)
        obtain ⟨d0, _⟩ := ce_cells hC (i - 1) q hq
        have hwrap : (i : Int) - 1 = ((i - 1 : Nat) : Int) := by omega
        clear hC hq
        go_wp2_with (fail)
        go_quiet (fail)
        have hle : (Op.bytesLess (nm x.1).toList (nm q.1).toList || (nm x.1).toList == (nm q.1).toList) = false := by rw [nm_le _ _ hx7 hq7]; simp; omega
        rw [hle]
        clear hle
        go_wp2_with (fail)
        go_roundw
        case rel => exact ⟨i + 1, by omega, by simp, below_drewN HBV.out _⟩
        case measure => simp [intOf]; omega
    · have hltI : ¬ (i : Int) < n := by omega
      have hin' : i = n := by omega
      subst hin'
      go_wp2_with (fail)
      go_ret
      exact ⟨rfl, HB.out⟩
set_option maxHeartbeats 2000000 in
theorem eqCe_any (l : List Ce) (n c c' : Nat) (A A' : Option Addr) (w : World) (hn : l.length = n) (hn2 : n ≤ 1000000) (hr : Row w w.heap.size A (recs ceC l)) (hr' : Row w w.heap.size A' (recs ceC l)) :
    Calls Tryz.prog 14 #[.slice A n c, .slice A' n c'] w fun e w' => e = .returned (.bool true) ∧ Below w.heap.size w w' := by
  have HR := Lib.hid hr
  have HR' := Lib.hid hr'
  have HN := Lib.hid hn
  clear hr hr' hn
  go_enter Tryz.func14, Tryz.ntmps14
  go_wp2_with (fail)
  go_loopw [13] (fun i wr => ∃ k : Nat, k ≤ n ∧ i = .int .i64 k ∧ Below w.heap.size w wr) (fun i _ => n - (intOf i).toNat)
  case atStart => exact ⟨0, Nat.zero_le _, rfl, Below.refl _ _⟩
  case round =>
    obtain ⟨k, hk, rfl, hbl⟩ := hrel
    by_cases hlt : k < n
    · have hkl : k < l.length := by have := HN.out; omega
      obtain ⟨b, o, rfl, hb, hc⟩ := (HR.out).posR ceC_len (by omega) (by omega)
      obtain ⟨b', o', rfl, hb', hc'⟩ := (HR'.out).posR ceC_len (by omega) (by omega)
      obtain ⟨x, hx⟩ : ∃ x, l[k]? = some x := ⟨_, List.getElem?_eq_getElem hkl⟩
      obtain ⟨c0, c1, c2, c3, c4, c5, c6, c7⟩ := ce_cells (hc.keep (hbl.block b hb)) k x hx
      obtain ⟨d0, d1, d2, d3, d4, d5, d6, d7⟩ := ce_cells (hc'.keep (hbl.block b' hb')) k x hx
      have HBL := Lib.hid hbl
      have hlt' : (k : Int) < (n : Int) := by omega
      clear hbl hx hkl hc hc'
      go_wp2_with (fail)
      go_quiet (fail)
      go_wp2_with (fail)
      go_roundw
      case rel => exact ⟨k + 1, by omega, by go_num, below_drewN HBL.out _⟩
      case measure => simp [intOf]; omega
    · have HBL := Lib.hid hbl
      clear hbl
      go_wp2_with (fail)
      go_ret
      exact ⟨rfl, HBL.out⟩
end Go.Proofs.YtkcpfppjdjkjeaaGreatDoor
