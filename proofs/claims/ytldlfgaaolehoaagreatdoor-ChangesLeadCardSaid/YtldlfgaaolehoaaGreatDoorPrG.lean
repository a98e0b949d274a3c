/- twin.CheckProps at right properties by its contract. -/
import Derived.Test.YtldlfgaaolehoaaGreatDoorPrE
import Derived.Test.YtldlfgaaolehoaaGreatDoorPrF
namespace Go.Proofs.YtldlfgaaolehoaaGreatDoor
open Go.RowKit

theorem nm_le (i j : Nat) (hi : i < 7) (hj : j < 7) : (Op.bytesLess (nm i).toList (nm j).toList || (nm i).toList == (nm j).toList) = decide (i ≤ j) := by
  rw [Lib.toList_data, Lib.toList_data]
  have h1 : i = 0 ∨ i = 1 ∨ i = 2 ∨ i = 3 ∨ i = 4 ∨ i = 5 ∨ i = 6 := by omega
  have h2 : j = 0 ∨ j = 1 ∨ j = 2 ∨ j = 3 ∨ j = 4 ∨ j = 5 ∨ j = 6 := by omega
  rcases h1 with h | h | h | h | h | h | h <;> subst h <;> rcases h2 with h | h | h | h | h | h | h <;> subst h <;> decide
def cpF (l : List Pr) : Int := if l.any (fun p => abvF l p.1) = true then 13 else 0
theorem cpF_no {l : List Pr} (h : ∀ (q : Nat) (x : Pr), l[q]? = some x → abvF l x.1 = false) : cpF l = 0 := by
  unfold cpF
  rw [if_neg]
  intro hc
  rw [List.any_eq_true] at hc
  obtain ⟨x, hx, hx2⟩ := hc
  obtain ⟨q, hq⟩ := List.getElem?_of_mem hx
  rw [h q x hq] at hx2
  cases hx2
theorem cpF_yes {l : List Pr} {q : Nat} {x : Pr} (h : l[q]? = some x) (hx : abvF l x.1 = true) : cpF l = 13 := by
  unfold cpF
  rw [if_pos]
  rw [List.any_eq_true]
  exact ⟨x, List.mem_of_getElem? h, hx⟩
set_option maxRecDepth 100000 in
set_option maxHeartbeats 4000000 in
theorem checkProps_any (l : List Pr) (n c : Nat) (A : Option Addr) (w : World) (hl : PrsOk l) (hn : l.length = n) (hn7 : n ≤ 500) (hr : Row w w.heap.size A (recs prC l)) (hT : U8T w) :
    Calls Tryz.prog 61 #[.slice A n c] w fun e w' => e = .returned (.int .i64 (cpF l)) ∧ Below w.heap.size w w' := by
  have HR := Lib.hid hr
  have HL := Lib.hid hl
  have HN := Lib.hid hn
  have HT := Lib.hid (fun V (hV : Below w.heap.size w V) => hT.below hV)
  have hnI : ¬ (n : Int) > 500 := by omega
  have hnI2 : ¬ (500 : Int) < n := by omega
  clear hr hl hn hT
  go_enter Tryz.func61, Tryz.ntmps61
  go_wp2_with (fail)
  go_loopw [13] (fun s wr => ∃ (i : Nat), i ≤ n ∧ s = .int .i64 (i : Int) ∧ Below w.heap.size w wr ∧ wr.heap[w.heap.size]? = some (.cells #[.slice A n c] 26 (0, 0))) (fun s _ => n - (intOf s).toNat)
  case atStart => exact ⟨0, by omega, rfl, (Below.refl _ _).alloc (Nat.le_refl _) _, heap_new w _⟩
  case round =>
    obtain ⟨i, hin, rfl, hbr, hbx⟩ := hrel
    have hbs := hbr.size
    have hbl : w.heap.size < wr.heap.size := (Array.getElem?_eq_some_iff.1 hbx).1
    have HB := Lib.hid hbr
    have HX := Lib.hid hbx
    have x0 := cell_of_blk (j := 0) hbx rfl
    clear hbr hbx
    by_cases hlt : i < n
    · have hltI : (i : Int) < n := by omega
      obtain ⟨p, hp⟩ : ∃ p, l[i]? = some p := ⟨_, List.getElem?_eq_getElem (by have := HN.out; omega)⟩
      obtain ⟨b, o, rfl, hb, hC⟩ := (HR.out.below HB.out).posR prC_len (by omega) (by have := HN.out; omega)
      have hp7 := (HL.out.2 p (List.mem_of_getElem? hp)).1
      have hpk := (HL.out.2 p (List.mem_of_getElem? hp)).2.kne
      have HPv := Lib.hid (HL.out.2 p (List.mem_of_getElem? hp)).2
      obtain ⟨c0, c1, c2, c3, c4⟩ := pr_cells hC i p hp
      have HP := Lib.hid hp
      clear hp hC
      go_wp2_with (fail)
      refine (isName_nm p.1 _).mono ?_
      rintro e w1 ⟨rfl, hb1⟩
      have hg := (hb1.block wr.heap.size (by simp)).trans (heap_new wr (.cells #[.string (nm p.1), .int .i64 p.2.k, .bool p.2.f, .int .i64 p.2.n, .string p.2.s] 40))
      have hz1 := hb1.size
      simp only [World.size_alloc] at hz1
      have hB1 := (HB.out.alloc hbs (.cells #[.string (nm p.1), .int .i64 p.2.k, .bool p.2.f, .int .i64 p.2.n, .string p.2.s] 40)).trans (hb1.mono (by simp; omega))
      have hx1 := (hb1.block w.heap.size (by simp; omega)).trans ((Below.heap_alloc wr _ _ hbl).trans HX.out)
      have g0 := cell_of_blk (j := 0) hg rfl
      have g1 := cell_of_blk (j := 1) hg rfl
      have g2 := cell_of_blk (j := 2) hg rfl
      have g3 := cell_of_blk (j := 3) hg rfl
      have g4 := cell_of_blk (j := 4) hg rfl
      have HB1 := Lib.hid hB1
      have HX1 := Lib.hid hx1
      have HG1 := Lib.hid hg
      have hlt1 : wr.heap.size < w1.heap.size := by omega
      clear hb1 hB1 hx1 hg c0 c1 c2 c3 c4 x0
      go_wp2_with (fail)
      refine (valueFault_any p.2 w1 (.inr HPv.out) (HT.out _ HB1.out)).mono ?_
      rintro e w2 ⟨rfl, hb2⟩
      have hz2 := hb2.size
      have hg := (hb2.block wr.heap.size hlt1).trans HG1.out
      have hx2 := (hb2.block w.heap.size (by omega)).trans HX1.out
      have hB2 := HB1.out.trans (hb2.mono (by omega))
      clear g0 g1 g2 g3 g4
      have g0 := cell_of_blk (j := 0) hg rfl
      have g1 := cell_of_blk (j := 1) hg rfl
      have x0 := cell_of_blk (j := 0) hx2 rfl
      have HB2 := Lib.hid hB2
      have HX2 := Lib.hid hx2
      clear hb2 hg hx2 hB2
      by_cases hi0 : i = 0
      · subst hi0
        have hd : decide ((0 : Int) < 0) = false := by decide
        go_wp2_with (fail)
        go_quiet (fail)
        go_wp2_with (fail)
        go_roundw
        case rel => exact ⟨1, by omega, by simp, below_drewN HB2.out _, HX2.out⟩
        case measure => simp [intOf]; omega
      · have hi1 : 1 ≤ i := by omega
        have hi1I : (0 : Int) < i := by omega
        have hd : decide ((0 : Int) < i) = true := by simpa using hi1I
        have hd2 : decide (0 < i) = true := by simp; omega
        have hd3 : 0 < i := hi1
        obtain ⟨q, hq⟩ : ∃ q, l[i - 1]? = some q := ⟨_, List.getElem?_eq_getElem (by have := HN.out; omega)⟩
        obtain ⟨b', o', e', hb', hC⟩ := (HR.out.below HB2.out).posR prC_len (by omega) (by have := HN.out; omega)
        cases e'
        have hq7 := (HL.out.2 q (List.mem_of_getElem? hq)).1
        have hqp := rising_get HL.out.1 hq HP.out (by omega)
        obtain ⟨d0, _⟩ := pr_cells hC (i - 1) q hq
        have hwrap : (i : Int) - 1 = ((i - 1 : Nat) : Int) := by omega
        clear hC hq
        go_wp2_with (fail)
        go_quiet (fail)
        have hle : (Op.bytesLess (nm p.1).toList (nm q.1).toList || (nm p.1).toList == (nm q.1).toList) = false := by rw [nm_le _ _ hp7 hq7]; simp; omega
        rw [hle]
        clear hle
        go_wp2_with (fail)
        go_roundw
        case rel => exact ⟨i + 1, by omega, by simp, below_drewN HB2.out _, HX2.out⟩
        case measure => simp [intOf]; omega
    · have hltI : ¬ (i : Int) < n := by omega
      have hin' : i = n := by omega
      subst hin'
      go_wp2_with (fail)
      go_loopw [48] (fun s wr => ∃ (k : Nat), k ≤ i ∧ s = .int .i64 (k : Int) ∧ Below w.heap.size w wr ∧ wr.heap[w.heap.size]? = some (.cells #[.slice A i c] 26 (0, 0)) ∧ Hid (∀ q x, q < k → l[q]? = some x → abvF l x.1 = false)) (fun s _ => i - (intOf s).toNat)
      case atStart => exact ⟨0, by omega, rfl, HB.out, HX.out, Lib.hid (fun q x hq _ => by omega)⟩
      case round =>
        obtain ⟨k, hki, rfl, hbq, hxq, HN2⟩ := hrel
        have hbs2 := hbq.size
        have hbl2 : w.heap.size < wr.heap.size := (Array.getElem?_eq_some_iff.1 hxq).1
        have HBq := Lib.hid hbq
        have HXq := Lib.hid hxq
        clear hbq hxq x0
        by_cases hlt2 : k < i
        · have hltI2 : (k : Int) < i := by omega
          obtain ⟨p, hp⟩ : ∃ p, l[k]? = some p := ⟨_, List.getElem?_eq_getElem (by have := HN.out; omega)⟩
          obtain ⟨b, o, rfl, hb, hC⟩ := (HR.out.below HBq.out).posR prC_len (by omega) (by have := HN.out; omega)
          have hp7 := (HL.out.2 p (List.mem_of_getElem? hp)).1
          obtain ⟨c0, c1, c2, c3, c4⟩ := pr_cells hC k p hp
          have HP := Lib.hid hp
          clear hp hC
          go_wp2_with (fail)
          have HCl := Lib.hid (show ClH l (.pointer (some ⟨w.heap.size, 0, none⟩)) (wr.alloc (.cells #[.string (nm p.1), .int .i64 p.2.k, .bool p.2.f, .int .i64 p.2.n, .string p.2.s] 40)) from by
            intro V hV j hj
            have hwV : Below w.heap.size w V := (HBq.out.alloc hbs2 _).trans (hV.mono (by simp; omega))
            exact closure1_any l i c j w.heap.size _ V HL.out HN.out hn7 hj ((HR.out.below hwV).mono hwV.size) (cell_of_blk (j := 0) ((hV.block w.heap.size (by simp; omega)).trans ((Below.heap_alloc wr _ _ hbl2).trans HXq.out)) rfl))
          refine (above_nm l _ p.1 _ hp7 HCl.out).mono ?_
          rintro e w1 ⟨rfl, hb1⟩
          have HB1 := Lib.hid ((HBq.out.alloc hbs2 (.cells #[.string (nm p.1), .int .i64 p.2.k, .bool p.2.f, .int .i64 p.2.n, .string p.2.s] 40)).trans (hb1.mono (by simp; omega)))
          have HX1 := Lib.hid ((hb1.block w.heap.size (by simp; omega)).trans ((Below.heap_alloc wr _ _ hbl2).trans HXq.out))
          clear hb1
          by_cases hab : abvF l p.1 = true
          · have HF := Lib.hid (cpF_yes HP.out hab)
            rw [hab]
            clear hab
            go_wp2_with (fail)
            go_ret
            exact ⟨by rw [HF.out]; rfl, HB1.out⟩
          · have hab' : abvF l p.1 = false := by simpa using hab
            have HF := Lib.hid hab'
            rw [hab']
            clear hab hab'
            go_wp2_with (fail)
            go_roundw
            case rel =>
              refine ⟨k + 1, by omega, by simp, HB1.out, HX1.out, Lib.hid (fun q x hq hx => ?_)⟩
              by_cases hqk : q = k
              · subst hqk
                have := HP.out
                rw [hx] at this
                cases this
                exact HF.out
              · exact HN2.out q x (by omega) hx
            case measure => simp [intOf]; omega
        · have hltI2 : ¬ (k : Int) < i := by omega
          have HF := Lib.hid (cpF_no (l := l) (fun q x hx => HN2.out q x (by have := (List.getElem?_eq_some_iff.1 hx).1; have := HN.out; omega) hx))
          go_wp2_with (fail)
          go_ret
          exact ⟨by rw [HF.out]; rfl, HBq.out⟩
end Go.Proofs.YtldlfgaaolehoaaGreatDoor
