/- find, valueOf of right properties by their contracts. -/
import Derived.Test.YtldlfgaaolehoaaGreatDoorPrB
import Derived.Test.YtldlfgaaolehoaaGreatDoorMgA
namespace Go.Proofs.YtldlfgaaolehoaaGreatDoor
open Go.RowKit

theorem pr_cells {w : World} {b o : Nat} {l : List Pr} (h : Cells w b o (recs prC l)) (i : Nat) (x : Pr) (hx : l[i]? = some x) :
    w.cell? ⟨b, o + i * 5, none⟩ = some (.string (nm x.1)) ∧ w.cell? ⟨b, o + i * 5 + 1, none⟩ = some (.int .i64 x.2.k) ∧ w.cell? ⟨b, o + i * 5 + 2, none⟩ = some (.bool x.2.f) ∧ w.cell? ⟨b, o + i * 5 + 3, none⟩ = some (.int .i64 x.2.n) ∧ w.cell? ⟨b, o + i * 5 + 4, none⟩ = some (.string x.2.s) :=
  ⟨rec_cell prC_len h i x hx 0 _ rfl, rec_cell prC_len h i x hx 1 _ rfl, rec_cell prC_len h i x hx 2 _ rfl, rec_cell prC_len h i x hx 3 _ rfl, rec_cell prC_len h i x hx 4 _ rfl⟩
def BsPost (l : List Pr) (j : Nat) (w : World) (e : Ending) (w' : World) : Prop :=
  ∃ (r : Nat) (t : Bool), e = .returned (.tuple #[.int .i64 (r : Int), .bool t]) ∧ (t = true → ∃ v, l[r]? = some (j, v)) ∧ (t = false → ∀ x ∈ l, x.1 ≠ j) ∧ Below w.heap.size w w'
theorem rising_get {l : List Pr} (h : l.Pairwise (fun x y => x.1 < y.1)) {i k : Nat} {x y : Pr} (hi : l[i]? = some x) (hk : l[k]? = some y) (hik : i < k) : x.1 < y.1 := by
  obtain ⟨h1, rfl⟩ := List.getElem?_eq_some_iff.1 hi
  obtain ⟨h2, rfl⟩ := List.getElem?_eq_some_iff.1 hk
  exact (List.pairwise_iff_getElem.1 h) i k h1 h2 hik
set_option maxRecDepth 100000 in
set_option maxHeartbeats 2000000 in
theorem bin_any (l : List Pr) (n c j : Nat) (A : Option Addr) (w : World) (hl : PrsOk l) (hn : l.length = n) (hn7 : n ≤ 500) (hj : j < 7) (hr : Row w w.heap.size A (recs prC l)) :
    Calls Tryz.prog 192 #[.slice A n c, .string (nm j), .func (.func 193) #[] #[]] w fun e w' => BsPost l j w e w' := by
  have HR := Lib.hid hr
  have HL := Lib.hid hl
  have HN := Lib.hid hn
  clear hr hl hn
  go_enter Tryz.func192, Tryz.ntmps192
  go_wp2_with (fail)
  go_loopw [9, 10] (fun s t wr => ∃ (i k : Nat), i ≤ k ∧ k ≤ n ∧ s = .int .i64 (i : Int) ∧ t = .int .i64 (k : Int) ∧ Hid ((∀ q x, q < i → l[q]? = some x → x.1 < j) ∧ (∀ q x, k ≤ q → l[q]? = some x → j ≤ x.1)) ∧ Below w.heap.size w wr) (fun s t _ => (intOf t).toNat - (intOf s).toNat)
  case atStart => exact ⟨0, n, by omega, by omega, rfl, rfl, Lib.hid ⟨fun q x hq _ => by omega, fun q x hq hx => by have := (List.getElem?_eq_some_iff.1 hx).1; have := HN.out; omega⟩, Below.refl _ _⟩
  case round =>
    obtain ⟨i, k, hik, hkn, rfl, rfl, HI, hbr⟩ := hrel
    have hbs := hbr.size
    have HB := Lib.hid hbr
    have HRr := Lib.hid (HR.out.below hbr)
    clear hbr
    by_cases hlt : i < k
    · have hltI : (i : Int) < k := by omega
      obtain ⟨m, em⟩ : ∃ m, m = (i + k) / 2 := ⟨_, rfl⟩
      have hmI : ((i : Int) + k) / 2 = (m : Int) := by omega
      have hm1 : i ≤ m := by omega
      have hm2 : m < k := by omega
      obtain ⟨p, hp⟩ : ∃ p, l[m]? = some p := ⟨_, List.getElem?_eq_getElem (by have := HN.out; omega)⟩
      obtain ⟨b, o, rfl, hb, hC⟩ := HRr.out.posR prC_len (by omega) (by have := HN.out; omega)
      have hp7 := (HL.out.2 p (List.mem_of_getElem? hp)).1
      obtain ⟨c0, c1, c2, c3, c4⟩ := pr_cells hC m p hp
      have HP := Lib.hid hp
      clear em hp hC
      go_wp2_with (fail)
      refine (find1_any p j hp7 hj _).mono ?_
      rintro e w1 ⟨rfl, hb1⟩
      have HB1 := Lib.hid (HB.out.trans (hb1.mono hbs))
      clear hb1
      by_cases hc : p.1 < j
      · have hc1 : cmpN p.1 j = -1 := by rw [cmpN, if_pos hc]
        rw [hc1]
        clear hc1
        go_wp2_with (fail)
        go_roundw
        case rel =>
          refine ⟨m + 1, k, by omega, hkn, by simp, rfl, Lib.hid ⟨fun q x hq hx => ?_, HI.out.2⟩, HB1.out⟩
          by_cases hqm : q = m
          · subst hqm
            have := HP.out
            rw [hx] at this
            cases this
            exact hc
          · have := rising_get HL.out.1 hx HP.out (by omega)
            omega
        case measure => simp [intOf]; omega
      · have hc1 : cmpN p.1 j = 0 ∨ cmpN p.1 j = 1 := by
          rw [cmpN, if_neg hc]; split <;> simp
        have hc2 : ¬ cmpN p.1 j < 0 := by omega
        obtain ⟨z, ez⟩ : ∃ z, z = cmpN p.1 j := ⟨_, rfl⟩
        rw [← ez] at hc2 ⊢
        clear ez hc1
        go_wp2_with (fail)
        go_roundw
        case rel =>
          refine ⟨i, m, by omega, by omega, rfl, rfl, Lib.hid ⟨HI.out.1, fun q x hq hx => ?_⟩, HB1.out⟩
          by_cases hqm : q = m
          · subst hqm
            have := HP.out
            rw [hx] at this
            cases this
            omega
          · have := rising_get HL.out.1 HP.out hx (by omega)
            omega
        case measure => simp [intOf]; omega
    · have hltI : ¬ (i : Int) < k := by omega
      have hik' : i = k := by omega
      subst hik'
      by_cases hin : i < n
      · have hinI : (i : Int) < n := by omega
        obtain ⟨p, hp⟩ : ∃ p, l[i]? = some p := ⟨_, List.getElem?_eq_getElem (by have := HN.out; omega)⟩
        obtain ⟨b, o, rfl, hb, hC⟩ := HRr.out.posR prC_len (by omega) (by have := HN.out; omega)
        have hp7 := (HL.out.2 p (List.mem_of_getElem? hp)).1
        obtain ⟨c0, c1, c2, c3, c4⟩ := pr_cells hC i p hp
        have HP := Lib.hid hp
        clear hp hC
        go_wp2_with (fail)
        refine (find1_any p j hp7 hj _).mono ?_
        rintro e w1 ⟨rfl, hb1⟩
        have HB1 := Lib.hid (HB.out.trans (hb1.mono hbs))
        clear hb1
        by_cases hc : p.1 = j
        · have hc1 : cmpN p.1 j = 0 := by rw [cmpN, if_neg (by omega), if_pos hc]
          rw [hc1]
          clear hc1
          go_wp2_with (fail)
          go_ret2
          refine ⟨i, true, rfl, fun _ => ⟨p.2, ?_⟩, fun h => (by cases h), HB1.out⟩
          rw [HP.out, ← hc]
        · have hc1 : ¬ cmpN p.1 j = 0 := by
            unfold cmpN
            split
            · omega
            · omega
          obtain ⟨z, ez⟩ : ∃ z, z = cmpN p.1 j := ⟨_, rfl⟩
          rw [← ez] at hc1 ⊢
          clear ez
          go_wp2_with (fail)
          go_ret2
          refine ⟨i, z == 0, rfl, fun h => absurd (by simpa using h) hc1, fun _ x hx => ?_, HB1.out⟩
          obtain ⟨q, hq⟩ := List.getElem?_of_mem hx
          by_cases hqi : q < i
          · have := HI.out.1 q x hqi hq; omega
          · by_cases hqe : q = i
            · subst hqe
              have := HP.out
              rw [hq] at this
              cases this
              exact hc
            · have h1 := rising_get HL.out.1 HP.out hq (by omega)
              have h2 := HI.out.2 i p (by omega) HP.out
              omega
      · have hinI : ¬ (i : Int) < n := by omega
        go_wp2_with (fail)
        go_ret2
        refine ⟨i, false, rfl, fun h => (by cases h), fun _ x hx => ?_, HB.out⟩
        obtain ⟨q, hq⟩ := List.getElem?_of_mem hx
        have hq2 := (List.getElem?_eq_some_iff.1 hq).1
        have := HI.out.1 q x (by have := HN.out; omega) hq
        omega

def FdPost (l : List Pr) (j : Nat) (w : World) (e : Ending) (w' : World) : Prop :=
  ∃ r : Int, e = .returned (.int .i64 r) ∧ ((∃ (q : Nat) (v : Pv), r = (q : Int) ∧ l[q]? = some (j, v)) ∨ (r = -1 ∧ ∀ x ∈ l, x.1 ≠ j)) ∧ Below w.heap.size w w'
set_option maxRecDepth 100000 in
theorem find_any (l : List Pr) (n c j : Nat) (A : Option Addr) (w : World) (hl : PrsOk l) (hn : l.length = n) (hn7 : n ≤ 500) (hj : j < 7) (hr : Row w w.heap.size A (recs prC l)) :
    Calls Tryz.prog 125 #[.slice A n c, .string (nm j)] w fun e w' => FdPost l j w e w' := by
  have HB := Lib.hid (bin_any l n c j A w hl hn hn7 hj hr)
  clear hl hn hr
  go_enter Tryz.func125, Tryz.ntmps125
  go_wp2_with (fail)
  refine HB.out.mono ?_
  rintro e w1 ⟨r, t, rfl, h1, h2, hb⟩
  have H1 := Lib.hid h1
  have H2 := Lib.hid h2
  have H3 := Lib.hid hb
  clear h1 h2 hb
  cases t
  · go_wp2_with (fail)
    go_ret
    exact ⟨-1, rfl, .inr ⟨rfl, H2.out trivial⟩, H3.out⟩
  · go_wp2_with (fail)
    go_ret
    obtain ⟨v, hv⟩ := H1.out trivial
    exact ⟨r, rfl, .inl ⟨r, v, rfl, hv⟩, H3.out⟩
theorem blk_set4 {V : World} {g : Nat} {a b c d : Value} (u0 u1 u2 u3 : Value) (hV : V.heap[g]? = some (.cells #[a, b, c, d] 38 (0, 0))) :
    ((((V.setCell ⟨g, 0, none⟩ u0).setCell ⟨g, 1, none⟩ u1).setCell ⟨g, 2, none⟩ u2).setCell ⟨g, 3, none⟩ u3).heap[g]? = some (.cells #[u0, u1, u2, u3] 38 (0, 0)) ∧
    ∀ B, B ≤ g → Below B V ((((V.setCell ⟨g, 0, none⟩ u0).setCell ⟨g, 1, none⟩ u1).setCell ⟨g, 2, none⟩ u2).setCell ⟨g, 3, none⟩ u3) := by
  refine ⟨by simp [World.setCell, Array.getElem?_modify, hV], fun B hB => ?_⟩
  exact ((((Below.refl B V).setCell hB _).setCell hB _).setCell hB _).setCell hB _
set_option maxRecDepth 100000 in
set_option maxHeartbeats 2000000 in
theorem valueOf_any (l : List Pr) (n c j : Nat) (A : Option Addr) (w : World) (hl : PrsOk l) (hn : l.length = n) (hn7 : n ≤ 500) (hj : j < 7) (hr : Row w w.heap.size A (recs prC l)) :
    Calls Tryz.prog 63 #[.slice A n c, .string (nm j)] w fun e w' => e = .returned (.agg #[.int .i64 (vo l j).k, .bool (vo l j).f, .int .i64 (vo l j).n, .string (vo l j).s]) ∧ Below w.heap.size w w' := by
  have HF := Lib.hid (fun W (h : Below w.heap.size w W) => find_any l n c j A W hl hn hn7 hj ((hr.below h).mono h.size))
  have HR := Lib.hid hr
  have HL := Lib.hid hl
  have HN := Lib.hid hn
  clear hl hn hr
  go_enter Tryz.func63, Tryz.ntmps63
  go_wp2_with (fail)
  refine (HF.out _ ((Below.refl _ _).alloc (Nat.le_refl _) _)).mono ?_
  rintro e w1 ⟨r, rfl, hr1, hb1⟩
  have hz1 := hb1.size
  simp only [World.size_alloc] at hz1
  have hbk := (hb1.block w.heap.size (by simp)).trans (heap_new w (.cells #[.int .i64 0, .bool false, .int .i64 0, .string ⟨#[]⟩] 38))
  have HB1 := Lib.hid (((Below.refl _ w).alloc (Nat.le_refl _) (.cells #[.int .i64 0, .bool false, .int .i64 0, .string ⟨#[]⟩] 38)).trans (hb1.mono (by simp)))
  have n0 := cell_of_blk (j := 0) hbk rfl
  have n1 := cell_of_blk (j := 1) hbk rfl
  have n2 := cell_of_blk (j := 2) hbk rfl
  have n3 := cell_of_blk (j := 3) hbk rfl
  have fr : ∀ j, w1.frozen? ⟨w.heap.size, j, none⟩ = false := by intro j; simp [World.frozen?, hbk]
  have f0 := fr 0
  have f1 := fr 1
  have f2 := fr 2
  have f3 := fr 3
  have hlt : w.heap.size < w1.heap.size := by omega
  have HK := Lib.hid hbk
  clear hb1 hbk fr
  rcases hr1 with ⟨q, v, rfl, hq⟩ | ⟨rfl, hno⟩
  · obtain ⟨b, o, rfl, hb, hC⟩ := (HR.out.below HB1.out).posR prC_len (by omega) (by have := (List.getElem?_eq_some_iff.1 hq).1; omega)
    obtain ⟨c0, c1, c2, c3, c4⟩ := pr_cells hC q _ hq
    have hqn : q < n := by have := (List.getElem?_eq_some_iff.1 hq).1; have := HN.out; omega
    have hvo : vo l j = v := vo_mem (x := (j, v)) HL.out.1 (List.mem_of_getElem? hq)
    have HV := Lib.hid hvo
    obtain ⟨k1, k2⟩ := blk_set4 (.int .i64 v.k) (.bool v.f) (.int .i64 v.n) (.string v.s) HK.out
    have HK1 := Lib.hid k1
    have HK2 := Lib.hid k2
    clear hC hq hvo k1 k2
    go_wp2_with (fail)
    have r0 := cell_of_blk (j := 0) HK1.out rfl
    have r1 := cell_of_blk (j := 1) HK1.out rfl
    have r2 := cell_of_blk (j := 2) HK1.out rfl
    have r3 := cell_of_blk (j := 3) HK1.out rfl
    exact bodyPost_ret (v := .agg #[.int .i64 v.k, .bool v.f, .int .i64 v.n, .string v.s]) (by simp [results, Tryz.results63, go_sem, r0, r1, r2, r3]) rfl ⟨by rw [HV.out]; try rfl, HB1.out.trans (HK2.out _ (Nat.le_refl _))⟩
  · have HV := Lib.hid (vo_none hno)
    clear hno
    obtain ⟨k1, k2⟩ := blk_set4 (.int .i64 0) (.bool false) (.int .i64 0) (.string ⟨#[]⟩) HK.out
    have HK1 := Lib.hid k1
    have HK2 := Lib.hid k2
    clear k1 k2
    go_wp2_with (fail)
    have r0 := cell_of_blk (j := 0) HK1.out rfl
    have r1 := cell_of_blk (j := 1) HK1.out rfl
    have r2 := cell_of_blk (j := 2) HK1.out rfl
    have r3 := cell_of_blk (j := 3) HK1.out rfl
    exact bodyPost_ret (v := .agg #[.int .i64 0, .bool false, .int .i64 0, .string ⟨#[]⟩]) (by simp [results, Tryz.results63, go_sem, r0, r1, r2, r3]) rfl ⟨by rw [HV.out]; try rfl, HB1.out.trans (HK2.out _ (Nat.le_refl _))⟩
end Go.Proofs.YtldlfgaaolehoaaGreatDoor
