/- Several texts in one: HuC, HuH, HuL. -/
import Derived.Test.YthplhibdapjjgaaGreatDoorHuA
import Derived.Test.YthplhibdapjjgaaGreatDoorMgD
import Derived.Test.YthplhibdapjjgaaGreatDoorDel
import Derived.Test.YthplhibdapjjgaaGreatDoorQtt
import Derived.Test.YthplhibdapjjgaaGreatDoorFeL
import Derived.Test.YthplhibdapjjgaaGreatDoorMgE
import Derived.Test.YthplhibdapjjgaaGreatDoorDl2
import Derived.Test.YthplhibdapjjgaaGreatDoorFeI

/- place.Hull's parts: all corners are spots; slices.Clone and slices.Compact of spots. -/
namespace Go.Proofs.YthplhibdapjjgaaGreatDoor
open Go.RowKit

theorem hull1_no (x : Pt) (w : World) (hx : SpN x) : Calls Tryz.prog 24 #[ptV x] w fun e w' => e = .returned (.bool false) ∧ Below w.heap.size w w' := by
  have h1 := hx.x0; have h2 := hx.x1; have h3 := hx.y0; have h4 := hx.y1
  have HI := Lib.hid (fun V => isSpot_yes x.1 x.2 V h1 h2 h3 h4)
  unfold ptV
  clear h1 h2 h3 h4 hx
  go_enter Tryz.func24, Tryz.ntmps24
  have HB := Lib.hid ((Below.refl w.heap.size w).alloc (Nat.le_refl _) (.cells #[.int .i64 x.1, .int .i64 x.2] 37))
  go_wp2_with (fail)
  refine (HI.out _).mono ?_
  rintro e w1 ⟨rfl, hb⟩
  have HB1 := Lib.hid (HB.out.trans (hb.mono HB.out.size))
  clear hb
  go_wp2_with (fail)
  go_ret
  exact ⟨rfl, HB1.out⟩
set_option maxRecDepth 100000 in
set_option maxHeartbeats 2000000 in
theorem idxH_no (l : List Pt) (n c : Nat) (A : Option Addr) (w : World) (hn : l.length = n) (hn5 : n ≤ 5000) (hl : ∀ x ∈ l, SpN x) (hr : Row w w.heap.size A (recs ptC l)) :
    Calls Tryz.prog 62 #[.slice A n c, .func (.func 24) #[] #[]] w fun e w' => e = .returned (.int .i64 (-1)) ∧ Below w.heap.size w w' := by
  have HR := Lib.hid hr
  have HL := Lib.hid hl
  have hrun := enters_of Tryz.func24 (by kernel_rfl) rfl
  clear hr hl
  go_enter Tryz.func62, Tryz.ntmps62
  go_wp2_with (fail)
  go_loopw [8] (fun i wr => ∃ k : Nat, k ≤ n ∧ i = .int .i64 k ∧ Below w.heap.size w wr) (fun i _ => n - (intOf i).toNat)
  case atStart => exact ⟨0, Nat.zero_le _, rfl, Below.refl _ _⟩
  case round =>
    obtain ⟨k, hk, rfl, hbl⟩ := hrel
    have hsz := hbl.size
    have HBL := Lib.hid hbl
    by_cases hlt : k < n
    · obtain ⟨b, o, rfl, hb, hc⟩ := Row.posR ptC_len (by omega) HR.out (by omega)
      obtain ⟨x, hx⟩ : ∃ x, l[k]? = some x := ⟨_, List.getElem?_eq_getElem (by omega)⟩
      obtain ⟨c0, c1⟩ := pt_cells (hc.keep (hbl.block b hb)) k x hx
      have HCALL := Lib.hid (hull1_no x wr (HL.out x (List.mem_of_getElem? hx)))
      unfold ptV at HCALL
      have hlt' : (k : Int) < (n : Int) := by omega
      clear hbl hc hx
      go_wp2_with (fail)
      refine HCALL.out.mono ?_
      rintro e w' ⟨rfl, hbw'⟩
      have HB3 := Lib.hid (show Below w.heap.size w w' from (HBL.out).trans (hbw'.mono hsz))
      clear hbw'
      go_wp2_with (fail)
      go_roundw
      case rel => exact ⟨k + 1, by omega, by go_num, HB3.out⟩
      case measure => simp [intOf]; omega
    · have hlt' : ¬ (k : Int) < (n : Int) := by omega
      clear hbl
      go_wp2_with (fail)
      go_ret
      exact ⟨rfl, HBL.out⟩
set_option maxRecDepth 100000 in
theorem containsH_no (l : List Pt) (n c : Nat) (A : Option Addr) (w : World) (hn : l.length = n) (hn5 : n ≤ 5000) (hl : ∀ x ∈ l, SpN x) (hr : Row w w.heap.size A (recs ptC l)) :
    Calls Tryz.prog 23 #[.slice A n c, .func (.func 24) #[] #[]] w fun e w' => e = .returned (.bool false) ∧ Below w.heap.size w w' := by
  have HI := Lib.hid (idxH_no l n c A w hn hn5 hl hr)
  clear hr hl hn
  go_enter Tryz.func23, Tryz.ntmps23
  go_wp2_with (fail)
  refine HI.out.mono ?_
  rintro e w1 ⟨rfl, hb⟩
  have HB := Lib.hid hb
  clear hb
  go_wp2_with (fail)
  go_ret
  exact ⟨rfl, HB.out⟩
set_option maxRecDepth 100000 in
set_option maxHeartbeats 1000000 in
theorem clonePt_some (b off n c : Nat) (xs : List Value) (w : World) (hl : xs.length = n * 2) (h1 : ∀ u ∈ xs, u.oneCell' = true) (hn : n ≤ 1000000) (hc : Cells w b off xs) :
    Calls Tryz.prog 26 #[.slice (some ⟨b, off, none⟩) n c] w fun e w' => ∃ v', e = .returned v' ∧ w'.ownsRow w.heap.size 37 2 v' n xs ∧ Below w.heap.size w w' := by
  obtain ⟨i0, hi, hz0, hz1, hz2⟩ := info_parts Tryz.infoCatP
  have q22 : ∀ (w : World) (a : Option Addr) (n c n' c' : Nat), (binOp .eql 26 (.slice a n c) (.slice none n' c')).run Tryz.prog w = .ok (.bool a.isNone) w := fun w a n c n' c' => Lib.run_eql_slice_nil w _ _ a n c n' c' Tryz.underlying26
  have HC := Lib.hid hc
  have H1 := Lib.hid h1
  have HL := Lib.hid hl
  clear hc h1 hl
  go_enter Tryz.func26, Tryz.ntmps26
  go_wp2_with (at_builtin; refine wpList_append_own _ rfl _ _ 26 rfl w.heap.size 37 i0 _ 2 16 Tryz.underlying26 hi hz0 hz1 hz2 rfl (by decide) _ _ _ rfl (World.ownsRow_made w #[] 0 (Nat.le_refl _) (Nat.zero_le _) rfl) ⟨b, off, none⟩ n c xs rfl ?qc1 ?qc2 ?qc3 ?qc4 ?qc5 ?qc6 ?_)
  case qc1 => exact HL.out
  case qc2 =>
    intro j u hj
    rw [Addr.add_lit]
    exact Lib.cell?_alloc_some _ (HC.out j u hj)
  case qc3 => exact H1.out
  case qc4 => unfold maxLen; omega
  case qc5 => omega
  case qc6 => simp
  intro v' w1 hown hgrow hnil
  go_wp2
  go_ret
  refine ⟨v', rfl, by simpa using hown, ?_⟩
  exact ((Below.refl _ w).alloc (Nat.le_refl _) _).grown hgrow (by simp) (by intro k hk; simp [Value.ownBlock] at hk; omega)
/-- No two neighbours are equal: nothing is done. -/
def NoTw (l : List Pt) : Prop := ∀ k x y, l[k]? = some x → l[k + 1]? = some y → x ≠ y
theorem NoTw.of {l : List Pt} (h : l.Nodup) : NoTw l := by
  intro k x y hx hy e
  subst e
  obtain ⟨h1, e1⟩ := List.getElem?_eq_some_iff.1 hx
  obtain ⟨h2, e2⟩ := List.getElem?_eq_some_iff.1 hy
  have := (List.pairwise_iff_getElem.1 h) k (k + 1) h1 h2 (by omega)
  rw [e1, e2] at this
  exact this rfl
set_option maxRecDepth 100000 in
set_option maxHeartbeats 2000000 in
theorem compactP_no (l : List Pt) (n c : Nat) (A : Option Addr) (w : World) (hn : l.length = n) (hn5 : n ≤ 5000) (hl : NoTw l) (hr : Row w w.heap.size A (recs ptC l)) :
    Calls Tryz.prog 29 #[.slice A n c] w fun e w' => e = .returned (.slice A n c) ∧ Below w.heap.size w w' := by
  have HR := Lib.hid hr
  have HL := Lib.hid hl
  clear hr hl
  by_cases h2 : n < 2
  · have h2I : (n : Int) < 2 := by omega
    go_enter Tryz.func29, Tryz.ntmps29
    go_wp2_with (fail)
    go_ret
    exact ⟨rfl, Below.refl _ _⟩
  have h2I : ¬ (n : Int) < 2 := by omega
  go_enter Tryz.func29, Tryz.ntmps29
  go_wp2_with (fail)
  go_loopw [3] (fun i wr => ∃ k : Nat, 1 ≤ k ∧ k ≤ n ∧ i = .int .i64 k ∧ Below w.heap.size w wr) (fun i _ => n - (intOf i).toNat)
  case atStart => exact ⟨1, Nat.le_refl _, by omega, rfl, Below.refl _ _⟩
  case round =>
    obtain ⟨k, hk1, hk, rfl, hbl⟩ := hrel
    have HBL := Lib.hid hbl
    by_cases hlt : k < n
    · obtain ⟨b, o, rfl, hb, hc⟩ := Row.posR ptC_len (by omega) HR.out (by omega)
      obtain ⟨j, rfl⟩ : ∃ j, k = j + 1 := ⟨k - 1, by omega⟩
      obtain ⟨x, hx⟩ : ∃ x, l[j + 1]? = some x := ⟨_, List.getElem?_eq_getElem (by omega)⟩
      obtain ⟨y, hy⟩ : ∃ y, l[j]? = some y := ⟨_, List.getElem?_eq_getElem (by omega)⟩
      obtain ⟨c0, c1⟩ := pt_cells (hc.keep (hbl.block b hb)) (j + 1) x hx
      obtain ⟨d0, d1⟩ := pt_cells (hc.keep (hbl.block b hb)) j y hy
      have hne := HL.out j y x hy hx
      obtain ⟨x0, x1⟩ := x
      obtain ⟨y0, y1⟩ := y
      simp only at c0 c1 d0 d1
      have hlt' : ((j + 1 : Nat) : Int) < (n : Int) := by omega
      have hw : IntKind.i64.wrap (j : Int) = (j : Int) := by rw [IntKind.wrap_i64]; omega
      have hjn : (j : Int) < (n : Int) := by omega
      have hjn' : j < n := by omega
      clear hbl hc hx hy
      by_cases h1 : x0 = y0
      · subst h1
        have h2b : (x1 == y1) = false := by
          have : x1 ≠ y1 := fun e => hne (by rw [e])
          simpa using this
        clear hne
        go_wp2_with (fail)
        go_quiet (fail)
        go_wp2_with (fail)
        go_roundw
        case rel => exact ⟨j + 1 + 1, by omega, by omega, by go_num, below_drewN HBL.out _⟩
        case measure => simp [intOf]; omega
      · have h1b : (x0 == y0) = false := by simpa using h1
        clear hne
        go_wp2_with (fail)
        go_quiet (fail)
        go_wp2_with (fail)
        go_roundw
        case rel => exact ⟨j + 1 + 1, by omega, by omega, by go_num, below_drewN HBL.out _⟩
        case measure => simp [intOf]; omega
    · have hlt' : ¬ (k : Int) < (n : Int) := by omega
      clear hbl
      go_wp2_with (fail)
      go_ret
      exact ⟨rfl, HBL.out⟩
end Go.Proofs.YthplhibdapjjgaaGreatDoor

/- place.half: some of the spots, two at least where there were two. -/
namespace Go.Proofs.YthplhibdapjjgaaGreatDoor
open Go.RowKit

theorem recs_take_pt (L : List Pt) (m : Nat) (h : m ≤ L.length) : (recs ptC L).take (m * 2) = recs ptC (L.take m) := by
  have h1 := recs_append ptC (L.take m) (L.drop m)
  rw [List.take_append_drop] at h1
  rw [h1, List.take_left' (by rw [recs_length ptC_len, List.length_take, Nat.min_eq_left h])]
structure HfI (w0 w : World) (L : List Pt) (m : Nat) (A : Option Addr) (c : Nat) : Prop where
  len : L.length = m
  sp : ∀ x ∈ L, SpB x
  own : w.ownsRow w0.heap.size 37 2 (.slice A m c) m (recs ptC L)
  bel : Below w0.heap.size w0 w
def HfPost (l : List Pt) (w : World) (e : Ending) (w' : World) : Prop :=
  ∃ (A : Option Addr) (m c : Nat) (L : List Pt), e = .returned (.slice A m c) ∧ m ≤ l.length ∧ (2 ≤ l.length → 2 ≤ m) ∧ HfI w w' L m A c
set_option maxRecDepth 100000 in
set_option maxHeartbeats 4000000 in
theorem half_any (l : List Pt) (n c : Nat) (A : Option Addr) (w : World) (hn : l.length = n) (hn5 : n ≤ 5000) (hl : ∀ x ∈ l, SpB x) (hr : Row w w.heap.size A (recs ptC l)) :
    Calls Tryz.prog 30 #[.slice A n c] w fun e w' => HfPost l w e w' := by
  obtain ⟨i0, hi0, hz0, hz1, hz2⟩ := info_parts Tryz.infoCatP
  have HR := Lib.hid hr
  have HL := Lib.hid hl
  have HN := Lib.hid hn
  clear hr hl hn
  go_enter Tryz.func30, Tryz.ntmps30
  go_wp2_with (fail)
  go_loopw [3, 9] (fun s u wr => ∃ (k m : Nat) (A : Option Addr) (c : Nat), k ≤ n ∧ m ≤ k ∧ (1 ≤ k → 1 ≤ m) ∧ (2 ≤ k → 2 ≤ m) ∧ u = .int .i64 (k : Int) ∧ s = .slice A m c ∧ Hid (∃ L, HfI w wr L m A c)) (fun _ u _ => n - (intOf u).toNat)
  case atStart => exact ⟨0, 0, none, 0, Nat.zero_le _, Nat.le_refl _, by omega, by omega, rfl, rfl, Lib.hid ⟨[], rfl, by simp, World.ownsRow_nil _ _ _ _, Below.refl _ _⟩⟩
  case round =>
    obtain ⟨k, m, A1, c1, hk, hmk, hk1, hk2, rfl, rfl, HI⟩ := hrel
    by_cases hlt : k < n
    · have hltI : (k : Int) < (n : Int) := by omega
      obtain ⟨b, o, rfl, hb, hc⟩ := (HR.out).posR ptC_len (by omega) (by have := HN.out; omega)
      obtain ⟨x, hx⟩ : ∃ x, l[k]? = some x := ⟨_, List.getElem?_eq_getElem (by have := HN.out; omega)⟩
      obtain ⟨L0, hI0⟩ := HI.out
      have hbs := hI0.bel.size
      obtain ⟨c0, d0⟩ := pt_cells (hc.keep (hI0.bel.block b hb)) k x hx
      have HX := Lib.hid (HL.out x (List.mem_of_getElem? hx))
      have hbw : b < wr.heap.size := by omega
      obtain ⟨gs, egs⟩ : ∃ g, g = wr.heap.size := ⟨_, rfl⟩
      obtain ⟨w1, e1⟩ : ∃ V : World, V = wr.alloc (.cells #[.int .i64 x.1, .int .i64 x.2] 37) := ⟨_, rfl⟩
      have hb1 : Below wr.heap.size wr w1 := by rw [e1]; exact (Below.refl _ _).alloc (Nat.le_refl _) _
      have hg1 : w1.heap[gs]? = some (.cells #[.int .i64 x.1, .int .i64 x.2] 37 (0, 0)) := by rw [e1, egs]; exact heap_new wr _
      have hgl : gs < w1.heap.size := (Array.getElem?_eq_some_iff.1 hg1).1
      have HI1 := Lib.hid (show ∃ L, HfI w w1 L m A1 c1 from ⟨L0, hI0.len, hI0.sp, own_below hI0.own hb1, hI0.bel.trans (hb1.mono hbs)⟩)
      have HG1 := Lib.hid hg1
      have hw1 : w.heap.size ≤ w1.heap.size := by have := hb1.size; omega
      have HGS := Lib.hid (show w.heap.size ≤ gs by omega)
      clear hI0 hc hx
      go_upto_region 5 with (fail)
      rw [← egs, ← e1]
      clear egs e1 hb1 hg1 c0 d0
      go_wp2_with (fail)
      go_loopw [3, 6] (fun s u wx => ∃ (m2 : Nat) (A2 : Option Addr) (c2 : Nat), m2 ≤ m ∧ (1 ≤ k → 1 ≤ m2) ∧ u = .int .i64 (m2 : Int) ∧ s = .slice A2 m2 c2 ∧ Hid ((∃ L, HfI w wx L m2 A2 c2) ∧ Below w1.heap.size w1 wx)) (fun _ u _ => (intOf u).toNat)
      case atStart => exact ⟨m, A1, c1, Nat.le_refl _, hk1, rfl, rfl, Lib.hid ⟨HI1.out, Below.refl _ _⟩⟩
      case round =>
        obtain ⟨m2, A2, c2, hm2, hkm2, rfl, rfl, HJ⟩ := hrel
        obtain ⟨wa, rfl⟩ : ∃ wy : World, wy = wr := ⟨_, rfl⟩
        obtain ⟨⟨L, hI⟩, hbw1⟩ := HJ.out
        have hgl2 : gs < wa.heap.size := by have := hbw1.size; omega
        by_cases hgt : 1 < m2
        · obtain ⟨j, rfl⟩ : ∃ j, m2 = j + 2 := ⟨m2 - 2, by omega⟩
          obtain ⟨h1, h2, h3⟩ | ⟨g, rfl, hg1, hg2⟩ := own_two hI.own
          · omega
          have hcap := own_cap hI.own
          obtain ⟨x0, hx0⟩ : ∃ y, L[j]? = some y := ⟨_, List.getElem?_eq_getElem (by have := hI.len; omega)⟩
          obtain ⟨x1, hx1⟩ : ∃ y, L[j + 1]? = some y := ⟨_, List.getElem?_eq_getElem (by have := hI.len; omega)⟩
          have HCC := Lib.hid (own_cells0 hI.own)
          have HQ := Lib.hid (fun (V : World) (hV : Below wa.heap.size wa V) => show V.cell? ⟨g, j * 2, none⟩ = some (.int .i64 x0.1) ∧ V.cell? ⟨g, j * 2 + 1, none⟩ = some (.int .i64 x0.2) ∧ V.cell? ⟨g, (j + 1) * 2, none⟩ = some (.int .i64 x1.1) ∧ V.cell? ⟨g, (j + 1) * 2 + 1, none⟩ = some (.int .i64 x1.2) ∧ V.cell? ⟨gs, 0, none⟩ = some (.int .i64 x.1) ∧ V.cell? ⟨gs, 1, none⟩ = some (.int .i64 x.2) from by
            have hC := HCC.out.keep (hV.block g hg2)
            obtain ⟨a1, a2⟩ := pt_cells hC j x0 hx0
            obtain ⟨b1, b2⟩ := pt_cells hC (j + 1) x1 hx1
            simp only [Nat.zero_add] at a1 a2 b1 b2
            have hG := (hV.block gs hgl2).trans ((hbw1.block gs hgl).trans HG1.out)
            exact ⟨a1, a2, b1, b2, cell_of_blk (j := 0) hG rfl, cell_of_blk (j := 1) hG rfl⟩)
          have HSD := Lib.hid (fun V => sidePt_any x0 x1 x V (hI.sp x0 (List.mem_of_getElem? hx0)) (hI.sp x1 (List.mem_of_getElem? hx1)) HX.out)
          unfold ptV at HSD
          obtain ⟨z, ez⟩ : ∃ z, z = sd x0 x1 x := ⟨_, rfl⟩
          rw [← ez] at HSD
          have HSH := Lib.hid (show HfI w wa (L.take (j + 1)) (j + 1) (some ⟨g, 0, none⟩) c2 from by
            refine ⟨by rw [List.length_take, hI.len]; omega, fun y hy => hI.sp y (List.mem_of_mem_take hy), ?_, hI.bel⟩
            have h := own_shrink hI.own (j + 1) (by omega)
            rw [recs_take_pt L (j + 1) (by rw [hI.len]; omega)] at h
            exact h)
          have HI0 := Lib.hid hI
          have HBW := Lib.hid hbw1
          have hd : decide ((1 : Int) < (j : Int) + 2) = true := by simp; omega
          have hd2 : decide (1 < j + 2) = true := by simp
          have hw1 : IntKind.i64.wrap (j : Int) = (j : Int) := by rw [IntKind.wrap_i64]; omega
          have hw2 : IntKind.i64.wrap ((j : Int) + 1) = (j : Int) + 1 := by rw [IntKind.wrap_i64]; omega
          have hw3 : IntKind.i64.wrap ((j : Int) + 2 - 1) = (j : Int) + 1 := by rw [IntKind.wrap_i64]; omega
          have hj1 : (j : Int) < (j : Int) + 2 := by omega
          have hj2 : (j : Int) + 1 < (j : Int) + 2 := by omega
          have hj5 : j < j + 2 := by omega
          have hj6 : j + 1 < j + 2 := by omega
          have hj3 : (0 : Int) ≤ (j : Int) + 1 := by omega
          have hj4 : ((j : Int) + 1).toNat = j + 1 := by omega
          clear ez hx0 hx1 hI hbw1
          go_upto_region 6 with (fail)
          refine qRegion (by kernel_rfl) (by kernel_rfl) ?_
          repeat (first
            | (go_big_quiet_want; refine qVal (fun V hV => (by (obtain ⟨q0, q1, q2, q3, q4, q5⟩ := HQ.out V hV; go_simp; try rfl))) ?_; simp only [Act.put, List.setIfInBounds_toArray, List.set_cons_zero, List.set_cons_succ]; go_big_quiet_on)
            | (go_big_quiet_want
               refine qCall (fun V hV => (by (obtain ⟨q0, q1, q2, q3, q4, q5⟩ := HQ.out V hV; go_simp; exact ⟨rfl, rfl⟩))) (fun V hV => (by first
                 | with_reducible exact (HSD.out V).mono (fun e w' h => ⟨h.1, hV.trans (h.2.mono hV.size)⟩))) ?_
               simp only [Act.put, List.setIfInBounds_toArray, List.set_cons_zero, List.set_cons_succ]; go_big_quiet_on)
            | go_big_quiet_skip)
          refine wpQuiet_nil ?_
          intro V hV
          obtain ⟨wv, ewv⟩ : ∃ wv, wv = V := ⟨_, rfl⟩
          rw [← ewv] at hV ⊢
          have HV := Lib.hid hV
          clear ewv hV
          by_cases hz : z ≤ 0
          · have hzb := decide_eq_true hz
            go_wp2_with (fail)
            go_roundw
            case rel => exact ⟨j + 1, some ⟨g, 0, none⟩, c2, by omega, by omega, by go_num, rfl, Lib.hid ⟨⟨L.take (j + 1), HSH.out.len, HSH.out.sp, own_below HSH.out.own HV.out, HSH.out.bel.trans (HV.out.mono HSH.out.bel.size)⟩, HBW.out.trans (HV.out.mono HBW.out.size)⟩⟩
            case measure => simp [intOf]
          · have hzb := decide_eq_false hz
            have HE := Lib.hid (show HfI w wv L (j + 2) (some ⟨g, 0, none⟩) c2 from ⟨HI0.out.len, HI0.out.sp, own_below HI0.out.own HV.out, HI0.out.bel.trans (HV.out.mono HI0.out.bel.size)⟩)
            have HB1 := Lib.hid (HBW.out.trans (HV.out.mono HBW.out.size))
            have hG := (HB1.out.block gs hgl).trans HG1.out
            have p0 := cell_of_blk (j := 0) hG rfl
            have p1 := cell_of_blk (j := 1) hG rfl
            have hsv := HE.out.bel.size
            clear hG
            go_wp2_with (at_builtin; refine wpList_append_own _ rfl _ _ 26 rfl w.heap.size 37 i0 _ 2 16 Tryz.underlying26 hi0 hz0 hz1 hz2 rfl (by decide) _ _ _ rfl (HE.out.own.alloc _) ⟨wv.heap.size, 0, none⟩ 1 1 (ptC x) rfl rfl ?c1 ?c2 ?c3 ?c4 ?c5 ?_)
            case c1 => first | exact fun j u h => h | exact cells_add (Cells.new wv _ _ _ _ rfl)
            case c2 => exact ptC_one _
            case c3 => unfold maxLen; omega
            case c4 => omega
            case c5 => first | omega | (simp; omega)
            intro v3 w3 ho3 hg3 _
            have hg23 := grown_of_alloc hg3
            obtain ⟨A3, c3, rfl⟩ := own_slice ho3
            have HN3 := Lib.hid (show HfI w w3 (L ++ [x]) (j + 2 + 1) A3 c3 from ⟨by rw [List.length_append, HE.out.len]; rfl, fun y hy => by
              rcases List.mem_append.1 hy with hy | hy
              · exact HE.out.sp y hy
              · rw [List.mem_singleton] at hy; subst hy; exact HX.out, by rw [recs_snoc]; exact ho3, HE.out.bel.grown hg23 hsv (fun g hg => (HE.out.own.lt g hg).1)⟩)
            clear ho3 hg3 hg23
            go_wp2_with (fail)
            go_roundw
            case rel => exact ⟨k + 1, j + 2 + 1, A3, c3, by omega, by omega, by omega, by omega, by go_num, rfl, Lib.hid ⟨_, HN3.out⟩⟩
            case measure => simp [intOf]; omega
        · have hd : decide ((1 : Int) < (m2 : Int)) = false := by simp; omega
          have hG := (hbw1.block gs hgl).trans HG1.out
          have HI0 := Lib.hid hI
          have HBW := Lib.hid hbw1
          clear hI hbw1
          go_upto_region 6 with (fail)
          go_quiet (fail)
          go_upto_region 9 with (fail)
          obtain ⟨wv, ewv⟩ : ∃ wv, wv = wa.drewN nq := ⟨_, rfl⟩
          rw [← ewv]
          have HV := Lib.hid (show Below wa.heap.size wa wv by rw [ewv]; exact below_drewN (Below.refl _ _) _)
          have HE := Lib.hid (show HfI w wv L m2 A2 c2 from ⟨HI0.out.len, HI0.out.sp, own_below HI0.out.own HV.out, HI0.out.bel.trans (HV.out.mono HI0.out.bel.size)⟩)
          have HB1 := Lib.hid (HBW.out.trans (HV.out.mono HBW.out.size))
          clear ewv
          have hG := (HB1.out.block gs hgl).trans HG1.out
          have p0 := cell_of_blk (j := 0) hG rfl
          have p1 := cell_of_blk (j := 1) hG rfl
          have hsv := HE.out.bel.size
          clear hG
          go_wp2_with (at_builtin; refine wpList_append_own _ rfl _ _ 26 rfl w.heap.size 37 i0 _ 2 16 Tryz.underlying26 hi0 hz0 hz1 hz2 rfl (by decide) _ _ _ rfl (HE.out.own.alloc _) ⟨wv.heap.size, 0, none⟩ 1 1 (ptC x) rfl rfl ?c1 ?c2 ?c3 ?c4 ?c5 ?_)
          case c1 => first | exact fun j u h => h | exact cells_add (Cells.new wv _ _ _ _ rfl)
          case c2 => exact ptC_one _
          case c3 => unfold maxLen; omega
          case c4 => omega
          case c5 => first | omega | (simp; omega)
          intro v3 w3 ho3 hg3 _
          have hg23 := grown_of_alloc hg3
          obtain ⟨A3, c3, rfl⟩ := own_slice ho3
          have HN3 := Lib.hid (show HfI w w3 (L ++ [x]) (m2 + 1) A3 c3 from ⟨by rw [List.length_append, HE.out.len]; rfl, fun y hy => by
            rcases List.mem_append.1 hy with hy | hy
            · exact HE.out.sp y hy
            · rw [List.mem_singleton] at hy; subst hy; exact HX.out, by rw [recs_snoc]; exact ho3, HE.out.bel.grown hg23 hsv (fun g hg => (HE.out.own.lt g hg).1)⟩)
          clear ho3 hg3 hg23
          go_wp2_with (fail)
          go_roundw
          case rel => exact ⟨k + 1, m2 + 1, A3, c3, by omega, by omega, by omega, by omega, by go_num, rfl, Lib.hid ⟨_, HN3.out⟩⟩
          case measure => simp [intOf]; omega
    · have hltI : ¬ (k : Int) < (n : Int) := by omega
      have hkn : k = n := by omega
      subst hkn
      have HF := Lib.hid (show HfPost l w (.returned (.slice A1 m c1)) wr from by
        obtain ⟨L, hI⟩ := HI.out
        have := HN.out
        exact ⟨A1, m, c1, L, rfl, by omega, fun h => hk2 (by omega), hI⟩)
      go_wp2_with (fail)
      go_ret
      exact HF.out
end Go.Proofs.YthplhibdapjjgaaGreatDoor

/- place.Hull: what it makes is new memory. -/
namespace Go.Proofs.YthplhibdapjjgaaGreatDoor
open Go.RowKit

def HuPost (w : World) (e : Ending) (w' : World) : Prop :=
  ∃ (v : Value) (n : Nat) (L : List Pt), e = .returned (.tuple #[v, .int .i64 0]) ∧ L.length = n ∧ n ≤ 5000 ∧ w'.ownsRow w.heap.size 37 2 v n (recs ptC L) ∧ Below w.heap.size w w'
set_option maxRecDepth 100000 in
set_option maxHeartbeats 8000000 in
theorem hull_any (l : List Pt) (n c b o : Nat) (w : World) (hf : FcAt w l n c b o) (hn12 : n ≤ 12) :
    Calls Tryz.prog 6 #[.slice (some ⟨b, o, none⟩) n c] w fun e w' => HuPost w e w' := by
  have hn := hf.len
  have hn3 : 3 ≤ n := by rw [← hn]; exact hf.ok.lo
  have HF := Lib.hid hf
  have HCF := Lib.hid (containsH_no l n c (some ⟨b, o, none⟩) w hn (by omega) hf.ok.sp (.inr ⟨b, o, rfl, hf.lt, hf.cells⟩))
  have HNODUP := Lib.hid hf.ok.nodup
  have HSP := Lib.hid (show ∀ x ∈ l, SpB x from fun x hx => (hf.ok.sp x hx).wide)
  have HN := Lib.hid hn
  have h1 : ¬ (2000 : Int) < (n : Int) := by omega
  have h2 : ¬ (n : Int) < 2 := by omega
  clear hf hn
  go_enter Tryz.func6, Tryz.ntmps6
  go_wp2_with (fail)
  refine HCF.out.mono ?_
  rintro e w1 ⟨rfl, hb1⟩
  have HB1 := Lib.hid hb1
  have hs1 := hb1.size
  clear hb1 HCF
  go_wp2_with (fail)
  refine (clonePt_some b o n c (recs ptC l) w1 (by rw [recs_length ptC_len, HN.out]) (recs_one ptC_one l) (by omega) (HF.out.cells.keep (HB1.out.block b HF.out.lt))).mono ?_
  rintro e w2 ⟨v2, rfl, ho2, hb2⟩
  obtain ⟨A2, c2, rfl⟩ := own_slice ho2
  obtain ⟨h5, h6, h7⟩ | ⟨g, rfl, hg1, hg2⟩ := own_two ho2
  · omega
  have hs2 := hb2.size
  have HO2 := Lib.hid (own_mono ho2 hs1)
  have HB2 := Lib.hid (HB1.out.trans (hb2.mono hs1))
  clear ho2 hb2
  go_wp2_with (fail)
  refine (sortS_any l n c2 w.heap.size (some ⟨g, 0, none⟩) w2 HN.out hn12 (by omega) HO2.out).mono ?_
  rintro e w3 ⟨rfl, m, hpm, hm, ho3, hg3⟩
  have hs3 := hg3.size
  have HB3 := Lib.hid (HB2.out.grown hg3 HB2.out.size (fun q hq => (HO2.out.lt q hq).1))
  have HO3 := Lib.hid ho3
  have HM := Lib.hid hm
  have HMS := Lib.hid (show ∀ x ∈ m, SpB x from fun x hx => HSP.out x (hpm.mem_iff.1 hx))
  have HTW := Lib.hid (NoTw.of (hpm.nodup_iff.2 HNODUP.out))
  clear ho3 hg3 hpm hm
  go_wp2_with (fail)
  refine (compactP_no m n c2 (some ⟨g, 0, none⟩) w3 HM.out (by omega) HTW.out (own_row HO3.out)).mono ?_
  rintro e w4 ⟨rfl, hb4⟩
  have hs4 := hb4.size
  have HO4 := Lib.hid (own_below HO3.out hb4)
  have HB4 := Lib.hid (HB3.out.trans (hb4.mono HB3.out.size))
  clear hb4
  go_wp2_with (fail)
  refine (half_any m n c2 (some ⟨g, 0, none⟩) w4 HM.out (by omega) HMS.out (own_row HO4.out)).mono ?_
  rintro e w5 ⟨A5, m5, c5, L5, rfl, hm5, hm52, hI5⟩
  have hs5 := hI5.bel.size
  have hl5 : 2 ≤ m5 ∧ m5 ≤ 12 := by have := HM.out; exact ⟨hm52 (by omega), by omega⟩
  have HI5 := Lib.hid hI5
  have HO5 := Lib.hid (own_below HO4.out hI5.bel)
  have HB5 := Lib.hid (HB4.out.trans (hI5.bel.mono HB4.out.size))
  clear hI5 hm5 hm52
  go_wp2_with (fail)
  refine (revS_any m n c2 w.heap.size g w5 HM.out (by omega) HO5.out).mono ?_
  rintro e w6 ⟨rfl, ho6, hg6⟩
  have hs6 := hg6.size
  have HO6 := Lib.hid ho6
  have HB6 := Lib.hid (HB5.out.grown hg6 HB5.out.size (fun q hq => by injection hq with hq; omega))
  have HL6 := Lib.hid (own_kept HI5.out.own hg6 (by omega))
  clear ho6 hg6
  go_wp2_with (fail)
  refine (half_any m.reverse n c2 (some ⟨g, 0, none⟩) w6 (by rw [List.length_reverse]; exact HM.out) (by omega) (fun x hx => HMS.out x (List.mem_reverse.1 hx)) (own_row HO6.out)).mono ?_
  rintro e w7 ⟨A7, m7, c7, L7, rfl, hm7, hm72, hI7⟩
  have hs7 := hI7.bel.size
  have hl7 : 2 ≤ m7 ∧ m7 ≤ 12 := by have := HM.out; rw [List.length_reverse] at hm7 hm72; exact ⟨hm72 (by omega), by omega⟩
  have HI7 := Lib.hid hI7
  have HL7 := Lib.hid (own_below HL6.out hI7.bel)
  have HB7 := Lib.hid (HB6.out.trans (hI7.bel.mono HB6.out.size))
  obtain ⟨h5, h6, h7⟩ | ⟨g7, rfl, hg71, hg72⟩ := own_two hI7.own
  · omega
  have hcap := own_cap hI7.own
  obtain ⟨q, rfl⟩ : ∃ q, m7 = q + 2 := ⟨m7 - 2, by omega⟩
  have hw1 : IntKind.i64.wrap ((q : Int) + 2 - 1) = (q : Int) + 1 := by rw [IntKind.wrap_i64]; omega
  have hw2 : (q : Int) + 1 ≤ (c7 : Int) := by omega
  have hw3 : (1 : Int) ≤ (q : Int) + 1 := by omega
  have hw4 : (0 : Int) ≤ (q : Int) + 1 := by omega
  have hw5 : ((q : Int) + 1).toNat = q + 1 := by omega
  have hw6 : q + 1 ≤ c7 := by omega
  have hw7 : ¬ c7 = 1 := by omega
  clear hI7 hm7 hm72
  go_upto_region 13 with (fail)
  go_wp2_with (fail)
  have hla : Below w7.heap.size w7 (w7.alloc (.cells #[.slice A5 m5 c5, .slice (some ⟨g7, 2, none⟩) q (c7 - 1)] 26)) := (Below.refl _ _).alloc (Nat.le_refl _) _
  have hna := heap_new w7 (.cells #[.slice A5 m5 c5, .slice (some ⟨g7, 2, none⟩) q (c7 - 1)] 26)
  obtain ⟨l2, hl2, hy2⟩ : ∃ l2 : List Pt, l2.length = q ∧ Cells w7 g7 2 (recs ptC l2) := by
    have hlen := HI7.out.len
    have h := (own_cells0 HI7.out.own).take ((q + 1) * 2)
    rw [recs_take_pt L7 (q + 1) (by omega)] at h
    obtain ⟨y, l2, hy⟩ : ∃ y l2, L7.take (q + 1) = y :: l2 := by
      cases hL : L7.take (q + 1) with
      | nil =>
        have := congrArg List.length hL
        rw [List.length_take, List.length_nil] at this
        omega
      | cons y l2 => exact ⟨y, l2, rfl⟩
    refine ⟨l2, ?_, ?_⟩
    · have := congrArg List.length hy
      rw [List.length_take, List.length_cons] at this
      omega
    · rw [hy, recs_cons] at h
      have h2 := h.drop 2
      rw [Nat.zero_add, show (ptC y ++ recs ptC l2).drop 2 = recs ptC l2 from rfl] at h2
      exact h2
  refine (catCatP_any L5 l2 m5 q c5 (c7 - 1) w7.heap.size A5 (some ⟨g7, 2, none⟩) _ HI5.out.len hl2 (by omega) (by omega) (cell_of_blk (j := 0) hna rfl) (cell_of_blk (j := 1) hna rfl) ((own_ly HL7.out).below hla) (.inr ⟨g7, 2, rfl, by simp; omega, hy2.keep (hla.block g7 hg72)⟩)).mono ?_
  rintro e w8 ⟨v8, rfl, ho8, hb8⟩
  have HP := Lib.hid (show HuPost w (.returned (.tuple #[v8, .int .i64 0])) w8 from
    ⟨v8, m5 + q, L5 ++ l2, rfl, by rw [List.length_append, HI5.out.len, hl2], by omega, own_mono ho8 (HB7.out.trans (hla.mono HB7.out.size)).size, (HB7.out.trans (hla.mono HB7.out.size)).trans (hb8.mono (HB7.out.trans (hla.mono HB7.out.size)).size)⟩)
  clear ho8 hb8 hla hna hy2
  go_wp2_with (fail)
  go_ret2
  exact HP.out
end Go.Proofs.YthplhibdapjjgaaGreatDoor
