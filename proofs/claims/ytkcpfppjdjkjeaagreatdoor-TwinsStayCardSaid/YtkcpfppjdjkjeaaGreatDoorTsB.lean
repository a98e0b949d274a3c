/- slices.Concat of raw cells; twin.joined, twin.merged, twin.Set with the one cell of the name "zz". Printed by gen_TsA.py. -/
import Derived.Test.YtkcpfppjdjkjeaaGreatDoorTsA
import Derived.Test.YtkcpfppjdjkjeaaGreatDoorCeN
namespace Go.Proofs.YtkcpfppjdjkjeaaGreatDoor
open Go.RowKit

set_option maxRecDepth 100000 in
set_option maxHeartbeats 4000000 in
theorem catR_any (l1 l2 l3 : List Cr) (n1 n2 n3 c1 c2 c3 b : Nat) (A1 A2 A3 : Option Addr) (w : World) (h1 : l1.length = n1) (h2 : l2.length = n2) (h3 : l3.length = n3) (hn1 : n1 ≤ 1000) (hn2 : n2 ≤ 1000) (hn3 : n3 ≤ 1000) (k0 : w.cell? ⟨b, 0, none⟩ = some (.slice A1 n1 c1)) (k1 : w.cell? ⟨b, 1, none⟩ = some (.slice A2 n2 c2)) (k2 : w.cell? ⟨b, 2, none⟩ = some (.slice A3 n3 c3)) (hy1 : Ly w A1 n1 c1 (recs crC l1)) (hy2 : Ly w A2 n2 c2 (recs crC l2)) (hy3 : Ly w A3 n3 c3 (recs crC l3)) :
    Calls Tryz.prog 115 #[.slice (some ⟨b, 0, none⟩) 3 3] w fun e w' => ∃ v, e = .returned v ∧ w'.ownsRow w.heap.size 41 8 v (n1 + n2 + n3) (recs crC (l1 ++ l2 ++ l3)) ∧ Below w.heap.size w w' := by
  obtain ⟨i0, hi0, hz0, hz1, hz2⟩ := info_parts Tryz.infoCe
  have hb := World.block_lt_of_cell? w _ k0
  simp only at hb
  have HY := Lib.hid (And.intro hy1 (And.intro hy2 hy3))
  have HL := Lib.hid (And.intro h1 (And.intro h2 h3))
  have HONE := Lib.hid (fun l => recs_one crC_one l)
  have hw1 : IntKind.i64.wrap ((n1 : Int) + (n2 : Int)) = (n1 : Int) + (n2 : Int) := by rw [IntKind.wrap_i64]; omega
  have hw2 : IntKind.i64.wrap ((n1 : Int) + (n2 : Int) + (n3 : Int)) = (n1 : Int) + (n2 : Int) + (n3 : Int) := by rw [IntKind.wrap_i64]; omega
  have hneg : ¬ ((n1 : Int) + (n2 : Int) < 0) := by omega
  have hneg2 : ¬ ((n1 : Int) + (n2 : Int) + (n3 : Int) < 0) := by omega
  have hneg1 : ¬ ((n1 : Int) < 0) := by omega
  have K := Lib.hid (And.intro k0 (And.intro k1 k2))
  clear hy1 hy2 hy3 h1 h2 h3
  go_enter Tryz.func115, Tryz.ntmps115
  go_wp2_with (fail)
  refine wp_loop_rounds 4 ?_
  rw [rounds_succ]
  go_wp2_with (fail)
  rw [rounds_succ]
  go_wp2_with (fail)
  rw [rounds_succ]
  go_wp2_with (fail)
  rw [rounds_succ]
  go_wp2_with (fail)
  rw [show (n1 : Int) + (n2 : Int) + (n3 : Int) = ((n1 + n2 + n3 : Nat) : Int) by omega]
  refine (growC_any (n1 + n2 + n3) w (by omega)).mono ?_
  rintro e w1 ⟨v1, rfl, ho1, hb1⟩
  have hs1 := hb1.size
  have q0 := (hb1.cell (p := ⟨b, 0, none⟩) hb).trans K.out.1
  have q1 := (hb1.cell (p := ⟨b, 1, none⟩) hb).trans K.out.2.1
  have q2 := (hb1.cell (p := ⟨b, 2, none⟩) hb).trans K.out.2.2
  have hbw : b < w1.heap.size := by omega
  have HO1 := Lib.hid ho1
  have HB1 := Lib.hid hb1
  obtain ⟨v2, w2, hr2, ho2, hg2⟩ := app_ly (P := Tryz.prog) w1 w.heap.size 26 26 41 i0 _ 8 88 Tryz.underlying26 hi0 hz0 hz1 hz2 rfl (by decide) v1 0 [] ho1 A1 n1 c1 (recs crC l1) (by rw [recs_length crC_len, HL.out.1]) (HY.out.1.below hb1) (HONE.out l1) (by unfold maxLen; omega) (by omega) hs1
  rw [Nat.zero_add, List.nil_append] at ho2
  have hs2 := hg2.size
  have hlo1 : ∀ g, v1.ownBlock = some g → w.heap.size ≤ g := fun g e => (ho1.lt g e).1
  have HB2 := Lib.hid (hb1.grown hg2 hs1 hlo1)
  have p1 := (HB2.out.cell (p := ⟨b, 1, none⟩) hb).trans K.out.2.1
  have p2 := (HB2.out.cell (p := ⟨b, 2, none⟩) hb).trans K.out.2.2
  have hbw2 : b < w2.heap.size := by omega
  obtain ⟨v3, w3, hr3, ho3, hg3⟩ := app_ly (P := Tryz.prog) w2 w.heap.size 26 26 41 i0 _ 8 88 Tryz.underlying26 hi0 hz0 hz1 hz2 rfl (by decide) v2 n1 (recs crC l1) ho2 A2 n2 c2 (recs crC l2) (by rw [recs_length crC_len, HL.out.2.1]) (HY.out.2.1.below HB2.out) (HONE.out l2) (by unfold maxLen; omega) (by omega) (by omega)
  have hs3 := hg3.size
  have HB3 := Lib.hid (HB2.out.grown hg3 (by omega) (fun g e => (ho2.lt g e).1))
  have r2 := (HB3.out.cell (p := ⟨b, 2, none⟩) hb).trans K.out.2.2
  have hbw3 : b < w3.heap.size := by omega
  obtain ⟨v4, w4, hr4, ho4, hg4⟩ := app_ly (P := Tryz.prog) w3 w.heap.size 26 26 41 i0 _ 8 88 Tryz.underlying26 hi0 hz0 hz1 hz2 rfl (by decide) v3 (n1 + n2) (recs crC l1 ++ recs crC l2) ho3 A3 n3 c3 (recs crC l3) (by rw [recs_length crC_len, HL.out.2.2]) (HY.out.2.2.below HB3.out) (HONE.out l3) (by unfold maxLen; omega) (by omega) (by omega)
  have HB4 := Lib.hid (HB3.out.grown hg4 (by omega) (fun g e => (ho3.lt g e).1))
  have HO4 := Lib.hid (show w4.ownsRow w.heap.size 41 8 v4 (n1 + n2 + n3) (recs crC (l1 ++ l2 ++ l3)) from by rw [recs_append, recs_append]; exact ho4)
  clear ho1 hb1 ho2 hg2 ho3 hg3 ho4 hg4 hlo1
  go_wp2_with (fail)
  refine wp_loop_rounds 4 ?_
  rw [rounds_succ]
  go_wp2_with (at_builtin; refine Lib.wpList_append_run _ rfl _ _ _ _ rfl _ _ rfl rfl _ _ hr2 ?_)
  rw [rounds_succ]
  go_wp2_with (at_builtin; refine Lib.wpList_append_run _ rfl _ _ _ _ rfl _ _ rfl rfl _ _ hr3 ?_)
  rw [rounds_succ]
  go_wp2_with (at_builtin; refine Lib.wpList_append_run _ rfl _ _ _ _ rfl _ _ rfl rfl _ _ hr4 ?_)
  rw [rounds_succ]
  go_wp2_with (fail)
  go_ret
  exact ⟨_, rfl, HO4.out, HB4.out⟩

def ZzPost (n : Nat) (w : World) (e : Ending) (w' : World) : Prop :=
  ∃ (A : Option Addr) (c : Nat) (l : List Value), e = .returned (.tuple #[.slice A (n + 1) c, .int .i64 0]) ∧ l.length = (n + 1) * 8 ∧ w'.ownsRow w.heap.size 41 8 (.slice A (n + 1) c) (n + 1) l ∧ Below w.heap.size w w'
set_option maxRecDepth 100000 in
set_option maxHeartbeats 8000000 in
theorem joinZ_any (a : List Ce) (na ca b o : Nat) (A : Option Addr) (w : World) (ha : CsOk a) (hna : a.length = na) (hna7 : na ≤ 40) (hca : na ≤ ca)
    (hra : Ly w A na ca (recs ceC a)) (hb : b < w.heap.size) (hC : Cells w b o (crC zzR)) :
    Calls Tryz.prog 68 #[.slice A na ca, .slice (some ⟨b, o, none⟩) 1 1] w fun e w' => ZzPost na w e w' := by
  obtain ⟨i0, hi0, hz0, hz1, hz2⟩ := info_parts Tryz.infoCe
  have HRA := Lib.hid hra
  have HC := Lib.hid hC
  have HA := Lib.hid ha
  have HNA := Lib.hid hna
  clear hra hC ha hna
  go_enter Tryz.func68, Tryz.ntmps68
  go_wp2_with (fail)
  go_loopw [0, 1, 6] (fun va vb vo wr => ∃ (a' out : List Ce) (A' : Option Addr) (na' ca' no : Nat), va = .slice A' na' ca' ∧ vb = .slice (some ⟨b, o, none⟩) 1 1 ∧ a'.length = na' ∧ out.length = no ∧ na' ≤ ca' ∧ no + na' = na ∧ CsOk a' ∧ Ly w A' na' ca' (recs ceC a') ∧ wr.ownsRow w.heap.size 41 8 vo no (recs ceC out) ∧ Below w.heap.size w wr) (fun va _ _ _ => slLn va)
  case atStart => exact ⟨a, [], A, na, ca, 0, rfl, rfl, HNA.out, rfl, hca, by omega, HA.out, HRA.out, World.ownsRow_nil _ _ _ _, Below.refl _ _⟩
  case round =>
    obtain ⟨a', out, A', na', ca', no, rfl, rfl, hla, hlo, hcA, hsum, hoa, hrA, hown, hbr⟩ := hrel
    have hbs := hbr.size
    have HB := Lib.hid hbr
    have HO := Lib.hid hown
    have HLA := Lib.hid hla
    have HLO := Lib.hid hlo
    have HOA := Lib.hid hoa
    have HRa := Lib.hid hrA
    clear hla hlo hoa hrA hown hbr
    by_cases hnz : 0 < na'
    · have ha0I : (0 : Int) < na' := by omega
      obtain ⟨x, a2, rfl⟩ : ∃ x a2, a' = x :: a2 := by
        cases a' with
        | nil => have := HLA.out; simp at this; omega
        | cons x a2 => exact ⟨x, a2, rfl⟩
      obtain ⟨ba, oa, rfl, hba, hCa⟩ := HRa.out.pos
      obtain ⟨An, hAn, hRAn⟩ := ly_next hCa hba (by have := HLA.out; simpa using this) hcA
      obtain ⟨hx7, hxv, hxs⟩ := HOA.out.2 x (by simp)
      have HRAn := Lib.hid hRAn
      have HLA2 := Lib.hid (show a2.length = na' - 1 from by have := HLA.out; simp at this; omega)
      have HAT := Lib.hid HOA.out.tail
      have HQ := Lib.hid (fun (V : World) (hV : Below wr.heap.size wr V) => by
        have h1 := ce_cells hCa 0 x rfl
        simp only [Nat.zero_mul, Nat.add_zero] at h1
        have hb2 := HB.out.trans (hV.mono hbs)
        have h2 := h1.below hb2 hba
        have h3 : ∀ i v, (crC zzR)[i]? = some v → V.cell? ⟨b, o + i, none⟩ = some v := fun i v hi => (hb2.cell (p := ⟨b, o + i, none⟩) hb).trans (HC.out i v hi)
        exact (⟨h2.1, h2.2.1, h2.2.2.1, h2.2.2.2.1, h2.2.2.2.2.1, h2.2.2.2.2.2.1, h2.2.2.2.2.2.2.1, h2.2.2.2.2.2.2.2, h3 0 _ rfl, h3 1 _ rfl, h3 2 _ rfl, h3 3 _ rfl, h3 4 _ rfl, h3 5 _ rfl, h3 6 _ rfl, h3 7 _ rfl⟩ : V.cell? ⟨ba, oa, none⟩ = some (.string (nm x.1)) ∧ V.cell? ⟨ba, oa + 1, none⟩ = some (.int .i64 x.2.1.k) ∧ V.cell? ⟨ba, oa + 2, none⟩ = some (.bool x.2.1.f) ∧ V.cell? ⟨ba, oa + 3, none⟩ = some (.int .i64 x.2.1.n) ∧ V.cell? ⟨ba, oa + 4, none⟩ = some (.string x.2.1.s) ∧ V.cell? ⟨ba, oa + 5, none⟩ = some (.int .i64 x.2.2.at_) ∧ V.cell? ⟨ba, oa + 6, none⟩ = some (.string (byT x.2.2.by_)) ∧ V.cell? ⟨ba, oa + 7, none⟩ = some (.int .i64 x.2.2.no) ∧ V.cell? ⟨b, o, none⟩ = some (.string ⟨#[122, 122]⟩) ∧ V.cell? ⟨b, o + 1, none⟩ = some (.int .i64 1) ∧ V.cell? ⟨b, o + 2, none⟩ = some (.bool false) ∧ V.cell? ⟨b, o + 3, none⟩ = some (.int .i64 0) ∧ V.cell? ⟨b, o + 4, none⟩ = some (.string ⟨#[]⟩) ∧ V.cell? ⟨b, o + 5, none⟩ = some (.int .i64 9) ∧ V.cell? ⟨b, o + 6, none⟩ = some (.string ⟨#[122]⟩) ∧ V.cell? ⟨b, o + 7, none⟩ = some (.int .i64 0)))
      have HC1 := Lib.hid (fun (V : World) => show Calls Tryz.prog 44 #[.string (nm x.1), .string ⟨#[122, 122]⟩] V fun e w' => e = .returned (.int .i64 (-1)) ∧ Below V.heap.size V w' from (scompare_any (nm x.1) ⟨#[122, 122]⟩ V).mono (fun e w' h => ⟨by rw [h.1, nm_zz x.1 hx7], h.2 ▸ Below.refl _ _⟩))
      clear hCa hxv hxs hRAn
      have ha1 : ¬ (1 : Int) > na' := by omega
      have ha1N : 1 ≤ na' := hnz
      have ha1c : 1 ≤ ca' := by omega
      go_upto_region 3 with (fail)
      refine qRegionTail 10 (by kernel_rfl) (by kernel_rfl) ?_
      simp only [List.take_succ_cons, List.take_zero, List.drop_succ_cons, List.drop_zero]
      repeat (first
        | (go_big_quiet_want; refine qVal (fun V hV => (by (obtain ⟨x0, x1, x2, x3, x4, x5, x6, x7, y0, y1, y2, y3, y4, y5, y6, y7⟩ := HQ.out V hV; go_simp; try rfl))) ?_; simp only [Act.put, List.setIfInBounds_toArray, List.set_cons_zero, List.set_cons_succ]; go_big_quiet_on)
        | go_big_quiet_skip)
      refine wpQuiet_nil ?_
      intro w1 hb1'
      have HB1 := Lib.hid hb1'
      have hs1 := hb1'.size
      clear hb1'
      go_upto_region 5 with (go_at_call 44; refine (HC1.out _).mono ?_; rintro e w2 ⟨rfl, hb2⟩; have HB2 := Lib.hid (HB1.out.trans (hb2.mono HB1.out.size)); have hs2 := hb2.size; clear hb2)
      obtain ⟨x0, x1, x2, x3, x4, x5, x6, x7, y0, y1, y2, y3, y4, y5, y6, y7⟩ := HQ.out w2 HB2.out
      have HOw := Lib.hid (own_belowP HO.out HB2.out)
      have HBw := Lib.hid (HB.out.trans (HB2.out.mono hbs))
      go_region_law (first | (refine step_append_row rfl (.tmp 31) (.tmp 35) 26 rfl w.heap.size 41 i0 _ 8 88 Tryz.underlying26 hi0 hz0 hz1 hz2 rfl (by decide) u6 no (recs ceC out) (by simp [Act.eval]) (HOw.out.alloc _) ⟨w2.heap.size, 0, none⟩ 1 1 (ceC x) (by simp [Act.eval]) rfl (cells_add (Cells.new _ _ _ _ _ rfl)) (ceC_one _) (by unfold maxLen; omega) (by omega) (by have := HBw.out.size; simp; omega) ?_; intro v9 w9 ho9 hg9))
      have hlo : ∀ q, u6.ownBlock = some q → w.heap.size ≤ q := fun q hq => (HOw.out.lt q hq).1
      have HB9 := Lib.hid ((HBw.out.alloc HBw.out.size _).drew.grown hg9 (by have := HBw.out.size; first | omega | (simp; omega)) hlo)
      have HO9 := Lib.hid (show w9.ownsRow w.heap.size 41 8 v9 (no + 1) (recs ceC (out ++ [x])) from by rw [recs_snoc]; exact ho9)
      have HLO9 := Lib.hid (show (out ++ [x]).length = no + 1 from by rw [List.length_append, HLO.out]; rfl)
      clear ho9 hg9 hlo x0 x1 x2 x3 x4 x5 x6 x7 y0 y1 y2 y3 y4 y5 y6 y7
      go_wp2_with (fail)
      simp only [Act.put, List.getElem_toArray, List.getElem_cons_zero, List.getElem_cons_succ, List.setIfInBounds_toArray, List.set_cons_zero, List.set_cons_succ]
      go_roundw
      case rel => exact ⟨a2, out ++ [x], An, na' - 1, ca' - 1, no + 1, rfl, rfl, HLA2.out, HLO9.out, by omega, by omega, HAT.out, HRAn.out, HO9.out, HB9.out⟩
      case measure => simp [slLn]; omega
    · obtain rfl : na' = 0 := by omega
      obtain rfl : no = na := by omega
      have hl0 : a' = [] := List.eq_nil_of_length_eq_zero HLA.out
      subst hl0
      have HF := Lib.hid (show ∀ (v : Value) (W : World), W.ownsRow wr.heap.size 41 8 v (no + 0 + 1) (recs crC (out.map crO ++ [] ++ [zzR])) → Below wr.heap.size wr W → ∃ A c, v = .slice A (no + 0 + 1) c ∧ ZzPost no w (.returned (.tuple #[.slice A (no + 0 + 1) c, .int .i64 0])) W from by
        intro v W ho hb
        obtain ⟨A2, c2, rfl⟩ := own_slice ho
        exact ⟨A2, c2, rfl, A2, c2, _, rfl, by rw [recs_length crC_len]; simp [HLO.out], own_mono ho hbs, HB.out.trans (hb.mono hbs)⟩)
      have HLy := Lib.hid (HRa.out.below HB.out)
      have HCw := Lib.hid (show Ly wr (some ⟨b, o, none⟩) 1 1 (recs crC [zzR]) from .inr ⟨b, o, rfl, by omega, by
        have : recs crC [zzR] = crC zzR := by simp [recs]
        rw [this]
        exact HC.out.keep (HB.out.block b hb)⟩)
      obtain ⟨A0, c0, rfl⟩ := own_slice HO.out
      have HLo := Lib.hid (show Ly wr A0 no c0 (recs crC (out.map crO)) from by rw [recs_crO]; exact own_ly HO.out)
      go_wp2_with (fail)
      have hba : Below wr.heap.size wr (wr.alloc (.cells #[.slice A0 no c0, .slice A' 0 ca', .slice (some ⟨b, o, none⟩) 1 1] 26)) := (Below.refl _ _).alloc (Nat.le_refl _) _
      refine (catR_any (out.map crO) [] [zzR] no 0 1 c0 ca' 1 wr.heap.size A0 A' (some ⟨b, o, none⟩) _ (by rw [List.length_map, HLO.out]) rfl rfl (by omega) (by omega) (by omega) (by simp) (by simp) (by simp) (HLo.out.below hba) (HLy.out.below hba) (HCw.out.below hba)).mono ?_
      rintro e w5 ⟨v5, rfl, ho5, hb5⟩
      obtain ⟨A5, c5, rfl, hpost⟩ := HF.out v5 w5 (own_mono ho5 (by simp)) (hba.trans (hb5.mono (by simp)))
      have HPOST := Lib.hid hpost
      clear hpost ho5 hb5 hba
      go_wp2_with (fail)
      refine bodyPost_ret (v := .tuple #[.slice A5 (no + 0 + 1) c5, .int .i64 0]) (by simp [results, Tryz.results68, go_sem]) rfl HPOST.out
set_option maxRecDepth 100000 in
theorem mergeZ_any (a : List Ce) (na ca b o : Nat) (A : Option Addr) (w : World) (ha : CsOk a) (hna : a.length = na) (hna7 : na ≤ 40) (hca : na ≤ ca)
    (hra : Ly w A na ca (recs ceC a)) (hb : b < w.heap.size) (hC : Cells w b o (crC zzR)) :
    Calls Tryz.prog 32 #[.slice A na ca, .slice (some ⟨b, o, none⟩) 1 1] w fun e w' => ZzPost na w e w' := by
  have HJ := Lib.hid (joinZ_any a na ca b o A w ha hna hna7 hca hra hb hC)
  clear hra hC ha hna
  go_enter Tryz.func32, Tryz.ntmps32
  go_wp2_with (fail)
  refine HJ.out.mono ?_
  rintro e w1 ⟨A1, c1, l, rfl, hl, ho, hb1⟩
  have HF := Lib.hid (show ZzPost na w (.returned (.tuple #[.slice A1 (na + 1) c1, .int .i64 0])) w1 from ⟨A1, c1, l, rfl, hl, ho, hb1⟩)
  have hnI : ¬ (((na + 1 : Nat) : Int)) > 500 := by omega
  have hnI2 : ¬ (500 : Int) < ((na + 1 : Nat) : Int) := by omega
  clear hl ho hb1 HJ
  go_wp2_with (fail)
  go_ret2
  exact HF.out
set_option maxRecDepth 100000 in
set_option maxHeartbeats 2000000 in
theorem set_any (a : List Ce) (na ca : Nat) (A : Option Addr) (w : World) (ha : CsOk a) (hna : a.length = na) (hna7 : na ≤ 40) (hca : na ≤ ca)
    (hra : Ly w A na ca (recs ceC a)) (hT : U8T w) :
    Calls Tryz.prog 9 #[.slice A na ca, .agg #[.string ⟨#[122, 122]⟩, .int .i64 1, .bool false, .int .i64 0, .string ⟨#[]⟩], .agg #[.int .i64 9, .string ⟨#[122]⟩, .int .i64 0]] w fun e w' => ZzPost na w e w' := by
  have HRA := Lib.hid (fun V (hV : Below w.heap.size w V) => hra.below hV)
  have HT := Lib.hid (fun V (hV : Below w.heap.size w V) => hT.below hV)
  have HA := Lib.hid ha
  have HNA := Lib.hid hna
  clear hra hT ha hna
  go_enter Tryz.func9, Tryz.ntmps9
  go_upto_region 2 with (fail)
  obtain ⟨g, eg⟩ : ∃ g, g = w.heap.size := ⟨_, rfl⟩
  obtain ⟨w0, e0⟩ : ∃ V : World, V = (((w.alloc (.cells #[.string ⟨#[122, 122]⟩, .int .i64 1, .bool false, .int .i64 0, .string ⟨#[]⟩] 37)).alloc (.cells #[.int .i64 9, .string ⟨#[122]⟩, .int .i64 0] 39)).alloc (.cells #[.string ⟨#[122, 122]⟩, .int .i64 1, .bool false, .int .i64 0, .string ⟨#[]⟩, .int .i64 9, .string ⟨#[122]⟩, .int .i64 0] 41)) := ⟨_, rfl⟩
  have HB0 := Lib.hid (show Below w.heap.size w w0 from by rw [e0]; exact (((Below.refl _ _).alloc (Nat.le_refl _) _).alloc (by simp) _).alloc (by simp; omega) _)
  have hx0 : w0.heap[g]? = some (.cells #[.string ⟨#[122, 122]⟩, .int .i64 1, .bool false, .int .i64 0, .string ⟨#[]⟩] 37 (0, 0)) := by
    rw [e0, eg, Below.heap_alloc _ _ _ (by simp; omega), Below.heap_alloc _ _ _ (by simp)]; exact heap_new w _
  have hx2 : w0.heap[g + 1 + 1]? = some (.cells #[.string ⟨#[122, 122]⟩, .int .i64 1, .bool false, .int .i64 0, .string ⟨#[]⟩, .int .i64 9, .string ⟨#[122]⟩, .int .i64 0] 41 (0, 0)) := by
    rw [e0, eg]
    have := heap_new ((w.alloc (.cells #[.string ⟨#[122, 122]⟩, .int .i64 1, .bool false, .int .i64 0, .string ⟨#[]⟩] 37)).alloc (.cells #[.int .i64 9, .string ⟨#[122]⟩, .int .i64 0] 39)) (.cells #[.string ⟨#[122, 122]⟩, .int .i64 1, .bool false, .int .i64 0, .string ⟨#[]⟩, .int .i64 9, .string ⟨#[122]⟩, .int .i64 0] 41)
    simpa using this
  have hg2 : g + 1 + 1 < w0.heap.size := (Array.getElem?_eq_some_iff.1 hx2).1
  have HK := Lib.hid (fun (V : World) (hV : Below w0.heap.size w0 V) => show V.cell? ⟨g, 1, none⟩ = some (.int .i64 1) from cell_of_blk (j := 1) ((hV.block g (by omega)).trans hx0) rfl)
  have HC := Lib.hid (fun (V : World) (hV : Below w0.heap.size w0 V) => show Cells V (g + 1 + 1) 0 (crC zzR) from by
    have h := (hV.block (g + 1 + 1) hg2).trans hx2
    intro i v hi
    rw [Nat.zero_add]
    exact cell_of_blk h (by simpa [crC, zzR] using hi))
  rw [← eg, ← e0]
  clear eg e0 hx0 hx2
  go_wp2_with (fail)
  refine (checkCells_any a na ca A w0 HA.out HNA.out (by omega) (HRA.out w0 HB0.out).row_ (HT.out w0 HB0.out)).mono ?_
  rintro e w1 ⟨rfl, hb1⟩
  have HB1 := Lib.hid hb1
  have HBw1 := Lib.hid (HB0.out.trans (hb1.mono HB0.out.size))
  have hs1 := hb1.size
  clear hb1
  go_wp2_with (fail)
  refine (checkOne_any (g + 1 + 1) 0 1 w1 (by omega) (HC.out w1 HB1.out) (HT.out w1 HBw1.out)).mono ?_
  rintro e w2 ⟨rfl, hb2⟩
  have HB2 := Lib.hid (HB1.out.trans (hb2.mono hs1))
  have HBw2 := Lib.hid (HBw1.out.trans (hb2.mono HBw1.out.size))
  have hs2 := HB2.out.size
  have hk := HK.out w2 HB2.out
  have hgl : g < w2.heap.size := by omega
  have hgn : ¬ g = w2.heap.size := by omega
  clear hb2
  go_wp2_with (go_at_call 30; refine (first_ok 2 2 _ _ (by omega) (Cells.new _ _ _ _ _ rfl)).mono ?_; rintro e w' ⟨rfl, rfl⟩)
  have hb3 : Below w2.heap.size w2 (w2.alloc (.cells #[.int .i64 0, .int .i64 0] 30)) := (Below.refl _ _).alloc (Nat.le_refl _) _
  generalize w2.alloc (.cells #[.int .i64 0, .int .i64 0] 30) = w3 at hb3 ⊢
  have HB3 := Lib.hid (HB2.out.trans (hb3.mono hs2))
  have HBw3 := Lib.hid (HBw2.out.trans (hb3.mono HBw2.out.size))
  have hs3 := HB3.out.size
  clear hb3
  refine (mergeZ_any a na ca (g + 1 + 1) 0 A w3 HA.out HNA.out hna7 hca (HRA.out w3 HBw3.out) (by omega) (HC.out w3 HB3.out)).mono ?_
  rintro e w4 ⟨A4, c4, l4, rfl, hl4, ho4, hb4⟩
  have HF := Lib.hid (show ZzPost na w (.returned (.tuple #[.slice A4 (na + 1) c4, .int .i64 0])) w4 from ⟨A4, c4, l4, rfl, hl4, own_mono ho4 HBw3.out.size, HBw3.out.trans (hb4.mono HBw3.out.size)⟩)
  clear hl4 ho4 hb4
  go_wp2_with (fail)
  go_ret2
  exact HF.out
end Go.Proofs.YtkcpfppjdjkjeaaGreatDoor
