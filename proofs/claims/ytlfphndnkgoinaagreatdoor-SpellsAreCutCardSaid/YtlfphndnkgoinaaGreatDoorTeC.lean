/- rule.CheckSamples of right samples; fleetref1.SamplesFault: where it answers 0, the samples are right. Printed by gen_TeC.py. -/
import Derived.Test.YtlfphndnkgoinaaGreatDoorTeO
import Derived.Test.YtlfphndnkgoinaaGreatDoorMg1
import Derived.Test.YtlfphndnkgoinaaGreatDoorTkA
namespace Go.Proofs.YtlfphndnkgoinaaGreatDoor
open Go.RowKit

def teBk (x : Te) : Obj := .cells #[.string (teT x.d), .string (meT x.m), .int .i64 x.at_, .int .i64 x.v] 43 (0, 0)
def TeAt (V : World) (b o : Nat) (x : Te) : Prop :=
  V.cell? ⟨b, o, none⟩ = some (.string (teT x.d)) ∧ V.cell? ⟨b, o + 1, none⟩ = some (.string (meT x.m)) ∧ V.cell? ⟨b, o + 2, none⟩ = some (.int .i64 x.at_) ∧ V.cell? ⟨b, o + 3, none⟩ = some (.int .i64 x.v)
theorem te_cells {w : World} {b o : Nat} {l : List Te} (h : Cells w b o (recs teC l)) (i : Nat) (x : Te) (hx : l[i]? = some x) : TeAt w b (o + i * 4) x :=
  ⟨rec_cell teC_len h i x hx 0 _ rfl, rec_cell teC_len h i x hx 1 _ rfl, rec_cell teC_len h i x hx 2 _ rfl, rec_cell teC_len h i x hx 3 _ rfl⟩
theorem TeAt.below {V V' : World} {b o : Nat} {x : Te} {B : Nat} (h : TeAt V b o x) (hb : Below B V V') (hB : b < B) : TeAt V' b o x := by
  obtain ⟨h0, h1, h2, h3⟩ := h
  exact ⟨(hb.cell (p := ⟨b, o, none⟩) hB).trans h0, (hb.cell (p := ⟨b, o + 1, none⟩) hB).trans h1, (hb.cell (p := ⟨b, o + 2, none⟩) hB).trans h2, (hb.cell (p := ⟨b, o + 3, none⟩) hB).trans h3⟩
theorem te_blk {V : World} {b : Nat} {x : Te} (h : V.heap[b]? = some (teBk x)) : TeAt V b 0 x :=
  ⟨cell_of_blk (j := 0) h rfl, cell_of_blk (j := 1) h rfl, cell_of_blk (j := 2) h rfl, cell_of_blk (j := 3) h rfl⟩
def TeAt2 (V : World) (b o : Nat) (x : Te) (g : Nat) (y : Te) : Prop :=
  V.cell? ⟨b, o, none⟩ = some (.string (teT x.d)) ∧ V.cell? ⟨b, o + 1, none⟩ = some (.string (meT x.m)) ∧ V.cell? ⟨b, o + 2, none⟩ = some (.int .i64 x.at_) ∧ V.cell? ⟨b, o + 3, none⟩ = some (.int .i64 x.v) ∧ V.cell? ⟨g, 0, none⟩ = some (.string (teT y.d)) ∧ V.cell? ⟨g, 1, none⟩ = some (.string (meT y.m)) ∧ V.cell? ⟨g, 2, none⟩ = some (.int .i64 y.at_) ∧ V.cell? ⟨g, 3, none⟩ = some (.int .i64 y.v)
theorem te_at2 {V : World} {b o g : Nat} {x y : Te} (h : TeAt V b o x) (k : TeAt V g 0 y) : TeAt2 V b o x g y := ⟨h.1, h.2.1, h.2.2.1, h.2.2.2, k.1, k.2.1, k.2.2.1, k.2.2.2⟩
theorem key_te (d : Nat) (hd : d < 2) (w : World) : Calls Tryz.prog 78 #[.string (teT d)] w fun e w' => e = .returned (.bool true) ∧ w = w' := by
  have : d = 0 ∨ d = 1 := by omega
  rcases this with rfl | rfl
  · exact key_yes ⟨#[100, 97]⟩ w (by kernel_rfl)
  · exact key_yes ⟨#[100, 98]⟩ w (by kernel_rfl)
theorem key_me (d : Nat) (w : World) : Calls Tryz.prog 78 #[.string (meT d)] w fun e w' => e = .returned (.bool true) ∧ w = w' := by
  match d with
  | 0 => exact key_yes ⟨#[116]⟩ w (by kernel_rfl)
  | n + 1 => exact key_yes ⟨#[117]⟩ w (by kernel_rfl)
theorem key_rk (d : Nat) (w : World) : Calls Tryz.prog 78 #[.string (rkT d)] w fun e w' => e = .returned (.bool true) ∧ w = w' := by
  match d with
  | 0 => exact key_yes ⟨#[114, 97]⟩ w (by kernel_rfl)
  | n + 1 => exact key_yes ⟨#[114, 98]⟩ w (by kernel_rfl)
set_option maxRecDepth 100000 in
set_option maxHeartbeats 2000000 in
theorem sampleFault_ok (x : Te) (w : World) (h : TeR x) : Calls Tryz.prog 89 #[.agg #[.string (teT x.d), .string (meT x.m), .int .i64 x.at_, .int .i64 x.v]] w fun e w' => e = .returned (.int .i64 0) ∧ Below w.heap.size w w' := by
  obtain ⟨d, m, at_, v⟩ := x
  obtain ⟨hd, hm, h0, h1, hv⟩ := h
  unfold tEnd at h1
  simp only at hd hm h0 h1 hv ⊢
  have HD := Lib.hid (fun V => key_te d hd V)
  have HM := Lib.hid (fun V => key_me m V)
  go_enter Tryz.func89, Tryz.ntmps89
  go_wp2_with (go_at_call 67; refine (moment_yes _ _ h0 h1).mono ?_; rintro e w' ⟨rfl, rfl⟩)
  refine (HD.out _).mono ?_
  rintro e w1 ⟨rfl, rfl⟩
  go_wp2_with (fail)
  refine (HM.out _).mono ?_
  rintro e w1 ⟨rfl, rfl⟩
  go_wp2_with (go_at_call 47; refine (out_no _ _ _ _ hv.1 hv.2).mono ?_; rintro e w' ⟨rfl, rfl⟩)
  go_ret
  exact ⟨rfl, (Below.refl _ _).alloc (Nat.le_refl _) _⟩
theorem pair_te {l : List Te} (h : l.Pairwise TeL) {i k : Nat} {x y : Te} (hi : l[i]? = some x) (hk : l[k]? = some y) (hik : i < k) : TeL x y := by
  obtain ⟨h1, rfl⟩ := List.getElem?_eq_some_iff.1 hi
  obtain ⟨h2, rfl⟩ := List.getElem?_eq_some_iff.1 hk
  exact (List.pairwise_iff_getElem.1 h) i k h1 h2 hik
theorem below_dq {B : Nat} {w w' : World} (h : Below B w w') (q : Nat) : Below B w (w'.drewN q) := ⟨h.os, h.tape, h.output, h.size, h.block⟩
set_option maxRecDepth 100000 in
set_option maxHeartbeats 4000000 in
theorem checkSamples_any (l : List Te) (n c : Nat) (A : Option Addr) (w : World) (hl : TesOk l) (hn : l.length = n) (hn2 : n ≤ 1000) (hr : Row w w.heap.size A (recs teC l)) :
    Calls Tryz.prog 45 #[.slice A n c] w fun e w' => e = .returned (.int .i64 0) ∧ Below w.heap.size w w' := by
  have HR := Lib.hid hr
  have HL := Lib.hid hl
  have HN := Lib.hid hn
  have hnI2 : ¬ (5000 : Int) < n := by omega
  clear hr hl hn
  go_enter Tryz.func45, Tryz.ntmps45
  go_wp2_with (fail)
  go_loopw [11] (fun s wr => ∃ (i : Nat), i ≤ n ∧ s = .int .i64 (i : Int) ∧ Below w.heap.size w wr) (fun s _ => n - (intOf s).toNat)
  case atStart => exact ⟨0, by omega, rfl, Below.refl _ _⟩
  case round =>
    obtain ⟨i, hin, rfl, hbr⟩ := hrel
    have hbs := hbr.size
    have HB := Lib.hid hbr
    clear hbr
    by_cases hlt : i < n
    · have hltI : (i : Int) < n := by omega
      obtain ⟨x, hx⟩ : ∃ x, l[i]? = some x := ⟨_, List.getElem?_eq_getElem (by have := HN.out; omega)⟩
      obtain ⟨b, o, rfl, hb, hC⟩ := (HR.out.below HB.out).posR teC_len (by omega) (by have := HN.out; omega)
      have HSF := Lib.hid (fun V => sampleFault_ok x V (HL.out.1 x (List.mem_of_getElem? hx)))
      obtain ⟨c0, c1, c2, c3⟩ := te_cells hC i x hx
      have HP := Lib.hid hx
      have hb' : b < wr.heap.size := by omega
      clear hx hC
      go_upto_region 6 with (fail)
      obtain ⟨g, eg⟩ : ∃ g, g = wr.heap.size := ⟨_, rfl⟩
      obtain ⟨w5, e5⟩ : ∃ w5, w5 = wr.alloc (.cells #[.string (teT x.d), .string (meT x.m), .int .i64 x.at_, .int .i64 x.v] 43) := ⟨_, rfl⟩
      rw [← eg, ← e5]
      have hg5 : w5.heap[g]? = some (teBk x) := by rw [e5, eg]; exact heap_new wr _
      have HB5 := Lib.hid (show Below w.heap.size w w5 from by rw [e5]; exact HB.out.alloc hbs _)
      have hlt5 : g < w5.heap.size := by rw [e5, eg]; simp
      have hbs5 := HB5.out.size
      have HQ := Lib.hid (fun (V : World) (hV : Below w5.heap.size w5 V) => show TeAt V g 0 x from te_blk ((hV.block g hlt5).trans hg5))
      obtain ⟨q0, q1, q2, q3⟩ := te_blk hg5
      simp only [Nat.zero_add] at q0 q1 q2 q3
      clear eg e5 hg5 c0 c1 c2 c3
      go_wp2_with (fail)
      refine (HSF.out _).mono ?_
      rintro e w6 ⟨rfl, hb6⟩
      have hs6 := hb6.size
      have HB6 := Lib.hid (HB5.out.trans (hb6.mono hbs5))
      have HB56 := Lib.hid hb6
      clear hb6 q0 q1 q2 q3
      by_cases hi0 : i = 0
      case pos =>
        subst hi0
        have hd : decide ((0 : Int) < 0) = false := by decide
        obtain ⟨q0, q1, q2, q3⟩ := HQ.out w6 HB56.out
        go_wp2_with (fail)
        go_quiet (fail)
        go_wp2_with (fail)
        go_roundw
        case rel => exact ⟨1, by omega, by simp, below_dq HB6.out _⟩
        case measure => simp [intOf]; omega
      have hi1I : (0 : Int) < i := by omega
      have hd : decide ((0 : Int) < i) = true := by simpa using hi1I
      have hd2 : decide (0 < i) = true := by simp; omega
      have hd3 : 0 < i := by omega
      obtain ⟨q, hq⟩ : ∃ q, l[i - 1]? = some q := ⟨_, List.getElem?_eq_getElem (by have := HN.out; omega)⟩
      obtain ⟨b2, o2, e2, hb2, hC2⟩ := HR.out.posR teC_len (by omega) (by have := HN.out; omega)
      cases e2
      have HSA := Lib.hid (te_cells hC2 (i - 1) q hq)
      have hwrap : (i : Int) - 1 = ((i - 1 : Nat) : Int) := by omega
      have hwr : IntKind.i64.wrap ((i - 1 : Nat) : Int) = ((i - 1 : Nat) : Int) := by rw [IntKind.wrap_i64]; omega
      have hxI : ((i - 1 : Nat) : Int) < (n : Int) := by omega
      have hxN : i - 1 < n := by omega
      have HQ9 := Lib.hid (fun (V : World) (hV : Below w6.heap.size w6 V) => show TeAt2 V b (o + (i - 1) * 4) q g x from
        te_at2 (HSA.out.below (HB6.out.trans (hV.mono HB6.out.size)) hb2) (HQ.out V (HB56.out.trans (hV.mono HB56.out.size))))
      have HSO := Lib.hid (fun V => show Calls Tryz.prog 90 #[.agg #[.string (teT x.d), .string (meT x.m), .int .i64 x.at_, .int .i64 x.v], .agg #[.string (teT q.d), .string (meT q.m), .int .i64 q.at_, .int .i64 q.v]] V _ from byMoment_te x q V)
      have hr0 : 0 < teCmp x q := (teCmp_gt x q).2 (pair_te HL.out.2 hq HP.out (by omega))
      obtain ⟨r, er⟩ : ∃ r, r = teCmp x q := ⟨_, rfl⟩
      rw [← er] at HSO hr0
      have hr1 : ¬ r ≤ 0 := by omega
      clear hq hC2 er
      go_upto_region 9 with (fail)
      go_upto_region 9 with (fail)
      refine qRegionTail 9 (by kernel_rfl) (by kernel_rfl) ?_
      simp only [List.take_succ_cons, List.take_zero, List.drop_succ_cons, List.drop_zero]
      repeat (first
        | (go_big_quiet_want; refine qVal (fun V hV => (by (obtain ⟨r0, r1, r2, r3, s0, s1, s2, s3⟩ := HQ9.out V hV; go_simp; try rfl))) ?_; simp only [Act.put, List.setIfInBounds_toArray, List.set_cons_zero, List.set_cons_succ]; go_big_quiet_on)
        | go_big_quiet_skip)
      refine wpQuiet_nil ?_
      intro w10 hb10
      have HB10 := Lib.hid (HB6.out.trans (hb10.mono HB6.out.size))
      clear hb10
      go_wp2_with (fail)
      refine (HSO.out w10).mono ?_
      rintro e w11 ⟨rfl, hb11⟩
      have HB11 := Lib.hid (HB10.out.trans (hb11.mono HB10.out.size))
      clear hb11
      go_wp2_with (fail)
      go_roundw
      case rel => exact ⟨i + 1, by omega, by simp, HB11.out⟩
      case measure => simp [intOf]; omega
    · have hltI : ¬ (i : Int) < n := by omega
      have hin' : i = n := by omega
      subst hin'
      go_wp2_with (fail)
      go_ret
      exact ⟨rfl, HB.out⟩
end Go.Proofs.YtlfphndnkgoinaaGreatDoor
