/- fleetref1.SamplesFault: where it answers 0, the samples are right. -/
import Derived.Test.YtlfphndnkgoinaaGreatDoorTeC
import Derived.Test.YtlfphndnkgoinaaGreatDoorMgK
import Derived.Deep.CutBlock
namespace Go.Proofs.YtlfphndnkgoinaaGreatDoor
open Go.RowKit

theorem rkey_te (d : Nat) (w : World) : Calls Tryz.prog 56 #[.string (teT d)] w fun e w' => ∃ t : Bool, e = .returned (.bool t) ∧ (t = true → d < 2) ∧ Below w.heap.size w w' := by
  match d with
  | 0 => exact (rkey_yes _ (by decide) (by decide) (by rfl) w).mono fun e w' ⟨t, h1, h2⟩ => ⟨t, h1, fun _ => by omega, h2⟩
  | 1 => exact (rkey_yes _ (by decide) (by decide) (by rfl) w).mono fun e w' ⟨t, h1, h2⟩ => ⟨t, h1, fun _ => by omega, h2⟩
  | 2 => exact (rkey_nil w).mono fun e w' h => ⟨false, h.1, by simp, h.2⟩
  | n + 3 => exact (rkey_A w).mono fun e w' h => ⟨false, h.1, by simp, h.2⟩
theorem rkey_me (d : Nat) (w : World) : Calls Tryz.prog 56 #[.string (meT d)] w fun e w' => ∃ t : Bool, e = .returned (.bool t) ∧ Below w.heap.size w w' := by
  match d with
  | 0 => exact rkey_yes _ (by decide) (by decide) (by rfl) w
  | n + 1 => exact rkey_yes ⟨#[117]⟩ (by decide) (by decide) (by rfl) w
def TeF1 (w : World) (x : Te) (e : Ending) (w' : World) : Prop := ∃ z : Int, e = .returned (.int .i64 z) ∧ (z = 0 → TeR x) ∧ Below w.heap.size w w'
theorem TeF1.no {w w' : World} {x : Te} {z : Int} (hz : z ≠ 0) (hb : Below w.heap.size w w') : TeF1 w x (.returned (.int .i64 z)) w' := ⟨z, rfl, fun h => absurd h hz, hb⟩
set_option maxRecDepth 100000 in
set_option maxHeartbeats 2000000 in
theorem sampleF_any (x : Te) (w : World) (hm : x.m < 2) : Calls Tryz.prog 31 #[.agg #[.string (teT x.d), .string (meT x.m), .int .i64 x.at_, .int .i64 x.v]] w fun e w' => TeF1 w x e w' := by
  obtain ⟨d, m, at_, v⟩ := x
  simp only at hm ⊢
  obtain ⟨w5, e5⟩ : ∃ V : World, V = w.alloc (.cells #[.string (teT d), .string (meT m), .int .i64 at_, .int .i64 v] 43) := ⟨_, rfl⟩
  obtain ⟨g, eg⟩ : ∃ g, g = w.heap.size := ⟨_, rfl⟩
  have hb5 : Below w.heap.size w w5 := by rw [e5]; exact (Below.refl _ _).alloc (Nat.le_refl _) _
  have hg5 : w5.heap[g]? = some (.cells #[.string (teT d), .string (meT m), .int .i64 at_, .int .i64 v] 43 (0, 0)) := by rw [e5, eg]; exact heap_new w _
  have hlt5 := (Array.getElem?_eq_some_iff.1 hg5).1
  have HQ := Lib.hid (fun (V : World) (hV : Below w5.heap.size w5 V) => And.intro (cell_of_blk (j := 0) ((hV.block g hlt5).trans hg5) rfl) (And.intro (cell_of_blk (j := 1) ((hV.block g hlt5).trans hg5) rfl) (And.intro (cell_of_blk (j := 2) ((hV.block g hlt5).trans hg5) rfl) (cell_of_blk (j := 3) ((hV.block g hlt5).trans hg5) rfl))))
  obtain ⟨q0, q1, q2, q3⟩ := HQ.out w5 (Below.refl _ _)
  have HB5 := Lib.hid hb5
  clear hb5 hg5
  go_enter Tryz.func31, Tryz.ntmps31
  go_upto_block 0 with (fail)
  rw [← eg, ← e5]
  clear eg e5
  go_wp2_with (fail)
  refine (momF_any _ _).mono ?_
  rintro e w' ⟨rfl, rfl⟩
  by_cases ht : 0 ≤ at_ ∧ at_ ≤ 345686399999
  case neg =>
    rw [if_neg ht]
    clear ht
    go_wp2_with (fail)
    go_ret
    exact TeF1.no (by decide) HB5.out
  rw [if_pos ht]
  have HT := Lib.hid ht
  clear ht
  go_wp2_with (fail)
  refine (rkey_te d _).mono ?_
  rintro e w7 ⟨t1, rfl, hd, hb7⟩
  have hs7 := hb7.size
  have HB7 := Lib.hid (below_step HB5.out hb7)
  have HB57 := Lib.hid hb7
  have HD := Lib.hid hd
  have hlt7 : g < w7.heap.size := by omega
  clear q0 q1 q2 q3 hb7 hd
  obtain ⟨q0, q1, q2, q3⟩ := HQ.out w7 HB57.out
  cases t1
  case false =>
    go_wp2_with (fail)
    go_ret
    exact TeF1.no (by decide) HB7.out
  go_wp2_with (fail)
  refine (rkey_me m _).mono ?_
  rintro e w8 ⟨t2, rfl, hb8⟩
  have hs8 := hb8.size
  have HB8 := Lib.hid (below_step HB7.out hb8)
  have HB58 := Lib.hid (below_step HB57.out hb8)
  have hlt8 : g < w8.heap.size := by omega
  clear q0 q1 q2 q3 hb8
  obtain ⟨q0, q1, q2, q3⟩ := HQ.out w8 HB58.out
  cases t2
  case false =>
    go_wp2_with (fail)
    go_ret
    exact TeF1.no (by decide) HB8.out
  go_wp2_with (fail)
  refine (inR_any _ _ _ _).mono ?_
  rintro e w' ⟨rfl, rfl⟩
  by_cases hk : -1000000000 ≤ v ∧ v ≤ 1000000000
  case neg =>
    rw [decide_eq_false hk]
    clear hk
    go_wp2_with (fail)
    go_ret
    exact TeF1.no (by decide) HB8.out
  rw [decide_eq_true hk]
  have HK := Lib.hid hk
  clear hk
  go_wp2_with (fail)
  go_ret
  exact ⟨0, rfl, fun _ => ⟨by simpa using HD.out, hm, HT.out.1, by have := HT.out.2; unfold tEnd; show at_ < _; omega, HK.out⟩, HB8.out⟩
def TesF (w : World) (l : List Te) (e : Ending) (w' : World) : Prop := ∃ z : Int, e = .returned (.int .i64 z) ∧ (z = 0 → TesOk l) ∧ Below w.heap.size w w'
theorem TesF.no {w w' : World} {l : List Te} {z : Int} (hz : z ≠ 0) (hb : Below w.heap.size w w') : TesF w l (.returned (.int .i64 z)) w' := ⟨z, rfl, fun h => absurd h hz, hb⟩
set_option maxRecDepth 100000 in
set_option maxHeartbeats 4000000 in
theorem samplesFault_any (l : List Te) (n c : Nat) (A : Option Addr) (w : World) (hn : l.length = n) (hn2 : n ≤ 1000) (hr : Row w w.heap.size A (recs teC l)) (hg : ∀ x ∈ l, x.m < 2) :
    Calls Tryz.prog 11 #[.slice A n c] w fun e w' => TesF w l e w' := by
  have HR := Lib.hid hr
  have HN := Lib.hid hn
  have HG := Lib.hid hg
  have hnI2 : ¬ (5000 : Int) < n := by omega
  clear hr hn hg
  go_enter Tryz.func11, Tryz.ntmps11
  go_wp2_with (fail)
  go_loopw [11] (fun s wr => ∃ (i : Nat), i ≤ n ∧ s = .int .i64 (i : Int) ∧ Below w.heap.size w wr ∧ Hid (TesOk (l.take i))) (fun s _ => n - (intOf s).toNat)
  case atStart => exact ⟨0, by omega, rfl, Below.refl _ _, Lib.hid (by simpa using TesOk.nil)⟩
  case round =>
    obtain ⟨i, hin, rfl, hbr, HOK⟩ := hrel
    have hbs := hbr.size
    have HB := Lib.hid hbr
    clear hbr
    by_cases hlt : i < n
    · have hltI : (i : Int) < n := by omega
      obtain ⟨x, hx⟩ : ∃ x, l[i]? = some x := ⟨_, List.getElem?_eq_getElem (by have := HN.out; omega)⟩
      obtain ⟨b, o, rfl, hb, hC⟩ := (HR.out.below HB.out).posR teC_len (by omega) (by have := HN.out; omega)
      have HSF := Lib.hid (fun V => sampleF_any x V (HG.out x (List.mem_of_getElem? hx)))
      obtain ⟨c0, c1, c2, c3⟩ := te_cells hC i x hx
      have HP := Lib.hid hx
      have hb' : b < wr.heap.size := by omega
      clear hx hC
      go_upto_region 6 with (fail)
      obtain ⟨g, eg⟩ : ∃ g, g = wr.heap.size := ⟨_, rfl⟩
      obtain ⟨w5, e5⟩ : ∃ w5, w5 = wr.alloc (.cells #[.string (teT x.d), .string (meT x.m), .int .i64 x.at_, .int .i64 x.v] 43) := ⟨_, rfl⟩
      rw [← eg, ← e5]
      have hg5 : w5.heap[g]? = some (teBk x) := by rw [e5, eg]; exact heap_new wr _
      have HB5 := Lib.hid (show Below w.heap.size w w5 from by rw [e5]; exact HB.out.alloc hbs _)
      have hlt5 : g < w5.heap.size := by rw [e5, eg]; simp
      have hbs5 := HB5.out.size
      have HQ := Lib.hid (fun (V : World) (hV : Below w5.heap.size w5 V) => show TeAt V g 0 x from te_blk ((hV.block g hlt5).trans hg5))
      obtain ⟨q0, q1, q2, q3⟩ := te_blk hg5
      simp only [Nat.zero_add] at q0 q1 q2 q3
      clear eg e5 hg5 c0 c1 c2 c3
      go_wp2_with (fail)
      refine (HSF.out _).mono ?_
      rintro e w6 ⟨z, rfl, hz, hb6⟩
      have hs6 := hb6.size
      have HB6 := Lib.hid (HB5.out.trans (hb6.mono hbs5))
      have HB56 := Lib.hid hb6
      clear hb6 q0 q1 q2 q3
      by_cases hz0 : z = 0
      case neg =>
        have hz1 : (z != 0) = true := by simpa using hz0
        have HNO := Lib.hid hz0
        clear hz hz0
        go_wp2_with (fail)
        go_ret
        exact TesF.no HNO.out HB6.out
      have HXR := Lib.hid (hz hz0)
      subst hz0
      clear hz
      by_cases hi0 : i = 0
      case pos =>
        subst hi0
        have hd : decide ((0 : Int) < 0) = false := by decide
        have HOKN := Lib.hid (show TesOk (l.take 1) from by
          rw [te_take_snoc (i := 0) HP.out]
          exact TesOk.snoc HOK.out HXR.out (fun q hq => by simp at hq))
        obtain ⟨q0, q1, q2, q3⟩ := HQ.out w6 HB56.out
        go_wp2_with (fail)
        go_quiet (fail)
        go_wp2_with (fail)
        go_roundw
        case rel => exact ⟨1, by omega, by simp, below_dq HB6.out _, HOKN⟩
        case measure => simp [intOf]; omega
      have hi1I : (0 : Int) < i := by omega
      have hd : decide ((0 : Int) < i) = true := by simpa using hi1I
      have hd2 : decide (0 < i) = true := by simp; omega
      have hd3 : 0 < i := by omega
      obtain ⟨q, hq⟩ : ∃ q, l[i - 1]? = some q := ⟨_, List.getElem?_eq_getElem (by have := HN.out; omega)⟩
      obtain ⟨b2, o2, e2, hb2, hC2⟩ := HR.out.posR teC_len (by omega) (by have := HN.out; omega)
      cases e2
      have HSA := Lib.hid (te_cells hC2 (i - 1) q hq)
      have hwrap : (i : Int) - 1 = ((i - 1 : Nat) : Int) := by omega
      have hwr : IntKind.i64.wrap ((i - 1 : Nat) : Int) = ((i - 1 : Nat) : Int) := by rw [IntKind.wrap_i64]; omega
      have hxI : ((i - 1 : Nat) : Int) < (n : Int) := by omega
      have hxN : i - 1 < n := by omega
      have HQ9 := Lib.hid (fun (V : World) (hV : Below w6.heap.size w6 V) => show TeAt2 V b (o + (i - 1) * 4) q g x from
        te_at2 (HSA.out.below (HB6.out.trans (hV.mono HB6.out.size)) hb2) (HQ.out V (HB56.out.trans (hV.mono HB56.out.size))))
      have HSO := Lib.hid (fun V => show Calls Tryz.prog 32 #[.agg #[.string (teT q.d), .string (meT q.m), .int .i64 q.at_, .int .i64 q.v], .agg #[.string (teT x.d), .string (meT x.m), .int .i64 x.at_, .int .i64 x.v]] V _ from order_te q x V)
      have HLT := Lib.hid (show teCmp q x < 0 → TesOk (l.take (i + 1)) from fun h => by
        rw [te_take_snoc HP.out]
        refine TesOk.snoc HOK.out HXR.out (fun y hy => ?_)
        rw [te_take_last (by omega) hq] at hy
        injection hy with hy
        rw [← hy]
        exact (teCmp_lt q x).1 h)
      obtain ⟨r, er⟩ : ∃ r, r = teCmp q x := ⟨_, rfl⟩
      rw [← er] at HSO HLT
      clear hq hC2 er
      go_upto_region 9 with (fail)
      go_upto_region 9 with (fail)
      refine qRegionTail 9 (by kernel_rfl) (by kernel_rfl) ?_
      simp only [List.take_succ_cons, List.take_zero, List.drop_succ_cons, List.drop_zero]
      repeat (first
        | (go_big_quiet_want; refine qVal (fun V hV => (by (obtain ⟨r0, r1, r2, r3, s0, s1, s2, s3⟩ := HQ9.out V hV; go_simp; try rfl))) ?_; simp only [Act.put, List.setIfInBounds_toArray, List.set_cons_zero, List.set_cons_succ]; go_big_quiet_on)
        | go_big_quiet_skip)
      refine wpQuiet_nil ?_
      intro w10 hb10
      have HB10 := Lib.hid (HB6.out.trans (hb10.mono HB6.out.size))
      clear hb10
      go_wp2_with (fail)
      refine (HSO.out w10).mono ?_
      rintro e w11 ⟨rfl, hb11⟩
      have HB11 := Lib.hid (HB10.out.trans (hb11.mono HB10.out.size))
      clear hb11
      by_cases hr1 : 0 ≤ r
      case pos =>
        go_wp2_with (fail)
        go_ret
        exact TesF.no (by decide) HB11.out
      have HOKN := Lib.hid (HLT.out (by omega))
      go_wp2_with (fail)
      go_roundw
      case rel => exact ⟨i + 1, by omega, by simp, HB11.out, HOKN⟩
      case measure => simp [intOf]; omega
    · have hltI : ¬ (i : Int) < n := by omega
      have hin' : i = n := by omega
      subst hin'
      have HOKN := Lib.hid (show TesOk l from by have := HOK.out; rwa [List.take_of_length_le (by rw [HN.out]; omega)] at this)
      go_wp2_with (fail)
      go_ret
      exact ⟨0, rfl, fun _ => HOKN.out, HB.out⟩
end Go.Proofs.YtlfphndnkgoinaaGreatDoor
