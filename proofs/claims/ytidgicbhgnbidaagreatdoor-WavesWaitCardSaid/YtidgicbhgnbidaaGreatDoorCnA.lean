/- fleetref2.MarksFault: no error says that the marks are right. -/
import Derived.Test.YtidgicbhgnbidaaGreatDoorCmT
import Derived.Test.YtidgicbhgnbidaaGreatDoorMgA
import Derived.Test.YtidgicbhgnbidaaGreatDoorMgB
namespace Go.Proofs.YtidgicbhgnbidaaGreatDoor
open Go.RowKit

/-- It answers a bool. -/
def AnsC (P : Prop) (e : Ending) : Prop := ∃ b : Bool, (b = true → P) ∧ e = .returned (.bool b)
theorem sindexByteN_any (s : ByteArray) (c : Int) (w : World) : Calls Tryz.prog 196 #[.string s, .int .u8 c] w fun e w' => (∃ z : Int, e = .returned (.int .i64 z)) ∧ w = w' := by
  have hl := lindexByte_any s c w
  obtain ⟨z, ez⟩ : ∃ z, z = Lib.indexByte s.data.toList c.toNat.toUInt8 := ⟨_, rfl⟩
  rw [← ez] at hl
  clear ez
  go_enter Tryz.func196, Tryz.ntmps196
  go_wp2_with (go_at_call 231; refine hl.mono ?_; rintro e w' ⟨rfl, rfl⟩)
  go_ret
  exact ⟨⟨z, rfl⟩, rfl⟩
theorem inN_any (n lo hi : Int) (w : World) : Calls Tryz.prog 116 #[.int .i64 n, .int .i64 lo, .int .i64 hi] w fun e w' => AnsC (lo ≤ n ∧ n ≤ hi) e ∧ w = w' := by
  by_cases h1 : lo ≤ n
  · by_cases h2 : n ≤ hi
    · go_enter Tryz.func116, Tryz.ntmps116
      go_wp2_with (fail)
      go_ret
      exact ⟨⟨true, fun _ => ⟨h1, h2⟩, rfl⟩, rfl⟩
    · go_enter Tryz.func116, Tryz.ntmps116
      go_wp2_with (fail)
      go_ret
      exact ⟨⟨false, (fun h => by cases h), rfl⟩, rfl⟩
  · go_enter Tryz.func116, Tryz.ntmps116
    go_wp2_with (fail)
    go_ret
    exact ⟨⟨false, (fun h => by cases h), rfl⟩, rfl⟩
set_option maxRecDepth 100000 in
theorem onlyN_any (s t : ByteArray) (hs : s.size ≤ 100) (w : World) : Calls Tryz.prog 156 #[.string s, .string t] w fun e w' => AnsC True e ∧ w = w' := by
  obtain ⟨n, en⟩ : ∃ n, n = s.size := ⟨_, rfl⟩
  go_enter Tryz.func156, Tryz.ntmps156
  go_wp2_with (fail)
  go_loopw [8] (fun i wr => ∃ k : Nat, k ≤ s.size ∧ i = .int .i64 k ∧ w = wr) (fun i _ => s.size - (intOf i).toNat)
  case atStart => exact ⟨0, Nat.zero_le _, rfl, rfl⟩
  case round =>
    obtain ⟨k, hk, rfl, rfl⟩ := hrel
    by_cases hlt : k < s.size
    · have hltI : (k : Int) < (s.size : Int) := by omega
      go_wp2_with (go_at_call 196; refine (sindexByteN_any _ _ _).mono ?_; rintro e w' ⟨⟨z, rfl⟩, rfl⟩)
      · go_ret
        exact ⟨⟨false, fun _ => trivial, rfl⟩, rfl⟩
      · go_roundw
        case rel => exact ⟨k + 1, by omega, by simp⟩
        case measure => simp [intOf]; omega
    · have hltI : ¬ (k : Int) < (s.size : Int) := by omega
      go_wp2_with (fail)
      go_ret
      exact ⟨⟨true, fun _ => trivial, rfl⟩, rfl⟩
set_option maxRecDepth 100000 in
theorem keyN_any (s : ByteArray) (hs : s.size ≤ 100) (w : World) : Calls Tryz.prog 115 #[.string s] w fun e w' => AnsC (1 ≤ s.size) e ∧ w = w' := by
  go_enter Tryz.func115, Tryz.ntmps115
  go_wp2_with (fail)
  refine (inN_any _ _ _ _).mono ?_
  rintro e w' ⟨⟨b0, hb0, rfl⟩, rfl⟩
  cases b0 with
  | false =>
    clear hb0
    go_wp2_with (fail)
    go_ret
    exact ⟨⟨false, (fun h => by cases h), rfl⟩, rfl⟩
  | true =>
    have h12 := hb0 rfl
    have h1 : 1 ≤ s.size := by omega
    have h1I : (1 : Int) ≤ s.size := by omega
    have H1 := Lib.hid h1
    clear hb0 h12
    go_wp2_with (fail)
    refine (onlyN_any _ _ (by simp only [ByteArray.size_extract]; omega) _).mono ?_
    rintro e w' ⟨⟨b, _, rfl⟩, rfl⟩
    cases b
    · go_wp2_with (fail)
      go_ret
      exact ⟨⟨false, (fun h => by cases h), rfl⟩, rfl⟩
    · go_wp2_with (fail)
      refine (onlyN_any s _ hs _).mono ?_
      rintro e w' ⟨⟨b, _, rfl⟩, rfl⟩
      go_wp2_with (fail)
      go_ret
      exact ⟨⟨b, fun _ => H1.out, rfl⟩, rfl⟩
theorem momentN_any (z : Int) (w : World) : Calls Tryz.prog 114 #[.int .i64 z] w fun e w' => AnsC (0 ≤ z ∧ z ≤ 345686399999) e ∧ w = w' := by
  go_enter Tryz.func114, Tryz.ntmps114
  go_wp2_with (fail)
  refine (inN_any _ _ _ _).mono ?_
  rintro e w' ⟨⟨b0, hb0, rfl⟩, rfl⟩
  have H := Lib.hid hb0
  clear hb0
  go_wp2_with (fail)
  go_ret
  exact ⟨⟨b0, H.out, rfl⟩, rfl⟩
theorem inN_yes (n lo hi : Int) (h1 : lo ≤ n) (h2 : n ≤ hi) (w : World) : Calls Tryz.prog 116 #[.int .i64 n, .int .i64 lo, .int .i64 hi] w fun e w' => e = .returned (.bool true) ∧ w = w' := by
  go_enter Tryz.func116, Tryz.ntmps116
  go_wp2_with (fail)
  go_ret
  exact ⟨rfl, rfl⟩
set_option maxRecDepth 100000 in
theorem verFaultN_any (v : Ve) (hv : VeOk v) (w : World) : Calls Tryz.prog 117 #[veV v] w fun e w' => e = .returned (.int .i64 0) ∧ Below w.heap.size w w' := by
  obtain ⟨w1, e1⟩ : ∃ V : World, V = w.alloc (.cells #[.int .i64 v.a, .int .i64 v.b, .int .i64 v.c] 29) := ⟨_, rfl⟩
  have hb1 : Below w.heap.size w w1 := by rw [e1]; exact (Below.refl _ _).alloc (Nat.le_refl _) _
  have hg1 : w1.heap[w.heap.size]? = some (veB v) := by rw [e1]; exact heap_new w _
  have HB := Lib.hid hb1
  have hl := (Array.getElem?_eq_some_iff.1 hg1).1
  have k0 : w1.cell? ⟨w.heap.size, 0, none⟩ = some (.int .i64 v.a) := cell_of_blk hg1 rfl
  have k1 : w1.cell? ⟨w.heap.size, 1, none⟩ = some (.int .i64 v.b) := cell_of_blk hg1 rfl
  have k2 : w1.cell? ⟨w.heap.size, 2, none⟩ = some (.int .i64 v.c) := cell_of_blk hg1 rfl
  obtain ⟨⟨a1, a2⟩, ⟨b1, b2⟩, ⟨c1, c2⟩⟩ := hv
  unfold veV
  clear hb1 hg1
  go_enter Tryz.func117, Tryz.ntmps117
  go_upto_region 1 with (fail)
  rw [← e1]
  clear e1
  go_wp2_with (go_at_call 116; refine (inN_yes _ _ _ (by assumption) (by assumption) _).mono ?_; rintro e w' ⟨rfl, rfl⟩)
  go_ret
  exact ⟨rfl, HB.out⟩
theorem mkL_of {x y : Mk} (hx : x.d < 6) (hy : y.d < 6) (h : ¬ 0 ≤ cmpM x y) : mkL x y := by
  have h1 := dvR_cmp (i := x.d) (j := y.d) (by omega) (by omega)
  have h2 : cmpM x y < 0 := by omega
  unfold cmpM at h2
  rw [lexJ, h1] at h2
  unfold rkD at h2
  rw [if_neg (by omega), if_neg (by omega)] at h2
  unfold mkL
  omega
theorem mkL_trans {x y z : Mk} (h : mkL x y) (k : mkL y z) : mkL x z := by
  unfold mkL at *
  omega
/-- The first marks are right. -/
structure MkT (l : List Mk) (k : Nat) : Prop where
  ok : ∀ m ∈ l.take k, MkOk m
  ord : (l.take k).Pairwise mkL
theorem MkT.zero (l : List Mk) : MkT l 0 := ⟨by simp, by simp⟩
theorem MkT.one {l : List Mk} {x : Mk} (h : l[0]? = some x) (hx : MkOk x) : MkT l 1 := by
  have e : l.take 1 = [x] := by rw [List.take_add_one, h]; simp
  exact ⟨by rw [e]; intro m hm; rw [List.mem_singleton] at hm; rw [hm]; exact hx, by rw [e]; exact List.pairwise_singleton _ _⟩
theorem MkT.succ {l : List Mk} {i : Nat} {x y : Mk} (h : MkT l (i + 1)) (hy : l[i]? = some y) (hx : l[i + 1]? = some x) (hxo : MkOk x) (hl : mkL y x) : MkT l (i + 1 + 1) := by
  have e : l.take (i + 1 + 1) = l.take (i + 1) ++ [x] := by rw [List.take_add_one, hx]; rfl
  have e2 : l.take (i + 1) = l.take i ++ [y] := by rw [List.take_add_one, hy]; rfl
  refine ⟨fun m hm => ?_, ?_⟩
  · rw [e] at hm
    rcases List.mem_append.1 hm with h1 | h1
    · exact h.ok m h1
    · rw [List.mem_singleton] at h1; rw [h1]; exact hxo
  · rw [e, List.pairwise_append]
    refine ⟨h.ord, List.pairwise_singleton _ _, fun a ha b hb => ?_⟩
    rw [List.mem_singleton] at hb
    subst hb
    have hp := h.ord
    rw [e2] at ha hp
    rcases List.mem_append.1 ha with h1 | h1
    · exact mkL_trans ((List.pairwise_append.1 hp).2.2 a h1 y (List.mem_singleton.2 rfl)) hl
    · rw [List.mem_singleton] at h1
      rw [h1]; exact hl
def MfPost (l : List Mk) (e : Ending) : Prop := ∃ z : Int, e = .returned (.int .i64 z) ∧ (z = 0 → MksOk l)
theorem MfPost.no {l : List Mk} {z : Int} (h : z ≠ 0) : MfPost l (.returned (.int .i64 z)) := ⟨z, rfl, fun e => absurd e h⟩
set_option maxRecDepth 100000 in
set_option maxHeartbeats 8000000 in
theorem marksFault_any (l : List Mk) (n c : Nat) (A : Option Addr) (w : World) (hl : ∀ m ∈ l, MkRw m) (hn : l.length = n) (hn14 : n ≤ 14) (hr : Row w w.heap.size A (recs mkC l)) :
    Calls Tryz.prog 74 #[.slice A n c] w fun e w' => MfPost l e ∧ Below w.heap.size w w' := by
  have HF := Lib.hid hl
  have HN := Lib.hid hn
  have HR := Lib.hid hr
  have hnI : ¬ (3000 : Int) < (n : Int) := by omega
  clear hl hn hr
  go_enter Tryz.func74, Tryz.ntmps74
  go_wp2_with (fail)
  go_loopw [11] (fun i wr => ∃ k : Nat, k ≤ n ∧ i = .int .i64 (k : Int) ∧ Hid (MkT l k ∧ Below w.heap.size w wr)) (fun i _ => n - (intOf i).toNat)
  case atStart => exact ⟨0, Nat.zero_le _, rfl, Lib.hid ⟨MkT.zero l, Below.refl _ _⟩⟩
  case round =>
    obtain ⟨k, hk, rfl, HB⟩ := hrel
    by_cases hlt : k < n
    · have hltI : (k : Int) < (n : Int) := by omega
      obtain ⟨x, hx⟩ : ∃ x, l[k]? = some x := ⟨_, List.getElem?_eq_getElem (by have := HN.out; omega)⟩
      have HXO := Lib.hid (HF.out x (List.mem_of_getElem? hx))
      obtain ⟨b, o, rfl, hbw, hCl⟩ := (HR.out.below HB.out.2).posR mkC_len (by omega) (by have := HN.out; omega)
      have hbr : b < wr.heap.size := by have := HB.out.2.size; omega
      have HCl := Lib.hid hCl
      have HX := Lib.hid hx
      have e0 : wr.cell? ⟨b, o + k * 6, none⟩ = some (.int .i64 x.at_) := rec_cell mkC_len hCl k x hx 0 _ rfl
      have e1 := rec_cell mkC_len hCl k x hx 1 _ rfl
      have e2 := rec_cell mkC_len hCl k x hx 2 _ rfl
      have e3 := rec_cell mkC_len hCl k x hx 3 _ rfl
      have e4 := rec_cell mkC_len hCl k x hx 4 _ rfl
      have e5 := rec_cell mkC_len hCl k x hx 5 _ rfl
      have HV := Lib.hid (fun V => verFaultN_any x.v HXO.out.v V)
      unfold veV at HV
      clear hCl hx
      go_upto_region 6 with (fail)
      obtain ⟨gx, egx⟩ : ∃ y, y = wr.heap.size := ⟨_, rfl⟩
      obtain ⟨w1, ew1⟩ : ∃ V : World, V = wr.alloc (.cells #[.int .i64 x.at_, .string (dvT x.d), .int .i64 x.kd, .int .i64 x.v.a, .int .i64 x.v.b, .int .i64 x.v.c] 64) := ⟨_, rfl⟩
      have hb1 : Below wr.heap.size wr w1 := by rw [ew1]; exact (Below.refl _ _).alloc (Nat.le_refl _) _
      have hg1 : w1.heap[gx]? = some (mkB x) := by rw [ew1, egx]; exact heap_new wr _
      rw [← egx, ← ew1]
      have hl1 := (Array.getElem?_eq_some_iff.1 hg1).1
      have HB1 := Lib.hid (HB.out.2.trans (hb1.mono HB.out.2.size))
      have hbr1 : b < w1.heap.size := by have := hb1.size; omega
      have HCL1 := Lib.hid (fun j u hj => (hb1.cell (p := ⟨b, o + j, none⟩) hbr).trans (HCl.out j u hj))
      have HG1 := Lib.hid hg1
      have p0 := cell_of_blk (j := 0) hg1 rfl
      have p1 := cell_of_blk (j := 1) hg1 rfl
      have p2 := cell_of_blk (j := 2) hg1 rfl
      have p3 := cell_of_blk (j := 3) hg1 rfl
      have p4 := cell_of_blk (j := 4) hg1 rfl
      have p5 := cell_of_blk (j := 5) hg1 rfl
      clear egx ew1 hb1 hg1 e0 e1 e2 e3 e4 e5 hbr
      go_wp2_with (fail)
      refine (momentN_any _ _).mono ?_
      rintro e w' ⟨⟨b0, hb0, rfl⟩, rfl⟩
      cases b0 with
      | false =>
        go_wp2_with (fail)
        go_ret
        exact ⟨MfPost.no (by decide), HB1.out⟩
      | true =>
      have HM1 := Lib.hid (hb0 rfl)
      clear hb0
      go_wp2_with (fail)
      refine (keyN_any _ (by have := dvT_size2 x.d; omega) _).mono ?_
      rintro e w' ⟨⟨b0, hb0, rfl⟩, rfl⟩
      cases b0 with
      | false =>
        go_wp2_with (fail)
        go_ret
        exact ⟨MfPost.no (by decide), HB1.out⟩
      | true =>
      have HM2 := Lib.hid (hb0 rfl)
      clear hb0
      go_wp2_with (fail)
      refine (inN_any _ _ _ _).mono ?_
      rintro e w' ⟨⟨b0, hb0, rfl⟩, rfl⟩
      cases b0 with
      | false =>
        go_wp2_with (fail)
        go_ret
        exact ⟨MfPost.no (by decide), HB1.out⟩
      | true =>
      have HM3 := Lib.hid (hb0 rfl)
      clear hb0
      have HOK := Lib.hid (show MkOk x from by
        have h1 := HXO.out.big
        have h2 := HM1.out
        have h3 := HM2.out
        have h4 := HXO.out.d
        refine ⟨by omega, ?_, HM3.out, HXO.out.v⟩
        by_cases h6 : x.d = 6
        · rw [h6] at h3
          have : (dvT 6).size = 0 := rfl
          omega
        · omega)
      clear HM1 HM2 HM3
      go_wp2_with (fail)
      refine (HV.out _).mono ?_
      rintro e w2 ⟨rfl, hb2⟩
      have hg2 := (hb2.block gx hl1).trans HG1.out
      have HB2 := Lib.hid (HB1.out.trans (hb2.mono HB1.out.size))
      have hl2 := (Array.getElem?_eq_some_iff.1 hg2).1
      have hbr2 : b < w2.heap.size := by have := hb2.size; omega
      have HCL2 := Lib.hid (fun j u hj => (hb2.cell (p := ⟨b, o + j, none⟩) hbr1).trans (HCL1.out j u hj))
      have HG2 := Lib.hid hg2
      clear p0 p1 p2 p3 p4 p5 hb2 hg2
      go_upto_region 15 with (fail)
      cases k with
      | zero =>
        refine qRegion (by kernel_rfl) (by kernel_rfl) ?_
        repeat (first
          | (go_big_quiet_want; refine qVal (fun V hV => (by (go_simp; try rfl))) ?_; simp only [Act.put, List.setIfInBounds_toArray, List.set_cons_zero, List.set_cons_succ]; go_big_quiet_on)
          | go_big_quiet_skip)
        refine wpQuiet_nil ?_
        intro w3 hb3
        have HB3 := Lib.hid (HB2.out.trans (hb3.mono HB2.out.size))
        clear hb3
        go_wp2_with (fail)
        go_roundw
        case rel => exact ⟨1, by omega, by go_num, Lib.hid ⟨MkT.one HX.out HOK.out, HB3.out⟩⟩
        case measure => simp [intOf]; omega
      | succ i =>
        obtain ⟨y, hy⟩ : ∃ y, l[i]? = some y := ⟨_, List.getElem?_eq_getElem (by have := HN.out; omega)⟩
        have HYO := Lib.hid (HB.out.1.ok y (by
          obtain ⟨h1, h2⟩ := List.getElem?_eq_some_iff.1 hy
          rw [← h2]
          exact List.mem_iff_getElem.2 ⟨i, by rw [List.length_take]; omega, by simp⟩))
        have HYR := Lib.hid (HF.out y (List.mem_of_getElem? hy))
        have HY := Lib.hid hy
        have HBM := Lib.hid (fun V => (markOrder_gr y x V HYR.out HXO.out).mono fun e w' h => (⟨h.1, h.2.below⟩ : _ ∧ Below V.heap.size V w'))
        obtain ⟨z, ez⟩ : ∃ z, z = cmpM y x := ⟨_, rfl⟩
        rw [← ez] at HBM
        have HZ := Lib.hid ez
        clear ez
        have hi1 : IntKind.i64.wrap ((i : Int) + 1 - 1) = (i : Int) := by rw [IntKind.wrap_i64]; omega
        have hi2 : IntKind.i64.wrap (i : Int) = (i : Int) := by rw [IntKind.wrap_i64]; omega
        have hiR : i < n := by omega
        have hiRI : (i : Int) < (n : Int) := by omega
        have HQ := Lib.hid (fun (V : World) (hV : Below w2.heap.size w2 V) => show V.cell? ⟨gx, 0, none⟩ = some (.int .i64 x.at_) ∧ V.cell? ⟨gx, 1, none⟩ = some (.string (dvT x.d)) ∧ V.cell? ⟨gx, 2, none⟩ = some (.int .i64 x.kd) ∧ V.cell? ⟨gx, 3, none⟩ = some (.int .i64 x.v.a) ∧ V.cell? ⟨gx, 4, none⟩ = some (.int .i64 x.v.b) ∧ V.cell? ⟨gx, 5, none⟩ = some (.int .i64 x.v.c) ∧
            V.cell? ⟨b, o + i * 6, none⟩ = some (.int .i64 y.at_) ∧ V.cell? ⟨b, o + i * 6 + 1, none⟩ = some (.string (dvT y.d)) ∧ V.cell? ⟨b, o + i * 6 + 2, none⟩ = some (.int .i64 y.kd) ∧ V.cell? ⟨b, o + i * 6 + 3, none⟩ = some (.int .i64 y.v.a) ∧ V.cell? ⟨b, o + i * 6 + 4, none⟩ = some (.int .i64 y.v.b) ∧ V.cell? ⟨b, o + i * 6 + 5, none⟩ = some (.int .i64 y.v.c) from by
          have h1 := (hV.block gx hl2).trans HG2.out
          have hq : ∀ j u, (recs mkC l)[j]? = some u → V.cell? ⟨b, o + j, none⟩ = some u := fun j u hj => (hV.cell (p := ⟨b, o + j, none⟩) hbr2).trans (HCL2.out j u hj)
          exact ⟨cell_of_blk (j := 0) h1 rfl, cell_of_blk (j := 1) h1 rfl, cell_of_blk (j := 2) h1 rfl, cell_of_blk (j := 3) h1 rfl, cell_of_blk (j := 4) h1 rfl, cell_of_blk (j := 5) h1 rfl, rec_cell mkC_len hq i y hy 0 _ rfl, rec_cell mkC_len hq i y hy 1 _ rfl, rec_cell mkC_len hq i y hy 2 _ rfl, rec_cell mkC_len hq i y hy 3 _ rfl, rec_cell mkC_len hq i y hy 4 _ rfl, rec_cell mkC_len hq i y hy 5 _ rfl⟩)
        unfold mkW at HBM
        clear hy
        refine qRegion (by kernel_rfl) (by kernel_rfl) ?_
        repeat (first
          | (go_big_quiet_want; refine qVal (fun V hV => (by (obtain ⟨q0, q1, q2, q3, q4, q5, p0, p1, p2, p3, p4, p5⟩ := HQ.out V hV; go_simp; try rfl))) ?_; simp only [Act.put, List.setIfInBounds_toArray, List.set_cons_zero, List.set_cons_succ]; go_big_quiet_on)
          | (go_big_quiet_want
             refine qCall (fun V hV => (by (obtain ⟨q0, q1, q2, q3, q4, q5, p0, p1, p2, p3, p4, p5⟩ := HQ.out V hV; go_simp; exact ⟨rfl, rfl⟩))) (fun V hV => (by first
               | with_reducible exact (HBM.out V).mono (fun e w' h => ⟨h.1, hV.trans (h.2.mono hV.size)⟩))) ?_
             simp only [Act.put, List.setIfInBounds_toArray, List.set_cons_zero, List.set_cons_succ]; go_big_quiet_on)
          | go_big_quiet_skip)
        refine wpQuiet_nil ?_
        intro w3 hb3
        have HB3 := Lib.hid (HB2.out.trans (hb3.mono HB2.out.size))
        clear hb3 HQ HBM
        by_cases hz : 0 ≤ z
        · go_wp2_with (fail)
          go_ret
          exact ⟨MfPost.no (by decide), HB3.out⟩
        · have HT := Lib.hid (HB.out.1.succ HY.out HX.out HOK.out (mkL_of HYO.out.d HOK.out.d (by rw [← HZ.out]; exact hz)))
          go_wp2_with (fail)
          go_roundw
          case rel => exact ⟨i + 2, by omega, by go_num, Lib.hid ⟨HT.out, HB3.out⟩⟩
          case measure => simp [intOf]; omega
    · have hltI : ¬ (k : Int) < (n : Int) := by omega
      have hkn : k = n := by omega
      have HE := Lib.hid (show MfPost l (.returned (.int .i64 0)) from ⟨0, rfl, fun _ => by
        have h1 := HB.out.1.ok
        have h2 := HB.out.1.ord
        rw [List.take_of_length_le (by have := HN.out; omega)] at h1 h2
        exact ⟨by have := HN.out; omega, h1, h2⟩⟩)
      go_wp2_with (fail)
      go_ret
      exact ⟨HE.out, HB.out.2⟩
end Go.Proofs.YtidgicbhgnbidaaGreatDoor
