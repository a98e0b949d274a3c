/- seven, doubled, pack, Check, CheckSeries of any bounded samples; Equal of any bytes. Printed by gen_UnB.py. -/
import Derived.Test.YtnmgfnnkcenfeaaGreatDoorUnA
import Derived.Test.YtnmgfnnkcenfeaaGreatDoorMgA
namespace Go.Proofs.YtnmgfnnkcenfeaaGreatDoor
open Go.RowKit

/-- Samples in bounds, in any order. -/
structure GoodV (l : List Smp) : Prop where
  len : l.length ≤ 5000
  at_ : ∀ (i : Nat) (x : Smp), l[i]? = some x → 0 ≤ x.1 ∧ x.1 < 345686400000
  val : ∀ (i : Nat) (x : Smp), l[i]? = some x → -1000000000 ≤ x.2 ∧ x.2 ≤ 1000000000
theorem pow128 (nn j : Nat) (h : nn < 128 ^ (10 - j)) (h2 : 128 ≤ nn) : nn / 128 < 128 ^ (10 - (j + 1)) ∧ j + 1 ≤ 10 := by
  have h3 : j < 10 := by
    rcases Nat.lt_or_ge j 10 with h4 | h4
    · exact h4
    · rw [show 10 - j = 0 by omega] at h; simp at h; omega
  refine ⟨?_, h3⟩
  rw [show 10 - j = (10 - (j + 1)) + 1 by omega, Nat.pow_succ] at h
  exact Nat.div_lt_of_lt_mul (by omega)
set_option maxRecDepth 100000 in
set_option maxHeartbeats 2000000 in
theorem seven_b (w : World) (base m n : Nat) (v : Value) (ys : List Int) (hm0 : ys.length = m) (hown : w.ownsRow base 5 1 v m (bytesV ys)) (hm : m ≤ 1000000) (hn : n < 18446744073709551616) (hbase : base ≤ w.heap.size) :
    Calls Tryz.prog 72 #[v, .int .u64 (n : Int)] w fun e w' => ∃ v' ys', e = .returned v' ∧ ys'.length ≤ m + 11 ∧ w'.ownsRow base 5 1 v' ys'.length (bytesV ys') ∧ w.grownBy w' v.ownBlock ∧ Moved w v v' := by
  obtain ⟨i0, hi, hz0, hz1, hz2⟩ := info_parts Tryz.infoU8
  have HO := Lib.hid (show w.ownsRow base 5 1 v ys.length (bytesV ys) by rw [hm0]; exact hown)
  clear hown
  go_enter Tryz.func72, Tryz.ntmps72
  go_wp2_with (fail)
  go_loopw [0, 1] (fun s t wr => ∃ (j nn : Nat) (zs : List Int), j ≤ 10 ∧ nn < 128 ^ (10 - j) ∧ nn < 18446744073709551616 ∧ t = .int .u64 (nn : Int) ∧ zs.length = m + j ∧ Hid (wr.ownsRow base 5 1 s zs.length (bytesV zs) ∧ w.grownBy wr v.ownBlock ∧ Moved w v s) ∧ Hid (w.heap.size ≤ wr.heap.size)) (fun _ t _ => (intOf t).toNat)
  case atStart => exact ⟨0, n, ys, by omega, Nat.lt_trans hn (by decide), hn, rfl, hm0, Lib.hid ⟨HO.out, grown_refl _ _, Moved.refl _ _⟩, Lib.hid (Nat.le_refl _)⟩
  case round =>
    obtain ⟨j, nn, zs, hj, hnn, hn64, rfl, hzl, HR, HS⟩ := hrel
    obtain ⟨wa, rfl⟩ : ∃ wy : World, wy = wr := ⟨_, rfl⟩
    have hsz := HS.out
    by_cases h128 : 128 ≤ nn
    · have h128I : (128 : Int) ≤ (nn : Int) := by omega
      obtain ⟨hdv, hj1⟩ := pow128 nn j hnn h128
      obtain ⟨r, er⟩ : ∃ r, r = nn % 128 := ⟨_, rfl⟩
      obtain ⟨q, eq⟩ : ∃ q, q = nn / 128 := ⟨_, rfl⟩
      rw [← eq] at hdv
      have hr : r < 128 := by omega
      have hq : q < 18446744073709551616 := by omega
      have hqn : q < nn := by omega
      have hand : bits .and .u64 (nn : Int) 127 = (r : Int) := by
        rw [show (127 : Int) = ((127 : Nat) : Int) from rfl, u64_and_nat nn 127 (by omega) (by omega), er, show (127 : Nat) = 2 ^ 7 - 1 from rfl, Nat.and_two_pow_sub_one_eq_mod]
      have hor : bits .or .u8 (r : Int) 128 = (r : Int) + 128 := by
        rw [show (128 : Int) = ((128 : Nat) : Int) from rfl, u8_or_nat r 128 (by omega) (by omega), Nat.or_comm, nat_join 7 128 r (by decide) (by omega)]
        omega
      have hshr : (nn : Int) / 128 = (q : Int) := by omega
      clear hnn er eq h128
      go_wp2_with (at_builtin; refine wpList_append_own2 _ rfl _ _ 30 rfl base 5 i0 (.int .u8 0) 1 1 Tryz.underlying30 hi hz0 hz1 hz2 rfl (by decide) _ _ _ rfl (HR.out.1.alloc _) ⟨wa.heap.size, 0, none⟩ 1 1 (bytesV [(r : Int) + 128]) rfl rfl ?c1 ?c2 ?c3 ?c4 ?c5 ?_)
      case c1 => exact cells_add (Cells.new _ _ _ _ _ rfl)
      case c2 => exact bytesV_one _
      case c3 => unfold maxLen; omega
      case c4 => omega
      case c5 => simp only [World.size_alloc]; omega
      intro v1 w1 hown1 hgr1 hmv1
      have hsz1 : wa.heap.size ≤ w1.heap.size := (grown_of_alloc hgr1).size
      have HR1 := Lib.hid (show w1.ownsRow base 5 1 v1 (zs ++ [(r : Int) + 128]).length (bytesV (zs ++ [(r : Int) + 128])) ∧ w.grownBy w1 v.ownBlock ∧ Moved w v v1 from
        ⟨by rw [bytesV_app, List.length_append, hzl]; exact hown1, grown_moved HR.out.2.1 HR.out.2.2 (grown_of_alloc hgr1), HR.out.2.2.trans (moved_of_alloc hmv1) hsz⟩)
      clear hown1 hgr1 hmv1
      go_wp2_with (fail)
      go_roundw
      case rel => exact ⟨j + 1, q, _, hj1, hdv, hq, rfl, by rw [List.length_append, hzl]; rfl, HR1, Lib.hid (by omega)⟩
      case measure => simp [intOf]; omega
    · have h128I : ¬ (128 : Int) ≤ (nn : Int) := by omega
      have hn1 : nn < 128 := by omega
      have hn1I : (nn : Int) < 128 := by omega
      clear hnn h128
      go_wp2_with (at_builtin; refine wpList_append_own2 _ rfl _ _ 30 rfl base 5 i0 (.int .u8 0) 1 1 Tryz.underlying30 hi hz0 hz1 hz2 rfl (by decide) _ _ _ rfl (HR.out.1.alloc _) ⟨wa.heap.size, 0, none⟩ 1 1 (bytesV [(nn : Int)]) rfl rfl ?d1 ?d2 ?d3 ?d4 ?d5 ?_)
      case d1 => first | exact fun j u h => h | exact cells_add (Cells.new _ _ _ _ _ rfl)
      case d2 => exact bytesV_one _
      case d3 => unfold maxLen; omega
      case d4 => omega
      case d5 => first | omega | (simp only [World.size_alloc]; omega)
      intro v1 w1 hown1 hgr1 hmv1
      have HR1 := Lib.hid (show w1.ownsRow base 5 1 v1 (zs ++ [(nn : Int)]).length (bytesV (zs ++ [(nn : Int)])) ∧ w.grownBy w1 v.ownBlock ∧ Moved w v v1 from
        ⟨by rw [bytesV_app, List.length_append, hzl]; exact hown1, grown_moved HR.out.2.1 HR.out.2.2 (grown_of_alloc hgr1), HR.out.2.2.trans (moved_of_alloc hmv1) hsz⟩)
      have hl : (zs ++ [(nn : Int)]).length ≤ m + 11 := by rw [List.length_append, hzl, List.length_singleton]; omega
      clear hown1 hgr1 hmv1
      go_wp2_with (fail)
      go_ret
      exact ⟨_, _, rfl, hl, HR1.out⟩
theorem doubled_b (n : Int) (w : World) (h1 : -1000000000000 ≤ n) (h2 : n ≤ 1000000000000) : Calls Tryz.prog 73 #[.int .i64 n] w fun e w' => e = .returned (.int .u64 (dbl n : Int)) ∧ w = w' := by
  have HD := Lib.hid (show (n < 0 → (dbl n : Int) = -2 * n - 1) ∧ (0 ≤ n → (dbl n : Int) = 2 * n) by unfold dbl; constructor <;> intro h <;> split <;> omega)
  obtain ⟨d, ed⟩ : ∃ d, d = (dbl n : Int) := ⟨_, rfl⟩
  rw [← ed] at HD ⊢
  clear ed
  go_enter Tryz.func73, Tryz.ntmps73
  go_wp2_with (fail)
  · go_ret
    exact ⟨by have := HD.out.1 (by assumption); simp [this], rfl⟩
  · go_ret
    exact ⟨by have := HD.out.2 (by assumption); simp [this], rfl⟩
theorem dbl_b (n : Int) (h1 : -1000000000000 ≤ n) (h2 : n ≤ 1000000000000) : dbl n < 18446744073709551616 := by unfold dbl; split <;> omega
set_option maxRecDepth 100000 in
set_option maxHeartbeats 4000000 in
theorem pack_b1 (l : List Smp) (n c b o : Nat) (w : World) (hn : l.length = n) (hg : GoodV l) (hb : b < w.heap.size) (hc : Cells w b o (cellsOf l)) :
    Calls Tryz.prog 50 #[.slice (some ⟨b, o, none⟩) n c] w fun e w' => ∃ v xs, e = .returned v ∧ xs.length ≤ 22 * n + 11 ∧ w'.ownsRow w.heap.size 5 1 v xs.length (bytesV xs) ∧ Below w.heap.size w w' := by
  have h5 : n ≤ 5000 := by have := hg.len; omega
  have HC := Lib.hid hc
  have HG := Lib.hid hg
  have HN := Lib.hid hn
  clear hc hg hn
  go_enter Tryz.func50, Tryz.ntmps50
  go_wp2_with (fail)
  refine (seven_b w w.heap.size 0 n _ [] rfl (World.ownsRow_nil _ _ _ _) (by omega) (by omega) (Nat.le_refl _)).mono ?_
  rintro e w1 ⟨v1, ys1, rfl, hl1, hown1, hgr1, hmv1⟩
  have HO1 := Lib.hid hown1
  have HB1 := Lib.hid ((Below.refl w.heap.size w).grown hgr1 (Nat.le_refl _) (fun k hk => by simp [Value.ownBlock] at hk))
  clear hown1 hgr1 hmv1
  go_wp2_with (fail)
  go_loopw [3, 4, 5, 6, 16] (fun v a d q i wr => ∃ (k : Nat) (at_ by_ val : Int) (xs : List Int), k ≤ n ∧ i = .int .i64 k ∧ a = .int .i64 at_ ∧ d = .int .i64 by_ ∧ q = .int .i64 val ∧
      wr.ownsRow w.heap.size 5 1 v xs.length (bytesV xs) ∧ Below w.heap.size w wr ∧ xs.length ≤ 22 * k + 11 ∧
      (0 ≤ at_ ∧ at_ < 345686400000) ∧ (-345686400000 < by_ ∧ by_ < 345686400000) ∧ (-1000000000 ≤ val ∧ val ≤ 1000000000)) (fun _ _ _ _ i _ => n - (intOf i).toNat)
  case atStart =>
    exact ⟨0, 0, 0, 0, ys1, Nat.zero_le _, rfl, rfl, rfl, rfl, HO1.out, HB1.out, by omega, by omega, by omega, by omega⟩
  case round =>
    obtain ⟨k, at_, by_, val, xs, hk, rfl, rfl, rfl, rfl, hown, hbl, hlen, ⟨ha1, ha2⟩, ⟨hy1, hy2⟩, ⟨hv1, hv2⟩⟩ := hrel
    have hsz := hbl.size
    by_cases hlt : k < n
    · have hkl : k < l.length := by have := HN.out; omega
      obtain ⟨x, hx⟩ : ∃ x, l[k]? = some x := ⟨_, List.getElem?_eq_getElem hkl⟩
      have hcr : Cells wr b o (cellsOf l) := HC.out.keep (hbl.block b hb)
      obtain ⟨c0, c1, c2, c3⟩ := smp_cells hcr k x hx
      have hat := HG.out.at_ k x hx
      have hval := HG.out.val k x hx
      obtain ⟨a, v⟩ := x
      simp only at c2 c3 hat hval
      have HBL := Lib.hid hbl
      have HOWN := Lib.hid hown
      have hbox := heap_new wr (.cells #[.string ⟨#[100]⟩, .string ⟨#[109]⟩, .int .i64 a, .int .i64 v] 37)
      have HBOX := Lib.hid hbox
      clear hbl hcr hx hown hbox
      go_wp2_with (go_at_call 73; refine (doubled_b _ _ (by omega) (by omega)).mono ?_; rintro e w' ⟨rfl, rfl⟩)
      refine (seven_b _ w.heap.size xs.length (dbl (a - at_ - by_)) u3 xs rfl (HOWN.out.alloc _) (by omega) (dbl_b _ (by omega) (by omega)) (by simp; omega)).mono ?_
      rintro e w2 ⟨v2, ys2, rfl, hl2, hown2, hgr2, hmv2⟩
      have hbox2 := (hgr2.block wr.heap.size (by simp) (own_ne (HOWN.out.alloc _) HBOX.out (by decide))).trans HBOX.out
      have b2 := cell_of_blk (j := 2) hbox2 rfl
      have b3 := cell_of_blk (j := 3) hbox2 rfl
      have hlt2 : wr.heap.size < w2.heap.size := by have := hgr2.size; simp at this; omega
      have HB2 := Lib.hid ((HBL.out.alloc hsz _).grown hgr2 (by simp; omega) (fun g hg => (HOWN.out.lt g hg).1))
      have HO2 := Lib.hid hown2
      have HBOX2 := Lib.hid hbox2
      clear hown2 hgr2 hmv2 hbox2
      go_wp2_with (go_at_call 73; refine (doubled_b _ _ (by omega) (by omega)).mono ?_; rintro e w' ⟨rfl, rfl⟩)
      refine (seven_b _ w.heap.size ys2.length (dbl (v - val)) v2 ys2 rfl HO2.out (by omega) (dbl_b _ (by omega) (by omega)) (by omega)).mono ?_
      rintro e w3 ⟨v3, ys3, rfl, hl3, hown3, hgr3, hmv3⟩
      have hbox3 := (hgr3.block wr.heap.size hlt2 (own_ne HO2.out HBOX2.out (by decide))).trans HBOX2.out
      have d2 := cell_of_blk (j := 2) hbox3 rfl
      have d3 := cell_of_blk (j := 3) hbox3 rfl
      have hlt3 : wr.heap.size < w3.heap.size := by have := hgr3.size; omega
      have HB3 := Lib.hid (HB2.out.grown hgr3 (by omega) (fun g hg => (HO2.out.lt g hg).1))
      have HO3 := Lib.hid hown3
      clear hown3 hgr3 hmv3 hbox3 b2 b3
      go_wp2_with (fail)
      · have hk0 : 0 < k := by omega
        go_quiet (fail)
        go_wp2_with (fail)
        go_roundw
        case rel =>
          exact ⟨k + 1, a, a - at_, v, ys3, by omega, by go_num, rfl, rfl, rfl, HO3.out, below_drewN HB3.out _, by omega, ⟨by omega, by omega⟩, ⟨by omega, by omega⟩, by omega, by omega⟩
        case measure => simp [intOf]; omega
      · have hk0 : k = 0 := by omega
        go_quiet (fail)
        go_wp2_with (fail)
        go_roundw
        case rel =>
          exact ⟨k + 1, a, by_, v, ys3, by omega, by go_num, rfl, rfl, rfl, HO3.out, below_drewN HB3.out _, by omega, ⟨by omega, by omega⟩, ⟨by omega, by omega⟩, by omega, by omega⟩
        case measure => simp [intOf]; omega
    · have HBL := Lib.hid hbl
      have HOWN := Lib.hid hown
      clear hbl hown
      go_wp2_with (fail)
      go_ret
      exact ⟨_, xs, rfl, by omega, HOWN.out, HBL.out⟩

theorem pack_b0 (A : Option Addr) (c : Nat) (w : World) : Calls Tryz.prog 50 #[.slice A 0 c] w fun e w' => ∃ v xs, e = .returned v ∧ xs.length ≤ 22 * 0 + 11 ∧ w'.ownsRow w.heap.size 5 1 v xs.length (bytesV xs) ∧ Below w.heap.size w w' := by
  go_enter Tryz.func50, Tryz.ntmps50
  go_wp2_with (fail)
  refine (seven_b w w.heap.size 0 0 _ [] rfl (World.ownsRow_nil _ _ _ _) (by omega) (by omega) (Nat.le_refl _)).mono ?_
  rintro e w1 ⟨v1, ys1, rfl, hl1, hown1, hgr1, hmv1⟩
  have HO1 := Lib.hid hown1
  have HB1 := Lib.hid ((Below.refl w.heap.size w).grown hgr1 (Nat.le_refl _) (fun k hk => by simp [Value.ownBlock] at hk))
  clear hown1 hgr1 hmv1
  go_wp2_with (fail)
  refine wp_loop_rounds 1 ?_
  rw [rounds_succ]
  go_wp2_with (fail)
  go_ret
  exact ⟨_, ys1, rfl, by omega, HO1.out, HB1.out⟩

theorem pack_b (l : List Smp) (n c : Nat) (A : Option Addr) (w : World) (hn : l.length = n) (hg : GoodV l) (hr : Row w w.heap.size A (cellsOf l)) :
    Calls Tryz.prog 50 #[.slice A n c] w fun e w' => ∃ v xs, e = .returned v ∧ xs.length ≤ 22 * n + 11 ∧ w'.ownsRow w.heap.size 5 1 v xs.length (bytesV xs) ∧ Below w.heap.size w w' := by
  rcases Nat.eq_zero_or_pos n with h0 | h0
  · rw [h0]
    exact pack_b0 A c w
  · obtain ⟨b, o, rfl, hb, hc⟩ := hr.pos (by omega)
    exact pack_b1 l n c b o w hn hg hb hc
set_option maxRecDepth 100000 in
set_option maxHeartbeats 2000000 in
theorem check_b1 (l : List Smp) (n c b o : Nat) (w : World) (hn : l.length = n) (hg : GoodV l) (hb : b < w.heap.size) (hc : Cells w b o (cellsOf l)) :
    Calls Tryz.prog 28 #[.slice (some ⟨b, o, none⟩) n c] w fun e w' => (∃ z : Int, e = .returned (.int .i64 z)) ∧ Below w.heap.size w w' := by
  have h5 : n ≤ 5000 := by have := hg.len; omega
  have HC := Lib.hid hc
  clear hc
  go_enter Tryz.func28, Tryz.ntmps28
  go_wp2_with (fail)
  go_loopw [10] (fun i wr => ∃ k : Nat, k ≤ n ∧ i = .int .i64 k ∧ Below w.heap.size w wr) (fun i _ => n - (intOf i).toNat)
  case atStart => exact ⟨0, Nat.zero_le _, rfl, Below.refl _ _⟩
  case round =>
    obtain ⟨k, hk, rfl, hbl⟩ := hrel
    have hsz := hbl.size
    by_cases hlt : k < n
    · obtain ⟨x, hx⟩ : ∃ x, l[k]? = some x := ⟨_, List.getElem?_eq_getElem (by omega)⟩
      have hcr : Cells wr b o (cellsOf l) := HC.out.keep (hbl.block b hb)
      obtain ⟨c0, c1, c2, c3⟩ := smp_cells hcr k x hx
      have hat := hg.at_ k x hx
      have hval := hg.val k x hx
      have HBL := Lib.hid hbl
      have HX := Lib.hid hx
      have HG := Lib.hid hg
      obtain ⟨a, v⟩ := x
      simp only at c2 c3 hat hval
      clear hbl hcr hx hg
      go_wp2_with (first | (go_at_call 39; refine (key_yes _ _ (by kernel_rfl)).mono ?_; rintro e w' ⟨rfl, rfl⟩) | (go_at_call 49; refine (moment_yes _ _ (by omega) (by omega)).mono ?_; rintro e w' ⟨rfl, rfl⟩) | (go_at_call 34; refine (out_no _ _ _ _ (by omega) (by omega)).mono ?_; rintro e w' ⟨rfl, rfl⟩))
      have HB2 := Lib.hid ((HBL.out).alloc hsz (.cells #[.string ⟨#[100]⟩, .string ⟨#[109]⟩, .int .i64 a, .int .i64 v] 37))
      rcases Nat.eq_zero_or_pos k with hk0 | hk0
      · have hd : decide ((0 : Int) < (k : Int)) = false := by simp; omega
        go_quiet (fail)
        go_wp2_with (fail)
        go_roundw
        case rel => exact ⟨k + 1, by omega, by go_num, below_drewN HB2.out _⟩
        case measure => simp [intOf]; omega
      · have hd : decide ((0 : Int) < (k : Int)) = true := by simp; omega
        obtain ⟨j, rfl⟩ : ∃ j, k = j + 1 := ⟨k - 1, by omega⟩
        obtain ⟨y, hy⟩ : ∃ y, l[j]? = some y := ⟨_, List.getElem?_eq_getElem (by omega)⟩
        have hcr : Cells wr b o (cellsOf l) := HC.out.keep (HBL.out.block b hb)
        obtain ⟨d0, d1, d2, d3⟩ := smp_cells hcr j y hy
        obtain ⟨a', v'⟩ := y
        simp only at d2 d3
        have hblt : b < wr.heap.size := by omega
        have hw : IntKind.i64.wrap (j : Int) = (j : Int) := by rw [IntKind.wrap_i64]; omega
        have hjn : (j : Int) < (n : Int) := by omega
        have hjn' : j < n := by omega
        clear hcr hy
        refine wp_region_still_tail 9 (by kernel_rfl) (by kernel_rfl) ?_
        simp only [List.take_succ_cons, List.take_zero, List.drop_succ_cons, List.drop_zero]
        change wpStill _ _ (World.drew _) _ _ _
        repeat still_step
        refine wpStill_nil ?_
        go_wp2_with (fail)
        refine (byDevice_any (a, v) (a', v') _).mono ?_
        rintro e w' ⟨rfl, hbw⟩
        have HB3 := Lib.hid (show Below w.heap.size w w' from (Below.drew HB2.out).trans (hbw.mono (by simp; omega)))
        clear hbw
        generalize cmpI (a, v).1 (a', v').1 = zz
        by_cases hzz : zz ≤ 0
        · go_wp2_with (fail)
          go_ret
          exact ⟨⟨_, rfl⟩, HB3.out⟩
        · go_wp2_with (fail)
          go_roundw
          case rel => exact ⟨j + 1 + 1, by omega, by go_num, HB3.out⟩
          case measure => simp [intOf]; omega
    · go_wp2_with (fail)
      go_ret
      exact ⟨⟨_, rfl⟩, hbl⟩
theorem check_b (l : List Smp) (n c : Nat) (A : Option Addr) (w : World) (hn : l.length = n) (hg : GoodV l) (hr : Row w w.heap.size A (cellsOf l)) :
    Calls Tryz.prog 28 #[.slice A n c] w fun e w' => (∃ z : Int, e = .returned (.int .i64 z)) ∧ Below w.heap.size w w' := by
  rcases Nat.eq_zero_or_pos n with h0 | h0
  · rw [h0]; exact (check_empty A c w).mono (fun e w' h => ⟨⟨0, h.1⟩, h.2⟩)
  · obtain ⟨b, o, rfl, hb, hc⟩ := hr.pos (by omega)
    exact check_b1 l n c b o w hn hg hb hc
set_option maxRecDepth 100000 in
set_option maxHeartbeats 1000000 in
theorem checkSeries_b (l : List Smp) (n c : Nat) (A : Option Addr) (w : World) (hn : l.length = n) (hg : GoodV l) (hr : Row w w.heap.size A (cellsOf l)) :
    Calls Tryz.prog 33 #[.slice A n c] w fun e w' => (∃ z : Int, e = .returned (.int .i64 z)) ∧ Below w.heap.size w w' := by
  have hn5 : n ≤ 5000 := by have := hg.len; omega
  have HR := Lib.hid hr
  have HG := Lib.hid hg
  have HN := Lib.hid hn
  clear hr hg hn
  go_enter Tryz.func33, Tryz.ntmps33
  go_wp2_with (fail)
  refine (check_b l n c A _ HN.out HG.out ((HR.out.keep fun b hb => Below.heap_alloc _ _ b hb).mono (by simp))).mono ?_
  rintro e w1 ⟨⟨z, rfl⟩, hb1⟩
  have hs1 := hb1.size
  simp only [World.size_alloc] at hs1
  have hqc := (hb1.cell (p := ⟨w.heap.size, 0, none⟩) (by simp)).trans (cell_of_blk (heap_new w (.cells #[.slice A n c] 26)) rfl)
  have HB1 := Lib.hid (show Below w.heap.size w w1 from ((Below.refl _ _).alloc (Nat.le_refl _) _).trans (hb1.mono (by simp)))
  clear hb1
  by_cases hz : z = 0
  case neg =>
    go_wp2_with (fail)
    go_ret
    exact ⟨⟨_, rfl⟩, HB1.out⟩
  subst hz
  go_wp2_with (fail)
  refine (containsFunc_chk1 l n c w.heap.size A w1 HN.out hn5 ((HR.out.below HB1.out).mono (by omega)) hqc).mono ?_
  rintro e w2 ⟨rfl, hb2⟩
  have HB2 := Lib.hid (show Below w.heap.size w w2 from HB1.out.trans (hb2.mono (by omega)))
  clear hb2
  go_wp2_with (fail)
  go_ret
  exact ⟨⟨_, rfl⟩, HB2.out⟩
set_option maxHeartbeats 1000000 in
theorem eqBytes_b1 (xs ys : List Int) (n c b o c' b' o' : Nat) (w : World) (hn : xs.length = n) (hm : ys.length = n) (hn2 : n ≤ 1000000) (hb : b < w.heap.size) (hb' : b' < w.heap.size) (hc : Cells w b o (bytesV xs)) (hc' : Cells w b' o' (bytesV ys)) :
    Calls Tryz.prog 18 #[.slice (some ⟨b, o, none⟩) n c, .slice (some ⟨b', o', none⟩) n c'] w fun e w' => (∃ t : Bool, e = .returned (.bool t)) ∧ Below w.heap.size w w' := by
  have HC := Lib.hid hc
  have HC' := Lib.hid hc'
  have HN := Lib.hid hn
  have HM := Lib.hid hm
  clear hc hc' hn hm
  go_enter Tryz.func18, Tryz.ntmps18
  go_wp2_with (fail)
  go_loopw [13] (fun i wr => ∃ k : Nat, k ≤ n ∧ i = .int .i64 k ∧ Below w.heap.size w wr) (fun i _ => n - (intOf i).toNat)
  case atStart => exact ⟨0, Nat.zero_le _, rfl, Below.refl _ _⟩
  case round =>
    obtain ⟨k, hk, rfl, hbl⟩ := hrel
    by_cases hlt : k < n
    · have hkx : k < xs.length := by have := HN.out; omega
      obtain ⟨x, hx⟩ : ∃ x, xs[k]? = some x := ⟨_, List.getElem?_eq_getElem hkx⟩
      have d1 := (HC.out.keep (hbl.block b hb)) k (.int .u8 x) (by simp [bytesV, hx])
      obtain ⟨y, hy⟩ : ∃ y, ys[k]? = some y := ⟨_, List.getElem?_eq_getElem (by have := HM.out; omega)⟩
      have d2 := (HC'.out.keep (hbl.block b' hb')) k (.int .u8 y) (by simp [bytesV, hy])
      have HBL := Lib.hid hbl
      have hlt' : (k : Int) < (n : Int) := by omega
      clear hbl hx hy hkx
      by_cases hxy : x = y
      · subst hxy
        go_wp2_with (fail)
        go_quiet (fail)
        go_wp2_with (fail)
        go_roundw
        case rel => exact ⟨k + 1, by omega, by go_num, below_drewN HBL.out _⟩
        case measure => simp [intOf]; omega
      · have hxb : (x == y) = false := by simpa using hxy
        have hxn : (x != y) = true := by simpa using hxy
        go_wp2_with (fail)
        go_quiet (fail)
        go_wp2_with (fail)
        go_ret
        exact ⟨⟨_, rfl⟩, below_drewN HBL.out _⟩
    · have HBL := Lib.hid hbl
      clear hbl
      go_wp2_with (fail)
      go_ret
      exact ⟨⟨_, rfl⟩, HBL.out⟩
set_option maxHeartbeats 1000000 in
theorem eqBytes_b (xs ys : List Int) (n m c c' : Nat) (A A' : Option Addr) (w : World) (hn : xs.length = n) (hm : ys.length = m) (hn2 : n ≤ 1000000) (hr : Row w w.heap.size A (bytesV xs)) (hr' : Row w w.heap.size A' (bytesV ys)) :
    Calls Tryz.prog 18 #[.slice A n c, .slice A' m c'] w fun e w' => (∃ t : Bool, e = .returned (.bool t)) ∧ Below w.heap.size w w' := by
  by_cases hnm : n = m
  · subst hnm
    rcases hr with h | ⟨b, o, rfl, hb, hc⟩
    · have : n = 0 := by rw [← hn]; have := congrArg List.length h; simpa [bytesV] using this
      rw [this]; exact (eqBytes_empty A A' c c' w).mono (fun e w' h => ⟨⟨true, h.1⟩, h.2⟩)
    · rcases hr' with h | ⟨b', o', rfl, hb', hc'⟩
      · have : n = 0 := by rw [← hm]; have := congrArg List.length h; simpa [bytesV] using this
        rw [this]; exact (eqBytes_empty _ _ c c' w).mono (fun e w' h => ⟨⟨true, h.1⟩, h.2⟩)
      · exact eqBytes_b1 xs ys n c b o c' b' o' w hn hm hn2 hb hb' hc hc'
  · have h1 : ¬ (n : Int) = (m : Int) := by omega
    clear hr hr' hn hm
    go_enter Tryz.func18, Tryz.ntmps18
    go_wp2_with (fail)
    go_ret
    exact ⟨⟨_, rfl⟩, Below.refl _ _⟩
end Go.Proofs.YtnmgfnnkcenfeaaGreatDoor
