/- Several texts in one: LdK, SfX, SfC, LdX, LdC, NtA, NtT5, NtC5, LayNt, NtS, NtN5. -/
import Derived.Test.YtgdnedhcbjonkaaGreatDoorMgG
import Derived.Test.YtgdnedhcbjonkaaGreatDoorMgE
import Derived.Test.YtgdnedhcbjonkaaGreatDoorMgB
import Derived.Test.YtgdnedhcbjonkaaGreatDoorProg
import Derived.Shelf.SlSortCmp.SmallK
import Derived.Test.YtgdnedhcbjonkaaGreatDoorMgD
import Derived.Shelf.SlSortCmp.Xorshift
import Derived.Shelf.SlSortCmp.WholeK
import Derived.Test.YtgdnedhcbjonkaaGreatDoorMgF

/- Keys of ladders and shifts: fleetref1.Key and base.Key; rules in order. -/
namespace Go.Proofs.YtgdnedhcbjonkaaGreatDoor
open Go.RowKit

theorem rkey_ru (r : Nat) (w : World) : Calls Tryz.prog 33 #[.string (ruT r)] w fun e w' => ∃ t : Bool, e = .returned (.bool t) ∧ (t = true → r < 2) ∧ Below w.heap.size w w' := by
  match r with
  | 0 => exact (rkey_yes _ (by decide) (by decide) (by rfl) w).mono fun e w' ⟨t, h1, h2⟩ => ⟨t, h1, fun _ => by omega, h2⟩
  | 1 => exact (rkey_yes _ (by decide) (by decide) (by rfl) w).mono fun e w' ⟨t, h1, h2⟩ => ⟨t, h1, fun _ => by omega, h2⟩
  | n + 2 => exact (rkey_nil w).mono fun e w' h => ⟨false, h.1, by simp, h.2⟩
theorem rkey_tm (r : Nat) (w : World) : Calls Tryz.prog 33 #[.string (tmT r)] w fun e w' => ∃ t : Bool, e = .returned (.bool t) ∧ (t = true → r ≠ 2) ∧ Below w.heap.size w w' := by
  match r with
  | 0 => exact (rkey_yes _ (by decide) (by decide) (by rfl) w).mono fun e w' ⟨t, h1, h2⟩ => ⟨t, h1, fun _ => by omega, h2⟩
  | 1 => exact (rkey_yes _ (by decide) (by decide) (by rfl) w).mono fun e w' ⟨t, h1, h2⟩ => ⟨t, h1, fun _ => by omega, h2⟩
  | 2 => exact (rkey_nil w).mono fun e w' h => ⟨false, h.1, by simp, h.2⟩
  | n + 3 => exact (rkey_yes _ (by show 1 ≤ (⟨#[122, 122]⟩ : ByteArray).size; decide) (by show (⟨#[122, 122]⟩ : ByteArray).size ≤ 40; decide) (by rfl) w).mono fun e w' ⟨t, h1, h2⟩ => ⟨t, h1, fun _ => by omega, h2⟩
theorem key_ru (r : Nat) (hr : r < 2) (w : World) : Calls Tryz.prog 93 #[.string (ruT r)] w fun e w' => e = .returned (.bool true) ∧ w = w' := by
  match r, hr with
  | 0, _ => exact key_yes ⟨#[114, 97]⟩ w (by kernel_rfl)
  | 1, _ => exact key_yes ⟨#[114, 98]⟩ w (by kernel_rfl)
theorem key_tm (r : Nat) (hr : r ≠ 2) (w : World) : Calls Tryz.prog 93 #[.string (tmT r)] w fun e w' => e = .returned (.bool true) ∧ w = w' := by
  match r, hr with
  | 0, _ => exact key_yes ⟨#[98, 111, 115, 115]⟩ w (by kernel_rfl)
  | 1, _ => exact key_yes ⟨#[111, 112, 115]⟩ w (by kernel_rfl)
  | n + 3, _ => exact key_yes ⟨#[122, 122]⟩ w (by kernel_rfl)
theorem ru_le (r q : Nat) (hr : r < 2) (hq : q < 2) : (Op.bytesLess (ruT r).toList (ruT q).toList || (ruT r).toList == (ruT q).toList) = decide (r ≤ q) := by
  have h1 : r = 0 ∨ r = 1 := by omega
  have h2 : q = 0 ∨ q = 1 := by omega
  rcases h1 with rfl | rfl <;> rcases h2 with rfl | rfl <;> decide +kernel
theorem ru_not_le {a x : Ld} (hx : x.r < 2) (ha : a.r < 2) (h : (Op.bytesLess (ruT x.r).toList (ruT a.r).toList || (ruT x.r).toList == (ruT a.r).toList) = false) : LdL a x := by
  rw [ru_le _ _ hx ha] at h
  have := of_decide_eq_false h
  unfold LdL
  omega
theorem ru_le_no {a x : Ld} (hx : x.r < 2) (h : LdL a x) : (Op.bytesLess (ruT x.r).toList (ruT a.r).toList || (ruT x.r).toList == (ruT a.r).toList) = false := by
  unfold LdL at h
  rw [ru_le _ _ hx (by omega)]
  exact decide_eq_false (by omega)
end Go.Proofs.YtgdnedhcbjonkaaGreatDoor

/- fleetref1.ShiftsFault: where it answers 0, the shifts are right. Printed by gen_SfX.py. -/
namespace Go.Proofs.YtgdnedhcbjonkaaGreatDoor
open Go.RowKit Go.Shelf Go.Sort

theorem tm_min (i : Nat) : tmT i = tmT (min i 3) := by
  match i with
  | 0 => rfl
  | 1 => rfl
  | 2 => rfl
  | 3 => rfl
  | n + 4 => rw [show min (n + 4) 3 = 3 by omega]; rfl
theorem tm_cmp (i j : Nat) (hi : i ≠ 2) (hj : j ≠ 2) : cbT (tmT i) (tmT j) = cmpI ((tmO i : Nat) : Int) ((tmO j : Nat) : Int) := by
  rw [tm_min i, tm_min j]
  unfold tmO
  have h1 : min i 3 = 0 ∨ min i 3 = 1 ∨ min i 3 = 3 := by omega
  have h2 : min j 3 = 0 ∨ min j 3 = 1 ∨ min j 3 = 3 := by omega
  rcases h1 with h | h | h <;> rw [h] <;> rcases h2 with h | h | h <;> rw [h] <;> rfl
theorem tm_eq (i j : Nat) : ((tmT i).toList == (tmT j).toList) = decide (tmO i = tmO j) := by
  rw [tm_min i, tm_min j]
  unfold tmO
  have h1 : min i 3 = 0 ∨ min i 3 = 1 ∨ min i 3 = 2 ∨ min i 3 = 3 := by omega
  have h2 : min j 3 = 0 ∨ min j 3 = 1 ∨ min j 3 = 2 ∨ min j 3 = 3 := by omega
  rcases h1 with h | h | h | h <;> rw [h] <;> rcases h2 with h | h | h | h <;> rw [h] <;> decide +kernel
/-- How two shifts lie. -/
def sfCmp (x y : Sf) : Int := orI [cbT (tmT x.t) (tmT y.t), cmpI x.f y.f]
theorem sfCmp_lt (x y : Sf) (hx : x.t ≠ 2) (hy : y.t ≠ 2) : sfCmp x y < 0 ↔ (tmO x.t < tmO y.t ∨ tmO x.t = tmO y.t ∧ x.f < y.f) := by
  unfold sfCmp
  rw [tm_cmp _ _ hx hy]
  simp only [orI, cmpI]
  repeat' split
  all_goals omega
theorem sfCmp_gt (x y : Sf) (hx : x.t ≠ 2) (hy : y.t ≠ 2) : 0 < sfCmp x y ↔ (tmO y.t < tmO x.t ∨ tmO x.t = tmO y.t ∧ y.f < x.f) := by
  unfold sfCmp
  rw [tm_cmp _ _ hx hy]
  simp only [orI, cmpI]
  repeat' split
  all_goals omega
def sfBk (x : Sf) : Obj := .cells #[.string (tmT x.t), .string (alwT x.b), .int .i64 x.f, .int .i64 x.u] 73 (0, 0)
def SfB (V : World) (g : Nat) (x : Sf) : Prop := V.cell? ⟨g, 0, none⟩ = some (.string (tmT x.t)) ∧ V.cell? ⟨g, 1, none⟩ = some (.string (alwT x.b)) ∧ V.cell? ⟨g, 2, none⟩ = some (.int .i64 x.f) ∧ V.cell? ⟨g, 3, none⟩ = some (.int .i64 x.u)
theorem sf_blk {V : World} {g : Nat} {x : Sf} (h : V.heap[g]? = some (sfBk x)) : SfB V g x := ⟨cell_of_blk (j := 0) h rfl, cell_of_blk (j := 1) h rfl, cell_of_blk (j := 2) h rfl, cell_of_blk (j := 3) h rfl⟩
def SfB2 (V : World) (g : Nat) (x : Sf) (h : Nat) (y : Sf) : Prop := V.cell? ⟨g, 0, none⟩ = some (.string (tmT x.t)) ∧ V.cell? ⟨g, 2, none⟩ = some (.int .i64 x.f) ∧ V.cell? ⟨h, 0, none⟩ = some (.string (tmT y.t)) ∧ V.cell? ⟨h, 2, none⟩ = some (.int .i64 y.f)
theorem sf_cells {w : World} {b o : Nat} {l : List Sf} (h : Cells w b o (recs sfC l)) (i : Nat) (x : Sf) (hx : l[i]? = some x) : w.cell? ⟨b, o + i * 4, none⟩ = some (.string (tmT x.t)) ∧ w.cell? ⟨b, o + i * 4 + 1, none⟩ = some (.string (alwT x.b)) ∧ w.cell? ⟨b, o + i * 4 + 2, none⟩ = some (.int .i64 x.f) ∧ w.cell? ⟨b, o + i * 4 + 3, none⟩ = some (.int .i64 x.u) :=
  ⟨rec_cell sfC_len h i x hx 0 _ rfl, rec_cell sfC_len h i x hx 1 _ rfl, rec_cell sfC_len h i x hx 2 _ rfl, rec_cell sfC_len h i x hx 3 _ rfl⟩
def SfFP (w : World) (L : List Sf) (e : Ending) (w' : World) : Prop := ∃ z : Int, e = .returned (.int .i64 z) ∧ (z = 0 → SfsOk L) ∧ Below w.heap.size w w'
theorem SfFP.no {w w' : World} {L : List Sf} {z : Int} (hz : z ≠ 0) (hb : Below w.heap.size w w') : SfFP w L (.returned (.int .i64 z)) w' := ⟨z, rfl, fun h => absurd h hz, hb⟩
set_option maxRecDepth 100000 in
set_option maxHeartbeats 4000000 in
theorem sftFault_any (L : List Sf) (n c : Nat) (A : Option Addr) (w : World) (hn : L.length = n) (hn2 : n ≤ 1000) (hr : Row w w.heap.size A (recs sfC L)) :
    Calls Tryz.prog 10 #[.slice A n c] w fun e w' => SfFP w L e w' := by
  have HR := Lib.hid hr
  have HN := Lib.hid hn
  have hnI2 : ¬ (1000 : Int) < n := by omega
  clear hr hn
  go_enter Tryz.func10, Tryz.ntmps10
  go_wp2_with (fail)
  go_loopw [11] (fun s wr => ∃ (i : Nat), i ≤ n ∧ s = .int .i64 (i : Int) ∧ Below w.heap.size w wr ∧ Hid (UpTo SfR SfL L i)) (fun s _ => n - (intOf s).toNat)
  case atStart => exact ⟨0, by omega, rfl, Below.refl _ _, Lib.hid UpTo.nil⟩
  case round =>
    obtain ⟨i, hin, rfl, hbr, HOK⟩ := hrel
    have hbs := hbr.size
    have HB := Lib.hid hbr
    clear hbr
    by_cases hlt : i < n
    · have hltI : (i : Int) < n := by omega
      obtain ⟨x, hx⟩ : ∃ x, L[i]? = some x := ⟨_, List.getElem?_eq_getElem (by have := HN.out; omega)⟩
      obtain ⟨b, o, rfl, hb, hC⟩ := (HR.out.below HB.out).posR sfC_len (by omega) (by have := HN.out; omega)
      obtain ⟨c0, c1, c2, c3⟩ := sf_cells hC i x hx
      have HP := Lib.hid hx
      have hb' : b < wr.heap.size := by omega
      clear hx hC
      go_upto_region 6 with (fail)
      obtain ⟨g, eg⟩ : ∃ g, g = wr.heap.size := ⟨_, rfl⟩
      obtain ⟨w5, e5⟩ : ∃ w5, w5 = wr.alloc (.cells #[.string (tmT x.t), .string (alwT x.b), .int .i64 x.f, .int .i64 x.u] 73) := ⟨_, rfl⟩
      rw [← eg, ← e5]
      have hg5 : w5.heap[g]? = some (sfBk x) := by rw [e5, eg]; exact heap_new wr _
      have HB5 := Lib.hid (show Below w.heap.size w w5 from by rw [e5]; exact HB.out.alloc hbs _)
      have hlt5 : g < w5.heap.size := by rw [e5, eg]; simp
      have hbs5 := HB5.out.size
      have HQ := Lib.hid (fun (V : World) (hV : Below w5.heap.size w5 V) => show SfB V g x from sf_blk ((hV.block g hlt5).trans hg5))
      obtain ⟨q0, q1, q2, q3⟩ := sf_blk hg5
      clear eg e5 hg5 c0 c1 c2 c3
      go_wp2_with (fail)
      refine (rkey_tm x.t _).mono ?_
      rintro e w6 ⟨t1, rfl, ht1, hb6⟩
      have HB6 := Lib.hid (HB5.out.trans (hb6.mono hbs5))
      have HB56 := Lib.hid hb6
      have hs6 := hb6.size
      clear hb6 q0 q1 q2 q3
      obtain ⟨q0, q1, q2, q3⟩ := HQ.out w6 HB56.out
      have hg6 : g < w6.heap.size := by omega
      cases t1
      case false =>
        go_wp2_with (fail)
        go_ret
        exact SfFP.no (by decide) HB6.out
      have HT2 := Lib.hid (ht1 rfl)
      clear ht1
      go_wp2_with (fail)
      refine (rkey_who x.b _).mono ?_
      rintro e w7 ⟨t1, rfl, ht1, hb7⟩
      have HB7 := Lib.hid (HB6.out.trans (hb7.mono HB6.out.size))
      have HB57 := Lib.hid (HB56.out.trans (hb7.mono HB56.out.size))
      have hs7 := hb7.size
      clear hb7 q0 q1 q2 q3
      obtain ⟨q0, q1, q2, q3⟩ := HQ.out w7 HB57.out
      have hg7 : g < w7.heap.size := by omega
      cases t1
      case false =>
        go_wp2_with (fail)
        go_ret
        exact SfFP.no (by decide) HB7.out
      have HBB := Lib.hid (ht1 rfl)
      clear ht1
      by_cases hf0 : 0 ≤ x.f
      case neg =>
        have hd0 : x.f < 0 := by omega
        have hd : decide (x.f < 0) = true := decide_eq_true hd0
        clear hf0
        go_wp2_with (fail)
        go_ret
        exact SfFP.no (by decide) HB7.out
      have hd0 : ¬ x.f < 0 := by omega
      have hd : decide (x.f < 0) = false := decide_eq_false hd0
      by_cases hfu : x.f < x.u
      case neg =>
        have he0 : x.u ≤ x.f := by omega
        have he : decide (x.u ≤ x.f) = true := decide_eq_true he0
        clear hf0 hfu
        go_wp2_with (fail)
        go_ret
        exact SfFP.no (by decide) HB7.out
      have he0 : ¬ x.u ≤ x.f := by omega
      have he : decide (x.u ≤ x.f) = false := decide_eq_false he0
      by_cases hen : x.u ≤ 345686400000
      case neg =>
        have hh0 : 345686400000 < x.u := by omega
        have hh : decide (345686400000 < x.u) = true := decide_eq_true hh0
        clear hf0 hfu hen
        go_wp2_with (fail)
        go_ret
        exact SfFP.no (by decide) HB7.out
      have hh0 : ¬ 345686400000 < x.u := by omega
      have hh : decide (345686400000 < x.u) = false := decide_eq_false hh0
      have HXR := Lib.hid (show SfR x from ⟨HT2.out, HBB.out, ⟨hf0, hfu⟩, hen⟩)
      clear hf0 hfu hen
      by_cases hi0 : i = 0
      case pos =>
        subst hi0
        have HNX := Lib.hid (show UpTo SfR SfL L (0 + 1) from HOK.out.step HP.out HXR.out (fun a h0 => by omega))
        go_wp2_with (fail)
        go_roundw
        case rel => exact ⟨1, by omega, by simp, HB7.out, HNX⟩
        case measure => simp [intOf]; omega
      have hi1I : (0 : Int) < i := by omega
      have hi1N : ¬ (i : Int) = 0 := by omega
      have hd3 : 0 < i := by omega
      obtain ⟨q, hq⟩ : ∃ q, L[i - 1]? = some q := ⟨_, List.getElem?_eq_getElem (by have := HN.out; omega)⟩
      obtain ⟨b2, o2, e2, hb2, hC2⟩ := (HR.out.below HB7.out).posR sfC_len (by omega) (by have := HN.out; omega)
      cases e2
      obtain ⟨d0, d1, d2, d3⟩ := sf_cells hC2 (i - 1) q hq
      have hwrap : (i : Int) - 1 = ((i - 1 : Nat) : Int) := by omega
      have hwr : IntKind.i64.wrap ((i - 1 : Nat) : Int) = ((i - 1 : Nat) : Int) := by rw [IntKind.wrap_i64]; omega
      have hxI : ((i - 1 : Nat) : Int) < (n : Int) := by omega
      have hxN : i - 1 < n := by omega
      have hb7' : b < w7.heap.size := by have := HB7.out.size; omega
      have HQT := Lib.hid (show q.t ≠ 2 from (HOK.out.1 (i - 1) q (by omega) hq).t)
      have HPQ := Lib.hid hq
      clear hq hC2
      go_upto_region 12 with (fail)
      obtain ⟨h, eh⟩ : ∃ g, g = w7.heap.size := ⟨_, rfl⟩
      obtain ⟨w8, e8⟩ : ∃ V : World, V = w7.alloc (.cells #[.string (tmT q.t), .string (alwT q.b), .int .i64 q.f, .int .i64 q.u] 73) := ⟨_, rfl⟩
      rw [← eh, ← e8]
      have hh8 : w8.heap[h]? = some (sfBk q) := by rw [e8, eh]; exact heap_new w7 _
      have hb8 : Below w7.heap.size w7 w8 := by rw [e8]; exact (Below.refl _ _).alloc (Nat.le_refl _) _
      have HB8 := Lib.hid (HB7.out.trans (hb8.mono HB7.out.size))
      have HB58 := Lib.hid (HB57.out.trans (hb8.mono HB57.out.size))
      have hh8l : h < w8.heap.size := by rw [e8, eh]; simp
      have HQH := Lib.hid (fun (V : World) (hV : Below w8.heap.size w8 V) => show SfB V h q from sf_blk ((hV.block h hh8l).trans hh8))
      have hg8 : g < w8.heap.size := by have := HB58.out.size; omega
      have HQ8 := Lib.hid (fun (V : World) (hV : Below w8.heap.size w8 V) => show SfB2 V g x h q from by
        obtain ⟨a0, a1, a2, a3⟩ := HQ.out V (HB58.out.trans (hV.mono HB58.out.size))
        obtain ⟨e0, e1, e2, e3⟩ := HQH.out V hV
        exact ⟨a0, a2, e0, e2⟩)
      clear eh e8 hh8 hb8 q0 q1 q2 q3 d0 d1 d2 d3
      have HC1 := Lib.hid (fun V => (scompare_any (tmT q.t) (tmT x.t) V).mono (fun e w' h => show _ ∧ Below V.heap.size V w' from ⟨h.1, h.2 ▸ Below.refl _ _⟩))
      have HC2 := Lib.hid (fun V => (compare_any q.f x.f V).mono (fun e w' h => show _ ∧ Below V.heap.size V w' from ⟨h.1, h.2 ▸ Below.refl _ _⟩))
      obtain ⟨r1, er1⟩ : ∃ r, r = Lib.compareBytes (tmT q.t).data.toList (tmT x.t).data.toList := ⟨_, rfl⟩
      obtain ⟨r2, er2⟩ : ∃ r, r = cmpI q.f x.f := ⟨_, rfl⟩
      rw [← er1] at HC1
      rw [← er2] at HC2
      have HRR := Lib.hid (show orI [r1, r2] = sfCmp q x from by rw [er1, er2]; rfl)
      clear er1 er2
      go_upto_region 12 with (fail)
      refine qRegionTail 12 (by kernel_rfl) (by kernel_rfl) ?_
      simp only [List.take_succ_cons, List.take_zero, List.drop_succ_cons, List.drop_zero]
      repeat (first
        | (go_big_quiet_want; refine qVal (fun V hV => (by (obtain ⟨a0, a1, a2, a3⟩ := HQ8.out V hV; go_simp; try rfl))) ?_; simp only [Act.put, List.setIfInBounds_toArray, List.set_cons_zero, List.set_cons_succ]; go_big_quiet_on)
        | (go_big_quiet_want
           refine qCall (fun V hV => (by (obtain ⟨a0, a1, a2, a3⟩ := HQ8.out V hV; go_simp; exact ⟨rfl, rfl⟩))) (fun V hV => (by first
             | with_reducible exact (HC1.out V).mono (fun e w' h => ⟨h.1, hV.trans (h.2.mono hV.size)⟩)
             | with_reducible exact (HC2.out V).mono (fun e w' h => ⟨h.1, hV.trans (h.2.mono hV.size)⟩))) ?_
           simp only [Act.put, List.setIfInBounds_toArray, List.set_cons_zero, List.set_cons_succ]; go_big_quiet_on)
        | go_big_quiet_skip)
      refine wpQuiet_nil ?_
      intro w9 hb9
      have HB9 := Lib.hid (HB8.out.trans (hb9.mono HB8.out.size))
      have HB59 := Lib.hid (HB58.out.trans (hb9.mono HB58.out.size))
      have HB89 := Lib.hid hb9
      clear hb9
      go_wp2_with (fail)
      have hcs : Cells (w9.alloc (.cells #[.int .i64 r1, .int .i64 r2] 3)) w9.heap.size 0 ([r1, r2].map (Value.int .i64)) := Cells.new w9 #[.int .i64 r1, .int .i64 r2] 3 (0, 0) _ rfl
      refine (or_any [r1, r2] 2 2 w9.heap.size _ rfl (by omega) hcs).mono ?_
      rintro e w' ⟨rfl, rfl⟩
      rw [HRR.out]
      have hb10 : Below w9.heap.size w9 (w9.alloc (.cells #[.int .i64 r1, .int .i64 r2] 3)) := (Below.refl _ _).alloc (Nat.le_refl _) _
      obtain ⟨w10, e10⟩ : ∃ V, V = w9.alloc (.cells #[.int .i64 r1, .int .i64 r2] 3) := ⟨_, rfl⟩
      clear hcs
      rw [← e10] at hb10 ⊢
      have HB10 := Lib.hid (HB9.out.trans (hb10.mono HB9.out.size))
      obtain ⟨q0, q1, q2, q3⟩ := HQ.out w10 (HB59.out.trans (hb10.mono HB59.out.size))
      obtain ⟨d0, d1, d2, d3⟩ := HQH.out w10 (HB89.out.trans (hb10.mono HB89.out.size))
      have hg10 : g < w10.heap.size := by have := HB59.out.size; have := hb10.size; omega
      have hh10 : h < w10.heap.size := by have := HB89.out.size; have := hb10.size; omega
      clear e10 hb10
      obtain ⟨r, er⟩ : ∃ r, r = sfCmp q x := ⟨_, rfl⟩
      rw [← er]
      have HLT := Lib.hid (show r < 0 → (tmO q.t < tmO x.t ∨ tmO q.t = tmO x.t ∧ q.f < x.f) from fun h => (sfCmp_lt q x HQT.out HXR.out.t).1 (er ▸ h))
      clear er
      by_cases hr0 : 0 ≤ r
      case pos =>
        go_wp2_with (fail)
        go_ret
        exact SfFP.no (by decide) HB10.out
      have HL1 := Lib.hid (HLT.out (by omega))
      by_cases hte : tmO q.t = tmO x.t
      case neg =>
        have hst : ((tmT q.t).toList == (tmT x.t).toList) = false := by rw [tm_eq]; exact decide_eq_false hte
        have HNX := Lib.hid (show UpTo SfR SfL L (i + 1) from HOK.out.step HP.out HXR.out (fun a h0 ha => by
          obtain rfl : q = a := Option.some.inj (HPQ.out.symm.trans ha)
          have := HL1.out
          unfold SfL
          omega))
        clear hte
        go_wp2_with (fail)
        go_roundw
        case rel => exact ⟨i + 1, by omega, by go_num, HB10.out, HNX⟩
        case measure => simp [intOf]; omega
      have hst : ((tmT q.t).toList == (tmT x.t).toList) = true := by rw [tm_eq]; exact decide_eq_true hte
      by_cases hov : x.f < q.u
      case pos =>
        have hov2 : decide (x.f < q.u) = true := decide_eq_true hov
        clear hte
        go_wp2_with (fail)
        go_ret
        exact SfFP.no (by decide) HB10.out
      have hov2 : decide (x.f < q.u) = false := decide_eq_false hov
      have HNX := Lib.hid (show UpTo SfR SfL L (i + 1) from HOK.out.step HP.out HXR.out (fun a h0 ha => by
          obtain rfl : q = a := Option.some.inj (HPQ.out.symm.trans ha)
          have := HL1.out
          unfold SfL
          omega))
      clear hte
      go_wp2_with (fail)
      go_roundw
      case rel => exact ⟨i + 1, by omega, by go_num, HB10.out, HNX⟩
      case measure => simp [intOf]; omega
    · have hltI : ¬ (i : Int) < n := by omega
      have hin' : i = n := by omega
      subst hin'
      go_wp2_with (fail)
      go_ret
      exact ⟨0, rfl, fun _ => by unfold SfsOk; rw [HN.out]; exact HOK.out, HB.out⟩
end Go.Proofs.YtgdnedhcbjonkaaGreatDoor

/- alarm.CheckShifts of right shifts: nothing is wrong. Printed by gen_SfX.py. -/
namespace Go.Proofs.YtgdnedhcbjonkaaGreatDoor
open Go.RowKit Go.Shelf Go.Sort

set_option maxRecDepth 100000 in
set_option maxHeartbeats 4000000 in
theorem checkShifts_any (L : List Sf) (n c : Nat) (A : Option Addr) (w : World) (hn : L.length = n) (hn2 : n ≤ 1000) (hr : Row w w.heap.size A (recs sfC L)) (hg : SfsOk L) :
    Calls Tryz.prog 57 #[.slice A n c] w fun e w' => e = .returned (.int .i64 0) ∧ Below w.heap.size w w' := by
  have HR := Lib.hid hr
  have HN := Lib.hid hn
  have HG := Lib.hid hg
  clear hg
  have hnI2 : ¬ (1000 : Int) < n := by omega
  clear hr hn
  go_enter Tryz.func57, Tryz.ntmps57
  go_wp2_with (fail)
  go_loopw [11] (fun s wr => ∃ (i : Nat), i ≤ n ∧ s = .int .i64 (i : Int) ∧ Below w.heap.size w wr) (fun s _ => n - (intOf s).toNat)
  case atStart => exact ⟨0, by omega, rfl, Below.refl _ _⟩
  case round =>
    obtain ⟨i, hin, rfl, hbr⟩ := hrel
    have hbs := hbr.size
    have HB := Lib.hid hbr
    clear hbr
    by_cases hlt : i < n
    · have hltI : (i : Int) < n := by omega
      obtain ⟨x, hx⟩ : ∃ x, L[i]? = some x := ⟨_, List.getElem?_eq_getElem (by have := HN.out; omega)⟩
      obtain ⟨b, o, rfl, hb, hC⟩ := (HR.out.below HB.out).posR sfC_len (by omega) (by have := HN.out; omega)
      obtain ⟨c0, c1, c2, c3⟩ := sf_cells hC i x hx
      have HP := Lib.hid hx
      have HX := Lib.hid (HG.out.1 i x (by have := HN.out; omega) hx)
      have hb' : b < wr.heap.size := by omega
      clear hx hC
      go_upto_region 6 with (fail)
      obtain ⟨g, eg⟩ : ∃ g, g = wr.heap.size := ⟨_, rfl⟩
      obtain ⟨w5, e5⟩ : ∃ w5, w5 = wr.alloc (.cells #[.string (tmT x.t), .string (alwT x.b), .int .i64 x.f, .int .i64 x.u] 73) := ⟨_, rfl⟩
      rw [← eg, ← e5]
      have hg5 : w5.heap[g]? = some (sfBk x) := by rw [e5, eg]; exact heap_new wr _
      have HB5 := Lib.hid (show Below w.heap.size w w5 from by rw [e5]; exact HB.out.alloc hbs _)
      have hlt5 : g < w5.heap.size := by rw [e5, eg]; simp
      have hbs5 := HB5.out.size
      have HQ := Lib.hid (fun (V : World) (hV : Below w5.heap.size w5 V) => show SfB V g x from sf_blk ((hV.block g hlt5).trans hg5))
      obtain ⟨q0, q1, q2, q3⟩ := sf_blk hg5
      clear eg e5 hg5 c0 c1 c2 c3
      go_wp2_with (fail)
      refine (key_tm x.t HX.out.t _).mono ?_
      rintro e w6 ⟨rfl, h6⟩
      rw [← h6]
      clear h6 w6
      go_wp2_with (fail)
      refine (key_who x.b HX.out.b _).mono ?_
      rintro e w6 ⟨rfl, h6⟩
      rw [← h6]
      clear h6 w6
      have hd0 : ¬ x.f < 0 := by have := HX.out.f; omega
      have hd : decide (x.f < 0) = false := decide_eq_false hd0
      have he0 : ¬ x.u ≤ x.f := by have := HX.out.f; omega
      have he : decide (x.u ≤ x.f) = false := decide_eq_false he0
      have hh0 : ¬ 345686400000 < x.u := by have := HX.out.u; omega
      have hh : decide (345686400000 < x.u) = false := decide_eq_false hh0
      have HB7 := Lib.hid HB5.out
      have HB57 := Lib.hid (Below.refl w5.heap.size w5)
      have HXR := Lib.hid HX.out
      by_cases hi0 : i = 0
      case pos =>
        subst hi0
        go_wp2_with (fail)
        go_roundw
        case rel => exact ⟨1, by omega, by simp, HB7.out⟩
        case measure => simp [intOf]; omega
      have hi1I : (0 : Int) < i := by omega
      have hi1N : ¬ (i : Int) = 0 := by omega
      have hd3 : 0 < i := by omega
      obtain ⟨q, hq⟩ : ∃ q, L[i - 1]? = some q := ⟨_, List.getElem?_eq_getElem (by have := HN.out; omega)⟩
      obtain ⟨b2, o2, e2, hb2, hC2⟩ := (HR.out.below HB7.out).posR sfC_len (by omega) (by have := HN.out; omega)
      cases e2
      obtain ⟨d0, d1, d2, d3⟩ := sf_cells hC2 (i - 1) q hq
      have hwrap : (i : Int) - 1 = ((i - 1 : Nat) : Int) := by omega
      have hwr : IntKind.i64.wrap ((i - 1 : Nat) : Int) = ((i - 1 : Nat) : Int) := by rw [IntKind.wrap_i64]; omega
      have hxI : ((i - 1 : Nat) : Int) < (n : Int) := by omega
      have hxN : i - 1 < n := by omega
      have hb7' : b < w5.heap.size := by have := HB7.out.size; omega
      have HQT := Lib.hid (show q.t ≠ 2 from (HG.out.1 (i - 1) q (by have := HN.out; omega) hq).t)
      have HPQ := Lib.hid hq
      clear hq hC2
      go_upto_region 12 with (fail)
      obtain ⟨h, eh⟩ : ∃ g, g = w5.heap.size := ⟨_, rfl⟩
      obtain ⟨w8, e8⟩ : ∃ V : World, V = w5.alloc (.cells #[.string (tmT q.t), .string (alwT q.b), .int .i64 q.f, .int .i64 q.u] 73) := ⟨_, rfl⟩
      rw [← eh, ← e8]
      have hh8 : w8.heap[h]? = some (sfBk q) := by rw [e8, eh]; exact heap_new w5 _
      have hb8 : Below w5.heap.size w5 w8 := by rw [e8]; exact (Below.refl _ _).alloc (Nat.le_refl _) _
      have HB8 := Lib.hid (HB7.out.trans (hb8.mono HB7.out.size))
      have HB58 := Lib.hid (HB57.out.trans (hb8.mono HB57.out.size))
      have hh8l : h < w8.heap.size := by rw [e8, eh]; simp
      have HQH := Lib.hid (fun (V : World) (hV : Below w8.heap.size w8 V) => show SfB V h q from sf_blk ((hV.block h hh8l).trans hh8))
      have hg8 : g < w8.heap.size := by have := HB58.out.size; omega
      have HQ8 := Lib.hid (fun (V : World) (hV : Below w8.heap.size w8 V) => show SfB2 V g x h q from by
        obtain ⟨a0, a1, a2, a3⟩ := HQ.out V (HB58.out.trans (hV.mono HB58.out.size))
        obtain ⟨e0, e1, e2, e3⟩ := HQH.out V hV
        exact ⟨a0, a2, e0, e2⟩)
      clear eh e8 hh8 hb8 q0 q1 q2 q3 d0 d1 d2 d3
      have HC1 := Lib.hid (fun V => (scompare_any (tmT x.t) (tmT q.t) V).mono (fun e w' h => show _ ∧ Below V.heap.size V w' from ⟨h.1, h.2 ▸ Below.refl _ _⟩))
      have HC2 := Lib.hid (fun V => (compare_any x.f q.f V).mono (fun e w' h => show _ ∧ Below V.heap.size V w' from ⟨h.1, h.2 ▸ Below.refl _ _⟩))
      obtain ⟨r1, er1⟩ : ∃ r, r = Lib.compareBytes (tmT x.t).data.toList (tmT q.t).data.toList := ⟨_, rfl⟩
      obtain ⟨r2, er2⟩ : ∃ r, r = cmpI x.f q.f := ⟨_, rfl⟩
      rw [← er1] at HC1
      rw [← er2] at HC2
      have HRR := Lib.hid (show orI [r1, r2] = sfCmp x q from by rw [er1, er2]; rfl)
      clear er1 er2
      go_upto_region 12 with (fail)
      refine qRegionTail 12 (by kernel_rfl) (by kernel_rfl) ?_
      simp only [List.take_succ_cons, List.take_zero, List.drop_succ_cons, List.drop_zero]
      repeat (first
        | (go_big_quiet_want; refine qVal (fun V hV => (by (obtain ⟨a0, a1, a2, a3⟩ := HQ8.out V hV; go_simp; try rfl))) ?_; simp only [Act.put, List.setIfInBounds_toArray, List.set_cons_zero, List.set_cons_succ]; go_big_quiet_on)
        | (go_big_quiet_want
           refine qCall (fun V hV => (by (obtain ⟨a0, a1, a2, a3⟩ := HQ8.out V hV; go_simp; exact ⟨rfl, rfl⟩))) (fun V hV => (by first
             | with_reducible exact (HC1.out V).mono (fun e w' h => ⟨h.1, hV.trans (h.2.mono hV.size)⟩)
             | with_reducible exact (HC2.out V).mono (fun e w' h => ⟨h.1, hV.trans (h.2.mono hV.size)⟩))) ?_
           simp only [Act.put, List.setIfInBounds_toArray, List.set_cons_zero, List.set_cons_succ]; go_big_quiet_on)
        | go_big_quiet_skip)
      refine wpQuiet_nil ?_
      intro w9 hb9
      have HB9 := Lib.hid (HB8.out.trans (hb9.mono HB8.out.size))
      have HB59 := Lib.hid (HB58.out.trans (hb9.mono HB58.out.size))
      have HB89 := Lib.hid hb9
      clear hb9
      go_wp2_with (fail)
      have hcs : Cells (w9.alloc (.cells #[.int .i64 r1, .int .i64 r2] 3)) w9.heap.size 0 ([r1, r2].map (Value.int .i64)) := Cells.new w9 #[.int .i64 r1, .int .i64 r2] 3 (0, 0) _ rfl
      refine (or_any [r1, r2] 2 2 w9.heap.size _ rfl (by omega) hcs).mono ?_
      rintro e w' ⟨rfl, rfl⟩
      rw [HRR.out]
      have hb10 : Below w9.heap.size w9 (w9.alloc (.cells #[.int .i64 r1, .int .i64 r2] 3)) := (Below.refl _ _).alloc (Nat.le_refl _) _
      obtain ⟨w10, e10⟩ : ∃ V, V = w9.alloc (.cells #[.int .i64 r1, .int .i64 r2] 3) := ⟨_, rfl⟩
      clear hcs
      rw [← e10] at hb10 ⊢
      have HB10 := Lib.hid (HB9.out.trans (hb10.mono HB9.out.size))
      obtain ⟨q0, q1, q2, q3⟩ := HQ.out w10 (HB59.out.trans (hb10.mono HB59.out.size))
      obtain ⟨d0, d1, d2, d3⟩ := HQH.out w10 (HB89.out.trans (hb10.mono HB89.out.size))
      have hg10 : g < w10.heap.size := by have := HB59.out.size; have := hb10.size; omega
      have hh10 : h < w10.heap.size := by have := HB89.out.size; have := hb10.size; omega
      clear e10 hb10
      have hlx : SfL q x := HG.out.2 (i - 1) q x (by have := HN.out; omega) HPQ.out (by rw [show i - 1 + 1 = i by omega]; exact HP.out)
      have hr0 : 0 < sfCmp x q := (sfCmp_gt x q HXR.out.t HQT.out).2 (by unfold SfL at hlx; omega)
      obtain ⟨r, er⟩ : ∃ r, r = sfCmp x q := ⟨_, rfl⟩
      rw [← er] at hr0 ⊢
      clear er
      have hr1 : ¬ r ≤ 0 := by omega
      obtain ⟨t5, et5⟩ : ∃ t : Bool, t = ((tmT x.t).toList == (tmT q.t).toList) := ⟨_, rfl⟩
      have hov : t5 = true → ¬ x.f < q.u := fun h => by
        rw [tm_eq] at et5
        have := of_decide_eq_true (et5.symm.trans h)
        unfold SfL at hlx
        omega
      clear hlx
      cases t5
      case false =>
        have et5' := et5.symm
        clear et5 hov
        go_wp2_with (fail)
        go_roundw
        case rel => exact ⟨i + 1, by omega, by go_num, HB10.out⟩
        case measure => simp [intOf]; omega
      have et5' := et5.symm
      have hov1 := hov rfl
      have hov2 : decide (x.f < q.u) = false := decide_eq_false hov1
      clear et5 hov
      go_wp2_with (fail)
      go_roundw
      case rel => exact ⟨i + 1, by omega, by go_num, HB10.out⟩
      case measure => simp [intOf]; omega
    · have hltI : ¬ (i : Int) < n := by omega
      have hin' : i = n := by omega
      subst hin'
      go_wp2_with (fail)
      go_ret
      exact ⟨rfl, HB.out⟩
end Go.Proofs.YtgdnedhcbjonkaaGreatDoor

/- fleetref1.LaddersFault: where it answers 0, the ladders are right. Printed by gen_LdX.py. -/
namespace Go.Proofs.YtgdnedhcbjonkaaGreatDoor
open Go.RowKit Go.Shelf Go.Sort

def LdFP (w : World) (L : List Ld) (e : Ending) (w' : World) : Prop := ∃ z : Int, e = .returned (.int .i64 z) ∧ (z = 0 → LdsOk L) ∧ Below w.heap.size w w'
theorem LdFP.no {w w' : World} {L : List Ld} {z : Int} (hz : z ≠ 0) (hb : Below w.heap.size w w') : LdFP w L (.returned (.int .i64 z)) w' := ⟨z, rfl, fun h => absurd h hz, hb⟩
set_option maxRecDepth 100000 in
set_option maxHeartbeats 4000000 in
theorem ladFault_any (L : List Ld) (n c : Nat) (A : Option Addr) (w : World) (hn : L.length = n) (hn2 : n ≤ 100) (hr : Row w w.heap.size A (recs ldC L)) (hr2 : ∀ x ∈ L, Row w w.heap.size x.A (recs rgC x.g)) (hg : ∀ x ∈ L, LdG x) :
    Calls Tryz.prog 9 #[.slice A n c] w fun e w' => LdFP w L e w' := by
  have HR := Lib.hid hr
  have HR2 := Lib.hid hr2
  have HN := Lib.hid hn
  have HG := Lib.hid hg
  have hnI2 : ¬ (100 : Int) < n := by omega
  clear hr hr2 hn hg
  go_enter Tryz.func9, Tryz.ntmps9
  go_wp2_with (fail)
  go_loopw [12] (fun s wr => ∃ (i : Nat), i ≤ n ∧ s = .int .i64 (i : Int) ∧ Below w.heap.size w wr ∧ Hid (UpTo LdR LdL L i)) (fun s _ => n - (intOf s).toNat)
  case atStart => exact ⟨0, by omega, rfl, Below.refl _ _, Lib.hid UpTo.nil⟩
  case round =>
    obtain ⟨i, hin, rfl, hbr, HOK⟩ := hrel
    have hbs := hbr.size
    have HB := Lib.hid hbr
    clear hbr
    by_cases hlt : i < n
    · have hltI : (i : Int) < n := by omega
      obtain ⟨x, hx⟩ : ∃ x, L[i]? = some x := ⟨_, List.getElem?_eq_getElem (by have := HN.out; omega)⟩
      obtain ⟨b, o, rfl, hb, hC⟩ := (HR.out.below HB.out).posR ldC_len (by omega) (by have := HN.out; omega)
      have HX := Lib.hid (HG.out x (List.mem_of_getElem? hx))
      have HRX := Lib.hid (HR2.out x (List.mem_of_getElem? hx))
      have c0 : wr.cell? ⟨b, o + i * 3, none⟩ = some (.string (ruT x.r)) := rec_cell ldC_len hC i x hx 0 _ rfl
      have c1 := rec_cell ldC_len hC i x hx 1 _ rfl
      have c2 := rec_cell ldC_len hC i x hx 2 _ rfl
      have HP := Lib.hid hx
      have hb' : b < wr.heap.size := by omega
      obtain ⟨xa, exa⟩ : ∃ a, a = x.A := ⟨_, rfl⟩
      obtain ⟨m, em⟩ : ∃ m, m = x.g.length := ⟨_, rfl⟩
      obtain ⟨xc, exc⟩ : ∃ a, a = x.c := ⟨_, rfl⟩
      obtain ⟨xe, exe⟩ : ∃ a, a = x.ev := ⟨_, rfl⟩
      rw [← exa, ← em, ← exc] at c1
      rw [← exe] at c2
      have HEM := Lib.hid em.symm
      have HEV := Lib.hid exe.symm
      rw [← exa] at HRX
      have hm4 : m ≤ 4 := by have := HX.out.n; omega
      clear hx hC exa em exc exe
      go_upto_region 6 with (fail)
      obtain ⟨g, eg⟩ : ∃ g, g = wr.heap.size := ⟨_, rfl⟩
      obtain ⟨w5, e5⟩ : ∃ w5, w5 = wr.alloc (.cells #[.string (ruT x.r), .slice xa m xc, .int .i64 xe] 59) := ⟨_, rfl⟩
      rw [← eg, ← e5]
      have hg5 : w5.heap[g]? = some (.cells #[.string (ruT x.r), .slice xa m xc, .int .i64 xe] 59 (0, 0)) := by rw [e5, eg]; exact heap_new wr _
      have HB5 := Lib.hid (show Below w.heap.size w w5 from by rw [e5]; exact HB.out.alloc hbs _)
      have hlt5 : g < w5.heap.size := by rw [e5, eg]; simp
      have hbs5 := HB5.out.size
      have HQ := Lib.hid (fun (V : World) (hV : Below w5.heap.size w5 V) => show V.cell? ⟨g, 0, none⟩ = some (.string (ruT x.r)) ∧ V.cell? ⟨g, 1, none⟩ = some (.slice xa m xc) ∧ V.cell? ⟨g, 2, none⟩ = some (.int .i64 xe) from
        ⟨cell_of_blk (j := 0) ((hV.block g hlt5).trans hg5) rfl, cell_of_blk (j := 1) ((hV.block g hlt5).trans hg5) rfl, cell_of_blk (j := 2) ((hV.block g hlt5).trans hg5) rfl⟩)
      obtain ⟨q0, q1, q2⟩ := HQ.out w5 (Below.refl _ _)
      clear eg e5 hg5 c0 c1 c2
      go_wp2_with (fail)
      refine (rkey_ru x.r _).mono ?_
      rintro e w6 ⟨t1, rfl, ht1, hb6⟩
      have HB6 := Lib.hid (HB5.out.trans (hb6.mono hbs5))
      have HB56 := Lib.hid hb6
      have hs6 := hb6.size
      clear hb6 q0 q1 q2
      obtain ⟨q0, q1, q2⟩ := HQ.out w6 HB56.out
      cases t1
      case false =>
        go_wp2_with (fail)
        go_ret
        exact LdFP.no (by decide) HB6.out
      have HRU := Lib.hid (ht1 rfl)
      clear ht1
      have hg6 : g < w6.heap.size := by omega
      go_upto_region 8 with (fail)
      have HREST : ∀ (fr : Act) (V : World), Below w6.heap.size w6 V → True := fun _ _ _ => trivial
      clear HREST
      obtain ⟨bad, ebad⟩ : ∃ bad : Bool, bad = (decide (0 < i) && match L[i - 1]? with | some q => (Op.bytesLess (ruT x.r).toList (ruT q.r).toList || (ruT x.r).toList == (ruT q.r).toList) | none => false) := ⟨_, rfl⟩
      go_cut [22] (fun s wx => s = .bool bad ∧ Below w6.heap.size w6 wx)
      case first =>
        by_cases hi0 : i = 0
        · subst hi0
          have hd : decide ((0 : Int) < 0) = false := by decide
          have hbad : bad = false := by rw [ebad]; rfl
          clear ebad
          subst hbad
          go_quiet (fail)
          go_wp2_with (fail)
          go_meet
          exact ⟨rfl, below_drewN (Below.refl _ _) _⟩
        · have hi1I : (0 : Int) < i := by omega
          have hd : decide ((0 : Int) < i) = true := by simpa using hi1I
          have hd2 : decide (0 < i) = true := by simp; omega
          have hd3 : 0 < i := by omega
          obtain ⟨q, hq⟩ : ∃ q, L[i - 1]? = some q := ⟨_, List.getElem?_eq_getElem (by have := HN.out; omega)⟩
          obtain ⟨b2, o2, e2, hb2, hC2⟩ := (HR.out.below HB6.out).posR ldC_len (by omega) (by have := HN.out; omega)
          cases e2
          have p0 : w6.cell? ⟨b, o + (i - 1) * 3, none⟩ = some (.string (ruT q.r)) := rec_cell ldC_len hC2 (i - 1) q hq 0 _ rfl
          have hwrap : (i : Int) - 1 = ((i - 1 : Nat) : Int) := by omega
          have hwr : IntKind.i64.wrap ((i - 1 : Nat) : Int) = ((i - 1 : Nat) : Int) := by rw [IntKind.wrap_i64]; omega
          have hxI : ((i - 1 : Nat) : Int) < (n : Int) := by omega
          have hxN : i - 1 < n := by omega
          rw [hq, hd2, Bool.true_and] at ebad
          simp only at ebad
          have hb6' : b < w6.heap.size := by omega
          clear hq hC2
          go_quiet (fail)
          simp only [← ebad]
          go_wp2_with (fail)
          go_meet
          exact ⟨rfl, below_drewN (Below.refl _ _) _⟩
      case rest =>
      obtain ⟨rfl, hbc⟩ := hcut
      obtain ⟨w7, ew7⟩ : ∃ w7 : World, w7 = wc := ⟨_, rfl⟩
      rw [← ew7] at hbc ⊢
      clear ew7
      have HB7 := Lib.hid (HB6.out.trans (hbc.mono HB6.out.size))
      have HB57 := Lib.hid (HB56.out.trans (hbc.mono hs6))
      have hs7 := hbc.size
      clear hbc q0 q1 q2
      obtain ⟨q0, q1, q2⟩ := HQ.out w7 HB57.out
      have hg7 : g < w7.heap.size := by omega
      have HBAD := Lib.hid (show bad = false → ∀ a, 0 < i → L[i - 1]? = some a → a.r < 2 → LdL a x from fun h a h0 ha ha2 => by
        rw [h, ha, decide_eq_true h0, Bool.true_and] at ebad
        exact ru_not_le HRU.out ha2 ebad.symm)
      clear ebad
      cases bad
      case true =>
        go_wp2_with (fail)
        go_ret
        exact LdFP.no (by decide) HB7.out
      have HLD := Lib.hid (HBAD.out rfl)
      clear HBAD
      by_cases hm0 : m = 0
      case pos =>
        have hm0I : (m : Int) = 0 := by omega
        go_wp2_with (fail)
        go_ret
        exact LdFP.no (by decide) HB7.out
      have hm0I : ¬ (m : Int) = 0 := by omega
      have hm10 : ¬ (10 : Int) < m := by omega
      go_wp2_with (fail)
      go_loopw [49] (fun s wx => ∃ (k : Nat), k ≤ m ∧ s = .int .i64 (k : Int) ∧ Below w.heap.size w wx ∧ Below w5.heap.size w5 wx ∧ Hid (UpTo RgR RgL x.g k)) (fun s _ => m - (intOf s).toNat)
      case atStart => exact ⟨0, by omega, rfl, HB7.out, HB57.out, Lib.hid UpTo.nil⟩
      case round =>
        obtain ⟨k, hkm, rfl, hbk, hbk5, HRK⟩ := hrel
        have hsk := hbk5.size
        have HBK := Lib.hid hbk
        have HB5K := Lib.hid hbk5
        clear hbk hbk5 q0 q1 q2
        by_cases hkl : k < m
        · have hklI : (k : Int) < m := by omega
          obtain ⟨y, hy⟩ : ∃ y, x.g[k]? = some y := ⟨_, List.getElem?_eq_getElem (by have := HEM.out; omega)⟩
          obtain ⟨gb, go, exa, hgb, hD⟩ := (HRX.out.below HBK.out).posR rgC_len (by omega) (by have := HEM.out; omega)
          subst exa
          have d0 : wr.cell? ⟨gb, go + k * 2, none⟩ = some (.int .i64 y.1) := rec_cell rgC_len hD k y hy 0 _ rfl
          have d1 := rec_cell rgC_len hD k y hy 1 _ rfl
          have HPY := Lib.hid hy
          have hgb' : gb < wr.heap.size := by have := HBK.out.size; omega
          clear hy hD
          obtain ⟨y1, ey1⟩ : ∃ a, a = y.1 := ⟨_, rfl⟩
          rw [← ey1] at d0
          have HY1 := Lib.hid ey1.symm
          clear ey1
          go_upto_region 17 with (fail)
          obtain ⟨h, eh⟩ : ∃ g, g = wr.heap.size := ⟨_, rfl⟩
          obtain ⟨w8, e8⟩ : ∃ w5, w5 = wr.alloc (.cells #[.int .i64 y1, .string (tmT y.2)] 62) := ⟨_, rfl⟩
          rw [← eh, ← e8]
          have hh8 : w8.heap[h]? = some (.cells #[.int .i64 y1, .string (tmT y.2)] 62 (0, 0)) := by rw [e8, eh]; exact heap_new wr _
          have hb8 : Below wr.heap.size wr w8 := by rw [e8]; exact (Below.refl _ _).alloc (Nat.le_refl _) _
          have HB8 := Lib.hid (HBK.out.trans (hb8.mono HBK.out.size))
          have HB58 := Lib.hid (HB5K.out.trans (hb8.mono HB5K.out.size))
          have hh8l : h < w8.heap.size := by rw [e8, eh]; simp
          have hs8 := hb8.size
          have r0 : w8.cell? ⟨h, 0, none⟩ = some (.int .i64 y1) := cell_of_blk (j := 0) hh8 rfl
          have HH8 := Lib.hid hh8
          clear eh e8 hh8 hb8 d0 d1
          obtain ⟨q0, q1, q2⟩ := HQ.out w8 HB58.out
          have hg8 : g < w8.heap.size := by omega
          go_wp2_with (fail)
          refine (inR_any _ _ _ _).mono ?_
          rintro e w' ⟨rfl, rfl⟩
          by_cases hk : 0 ≤ y1 ∧ y1 ≤ 2592000000
          case neg =>
            rw [decide_eq_false hk]
            clear hk
            go_wp2_with (fail)
            go_ret
            exact LdFP.no (by decide) HB8.out
          rw [decide_eq_true hk]
          have HK := Lib.hid hk
          clear hk
          go_upto_region 19 with (fail)
          obtain ⟨bad, ebad⟩ : ∃ bad : Bool, bad = (decide (0 < k) && match x.g[k - 1]? with | some q => decide (y1 ≤ q.1) | none => false) := ⟨_, rfl⟩
          go_cut [59] (fun s wx => s = .bool bad ∧ Below w8.heap.size w8 wx)
          case first =>
            by_cases hi0 : k = 0
            · subst hi0
              have hd : decide ((0 : Int) < 0) = false := by decide
              have hbad : bad = false := by rw [ebad]; rfl
              clear ebad
              subst hbad
              go_quiet (fail)
              go_wp2_with (fail)
              go_meet
              exact ⟨rfl, below_drewN (Below.refl _ _) _⟩
            · have hi1I : (0 : Int) < k := by omega
              have hd : decide ((0 : Int) < k) = true := by simpa using hi1I
              have hd2 : decide (0 < k) = true := by simp; omega
              have hd3 : 0 < k := by omega
              obtain ⟨q, hq⟩ : ∃ q, x.g[k - 1]? = some q := ⟨_, List.getElem?_eq_getElem (by have := HEM.out; omega)⟩
              obtain ⟨b2, o2, e2, hb2, hC2⟩ := (HRX.out.below HB8.out).posR rgC_len (by omega) (by have := HEM.out; omega)
              cases e2
              have p0 : w8.cell? ⟨gb, go + (k - 1) * 2, none⟩ = some (.int .i64 q.1) := rec_cell rgC_len hC2 (k - 1) q hq 0 _ rfl
              have hwrap : (k : Int) - 1 = ((k - 1 : Nat) : Int) := by omega
              have hwr : IntKind.i64.wrap ((k - 1 : Nat) : Int) = ((k - 1 : Nat) : Int) := by rw [IntKind.wrap_i64]; omega
              have hxI : ((k - 1 : Nat) : Int) < (m : Int) := by omega
              have hxN : k - 1 < m := by omega
              rw [hq, hd2, Bool.true_and] at ebad
              simp only at ebad
              have hgb8 : gb < w8.heap.size := by omega
              clear hq hC2
              go_quiet (fail)
              simp only [← ebad]
              go_wp2_with (fail)
              go_meet
              exact ⟨rfl, below_drewN (Below.refl _ _) _⟩
          case rest =>
          obtain ⟨rfl, hbc⟩ := hcut
          obtain ⟨w9, ew9⟩ : ∃ w9 : World, w9 = wc := ⟨_, rfl⟩
          rw [← ew9] at hbc ⊢
          clear ew9
          have HB9 := Lib.hid (HB8.out.trans (hbc.mono HB8.out.size))
          have HB59 := Lib.hid (HB58.out.trans (hbc.mono HB58.out.size))
          have hs9 := hbc.size
          have r1 : w9.cell? ⟨h, 1, none⟩ = some (.string (tmT y.2)) := cell_of_blk (j := 1) ((hbc.block h hh8l).trans HH8.out) rfl
          have hh9l : h < w9.heap.size := by omega
          clear hbc q0 q1 q2
          have HBAD := Lib.hid (show bad = false → ∀ a, 0 < k → x.g[k - 1]? = some a → RgL a y from fun h a h0 ha => by
            rw [h, ha, decide_eq_true h0, Bool.true_and] at ebad
            have := HY1.out
            have h2 := of_decide_eq_false ebad.symm
            unfold RgL
            omega)
          clear ebad
          cases bad
          case true =>
            go_wp2_with (fail)
            go_ret
            exact LdFP.no (by decide) HB9.out
          have HRG := Lib.hid (HBAD.out rfl)
          clear HBAD
          go_wp2_with (fail)
          refine (rkey_tm y.2 _).mono ?_
          rintro e w10 ⟨t2, rfl, ht2, hb10⟩
          have HB10 := Lib.hid (HB9.out.trans (hb10.mono HB9.out.size))
          have HB510 := Lib.hid (HB59.out.trans (hb10.mono HB59.out.size))
          clear hb10
          cases t2
          case false =>
            go_wp2_with (fail)
            go_ret
            exact LdFP.no (by decide) HB10.out
          have HNX := Lib.hid (show UpTo RgR RgL x.g (k + 1) from HRK.out.step HPY.out ⟨by have := HY1.out; have := HK.out; omega, ht2 rfl⟩ HRG.out)
          clear ht2
          go_wp2_with (fail)
          go_roundw
          case rel => exact ⟨k + 1, by omega, by go_num, HB10.out, HB510.out, HNX⟩
          case measure => simp [intOf]; omega
        · have hklI : ¬ (k : Int) < m := by omega
          obtain rfl : k = m := by omega
          obtain ⟨q0, q1, q2⟩ := HQ.out wr HB5K.out
          have hgr : g < wr.heap.size := by omega
          have HGG := Lib.hid (show UpTo RgR RgL x.g x.g.length from by rw [HEM.out]; exact HRK.out)
          by_cases hev : xe = 0
          · have hevb : (xe != 0) = false := by simpa using hev
            have HNX := Lib.hid (show UpTo LdR LdL L (i + 1) from HOK.out.step HP.out ⟨HRU.out, ⟨by have := HEM.out; omega, by have := HEM.out; omega⟩, HGG.out, .inl (by have := HEV.out; omega)⟩ (fun a h0 ha => HLD.out a h0 ha (HOK.out.1 (i - 1) a (by omega) ha).r))
            clear hev
            go_wp2_with (fail)
            go_roundw
            case rel => exact ⟨i + 1, by omega, by go_num, HBK.out, HNX⟩
            case measure => simp [intOf]; omega
          · have hevb : (xe != 0) = true := by simpa using hev
            clear hev
            go_wp2_with (fail)
            refine (inR_any _ _ _ _).mono ?_
            rintro e w' ⟨rfl, rfl⟩
            by_cases hk : 1000 ≤ xe ∧ xe ≤ 2592000000
            case neg =>
              rw [decide_eq_false hk]
              clear hk
              go_wp2_with (fail)
              go_ret
              exact LdFP.no (by decide) HBK.out
            rw [decide_eq_true hk]
            have HNX := Lib.hid (show UpTo LdR LdL L (i + 1) from HOK.out.step HP.out ⟨HRU.out, ⟨by have := HEM.out; omega, by have := HEM.out; omega⟩, HGG.out, .inr (by have := HEV.out; omega)⟩ (fun a h0 ha => HLD.out a h0 ha (HOK.out.1 (i - 1) a (by omega) ha).r))
            clear hk
            go_wp2_with (fail)
            go_roundw
            case rel => exact ⟨i + 1, by omega, by go_num, HBK.out, HNX⟩
            case measure => simp [intOf]; omega
    · have hltI : ¬ (i : Int) < n := by omega
      have hin' : i = n := by omega
      subst hin'
      go_wp2_with (fail)
      go_ret
      exact ⟨0, rfl, fun _ => by unfold LdsOk; rw [HN.out]; exact HOK.out, HB.out⟩
end Go.Proofs.YtgdnedhcbjonkaaGreatDoor

/- alarm.CheckLadders of right ladders: nothing is wrong. Printed by gen_LdX.py. -/
namespace Go.Proofs.YtgdnedhcbjonkaaGreatDoor
open Go.RowKit Go.Shelf Go.Sort

set_option maxRecDepth 100000 in
set_option maxHeartbeats 4000000 in
theorem checkLadders_any (L : List Ld) (n c : Nat) (A : Option Addr) (w : World) (hn : L.length = n) (hn2 : n ≤ 100) (hr : Row w w.heap.size A (recs ldC L)) (hr2 : ∀ x ∈ L, Row w w.heap.size x.A (recs rgC x.g)) (hg : LdsOk L) :
    Calls Tryz.prog 56 #[.slice A n c] w fun e w' => e = .returned (.int .i64 0) ∧ Below w.heap.size w w' := by
  have HR := Lib.hid hr
  have HR2 := Lib.hid hr2
  have HN := Lib.hid hn
  have HG := Lib.hid hg
  have hnI2 : ¬ (100 : Int) < n := by omega
  clear hr hr2 hn hg
  go_enter Tryz.func56, Tryz.ntmps56
  go_wp2_with (fail)
  go_loopw [12] (fun s wr => ∃ (i : Nat), i ≤ n ∧ s = .int .i64 (i : Int) ∧ Below w.heap.size w wr) (fun s _ => n - (intOf s).toNat)
  case atStart => exact ⟨0, by omega, rfl, Below.refl _ _⟩
  case round =>
    obtain ⟨i, hin, rfl, hbr⟩ := hrel
    have hbs := hbr.size
    have HB := Lib.hid hbr
    clear hbr
    by_cases hlt : i < n
    · have hltI : (i : Int) < n := by omega
      obtain ⟨x, hx⟩ : ∃ x, L[i]? = some x := ⟨_, List.getElem?_eq_getElem (by have := HN.out; omega)⟩
      obtain ⟨b, o, rfl, hb, hC⟩ := (HR.out.below HB.out).posR ldC_len (by omega) (by have := HN.out; omega)
      have HX := Lib.hid (HG.out.1 i x (by have := HN.out; omega) hx)
      have HRX := Lib.hid (HR2.out x (List.mem_of_getElem? hx))
      have c0 : wr.cell? ⟨b, o + i * 3, none⟩ = some (.string (ruT x.r)) := rec_cell ldC_len hC i x hx 0 _ rfl
      have c1 := rec_cell ldC_len hC i x hx 1 _ rfl
      have c2 := rec_cell ldC_len hC i x hx 2 _ rfl
      have HP := Lib.hid hx
      have hb' : b < wr.heap.size := by omega
      obtain ⟨xa, exa⟩ : ∃ a, a = x.A := ⟨_, rfl⟩
      obtain ⟨m, em⟩ : ∃ m, m = x.g.length := ⟨_, rfl⟩
      obtain ⟨xc, exc⟩ : ∃ a, a = x.c := ⟨_, rfl⟩
      obtain ⟨xe, exe⟩ : ∃ a, a = x.ev := ⟨_, rfl⟩
      rw [← exa, ← em, ← exc] at c1
      rw [← exe] at c2
      have HEM := Lib.hid em.symm
      have HEV := Lib.hid exe.symm
      rw [← exa] at HRX
      have hm4 : m ≤ 10 := by have := HX.out.n; omega
      clear hx hC exa em exc exe
      go_upto_region 6 with (fail)
      obtain ⟨g, eg⟩ : ∃ g, g = wr.heap.size := ⟨_, rfl⟩
      obtain ⟨w5, e5⟩ : ∃ w5, w5 = wr.alloc (.cells #[.string (ruT x.r), .slice xa m xc, .int .i64 xe] 59) := ⟨_, rfl⟩
      rw [← eg, ← e5]
      have hg5 : w5.heap[g]? = some (.cells #[.string (ruT x.r), .slice xa m xc, .int .i64 xe] 59 (0, 0)) := by rw [e5, eg]; exact heap_new wr _
      have HB5 := Lib.hid (show Below w.heap.size w w5 from by rw [e5]; exact HB.out.alloc hbs _)
      have hlt5 : g < w5.heap.size := by rw [e5, eg]; simp
      have hbs5 := HB5.out.size
      have HQ := Lib.hid (fun (V : World) (hV : Below w5.heap.size w5 V) => show V.cell? ⟨g, 0, none⟩ = some (.string (ruT x.r)) ∧ V.cell? ⟨g, 1, none⟩ = some (.slice xa m xc) ∧ V.cell? ⟨g, 2, none⟩ = some (.int .i64 xe) from
        ⟨cell_of_blk (j := 0) ((hV.block g hlt5).trans hg5) rfl, cell_of_blk (j := 1) ((hV.block g hlt5).trans hg5) rfl, cell_of_blk (j := 2) ((hV.block g hlt5).trans hg5) rfl⟩)
      obtain ⟨q0, q1, q2⟩ := HQ.out w5 (Below.refl _ _)
      clear eg e5 hg5 c0 c1 c2
      go_wp2_with (fail)
      refine (key_ru x.r HX.out.r _).mono ?_
      rintro e w6 ⟨rfl, rfl⟩
      have hb6 := Below.refl w5.heap.size w5
      obtain ⟨w6, ew6⟩ : ∃ w6, w6 = w5 := ⟨_, rfl⟩
      rw [← ew6] at hb6 ⊢
      replace hb6 : Below w5.heap.size w5 w6 := by rw [ew6]; exact Below.refl _ _
      clear ew6
      have HB6 := Lib.hid (HB5.out.trans (hb6.mono hbs5))
      have HB56 := Lib.hid hb6
      have hs6 := hb6.size
      clear hb6 q0 q1 q2
      obtain ⟨q0, q1, q2⟩ := HQ.out w6 HB56.out
      have hg6 : g < w6.heap.size := by omega
      go_upto_region 8 with (fail)
      have HREST : ∀ (fr : Act) (V : World), Below w6.heap.size w6 V → True := fun _ _ _ => trivial
      clear HREST
      obtain ⟨bad, ebad⟩ : ∃ bad : Bool, bad = (decide (0 < i) && match L[i - 1]? with | some q => (Op.bytesLess (ruT x.r).toList (ruT q.r).toList || (ruT x.r).toList == (ruT q.r).toList) | none => false) := ⟨_, rfl⟩
      go_cut [22] (fun s wx => s = .bool bad ∧ Below w6.heap.size w6 wx)
      case first =>
        by_cases hi0 : i = 0
        · subst hi0
          have hd : decide ((0 : Int) < 0) = false := by decide
          have hbad : bad = false := by rw [ebad]; rfl
          clear ebad
          subst hbad
          go_quiet (fail)
          go_wp2_with (fail)
          go_meet
          exact ⟨rfl, below_drewN (Below.refl _ _) _⟩
        · have hi1I : (0 : Int) < i := by omega
          have hd : decide ((0 : Int) < i) = true := by simpa using hi1I
          have hd2 : decide (0 < i) = true := by simp; omega
          have hd3 : 0 < i := by omega
          obtain ⟨q, hq⟩ : ∃ q, L[i - 1]? = some q := ⟨_, List.getElem?_eq_getElem (by have := HN.out; omega)⟩
          obtain ⟨b2, o2, e2, hb2, hC2⟩ := (HR.out.below HB6.out).posR ldC_len (by omega) (by have := HN.out; omega)
          cases e2
          have p0 : w6.cell? ⟨b, o + (i - 1) * 3, none⟩ = some (.string (ruT q.r)) := rec_cell ldC_len hC2 (i - 1) q hq 0 _ rfl
          have hwrap : (i : Int) - 1 = ((i - 1 : Nat) : Int) := by omega
          have hwr : IntKind.i64.wrap ((i - 1 : Nat) : Int) = ((i - 1 : Nat) : Int) := by rw [IntKind.wrap_i64]; omega
          have hxI : ((i - 1 : Nat) : Int) < (n : Int) := by omega
          have hxN : i - 1 < n := by omega
          rw [hq, hd2, Bool.true_and] at ebad
          simp only at ebad
          have hb6' : b < w6.heap.size := by omega
          clear hq hC2
          go_quiet (fail)
          simp only [← ebad]
          go_wp2_with (fail)
          go_meet
          exact ⟨rfl, below_drewN (Below.refl _ _) _⟩
      case rest =>
      obtain ⟨rfl, hbc⟩ := hcut
      obtain ⟨w7, ew7⟩ : ∃ w7 : World, w7 = wc := ⟨_, rfl⟩
      rw [← ew7] at hbc ⊢
      clear ew7
      have HB7 := Lib.hid (HB6.out.trans (hbc.mono HB6.out.size))
      have HB57 := Lib.hid (HB56.out.trans (hbc.mono hs6))
      have hs7 := hbc.size
      clear hbc q0 q1 q2
      obtain ⟨q0, q1, q2⟩ := HQ.out w7 HB57.out
      have hg7 : g < w7.heap.size := by omega
      have hbad : bad = false := by
        by_cases hi0 : i = 0
        · subst hi0; rw [ebad]; rfl
        · obtain ⟨q, hq⟩ : ∃ q, L[i - 1]? = some q := ⟨_, List.getElem?_eq_getElem (by have := HN.out; omega)⟩
          rw [ebad, hq]
          have h1 := HG.out.2 (i - 1) q x (by have := HN.out; omega) hq (by rw [show i - 1 + 1 = i by omega]; exact HP.out)
          simp only
          rw [ru_le_no HX.out.r h1, Bool.and_false]
      subst hbad
      clear ebad
      have hm0 : ¬ m = 0 := by have := HX.out.n; have := HEM.out; omega
      have hm0I : ¬ (m : Int) = 0 := by omega
      have hm10 : ¬ (10 : Int) < m := by omega
      go_wp2_with (fail)
      go_loopw [49] (fun s wx => ∃ (k : Nat), k ≤ m ∧ s = .int .i64 (k : Int) ∧ Below w.heap.size w wx ∧ Below w5.heap.size w5 wx) (fun s _ => m - (intOf s).toNat)
      case atStart => exact ⟨0, by omega, rfl, HB7.out, HB57.out⟩
      case round =>
        obtain ⟨k, hkm, rfl, hbk, hbk5⟩ := hrel
        have hsk := hbk5.size
        have HBK := Lib.hid hbk
        have HB5K := Lib.hid hbk5
        clear hbk hbk5 q0 q1 q2
        by_cases hkl : k < m
        · have hklI : (k : Int) < m := by omega
          obtain ⟨y, hy⟩ : ∃ y, x.g[k]? = some y := ⟨_, List.getElem?_eq_getElem (by have := HEM.out; omega)⟩
          obtain ⟨gb, go, exa, hgb, hD⟩ := (HRX.out.below HBK.out).posR rgC_len (by omega) (by have := HEM.out; omega)
          subst exa
          have d0 : wr.cell? ⟨gb, go + k * 2, none⟩ = some (.int .i64 y.1) := rec_cell rgC_len hD k y hy 0 _ rfl
          have d1 := rec_cell rgC_len hD k y hy 1 _ rfl
          have HY := Lib.hid (HX.out.g.1 k y (by have := HEM.out; omega) hy)
          have HPY := Lib.hid hy
          have hgb' : gb < wr.heap.size := by have := HBK.out.size; omega
          clear hy hD
          obtain ⟨y1, ey1⟩ : ∃ a, a = y.1 := ⟨_, rfl⟩
          rw [← ey1] at d0
          have HY1 := Lib.hid ey1.symm
          clear ey1
          go_upto_region 17 with (fail)
          obtain ⟨h, eh⟩ : ∃ g, g = wr.heap.size := ⟨_, rfl⟩
          obtain ⟨w8, e8⟩ : ∃ w5, w5 = wr.alloc (.cells #[.int .i64 y1, .string (tmT y.2)] 62) := ⟨_, rfl⟩
          rw [← eh, ← e8]
          have hh8 : w8.heap[h]? = some (.cells #[.int .i64 y1, .string (tmT y.2)] 62 (0, 0)) := by rw [e8, eh]; exact heap_new wr _
          have hb8 : Below wr.heap.size wr w8 := by rw [e8]; exact (Below.refl _ _).alloc (Nat.le_refl _) _
          have HB8 := Lib.hid (HBK.out.trans (hb8.mono HBK.out.size))
          have HB58 := Lib.hid (HB5K.out.trans (hb8.mono HB5K.out.size))
          have hh8l : h < w8.heap.size := by rw [e8, eh]; simp
          have hs8 := hb8.size
          have r0 : w8.cell? ⟨h, 0, none⟩ = some (.int .i64 y1) := cell_of_blk (j := 0) hh8 rfl
          have HH8 := Lib.hid hh8
          clear eh e8 hh8 hb8 d0 d1
          obtain ⟨q0, q1, q2⟩ := HQ.out w8 HB58.out
          have hg8 : g < w8.heap.size := by omega
          have HK := Lib.hid (show 0 ≤ y1 ∧ y1 ≤ 2592000000 from by rw [← HY1.out]; exact HY.out.a)
          go_upto_region 19 with (go_at_call 74; refine (out_no _ _ _ _ HK.out.1 HK.out.2).mono ?_; rintro e w' ⟨rfl, rfl⟩)
          obtain ⟨bad, ebad⟩ : ∃ bad : Bool, bad = (decide (0 < k) && match x.g[k - 1]? with | some q => decide (y1 ≤ q.1) | none => false) := ⟨_, rfl⟩
          go_cut [58] (fun s wx => s = .bool bad ∧ Below w8.heap.size w8 wx)
          case first =>
            by_cases hi0 : k = 0
            · subst hi0
              have hd : decide ((0 : Int) < 0) = false := by decide
              have hbad : bad = false := by rw [ebad]; rfl
              clear ebad
              subst hbad
              go_quiet (fail)
              go_wp2_with (fail)
              go_meet
              exact ⟨rfl, below_drewN (Below.refl _ _) _⟩
            · have hi1I : (0 : Int) < k := by omega
              have hd : decide ((0 : Int) < k) = true := by simpa using hi1I
              have hd2 : decide (0 < k) = true := by simp; omega
              have hd3 : 0 < k := by omega
              obtain ⟨q, hq⟩ : ∃ q, x.g[k - 1]? = some q := ⟨_, List.getElem?_eq_getElem (by have := HEM.out; omega)⟩
              obtain ⟨b2, o2, e2, hb2, hC2⟩ := (HRX.out.below HB8.out).posR rgC_len (by omega) (by have := HEM.out; omega)
              cases e2
              have p0 : w8.cell? ⟨gb, go + (k - 1) * 2, none⟩ = some (.int .i64 q.1) := rec_cell rgC_len hC2 (k - 1) q hq 0 _ rfl
              have hwrap : (k : Int) - 1 = ((k - 1 : Nat) : Int) := by omega
              have hwr : IntKind.i64.wrap ((k - 1 : Nat) : Int) = ((k - 1 : Nat) : Int) := by rw [IntKind.wrap_i64]; omega
              have hxI : ((k - 1 : Nat) : Int) < (m : Int) := by omega
              have hxN : k - 1 < m := by omega
              rw [hq, hd2, Bool.true_and] at ebad
              simp only at ebad
              have hgb8 : gb < w8.heap.size := by omega
              clear hq hC2
              go_quiet (fail)
              simp only [← ebad]
              go_wp2_with (fail)
              go_meet
              exact ⟨rfl, below_drewN (Below.refl _ _) _⟩
          case rest =>
          obtain ⟨rfl, hbc⟩ := hcut
          obtain ⟨w9, ew9⟩ : ∃ w9 : World, w9 = wc := ⟨_, rfl⟩
          rw [← ew9] at hbc ⊢
          clear ew9
          have HB9 := Lib.hid (HB8.out.trans (hbc.mono HB8.out.size))
          have HB59 := Lib.hid (HB58.out.trans (hbc.mono HB58.out.size))
          have hs9 := hbc.size
          have r1 : w9.cell? ⟨h, 1, none⟩ = some (.string (tmT y.2)) := cell_of_blk (j := 1) ((hbc.block h hh8l).trans HH8.out) rfl
          have hh9l : h < w9.heap.size := by omega
          clear hbc q0 q1 q2
          have hbad : bad = false := by
            by_cases hi0 : k = 0
            · subst hi0; rw [ebad]; rfl
            · obtain ⟨q, hq⟩ : ∃ q, x.g[k - 1]? = some q := ⟨_, List.getElem?_eq_getElem (by have := HEM.out; omega)⟩
              rw [ebad, hq]
              have h1 := HX.out.g.2 (k - 1) q y (by have := HEM.out; omega) hq (by rw [show k - 1 + 1 = k by omega]; exact HPY.out)
              have h2 := HY1.out
              unfold RgL at h1
              simp only
              rw [decide_eq_false (show ¬ y1 ≤ q.1 by omega), Bool.and_false]
          subst hbad
          clear ebad
          go_wp2_with (fail)
          refine (key_tm y.2 HY.out.t _).mono ?_
          rintro e w10 ⟨rfl, rfl⟩
          go_wp2_with (fail)
          go_roundw
          case rel => exact ⟨k + 1, by omega, by go_num, HB9.out, HB59.out⟩
          case measure => simp [intOf]; omega
        · have hklI : ¬ (k : Int) < m := by omega
          obtain rfl : k = m := by omega
          obtain ⟨q0, q1, q2⟩ := HQ.out wr HB5K.out
          have hgr : g < wr.heap.size := by omega
          by_cases hev : xe = 0
          · have hevb : (xe != 0) = false := by simpa using hev
            clear hev
            go_wp2_with (fail)
            go_roundw
            case rel => exact ⟨i + 1, by omega, by go_num, HBK.out⟩
            case measure => simp [intOf]; omega
          · have hevb : (xe != 0) = true := by simpa using hev
            have hev2 : 1000 ≤ xe ∧ xe ≤ 2592000000 := by have := HX.out.ev; have := HEV.out; omega
            clear hev
            go_wp2_with (go_at_call 74; refine (out_no _ _ _ _ hev2.1 hev2.2).mono ?_; rintro e w' ⟨rfl, rfl⟩)
            go_roundw
            case rel => exact ⟨i + 1, by omega, by go_num, HBK.out⟩
            case measure => simp [intOf]; omega
    · have hltI : ¬ (i : Int) < n := by omega
      have hin' : i = n := by omega
      subst hin'
      go_wp2_with (fail)
      go_ret
      exact ⟨rfl, HB.out⟩
end Go.Proofs.YtgdnedhcbjonkaaGreatDoor

/- alarm.onCall, OnCall, (*life).free; IndexFunc of ladders; base.Window of a window: by their contracts. -/
namespace Go.Proofs.YtgdnedhcbjonkaaGreatDoor
open Go.RowKit Go.Shelf Go.Sort

theorem windowN_yes (a b : Int) (w : World) (h1 : 0 ≤ a) (h2 : a ≤ b) (h3 : b ≤ 345686400000) : Calls Tryz.prog 58 #[.agg #[.int .i64 a, .int .i64 b]] w fun e w' => e = .returned (.bool true) ∧ Below w.heap.size w w' := by
  go_enter Tryz.func58, Tryz.ntmps58
  go_wp2_with (go_at_call 74; refine (out_no _ _ _ _ (by omega) (by omega)).mono ?_; rintro e w' ⟨rfl, rfl⟩)
  go_ret
  exact ⟨rfl, (Below.refl _ _).alloc (Nat.le_refl _) _⟩
set_option maxRecDepth 100000 in
set_option maxHeartbeats 2000000 in
theorem onC_any (L : List Sf) (n c t : Nat) (m : Int) (A : Option Addr) (w : World) (hn : L.length = n) (hn2 : n ≤ 1000) (hr : Row w w.heap.size A (recs sfC L)) :
    Calls Tryz.prog 161 #[.slice A n c, .string (tmT t), .int .i64 m] w fun e w' => e = .returned (.string (alwT (ocP L t m))) ∧ Below w.heap.size w w' := by
  have HR := Lib.hid hr
  have HN := Lib.hid hn
  clear hr hn
  go_enter Tryz.func161, Tryz.ntmps161
  go_wp2_with (fail)
  go_loopw [11] (fun s wr => ∃ (i : Nat), i ≤ n ∧ s = .int .i64 (i : Int) ∧ Below w.heap.size w wr ∧ Hid (ocP L t m = ocP (L.drop i) t m)) (fun s _ => n - (intOf s).toNat)
  case atStart => exact ⟨0, by omega, rfl, Below.refl _ _, Lib.hid rfl⟩
  case round =>
    obtain ⟨i, hin, rfl, hbr, HK⟩ := hrel
    have hbs := hbr.size
    have HB := Lib.hid hbr
    clear hbr
    by_cases hlt : i < n
    · have hltI : (i : Int) < n := by omega
      obtain ⟨x, hx⟩ : ∃ x, L[i]? = some x := ⟨_, List.getElem?_eq_getElem (by have := HN.out; omega)⟩
      obtain ⟨b, o, rfl, hb, hC⟩ := (HR.out.below HB.out).posR sfC_len (by omega) (by have := HN.out; omega)
      obtain ⟨c0, c1, c2, c3⟩ := sf_cells hC i x hx
      have hD : L.drop i = x :: L.drop (i + 1) := by
        obtain ⟨h1, rfl⟩ := List.getElem?_eq_some_iff.1 hx
        exact List.drop_eq_getElem_cons h1
      have HHIT := Lib.hid (show (tmO x.t = tmO t ∧ x.f ≤ m ∧ m < x.u) → ocP L t m = x.b from fun h => by rw [HK.out, hD]; unfold ocP; rw [if_pos h])
      have HMISS := Lib.hid (show ¬ (tmO x.t = tmO t ∧ x.f ≤ m ∧ m < x.u) → ocP L t m = ocP (L.drop (i + 1)) t m from fun h => by rw [HK.out, hD]; conv => lhs; unfold ocP; rw [if_neg h])
      have hb' : b < wr.heap.size := by omega
      clear hx hC hD
      go_upto_region 4 with (fail)
      obtain ⟨g, eg⟩ : ∃ g, g = wr.heap.size := ⟨_, rfl⟩
      obtain ⟨w5, e5⟩ : ∃ V : World, V = wr.alloc (.cells #[.string (tmT x.t), .string (alwT x.b), .int .i64 x.f, .int .i64 x.u] 73) := ⟨_, rfl⟩
      rw [← eg, ← e5]
      have hg5 : w5.heap[g]? = some (sfBk x) := by rw [e5, eg]; exact heap_new wr _
      have HB5 := Lib.hid (show Below w.heap.size w w5 from by rw [e5]; exact HB.out.alloc hbs _)
      have hlt5 : g < w5.heap.size := by rw [e5, eg]; simp
      obtain ⟨q0, q1, q2, q3⟩ := sf_blk hg5
      clear eg e5 hg5 c0 c1 c2 c3
      by_cases hte : tmO x.t = tmO t
      case neg =>
        have hst : ((tmT x.t).toList == (tmT t).toList) = false := by rw [tm_eq]; exact decide_eq_false hte
        have HK2 := Lib.hid (HMISS.out (fun h => hte h.1))
        clear hte
        go_wp2_with (fail)
        go_roundw
        case rel => exact ⟨i + 1, by omega, by go_num, HB5.out, HK2⟩
        case measure => simp [intOf]; omega
      have hst : ((tmT x.t).toList == (tmT t).toList) = true := by rw [tm_eq]; exact decide_eq_true hte
      by_cases hf : x.f ≤ m
      case neg =>
        have hf2 : decide (x.f ≤ m) = false := decide_eq_false hf
        have HK2 := Lib.hid (HMISS.out (fun h => hf h.2.1))
        clear hte
        go_wp2_with (fail)
        go_roundw
        case rel => exact ⟨i + 1, by omega, by go_num, HB5.out, HK2⟩
        case measure => simp [intOf]; omega
      have hf2 : decide (x.f ≤ m) = true := decide_eq_true hf
      by_cases hu : m < x.u
      case neg =>
        have hu2 : decide (m < x.u) = false := decide_eq_false hu
        have HK2 := Lib.hid (HMISS.out (fun h => hu h.2.2))
        clear hte
        go_wp2_with (fail)
        go_roundw
        case rel => exact ⟨i + 1, by omega, by go_num, HB5.out, HK2⟩
        case measure => simp [intOf]; omega
      have hu2 : decide (m < x.u) = true := decide_eq_true hu
      have HK2 := Lib.hid (HHIT.out ⟨hte, hf, hu⟩)
      clear hte
      go_wp2_with (fail)
      go_ret
      exact ⟨by rw [HK2.out]; rfl, HB5.out⟩
    · have hltI : ¬ (i : Int) < n := by omega
      have hin' : i = n := by omega
      subst hin'
      have HE := Lib.hid (show ocP L t m = 0 from by rw [HK.out, ← HN.out, List.drop_length]; rfl)
      go_wp2_with (fail)
      go_ret
      exact ⟨by rw [HE.out]; rfl, HB.out⟩
/-- The end of the time in which an alarm is shelved. -/
def freP : List (Int × Int) → Int → Int
  | [], m => m
  | w :: l, m => if w.1 ≤ m ∧ m < w.2 then w.2 else freP l m
theorem freP_ge : ∀ (l : List (Int × Int)) (m : Int), m ≤ freP l m
  | [], m => Int.le_refl _
  | w :: l, m => by
    unfold freP
    split
    · rename_i h; omega
    · exact freP_ge l m
theorem freP_out : ∀ (l : List (Int × Int)) (m : Int), freP l m = m → ∀ a ∈ l, ¬ (a.1 ≤ m ∧ m < a.2)
  | [], m, _, a, h => by cases h
  | w :: l, m, e, a, h => by
    unfold freP at e
    split at e
    · rename_i hw; omega
    · rename_i hw
      rcases List.mem_cons.1 h with rfl | h
      · exact hw
      · exact freP_out l m e a h
theorem freP_bound : ∀ (l : List (Int × Int)) (m q : Int), (∀ a ∈ l, a.2 ≤ q) → m ≤ q → freP l m ≤ q
  | [], m, q, _, h => h
  | w :: l, m, q, hl, h => by
    unfold freP
    split
    · exact hl w List.mem_cons_self
    · exact freP_bound l m q (fun a ha => hl a (List.mem_cons_of_mem _ ha)) h
set_option maxRecDepth 100000 in
set_option maxHeartbeats 2000000 in
theorem free_any (x : Nat) (L : Lf) (v : Nat → Value) (m : Int) (w : World) (h : LfI w x L v) (hn2 : L.as_.length ≤ 1000) :
    Calls Tryz.prog 102 #[.pointer (some ⟨x, 0, none⟩), .int .i64 m] w fun e w' => e = .returned (.int .i64 (freP L.as_ m)) ∧ Below w.heap.size w w' := by
  have hx := h.lt
  obtain ⟨A, c, hv⟩ := own_slice (h.row 3 (by omega))
  have c8 : w.cell? ⟨x, 8, none⟩ = some (v 3) := cell_of_blk (j := 8) h.blk rfl
  rw [hv] at c8
  have hr : Row w w.heap.size A (recs alW L.as_) := own_row (hv ▸ h.row 3 (by omega))
  replace c8 : w.cell? ⟨x, 8, none⟩ = some (.slice A L.as_.length c) := c8
  obtain ⟨n, en⟩ : ∃ n, n = L.as_.length := ⟨_, rfl⟩
  obtain ⟨K, eK⟩ : ∃ K, K = L.as_ := ⟨_, rfl⟩
  rw [← eK] at en hr ⊢
  rw [← eK, ← en] at hn2 c8
  have HR := Lib.hid hr
  have HN := Lib.hid en.symm
  clear hv hr en eK h
  go_enter Tryz.func102, Tryz.ntmps102
  go_wp2_with (fail)
  go_loopw [12] (fun s wr => ∃ (i : Nat), i ≤ n ∧ s = .int .i64 (i : Int) ∧ Below w.heap.size w wr ∧ Hid (freP K m = freP (K.drop i) m)) (fun s _ => n - (intOf s).toNat)
  case atStart => exact ⟨0, by omega, rfl, Below.refl _ _, Lib.hid rfl⟩
  case round =>
    obtain ⟨i, hin, rfl, hbr, HK⟩ := hrel
    have hbs := hbr.size
    have HB := Lib.hid hbr
    clear hbr
    by_cases hlt : i < n
    · have hltI : (i : Int) < n := by omega
      obtain ⟨u, hu⟩ : ∃ u, K[i]? = some u := ⟨_, List.getElem?_eq_getElem (by have := HN.out; omega)⟩
      obtain ⟨b, o, rfl, hb, hC⟩ := (HR.out.below HB.out).posR alW_len (by omega) (by have := HN.out; omega)
      have d0 : wr.cell? ⟨b, o + i * 2, none⟩ = some (.int .i64 u.1) := rec_cell alW_len hC i u hu 0 _ rfl
      have d1 : wr.cell? ⟨b, o + i * 2 + 1, none⟩ = some (.int .i64 u.2) := rec_cell alW_len hC i u hu 1 _ rfl
      have hD : K.drop i = u :: K.drop (i + 1) := by
        obtain ⟨h1, rfl⟩ := List.getElem?_eq_some_iff.1 hu
        exact List.drop_eq_getElem_cons h1
      have HHIT := Lib.hid (show (u.1 ≤ m ∧ m < u.2) → freP K m = u.2 from fun h => by rw [HK.out, hD]; unfold freP; rw [if_pos h])
      have HMISS := Lib.hid (show ¬ (u.1 ≤ m ∧ m < u.2) → freP K m = freP (K.drop (i + 1)) m from fun h => by rw [HK.out, hD]; conv => lhs; unfold freP; rw [if_neg h])
      have hb' : b < wr.heap.size := by omega
      clear hu hC hD
      obtain ⟨u1, u2⟩ := u
      simp only at d0 d1 HHIT HMISS
      go_upto_region 4 with (fail)
      obtain ⟨g, eg⟩ : ∃ g, g = wr.heap.size := ⟨_, rfl⟩
      obtain ⟨w5, e5⟩ : ∃ V : World, V = wr.alloc (.cells #[.int .i64 u1, .int .i64 u2] 55) := ⟨_, rfl⟩
      rw [← eg, ← e5]
      have hg5 : w5.heap[g]? = some (.cells #[.int .i64 u1, .int .i64 u2] 55 (0, 0)) := by rw [e5, eg]; exact heap_new wr _
      have HB5 := Lib.hid (show Below w.heap.size w w5 from by rw [e5]; exact HB.out.alloc hbs _)
      have hlt5 : g < w5.heap.size := by rw [e5, eg]; simp
      have q0 := cell_of_blk (j := 0) hg5 rfl
      have q1 := cell_of_blk (j := 1) hg5 rfl
      clear eg e5 hg5 d0 d1
      by_cases hf : u1 ≤ m
      case neg =>
        have hf2 : decide (u1 ≤ m) = false := decide_eq_false hf
        have HK2 := Lib.hid (HMISS.out (fun h => hf h.1))
        go_wp2_with (fail)
        go_roundw
        case rel => exact ⟨i + 1, by omega, by go_num, HB5.out, HK2⟩
        case measure => simp [intOf]; omega
      have hf2 : decide (u1 ≤ m) = true := decide_eq_true hf
      by_cases hu : m < u2
      case neg =>
        have hu2 : decide (m < u2) = false := decide_eq_false hu
        have HK2 := Lib.hid (HMISS.out (fun h => hu h.2))
        go_wp2_with (fail)
        go_roundw
        case rel => exact ⟨i + 1, by omega, by go_num, HB5.out, HK2⟩
        case measure => simp [intOf]; omega
      have hu2 : decide (m < u2) = true := decide_eq_true hu
      have HK2 := Lib.hid (HHIT.out ⟨hf, hu⟩)
      go_wp2_with (fail)
      go_ret
      exact ⟨by rw [HK2.out]; rfl, HB5.out⟩
    · have hltI : ¬ (i : Int) < n := by omega
      have hin' : i = n := by omega
      subst hin'
      have HE := Lib.hid (show freP K m = m from by rw [HK.out, ← HN.out, List.drop_length]; rfl)
      go_wp2_with (fail)
      go_ret
      exact ⟨by rw [HE.out]; rfl, HB.out⟩
theorem closeN_any (y : Ld) (g x : Nat) (s : ByteArray) (w : World) (h0 : w.cell? ⟨g, 0, none⟩ = some (.pointer (some ⟨x, 0, none⟩))) (h1 : w.cell? ⟨x, 1, none⟩ = some (.string s)) (hg : g < w.heap.size) (hx : x < w.heap.size) :
    Calls Tryz.prog 61 #[.agg #[.string (ruT y.r), .slice y.A y.g.length y.c, .int .i64 y.ev], .pointer (some ⟨g, 0, none⟩)] w fun e w' => ∃ t : Bool, e = .returned (.bool t) ∧ Below w.heap.size w w' := by
  obtain ⟨n, en⟩ : ∃ n, n = y.g.length := ⟨_, rfl⟩
  rw [← en]
  clear en
  go_enter Tryz.func61, Tryz.ntmps61
  go_upto_region 1 with (fail)
  obtain ⟨w5, e5⟩ : ∃ V : World, V = w.alloc (.cells #[.string (ruT y.r), .slice y.A n y.c, .int .i64 y.ev] 59) := ⟨_, rfl⟩
  have hb5 : Below w.heap.size w w5 := by rw [e5]; exact (Below.refl _ _).alloc (Nat.le_refl _) _
  have hg5 : w5.heap[w.heap.size]? = some (.cells #[.string (ruT y.r), .slice y.A n y.c, .int .i64 y.ev] 59 (0, 0)) := by rw [e5]; exact heap_new w _
  have q0 := cell_of_blk (j := 0) hg5 rfl
  have hs5 := (Array.getElem?_eq_some_iff.1 hg5).1
  have k0 := (hb5.cell (p := ⟨g, 0, none⟩) hg).trans h0
  have k1 := (hb5.cell (p := ⟨x, 1, none⟩) hx).trans h1
  have hgl : g < w5.heap.size := by omega
  have hxl : x < w5.heap.size := by omega
  have HB := Lib.hid hb5
  rw [← e5]
  clear e5 hg5 hb5 h0 h1
  go_quiet (fail)
  go_wp2_with (fail)
  go_ret
  exact ⟨_, rfl, below_drewN HB.out _⟩
set_option maxRecDepth 100000 in
set_option maxHeartbeats 1000000 in
theorem indexL_any (L : List Ld) (n c g x : Nat) (s : ByteArray) (A : Option Addr) (w : World) (hn : L.length = n) (hn2 : n ≤ 100) (hr : Row w w.heap.size A (recs ldC L)) (h0 : w.cell? ⟨g, 0, none⟩ = some (.pointer (some ⟨x, 0, none⟩))) (h1 : w.cell? ⟨x, 1, none⟩ = some (.string s)) (hg : g < w.heap.size) (hx : x < w.heap.size) :
    Calls Tryz.prog 60 #[.slice A n c, .func (.func 61) #[] #[.pointer (some ⟨g, 0, none⟩)]] w fun e w' => ∃ z : Int, e = .returned (.int .i64 z) ∧ (z = -1 ∨ ∃ k : Nat, k < n ∧ z = (k : Int)) ∧ Below w.heap.size w w' := by
  have HR := Lib.hid hr
  have HN := Lib.hid hn
  have HF := Lib.hid (fun (y : Ld) (V : World) (hV : Below w.heap.size w V) => closeN_any y g x s V ((hV.cell (p := ⟨g, 0, none⟩) hg).trans h0) ((hV.cell (p := ⟨x, 1, none⟩) hx).trans h1) (Nat.lt_of_lt_of_le hg hV.size) (Nat.lt_of_lt_of_le hx hV.size))
  clear hr hn h0 h1
  go_enter Tryz.func60, Tryz.ntmps60
  go_wp2_with (fail)
  go_loopw [8] (fun s wr => ∃ (i : Nat), i ≤ n ∧ s = .int .i64 (i : Int) ∧ Below w.heap.size w wr) (fun s _ => n - (intOf s).toNat)
  case atStart => exact ⟨0, by omega, rfl, Below.refl _ _⟩
  case round =>
    obtain ⟨i, hin, rfl, hbr⟩ := hrel
    have hbs := hbr.size
    have HB := Lib.hid hbr
    clear hbr
    by_cases hlt : i < n
    · have hltI : (i : Int) < n := by omega
      obtain ⟨y, hy⟩ : ∃ y, L[i]? = some y := ⟨_, List.getElem?_eq_getElem (by have := HN.out; omega)⟩
      obtain ⟨b, o, rfl, hb, hC⟩ := (HR.out.below HB.out).posR ldC_len (by omega) (by have := HN.out; omega)
      have c0 : wr.cell? ⟨b, o + i * 3, none⟩ = some (.string (ruT y.r)) := rec_cell ldC_len hC i y hy 0 _ rfl
      have c1 : wr.cell? ⟨b, o + i * 3 + 1, none⟩ = some (.slice y.A y.g.length y.c) := rec_cell ldC_len hC i y hy 1 _ rfl
      have c2 : wr.cell? ⟨b, o + i * 3 + 2, none⟩ = some (.int .i64 y.ev) := rec_cell ldC_len hC i y hy 2 _ rfl
      have hb' : b < wr.heap.size := by omega
      have HCL := Lib.hid (HF.out y wr HB.out)
      obtain ⟨m, em⟩ : ∃ m, m = y.g.length := ⟨_, rfl⟩
      rw [← em] at c1 HCL
      clear hy hC em
      go_wp2_with (fail)
      refine HCL.out.mono ?_
      rintro e w2 ⟨t, rfl, hb2⟩
      have HB2 := Lib.hid (HB.out.trans (hb2.mono hbs))
      clear hb2
      cases t
      case false =>
        go_wp2_with (fail)
        go_roundw
        case rel => exact ⟨i + 1, by omega, by go_num, HB2.out⟩
        case measure => simp [intOf]; omega
      case true =>
        go_wp2_with (fail)
        go_ret
        exact ⟨(i : Int), rfl, .inr ⟨i, hlt, rfl⟩, HB2.out⟩
    · have hltI : ¬ (i : Int) < n := by omega
      have hin' : i = n := by omega
      subst hin'
      go_wp2_with (fail)
      go_ret
      exact ⟨-1, rfl, .inl rfl, HB.out⟩
end Go.Proofs.YtgdnedhcbjonkaaGreatDoor

/- (*alarm.teller).tell and full by their contracts. Printed by gen_NtT.py. -/
namespace Go.Proofs.YtgdnedhcbjonkaaGreatDoor
open Go.RowKit Go.Shelf Go.Sort

theorem Tryz.infoNt : (Tryz.prog.info? 150).map (fun i => (i.zero, i.size, i.bytes)) = some (some (.agg #[.int .i64 0, .string ⟨#[]⟩, .string ⟨#[]⟩, .string ⟨#[]⟩, .string ⟨#[]⟩, .int .i64 0]), 6, 80) := by kernel_rfl
/-- A teller in memory. -/
structure TlI (w : World) (B tb : Nat) (S : Option Addr) (sn sc : Nat) (v : Value) (N : List Nt) : Prop where
  blk : w.heap[tb]? = some (.cells #[.slice S sn sc, .int .i64 0, .int .i64 500, v] 132 (0, 0))
  row : w.ownsRow B 150 6 v N.length (recs ntC N)
/-- How a teller's memory goes on. -/
structure TlGo (tb : Nat) (W w : World) (v v' : Value) : Prop where
  gr : GrF W w (fun b => b = tb ∨ v.ownBlock = some b)
  mv : Moved W v v'
theorem TlGo.refl (tb : Nat) (w : World) (v : Value) : TlGo tb w w v v := ⟨.refl _ _, .refl _ _⟩
theorem TlGo.trans {tb : Nat} {a b c : World} {u v t : Value} (h : TlGo tb a b u v) (k : TlGo tb b c v t) : TlGo tb a c u t := by
  refine ⟨⟨k.gr.os.trans h.gr.os, k.gr.tape.trans h.gr.tape, k.gr.output.trans h.gr.output, Nat.le_trans h.gr.size k.gr.size, fun q hq hn => ?_⟩, h.mv.trans k.mv h.gr.size⟩
  refine (k.gr.block q (Nat.lt_of_lt_of_le hq h.gr.size) (fun e => ?_)).trans (h.gr.block q hq hn)
  rcases e with e | e
  · exact hn (.inl e)
  · rcases h.mv with h1 | ⟨g, h1, h2⟩
    · exact hn (.inr (h1 ▸ e))
    · rw [h1] at e
      have := Option.some.inj e
      omega
theorem TlGo.below {tb : Nat} {a b c : World} {u v : Value} (h : TlGo tb a b u v) (hb : Below b.heap.size b c) : TlGo tb a c u v :=
  ⟨h.gr.trans ⟨hb.os, hb.tape, hb.output, hb.size, fun q hq _ => hb.block q hq⟩, h.mv⟩
/-- The stages of tell's region. -/
structure KTm (W : World) (B tb : Nat) (S : Option Addr) (sn sc : Nat) (v vb vr : Value) (n : Nat) (G : List Nt) (w : World) : Prop where
  blk : w.heap[tb]? = some (.cells #[.slice S sn sc, .int .i64 0, .int .i64 500, vb] 132 (0, 0))
  row : w.ownsRow B 150 6 vr n (recs ntC G)
  gr : GrF W w (fun b => b = tb ∨ v.ownBlock = some b)
  mv : Moved W v vr
section
variable {W w w' : World} {B tb : Nat} {S : Option Addr} {sn sc : Nat} {v vb vr : Value} {n : Nat} {G : List Nt}
theorem KTm.cell3 (h : KTm W B tb S sn sc v vb vr n G w) : w.cell? ⟨tb, 3, none⟩ = some vb := cell_of_blk (j := 3) h.blk rfl
theorem KTm.cell0 (h : KTm W B tb S sn sc v vb vr n G w) : w.cell? ⟨tb, 0, none⟩ = some (.slice S sn sc) := cell_of_blk (j := 0) h.blk rfl
theorem KTm.lt (h : KTm W B tb S sn sc v vb vr n G w) : tb < w.heap.size := (Array.getElem?_eq_some_iff.1 h.blk).1
theorem KTm.fro (h : KTm W B tb S sn sc v vb vr n G w) : w.frozen? ⟨tb, 3, none⟩ = false := by simp [World.frozen?, h.blk]
theorem KTm.alloc (h : KTm W B tb S sn sc v vb vr n G w) (o : Obj) : KTm W B tb S sn sc v vb vr n G (w.alloc o) :=
  ⟨(Below.heap_alloc _ _ _ h.lt).trans h.blk, own_belowP h.row ((Below.refl _ _).alloc (Nat.le_refl _) _), h.gr.trans ⟨rfl, rfl, rfl, by simp, fun b hb _ => Below.heap_alloc _ _ _ hb⟩, h.mv⟩
theorem KTm.call (h : KTm W B tb S sn sc v vb vr n G w) (hb : Below w.heap.size w w') : KTm W B tb S sn sc v vb vr n G w' ∧ GrN W w w' :=
  ⟨⟨(hb.block tb h.lt).trans h.blk, own_belowP h.row hb, h.gr.trans ⟨hb.os, hb.tape, hb.output, hb.size, fun b hq _ => hb.block b hq⟩, h.mv⟩, hb.size, fun b _ hlt => hb.block b hlt⟩
theorem KTm.app {G' : List Nt} {u : Value} {k : Nat} (h : KTm W B tb S sn sc v vb v n G w) (ho : w'.ownsRow B 150 6 u k (recs ntC G')) (hg : w.grownBy w' v.ownBlock) (hm : Moved w v u) (hvW : ∀ b, v.ownBlock = some b → b < W.heap.size) : KTm W B tb S sn sc v vb u k G' w' ∧ GrN W w w' := by
  have hne := own_ne h.row h.blk (by decide)
  refine ⟨⟨(hg.block tb h.lt hne).trans h.blk, ho, h.gr.trans (GrF.of_grown hg _ (fun b e => .inr e)), ?_⟩, hg.size, fun b hb hlt => hg.block b hlt (fun e => by have := hvW b e.symm; omega)⟩
  rcases hm with hm | ⟨q, h1, h2⟩
  · exact .inl hm
  · exact .inr ⟨q, h1, Nat.le_trans h.gr.size h2⟩
theorem KTm.store (h : KTm W B tb S sn sc v vb vr n G w) (htW : tb < W.heap.size) : KTm W B tb S sn sc v vr vr n G (w.setCell ⟨tb, 3, none⟩ vr) ∧ GrN W w (w.setCell ⟨tb, 3, none⟩ vr) := by
  have hne := own_ne h.row h.blk (by decide)
  have hset : ∀ b, b ≠ tb → (w.setCell ⟨tb, 3, none⟩ vr).heap[b]? = w.heap[b]? := fun b hb => Below.heap_setCell _ _ _ _ hb
  have hsz : (w.setCell ⟨tb, 3, none⟩ vr).heap.size = w.heap.size := by simp [World.setCell]
  refine ⟨⟨?_, own_keptB h.row (fun b hb => hset b (fun e => hne (by rw [← e]; exact hb.symm))), h.gr.set (.inl rfl) vr, h.mv⟩, by rw [hsz]; exact Nat.le_refl _, fun b hb _ => hset b (by omega)⟩
  rw [heap_setCell_blk vr h.blk]
  rfl
end
def KT (W : World) (B tb : Nat) (S : Option Addr) (sn sc : Nat) (v : Value) (n : Nat) (G : List Nt) (y : Nt) (u : Value) : Nat → World → Prop
  | 0, w => KTm W B tb S sn sc v v v n G w
  | 1, w => KTm W B tb S sn sc v v v n G w
  | 2, w => KTm W B tb S sn sc v v u (n + 1) (G ++ [y]) w
  | _, w => KTm W B tb S sn sc v u u (n + 1) (G ++ [y]) w
section
variable {W w : World} {B tb : Nat} {S : Option Addr} {sn sc : Nat} {v : Value} {n : Nat} {G : List Nt} {y : Nt} {u : Value} {s : Nat}
theorem KT_any (h : KT W B tb S sn sc v n G y u s w) : ∃ vb vr n' G', KTm W B tb S sn sc v vb vr n' G' w := by
  match s, h with
  | 0, h => exact ⟨_, _, _, _, h⟩
  | 1, h => exact ⟨_, _, _, _, h⟩
  | 2, h => exact ⟨_, _, _, _, h⟩
  | _ + 3, h => exact ⟨_, _, _, _, h⟩
theorem KT_alloc (h : KT W B tb S sn sc v n G y u s w) (o : Obj) : KT W B tb S sn sc v n G y u s (w.alloc o) := by
  match s, h with
  | 0, h => exact KTm.alloc h o
  | 1, h => exact KTm.alloc h o
  | 2, h => exact KTm.alloc h o
  | _ + 3, h => exact KTm.alloc h o
theorem KT_low (h : KT W B tb S sn sc v n G y u s w) (hs : s ≤ 1) : KTm W B tb S sn sc v v v n G w := by
  match s, h, hs with
  | 0, h, _ => exact h
  | 1, h, _ => exact h
theorem KT_cell0 (h : KT W B tb S sn sc v n G y u s w) : w.cell? ⟨tb, 0, none⟩ = some (.slice S sn sc) := by
  obtain ⟨_, _, _, _, h⟩ := KT_any h
  exact h.cell0
theorem KT_lt (h : KT W B tb S sn sc v n G y u s w) {b : Nat} (hb : b < W.heap.size) : b < w.heap.size := by
  obtain ⟨_, _, _, _, h⟩ := KT_any h
  exact Nat.lt_of_lt_of_le hb h.gr.size
theorem KT_old (h : KT W B tb S sn sc v n G y u s w) {b j : Nat} {z : Value} (hc : W.cell? ⟨b, j, none⟩ = some z) (hb : b < W.heap.size) (ht : b ≠ tb) (hv : v.ownBlock ≠ some b) : w.cell? ⟨b, j, none⟩ = some z := by
  obtain ⟨_, _, _, _, h⟩ := KT_any h
  have := h.gr.block b hb (fun e => e.elim ht hv)
  rw [← hc]
  simp [World.cell?, this]
end
/-- Row of shifts behind a teller's steps. -/
theorem row_gr {W V : World} {tb : Nat} {v : Value} {A : Option Addr} {xs : List Value} {B : Nat} (h : Row W tb A xs) (hg : GrF W V (fun b => b = tb ∨ v.ownBlock = some b)) (htl : tb < W.heap.size) (htB : tb < B) (hv : ∀ b, v.ownBlock = some b → B ≤ b) : Row V V.heap.size A xs := by
  have := hg.size
  rcases h with h | ⟨b, o, h1, h2, h3⟩
  · exact .inl h
  · exact .inr ⟨b, o, h1, by omega, h3.keep (hg.block b (by omega) (fun e => by
      rcases e with e | e
      · omega
      · have := hv b e; omega))⟩
def TellP (B tb : Nat) (S : Option Addr) (sn sc : Nat) (v : Value) (N : List Nt) (z : Nt) (w : World) (e : Ending) (w' : World) : Prop :=
  ∃ v' N', e = .returned (.tuple #[]) ∧ TlI w' B tb S sn sc v' (N ++ N') ∧ (N' = [] ∨ N' = [z]) ∧ TlGo tb w w' v v'
set_option maxRecDepth 100000 in
set_option maxHeartbeats 4000000 in
theorem tell_any (L : List Sf) (B tb sn sc x d r t : Nat) (m k : Int) (S : Option Addr) (v : Value) (N : List Nt) (w : World) (h : TlI w B tb S sn sc v N) (hN : N.length ≤ 100000) (hL : L.length = sn) (hL2 : sn ≤ 1000) (hS : Row w tb S (recs sfC L)) (htB : tb < B) (hBw : B ≤ w.heap.size)
    (hx0 : w.cell? ⟨x, 0, none⟩ = some (.string (aldT d))) (hx1 : w.cell? ⟨x, 1, none⟩ = some (.string (alrT r))) (hxB : x < B) (hxt : x ≠ tb) (hm : 0 ≤ m) :
    Calls Tryz.prog 103 #[.pointer (some ⟨tb, 0, none⟩), .pointer (some ⟨x, 0, none⟩), .int .i64 m, .int .i64 k, .string (tmT t)] w fun e w' => TellP B tb S sn sc v N ⟨m, d, r, t, ocP L t m, k⟩ w e w' := by
  obtain ⟨i0, hi0, hz0, hz1, hz2⟩ := info_parts Tryz.infoNt
  have HI := Lib.hid h
  have c1 : w.cell? ⟨tb, 1, none⟩ = some (.int .i64 0) := cell_of_blk (j := 1) h.blk rfl
  have c2 : w.cell? ⟨tb, 2, none⟩ = some (.int .i64 500) := cell_of_blk (j := 2) h.blk rfl
  have htl : tb < w.heap.size := (Array.getElem?_eq_some_iff.1 h.blk).1
  have hxl : x < w.heap.size := by omega
  have hlo : ∀ b, v.ownBlock = some b → B ≤ b := fun b hb => (h.row.lt b hb).1
  have hxv : v.ownBlock ≠ some x := fun e => by have := hlo x e; omega
  have HOC := Lib.hid (fun (V : World) (hV : GrF w V (fun b => b = tb ∨ v.ownBlock = some b)) => onC_any L sn sc t m S V hL hL2 (row_gr hS hV htl htB hlo))
  have HVW := Lib.hid (fun b (hb : v.ownBlock = some b) => (h.row.lt b hb).2)
  obtain ⟨VA, vc, rfl⟩ := own_slice h.row
  have hx0' := Lib.hid hx0
  have hx1' := Lib.hid hx1
  have hd1 : (0 : Int) ≤ m := hm
  clear h hS hL hx0 hx1
  by_cases hm3 : m < 500
  case neg =>
    have hd2 : decide (m < 500) = false := decide_eq_false hm3
    go_enter Tryz.func103, Tryz.ntmps103
    go_wp2_with (fail)
    go_end0
    exact ⟨_, [], rfl, by rw [List.append_nil]; exact HI.out, .inl rfl, TlGo.refl _ _ _⟩
  have hd2 : decide (m < 500) = true := decide_eq_true hm3
  obtain ⟨n, en⟩ : ∃ n, n = N.length := ⟨_, rfl⟩
  rw [← en] at hN HOC HVW hlo hxv
  have HKI := Lib.hid (show KTm w B tb S sn sc (.slice VA n vc) (.slice VA n vc) (.slice VA n vc) n N w.drew from by rw [en]; exact ⟨HI.out.blk, HI.out.row, ⟨rfl, rfl, rfl, Nat.le_refl _, fun _ _ _ => rfl⟩, Moved.refl _ _⟩)
  rw [← en]
  have HEN := Lib.hid en
  clear HI en
  go_enter Tryz.func103, Tryz.ntmps103
  go_upto_region 1 with (fail)
  have hx0 := hx0'.out
  have hx1 := hx1'.out
  have HK0 := Lib.hid HKI.out
  refine qRegionSa (KT w B tb S sn sc (.slice VA n vc) n N ⟨m, d, r, t, ocP L t m, k⟩) 27 1 53 _
    [.pointer (some ⟨tb, 0, none⟩), .pointer (some ⟨tb, 0, none⟩), .pointer (some ⟨tb, 0, none⟩), .pointer (some ⟨tb, 3, none⟩), .slice VA n vc, .int .i64 m, .pointer (some ⟨x, 0, none⟩), .pointer (some ⟨x, 0, none⟩), .pointer (some ⟨x, 0, none⟩), .pointer (some ⟨x, 0, none⟩), .string (aldT d), .pointer (some ⟨x, 0, none⟩), .pointer (some ⟨x, 0, none⟩), .pointer (some ⟨x, 0, none⟩), .pointer (some ⟨x, 1, none⟩), .string (alrT r), .string (tmT t), .pointer (some ⟨tb, 0, none⟩), .pointer (some ⟨tb, 0, none⟩), .pointer (some ⟨tb, 0, none⟩), .slice S sn sc, .string (tmT t), .int .i64 m, .string (alwT (ocP L t m)), .int .i64 k, .agg #[.int .i64 m, .string (aldT d), .string (alrT r), .string (tmT t), .string (alwT (ocP L t m)), .int .i64 k], undef, undef, .pointer (some ⟨tb, 0, none⟩), .pointer (some ⟨tb, 3, none⟩), .tuple #[]]
    [none, none, none, none, none, none, none, none, none, none, none, none, none, none, none, none, none, none, none, none, none, none, none, none, none, none, some (.cells #[.int .i64 m, .string (aldT d), .string (alrT r), .string (tmT t), .string (alwT (ocP L t m)), .int .i64 k] 150, fun b => .slice (some ⟨b, 0, none⟩) 1 1), none, none, none, none]
    [0, 0, 0, 0, 0, 0, 0, 0, 0, 0, 0, 0, 0, 0, 0, 0, 0, 0, 0, 0, 0, 0, 0, 1, 0, 0, 0, 2, 0, 0, 3]
    [3, 3, 3, 3, 1, 3, 3, 3, 3, 3, 3, 3, 3, 3, 3, 3, 3, 3, 3, 3, 3, 3, 3, 3, 3, 3, 3, 3, 3, 3, 3] 3 (by kernel_rfl) (by kernel_rfl) rfl rfl (by rfl) rfl rfl rfl rfl HK0.out (fun u s w o h => KT_alloc h o) ?_ ?_ ?_
  · intro u; simp only [putL, Act.put, List.setIfInBounds_toArray, List.set_cons_zero, List.set_cons_succ]
    refine ⟨?_, ?_, ?_, ?_, ?_, ?_, ?_, ?_, ?_, ?_, ?_, ?_, ?_, ?_, ?_, ?_, ?_, ?_, ?_, ?_, ?_, ?_, ?_, ?_, ?_, ?_, ?_, ?_, ?_, ?_, ?_, trivial⟩
    · exact fun _ => OneSt.pure (fun G V => by simp only [putH, Act.put, List.setIfInBounds_toArray, List.set_cons_zero, List.set_cons_succ]; go_simp)
    · exact fun _ => OneSt.pure (fun G V => by simp only [putH, Act.put, List.setIfInBounds_toArray, List.set_cons_zero, List.set_cons_succ]; go_simp)
    · exact fun _ => OneSt.pure (fun G V => by simp only [putH, Act.put, List.setIfInBounds_toArray, List.set_cons_zero, List.set_cons_succ]; go_simp)
    · exact fun _ => OneSt.pure (fun G V => by simp only [putH, Act.put, List.setIfInBounds_toArray, List.set_cons_zero, List.set_cons_succ]; go_simp)
    · exact fun _ => OneSt.load (fun G s V hK hs => by have c0 := (KT_low hK hs).cell3; have hgl := (KT_low hK hs).lt; simp only [putH, Act.put, List.setIfInBounds_toArray, List.set_cons_zero, List.set_cons_succ]; go_simp)
    · exact fun _ => OneSt.pure (fun G V => by simp only [putH, Act.put, List.setIfInBounds_toArray, List.set_cons_zero, List.set_cons_succ]; go_simp)
    · exact fun _ => OneSt.pure (fun G V => by simp only [putH, Act.put, List.setIfInBounds_toArray, List.set_cons_zero, List.set_cons_succ]; go_simp)
    · exact fun _ => OneSt.pure (fun G V => by simp only [putH, Act.put, List.setIfInBounds_toArray, List.set_cons_zero, List.set_cons_succ]; go_simp)
    · exact fun _ => OneSt.pure (fun G V => by simp only [putH, Act.put, List.setIfInBounds_toArray, List.set_cons_zero, List.set_cons_succ]; go_simp)
    · exact fun _ => OneSt.pure (fun G V => by simp only [putH, Act.put, List.setIfInBounds_toArray, List.set_cons_zero, List.set_cons_succ]; go_simp)
    · exact fun _ => OneSt.load (fun G s V hK hs => by have c0 := KT_old hK hx0 hxl hxt hxv; have hgl := KT_lt hK hxl; simp only [putH, Act.put, List.setIfInBounds_toArray, List.set_cons_zero, List.set_cons_succ]; go_simp)
    · exact fun _ => OneSt.pure (fun G V => by simp only [putH, Act.put, List.setIfInBounds_toArray, List.set_cons_zero, List.set_cons_succ]; go_simp)
    · exact fun _ => OneSt.pure (fun G V => by simp only [putH, Act.put, List.setIfInBounds_toArray, List.set_cons_zero, List.set_cons_succ]; go_simp)
    · exact fun _ => OneSt.pure (fun G V => by simp only [putH, Act.put, List.setIfInBounds_toArray, List.set_cons_zero, List.set_cons_succ]; go_simp)
    · exact fun _ => OneSt.pure (fun G V => by simp only [putH, Act.put, List.setIfInBounds_toArray, List.set_cons_zero, List.set_cons_succ]; go_simp)
    · exact fun _ => OneSt.load (fun G s V hK hs => by have c0 := KT_old hK hx1 hxl hxt hxv; have hgl := KT_lt hK hxl; simp only [putH, Act.put, List.setIfInBounds_toArray, List.set_cons_zero, List.set_cons_succ]; go_simp)
    · exact fun _ => OneSt.pure (fun G V => by simp only [putH, Act.put, List.setIfInBounds_toArray, List.set_cons_zero, List.set_cons_succ]; go_simp)
    · exact fun _ => OneSt.pure (fun G V => by simp only [putH, Act.put, List.setIfInBounds_toArray, List.set_cons_zero, List.set_cons_succ]; go_simp)
    · exact fun _ => OneSt.pure (fun G V => by simp only [putH, Act.put, List.setIfInBounds_toArray, List.set_cons_zero, List.set_cons_succ]; go_simp)
    · exact fun _ => OneSt.pure (fun G V => by simp only [putH, Act.put, List.setIfInBounds_toArray, List.set_cons_zero, List.set_cons_succ]; go_simp)
    · exact fun _ => OneSt.load (fun G s V hK hs => by have c0 := KT_cell0 hK; have hgl := KT_lt hK htl; simp only [putH, Act.put, List.setIfInBounds_toArray, List.set_cons_zero, List.set_cons_succ]; go_simp)
    · exact fun _ => OneSt.pure (fun G V => by simp only [putH, Act.put, List.setIfInBounds_toArray, List.set_cons_zero, List.set_cons_succ]; go_simp)
    · exact fun _ => OneSt.pure (fun G V => by simp only [putH, Act.put, List.setIfInBounds_toArray, List.set_cons_zero, List.set_cons_succ]; go_simp)
    · exact fun _ => OneSt.call (fun G V hK hL => ⟨_, _, by simp only [putH, Act.put, List.setIfInBounds_toArray, List.set_cons_zero, List.set_cons_succ]; go_simp <;> exact ⟨rfl, rfl⟩, by exact (HOC.out V (KTm.gr hK)).mono (fun e w' h => ⟨h.1, KTm.call hK h.2⟩)⟩)
    · exact fun _ => OneSt.pure (fun G V => by simp only [putH, Act.put, List.setIfInBounds_toArray, List.set_cons_zero, List.set_cons_succ]; go_simp)
    · exact fun _ => OneSt.pure (fun G V => by simp only [putH, Act.put, List.setIfInBounds_toArray, List.set_cons_zero, List.set_cons_succ]; go_simp)
    · exact fun _ => OneSt.lay (fun G V => by simp only [putH, Act.put, List.setIfInBounds_toArray, List.set_cons_zero, List.set_cons_succ]; go_simp)
    · exact fun h => absurd rfl h
    · exact fun _ => OneSt.pure (fun G V => by simp only [putH, Act.put, List.setIfInBounds_toArray, List.set_cons_zero, List.set_cons_succ]; go_simp)
    · exact fun _ => OneSt.pure (fun G V => by simp only [putH, Act.put, List.setIfInBounds_toArray, List.set_cons_zero, List.set_cons_succ]; go_simp)
    · exact fun _ => OneSt.store (fun G V hK hL => by obtain ⟨UA, uc, rfl⟩ := own_slice (KTm.row hK); have c0 := KTm.cell3 hK; have f0 := KTm.fro hK; have hgl := KTm.lt hK; have hs := KTm.store hK htl; refine ⟨_, ?_, rfl, hs.1, hs.2⟩; simp only [putH, Act.put, List.setIfInBounds_toArray, List.set_cons_zero, List.set_cons_succ]; go_simp)
  · intro u G V hK hL
    obtain ⟨hg1, hg2⟩ := hL 26 _ _ rfl (by kernel_rfl)
    refine app_st (.tmp 30) (.tmp 52) 51 rfl B 150 i0 _ 6 80 Tryz.underlying51 hi0 hz0 hz1 hz2 rfl (by decide) (.slice VA n vc) n (recs ntC N) ?_ (KTm.row hK) ⟨G 26, 0, none⟩ 1 1 (ntC ⟨m, d, r, t, ocP L t m, k⟩) ?_ rfl (cells_add (cells_blk hg2 rfl)) (ntC_one _) (by unfold maxLen; omega) (by omega) (by have := (KTm.gr hK).size; omega) ?_
    · simp only [putL, putH, Act.put, List.setIfInBounds_toArray, List.set_cons_zero, List.set_cons_succ]; rfl
    · simp only [putL, putH, Act.put, List.setIfInBounds_toArray, List.set_cons_zero, List.set_cons_succ]; rfl
    · intro v' w2 ho hg hm
      rw [← recs_snoc] at ho
      exact KTm.app hK ho hg hm HVW.out
  · intro u G W7 hK hsz hG
    clear hG
    have HKu := Lib.hid (show KTm w B tb S sn sc (.slice VA n vc) u u (n + 1) (N ++ [⟨m, d, r, t, ocP L t m, k⟩]) W7 from hK)
    clear hK hx0 hx1
    simp only [putL, putH, Act.put, List.setIfInBounds_toArray, List.set_cons_zero, List.set_cons_succ]
    go_wp2_with (fail)
    go_end0
    exact ⟨u, [⟨m, d, r, t, ocP L t m, k⟩], rfl, ⟨HKu.out.blk, by rw [List.length_append, ← HEN.out]; exact HKu.out.row⟩, .inr rfl, ⟨HKu.out.gr, HKu.out.mv⟩⟩
theorem full_any (B tb sn sc : Nat) (S : Option Addr) (v : Value) (N : List Nt) (w : World) (h : TlI w B tb S sn sc v N) (hN : N.length ≤ 5000) :
    Calls Tryz.prog 63 #[.pointer (some ⟨tb, 0, none⟩)] w fun e w' => e = .returned (.bool false) ∧ w = w' := by
  obtain ⟨VA, vc, rfl⟩ := own_slice h.row
  have c3 : w.cell? ⟨tb, 3, none⟩ = some (.slice VA N.length vc) := cell_of_blk (j := 3) h.blk rfl
  have htl : tb < w.heap.size := (Array.getElem?_eq_some_iff.1 h.blk).1
  obtain ⟨n, en⟩ : ∃ n, n = N.length := ⟨_, rfl⟩
  rw [← en] at c3 hN
  have hn : ¬ (5000 : Int) < n := by omega
  clear h en
  go_enter Tryz.func63, Tryz.ntmps63
  go_wp2_with (fail)
  go_ret
  exact ⟨rfl, rfl⟩
end Go.Proofs.YtgdnedhcbjonkaaGreatDoor

/- (*alarm.teller).climb by its contract. -/
namespace Go.Proofs.YtgdnedhcbjonkaaGreatDoor
open Go.RowKit Go.Shelf Go.Sort

/-- Who is told in one time in which an alarm is active. -/
structure TdOk (L : Lf) (f u : Int) (S : List Sf) (z : Nt) : Prop where
  d : z.d = L.d
  r : z.r = L.r
  f : f ≤ z.at_
  u : z.at_ < u
  as_ : ∀ a ∈ L.as_, ¬ (a.1 ≤ z.at_ ∧ z.at_ < a.2)
  t : z.t ≠ 2
  b : z.b = ocP S z.t z.at_
theorem skip_next {d ev kk : Int} (he : 0 < ev) (h : kk * ev < d) : kk + 1 ≤ (d + ev - 1) / ev ∧ ((d + ev - 1) / ev) * ev ≤ d + ev - 1 := by
  refine ⟨(Int.le_ediv_iff_mul_le he).2 ?_, Int.ediv_mul_le _ (by omega)⟩
  rw [Int.add_mul]
  omega
theorem quo_low {fi ev : Int} (h0 : 0 ≤ fi) (h1 : fi ≤ 400000000000) (he : 1000 ≤ ev ∧ ev ≤ 2592000000) : (-fi + ev - 1).tdiv ev ≤ 0 ∧ -400000000000 ≤ (-fi + ev - 1).tdiv ev := by
  rcases Int.lt_or_le (-fi + ev - 1) 0 with h | h
  · have e : (-fi + ev - 1).tdiv ev = -((fi - ev + 1) / ev) := by
      rw [show -fi + ev - 1 = -(fi - ev + 1) by omega, Int.neg_tdiv, Int.tdiv_eq_ediv_of_nonneg (by omega)]
    rw [e]
    have h2 := Int.ediv_nonneg (a := fi - ev + 1) (b := ev) (by omega) (by omega)
    have h3 := Int.ediv_le_self (a := fi - ev + 1) ev (by omega)
    omega
  · rw [Int.tdiv_eq_ediv_of_nonneg h, Int.ediv_eq_zero_of_lt h (by omega)]
    omega
def ClimbP (B tb : Nat) (A : Option Addr) (sn sc : Nat) (v : Value) (N : List Nt) (L : Lf) (f u : Int) (S : List Sf) (m : Nat) (w : World) (e : Ending) (w' : World) : Prop :=
  ∃ v' N', e = .returned (.tuple #[]) ∧ TlI w' B tb A sn sc v' (N ++ N') ∧ N'.length ≤ m + 2 ∧ (∀ z ∈ N', TdOk L f u S z) ∧ TlGo tb w w' v v'
/-- Between two rounds. -/
structure ClR (B tb : Nat) (A : Option Addr) (sn sc : Nat) (v : Value) (N : List Nt) (L : Lf) (f u : Int) (S : List Sf) (q : Int) (W w : World) (v' : Value) (N' : List Nt) : Prop where
  tl : TlI w B tb A sn sc v' (N ++ N')
  n : (N'.length : Int) ≤ q
  ok : ∀ z ∈ N', TdOk L f u S z
  go : TlGo tb W w v v'
theorem ClR.tell {B tb : Nat} {A : Option Addr} {sn sc : Nat} {v : Value} {N : List Nt} {L : Lf} {f u : Int} {S : List Sf} {q q' : Int} {W w w2 w' : World} {v' : Value} {N' : List Nt} {z : Nt} {e : Ending} (h : ClR B tb A sn sc v N L f u S q W w v' N') (hb : Below w.heap.size w w2) (hT : TellP B tb A sn sc v' (N ++ N') z w2 e w') (hz : TdOk L f u S z) (hq : q + 1 ≤ q') :
    e = .returned (.tuple #[]) ∧ ∃ v2 N2, ClR B tb A sn sc v N L f u S q' W w' v2 N2 := by
  obtain ⟨v2, M, he, h1, h2, h3⟩ := hT
  refine ⟨he, v2, N' ++ M, by rw [← List.append_assoc]; exact h1, ?_, fun y hy => ?_, ?_⟩
  · have := h.n
    rcases h2 with rfl | rfl
    · rw [List.append_nil]; omega
    · rw [List.length_append]; simp; omega
  · rcases List.mem_append.1 hy with hy | hy
    · exact h.ok y hy
    · rcases h2 with rfl | rfl
      · cases hy
      · rw [List.mem_singleton] at hy
        rw [hy]
        exact hz
  · exact (h.go.below hb).trans h3
theorem ClR.below {B tb : Nat} {A : Option Addr} {sn sc : Nat} {v : Value} {N : List Nt} {L : Lf} {f u : Int} {S : List Sf} {q q' : Int} {W w w' : World} {v' : Value} {N' : List Nt} (h : ClR B tb A sn sc v N L f u S q W w v' N') (hb : Below w.heap.size w w') (hq : q ≤ q') : ClR B tb A sn sc v N L f u S q' W w' v' N' :=
  ⟨⟨(hb.block tb (Array.getElem?_eq_some_iff.1 h.tl.blk).1).trans h.tl.blk, own_belowP h.tl.row hb⟩, by have := h.n; omega, h.ok, h.go.below hb⟩
set_option maxRecDepth 100000 in
set_option maxHeartbeats 4000000 in
theorem climb_any (S : List Sf) (B tb sn sc x : Nat) (A : Option Addr) (v : Value) (N : List Nt) (L : Lf) (vl : Nat → Value) (y : Ld) (f u : Int) (w : World)
    (h : TlI w B tb A sn sc v N) (hN : N.length ≤ 4900) (hL : S.length = sn) (hL2 : sn ≤ 1000) (hS : Row w tb A (recs sfC S)) (htB : tb < B) (hBw : B ≤ w.heap.size)
    (hx : LfI w x L vl) (hft : ∀ b, lfFoot x vl b → b < B ∧ b ≠ tb) (has : L.as_.length ≤ 1000) (hab : ∀ a ∈ L.as_, a.2 ≤ 345686400000)
    (hy : LdR y) (hyr : Row w tb y.A (recs rgC y.g)) (hf : 0 ≤ f) (hfu : f ≤ u) (hu : u ≤ 345686400000) :
    Calls Tryz.prog 62 #[.pointer (some ⟨tb, 0, none⟩), .pointer (some ⟨x, 0, none⟩), .agg #[.string (ruT y.r), .slice y.A y.g.length y.c, .int .i64 y.ev], .agg #[.int .i64 f, .int .i64 u]] w fun e w' => ClimbP B tb A sn sc v N L f u S y.g.length w e w' := by
  have htl : tb < w.heap.size := (Array.getElem?_eq_some_iff.1 h.blk).1
  obtain ⟨m, em⟩ : ∃ m, m = y.g.length := ⟨_, rfl⟩
  obtain ⟨ya, eya⟩ : ∃ a, a = y.A := ⟨_, rfl⟩
  obtain ⟨yc, eyc⟩ : ∃ a, a = y.c := ⟨_, rfl⟩
  obtain ⟨ev, eev⟩ : ∃ a, a = y.ev := ⟨_, rfl⟩
  have hmr : 1 ≤ m ∧ m ≤ 10 := by rw [em]; exact hy.n
  have hevr : ev = 0 ∨ (1000 ≤ ev ∧ ev ≤ 2592000000) := by rw [eev]; exact hy.ev
  rw [← em, ← eya, ← eyc, ← eev]
  rw [← eya] at hyr
  have HG := Lib.hid (show (∀ q (z : Int × Nat), q < m → y.g[q]? = some z → RgR z) ∧ y.g.length = m from ⟨fun q z hq hz => hy.g.1 q z (by omega) hz, em.symm⟩)
  have HFT := Lib.hid hft
  have HAB := Lib.hid hab
  -- the two boxes
  obtain ⟨gl, egl⟩ : ∃ g, g = w.heap.size := ⟨_, rfl⟩
  obtain ⟨gw, egw⟩ : ∃ g, g = w.heap.size + 1 := ⟨_, rfl⟩
  obtain ⟨W, eW⟩ : ∃ V : World, V = (w.alloc (.cells #[.string (ruT y.r), .slice ya m yc, .int .i64 ev] 59)).alloc (.cells #[.int .i64 f, .int .i64 u] 55) := ⟨_, rfl⟩
  have hbW : Below w.heap.size w W := by rw [eW]; exact ((Below.refl _ _).alloc (Nat.le_refl _) _).alloc (by simp) _
  have hgl : W.heap[gl]? = some (.cells #[.string (ruT y.r), .slice ya m yc, .int .i64 ev] 59 (0, 0)) := by rw [eW, egl, Below.heap_alloc _ _ _ (by simp)]; exact heap_new w _
  have hgw : W.heap[gw]? = some (.cells #[.int .i64 f, .int .i64 u] 55 (0, 0)) := by
    rw [eW, egw]
    have := heap_new (w.alloc (.cells #[.string (ruT y.r), .slice ya m yc, .int .i64 ev] 59)) (.cells #[.int .i64 f, .int .i64 u] 55)
    simpa using this
  have hglW := (Array.getElem?_eq_some_iff.1 hgl).1
  have hgwW := (Array.getElem?_eq_some_iff.1 hgw).1
  have hTW : TlI W B tb A sn sc v N := ⟨(hbW.block tb htl).trans h.blk, own_belowP h.row hbW⟩
  have hlo : ∀ b, v.ownBlock = some b → B ≤ b := fun b hb => (h.row.lt b hb).1
  have hvl : v.ownBlock ≠ some gl := fun e => own_ne hTW.row hgl (by decide) e.symm
  have hvw : v.ownBlock ≠ some gw := fun e => own_ne hTW.row hgw (by decide) e.symm
  have hglt : gl ≠ tb := by omega
  have hgwt : gw ≠ tb := by omega
  -- what a world behind a teller's steps keeps
  have HKL := Lib.hid (fun (V : World) (v' : Value) (hV : TlGo tb W V v v') => show V.cell? ⟨gl, 1, none⟩ = some (.slice ya m yc) ∧ V.cell? ⟨gl, 2, none⟩ = some (.int .i64 ev) ∧ V.cell? ⟨gw, 0, none⟩ = some (.int .i64 f) ∧ V.cell? ⟨gw, 1, none⟩ = some (.int .i64 u) ∧ gl < V.heap.size ∧ gw < V.heap.size from
    have h1 := (hV.gr.block gl hglW (fun e => e.elim hglt hvl)).trans hgl
    have h2 := (hV.gr.block gw hgwW (fun e => e.elim hgwt hvw)).trans hgw
    ⟨cell_of_blk (j := 1) h1 rfl, cell_of_blk (j := 2) h1 rfl, cell_of_blk (j := 0) h2 rfl, cell_of_blk (j := 1) h2 rfl, Nat.lt_of_lt_of_le hglW hV.gr.size, Nat.lt_of_lt_of_le hgwW hV.gr.size⟩)
  have HKX := Lib.hid (fun (V : World) (v' : Value) (hV : TlGo tb W V v v') => show LfI V x L vl from hx.keep fun b hb => (hV.gr.block b (Nat.lt_of_lt_of_le (hx.foot_lt hb) hbW.size) (fun e => e.elim (hft b hb).2 (fun e => by have := hlo b e; have := (hft b hb).1; omega))).trans (hbW.block b (hx.foot_lt hb)))
  have HKS := Lib.hid (fun (V : World) (v' : Value) (hV : TlGo tb W V v v') => show Row V tb A (recs sfC S) from ((hS.below (hbW.mono (Nat.le_of_lt htl))).keep fun b hb => hV.gr.block b (by have := hbW.size; omega) (fun e => e.elim (by omega) (fun e => by have := hlo b e; omega))))
  have HKR := Lib.hid (fun (V : World) (v' : Value) (hV : TlGo tb W V v v') => show Row V tb ya (recs rgC y.g) from ((hyr.below (hbW.mono (Nat.le_of_lt htl))).keep fun b hb => hV.gr.block b (by have := hbW.size; omega) (fun e => e.elim (by omega) (fun e => by have := hlo b e; omega))))
  have HGO := Lib.hid (fun (V : World) (v' : Value) (hV : TlGo tb W V v v') => show TlGo tb w V v v' from ⟨GrF.trans (GrF.of_below hbW _ (fun b h1 h2 => by omega)) ⟨hV.gr.os, hV.gr.tape, hV.gr.output, hV.gr.size, fun b hb hn => hV.gr.block b hb hn⟩, by
    rcases hV.mv with h1 | ⟨g, h1, h2⟩
    · exact .inl h1
    · exact .inr ⟨g, h1, Nat.le_trans hbW.size h2⟩⟩)
  have HX01 := Lib.hid (fun (V : World) (hV : LfI V x L vl) => show V.cell? ⟨x, 0, none⟩ = some (.string (aldT L.d)) ∧ V.cell? ⟨x, 1, none⟩ = some (.string (alrT L.r)) from ⟨cell_of_blk (j := 0) hV.blk rfl, cell_of_blk (j := 1) hV.blk rfl⟩)
  have hxB := hft x (.inl rfl)
  have HBS := Lib.hid hbW.size
  have HW0 := Lib.hid (show ClR B tb A sn sc v N L f u S 0 W W v [] from ⟨by rw [List.append_nil]; exact hTW, by simp, by simp, TlGo.refl _ _ _⟩)
  have HFU := Lib.hid (And.intro hf (And.intro hfu hu))
  clear h hS hx hft hab hy hyr hTW hgl hgw hvl hvw hlo em eya eyc eev
  go_enter Tryz.func62, Tryz.ntmps62
  go_upto_region 1 with (fail)
  rw [← egw, ← egl, ← eW]
  clear egl egw eW hbW
  obtain ⟨d1, d2, d3, d4, hgl', hgw'⟩ := HKL.out W v HW0.out.go
  have hwm1 : (m : Int) - 1 = ((m - 1 : Nat) : Int) := by omega
  have hwm2 : IntKind.i64.wrap ((m - 1 : Nat) : Int) = ((m - 1 : Nat) : Int) := by rw [IntKind.wrap_i64]; omega
  go_wp2_with (fail)
  go_loopw [24] (fun s wr => ∃ (q : Nat) (v' : Value) (N' : List Nt), q ≤ m ∧ s = .int .i64 (q : Int) ∧ ClR B tb A sn sc v N L f u S (q : Int) W wr v' N') (fun s _ => m - (intOf s).toNat)
  case atStart => exact ⟨0, v, [], by omega, rfl, HW0.out⟩
  case round =>
    obtain ⟨q, v', N', hq, rfl, hR⟩ := hrel
    have HR := Lib.hid hR
    have hRs := hR.go.gr.size
    clear hR d1 d2 d3 d4 hgl' hgw'
    obtain ⟨d1, d2, d3, d4, hgl', hgw'⟩ := HKL.out wr v' HR.out.go
    by_cases hqm : q < m
    · have hqmI : (q : Int) < m := by omega
      obtain ⟨z, hz⟩ : ∃ z, y.g[q]? = some z := ⟨_, List.getElem?_eq_getElem (by have := HG.out.2; omega)⟩
      obtain ⟨rb, ro, rfl, hrb, hD⟩ := (HKR.out wr v' HR.out.go).posR rgC_len (by omega) (by have := HG.out.2; omega)
      have e0 : wr.cell? ⟨rb, ro + q * 2, none⟩ = some (.int .i64 z.1) := rec_cell rgC_len hD q z hz 0 _ rfl
      have e1 : wr.cell? ⟨rb, ro + q * 2 + 1, none⟩ = some (.string (tmT z.2)) := rec_cell rgC_len hD q z hz 1 _ rfl
      have HZ := Lib.hid (HG.out.1 q z hqm hz)
      have hza := (HG.out.1 q z hqm hz).a
      have hrb' : rb < wr.heap.size := by have := HBS.out; omega
      clear hz hD
      obtain ⟨z1, z2⟩ := z
      simp only at e0 e1 hza
      go_upto_region 5 with (fail)
      obtain ⟨gr, egr⟩ : ∃ g, g = wr.heap.size := ⟨_, rfl⟩
      obtain ⟨w5, e5⟩ : ∃ V : World, V = wr.alloc (.cells #[.int .i64 z1, .string (tmT z2)] 62) := ⟨_, rfl⟩
      have hb5 : Below wr.heap.size wr w5 := by rw [e5]; exact (Below.refl _ _).alloc (Nat.le_refl _) _
      have hg5 : w5.heap[gr]? = some (.cells #[.int .i64 z1, .string (tmT z2)] 62 (0, 0)) := by rw [e5, egr]; exact heap_new wr _
      rw [← egr, ← e5]
      have HR5 := Lib.hid (HR.out.below hb5 (Int.le_refl _))
      have hs5 := hb5.size
      have r0 := cell_of_blk (j := 0) hg5 rfl
      have hgr5 := (Array.getElem?_eq_some_iff.1 hg5).1
      have HG5 := Lib.hid hg5
      clear d1 d2 d3 d4 hgl' hgw' e0 e1 e5 hb5 hg5 egr
      obtain ⟨d1, d2, d3, d4, hgl', hgw'⟩ := HKL.out w5 v' HR5.out.go
      have hwa : IntKind.i64.wrap (f + z1) = f + z1 := by have := HFU.out; rw [IntKind.wrap_i64]; omega
      by_cases hmu : f + z1 < u
      case neg =>
        have hmu2 : decide (f + z1 < u) = false := decide_eq_false hmu
        have HRn := Lib.hid (HR5.out.below (Below.refl _ _) (show (q : Int) ≤ ((q + 1 : Nat) : Int) by omega))
        go_wp2_with (fail)
        go_roundw
        case rel => exact ⟨q + 1, v', N', by omega, by go_num, HRn.out⟩
        case measure => simp [intOf]; omega
      have hmu2 : decide (f + z1 < u) = true := decide_eq_true hmu
      have HFR := Lib.hid (free_any x L vl (f + z1) w5 (HKX.out w5 v' HR5.out.go) has)
      obtain ⟨fz, efz⟩ : ∃ fz, fz = freP L.as_ (f + z1) := ⟨_, rfl⟩
      rw [← efz] at HFR
      have HFZ := Lib.hid (show fz = f + z1 → ∀ a ∈ L.as_, ¬ (a.1 ≤ f + z1 ∧ f + z1 < a.2) from fun h => freP_out _ _ (efz ▸ h))
      clear efz
      go_wp2_with (fail)
      refine HFR.out.mono ?_
      rintro e w6 ⟨rfl, hb6⟩
      have HR6 := Lib.hid (HR5.out.below hb6 (Int.le_refl _))
      have hs6 := hb6.size
      have HG6 := Lib.hid ((hb6.block gr hgr5).trans HG5.out)
      clear hb6 d1 d2 d3 d4 hgl' hgw' r0
      obtain ⟨d1, d2, d3, d4, hgl', hgw'⟩ := HKL.out w6 v' HR6.out.go
      by_cases hfz : fz = f + z1
      case neg =>
        have hfz2 : (fz == f + z1) = false := by simpa using hfz
        have HRn := Lib.hid (HR6.out.below (Below.refl _ _) (show (q : Int) ≤ ((q + 1 : Nat) : Int) by omega))
        go_wp2_with (fail)
        go_roundw
        case rel => exact ⟨q + 1, v', N', by omega, by go_num, HRn.out⟩
        case measure => simp [intOf]; omega
      have HAS := Lib.hid (HFZ.out hfz)
      subst hfz
      have r1 : w6.cell? ⟨gr, 1, none⟩ = some (.string (tmT z2)) := cell_of_blk (j := 1) HG6.out rfl
      have hgr6 : gr < w6.heap.size := by omega
      have HTE := Lib.hid (tell_any S B tb sn sc x L.d L.r z2 (f + z1) (q : Int) A v' (N ++ N') w6 HR6.out.tl (by rw [List.length_append]; have := HR6.out.n; omega) hL hL2 (HKS.out w6 v' HR6.out.go) htB (by have := HBS.out; have := HR6.out.go.gr.size; omega) (HX01.out w6 (HKX.out w6 v' HR6.out.go)).1 (HX01.out w6 (HKX.out w6 v' HR6.out.go)).2 hxB.1 hxB.2 (by have := HFU.out; omega))
      go_wp2_with (fail)
      refine HTE.out.mono ?_
      intro e w7 hT
      obtain ⟨rfl, v7, N7, h7⟩ := HR6.out.tell (q' := ((q + 1 : Nat) : Int)) (Below.refl _ _) hT ⟨rfl, rfl, by show f ≤ f + z1; omega, hmu, HAS.out, HZ.out.t, rfl⟩ (by omega)
      have HR7 := Lib.hid h7
      clear hT h7 d1 d2 d3 d4 hgl' hgw' r1
      go_wp2_with (fail)
      go_roundw
      case rel => exact ⟨q + 1, v7, N7, by omega, by go_num, HR7.out⟩
      case measure => simp [intOf]; omega
    · have hqmI : ¬ (q : Int) < m := by omega
      obtain rfl : q = m := by omega
      by_cases hev0 : ev = 0
      · subst hev0
        have HF := Lib.hid (show ClimbP B tb A sn sc v N L f u S q w (.returned (.tuple #[])) wr from ⟨v', N', rfl, HR.out.tl, by have := HR.out.n; omega, HR.out.ok, HGO.out wr v' HR.out.go⟩)
        go_wp2_with (fail)
        go_end0
        exact HF.out
      have hev1 : ¬ ev = 0 := hev0
      have hev2 : 1000 ≤ ev ∧ ev ≤ 2592000000 := by omega
      obtain ⟨z, hz⟩ : ∃ z, y.g[q - 1]? = some z := ⟨_, List.getElem?_eq_getElem (by have := HG.out.2; omega)⟩
      obtain ⟨rb, ro, rfl, hrb, hD⟩ := (HKR.out wr v' HR.out.go).posR rgC_len (by omega) (by have := HG.out.2; omega)
      have e0 : wr.cell? ⟨rb, ro + (q - 1) * 2, none⟩ = some (.int .i64 z.1) := rec_cell rgC_len hD (q - 1) z hz 0 _ rfl
      have HZ := Lib.hid (HG.out.1 (q - 1) z (by omega) hz)
      have HZ2 := Lib.hid hz
      have hza := (HG.out.1 (q - 1) z (by omega) hz).a
      have hrb' : rb < wr.heap.size := by have := HBS.out; omega
      have hq1 : ((q - 1 : Nat) : Int) < q := by omega
      have hq2 : q - 1 < q := by omega
      clear hz hD
      obtain ⟨z1, z2⟩ := z
      simp only at e0 hza
      obtain ⟨fi, efi⟩ : ∃ fi, fi = f + z1 := ⟨_, rfl⟩
      have hwf : IntKind.i64.wrap (f + z1) = fi := by have := HFU.out; rw [efi, IntKind.wrap_i64]; omega
      have hfi : 0 ≤ fi ∧ f ≤ fi ∧ fi ≤ 400000000000 := by have := HFU.out; omega
      clear efi
      go_upto_region 10 with (fail)
      go_cut [12] (fun s wx => s = .int .i64 fi ∧ Below wr.heap.size wr wx)
      case first =>
        go_quiet (fail)
        go_wp2_with (fail)
        go_meet
        exact ⟨rfl, below_drewN (Below.refl _ _) _⟩
      case rest =>
      obtain ⟨rfl, hbc⟩ := hcut
      obtain ⟨w8, ew8⟩ : ∃ V : World, V = wc := ⟨_, rfl⟩
      rw [← ew8] at hbc ⊢
      have HR8 := Lib.hid (HR.out.below hbc (Int.le_refl _))
      clear ew8 hbc d1 d2 d3 d4 hgl' hgw' e0
      obtain ⟨d1, d2, d3, d4, hgl', hgw'⟩ := HKL.out w8 v' HR8.out.go
      obtain ⟨t0, t1, t2, t3, htt⟩ : w8.cell? ⟨tb, 1, none⟩ = some (.int .i64 0) ∧ w8.cell? ⟨tb, 2, none⟩ = some (.int .i64 500) ∧ True ∧ True ∧ tb < w8.heap.size := ⟨cell_of_blk (j := 1) HR8.out.tl.blk rfl, cell_of_blk (j := 2) HR8.out.tl.blk rfl, trivial, trivial, (Array.getElem?_eq_some_iff.1 HR8.out.tl.blk).1⟩
      clear t2 t3
      obtain ⟨en, een⟩ : ∃ en : Int, en = min u 500 := ⟨_, rfl⟩
      have HEN := Lib.hid (show en ≤ u ∧ en ≤ 500 from by omega)
      go_upto_region 11 with (fail)
      go_cut [13] (fun s wx => s = .int .i64 en ∧ Below w8.heap.size w8 wx)
      case first =>
        go_quiet (fail)
        go_wp2_with (fail)
        go_meet
        exact ⟨by rw [een], below_drewN (Below.refl _ _) _⟩
      case rest =>
      obtain ⟨rfl, hbc⟩ := hcut
      obtain ⟨w9, ew9⟩ : ∃ V : World, V = wc := ⟨_, rfl⟩
      rw [← ew9] at hbc ⊢
      have HR9 := Lib.hid (HR8.out.below hbc (Int.le_refl _))
      clear ew9 hbc d1 d2 d3 d4 hgl' hgw' t0 t1 htt een
      obtain ⟨d1, d2, d3, d4, hgl', hgw'⟩ := HKL.out w9 v' HR9.out.go
      have t0 : w9.cell? ⟨tb, 1, none⟩ = some (.int .i64 0) := cell_of_blk (j := 1) HR9.out.tl.blk rfl
      have htt : tb < w9.heap.size := (Array.getElem?_eq_some_iff.1 HR9.out.tl.blk).1
      have hwn1 : IntKind.i64.wrap (-fi) = -fi := by rw [IntKind.wrap_i64]; omega
      have hwn2 : IntKind.i64.wrap (-fi + ev) = -fi + ev := by rw [IntKind.wrap_i64]; omega
      have hwn3 : IntKind.i64.wrap (-fi + ev - 1) = -fi + ev - 1 := by rw [IntKind.wrap_i64]; omega
      obtain ⟨qu, equ⟩ : ∃ qu, qu = (-fi + ev - 1).tdiv ev := ⟨_, rfl⟩
      have hqu : qu ≤ 0 ∧ -400000000000 ≤ qu := by
        rw [equ]
        exact quo_low (by omega) (by omega) (by omega)
      have hwq : IntKind.i64.wrap qu = qu := by rw [IntKind.wrap_i64]; omega
      have hmx : max 1 qu = 1 := by omega
      go_upto_region 12 with (fail)
      go_cut [14] (fun s wx => s = .int .i64 1 ∧ Below w9.heap.size w9 wx)
      case first =>
        go_quiet (fail)
        go_wp2_with (fail)
        go_meet
        exact ⟨by rw [← equ, hmx], below_drewN (Below.refl _ _) _⟩
      case rest =>
      obtain ⟨rfl, hbc⟩ := hcut
      obtain ⟨wA, ewA⟩ : ∃ V : World, V = wc := ⟨_, rfl⟩
      rw [← ewA] at hbc ⊢
      have HRA := Lib.hid (HR9.out.below hbc (Int.le_refl _))
      clear ewA hbc d1 d2 d3 d4 hgl' hgw' t0 htt equ hwq hmx hqu hwn1 hwn2 hwn3
      obtain ⟨Q, eQ⟩ : ∃ Q : Int, Q = (q : Int) := ⟨_, rfl⟩
      rw [← eQ] at HRA
      have HQE := Lib.hid eQ
      clear eQ
      go_wp2_with (fail)
      go_loopw [14] (fun s wr => ∃ (kk : Int) (v' : Value) (N' : List Nt), s = .int .i64 kk ∧ 1 ≤ kk ∧ kk ≤ 1000000000 ∧ kk * ev ≤ 1000000000000 ∧ ClR B tb A sn sc v N L f u S (Q + min (kk - 1) 2) W wr v' N') (fun s _ => (3 - intOf s).toNat)
      case atStart => exact ⟨1, v', N', rfl, by omega, by omega, by omega, HRA.out.below (Below.refl _ _) (by omega)⟩
      case round =>
        obtain ⟨kk, v', N', rfl, hk1, hk2, hk3, hR⟩ := hrel
        have HR := Lib.hid hR
        have hRs := hR.go.gr.size
        clear hR
        obtain ⟨d1, d2, d3, d4, hgl', hgw'⟩ := HKL.out wr v' HR.out.go
        obtain ⟨pr, epr⟩ : ∃ pr, pr = kk * ev := ⟨_, rfl⟩
        have hpr0 : kk ≤ pr := by rw [epr]; have := Int.mul_le_mul_of_nonneg_left (show (1 : Int) ≤ ev by omega) (show 0 ≤ kk by omega); omega
        have hpr3 : 3 ≤ kk → 3000 ≤ pr := fun h => by rw [epr]; exact Int.le_trans (by omega) (Int.mul_le_mul h hev2.1 (by omega) (by omega))
        have hpr1 : (kk + 1) * ev = pr + ev := by rw [epr, Int.add_mul]; omega
        rw [← epr] at hk3
        have hwp : IntKind.i64.wrap (kk * ev) = pr := by rw [← epr, IntKind.wrap_i64]; omega
        have hwp2 : IntKind.i64.wrap (fi + pr) = fi + pr := by rw [IntKind.wrap_i64]; omega
        have HPR := Lib.hid epr
        clear epr
        by_cases hlt : fi + pr < en
        case neg =>
          have hlt2 : decide (fi + pr < en) = false := decide_eq_false hlt
          have HF := Lib.hid (show ClimbP B tb A sn sc v N L f u S q w (.returned (.tuple #[])) wr from ⟨v', N', rfl, HR.out.tl, by have := HR.out.n; have := HQE.out; omega, HR.out.ok, HGO.out wr v' HR.out.go⟩)
          go_wp2_with (fail)
          go_end0
          exact HF.out
        have hlt2 : decide (fi + pr < en) = true := decide_eq_true hlt
        have hkk2 : kk ≤ 2 := by have := HEN.out; omega
        have HFL := Lib.hid (full_any B tb sn sc A v' (N ++ N') wr HR.out.tl (by rw [List.length_append]; have := HR.out.n; have := HQE.out; omega))
        go_wp2_with (fail)
        refine HFL.out.mono ?_
        rintro e w1 ⟨rfl, hw1⟩
        rw [← hw1]
        clear hw1 w1
        have HFR := Lib.hid (free_any x L vl (fi + pr) wr (HKX.out wr v' HR.out.go) has)
        obtain ⟨tw, eto⟩ : ∃ fz, fz = freP L.as_ (fi + pr) := ⟨_, rfl⟩
        have hto1 : fi + pr ≤ tw := by rw [eto]; exact freP_ge _ _
        have hto2 : tw ≤ 400000000000 := by rw [eto]; exact freP_bound _ _ _ (fun a ha => by have := HAB.out a ha; omega) (by have := HEN.out; omega)
        rw [← eto] at HFR
        have HFZ := Lib.hid (show tw = fi + pr → ∀ a ∈ L.as_, ¬ (a.1 ≤ fi + pr ∧ fi + pr < a.2) from fun h => freP_out _ _ (eto ▸ h))
        clear eto
        go_wp2_with (fail)
        refine HFR.out.mono ?_
        rintro e w6 ⟨rfl, hb6⟩
        have HR6 := Lib.hid (HR.out.below hb6 (Int.le_refl _))
        have hs6 := hb6.size
        clear hb6 d1 d2 d3 d4 hgl' hgw'
        obtain ⟨d1, d2, d3, d4, hgl', hgw'⟩ := HKL.out w6 v' HR6.out.go
        by_cases hgt : fi + pr < tw
        case pos =>
          obtain ⟨k2, ek2⟩ : ∃ k2, k2 = (tw - fi + ev - 1) / ev := ⟨_, rfl⟩
          have hsk := skip_next (d := tw - fi) (ev := ev) (kk := kk) (by omega) (by have := HPR.out; omega)
          rw [← ek2] at hsk
          have hk2u : k2 ≤ 1000000000 := by
            have h1 : k2 * 1000 ≤ k2 * ev := Int.mul_le_mul_of_nonneg_left hev2.1 (by omega)
            omega
          have hz1 : IntKind.i64.wrap (tw - fi) = tw - fi := by rw [IntKind.wrap_i64]; omega
          have hz2 : IntKind.i64.wrap (tw - fi + ev) = tw - fi + ev := by rw [IntKind.wrap_i64]; omega
          have hz3 : IntKind.i64.wrap (tw - fi + ev - 1) = tw - fi + ev - 1 := by rw [IntKind.wrap_i64]; omega
          have hz4 : (tw - fi + ev - 1).tdiv ev = k2 := by rw [ek2]; exact Int.tdiv_eq_ediv_of_nonneg (by omega)
          have hz5 : (tw - fi + ev - 1) / ev = k2 := ek2.symm
          have hz6 : IntKind.i64.wrap k2 = k2 := by rw [IntKind.wrap_i64]; omega
          have HK2 := Lib.hid (show 1 ≤ k2 ∧ k2 ≤ 1000000000 ∧ k2 * ev ≤ 1000000000000 ∧ kk + 1 ≤ k2 from ⟨by omega, hk2u, by omega, hsk.1⟩)
          have HRn := Lib.hid (HR6.out.below (Below.refl _ _) (show Q + min (kk - 1) 2 ≤ Q + min (k2 - 1) 2 by omega))
          clear ek2 hsk hk2u
          go_wp2_with (fail)
          go_roundw
          case rel => exact ⟨k2, v', N', rfl, HK2.out.1, HK2.out.2.1, HK2.out.2.2.1, HRn.out⟩
          case measure => have := HK2.out; simp [intOf]; omega
        have htw : tw = fi + pr := by omega
        have HAS := Lib.hid (HFZ.out htw)
        subst htw
        obtain ⟨rb, ro, era, hrb, hD⟩ := (HKR.out w6 v' HR6.out.go).posR rgC_len (by omega) (by have := HG.out.2; omega)
        cases era
        have e1 : w6.cell? ⟨rb, ro + (q - 1) * 2 + 1, none⟩ = some (.string (tmT z2)) := rec_cell rgC_len hD (q - 1) _ HZ2.out 1 _ rfl
        have hrb6 : rb < w6.heap.size := by have := HBS.out; omega
        clear hD
        have HTE := Lib.hid (tell_any S B tb sn sc x L.d L.r z2 (fi + pr) ((q - 1 : Nat) : Int) A v' (N ++ N') w6 HR6.out.tl (by rw [List.length_append]; have := HR6.out.n; have := HQE.out; omega) hL hL2 (HKS.out w6 v' HR6.out.go) htB (by have := HBS.out; have := HR6.out.go.gr.size; omega) (HX01.out w6 (HKX.out w6 v' HR6.out.go)).1 (HX01.out w6 (HKX.out w6 v' HR6.out.go)).2 hxB.1 hxB.2 (by omega))
        go_wp2_with (fail)
        refine HTE.out.mono ?_
        intro e w7 hT
        obtain ⟨rfl, v7, N7, h7⟩ := HR6.out.tell (q' := Q + min (kk + 1 - 1) 2) (Below.refl _ _) hT ⟨rfl, rfl, by show f ≤ fi + pr; omega, by have := HEN.out; show fi + pr < u; omega, HAS.out, HZ.out.t, rfl⟩ (by omega)
        have HR7 := Lib.hid h7
        have hwk : IntKind.i64.wrap (kk + 1) = kk + 1 := by rw [IntKind.wrap_i64]; omega
        have HKE := Lib.hid (show (kk + 1) * ev ≤ 1000000000000 from by rw [hpr1]; have := HEN.out; omega)
        clear hT h7 d1 d2 d3 d4 hgl' hgw' e1
        go_wp2_with (fail)
        go_roundw
        case rel => exact ⟨kk + 1, v7, N7, rfl, by omega, by omega, HKE.out, HR7.out⟩
        case measure => simp [intOf]; omega
end Go.Proofs.YtgdnedhcbjonkaaGreatDoor

/- The shelf's SlLaysF0.n6 at this program. -/
namespace Go.Proofs.YtgdnedhcbjonkaaGreatDoor
open Go.RowKit Go.Shelf

def layNt_ren : Go.Shelf.Ren := ⟨fun | 6 => 64 | 15 => 91 | 14 => 104 | 28 => 146 | 29 => 147 | 20 => 162 | 21 => 163 | 22 => 164 | 23 => 165 | 24 => 166 | 25 => 167 | 26 => 168 | 27 => 169 | 46 => 201 | 47 => 191 | 48 => 192 | 49 => 202 | 50 => 203 | 57 => 228 | n => n, fun | 22 => 51 | 24 => 150 | 25 => 151 | 3 => 3 | 39 => 176 | 0 => 0 | 53 => 235 | 55 => 237 | 4 => 4 | 46 => 229 | 45 => 228 | 50 => 223 | 5 => 5 | 9 => 9 | 66 => 273 | 70 => 277 | 76 => 294 | 77 => 295 | n => n, fun  | n => n⟩
theorem layNt : SlLaysF0.n6 Tryz.prog layNt_ren := {
  mixed := by kernel_rfl,
  f6 := ⟨Tryz.f64.name, by kernel_rfl, Tryz.func64.trans (congrArg some (by kernel_rfl))⟩,
  f14 := ⟨Tryz.f104.name, by kernel_rfl, Tryz.func104.trans (congrArg some (by kernel_rfl))⟩,
  f15 := Tryz.func91.trans (congrArg some (by kernel_rfl)),
  f20 := ⟨Tryz.f162.name, by kernel_rfl, Tryz.func162.trans (congrArg some (by kernel_rfl))⟩,
  f21 := ⟨Tryz.f163.name, by kernel_rfl, Tryz.func163.trans (congrArg some (by kernel_rfl))⟩,
  f22 := ⟨Tryz.f164.name, by kernel_rfl, Tryz.func164.trans (congrArg some (by kernel_rfl))⟩,
  f23 := ⟨Tryz.f165.name, by kernel_rfl, Tryz.func165.trans (congrArg some (by kernel_rfl))⟩,
  f24 := ⟨Tryz.f166.name, by kernel_rfl, Tryz.func166.trans (congrArg some (by kernel_rfl))⟩,
  f25 := ⟨Tryz.f167.name, by kernel_rfl, Tryz.func167.trans (congrArg some (by kernel_rfl))⟩,
  f26 := ⟨Tryz.f168.name, by kernel_rfl, Tryz.func168.trans (congrArg some (by kernel_rfl))⟩,
  f27 := ⟨Tryz.f169.name, by kernel_rfl, Tryz.func169.trans (congrArg some (by kernel_rfl))⟩,
  f28 := Tryz.func146.trans (congrArg some (by kernel_rfl)),
  f29 := Tryz.func147.trans (congrArg some (by kernel_rfl)),
  f46 := ⟨Tryz.f201.name, by kernel_rfl, Tryz.func201.trans (congrArg some (by kernel_rfl))⟩,
  f47 := Tryz.func191.trans (congrArg some (by kernel_rfl)),
  f48 := Tryz.func192.trans (congrArg some (by kernel_rfl)),
  f49 := ⟨Tryz.f202.name, by kernel_rfl, Tryz.func202.trans (congrArg some (by kernel_rfl))⟩,
  f50 := ⟨Tryz.f203.name, by kernel_rfl, Tryz.func203.trans (congrArg some (by kernel_rfl))⟩,
  f57 := ⟨Tryz.f228.name, by kernel_rfl, Tryz.func228.trans (congrArg some (by kernel_rfl))⟩,
  t0 := Tryz.underlying0,
  a0 := Tryz.isAgg0,
  z0 := Tryz.sizeOf0,
  v0 := Tryz.zeroValue0,
  t3 := Tryz.underlying3,
  a3 := Tryz.isAgg3,
  z3 := Tryz.sizeOf3,
  v3 := Tryz.zeroValue3,
  t4 := Tryz.underlying4,
  a4 := Tryz.isAgg4,
  z4 := Tryz.sizeOf4,
  v4 := Tryz.zeroValue4,
  t5 := Tryz.underlying5,
  a5 := Tryz.isAgg5,
  z5 := Tryz.sizeOf5,
  v5 := Tryz.zeroValue5,
  t9 := Tryz.underlying9,
  a9 := Tryz.isAgg9,
  z9 := Tryz.sizeOf9,
  v9 := Tryz.zeroValue9,
  t22 := Tryz.underlying51,
  a22 := Tryz.isAgg51,
  z22 := Tryz.sizeOf51,
  v22 := Tryz.zeroValue51,
  t25 := Tryz.underlying151,
  a25 := Tryz.isAgg151,
  z25 := Tryz.sizeOf151,
  v25 := Tryz.zeroValue151,
  t39 := Tryz.underlying176,
  a39 := Tryz.isAgg176,
  z39 := Tryz.sizeOf176,
  v39 := Tryz.zeroValue176,
  t45 := Tryz.underlying228,
  a45 := Tryz.isAgg228,
  z45 := Tryz.sizeOf228,
  v45 := Tryz.zeroValue228,
  t46 := Tryz.underlying229,
  a46 := Tryz.isAgg229,
  z46 := Tryz.sizeOf229,
  v46 := Tryz.zeroValue229,
  t50 := Tryz.underlying223,
  a50 := Tryz.isAgg223,
  z50 := Tryz.sizeOf223,
  v50 := Tryz.zeroValue223,
  t53 := Tryz.underlying235,
  a53 := Tryz.isAgg235,
  z53 := Tryz.sizeOf235,
  v53 := Tryz.zeroValue235,
  t55 := Tryz.underlying237,
  a55 := Tryz.isAgg237,
  z55 := Tryz.sizeOf237,
  v55 := Tryz.zeroValue237,
  t66 := Tryz.underlying273,
  a66 := Tryz.isAgg273,
  z66 := Tryz.sizeOf273,
  v66 := Tryz.zeroValue273,
  t70 := Tryz.underlying277,
  a70 := Tryz.isAgg277,
  z70 := Tryz.sizeOf277,
  v70 := Tryz.zeroValue277,
  t76 := Tryz.underlying294,
  a76 := Tryz.isAgg294,
  z76 := Tryz.sizeOf294,
  v76 := Tryz.zeroValue294,
  t77 := Tryz.underlying295,
  a77 := Tryz.isAgg295,
  z77 := Tryz.sizeOf295,
  v77 := Tryz.zeroValue295 }
end Go.Proofs.YtgdnedhcbjonkaaGreatDoor

/- slices.SortFunc of notices, however many: what the row holds is the same in another order. -/
namespace Go.Proofs.YtgdnedhcbjonkaaGreatDoor
open Go.RowKit Go.Shelf Go.Sort

def cfN (x y : Nt) : Int := orI [cmpI x.at_ y.at_, cbT (aldT x.d) (aldT y.d), cbT (alrT x.r) (alrT y.r)]
def NtL (x y : Nt) : Prop := x.at_ < y.at_ ∨ x.at_ = y.at_ ∧ (min x.d 2 < min y.d 2 ∨ min x.d 2 = min y.d 2 ∧ min x.r 1 < min y.r 1)
theorem cfN_lt (x y : Nt) : cfN x y < 0 ↔ NtL x y := by
  unfold cfN NtL
  rw [ald_cmpM, alr_cmpM]
  simp only [orI, cmpI]
  repeat' split
  all_goals omega
theorem swoN : SWO (ltOf cfN) where
  irrefl x := by
    unfold ltOf
    have := cfN_lt x x
    unfold NtL at this
    simp
    omega
  trans x y z h1 h2 := by
    unfold ltOf at *
    have e1 := cfN_lt x y
    have e2 := cfN_lt y z
    have e3 := cfN_lt x z
    unfold NtL at *
    simp at *
    omega
  ntrans x y z h1 h2 := by
    unfold ltOf at *
    have e1 := cfN_lt x y
    have e2 := cfN_lt y z
    have e3 := cfN_lt x z
    unfold NtL at *
    simp at *
    omega
set_option maxRecDepth 100000 in
set_option maxHeartbeats 1000000 in
theorem orderN_grow (x y : Nt) (w : World) : Calls Tryz.prog 65 #[.agg (ntC x).toArray, .agg (ntC y).toArray] w fun e w' => e = .returned (.int .i64 (cfN x y)) ∧ ∃ q os', w' = grow (w.drewN q) os' := by
  have HD := Lib.hid (fun V => scompare_any (aldT x.d) (aldT y.d) V)
  have HR := Lib.hid (fun V => scompare_any (alrT x.r) (alrT y.r) V)
  have HC := Lib.hid (fun V => compare_any x.at_ y.at_ V)
  show Calls Tryz.prog 65 #[.agg #[.int .i64 x.at_, .string (aldT x.d), .string (alrT x.r), .string (tmT x.t), .string (alwT x.b), .int .i64 x.k], .agg #[.int .i64 y.at_, .string (aldT y.d), .string (alrT y.r), .string (tmT y.t), .string (alwT y.b), .int .i64 y.k]] w _
  unfold cfN cbT
  generalize Lib.compareBytes (aldT x.d).data.toList (aldT y.d).data.toList = r1 at HD ⊢
  generalize Lib.compareBytes (alrT x.r).data.toList (alrT y.r).data.toList = r2 at HR ⊢
  generalize cmpI x.at_ y.at_ = r0 at HC ⊢
  obtain ⟨x0, xd, xr, xt, xb, x5⟩ := x
  obtain ⟨y0, yd, yr, yt, yb, y5⟩ := y
  simp only at HC HD HR ⊢
  generalize aldT xd = x1 at HD ⊢
  generalize aldT yd = y1 at HD ⊢
  generalize alrT xr = x2 at HR ⊢
  generalize alrT yr = y2 at HR ⊢
  generalize tmT xt = x3
  generalize tmT yt = y3
  generalize alwT xb = x4
  generalize alwT yb = y4
  go_enter Tryz.func65, Tryz.ntmps65
  go_wp2_with (fail)
  generalize hW : ((w.alloc (.cells #[.int .i64 x0, .string x1, .string x2, .string x3, .string x4, .int .i64 x5] 150)).alloc (.cells #[.int .i64 y0, .string y1, .string y2, .string y3, .string y4, .int .i64 y5] 150)) = W
  have hG : W = grow (w.drewN 0) #[.cells #[.int .i64 x0, .string x1, .string x2, .string x3, .string x4, .int .i64 x5] 150, .cells #[.int .i64 y0, .string y1, .string y2, .string y3, .string y4, .int .i64 y5] 150] := by rw [← hW, alloc_eq_grow, alloc_eq_grow, grow_grow]; rfl
  have hx : W.heap[w.heap.size]? = some (.cells #[.int .i64 x0, .string x1, .string x2, .string x3, .string x4, .int .i64 x5] 150) := by
    rw [← hW, Below.heap_alloc _ _ _ (by simp)]; exact heap_new w _
  have hy : W.heap[w.heap.size + 1]? = some (.cells #[.int .i64 y0, .string y1, .string y2, .string y3, .string y4, .int .i64 y5] 150) := by
    rw [← hW]; have := heap_new (w.alloc (.cells #[.int .i64 x0, .string x1, .string x2, .string x3, .string x4, .int .i64 x5] 150)) (.cells #[.int .i64 y0, .string y1, .string y2, .string y3, .string y4, .int .i64 y5] 150); simpa using this
  have p0 : W.cell? ⟨w.heap.size, 0, none⟩ = some (.int .i64 x0) := cell_of_blk hx rfl
  have p1 : W.cell? ⟨w.heap.size, 1, none⟩ = some (.string x1) := cell_of_blk hx rfl
  have p2 : W.cell? ⟨w.heap.size, 2, none⟩ = some (.string x2) := cell_of_blk hx rfl
  have q0 : W.cell? ⟨w.heap.size + 1, 0, none⟩ = some (.int .i64 y0) := cell_of_blk hy rfl
  have q1 : W.cell? ⟨w.heap.size + 1, 1, none⟩ = some (.string y1) := cell_of_blk hy rfl
  have q2 : W.cell? ⟨w.heap.size + 1, 2, none⟩ = some (.string y2) := cell_of_blk hy rfl
  have HG := Lib.hid hG
  clear hW hx hy hG
  refine wp_region_still_tail 15 (by kernel_rfl) (by kernel_rfl) ?_
  simp only [List.take_succ_cons, List.take_zero, List.drop_succ_cons, List.drop_zero]
  change wpStill _ _ W.drew _ _ _
  repeat still_step
  still_call (flip_ (HC.out _))
  repeat still_step
  still_call (flip_ (HD.out _))
  repeat still_step
  still_call (flip_ (HR.out _))
  try refine wpStill_nil ?_
  have hsz' : W.drew.heap.size = W.heap.size := rfl
  go_wp2_with (fail)
  have hcs : Cells (W.alloc (.cells #[.int .i64 r0, .int .i64 r1, .int .i64 r2] 3)).drew W.heap.size 0 ([r0, r1, r2].map (Value.int .i64)) := Cells.new W #[.int .i64 r0, .int .i64 r1, .int .i64 r2] 3 (0, 0) _ rfl
  refine (or_any [r0, r1, r2] 3 3 W.heap.size _ rfl (by omega) hcs).mono ?_
  rintro e w' ⟨rfl, rfl⟩
  go_wp2_with (fail)
  go_ret
  refine ⟨rfl, 1, #[.cells #[.int .i64 x0, .string x1, .string x2, .string x3, .string x4, .int .i64 x5] 150, .cells #[.int .i64 y0, .string y1, .string y2, .string y3, .string y4, .int .i64 y5] 150] ++ #[.cells #[.int .i64 r0, .int .i64 r1, .int .i64 r2] 3], ?_⟩
  rw [HG.out, alloc_eq_grow, grow_grow]
  rfl
theorem bitsLenN (n : Nat) (W : World) (h : n ≤ 12) : Calls Tryz.prog (layNt_ren.f 15) #[.int .u64 n] W fun e w' => (∃ l : Int, e = .returned (.int .i64 l)) ∧ w' = W :=
  (Any.bits_Len (SlLaysF0.n15.bits (P := Tryz.prog) (ρ := layNt_ren) { layNt with }) n W (by omega) (by omega)).mono fun _ _ ⟨he, hw⟩ => ⟨⟨_, he⟩, hw⟩
theorem insN_none (p : Option Addr) (cap : Nat) (fv : Value) (w : World) : Calls Tryz.prog 162 #[.slice p 0 cap, .int .i64 0, .int .i64 0, fv] w fun e w' => e = .returned (.tuple #[]) ∧ w' = w := by
  go_enter Tryz.func162, Tryz.ntmps162
  go_wp2_with (fail)
  refine wp_loop_rounds 1 ?_
  rw [rounds_succ]
  go_wp2_with (fail)
  go_end0
  exact ⟨rfl, rfl⟩
theorem pdqN_none (p : Option Addr) (cap : Nat) (lim : Int) (fv : Value) (w : World) : Calls Tryz.prog 104 #[.slice p 0 cap, .int .i64 0, .int .i64 0, .int .i64 lim, fv] w fun e w' => e = .returned (.tuple #[]) ∧ w' = w := by
  go_enter Tryz.func104, Tryz.ntmps104
  go_wp2_with (fail)
  refine wp_loop_rounds 1 ?_
  rw [rounds_succ]
  go_wp2_with (go_at_call 162; refine (insN_none _ _ _ _).mono ?_; rintro e w' ⟨rfl, rfl⟩)
  (try simp only [Exit.inBlock, Exit.then]); refine bodyPost_ret (results_none rfl _ _ _) rfl ?_
  exact ⟨rfl, rfl⟩
theorem sortN_none (p : Option Addr) (cap : Nat) (fv : Value) (w : World) : Calls Tryz.prog 64 #[.slice p 0 cap, fv] w fun e w' => e = .returned (.tuple #[]) ∧ w' = w := by
  have hl := fun W => bitsLenN 0 W (by omega)
  change ∀ W, Calls Tryz.prog 91 _ W _ at hl
  go_enter Tryz.func64, Tryz.ntmps64
  go_wp2_with (first | (go_at_call 91; refine (hl _).mono ?_; rintro e w' ⟨⟨l, rfl⟩, rfl⟩) | (go_at_call 104; refine (pdqN_none _ _ _ _ _).mono ?_; rintro e w' ⟨rfl, rfl⟩))
  go_end0
  exact ⟨rfl, rfl⟩
def SortNPost (l : List Nt) (n base : Nat) (v : Value) (w : World) (e : Ending) (w' : World) : Prop :=
  e = .returned (.tuple #[]) ∧ ∃ m : List Nt, m.Perm l ∧ m.length = n ∧ w'.ownsRow base 150 6 v n (recs ntC m) ∧ w.grownBy w' v.ownBlock
theorem sortN_any (l : List Nt) (n c base : Nat) (A : Option Addr) (w : World) (hn : l.length = n) (h12 : n ≤ 100000) (ho : w.ownsRow base 150 6 (.slice A n c) n (recs ntC l)) :
    Calls Tryz.prog 64 #[.slice A n c, .func (.func 65) #[] #[]] w fun e w' => SortNPost l n base (.slice A n c) w e w' := by
  rcases own_two ho with ⟨rfl, rfl, rfl⟩ | ⟨b, rfl, hb, hlt⟩
  · refine (sortN_none none 0 _ w).mono ?_
    rintro e w' ⟨rfl, rfl⟩
    have hl := List.eq_nil_of_length_eq_zero hn
    subst hl
    exact ⟨rfl, [], List.Perm.refl _, rfl, ho, grown_refl _ _⟩
  · have eg : ∀ args w, (callFunc 65 args).run Tryz.prog w = .ok (.enter 65 args) w := enters_of Tryz.func65 (by kernel_rfl) rfl
    have hcmp : CmpLays Tryz.prog 65 #[] ntC 6 cfN b 0 l.toArray.size w := fun m os dk _ x y => orderN_grow x y _
    have h := AnyQ.slices_SortFunc layNt 6 Tryz.isAgg150 Tryz.sizeOf150 ntC ntC_len ntC_one cfN swoN 65 #[] b 0 c l.toArray w eg hcmp (holdsK_of_own ntC_len ho hn) hlt (by simp [hn]; omega)
    have hsz : l.toArray.size = n := by simpa using hn
    rw [hsz] at h
    refine h.mono ?_
    rintro e w' ⟨rfl, d', q, os, hp, hs, rfl⟩
    rw [← hsz] at hp hs
    obtain ⟨h1, h2, h3⟩ := sorted_list hp hs
    obtain ⟨m, rfl⟩ : ∃ m : List Nt, d' = m.toArray := ⟨d'.toList, by simp⟩
    exact ⟨rfl, m, by simpa using h1, by simpa [hn] using h2, own_sortedK ntC_len ho (by simpa [hn] using h2) q os, grown_sortedK _⟩
end Go.Proofs.YtgdnedhcbjonkaaGreatDoor

/- alarm.Notices by its contract: who is told, when, and who is on call then. -/
namespace Go.Proofs.YtgdnedhcbjonkaaGreatDoor
open Go.RowKit Go.Shelf Go.Sort

theorem setLast_le {l : List (Int × Int)} {t q : Int} (h : ∀ a ∈ l, a.2 ≤ q) (ht : t ≤ q) : ∀ a ∈ setLast l t, a.2 ≤ q := by
  by_cases hne : l = []
  · subst hne
    intro a ha
    have e : a = (0, t) := by simpa [setLast] using ha
    rw [e]
    exact ht
  · obtain ⟨a, x, rfl⟩ := snoc_of_ne hne
    rw [setLast_snoc]
    intro y hy
    rcases List.mem_append.1 hy with hy | hy
    · exact h y (List.mem_append_left _ hy)
    · rw [List.mem_singleton] at hy
      rw [hy]
      exact ht
theorem as_bound (t : Int) (n : Nm2) : ∀ (l : List Sg) (L : Lf), (∀ s ∈ l, SgR s) → (∀ a ∈ L.as_, a.2 ≤ 345686400000) → ∀ a ∈ (l.foldl (lifeStep t n) L).as_, a.2 ≤ 345686400000
  | [], L, _, h => h
  | s :: l, L, hs, h => by
    rw [List.foldl_cons]
    refine as_bound t n l _ (fun q hq => hs q (List.mem_cons_of_mem _ hq)) ?_
    unfold lifeStep
    split
    · have hr := hs s (by simp)
      have hun : s.un ≤ 345686400000 := by
        by_cases hk : s.kd = 4
        · exact (hr.shelf hk).2.2
        · rw [hr.plain hk]; decide
      rcases follow_aside L s with ⟨k, _⟩ | ⟨k, _⟩ | ⟨k, _⟩ <;> rw [k]
      · exact h
      · intro a ha
        rcases List.mem_append.1 ha with ha | ha
        · exact h a ha
        · rw [List.mem_singleton] at ha
          rw [ha]
          exact hun
      · exact setLast_le h (by have := hr.at1; omega)
    · exact h
/-- Who is told. -/
def TdN (l : List Sg) (S : List Sf) (z : Nt) : Prop := NmOk (z.d, z.r) ∧ ∃ u ∈ (lifeAt l 345686400000 (z.d, z.r)).fr, TdOk (lifeAt l 345686400000 (z.d, z.r)) u.1 u.2 S z
theorem TdN.of {l : List Sg} {S : List Sf} {n : Nm2} {u : Int × Int} {z : Nt} (hn : NmOk n) (hu : u ∈ (lifeAt l 345686400000 n).fr) (hz : TdOk (lifeAt l 345686400000 n) u.1 u.2 S z) : TdN l S z := by
  have h1 := lifeAt_name l 345686400000 n
  have h2 := hz.d
  have h3 := hz.r
  have e : (z.d, z.r) = n := by rw [h2, h3, h1.1, h1.2]
  unfold TdN
  rw [e]
  exact ⟨hn, u, hu, hz⟩
def NoticesP (w : World) (l : List Sg) (S : List Sf) (e : Ending) (w' : World) : Prop :=
  ∃ (N : List Nt) (A : Option Addr) (c n : Nat), e = .returned (.tuple #[.slice A n c, .int .i64 0]) ∧ N.length = n ∧ w'.ownsRow w.heap.size 150 6 (.slice A n c) n (recs ntC N) ∧ (∀ z ∈ N, TdN l S z) ∧ n ≤ 4900 ∧ Below w.heap.size w w'
/-- What a life says that the walk reads. -/
structure FrB (L : Lf) : Prop where
  fr : ∀ u ∈ L.fr, 0 ≤ u.1 ∧ u.1 ≤ u.2 ∧ u.2 ≤ 345686400000
  as_ : ∀ a ∈ L.as_, a.2 ≤ 345686400000
  n1 : L.fr.length ≤ 20
  n2 : L.as_.length ≤ 20
theorem frB_any {l : List Sg} (h : SgsOk l) (hn : l.length ≤ 20) (n : Nm2) : FrB (lifeAt l 345686400000 n) := by
  have hv := fun s hs => (h.1 s hs).v
  have hk := lifeAt_ok 345686400000 n l hv
  obtain ⟨⟨cl, op, hi⟩, _⟩ := fresh_aside n h
  refine ⟨fun u hu => ?_, ?_, Nat.le_trans (hk.len 2 (by omega)) hn, Nat.le_trans (hk.len 3 (by omega)) hn⟩
  · have hu' : u ∈ cl ++ op := by rw [← hi.fr]; exact hu
    exact hi.rng u hu'
  · exact as_bound _ _ l _ h.1 (by simp [newL])
/-- Between two rounds. -/
structure NtR (l : List Sg) (S : List Sf) (w4 : World) (tb : Nat) (SA : Option Addr) (sn sc : Nat) (k : Nat) (wr : World) (v : Value) (N : List Nt) : Prop where
  tl : TlI wr w4.heap.size tb SA sn sc v N
  go : TlGo tb w4 wr (.slice none 0 0) v
  n : N.length ≤ k
  ok : ∀ z ∈ N, TdN l S z
theorem NtR.below {l : List Sg} {S : List Sf} {w4 : World} {tb : Nat} {SA : Option Addr} {sn sc k k' : Nat} {wr w' : World} {v : Value} {N : List Nt} (h : NtR l S w4 tb SA sn sc k wr v N) (hb : Below wr.heap.size wr w') (hk : k ≤ k') : NtR l S w4 tb SA sn sc k' w' v N :=
  ⟨⟨(hb.block tb (Array.getElem?_eq_some_iff.1 h.tl.blk).1).trans h.tl.blk, own_belowP h.tl.row hb⟩, h.go.below hb, Nat.le_trans h.n hk, h.ok⟩
theorem NtR.old {l : List Sg} {S : List Sf} {w4 : World} {tb : Nat} {SA : Option Addr} {sn sc k : Nat} {wr : World} {v : Value} {N : List Nt} (h : NtR l S w4 tb SA sn sc k wr v N) {b : Nat} (hb : b < w4.heap.size) (ht : b ≠ tb) : wr.heap[b]? = w4.heap[b]? :=
  h.go.gr.block b hb (fun e => e.elim ht (fun e => by cases e))
theorem NtR.climb {l : List Sg} {S : List Sf} {w4 : World} {tb : Nat} {SA : Option Addr} {sn sc k k' m : Nat} {wr w' : World} {v : Value} {N : List Nt} {e : Ending} {n : Nm2} {u : Int × Int} (h : NtR l S w4 tb SA sn sc k wr v N) (hn : NmOk n) (hu : u ∈ (lifeAt l 345686400000 n).fr)
    (hc : ClimbP w4.heap.size tb SA sn sc v N (lifeAt l 345686400000 n) u.1 u.2 S m wr e w') (hk : k + (m + 2) ≤ k') : e = .returned (.tuple #[]) ∧ ∃ v' N', NtR l S w4 tb SA sn sc k' w' v' N' ∧ TlGo tb wr w' v v' := by
  obtain ⟨v', N', he, h1, h2, h3, h4⟩ := hc
  refine ⟨he, v', N ++ N', ⟨h1, h.go.trans h4, by have := h.n; rw [List.length_append]; omega, fun z hz => ?_⟩, h4⟩
  rcases List.mem_append.1 hz with hz | hz
  · exact h.ok z hz
  · exact TdN.of hn hu (h3 z hz)
set_option maxRecDepth 100000 in
set_option maxHeartbeats 8000000 in
theorem notices_any (l : List Sg) (n c : Nat) (A : Option Addr) (D : List Ld) (dn dc : Nat) (DA : Option Addr) (S : List Sf) (sn sc : Nat) (SA : Option Addr) (w : World)
    (hl : SgsOk l) (hn : l.length = n) (hn2 : n ≤ 20) (hr : Row w w.heap.size A (recs sgC l))
    (hD : D.length = dn) (hD2 : dn ≤ 100) (hDr : Row w w.heap.size DA (recs ldC D)) (hDr2 : ∀ x ∈ D, Row w w.heap.size x.A (recs rgC x.g)) (hDg : LdsOk D)
    (hS : S.length = sn) (hS2 : sn ≤ 1000) (hSr : Row w w.heap.size SA (recs sfC S)) (hSg : SfsOk S) :
    Calls Tryz.prog 14 #[.slice A n c, .slice DA dn dc, .slice SA sn sc, .agg #[.int .i64 0, .int .i64 500]] w fun e w' => NoticesP w l S e w' := by
  obtain ⟨gw, egw⟩ : ∃ g, g = w.heap.size := ⟨_, rfl⟩
  obtain ⟨w0, e0⟩ : ∃ V : World, V = w.alloc (.cells #[.int .i64 0, .int .i64 500] 55) := ⟨_, rfl⟩
  have hb0 : Below w.heap.size w w0 := by rw [e0]; exact (Below.refl _ _).alloc (Nat.le_refl _) _
  have hg0 : w0.heap[gw]? = some (.cells #[.int .i64 0, .int .i64 500] 55 (0, 0)) := by rw [e0, egw]; exact heap_new w _
  have hgw0 : gw < w0.heap.size := (Array.getElem?_eq_some_iff.1 hg0).1
  have HB0 := Lib.hid hb0
  have HG0 := Lib.hid hg0
  have HC := Lib.hid (fun (V : World) (hV : Below w.heap.size w V) => checkSignals_any l n c A V hl hn (by omega) ((hr.below hV).mono hV.size))
  have HCL := Lib.hid (fun (V : World) (hV : Below w.heap.size w V) => checkLadders_any D dn dc DA V hD hD2 ((hDr.below hV).mono hV.size) (fun x hx => ((hDr2 x hx).below hV).mono hV.size) hDg)
  have HCS := Lib.hid (fun (V : World) (hV : Below w.heap.size w V) => checkShifts_any S sn sc SA V hS hS2 ((hSr.below hV).mono hV.size) hSg)
  have HFI := Lib.hid (fun (V : World) => first_ok 3 3 V.heap.size (V.alloc (.cells #[.int .i64 0, .int .i64 0, .int .i64 0] 39)) (by omega) (Cells.new V _ _ _ _ rfl))
  have HA := Lib.hid (fun (V : World) (hV : Below w.heap.size w V) => at_any l n c 345686400000 A V hn (by omega) ((hr.below hV).mono hV.size) (fun s hs => (hl.1 s hs).v))
  have HFB := Lib.hid (fun m => frB_any hl (by omega) m)
  have HLD := Lib.hid (show D.length = dn ∧ (∀ x ∈ D, LdR x) from ⟨hD, fun x hx => hDg.mem hx⟩)
  have HDR := Lib.hid hDr
  have HDR2 := Lib.hid hDr2
  have HSR := Lib.hid (And.intro hS (And.intro hS2 hSr))
  clear hl hn hr hD hDr hDr2 hDg hS hS2 hSr hSg hb0 hg0
  go_enter Tryz.func14, Tryz.ntmps14
  go_upto_region 1 with (fail)
  rw [← egw, ← e0]
  clear e0
  have HWS := Lib.hid egw
  clear egw
  go_wp2_with (fail)
  refine (HC.out w0 HB0.out).mono ?_
  rintro e w1 ⟨rfl, hB1⟩
  have HB1 := Lib.hid (HB0.out.trans (hB1.mono HB0.out.size))
  have HG1 := Lib.hid ((hB1.block gw hgw0).trans HG0.out)
  have hgw1 : gw < w1.heap.size := (Array.getElem?_eq_some_iff.1 HG1.out).1
  clear hB1
  go_wp2_with (fail)
  refine (HCL.out w1 HB1.out).mono ?_
  rintro e w2 ⟨rfl, hB2⟩
  have HB2 := Lib.hid (HB1.out.trans (hB2.mono HB1.out.size))
  have HG2 := Lib.hid ((hB2.block gw hgw1).trans HG1.out)
  have hgw2 : gw < w2.heap.size := (Array.getElem?_eq_some_iff.1 HG2.out).1
  clear hB2
  go_wp2_with (fail)
  refine (HCS.out w2 HB2.out).mono ?_
  rintro e w3 ⟨rfl, hB3⟩
  have HB3 := Lib.hid (HB2.out.trans (hB3.mono HB2.out.size))
  have HG3 := Lib.hid ((hB3.block gw hgw2).trans HG2.out)
  have hgw3 : gw < w3.heap.size := (Array.getElem?_eq_some_iff.1 HG3.out).1
  clear hB3
  go_wp2_with (fail)
  refine (HFI.out w3).mono ?_
  rintro e w5 ⟨rfl, hw5⟩
  have hb5 : Below w3.heap.size w3 w5 := by rw [← hw5]; exact (Below.refl _ _).alloc (Nat.le_refl _) _
  have HB5 := Lib.hid (HB3.out.trans (hb5.mono HB3.out.size))
  have hg5 := (hb5.block gw hgw3).trans HG3.out
  have HG5 := Lib.hid hg5
  have hgw5 : gw < w5.heap.size := (Array.getElem?_eq_some_iff.1 hg5).1
  clear hw5 hb5 hg5
  have q0 := cell_of_blk (j := 0) HG5.out rfl
  have q1 := cell_of_blk (j := 1) HG5.out rfl
  go_wp2_with (fail)
  refine (windowN_yes 0 500 w5 (by omega) (by omega) (by omega)).mono ?_
  rintro e w6 ⟨rfl, hB6⟩
  have HB6 := Lib.hid (HB5.out.trans (hB6.mono HB5.out.size))
  have hg6 := (hB6.block gw hgw5).trans HG5.out
  have HG6 := Lib.hid hg6
  have hgw6 : gw < w6.heap.size := (Array.getElem?_eq_some_iff.1 hg6).1
  clear hB6 hg6 q0 q1
  have q0 := cell_of_blk (j := 0) HG6.out rfl
  have q1 := cell_of_blk (j := 1) HG6.out rfl
  go_upto_region 7 with (fail)
  obtain ⟨tb, etb⟩ : ∃ m, m = w6.heap.size := ⟨_, rfl⟩
  obtain ⟨w7, e7⟩ : ∃ V : World, V = w6.alloc (.cells #[.slice SA sn sc, .int .i64 0, .int .i64 500, .slice none 0 0] 132) := ⟨_, rfl⟩
  rw [← etb, ← e7]
  have hb7 : Below w6.heap.size w6 w7 := by rw [e7]; exact (Below.refl _ _).alloc (Nat.le_refl _) _
  have ht7 : w7.heap[tb]? = some (.cells #[.slice SA sn sc, .int .i64 0, .int .i64 500, .slice none 0 0] 132 (0, 0)) := by rw [e7, etb]; exact heap_new w6 _
  have htl7 : tb < w7.heap.size := (Array.getElem?_eq_some_iff.1 ht7).1
  have HB7 := Lib.hid (HB6.out.trans (hb7.mono HB6.out.size))
  have hwt : w.heap.size ≤ tb := by have := HB6.out.size; omega
  have HT7 := Lib.hid ht7
  clear hb7 e7 etb ht7 q0 q1
  go_wp2_with (fail)
  refine (HA.out w7 HB7.out).mono ?_
  rintro e w4 ⟨hs, mh, o, M, rfl, hI, hord, hnm, hL, hB4⟩
  obtain ⟨E, eo, hE1, hE2⟩ := house_order2 hI hord hnm hL
  obtain ⟨Ao, co, hbo, hoo⟩ := hI.blk
  have hMl : M.length = E.length := by
    have h1 := hI.perm.length_eq
    rw [eo, List.length_map, List.length_map] at h1
    exact h1.symm
  obtain ⟨q, eq⟩ : ∃ q, q = E.length := ⟨_, rfl⟩
  have hq6 : q ≤ 6 := by
    have h1 : (E.map (·.1)).length ≤ 6 := by rw [hE1]; exact List.length_filter_le _ _
    rw [List.length_map] at h1
    omega
  rw [hMl, ← eq] at hbo hoo
  rw [eo] at hoo
  have hc1 := cell_of_blk (j := 1) hbo rfl
  have hhl := (Array.getElem?_eq_some_iff.1 hbo).1
  have HB4 := Lib.hid (HB7.out.trans (hB4.mono HB7.out.size))
  have HT4 := Lib.hid ((hB4.block tb htl7).trans HT7.out)
  have htl4 : tb < w4.heap.size := (Array.getElem?_eq_some_iff.1 HT4.out).1
  have hs4 := hB4.size
  have HE2 := Lib.hid hE2
  have HQ := Lib.hid eq.symm
  have HOO := Lib.hid hoo
  -- the rows stay
  have HOLD := Lib.hid (fun (V : World) (v' : Value) (N' : List Nt) (k : Nat) (hV : NtR l S w4 tb SA sn sc k V v' N') (b : Nat) (hb : b < w.heap.size) => show V.heap[b]? = w.heap[b]? from (hV.old (by omega) (by omega)).trans (HB4.out.block b hb))
  have HKD := Lib.hid (fun (V : World) (v' : Value) (N' : List Nt) (k : Nat) (hV : NtR l S w4 tb SA sn sc k V v' N') => show Row V tb DA (recs ldC D) from (HDR.out.keep (fun b hb => HOLD.out V v' N' k hV b hb)).mono hwt)
  have HKS := Lib.hid (fun (V : World) (v' : Value) (N' : List Nt) (k : Nat) (hV : NtR l S w4 tb SA sn sc k V v' N') => show Row V tb SA (recs sfC S) from (HSR.out.2.2.keep (fun b hb => HOLD.out V v' N' k hV b hb)).mono hwt)
  have HKG := Lib.hid (fun (V : World) (v' : Value) (N' : List Nt) (k : Nat) (hV : NtR l S w4 tb SA sn sc k V v' N') (y : Ld) (hy : y ∈ D) => show Row V tb y.A (recs rgC y.g) from ((HDR2.out y hy).keep (fun b hb => HOLD.out V v' N' k hV b hb)).mono hwt)
  clear hI hord hnm hL hB4 eo hE1 hE2 hbo hoo hMl eq
  go_wp2_with (fail)
  go_loopw [41] (fun s wr => ∃ (i : Nat) (v : Value) (N : List Nt), i ≤ q ∧ s = .int .i64 (i : Int) ∧ NtR l S w4 tb SA sn sc (i * 300) wr v N) (fun s _ => q - (intOf s).toNat)
  case atStart => exact ⟨0, .slice none 0 0, [], by omega, rfl, ⟨⟨HT4.out, World.ownsRow_nil _ _ _ _⟩, TlGo.refl _ _ _, by simp, by simp⟩⟩
  case round =>
    obtain ⟨i, v, N, hin, rfl, hR⟩ := hrel
    have HR := Lib.hid hR
    have hbs := hR.go.gr.size
    clear hR
    by_cases hlt : i < q
    · have hltI : (i : Int) < q := by omega
      obtain ⟨p, hp⟩ : ∃ p, E[i]? = some p := ⟨_, List.getElem?_eq_getElem (by have := HQ.out; omega)⟩
      obtain ⟨hnm, vl, hv, hvB⟩ := HE2.out p (List.mem_of_getElem? hp)
      obtain ⟨g, rfl, hgb, hglt⟩ : ∃ g, Ao = some ⟨g, 0, none⟩ ∧ w7.heap.size ≤ g ∧ g < w4.heap.size := by
        rcases own_two HOO.out with ⟨_, h0, _⟩ | ⟨g, h1, h2, h3⟩
        · omega
        · exact ⟨g, h1, h2, h3⟩
      have hci := own_cells0 HOO.out i (lfP p.2) (by rw [List.getElem?_map, List.getElem?_map, hp]; rfl)
      rw [Nat.zero_add] at hci
      have hciW : wr.cell? ⟨g, i, none⟩ = some (lfP p.2) := by
        rw [← hci]
        show World.cell? _ _ = _
        simp only [World.cell?, HR.out.old hglt (by omega)]
      unfold lfP at hciW
      have hgwr : g < wr.heap.size := by omega
      obtain ⟨L, eL⟩ : ∃ L, L = lifeAt l 345686400000 p.1 := ⟨_, rfl⟩
      rw [← eL] at hv
      have HFB1 := Lib.hid (show FrB L from by rw [eL]; exact HFB.out p.1)
      have HNM := Lib.hid (And.intro hnm eL)
      have HV := Lib.hid hv
      have HVB := Lib.hid hvB
      obtain ⟨x, ex⟩ : ∃ x, x = p.2 := ⟨_, rfl⟩
      rw [← ex] at hciW HV HVB
      have hxB : w7.heap.size ≤ x ∧ x < w4.heap.size := ⟨HVB.out x (.inl rfl), HV.out.lt⟩
      -- the life stays
      have HKX := Lib.hid (fun (V : World) (v' : Value) (N' : List Nt) (k : Nat) (hV : NtR l S w4 tb SA sn sc k V v' N') => show LfI V x L vl from HV.out.keep fun b hb => hV.old (HV.out.foot_lt hb) (by have := HVB.out b hb; omega))
      clear hci hnm hv hvB eL ex hp
      go_upto_region 10 with (fail)
      obtain ⟨gx, egx⟩ : ∃ g, g = wr.heap.size := ⟨_, rfl⟩
      obtain ⟨w8, e8⟩ : ∃ V : World, V = wr.alloc (.cells #[.pointer (some ⟨x, 0, none⟩)] 139) := ⟨_, rfl⟩
      rw [← egx, ← e8]
      have hb8 : Below wr.heap.size wr w8 := by rw [e8]; exact (Below.refl _ _).alloc (Nat.le_refl _) _
      have hg8 : w8.heap[gx]? = some (.cells #[.pointer (some ⟨x, 0, none⟩)] 139 (0, 0)) := by rw [e8, egx]; exact heap_new wr _
      have hlt8 := (Array.getElem?_eq_some_iff.1 hg8).1
      have hs8 := hb8.size
      have hgxB : w4.heap.size ≤ gx := by omega
      have hR8 := HR.out.below hb8 (Nat.le_refl _)
      have hX8 := HKX.out w8 v N _ hR8
      have HR8 := Lib.hid hR8
      have HG8 := Lib.hid hg8
      have HIX := Lib.hid (indexL_any D dn dc gx x (alrT L.r) DA w8 HLD.out.1 hD2 ((HKD.out w8 v N _ hR8).mono (by omega)) (cell_of_blk (j := 0) hg8 rfl) (cell_of_blk (j := 1) hX8.blk rfl) hlt8 (by omega))
      clear e8 egx hb8 hg8 hR8 hX8 hciW
      go_wp2_with (fail)
      refine HIX.out.mono ?_
      rintro e w9 ⟨z, rfl, hz, hb9⟩
      have hs9 := hb9.size
      have HR9 := Lib.hid (HR8.out.below hb9 (Nat.le_refl _))
      have HG9 := Lib.hid ((hb9.block gx hlt8).trans HG8.out)
      have hlt9 : gx < w9.heap.size := by omega
      clear hb9
      rcases hz with rfl | ⟨k, hk, rfl⟩
      · have HRn := Lib.hid (HR9.out.below (Below.refl _ _) (show i * 300 ≤ (i + 1) * 300 by omega))
        go_wp2_with (fail)
        go_roundw
        case rel => exact ⟨i + 1, v, N, by omega, by go_num, HRn.out⟩
        case measure => simp [intOf]; omega
      have hk0 : ¬ (k : Int) < 0 := by omega
      have hX9 := HKX.out w9 v N _ HR9.out
      obtain ⟨Au, cu, hvu⟩ := own_slice (hX9.row 2 (by omega))
      replace hvu : vl 2 = .slice Au L.fr.length cu := hvu
      have c7 : w9.cell? ⟨x, 7, none⟩ = some (.slice Au L.fr.length cu) := by rw [← hvu]; exact cell_of_blk (j := 7) hX9.blk rfl
      have HVU := Lib.hid hvu
      obtain ⟨nf, enf⟩ : ∃ nf, nf = L.fr.length := ⟨_, rfl⟩
      have hnf : nf ≤ 20 := by rw [enf]; exact HFB1.out.n1
      rw [← enf] at c7
      have HNF := Lib.hid enf.symm
      have hxl9 : x < w9.heap.size := by omega
      have b9 := cell_of_blk (j := 0) HG9.out rfl
      -- the ladder
      obtain ⟨y, hy⟩ : ∃ y, D[k]? = some y := ⟨_, List.getElem?_eq_getElem (by have := HLD.out.1; omega)⟩
      have HY := Lib.hid (show LdR y ∧ y ∈ D from ⟨HLD.out.2 y (List.mem_of_getElem? hy), List.mem_of_getElem? hy⟩)
      have HYK := Lib.hid hy
      have hvx : v.ownBlock ≠ some gx := fun e => own_ne HR9.out.tl.row HG9.out (by decide) e.symm
      have hgxt : gx ≠ tb := by omega
      -- the box of the life stays
      have HBX := Lib.hid (fun (V : World) (v' : Value) (hV : TlGo tb w9 V v v') => show V.heap[gx]? = some (.cells #[.pointer (some ⟨x, 0, none⟩)] 139 (0, 0)) from (hV.gr.block gx hlt9 (fun e => e.elim hgxt hvx)).trans HG9.out)
      clear hX9 hvu enf hy
      go_wp2_with (fail)
      clear c7 b9
      go_loopw [55] (fun s wx => ∃ (j : Nat) (v' : Value) (N' : List Nt), j ≤ nf ∧ s = .int .i64 (j : Int) ∧ NtR l S w4 tb SA sn sc (i * 300 + j * 12) wx v' N' ∧ TlGo tb w9 wx v v') (fun s _ => nf - (intOf s).toNat)
      case atStart => exact ⟨0, v, N, by omega, rfl, HR9.out, TlGo.refl _ _ _⟩
      case round =>
        obtain ⟨j, v', N', hjn, rfl, hR, hgo⟩ := hrel
        have HRx := Lib.hid (And.intro hR hgo)
        have hsx := hgo.gr.size
        clear hR hgo
        by_cases hj : j < nf
        · have hjI : (j : Int) < nf := by omega
          obtain ⟨u, hu⟩ : ∃ u, L.fr[j]? = some u := ⟨_, List.getElem?_eq_getElem (by have := HNF.out; omega)⟩
          have hXx := HKX.out wr v' N' _ HRx.out.1
          have hrow := hXx.row 2 (by omega)
          rw [HVU.out] at hrow
          obtain ⟨gu, rfl, hgul⟩ : ∃ g, Au = some ⟨g, 0, none⟩ ∧ g < wr.heap.size := by
            rcases own_two hrow with ⟨_, h0, _⟩ | ⟨g, h1, _, h3⟩
            · have h1 : L.fr.length = 0 := h0
              have := HNF.out; omega
            · exact ⟨g, h1, h3⟩
          have hcu := own_cells0 hrow
          have d0 := rec_cell alW_len hcu j u hu 0 _ rfl
          have d1 := rec_cell alW_len hcu j u hu 1 _ rfl
          simp only [Nat.zero_add, Nat.add_zero] at d0 d1
          have HU := Lib.hid (List.mem_of_getElem? hu)
          obtain ⟨w10, e10⟩ : ∃ V : World, V = wr.alloc (.cells #[.int .i64 u.1, .int .i64 u.2] 55) := ⟨_, rfl⟩
          obtain ⟨g10, eg10⟩ : ∃ g, g = wr.heap.size := ⟨_, rfl⟩
          have hb10 : Below wr.heap.size wr w10 := by rw [e10]; exact (Below.refl _ _).alloc (Nat.le_refl _) _
          have hg10 : w10.heap[g10]? = some (.cells #[.int .i64 u.1, .int .i64 u.2] 55 (0, 0)) := by rw [e10, eg10]; exact heap_new wr _
          have hlt10 := (Array.getElem?_eq_some_iff.1 hg10).1
          have hs10 := hb10.size
          have HR10 := Lib.hid (show NtR l S w4 tb SA sn sc (i * 300 + j * 12) w10 v' N' ∧ TlGo tb w9 w10 v v' from ⟨HRx.out.1.below hb10 (Nat.le_refl _), HRx.out.2.below hb10⟩)
          obtain ⟨rb, ro, era, hrb, hD⟩ := (HKD.out w10 v' N' _ HR10.out.1).posR ldC_len (by omega) (by have := HLD.out.1; omega)
          cases era
          have hk3 : (⟨rb, ro + k * 3, none⟩ : Addr).block < w10.heap.size := by show rb < _; omega
          have l0 : w10.cell? ⟨rb, ro + k * 3, none⟩ = some (.string (ruT y.r)) := rec_cell ldC_len hD k y HYK.out 0 _ rfl
          have l1 : w10.cell? ⟨rb, ro + k * 3 + 1, none⟩ = some (.slice y.A y.g.length y.c) := rec_cell ldC_len hD k y HYK.out 1 _ rfl
          have l2 : w10.cell? ⟨rb, ro + k * 3 + 2, none⟩ = some (.int .i64 y.ev) := rec_cell ldC_len hD k y HYK.out 2 _ rfl
          have b10 := cell_of_blk (j := 0) (HBX.out w10 v' HR10.out.2) rfl
          have hgx10 : gx < w10.heap.size := by omega
          have hrb10 : rb < w10.heap.size := by omega
          have hkD : k < dn := hk
          have HQ := Lib.hid (fun (V : World) (hV : Below w10.heap.size w10 V) => show V.cell? ⟨rb, ro + k * 3, none⟩ = some (.string (ruT y.r)) ∧ V.cell? ⟨rb, ro + k * 3 + 1, none⟩ = some (.slice y.A y.g.length y.c) ∧ V.cell? ⟨rb, ro + k * 3 + 2, none⟩ = some (.int .i64 y.ev) ∧ V.cell? ⟨gx, 0, none⟩ = some (.pointer (some ⟨x, 0, none⟩)) ∧ V.cell? ⟨g10, 0, none⟩ = some (.int .i64 u.1) ∧ V.cell? ⟨g10, 1, none⟩ = some (.int .i64 u.2) from
            ⟨(hV.cell (p := ⟨rb, ro + k * 3, none⟩) hrb10).trans l0, (hV.cell (p := ⟨rb, ro + k * 3 + 1, none⟩) hrb10).trans l1, (hV.cell (p := ⟨rb, ro + k * 3 + 2, none⟩) hrb10).trans l2, (hV.cell (p := ⟨gx, 0, none⟩) hgx10).trans b10, (hV.cell (p := ⟨g10, 0, none⟩) hlt10).trans (cell_of_blk (j := 0) hg10 rfl), (hV.cell (p := ⟨g10, 1, none⟩) hlt10).trans (cell_of_blk (j := 1) hg10 rfl)⟩)
          have hHF := HFB1.out.fr u HU.out
          have HCB := Lib.hid (fun (V : World) (hV : NtR l S w4 tb SA sn sc (i * 300 + j * 12) V v' N') => climb_any S w4.heap.size tb sn sc x SA v' N' L vl y u.1 u.2 V hV.tl (by have := hV.n; omega) HSR.out.1 HSR.out.2.1 (HKS.out V v' N' _ hV) htl4 hV.go.gr.size (HKX.out V v' N' _ hV) (fun b hb => ⟨HV.out.foot_lt hb, by have := HVB.out b hb; omega⟩) (by have := HFB1.out.n2; omega) HFB1.out.as_ HY.out.1 (HKG.out V v' N' _ hV y HY.out.2) hHF.1 hHF.2.1 hHF.2.2)
          clear hXx hrow hcu hu hb10 hD hg10 l0 l1 l2 b10
          obtain ⟨yn, eyn⟩ : ∃ m, m = y.g.length := ⟨_, rfl⟩
          rw [← eyn] at HQ HCB
          have hyn : yn ≤ 10 := by rw [eyn]; exact HY.out.1.n.2
          clear eyn
          go_upto_region 15 with (fail)
          rw [← eg10, ← e10]
          clear eg10 e10 d0 d1
          go_upto_region 15 with (fail)
          refine qRegionTail 7 (by kernel_rfl) (by kernel_rfl) ?_
          simp only [List.take_succ_cons, List.take_zero, List.drop_succ_cons, List.drop_zero]
          repeat (first
            | (go_big_quiet_want; refine qVal (fun V hV => (by (obtain ⟨q0, q1, q2, q3, q4, q5⟩ := HQ.out V hV; go_simp; try rfl))) ?_; simp only [Act.put, List.setIfInBounds_toArray, List.set_cons_zero, List.set_cons_succ]; go_big_quiet_on)
            | go_big_quiet_skip)
          refine wpQuiet_nil ?_
          intro T hT
          have hTs := hT.size
          have HRT := Lib.hid (show NtR l S w4 tb SA sn sc (i * 300 + j * 12) T v' N' ∧ TlGo tb w9 T v v' from ⟨HR10.out.1.below hT (Nat.le_refl _), HR10.out.2.below hT⟩)
          clear hT
          go_wp2_with (fail)
          refine (HCB.out T HRT.out.1).mono ?_
          intro e w11 hc
          have HU' := HU.out
          rw [HNM.out.2] at hc HU'
          obtain ⟨rfl, v2, N2, h2, h3⟩ := HRT.out.1.climb (k' := i * 300 + (j + 1) * 12) HNM.out.1 HU' hc (by omega)
          have HR11 := Lib.hid (And.intro h2 (HRT.out.2.trans h3))
          clear hc h2 h3 HU'
          have HFL := Lib.hid (full_any w4.heap.size tb sn sc SA v2 N2 w11 HR11.out.1.tl (by have := HR11.out.1.n; omega))
          go_wp2_with (fail)
          refine HFL.out.mono ?_
          rintro e w12 ⟨rfl, hw12⟩
          subst hw12
          go_wp2_with (fail)
          go_roundw
          case rel => exact ⟨j + 1, v2, N2, by omega, by go_num, HR11.out⟩
          case measure => simp [intOf]; omega
        · have hjI : ¬ (j : Int) < nf := by omega
          have HRn := Lib.hid (HRx.out.1.below (Below.refl _ _) (show i * 300 + j * 12 ≤ (i + 1) * 300 by omega))
          go_wp2_with (fail)
          go_roundw
          case rel => exact ⟨i + 1, v', N', by omega, by go_num, HRn.out⟩
          case measure => simp [intOf]; omega
    · have hltI : ¬ (i : Int) < q := by omega
      obtain ⟨vA, vc, hv⟩ := own_slice HR.out.tl.row
      subst hv
      obtain ⟨m, em⟩ : ∃ m, m = N.length := ⟨_, rfl⟩
      have c3 : wr.cell? ⟨tb, 3, none⟩ = some (.slice vA m vc) := by rw [em]; exact cell_of_blk (j := 3) HR.out.tl.blk rfl
      have hm : m ≤ 4900 := by have := HR.out.n; omega
      have HSO := Lib.hid (sortN_any N m vc w4.heap.size vA wr em.symm (by omega) (by rw [em]; exact HR.out.tl.row))
      have HM := Lib.hid em
      have htr : tb < wr.heap.size := by omega
      clear em
      go_wp2_with (fail)
      refine HSO.out.mono ?_
      rintro e w13 ⟨rfl, N', hp, hl', ho, hg⟩
      have hne := own_ne HR.out.tl.row HR.out.tl.blk (by decide)
      rw [← HM.out] at hne
      have c3' : w13.cell? ⟨tb, 3, none⟩ = some (.slice vA m vc) := cell_of_blk (j := 3) ((hg.block tb htr hne).trans HR.out.tl.blk) (by rw [HM.out]; rfl)
      have htr' : tb < w13.heap.size := Nat.lt_of_lt_of_le htr hg.size
      have HFIN := Lib.hid (show NoticesP w l S (.returned (.tuple #[.slice vA m vc, .int .i64 0])) w13 from by
        refine ⟨N', vA, vc, m, rfl, hl', own_mono ho (by omega), fun z hz => HR.out.ok z (hp.mem_iff.1 hz), hm, ?_⟩
        have h1 : GrF w w4 (fun b => w.heap.size ≤ b) := GrF.of_below HB4.out _ (fun b h _ => h)
        have h2 : GrF w4 wr (fun b => w.heap.size ≤ b) := HR.out.go.gr.mono (fun b _ h => h.elim (fun e => by omega) (fun e => by cases e))
        have h3 : GrF wr w13 (fun b => w.heap.size ≤ b) := GrF.of_grown hg _ (fun b e => by have := (HR.out.tl.row.lt b (by rw [← HM.out]; exact e)).1; omega)
        exact ((h1.trans h2).trans h3).below (fun b _ h => h) (Nat.le_refl _))
      clear c3 hp hl' ho hg hne
      go_wp2_with (fail)
      exact bodyPost_ret (v := .tuple #[.slice vA m vc, .int .i64 0]) (by simp [results, Tryz.results14, go_sem]) rfl HFIN.out
end Go.Proofs.YtgdnedhcbjonkaaGreatDoor
