/- Several texts in one: SgK, SgX, SgC, AlA, AlW, AlX, RcP, AcP, AcA, AlB, AcB, LayAc, AcS, AcT, AcC. -/
import Derived.Test.YtkabcipccpbphaaGreatDoorMgA
import Derived.Test.YtkabcipccpbphaaGreatDoorMgB
import Derived.Test.YtkabcipccpbphaaGreatDoorMgD
import Derived.Test.YtkabcipccpbphaaGreatDoorMgC
import Derived.Laws.IdiomRangeMap
import Derived.Test.YtkabcipccpbphaaGreatDoorProg
import Derived.Shelf.SlSortCmp.SmallK
import Derived.Shelf.SlSortCmp.Xorshift

/- fleetref1.Key at the names and people of signals; in, MomentFault. -/
namespace Go.Proofs.YtkabcipccpbphaaGreatDoor
open Go.RowKit

theorem inR_yes (n lo hi : Int) (h1 : lo ≤ n) (h2 : n ≤ hi) (w : World) : Calls Tryz.prog 50 #[.int .i64 n, .int .i64 lo, .int .i64 hi] w fun e w' => e = .returned (.bool true) ∧ w = w' := by
  go_enter Tryz.func50, Tryz.ntmps50
  go_wp2_with (fail)
  go_ret
  exact ⟨rfl, rfl⟩
theorem inR_no (n lo hi : Int) (h : ¬ (lo ≤ n ∧ n ≤ hi)) (w : World) : Calls Tryz.prog 50 #[.int .i64 n, .int .i64 lo, .int .i64 hi] w fun e w' => e = .returned (.bool false) ∧ w = w' := by
  by_cases h1 : lo ≤ n
  · have h2 : ¬ n ≤ hi := fun h2 => h ⟨h1, h2⟩
    clear h
    go_enter Tryz.func50, Tryz.ntmps50
    go_wp2_with (fail)
    go_ret
    exact ⟨rfl, rfl⟩
  · clear h
    go_enter Tryz.func50, Tryz.ntmps50
    go_wp2_with (fail)
    go_ret
    exact ⟨rfl, rfl⟩
theorem inR_any (n lo hi : Int) (w : World) : Calls Tryz.prog 50 #[.int .i64 n, .int .i64 lo, .int .i64 hi] w fun e w' => e = .returned (.bool (decide (lo ≤ n ∧ n ≤ hi))) ∧ w = w' := by
  by_cases h : lo ≤ n ∧ n ≤ hi
  · rw [decide_eq_true h]; exact inR_yes n lo hi h.1 h.2 w
  · rw [decide_eq_false h]; exact inR_no n lo hi h w
theorem momF_any (n : Int) (w : World) : Calls Tryz.prog 48 #[.int .i64 n] w fun e w' => e = .returned (.int .i64 (if 0 ≤ n ∧ n ≤ 345686399999 then 0 else 1)) ∧ w = w' := by
  have HI := Lib.hid (inR_any n 0 345686399999 w)
  by_cases h : 0 ≤ n ∧ n ≤ 345686399999
  · rw [decide_eq_true h] at HI
    rw [if_pos h]
    clear h
    go_enter Tryz.func48, Tryz.ntmps48
    go_wp2_with (go_at_call 50; refine HI.out.mono ?_; rintro e w' ⟨rfl, rfl⟩)
    go_ret
    exact ⟨rfl, rfl⟩
  · rw [decide_eq_false h] at HI
    rw [if_neg h]
    clear h
    go_enter Tryz.func48, Tryz.ntmps48
    go_wp2_with (go_at_call 50; refine HI.out.mono ?_; rintro e w' ⟨rfl, rfl⟩)
    go_ret
    exact ⟨rfl, rfl⟩
def rkSet : ByteArray := ⟨#[97, 98, 99, 100, 101, 102, 103, 104, 105, 106, 107, 108, 109, 110, 111, 112, 113, 114, 115, 116, 117, 118, 119, 120, 121, 122, 48, 49, 50, 51, 52, 53, 54, 55, 56, 57, 45, 95]⟩
theorem rtrim (s : ByteArray) (hs : s.size ≤ 40) (q : ByteArray) (hq : q = ⟨(Lib.trimS s.data.toList rkSet.data.toList).toArray⟩) (w : World) :
    Calls Tryz.prog 36 #[.string s, .string ⟨#[97, 98, 99, 100, 101, 102, 103, 104, 105, 106, 107, 108, 109, 110, 111, 112, 113, 114, 115, 116, 117, 118, 119, 120, 121, 122, 48, 49, 50, 51, 52, 53, 54, 55, 56, 57, 45, 95]⟩] w fun e w' => e = .returned (.string q) ∧ Below w.heap.size w w' := by
  subst hq
  exact Any.strings_Trim_laid lay160 (by kernel_rfl) s rkSet w (by omega) (by decide) (ascii_of_all (by decide))
theorem ribyte (c : Int) (w : World) : Calls Tryz.prog 79 #[.string ⟨#[97, 98, 99, 100, 101, 102, 103, 104, 105, 106, 107, 108, 109, 110, 111, 112, 113, 114, 115, 116, 117, 118, 119, 120, 121, 122]⟩, .int .u8 c] w fun e w' => ∃ z : Int, e = .returned (.int .i64 z) ∧ w = w' := by
  refine (Any.strings_IndexByte lay137 ⟨#[97, 98, 99, 100, 101, 102, 103, 104, 105, 106, 107, 108, 109, 110, 111, 112, 113, 114, 115, 116, 117, 118, 119, 120, 121, 122]⟩ c w).mono ?_
  rintro e w' ⟨h1, h2⟩
  exact ⟨_, h1, h2.symm⟩
set_option maxRecDepth 100000 in
theorem rkey_yes (s : ByteArray) (h1 : 1 ≤ s.size) (h2 : s.size ≤ 40) (ht : (⟨#[]⟩ : ByteArray) = ⟨(Lib.trimS s.data.toList rkSet.data.toList).toArray⟩) (w : World) :
    Calls Tryz.prog 49 #[.string s] w fun e w' => ∃ t : Bool, e = .returned (.bool t) ∧ Below w.heap.size w w' := by
  have h1I : (1 : Int) ≤ s.size := by omega
  have h2I : (s.size : Int) ≤ 40 := by omega
  have h0 : 0 < s.size := by omega
  have HT := Lib.hid (fun V => rtrim s h2 ⟨#[]⟩ ht V)
  clear ht
  go_enter Tryz.func49, Tryz.ntmps49
  go_wp2_with (go_at_call 50; refine (inR_yes _ _ _ h1I h2I _).mono ?_; rintro e w' ⟨rfl, rfl⟩)
  refine (HT.out _).mono ?_
  rintro e w1 ⟨rfl, hb1⟩
  have HB := Lib.hid hb1
  clear hb1
  go_wp2_with (fail)
  refine (ribyte _ _).mono ?_
  rintro e w2 ⟨z, rfl, rfl⟩
  go_wp2_with (fail)
  go_ret
  exact ⟨_, rfl, HB.out⟩
theorem rkey_nil (w : World) : Calls Tryz.prog 49 #[.string ⟨#[]⟩] w fun e w' => e = .returned (.bool false) ∧ Below w.heap.size w w' := by
  go_enter Tryz.func49, Tryz.ntmps49
  go_wp2_with (go_at_call 50; refine (inR_no _ _ _ (by decide) _).mono ?_; rintro e w' ⟨rfl, rfl⟩)
  go_ret
  exact ⟨rfl, Below.refl _ _⟩
set_option maxRecDepth 100000 in
theorem rkey_A (w : World) : Calls Tryz.prog 49 #[.string ⟨#[65]⟩] w fun e w' => e = .returned (.bool false) ∧ Below w.heap.size w w' := by
  have HT := Lib.hid (fun V => rtrim ⟨#[65]⟩ (by decide) ⟨#[65]⟩ (by rfl) V)
  go_enter Tryz.func49, Tryz.ntmps49
  go_wp2_with (go_at_call 50; refine (inR_yes _ _ _ (by decide) (by decide) _).mono ?_; rintro e w' ⟨rfl, rfl⟩)
  refine (HT.out _).mono ?_
  rintro e w1 ⟨rfl, hb1⟩
  have HB := Lib.hid hb1
  clear hb1
  go_wp2_with (fail)
  go_ret
  exact ⟨rfl, HB.out⟩
theorem rkey_dev (d : Nat) (w : World) : Calls Tryz.prog 49 #[.string (aldT d)] w fun e w' => ∃ t : Bool, e = .returned (.bool t) ∧ Below w.heap.size w w' := by
  match d with
  | 0 => exact rkey_yes _ (by decide) (by decide) (by rfl) w
  | 1 => exact rkey_yes _ (by decide) (by decide) (by rfl) w
  | n + 2 => exact rkey_yes _ (by show 1 ≤ (⟨#[100, 103]⟩ : ByteArray).size; decide) (by show (⟨#[100, 103]⟩ : ByteArray).size ≤ 40; decide) (by rfl) w
theorem rkey_rule (r : Nat) (w : World) : Calls Tryz.prog 49 #[.string (alrT r)] w fun e w' => ∃ t : Bool, e = .returned (.bool t) ∧ Below w.heap.size w w' := by
  match r with
  | 0 => exact rkey_yes _ (by decide) (by decide) (by rfl) w
  | n + 1 => exact rkey_yes _ (by show 1 ≤ (⟨#[114, 98]⟩ : ByteArray).size; decide) (by show (⟨#[114, 98]⟩ : ByteArray).size ≤ 40; decide) (by rfl) w
theorem rkey_who (b : Nat) (w : World) : Calls Tryz.prog 49 #[.string (alwT b)] w fun e w' => ∃ t : Bool, e = .returned (.bool t) ∧ (t = true → b = 1 ∨ b = 2) ∧ Below w.heap.size w w' := by
  match b with
  | 0 => exact (rkey_nil w).mono fun e w' h => ⟨false, h.1, by simp, h.2⟩
  | 1 => exact (rkey_yes _ (by decide) (by decide) (by rfl) w).mono fun e w' ⟨t, h1, h2⟩ => ⟨t, h1, fun _ => .inl rfl, h2⟩
  | 2 => exact (rkey_yes _ (by decide) (by decide) (by rfl) w).mono fun e w' ⟨t, h1, h2⟩ => ⟨t, h1, fun _ => .inr rfl, h2⟩
  | n + 3 => exact (rkey_A w).mono fun e w' h => ⟨false, h.1, by simp, h.2⟩
end Go.Proofs.YtkabcipccpbphaaGreatDoor

/- fleetref1.SignalsFault: where it answers 0, the signals are right. Printed by gen_SgX.py. -/
namespace Go.Proofs.YtkabcipccpbphaaGreatDoor
open Go.RowKit Go.Shelf Go.Sort

/-- A right signal. -/
structure SgR (s : Sg) : Prop where
  d : s.d < 3
  r : s.r < 2
  at0 : 0 ≤ s.at_
  at1 : s.at_ < 345686400000
  kd : 1 ≤ s.kd ∧ s.kd ≤ 5
  who : 3 ≤ s.kd → s.b = 1 ∨ s.b = 2
  none_ : s.kd < 3 → s.b = 0
  shelf : s.kd = 4 → s.at_ + 1 ≤ s.un ∧ s.un ≤ s.at_ + 2592000000 ∧ s.un ≤ 345686400000
  plain : s.kd ≠ 4 → s.un = 0
def SgsOk (l : List Sg) : Prop := (∀ s ∈ l, SgR s) ∧ l.Pairwise SgL
theorem SgL.trans {a b c : Sg} (h : SgL a b) (k : SgL b c) : SgL a c := by unfold SgL at *; omega
theorem SgsOk.nil : SgsOk [] := ⟨by simp, List.Pairwise.nil⟩
theorem SgsOk.snoc {l : List Sg} {s : Sg} (h : SgsOk l) (hs : SgR s) (hl : ∀ q, l.getLast? = some q → SgL q s) : SgsOk (l ++ [s]) := by
  refine ⟨fun x hx => ?_, List.pairwise_append.2 ⟨h.2, List.pairwise_singleton _ _, fun a ha b hb => ?_⟩⟩
  · rw [List.mem_append, List.mem_singleton] at hx
    rcases hx with hx | rfl
    · exact h.1 x hx
    · exact hs
  · rw [List.mem_singleton] at hb
    subst hb
    obtain ⟨i, hi, rfl⟩ := List.getElem_of_mem ha
    have hne : l ≠ [] := by intro e; subst e; cases ha
    have hlast := hl _ (List.getLast?_eq_some_getLast hne)
    rw [List.getLast_eq_getElem] at hlast
    rcases Nat.lt_or_ge i (l.length - 1) with h1 | h1
    · exact ((List.pairwise_iff_getElem.1 h.2) i (l.length - 1) hi (by omega) h1).trans hlast
    · have : i = l.length - 1 := by omega
      subst this
      exact hlast
theorem take_last {l : List Sg} {i : Nat} {q : Sg} (hi : 1 ≤ i) (hq : l[i - 1]? = some q) : (l.take i).getLast? = some q := by
  have hlt : i - 1 < l.length := (List.getElem?_eq_some_iff.1 hq).1
  rw [List.getLast?_eq_getElem?, List.length_take, Nat.min_eq_left (by omega), List.getElem?_take_of_lt (by omega)]
  exact hq
theorem cmp_neg {q x : Sg} (h : ¬ 0 ≤ sgCmp q x) : SgL q x := (sgCmp_lt q x).1 (by omega)
theorem alw_zero (b : Nat) : (decide ((alwT b).toList = [])) = decide (b = 0) := by
  match b with
  | 0 => decide +kernel
  | 1 => decide +kernel
  | 2 => decide +kernel
  | n + 3 => rw [show alwT (n + 3) = ⟨#[65]⟩ from rfl, decide_eq_false (show ¬ (n + 3 = 0) by omega)]; decide +kernel
def SgAt3 (V : World) (b o : Nat) (x : Sg) (g : Nat) (y : Sg) : Prop :=
  V.cell? ⟨b, o, none⟩ = some (.int .i64 x.at_) ∧ V.cell? ⟨b, o + 1, none⟩ = some (.int .i64 x.kd) ∧ V.cell? ⟨b, o + 2, none⟩ = some (.string (aldT x.d)) ∧ V.cell? ⟨b, o + 3, none⟩ = some (.string (alrT x.r)) ∧ V.cell? ⟨b, o + 4, none⟩ = some (.string (alwT x.b)) ∧ V.cell? ⟨b, o + 5, none⟩ = some (.int .i64 x.un) ∧ V.cell? ⟨g, 0, none⟩ = some (.int .i64 y.at_) ∧ V.cell? ⟨g, 1, none⟩ = some (.int .i64 y.kd) ∧ V.cell? ⟨g, 2, none⟩ = some (.string (aldT y.d)) ∧ V.cell? ⟨g, 3, none⟩ = some (.string (alrT y.r)) ∧ V.cell? ⟨g, 4, none⟩ = some (.string (alwT y.b)) ∧ V.cell? ⟨g, 5, none⟩ = some (.int .i64 y.un)
theorem sgAt3 {V : World} {b o g : Nat} {x y : Sg} (h : SgAt V b o x) (k : SgB V g y) : SgAt3 V b o x g y :=
  ⟨h.1, h.2.1, h.2.2.1, h.2.2.2.1, h.2.2.2.2.1, h.2.2.2.2.2, k.1, k.2.1, k.2.2.1, k.2.2.2.1, k.2.2.2.2.1, k.2.2.2.2.2⟩
def FaultP (w : World) (l : List Sg) (e : Ending) (w' : World) : Prop := ∃ z : Int, e = .returned (.int .i64 z) ∧ (z = 0 → SgsOk l) ∧ Below w.heap.size w w'
theorem FaultP.no {w w' : World} {l : List Sg} {z : Int} (hz : z ≠ 0) (hb : Below w.heap.size w w') : FaultP w l (.returned (.int .i64 z)) w' := ⟨z, rfl, fun h => absurd h hz, hb⟩
set_option maxRecDepth 100000 in
set_option maxHeartbeats 4000000 in
theorem sigsFault_any (l : List Sg) (n c : Nat) (A : Option Addr) (w : World) (hn : l.length = n) (hn2 : n ≤ 1000) (hr : Row w w.heap.size A (recs sgC l)) (hg : ∀ x ∈ l, SgG x) :
    Calls Tryz.prog 14 #[.slice A n c] w fun e w' => FaultP w l e w' := by
  have HR := Lib.hid hr
  have HN := Lib.hid hn
  have HG := Lib.hid hg
  have hnI2 : ¬ (5000 : Int) < n := by omega
  clear hr hn hg
  go_enter Tryz.func14, Tryz.ntmps14
  go_wp2_with (fail)
  go_loopw [12] (fun s wr => ∃ (i : Nat), i ≤ n ∧ s = .int .i64 (i : Int) ∧ Below w.heap.size w wr ∧ Hid (SgsOk (l.take i))) (fun s _ => n - (intOf s).toNat)
  case atStart => exact ⟨0, by omega, rfl, Below.refl _ _, Lib.hid (by simpa using SgsOk.nil)⟩
  case round =>
    obtain ⟨i, hin, rfl, hbr, HOK⟩ := hrel
    have hbs := hbr.size
    have HB := Lib.hid hbr
    clear hbr
    by_cases hlt : i < n
    · have hltI : (i : Int) < n := by omega
      obtain ⟨x, hx⟩ : ∃ x, l[i]? = some x := ⟨_, List.getElem?_eq_getElem (by have := HN.out; omega)⟩
      obtain ⟨b, o, rfl, hb, hC⟩ := (HR.out.below HB.out).posR sgC_len (by omega) (by have := HN.out; omega)
      have HX := Lib.hid (HG.out x (List.mem_of_getElem? hx))
      obtain ⟨c0, c1, c2, c3, c4, c5⟩ := sg_cells hC i x hx
      have HP := Lib.hid hx
      have hb' : b < wr.heap.size := by omega
      clear hx hC
      go_upto_region 6 with (fail)
      obtain ⟨g, eg⟩ : ∃ g, g = wr.heap.size := ⟨_, rfl⟩
      obtain ⟨w5, e5⟩ : ∃ w5, w5 = wr.alloc (.cells #[.int .i64 x.at_, .int .i64 x.kd, .string (aldT x.d), .string (alrT x.r), .string (alwT x.b), .int .i64 x.un] 47) := ⟨_, rfl⟩
      rw [← eg, ← e5]
      have hg5 : w5.heap[g]? = some (sgBk x) := by rw [e5, eg]; exact heap_new wr _
      have HB5 := Lib.hid (show Below w.heap.size w w5 from by rw [e5]; exact HB.out.alloc hbs _)
      have hlt5 : g < w5.heap.size := by rw [e5, eg]; simp
      have hbs5 := HB5.out.size
      have HQ := Lib.hid (fun (V : World) (hV : Below w5.heap.size w5 V) => show SgB V g x from sg_blk ((hV.block g hlt5).trans hg5))
      obtain ⟨q0, q1, q2, q3, q4, q5⟩ := sg_blk hg5
      clear eg e5 hg5 c0 c1 c2 c3 c4 c5
      go_quiet (fail)
      obtain ⟨w6, e6⟩ : ∃ w6, w6 = w5.drewN nq := ⟨_, rfl⟩
      rw [← e6]
      obtain ⟨p3, hp3⟩ : ∃ t : Bool, t = decide (3 ≤ x.kd) := ⟨_, rfl⟩
      obtain ⟨s4, hs4⟩ : ∃ t : Bool, t = (x.kd == 4) := ⟨_, rfl⟩
      rw [← hp3, ← hs4]
      have HP3 := Lib.hid (show p3 = true ↔ 3 ≤ x.kd from by rw [hp3]; simp)
      have HS4 := Lib.hid (show s4 = true ↔ x.kd = 4 from by rw [hs4]; simp)
      have HB6 := Lib.hid (show Below w.heap.size w w6 from by rw [e6]; exact below_drewN HB5.out _)
      have HQ6 := Lib.hid (show ∀ V, Below w6.heap.size w6 V → SgB V g x from fun V hV => HQ.out V (by subst e6; exact ⟨hV.os, hV.tape, hV.output, hV.size, hV.block⟩))
      have hs6 : w6.heap.size = w5.heap.size := by rw [e6]; rfl
      have hlt6 : g < w6.heap.size := by omega
      clear e6 hp3 hs4 q0 q1 q2 q3 q4 q5 HQ
      obtain ⟨q0, q1, q2, q3, q4, q5⟩ := HQ6.out w6 (Below.refl _ _)
      go_wp2_with (fail)
      refine (momF_any _ _).mono ?_
      rintro e w' ⟨rfl, rfl⟩
      by_cases hm : 0 ≤ x.at_ ∧ x.at_ ≤ 345686399999
      case neg =>
        rw [if_neg hm]
        clear hm
        go_wp2_with (fail)
        go_ret
        exact FaultP.no (by decide) HB6.out
      rw [if_pos hm]
      have HM := Lib.hid hm
      clear hm
      go_wp2_with (fail)
      refine (rkey_dev x.d _).mono ?_
      rintro e w7 ⟨t1, rfl, hb7⟩
      have hs7 := hb7.size
      have HB7 := Lib.hid (HB6.out.trans (hb7.mono (by omega)))
      have HB67 := Lib.hid hb7
      have hlt7 : g < w7.heap.size := by omega
      clear q0 q1 q2 q3 q4 q5 hb7
      obtain ⟨q0, q1, q2, q3, q4, q5⟩ := HQ6.out w7 HB67.out
      cases t1
      case false =>
        go_wp2_with (fail)
        go_ret
        exact FaultP.no (by decide) HB7.out
      go_wp2_with (fail)
      refine (rkey_rule x.r _).mono ?_
      rintro e w8 ⟨t2, rfl, hb8⟩
      have hs8 := hb8.size
      have HB8 := Lib.hid (HB7.out.trans (hb8.mono (by omega)))
      have HB68 := Lib.hid (HB67.out.trans (hb8.mono (by omega)))
      have hlt8 : g < w8.heap.size := by omega
      clear q0 q1 q2 q3 q4 q5 hb8
      obtain ⟨q0, q1, q2, q3, q4, q5⟩ := HQ6.out w8 HB68.out
      cases t2
      case false =>
        go_wp2_with (fail)
        go_ret
        exact FaultP.no (by decide) HB8.out
      go_wp2_with (fail)
      refine (inR_any _ _ _ _).mono ?_
      rintro e w' ⟨rfl, rfl⟩
      by_cases hk : 1 ≤ x.kd ∧ x.kd ≤ 5
      case neg =>
        rw [decide_eq_false hk]
        clear hk
        go_wp2_with (fail)
        go_ret
        exact FaultP.no (by decide) HB8.out
      rw [decide_eq_true hk]
      have HK := Lib.hid hk
      clear hk
      cases p3
      case true =>
        go_wp2_with (fail)
        refine (rkey_who x.b _).mono ?_
        rintro e w9 ⟨t3, rfl, hw9, hb9⟩
        have hs9 := hb9.size
        have HB9 := Lib.hid (HB8.out.trans (hb9.mono (by omega)))
        have HB69 := Lib.hid (HB68.out.trans (hb9.mono (by omega)))
        have hlt9 : g < w9.heap.size := by omega
        have HW := Lib.hid hw9
        clear q0 q1 q2 q3 q4 q5 hb9 hw9
        obtain ⟨q0, q1, q2, q3, q4, q5⟩ := HQ6.out w9 HB69.out
        cases t3
        case false =>
          go_wp2_with (fail)
          go_ret
          exact FaultP.no (by decide) HB9.out
        cases s4
        case true =>
          have hwa : IntKind.i64.wrap (x.at_ + 1) = x.at_ + 1 := by have := HM.out; rw [IntKind.wrap_i64]; omega
          have hwb : IntKind.i64.wrap (x.at_ + 2592000000) = x.at_ + 2592000000 := by have := HM.out; rw [IntKind.wrap_i64]; omega
          go_wp2_with (fail)
          refine (inR_any _ _ _ _).mono ?_
          rintro e w' ⟨rfl, rfl⟩
          by_cases hsh : x.at_ + 1 ≤ x.un ∧ x.un ≤ min (x.at_ + 2592000000) 345686400000
          case neg =>
            rw [decide_eq_false hsh]
            clear hsh
            go_wp2_with (fail)
            go_ret
            exact FaultP.no (by decide) HB9.out
          rw [decide_eq_true hsh]
          have HR1 := Lib.hid (show SgR x from ⟨HX.out.d, HX.out.r, HM.out.1, by have := HM.out; omega, HK.out, fun _ => (by simpa using HW.out), fun h => by have h4 : x.kd = 4 := (by simpa using HS4.out); omega, fun _ => by omega, fun h => absurd (show x.kd = 4 from by simpa using HS4.out) h⟩)
          clear hsh hwa hwb
          by_cases hi0 : i = 0
          case pos =>
            subst hi0
            have hd : decide ((0 : Int) < 0) = false := by decide
            have HOK2 := Lib.hid (show SgsOk (l.take (0 + 1)) from by
              rw [List.take_add_one, HP.out]
              exact SgsOk.snoc HOK.out HR1.out (fun q hq => by simp at hq))
            go_wp2_with (fail)
            go_quiet (fail)
            go_wp2_with (fail)
            go_roundw
            case rel => exact ⟨1, by omega, by simp, below_drewN HB9.out _, HOK2⟩
            case measure => simp [intOf]; omega
          have hi1I : (0 : Int) < i := by omega
          have hd : decide ((0 : Int) < i) = true := by simpa using hi1I
          have hd2 : decide (0 < i) = true := by simp; omega
          have hd3 : 0 < i := by omega
          obtain ⟨q, hq⟩ : ∃ q, l[i - 1]? = some q := ⟨_, List.getElem?_eq_getElem (by have := HN.out; omega)⟩
          obtain ⟨b2, o2, e2, hb2, hC2⟩ := HR.out.posR sgC_len (by omega) (by have := HN.out; omega)
          cases e2
          have HSA := Lib.hid (sg_cells hC2 (i - 1) q hq)
          have hwrap : (i : Int) - 1 = ((i - 1 : Nat) : Int) := by omega
          have hwr : IntKind.i64.wrap ((i - 1 : Nat) : Int) = ((i - 1 : Nat) : Int) := by rw [IntKind.wrap_i64]; omega
          have hxI : ((i - 1 : Nat) : Int) < (n : Int) := by omega
          have hxN : i - 1 < n := by omega
          have HTL := Lib.hid (take_last hd3 hq)
          have HQ9 := Lib.hid (fun (V : World) (hV : Below w9.heap.size w9 V) => show SgAt3 V b (o + (i - 1) * 6) q g x from
            sgAt3 (HSA.out.below (HB9.out.trans (hV.mono HB9.out.size)) hb2) (HQ6.out V (HB69.out.trans (hV.mono HB69.out.size))))
          have HSO := Lib.hid (fun V => show Calls Tryz.prog 43 #[.agg #[.int .i64 q.at_, .int .i64 q.kd, .string (aldT q.d), .string (alrT q.r), .string (alwT q.b), .int .i64 q.un], .agg #[.int .i64 x.at_, .int .i64 x.kd, .string (aldT x.d), .string (alrT x.r), .string (alwT x.b), .int .i64 x.un]] V _ from signalOrder_grow q x V)
          obtain ⟨r, er⟩ : ∃ r, r = sgCmp q x := ⟨_, rfl⟩
          rw [← er] at HSO
          have HRL := Lib.hid (show ¬ 0 ≤ r → SgL q x from by rw [er]; exact cmp_neg)
          go_upto_region 21 with (fail)
          clear hq hC2 er q0 q1 q2 q3 q4 q5
          go_upto_region 21 with (fail)
          refine qRegionTail 9 (by kernel_rfl) (by kernel_rfl) ?_
          simp only [List.take_succ_cons, List.take_zero, List.drop_succ_cons, List.drop_zero]
          repeat (first
            | (go_big_quiet_want; refine qVal (fun V hV => (by (obtain ⟨r0, r1, r2, r3, r4, r5, s0, s1, s2, s3, s4', s5⟩ := HQ9.out V hV; go_simp; try rfl))) ?_; simp only [Act.put, List.setIfInBounds_toArray, List.set_cons_zero, List.set_cons_succ]; go_big_quiet_on)
            | go_big_quiet_skip)
          refine wpQuiet_nil ?_
          intro w10 hb10
          have HB10 := Lib.hid (HB9.out.trans (hb10.mono HB9.out.size))
          clear hb10
          go_wp2_with (fail)
          refine (HSO.out w10).mono ?_
          rintro e w11 ⟨rfl, qn, os, rfl⟩
          have HB11 := Lib.hid (HB10.out.trans ((below_grow w10 qn os).mono HB10.out.size))
          by_cases hr0 : 0 ≤ r
          case pos =>
            go_wp2_with (fail)
            go_ret
            exact FaultP.no (by decide) HB11.out
          have HOK2 := Lib.hid (show SgsOk (l.take (i + 1)) from by
            rw [List.take_add_one, HP.out]
            exact SgsOk.snoc HOK.out HR1.out (fun q' hq' => by rw [HTL.out] at hq'; cases hq'; exact HRL.out (by omega)))
          go_wp2_with (fail)
          go_roundw
          case rel => exact ⟨i + 1, by omega, by simp, HB11.out, HOK2⟩
          case measure => simp [intOf]; omega
        case false =>
          by_cases hun : x.un = 0
          case neg =>
            have hunb : (x.un != 0) = true := by simpa using hun
            go_wp2_with (fail)
            go_ret
            exact FaultP.no (by decide) HB9.out
          have hunb : (x.un != 0) = false := by simpa using hun
          have HR1 := Lib.hid (show SgR x from ⟨HX.out.d, HX.out.r, HM.out.1, by have := HM.out; omega, HK.out, fun _ => (by simpa using HW.out), (fun h => by have h3 : 3 ≤ x.kd := (by simpa using HP3.out); omega), (fun h => by have h4 : ¬ x.kd = 4 := (by simpa using HS4.out); exact absurd h h4), fun _ => hun⟩)
          clear hun
          by_cases hi0 : i = 0
          case pos =>
            subst hi0
            have hd : decide ((0 : Int) < 0) = false := by decide
            have HOK2 := Lib.hid (show SgsOk (l.take (0 + 1)) from by
              rw [List.take_add_one, HP.out]
              exact SgsOk.snoc HOK.out HR1.out (fun q hq => by simp at hq))
            go_wp2_with (fail)
            go_quiet (fail)
            go_wp2_with (fail)
            go_roundw
            case rel => exact ⟨1, by omega, by simp, below_drewN HB9.out _, HOK2⟩
            case measure => simp [intOf]; omega
          have hi1I : (0 : Int) < i := by omega
          have hd : decide ((0 : Int) < i) = true := by simpa using hi1I
          have hd2 : decide (0 < i) = true := by simp; omega
          have hd3 : 0 < i := by omega
          obtain ⟨q, hq⟩ : ∃ q, l[i - 1]? = some q := ⟨_, List.getElem?_eq_getElem (by have := HN.out; omega)⟩
          obtain ⟨b2, o2, e2, hb2, hC2⟩ := HR.out.posR sgC_len (by omega) (by have := HN.out; omega)
          cases e2
          have HSA := Lib.hid (sg_cells hC2 (i - 1) q hq)
          have hwrap : (i : Int) - 1 = ((i - 1 : Nat) : Int) := by omega
          have hwr : IntKind.i64.wrap ((i - 1 : Nat) : Int) = ((i - 1 : Nat) : Int) := by rw [IntKind.wrap_i64]; omega
          have hxI : ((i - 1 : Nat) : Int) < (n : Int) := by omega
          have hxN : i - 1 < n := by omega
          have HTL := Lib.hid (take_last hd3 hq)
          have HQ9 := Lib.hid (fun (V : World) (hV : Below w9.heap.size w9 V) => show SgAt3 V b (o + (i - 1) * 6) q g x from
            sgAt3 (HSA.out.below (HB9.out.trans (hV.mono HB9.out.size)) hb2) (HQ6.out V (HB69.out.trans (hV.mono HB69.out.size))))
          have HSO := Lib.hid (fun V => show Calls Tryz.prog 43 #[.agg #[.int .i64 q.at_, .int .i64 q.kd, .string (aldT q.d), .string (alrT q.r), .string (alwT q.b), .int .i64 q.un], .agg #[.int .i64 x.at_, .int .i64 x.kd, .string (aldT x.d), .string (alrT x.r), .string (alwT x.b), .int .i64 x.un]] V _ from signalOrder_grow q x V)
          obtain ⟨r, er⟩ : ∃ r, r = sgCmp q x := ⟨_, rfl⟩
          rw [← er] at HSO
          have HRL := Lib.hid (show ¬ 0 ≤ r → SgL q x from by rw [er]; exact cmp_neg)
          go_upto_region 21 with (fail)
          clear hq hC2 er q0 q1 q2 q3 q4 q5
          go_upto_region 21 with (fail)
          refine qRegionTail 9 (by kernel_rfl) (by kernel_rfl) ?_
          simp only [List.take_succ_cons, List.take_zero, List.drop_succ_cons, List.drop_zero]
          repeat (first
            | (go_big_quiet_want; refine qVal (fun V hV => (by (obtain ⟨r0, r1, r2, r3, r4, r5, s0, s1, s2, s3, s4', s5⟩ := HQ9.out V hV; go_simp; try rfl))) ?_; simp only [Act.put, List.setIfInBounds_toArray, List.set_cons_zero, List.set_cons_succ]; go_big_quiet_on)
            | go_big_quiet_skip)
          refine wpQuiet_nil ?_
          intro w10 hb10
          have HB10 := Lib.hid (HB9.out.trans (hb10.mono HB9.out.size))
          clear hb10
          go_wp2_with (fail)
          refine (HSO.out w10).mono ?_
          rintro e w11 ⟨rfl, qn, os, rfl⟩
          have HB11 := Lib.hid (HB10.out.trans ((below_grow w10 qn os).mono HB10.out.size))
          by_cases hr0 : 0 ≤ r
          case pos =>
            go_wp2_with (fail)
            go_ret
            exact FaultP.no (by decide) HB11.out
          have HOK2 := Lib.hid (show SgsOk (l.take (i + 1)) from by
            rw [List.take_add_one, HP.out]
            exact SgsOk.snoc HOK.out HR1.out (fun q' hq' => by rw [HTL.out] at hq'; cases hq'; exact HRL.out (by omega)))
          go_wp2_with (fail)
          go_roundw
          case rel => exact ⟨i + 1, by omega, by simp, HB11.out, HOK2⟩
          case measure => simp [intOf]; omega
      case false =>
        have hb4 := HX.out.b
        by_cases hb0 : x.b = 0
        case neg =>
          obtain h | h | h : x.b = 1 ∨ x.b = 2 ∨ x.b = 3 := by omega
          · have e4 : alwT x.b = ⟨#[97, 110, 110]⟩ := by rw [h]; rfl
            rw [e4] at q4
            go_wp2_with (fail)
            go_ret
            exact FaultP.no (by decide) HB8.out
          · have e4 : alwT x.b = ⟨#[98, 111, 98]⟩ := by rw [h]; rfl
            rw [e4] at q4
            go_wp2_with (fail)
            go_ret
            exact FaultP.no (by decide) HB8.out
          · have e4 : alwT x.b = ⟨#[65]⟩ := by rw [h]; rfl
            rw [e4] at q4
            go_wp2_with (fail)
            go_ret
            exact FaultP.no (by decide) HB8.out
        have e4 : alwT x.b = ⟨#[]⟩ := by rw [hb0]; rfl
        rw [e4] at q4
        cases s4
        case true =>
          exfalso
          have h1 : x.kd = 4 := (by simpa using HS4.out)
          have h2 : ¬ 3 ≤ x.kd := (by simpa using HP3.out)
          omega
        by_cases hun : x.un = 0
        case neg =>
          have hunb : (x.un != 0) = true := by simpa using hun
          go_wp2_with (fail)
          go_ret
          exact FaultP.no (by decide) HB8.out
        have hunb : (x.un != 0) = false := by simpa using hun
        have HR1 := Lib.hid (show SgR x from ⟨HX.out.d, HX.out.r, HM.out.1, by have := HM.out; omega, HK.out, (fun h => by have h3 : ¬ 3 ≤ x.kd := (by simpa using HP3.out); omega), fun _ => hb0, (fun h => by have h4 : ¬ x.kd = 4 := (by simpa using HS4.out); exact absurd h h4), fun _ => hun⟩)
        clear hun
        by_cases hi0 : i = 0
        case pos =>
          subst hi0
          have hd : decide ((0 : Int) < 0) = false := by decide
          have HOK2 := Lib.hid (show SgsOk (l.take (0 + 1)) from by
            rw [List.take_add_one, HP.out]
            exact SgsOk.snoc HOK.out HR1.out (fun q hq => by simp at hq))
          go_wp2_with (fail)
          go_quiet (fail)
          go_wp2_with (fail)
          go_roundw
          case rel => exact ⟨1, by omega, by simp, below_drewN HB8.out _, HOK2⟩
          case measure => simp [intOf]; omega
        have hi1I : (0 : Int) < i := by omega
        have hd : decide ((0 : Int) < i) = true := by simpa using hi1I
        have hd2 : decide (0 < i) = true := by simp; omega
        have hd3 : 0 < i := by omega
        obtain ⟨q, hq⟩ : ∃ q, l[i - 1]? = some q := ⟨_, List.getElem?_eq_getElem (by have := HN.out; omega)⟩
        obtain ⟨b2, o2, e2, hb2, hC2⟩ := HR.out.posR sgC_len (by omega) (by have := HN.out; omega)
        cases e2
        have HSA := Lib.hid (sg_cells hC2 (i - 1) q hq)
        have hwrap : (i : Int) - 1 = ((i - 1 : Nat) : Int) := by omega
        have hwr : IntKind.i64.wrap ((i - 1 : Nat) : Int) = ((i - 1 : Nat) : Int) := by rw [IntKind.wrap_i64]; omega
        have hxI : ((i - 1 : Nat) : Int) < (n : Int) := by omega
        have hxN : i - 1 < n := by omega
        have HTL := Lib.hid (take_last hd3 hq)
        have HQ9 := Lib.hid (fun (V : World) (hV : Below w8.heap.size w8 V) => show SgAt3 V b (o + (i - 1) * 6) q g x from
          sgAt3 (HSA.out.below (HB8.out.trans (hV.mono HB8.out.size)) hb2) (HQ6.out V (HB68.out.trans (hV.mono HB68.out.size))))
        have HSO := Lib.hid (fun V => show Calls Tryz.prog 43 #[.agg #[.int .i64 q.at_, .int .i64 q.kd, .string (aldT q.d), .string (alrT q.r), .string (alwT q.b), .int .i64 q.un], .agg #[.int .i64 x.at_, .int .i64 x.kd, .string (aldT x.d), .string (alrT x.r), .string (alwT x.b), .int .i64 x.un]] V _ from signalOrder_grow q x V)
        obtain ⟨r, er⟩ : ∃ r, r = sgCmp q x := ⟨_, rfl⟩
        rw [← er] at HSO
        have HRL := Lib.hid (show ¬ 0 ≤ r → SgL q x from by rw [er]; exact cmp_neg)
        go_upto_region 21 with (fail)
        clear hq hC2 er e4 hb0 q0 q1 q2 q3 q4 q5
        go_upto_region 21 with (fail)
        refine qRegionTail 9 (by kernel_rfl) (by kernel_rfl) ?_
        simp only [List.take_succ_cons, List.take_zero, List.drop_succ_cons, List.drop_zero]
        repeat (first
          | (go_big_quiet_want; refine qVal (fun V hV => (by (obtain ⟨r0, r1, r2, r3, r4, r5, s0, s1, s2, s3, s4', s5⟩ := HQ9.out V hV; go_simp; try rfl))) ?_; simp only [Act.put, List.setIfInBounds_toArray, List.set_cons_zero, List.set_cons_succ]; go_big_quiet_on)
          | go_big_quiet_skip)
        refine wpQuiet_nil ?_
        intro w10 hb10
        have HB10 := Lib.hid (HB8.out.trans (hb10.mono HB8.out.size))
        clear hb10
        go_wp2_with (fail)
        refine (HSO.out w10).mono ?_
        rintro e w11 ⟨rfl, qn, os, rfl⟩
        have HB11 := Lib.hid (HB10.out.trans ((below_grow w10 qn os).mono HB10.out.size))
        by_cases hr0 : 0 ≤ r
        case pos =>
          go_wp2_with (fail)
          go_ret
          exact FaultP.no (by decide) HB11.out
        have HOK2 := Lib.hid (show SgsOk (l.take (i + 1)) from by
          rw [List.take_add_one, HP.out]
          exact SgsOk.snoc HOK.out HR1.out (fun q' hq' => by rw [HTL.out] at hq'; cases hq'; exact HRL.out (by omega)))
        go_wp2_with (fail)
        go_roundw
        case rel => exact ⟨i + 1, by omega, by simp, HB11.out, HOK2⟩
        case measure => simp [intOf]; omega
    · have hltI : ¬ (i : Int) < n := by omega
      have hin' : i = n := by omega
      subst hin'
      go_wp2_with (fail)
      go_ret
      exact ⟨0, rfl, fun _ => by have := HOK.out; rwa [← HN.out, List.take_length] at this, HB.out⟩
end Go.Proofs.YtkabcipccpbphaaGreatDoor

/- alarm.CheckSignals and nameFault of right signals: nothing is wrong. Printed by gen_SgC.py. -/
namespace Go.Proofs.YtkabcipccpbphaaGreatDoor
open Go.RowKit Go.Shelf Go.Sort

theorem key_dev (d : Nat) (w : World) : Calls Tryz.prog 67 #[.string (aldT d)] w fun e w' => e = .returned (.bool true) ∧ w = w' := by
  match d with
  | 0 => exact key_yes ⟨#[100, 97]⟩ w (by kernel_rfl)
  | 1 => exact key_yes ⟨#[100, 98]⟩ w (by kernel_rfl)
  | n + 2 => exact key_yes ⟨#[100, 103]⟩ w (by kernel_rfl)
theorem key_rule (r : Nat) (w : World) : Calls Tryz.prog 67 #[.string (alrT r)] w fun e w' => e = .returned (.bool true) ∧ w = w' := by
  match r with
  | 0 => exact key_yes ⟨#[114, 97]⟩ w (by kernel_rfl)
  | n + 1 => exact key_yes ⟨#[114, 98]⟩ w (by kernel_rfl)
theorem key_who (b : Nat) (hb : b = 1 ∨ b = 2) (w : World) : Calls Tryz.prog 67 #[.string (alwT b)] w fun e w' => e = .returned (.bool true) ∧ w = w' := by
  rcases hb with rfl | rfl
  · exact key_yes ⟨#[97, 110, 110]⟩ w (by kernel_rfl)
  · exact key_yes ⟨#[98, 111, 98]⟩ w (by kernel_rfl)
set_option maxRecDepth 100000 in
set_option maxHeartbeats 2000000 in
theorem sigFault_ok (x : Sg) (w : World) (h : SgR x) : Calls Tryz.prog 104 #[.agg #[.int .i64 x.at_, .int .i64 x.kd, .string (aldT x.d), .string (alrT x.r), .string (alwT x.b), .int .i64 x.un]] w fun e w' => e = .returned (.int .i64 0) ∧ Below w.heap.size w w' := by
  obtain ⟨at_, kd, d, r, b, un⟩ := x
  obtain ⟨hd, hr, h0, h1, hk, hw, hn, hs, hp⟩ := h
  simp only at hd hr h0 h1 hk hw hn hs hp ⊢
  have HD := Lib.hid (fun V => key_dev d V)
  have HRu := Lib.hid (fun V => key_rule r V)
  by_cases h3 : 3 ≤ kd
  · have HW := Lib.hid (fun V => key_who b (hw h3) V)
    by_cases h4 : kd = 4
    · obtain ⟨s1, s2, s3⟩ := hs h4
      subst h4
      clear hw hn hs hp hk h3
      have hwa : IntKind.i64.wrap (at_ + 1) = at_ + 1 := by rw [IntKind.wrap_i64]; omega
      have hwb : IntKind.i64.wrap (at_ + 2592000000) = at_ + 2592000000 := by rw [IntKind.wrap_i64]; omega
      have h3n : ¬ (345686400000 : Int) < un := by omega
      go_enter Tryz.func104, Tryz.ntmps104
      go_wp2_with (go_at_call 55; refine (moment_yes _ _ h0 h1).mono ?_; rintro e w' ⟨rfl, rfl⟩)
      refine (HD.out _).mono ?_
      rintro e w1 ⟨rfl, rfl⟩
      go_wp2_with (fail)
      refine (HRu.out _).mono ?_
      rintro e w1 ⟨rfl, rfl⟩
      go_wp2_with (go_at_call 29; refine (out_no _ _ _ _ (by omega) (by omega)).mono ?_; rintro e w' ⟨rfl, rfl⟩)
      refine (HW.out _).mono ?_
      rintro e w1 ⟨rfl, rfl⟩
      go_wp2_with (go_at_call 29; refine (out_no _ _ _ _ (by omega) (by omega)).mono ?_; rintro e w' ⟨rfl, rfl⟩)
      go_ret
      exact ⟨rfl, (Below.refl _ _).alloc (Nat.le_refl _) _⟩
    · have hun := hp h4
      subst hun
      have h4b : (kd == 4) = false := by simpa using h4
      clear hw hn hs hp h4
      go_enter Tryz.func104, Tryz.ntmps104
      go_wp2_with (go_at_call 55; refine (moment_yes _ _ h0 h1).mono ?_; rintro e w' ⟨rfl, rfl⟩)
      refine (HD.out _).mono ?_
      rintro e w1 ⟨rfl, rfl⟩
      go_wp2_with (fail)
      refine (HRu.out _).mono ?_
      rintro e w1 ⟨rfl, rfl⟩
      go_wp2_with (go_at_call 29; refine (out_no _ _ _ _ hk.1 hk.2).mono ?_; rintro e w' ⟨rfl, rfl⟩)
      refine (HW.out _).mono ?_
      rintro e w1 ⟨rfl, rfl⟩
      go_wp2_with (fail)
      go_ret
      exact ⟨rfl, (Below.refl _ _).alloc (Nat.le_refl _) _⟩
  · have hb := hn (by omega)
    subst hb
    have h4 : ¬ kd = 4 := by omega
    have hun := hp h4
    subst hun
    have h4b : (kd == 4) = false := by simpa using h4
    clear hw hn hs hp h4
    simp only [alwT]
    go_enter Tryz.func104, Tryz.ntmps104
    go_wp2_with (go_at_call 55; refine (moment_yes _ _ h0 h1).mono ?_; rintro e w' ⟨rfl, rfl⟩)
    refine (HD.out _).mono ?_
    rintro e w1 ⟨rfl, rfl⟩
    go_wp2_with (fail)
    refine (HRu.out _).mono ?_
    rintro e w1 ⟨rfl, rfl⟩
    go_wp2_with (go_at_call 29; refine (out_no _ _ _ _ hk.1 hk.2).mono ?_; rintro e w' ⟨rfl, rfl⟩)
    go_ret
    exact ⟨rfl, (Below.refl _ _).alloc (Nat.le_refl _) _⟩

theorem pair_get {l : List Sg} (h : l.Pairwise SgL) {i k : Nat} {x y : Sg} (hi : l[i]? = some x) (hk : l[k]? = some y) (hik : i < k) : SgL x y := by
  obtain ⟨h1, rfl⟩ := List.getElem?_eq_some_iff.1 hi
  obtain ⟨h2, rfl⟩ := List.getElem?_eq_some_iff.1 hk
  exact (List.pairwise_iff_getElem.1 h) i k h1 h2 hik
set_option maxRecDepth 100000 in
set_option maxHeartbeats 4000000 in
theorem checkSignals_any (l : List Sg) (n c : Nat) (A : Option Addr) (w : World) (hl : SgsOk l) (hn : l.length = n) (hn2 : n ≤ 1000) (hr : Row w w.heap.size A (recs sgC l)) :
    Calls Tryz.prog 57 #[.slice A n c] w fun e w' => e = .returned (.int .i64 0) ∧ Below w.heap.size w w' := by
  have HR := Lib.hid hr
  have HL := Lib.hid hl
  have HN := Lib.hid hn
  have hnI2 : ¬ (5000 : Int) < n := by omega
  clear hr hl hn
  go_enter Tryz.func57, Tryz.ntmps57
  go_wp2_with (fail)
  go_loopw [11] (fun s wr => ∃ (i : Nat), i ≤ n ∧ s = .int .i64 (i : Int) ∧ Below w.heap.size w wr) (fun s _ => n - (intOf s).toNat)
  case atStart => exact ⟨0, by omega, rfl, Below.refl _ _⟩
  case round =>
    obtain ⟨i, hin, rfl, hbr⟩ := hrel
    have hbs := hbr.size
    have HB := Lib.hid hbr
    clear hbr
    by_cases hlt : i < n
    · have hltI : (i : Int) < n := by omega
      obtain ⟨x, hx⟩ : ∃ x, l[i]? = some x := ⟨_, List.getElem?_eq_getElem (by have := HN.out; omega)⟩
      obtain ⟨b, o, rfl, hb, hC⟩ := (HR.out.below HB.out).posR sgC_len (by omega) (by have := HN.out; omega)
      have HSF := Lib.hid (fun V => sigFault_ok x V (HL.out.1 x (List.mem_of_getElem? hx)))
      obtain ⟨c0, c1, c2, c3, c4, c5⟩ := sg_cells hC i x hx
      have HP := Lib.hid hx
      have hb' : b < wr.heap.size := by omega
      clear hx hC
      go_upto_region 6 with (fail)
      obtain ⟨g, eg⟩ : ∃ g, g = wr.heap.size := ⟨_, rfl⟩
      obtain ⟨w5, e5⟩ : ∃ w5, w5 = wr.alloc (.cells #[.int .i64 x.at_, .int .i64 x.kd, .string (aldT x.d), .string (alrT x.r), .string (alwT x.b), .int .i64 x.un] 47) := ⟨_, rfl⟩
      rw [← eg, ← e5]
      have hg5 : w5.heap[g]? = some (sgBk x) := by rw [e5, eg]; exact heap_new wr _
      have HB5 := Lib.hid (show Below w.heap.size w w5 from by rw [e5]; exact HB.out.alloc hbs _)
      have hlt5 : g < w5.heap.size := by rw [e5, eg]; simp
      have hbs5 := HB5.out.size
      have HQ := Lib.hid (fun (V : World) (hV : Below w5.heap.size w5 V) => show SgB V g x from sg_blk ((hV.block g hlt5).trans hg5))
      obtain ⟨q0, q1, q2, q3, q4, q5⟩ := sg_blk hg5
      clear eg e5 hg5 c0 c1 c2 c3 c4 c5
      go_wp2_with (fail)
      refine (HSF.out _).mono ?_
      rintro e w6 ⟨rfl, hb6⟩
      have hs6 := hb6.size
      have HB6 := Lib.hid (HB5.out.trans (hb6.mono hbs5))
      have HB56 := Lib.hid hb6
      clear hb6 q0 q1 q2 q3 q4 q5
      by_cases hi0 : i = 0
      case pos =>
        subst hi0
        have hd : decide ((0 : Int) < 0) = false := by decide
        obtain ⟨q0, q1, q2, q3, q4, q5⟩ := HQ.out w6 HB56.out
        go_wp2_with (fail)
        go_quiet (fail)
        go_wp2_with (fail)
        go_roundw
        case rel => exact ⟨1, by omega, by simp, below_drewN HB6.out _⟩
        case measure => simp [intOf]; omega
      have hi1I : (0 : Int) < i := by omega
      have hd : decide ((0 : Int) < i) = true := by simpa using hi1I
      have hd2 : decide (0 < i) = true := by simp; omega
      have hd3 : 0 < i := by omega
      obtain ⟨q, hq⟩ : ∃ q, l[i - 1]? = some q := ⟨_, List.getElem?_eq_getElem (by have := HN.out; omega)⟩
      obtain ⟨b2, o2, e2, hb2, hC2⟩ := HR.out.posR sgC_len (by omega) (by have := HN.out; omega)
      cases e2
      have HSA := Lib.hid (sg_cells hC2 (i - 1) q hq)
      have hwrap : (i : Int) - 1 = ((i - 1 : Nat) : Int) := by omega
      have hwr : IntKind.i64.wrap ((i - 1 : Nat) : Int) = ((i - 1 : Nat) : Int) := by rw [IntKind.wrap_i64]; omega
      have hxI : ((i - 1 : Nat) : Int) < (n : Int) := by omega
      have hxN : i - 1 < n := by omega
      have HQ9 := Lib.hid (fun (V : World) (hV : Below w6.heap.size w6 V) => show SgAt3 V b (o + (i - 1) * 6) q g x from
        sgAt3 (HSA.out.below (HB6.out.trans (hV.mono HB6.out.size)) hb2) (HQ.out V (HB56.out.trans (hV.mono HB56.out.size))))
      have HSO := Lib.hid (fun V => show Calls Tryz.prog 105 #[.agg #[.int .i64 x.at_, .int .i64 x.kd, .string (aldT x.d), .string (alrT x.r), .string (alwT x.b), .int .i64 x.un], .agg #[.int .i64 q.at_, .int .i64 q.kd, .string (aldT q.d), .string (alrT q.r), .string (alwT q.b), .int .i64 q.un]] V _ from byMoment_grow x q V)
      have hr0 : 0 < sgCmp x q := (sgCmp_gt x q).2 (pair_get HL.out.2 hq HP.out (by omega))
      obtain ⟨r, er⟩ : ∃ r, r = sgCmp x q := ⟨_, rfl⟩
      rw [← er] at HSO hr0
      have hr1 : ¬ r ≤ 0 := by omega
      clear hq hC2 er
      go_upto_region 9 with (fail)
      go_upto_region 9 with (fail)
      refine qRegionTail 9 (by kernel_rfl) (by kernel_rfl) ?_
      simp only [List.take_succ_cons, List.take_zero, List.drop_succ_cons, List.drop_zero]
      repeat (first
        | (go_big_quiet_want; refine qVal (fun V hV => (by (obtain ⟨r0, r1, r2, r3, r4, r5, s0, s1, s2, s3, s4', s5⟩ := HQ9.out V hV; go_simp; try rfl))) ?_; simp only [Act.put, List.setIfInBounds_toArray, List.set_cons_zero, List.set_cons_succ]; go_big_quiet_on)
        | go_big_quiet_skip)
      refine wpQuiet_nil ?_
      intro w10 hb10
      have HB10 := Lib.hid (HB6.out.trans (hb10.mono HB6.out.size))
      clear hb10
      go_wp2_with (fail)
      refine (HSO.out w10).mono ?_
      rintro e w11 ⟨rfl, qn, os, rfl⟩
      have HB11 := Lib.hid (HB10.out.trans ((below_grow w10 qn os).mono HB10.out.size))
      go_wp2_with (fail)
      go_roundw
      case rel => exact ⟨i + 1, by omega, by simp, HB11.out⟩
      case measure => simp [intOf]; omega
    · have hltI : ¬ (i : Int) < n := by omega
      have hin' : i = n := by omega
      subst hin'
      go_wp2_with (fail)
      go_ret
      exact ⟨rfl, HB.out⟩
theorem nameFault_any (l : List Sg) (n c d r : Nat) (A : Option Addr) (w : World) (hl : SgsOk l) (hn : l.length = n) (hn2 : n ≤ 1000) (hr : Row w w.heap.size A (recs sgC l)) :
    Calls Tryz.prog 51 #[.slice A n c, .string (aldT d), .string (alrT r)] w fun e w' => e = .returned (.int .i64 0) ∧ Below w.heap.size w w' := by
  have HC := Lib.hid (checkSignals_any l n c A w hl hn hn2 hr)
  have HD := Lib.hid (fun V => key_dev d V)
  have HRu := Lib.hid (fun V => key_rule r V)
  clear hl hn hr
  go_enter Tryz.func51, Tryz.ntmps51
  go_wp2_with (fail)
  refine HC.out.mono ?_
  rintro e w1 ⟨rfl, hb1⟩
  have HB := Lib.hid hb1
  clear hb1
  go_wp2_with (fail)
  refine (HD.out _).mono ?_
  rintro e w1 ⟨rfl, rfl⟩
  go_wp2_with (fail)
  refine (HRu.out _).mono ?_
  rintro e w1 ⟨rfl, rfl⟩
  go_wp2_with (fail)
  go_ret
  exact ⟨rfl, HB.out⟩
end Go.Proofs.YtkabcipccpbphaaGreatDoor

/- alarm.AlarmOf by its contract. -/
namespace Go.Proofs.YtkabcipccpbphaaGreatDoor
open Go.RowKit Go.Shelf

theorem SgR.v {s : Sg} (h : SgR s) : SgV s := ⟨⟨h.d, h.r⟩, h.kd, h.at0, h.at1⟩
theorem lifeAt_none {l : List Sg} {t : Int} {n : Nm2} (h : n ∉ namesOf l) : lifeAt l t n = newL n.1 n.2 := by
  have h' : ∀ s ∈ l, (s.d, s.r) ≠ n := fun s hs e => h ((mem_namesOf l n).2 ⟨s, hs, e⟩)
  clear h
  have key : ∀ (l : List Sg) (L : Lf), (∀ s ∈ l, (s.d, s.r) ≠ n) → l.foldl (lifeStep t n) L = L := by
    intro l
    induction l with
    | nil => intro L _; rfl
    | cons s l ih =>
      intro L hl
      rw [List.foldl_cons]
      have : lifeStep t n L s = L := by unfold lifeStep; rw [if_neg (fun e => hl s List.mem_cons_self e.1)]
      rw [this]
      exact ih L fun q hq => hl q (List.mem_cons_of_mem _ hq)
  exact key l _ h'
theorem lifeAt_name (l : List Sg) (t : Int) (n : Nm2) : (lifeAt l t n).d = n.1 ∧ (lifeAt l t n).r = n.2 := by
  have key : ∀ (l : List Sg) (L : Lf), (l.foldl (lifeStep t n) L).d = L.d ∧ (l.foldl (lifeStep t n) L).r = L.r := by
    intro l
    induction l with
    | nil => intro L; exact ⟨rfl, rfl⟩
    | cons s l ih =>
      intro L
      rw [List.foldl_cons]
      obtain ⟨h1, h2⟩ := ih (lifeStep t n L s)
      have : (lifeStep t n L s).d = L.d ∧ (lifeStep t n L s).r = L.r := by
        unfold lifeStep
        split
        · exact follow_name L s
        · exact ⟨rfl, rfl⟩
      exact ⟨h1.trans this.1, h2.trans this.2⟩
  exact key l _
/-- What a house says of a name. -/
theorem house_look {w' : World} {B hs m : Nat} {o : List Nat} {M : List Mb} {l : List Sg} {F : Nm2 → Lf} (hI : HsI w' B hs m o M) (hnm : M.map (·.n) = namesOf l) (hL : ∀ y ∈ M, y.L = F y.n) (d r : Nat) (hn : NmOk (d, r)) :
    w'.cell? ⟨hs, 0, none⟩ = some (.map (some m)) ∧
    ((∃ x v, (Instr.lookup 109 (.map (some m)) (.agg #[.string (aldT d), .string (alrT r)]) false).run Tryz.prog w' = .ok (.pointer (some ⟨x, 0, none⟩)) w' ∧ LfI w' x (F (d, r)) v) ∨
      ((Instr.lookup 109 (.map (some m)) (.agg #[.string (aldT d), .string (alrT r)]) false).run Tryz.prog w' = .ok (.pointer none) w' ∧ (d, r) ∉ namesOf l)) := by
  obtain ⟨A, c, hb, _⟩ := hI.blk
  refine ⟨cell_of_blk (j := 0) hb rfl, ?_⟩
  have hlk := lookup_names hn (w := w') (m := m) (l := mbE M) (fun p hp => by
    simp only [mbE, List.mem_map] at hp
    obtain ⟨z, hz, rfl⟩ := hp
    exact (hI.each z hz).2.1) (by have := hI.map; simpa [mbE] using this)
  cases h : lkN (mbE M) (d, r) with
  | some x =>
    left
    obtain ⟨P, y, S, hM, h1, h2, h3⟩ := lkN_split h
    have hy : y ∈ M := by rw [hM]; simp
    rw [h] at hlk
    refine ⟨x, y.v, hlk, ?_⟩
    have := (hI.each y hy).1
    rw [hL y hy, h1, h2] at this
    exact this
  | none =>
    right
    rw [h] at hlk
    exact ⟨hlk, by rw [← hnm]; exact lkN_none.1 h⟩
def AlOfP (w : World) (a : Am) (e : Ending) (w' : World) : Prop := e = .returned (.tuple #[.agg #[.string (aldT a.d), .string (alrT a.r), .int .i64 a.st, .int .i64 a.si, .int .i64 a.n, .int .i64 a.sh], .int .i64 0]) ∧ Below w.heap.size w w'
set_option maxRecDepth 100000 in
set_option maxHeartbeats 2000000 in
theorem alarmOf_any (l : List Sg) (n c d r : Nat) (t : Int) (A : Option Addr) (w : World) (hl : SgsOk l) (hn : l.length = n) (hn2 : n ≤ 1000) (hr : Row w w.heap.size A (recs sgC l)) (hd : NmOk (d, r)) (ht0 : 0 ≤ t) (ht1 : t < 345686400000) :
    Calls Tryz.prog 18 #[.slice A n c, .string (aldT d), .string (alrT r), .int .i64 t] w fun e w' => AlOfP w (viewL (lifeAt l t (d, r)) t) e w' := by
  have hba : Below w.heap.size w (w.alloc (.cells #[.string ⟨#[]⟩, .string ⟨#[]⟩, .int .i64 0, .int .i64 0, .int .i64 0, .int .i64 0] 50)) := (Below.refl _ _).alloc (Nat.le_refl _) _
  have hnw := heap_new w (.cells #[.string ⟨#[]⟩, .string ⟨#[]⟩, .int .i64 0, .int .i64 0, .int .i64 0, .int .i64 0] 50)
  have hz : w.heap.size < (w.alloc (.cells #[.string ⟨#[]⟩, .string ⟨#[]⟩, .int .i64 0, .int .i64 0, .int .i64 0, .int .i64 0] 50)).heap.size := by simp
  have HRW := Lib.hid (fun (V : World) (hV : Below w.heap.size w V) => show Row V V.heap.size A (recs sgC l) from (hr.below hV).mono hV.size)
  have HN := Lib.hid (nameFault_any l n c d r A _ hl hn hn2 (HRW.out _ hba))
  have HA := Lib.hid (fun V hV => at_any l n c t A V hn (by omega) (HRW.out V hV) (fun s hs => (hl.1 s hs).v))
  have HK := Lib.hid (And.intro hba (And.intro hnw hz))
  have HNM := Lib.hid hd
  have HT := Lib.hid (And.intro ht0 ht1)
  obtain ⟨⟨ad, ar, a1, a2, a3, a4⟩, ha⟩ : ∃ a, a = viewL (lifeAt l t (d, r)) t := ⟨_, rfl⟩
  rw [← ha]
  have HAV := Lib.hid ha
  unfold AlOfP
  simp only
  clear ha
  clear hba hnw hz hl hn hr hd ht0 ht1
  go_enter Tryz.func18, Tryz.ntmps18
  go_wp2_with (fail)
  refine HN.out.mono ?_
  rintro e w1 ⟨rfl, hB1⟩
  have HB1 := Lib.hid (HK.out.1.trans (hB1.mono HK.out.1.size))
  have HN1 := Lib.hid ((hB1.block w.heap.size HK.out.2.2).trans HK.out.2.1)
  have hs1 := hB1.size
  have hlt1 : w.heap.size < w1.heap.size := Nat.lt_of_lt_of_le HK.out.2.2 hs1
  clear hB1 hs1
  go_wp2_with (go_at_call 55; refine (moment_yes _ _ HT.out.1 HT.out.2).mono ?_; rintro e w' ⟨rfl, rfl⟩)
  refine (HA.out w1 HB1.out).mono ?_
  rintro e w2 ⟨hs, m, o, M, rfl, hI, hord, hnm, hL, hB2⟩
  have hlook := house_look hI hnm hL d r HNM.out
  obtain ⟨hc, hlook⟩ := hlook
  have hs2 := hB2.size
  have HB2 := Lib.hid (HB1.out.trans (hB2.mono HB1.out.size))
  have HN2 := Lib.hid ((hB2.block w.heap.size hlt1).trans HN1.out)
  have hlt2 : w.heap.size < w2.heap.size := by omega
  clear hI hord hnm hL hB2
  generalize hgg : w.heap.size = g at hlt2 hlt1 ⊢
  have HGG := Lib.hid hgg
  rcases hlook with ⟨x, v, hl, hX⟩ | ⟨hl, hno⟩
  · have HV := Lib.hid (view_any x t _ v w2 hX)
    unfold ViewPost at HV
    rw [← HAV.out] at HV
    unfold amC at HV
    simp only at HV
    clear hX hgg
    go_wp2_with (fail)
    refine HV.out.mono ?_
    rintro e w3 ⟨rfl, hB3⟩
    have hn3 := (hB3.block g hlt2).trans (HGG.out ▸ HN2.out)
    have hs3 := hB3.size
    have HB3 := Lib.hid (show Below w.heap.size w w3 from HB2.out.trans (hB3.mono HB2.out.size))
    have hlt3 : g < w3.heap.size := by omega
    have HN3 := Lib.hid hn3
    clear hB3 hn3 hl hc
    go_upto_region 10 with (fail)
    have hbv : Below w3.heap.size w3 (w3.alloc (.cells #[.string (aldT ad), .string (alrT ar), .int .i64 a1, .int .i64 a2, .int .i64 a3, .int .i64 a4] 50)) := (Below.refl _ _).alloc (Nat.le_refl _) _
    have hnv := heap_new w3 (.cells #[.string (aldT ad), .string (alrT ar), .int .i64 a1, .int .i64 a2, .int .i64 a3, .int .i64 a4] 50)
    generalize w3.alloc (.cells #[.string (aldT ad), .string (alrT ar), .int .i64 a1, .int .i64 a2, .int .i64 a3, .int .i64 a4] 50) = V at hbv hnv ⊢
    have hgv := (hbv.block g hlt3).trans HN3.out
    have HWV := Lib.hid (show Below w.heap.size w V from HB3.out.trans (hbv.mono HB3.out.size))
    have hne : g ≠ w3.heap.size := by omega
    generalize w3.heap.size = k at hnv hne ⊢
    obtain ⟨p0, p1, p2, p3, p4, p5⟩ := box6 hnv
    obtain ⟨q0, q1, q2, q3, q4, q5⟩ := box6 hgv
    have z0 := frz hgv 0
    have z1 := frz hgv 1
    have z2 := frz hgv 2
    have z3 := frz hgv 3
    have z4 := frz hgv 4
    have z5 := frz hgv 5
    have HV3 := Lib.hid hgv
    clear hbv hgv hnv hlt3
    go_wp2_with (fail)
    have HX := six_set (.string (aldT ad)) (.string (alrT ar)) (.int .i64 a1) (.int .i64 a2) (.int .i64 a3) (.int .i64 a4) HWV.out (Nat.le_of_eq HGG.out) HV3.out
    obtain ⟨HBX, HX⟩ := HX
    generalize ((((((V.setCell ⟨g, 0, none⟩ (.string (aldT ad))).setCell ⟨g, 1, none⟩ (.string (alrT ar))).setCell ⟨g, 2, none⟩ (.int .i64 a1)).setCell ⟨g, 3, none⟩ (.int .i64 a2)).setCell ⟨g, 4, none⟩ (.int .i64 a3)).setCell ⟨g, 5, none⟩ (.int .i64 a4)) = U at HX HBX ⊢
    clear q0 q1 q2 q3 q4 q5 p0 p1 p2 p3 p4 p5
    obtain ⟨q0, q1, q2, q3, q4, q5⟩ := box6 HX
    exact bodyPost_ret (v := .tuple #[.agg #[.string (aldT ad), .string (alrT ar), .int .i64 a1, .int .i64 a2, .int .i64 a3, .int .i64 a4], .int .i64 0]) (by simp [results, Tryz.results18, go_sem, q0, q1, q2, q3, q4, q5]) rfl ⟨rfl, HBX⟩
  · have hav : (⟨ad, ar, a1, a2, a3, a4⟩ : Am) = ⟨d, r, 0, 0, 0, 0⟩ := by
      rw [HAV.out, lifeAt_none hno]
      unfold viewL newL
      simp only [List.length_nil]
      rw [if_neg (by have := HT.out.1; omega)]
      rfl
    have HAV2 := Lib.hid (Am.mk.inj hav)
    have hgv := HGG.out ▸ HN2.out
    obtain ⟨q0, q1, q2, q3, q4, q5⟩ := box6 hgv
    have z0 := frz hgv 0
    have z1 := frz hgv 1
    have z2 := frz hgv 2
    have z3 := frz hgv 3
    have z4 := frz hgv 4
    have z5 := frz hgv 5
    have HV3 := Lib.hid hgv
    clear hav hno hgv hgg
    go_wp2_with (fail)
    have HX := six_set (.string (aldT d)) (.string (alrT r)) (.int .i64 0) (.int .i64 0) (.int .i64 0) (.int .i64 0) HB2.out (Nat.le_of_eq HGG.out) HV3.out
    obtain ⟨HBX, HX⟩ := HX
    generalize ((((((w2.setCell ⟨g, 0, none⟩ (.string (aldT d))).setCell ⟨g, 1, none⟩ (.string (alrT r))).setCell ⟨g, 2, none⟩ (.int .i64 0)).setCell ⟨g, 3, none⟩ (.int .i64 0)).setCell ⟨g, 4, none⟩ (.int .i64 0)).setCell ⟨g, 5, none⟩ (.int .i64 0)) = U at HX HBX ⊢
    clear q0 q1 q2 q3 q4 q5
    obtain ⟨q0, q1, q2, q3, q4, q5⟩ := box6 HX
    exact bodyPost_ret (v := .tuple #[.agg #[.string (aldT d), .string (alrT r), .int .i64 0, .int .i64 0, .int .i64 0, .int .i64 0], .int .i64 0]) (by simp [results, Tryz.results18, go_sem, q0, q1, q2, q3, q4, q5]) rfl ⟨by obtain ⟨e1, e2, e3, e4, e5, e6⟩ := HAV2.out; rw [e1, e2, e3, e4, e5, e6], HBX⟩
end Go.Proofs.YtkabcipccpbphaaGreatDoor

/- alarm.lasting by its contract: the windows that have a moment. -/
namespace Go.Proofs.YtkabcipccpbphaaGreatDoor
open Go.RowKit

theorem alW_one (x : Int × Int) : ∀ u ∈ alW x, u.oneCell' = true := by
  intro u hu
  simp only [alW, List.mem_cons, List.not_mem_nil, or_false] at hu
  rcases hu with rfl | rfl <;> rfl
def lsts (x : Int × Int) : Bool := decide (x.1 < x.2)
theorem last1_any (x : Int × Int) (w : World) : Calls Tryz.prog 103 #[.agg #[.int .i64 x.1, .int .i64 x.2]] w fun e w' => e = .returned (.bool (!lsts x)) ∧ Below w.heap.size w w' := by
  obtain ⟨a, b⟩ := x
  unfold lsts
  simp only
  by_cases h : b ≤ a
  · rw [decide_eq_false (show ¬ a < b by omega)]
    go_enter Tryz.func103, Tryz.ntmps103
    go_wp2_with (fail)
    go_ret
    exact ⟨by simp, (Below.refl _ _).alloc (Nat.le_refl _) _⟩
  · rw [decide_eq_true (show a < b by omega)]
    go_enter Tryz.func103, Tryz.ntmps103
    go_wp2_with (fail)
    go_ret
    exact ⟨by simp, (Below.refl _ _).alloc (Nat.le_refl _) _⟩
theorem win_cells {w : World} {b o : Nat} {l : List (Int × Int)} (h : Cells w b o (recs alW l)) (i : Nat) (x : Int × Int) (hx : l[i]? = some x) : w.cell? ⟨b, o + i * 2, none⟩ = some (.int .i64 x.1) ∧ w.cell? ⟨b, o + i * 2 + 1, none⟩ = some (.int .i64 x.2) :=
  ⟨rec_cell alW_len h i x hx 0 _ rfl, rec_cell alW_len h i x hx 1 _ rfl⟩
/-- The first window that has no moment; -1: each has one. -/
def IdxW (L : List (Int × Int)) (z : Int) : Prop := (z = -1 ∧ ∀ x ∈ L, lsts x = true) ∨ ∃ k : Nat, k < L.length ∧ z = (k : Int) ∧ (∀ x ∈ L.take k, lsts x = true) ∧ ∀ x, L[k]? = some x → lsts x = false
set_option maxRecDepth 100000 in
set_option maxHeartbeats 1000000 in
theorem indexW_any (L : List (Int × Int)) (n c : Nat) (A : Option Addr) (w : World) (hn : L.length = n) (hn2 : n ≤ 100000) (hr : Row w w.heap.size A (recs alW L)) :
    Calls Tryz.prog 146 #[.slice A n c, .func (.func 103) #[] #[]] w fun e w' => ∃ z : Int, e = .returned (.int .i64 z) ∧ IdxW L z ∧ Below w.heap.size w w' := by
  have HR := Lib.hid hr
  have HN := Lib.hid hn
  clear hr hn
  go_enter Tryz.func146, Tryz.ntmps146
  go_wp2_with (fail)
  go_loopw [8] (fun s wr => ∃ (i : Nat), i ≤ n ∧ s = .int .i64 (i : Int) ∧ Below w.heap.size w wr ∧ Hid (∀ x ∈ L.take i, lsts x = true)) (fun s _ => n - (intOf s).toNat)
  case atStart => exact ⟨0, by omega, rfl, Below.refl _ _, Lib.hid (by simp)⟩
  case round =>
    obtain ⟨i, hin, rfl, hbr, HK⟩ := hrel
    have hbs := hbr.size
    have HB := Lib.hid hbr
    clear hbr
    by_cases hlt : i < n
    · have hltI : (i : Int) < n := by omega
      obtain ⟨x, hx⟩ : ∃ x, L[i]? = some x := ⟨_, List.getElem?_eq_getElem (by have := HN.out; omega)⟩
      obtain ⟨b, o, rfl, hb, hC⟩ := (HR.out.below HB.out).posR alW_len (by omega) (by have := HN.out; omega)
      obtain ⟨c0, c1⟩ := win_cells hC i x hx
      have HX := Lib.hid hx
      have hb' : b < wr.heap.size := by omega
      clear hx hC
      go_wp2_with (fail)
      refine (last1_any x _).mono ?_
      obtain ⟨t, et⟩ : ∃ t, t = lsts x := ⟨_, rfl⟩
      rw [← et]
      have HE := Lib.hid et
      clear et
      rintro e w2 ⟨rfl, hb2⟩
      have HB2 := Lib.hid (HB.out.trans (hb2.mono hbs))
      clear hb2
      cases t
      case true =>
        have HK2 := Lib.hid (show ∀ y ∈ L.take (i + 1), lsts y = true from by
          rw [List.take_add_one, HX.out]
          intro y hy
          rw [List.mem_append] at hy
          rcases hy with hy | hy
          · exact HK.out y hy
          · simp at hy; rw [hy]; exact HE.out.symm)
        go_wp2_with (fail)
        go_roundw
        case rel => exact ⟨i + 1, by omega, by simp, HB2.out, HK2⟩
        case measure => simp [intOf]; omega
      case false =>
        go_wp2_with (fail)
        go_ret
        exact ⟨(i : Int), rfl, .inr ⟨i, by rw [HN.out]; exact hlt, rfl, HK.out, fun y hy => by rw [HX.out] at hy; cases hy; exact HE.out.symm⟩, HB2.out⟩
    · have hltI : ¬ (i : Int) < n := by omega
      have hin' : i = n := by omega
      subst hin'
      go_wp2_with (fail)
      go_ret
      exact ⟨-1, rfl, .inl ⟨rfl, by have := HK.out; rwa [← HN.out, List.take_length] at this⟩, HB.out⟩
theorem win_store {W : World} {base g n cap : Nat} {L : List (Int × Int)} (h : W.ownsRow base 44 2 (.slice (some ⟨g, 0, none⟩) n cap) n (recs alW L)) (hL : L.length = n) (i : Nat) (hi : i < n) (x : Int × Int) :
    ((W.setCell ⟨g, i * 2, none⟩ (.int .i64 x.1)).setCell ⟨g, i * 2 + 1, none⟩ (.int .i64 x.2)).ownsRow base 44 2 (.slice (some ⟨g, 0, none⟩) n cap) n (recs alW (L.set i x)) ∧
    W.grownBy ((W.setCell ⟨g, i * 2, none⟩ (.int .i64 x.1)).setCell ⟨g, i * 2 + 1, none⟩ (.int .i64 x.2)) (some g) := by
  have h2 := own_setCells (alW x) (i * 2) W (recs alW L) h (by rw [recs_length alW_len, alW_len, hL]; omega)
  rw [recs_set alW_len L i x (by omega)] at h2
  exact h2
theorem filter_take_snoc {α : Type} {p : α → Bool} {L : List α} {j : Nat} {x : α} (hx : L[j]? = some x) : (L.take (j + 1)).filter p = (L.take j).filter p ++ (if p x then [x] else []) := by
  rw [List.take_add_one, hx, List.filter_append]
  cases h : p x <;> simp [h]
def DelP (L : List (Int × Int)) (base c : Nat) (A : Option Addr) (w : World) (e : Ending) (w' : World) : Prop :=
  e = .returned (.slice A (L.filter lsts).length c) ∧ w'.ownsRow base 44 2 (.slice A (L.filter lsts).length c) (L.filter lsts).length (recs alW (L.filter lsts)) ∧ w.grownBy w' (Value.slice A L.length c).ownBlock
set_option maxRecDepth 100000 in
set_option maxHeartbeats 4000000 in
theorem deleteW_any (L : List (Int × Int)) (n c base : Nat) (A : Option Addr) (w : World) (hn : L.length = n) (hn2 : n ≤ 100000) (ho : w.ownsRow base 44 2 (.slice A n c) n (recs alW L)) :
    Calls Tryz.prog 101 #[.slice A n c, .func (.func 103) #[] #[]] w fun e w' => DelP L base c A w e w' := by
  have hcap := own_cap ho
  have HL := Lib.hid hn
  have HO := Lib.hid ho
  have HI := Lib.hid (indexW_any L n c A w hn hn2 (by
    rcases own_two ho with ⟨rfl, h0, _⟩ | ⟨g, rfl, _, hlt⟩
    · have : L = [] := List.eq_nil_of_length_eq_zero (by omega)
      subst this
      exact .inl rfl
    · exact .inr ⟨g, 0, rfl, hlt, own_cells0 ho⟩))
  clear ho hn
  go_enter Tryz.func101, Tryz.ntmps101
  go_wp2_with (fail)
  refine HI.out.mono ?_
  rintro e w1 ⟨z, rfl, hz, hb1⟩
  have hs1 := hb1.size
  have HB1 := Lib.hid hb1
  have HO1 := Lib.hid (own_belowP HO.out hb1)
  clear hb1
  rcases hz with ⟨rfl, hall⟩ | ⟨k, hk, rfl, hpre, hkx⟩
  · have hf : L.filter lsts = L := List.filter_eq_self.2 hall
    have HF := Lib.hid (show DelP L base c A w (.returned (.slice A n c)) w1 from by
      unfold DelP
      rw [hf, HL.out]
      exact ⟨rfl, HO1.out, grown_belowP HB1.out⟩)
    clear hf hall
    go_wp2_with (fail)
    go_ret
    exact HF.out
  · have hkn : k < n := by rw [← HL.out]; exact hk
    obtain ⟨g, rfl, hbg, hlt⟩ : ∃ g, A = some ⟨g, 0, none⟩ ∧ base ≤ g ∧ g < w1.heap.size := by
      rcases own_two HO1.out with ⟨_, h0, _⟩ | ⟨g, h1, h2, h3⟩
      · omega
      · exact ⟨g, h1, h2, h3⟩
    have HPK := Lib.hid (show (L.take (k + 1)).filter lsts = L.take k from by
      obtain ⟨x, hx⟩ : ∃ x, L[k]? = some x := ⟨_, List.getElem?_eq_getElem hk⟩
      rw [filter_take_snoc hx, hkx x hx]
      simp only [Bool.false_eq_true, if_false, List.append_nil]
      exact List.filter_eq_self.2 hpre)
    have hkne : ¬ (k : Int) = -1 := by omega
    have hkb : ((k : Int) == -1) = false := by simp
    have hkw : IntKind.i64.wrap ((k : Int) + 1) = (k : Int) + 1 := by rw [IntKind.wrap_i64]; omega
    clear hpre hkx hk
    go_wp2_with (fail)
    go_loopw [5, 6] (fun s t wx => ∃ (j : Nat), j ≤ n ∧ k < j ∧ t = .int .i64 (j : Int) ∧ s = .int .i64 (((L.take j).filter lsts).length : Int) ∧ ((L.take j).filter lsts).length < j ∧ wx.ownsRow base 44 2 (.slice (some ⟨g, 0, none⟩) n c) n (recs alW (csR L ((L.take j).filter lsts))) ∧ w.grownBy wx (some g)) (fun _ t _ => n - (intOf t).toNat)
    case atStart =>
      have htk : (L.take k).length = k := by rw [List.length_take]; have := HL.out; omega
      refine ⟨k + 1, by omega, by omega, by simp, by rw [HPK.out, htk], by rw [HPK.out, htk]; omega, ?_, grown_belowP HB1.out⟩
      rw [HPK.out, csR_take L k (by have := HL.out; omega)]
      exact HO1.out
    case round =>
      obtain ⟨j, hjn, hkj, rfl, rfl, hpl, hown, hgr⟩ := hrel
      have HOW := Lib.hid hown
      have HGR := Lib.hid hgr
      have hgs := hgr.size
      obtain ⟨P, eP⟩ : ∃ P, P = (L.take j).filter lsts := ⟨_, rfl⟩
      rw [← eP] at hpl HOW ⊢
      obtain ⟨pl, epl⟩ : ∃ pl, pl = P.length := ⟨_, rfl⟩
      rw [← epl] at hpl ⊢
      have HPL := Lib.hid epl.symm
      have HEP := Lib.hid eP
      clear hown hgr epl eP
      have hlg : g < wr.heap.size := by obtain ⟨cs, hcs⟩ := own_blk HOW.out; exact (Array.getElem?_eq_some_iff.1 hcs).1
      by_cases hltj : j < n
      · have hltI : (j : Int) < (n : Int) := by omega
        obtain ⟨x, hx⟩ : ∃ x, L[j]? = some x := ⟨_, List.getElem?_eq_getElem (by have := HL.out; omega)⟩
        have hcc := win_cells (own_cells0 HOW.out) j x (by rw [csR_get (by have := HPL.out; omega)]; exact hx)
        rw [Nat.zero_add] at hcc
        obtain ⟨c0, c1⟩ := hcc
        have HX := Lib.hid hx
        clear hx
        go_upto_region 8 with (fail)
        obtain ⟨g7, eg⟩ : ∃ g, g = wr.heap.size := ⟨_, rfl⟩
        obtain ⟨w2, e2⟩ : ∃ w2, w2 = wr.alloc (.cells #[.int .i64 x.1, .int .i64 x.2] 44) := ⟨_, rfl⟩
        rw [← eg, ← e2]
        have hg2 : w2.heap[g7]? = some (.cells #[.int .i64 x.1, .int .i64 x.2] 44 (0, 0)) := by rw [e2, eg]; exact heap_new wr _
        have hB2 : Below wr.heap.size wr w2 := by rw [e2]; exact (Below.refl _ _).alloc (Nat.le_refl _) _
        have hlt2 : g7 < w2.heap.size := by rw [e2, eg]; simp
        have hs2 := hB2.size
        have HB2 := Lib.hid hB2
        have HG2 := Lib.hid hg2
        have q0 := cell_of_blk (j := 0) hg2 rfl
        have q1 := cell_of_blk (j := 1) hg2 rfl
        clear eg e2 hg2 hB2 c0 c1
        go_wp2_with (fail)
        refine (last1_any x _).mono ?_
        obtain ⟨t, et⟩ : ∃ t, t = lsts x := ⟨_, rfl⟩
        rw [← et]
        have HE := Lib.hid et
        rintro e w3 ⟨rfl, hb3⟩
        have hs3 := hb3.size
        have HB3 := Lib.hid (HB2.out.trans (hb3.mono hs2))
        have hg3 := (hb3.block g7 hlt2).trans HG2.out
        have hlt3 : g7 < w3.heap.size := by omega
        have HO3 := Lib.hid (own_belowP HOW.out HB3.out)
        have HG3 := Lib.hid (grown_more HGR.out (grown_belowP (r := none) HB3.out) (by simp))
        have HSN := Lib.hid (filter_take_snoc (p := lsts) HX.out)
        clear hb3 et q0 q1
        have q0 := cell_of_blk (j := 0) hg3 rfl
        have q1 := cell_of_blk (j := 1) hg3 rfl
        clear hg3
        cases t
        case false =>
          have HN2 := Lib.hid (show (L.take (j + 1)).filter lsts = P from by rw [HSN.out, ← HE.out, ← HEP.out]; simp)
          go_wp2_with (fail)
          go_roundw
          case rel => exact ⟨j + 1, by omega, by omega, by go_num, by rw [HN2.out, HPL.out], by rw [HN2.out, HPL.out]; omega, by rw [HN2.out]; exact HO3.out, HG3.out⟩
          case measure => simp [intOf]; omega
        case true =>
          have HN2 := Lib.hid (show (L.take (j + 1)).filter lsts = P ++ [x] from by rw [HSN.out, ← HE.out, ← HEP.out]; simp)
          have hpn : pl < n := by omega
          have hpI : (pl : Int) < (n : Int) := by omega
          obtain ⟨zz, hz⟩ : ∃ z, (csR L P)[pl]? = some z := ⟨_, List.getElem?_eq_getElem (by rw [csR_len (by have := HPL.out; have := HL.out; omega)]; have := HL.out; omega)⟩
          have hzc := win_cells (own_cells0 HO3.out) pl zz hz
          rw [Nat.zero_add] at hzc
          obtain ⟨z0, z1⟩ := hzc
          obtain ⟨cs, hcs⟩ := own_blk HO3.out
          have fr0 : w3.frozen? ⟨g, pl * 2, none⟩ = false := by simp [World.frozen?, hcs]
          have fr1 : w3.frozen? ⟨g, pl * 2 + 1, none⟩ = false := by simp [World.frozen?, hcs]
          have hlg3 : g < w3.heap.size := by omega
          have HSET := Lib.hid (win_store HO3.out (by rw [csR_len (by have := HPL.out; have := HL.out; omega)]; exact HL.out) pl hpn x)
          clear hcs hz
          go_upto_region 10 with (fail)
          generalize hW5 : (w3.setCell ⟨g, pl * 2, none⟩ (.int .i64 x.1)).setCell ⟨g, pl * 2 + 1, none⟩ (.int .i64 x.2) = w5 at HSET ⊢
          have HO5 := Lib.hid (show w5.ownsRow base 44 2 (.slice (some ⟨g, 0, none⟩) n c) n (recs alW (csR L (P ++ [x]))) from by
            have h := HSET.out.1
            rw [← HPL.out, csR_set (by have := HPL.out; have := HL.out; omega)] at h
            exact h)
          have HG5 := Lib.hid (grown_trans HG3.out HSET.out.2)
          have HPL5 := Lib.hid (show (P ++ [x]).length = pl + 1 from by rw [List.length_append, HPL.out]; rfl)
          clear hW5 HSET z0 z1 q0 q1 fr0 fr1
          go_wp2_with (fail)
          go_roundw
          case rel => exact ⟨j + 1, by omega, by omega, by go_num, by rw [HN2.out, HPL5.out]; go_num, by rw [HN2.out, HPL5.out]; omega, by rw [HN2.out]; exact HO5.out, HG5.out⟩
          case measure => simp [intOf]; omega
      · have hltI : ¬ (j : Int) < (n : Int) := by omega
        have hjn2 : j = n := by omega
        subst hjn2
        have hPL : P = L.filter lsts := by rw [HEP.out, ← HL.out, List.take_length]
        have hcp : ¬ c = pl := by omega
        have hpn : pl ≤ j := by omega
        have hpI : (pl : Int) ≤ (j : Int) := by omega
        obtain ⟨cs, hcs⟩ := own_blk HOW.out
        obtain ⟨vs, hvl, hcl⟩ := run_clear_n (P := Tryz.prog) wr 40 44 _ [.int .i64 0, .int .i64 0] (j - pl) Tryz.underlying40 Tryz.zeroValue44 rfl (by simp) (by intro u hu; simp at hu; rw [hu]; rfl) g (pl * 2)
          (fun i hi => by
            simp at hi
            rw [HOW.out.cellAt _ (by omega), List.getElem?_eq_getElem (by rw [recs_length alW_len, csR_len (by have := HPL.out; have := HL.out; omega), HL.out]; omega)]
            rfl)
          (fun i _ => HOW.out.frozenAt _)
        have hvl8 : vs.length = (j - pl) * 2 := by rw [hvl]; rfl
        have HSET := Lib.hid (own_setCells vs (pl * 2) wr (recs alW (csR L P)) HOW.out (by rw [recs_length alW_len, csR_len (by have := HPL.out; have := HL.out; omega), hvl8, HL.out]; omega))
        have HF := Lib.hid (show DelP L base c (some ⟨g, 0, none⟩) w (.returned (.slice (some ⟨g, 0, none⟩) pl c)) (wr.setCells g (pl * 2) vs) from by
          unfold DelP
          rw [← hPL, HPL.out]
          refine ⟨rfl, ?_, grown_trans HGR.out HSET.out.2⟩
          have h := own_shrink HSET.out.1 pl hpn
          rw [List.append_assoc, List.take_append_of_le_length (by rw [List.length_take, recs_length alW_len, csR_len (by have := HPL.out; have := HL.out; omega), HL.out]; omega), List.take_take, Nat.min_self] at h
          have h3 : (recs alW (csR L P)).take (pl * 2) = recs alW P := by
            have h4 := recs_append alW P (L.drop P.length)
            unfold csR
            rw [h4, List.take_append_of_le_length (by rw [recs_length alW_len, HPL.out]; exact Nat.le_refl _), List.take_of_length_le (by rw [recs_length alW_len, HPL.out]; exact Nat.le_refl _)]
          rw [h3] at h
          exact h)
        have hsl : ∀ ty, (Builtin.clear_ #[40] ty #[.slice (some ⟨g, pl * 2, none⟩) (j - pl) (c - pl)]).run Tryz.prog wr = .ok (.tuple #[]) (wr.setCells g (pl * 2) vs) := fun ty => hcl ty (c - pl)
        clear hcl HSET hcs hvl hvl8 hPL
        obtain ⟨W6, e6⟩ : ∃ W6, W6 = wr.setCells g (pl * 2) vs := ⟨_, rfl⟩
        rw [← e6] at hsl HF
        clear e6
        go_wp2_with (fail)
        go_ret
        exact HF.out
set_option maxRecDepth 100000 in
set_option maxHeartbeats 1000000 in
theorem cloneW_some (b off n c : Nat) (xs : List Value) (w : World) (hl : xs.length = n * 2) (h1 : ∀ u ∈ xs, u.oneCell' = true) (hn : n ≤ 1000000) (hc : Cells w b off xs) :
    Calls Tryz.prog 102 #[.slice (some ⟨b, off, none⟩) n c] w fun e w' => ∃ v', e = .returned v' ∧ w'.ownsRow w.heap.size 44 2 v' n xs ∧ Below w.heap.size w w' := by
  obtain ⟨i0, hi, hz0, hz1, hz2⟩ := info_parts Tryz.infoWinA
  have q22 : ∀ (w : World) (a : Option Addr) (n c n' c' : Nat), (binOp .eql 40 (.slice a n c) (.slice none n' c')).run Tryz.prog w = .ok (.bool a.isNone) w := fun w a n c n' c' => Lib.run_eql_slice_nil w _ _ a n c n' c' Tryz.underlying40
  have HC := Lib.hid hc
  have H1 := Lib.hid h1
  have HL := Lib.hid hl
  clear hc h1 hl
  go_enter Tryz.func102, Tryz.ntmps102
  go_wp2_with (at_builtin; refine wpList_append_own _ rfl _ _ 40 rfl w.heap.size 44 i0 _ 2 16 Tryz.underlying40 hi hz0 hz1 hz2 rfl (by decide) _ _ _ rfl (World.ownsRow_made w #[] 0 (Nat.le_refl _) (Nat.zero_le _) rfl) ⟨b, off, none⟩ n c xs rfl ?qc1 ?qc2 ?qc3 ?qc4 ?qc5 ?qc6 ?_)
  case qc1 => exact HL.out
  case qc2 =>
    intro j u hj
    rw [Addr.add_lit]
    exact Lib.cell?_alloc_some _ (HC.out j u hj)
  case qc3 => exact H1.out
  case qc4 => unfold maxLen; omega
  case qc5 => omega
  case qc6 => simp
  intro v' w1 hown hgrow hnil
  go_wp2
  go_ret
  refine ⟨v', rfl, by simpa using hown, ?_⟩
  exact ((Below.refl _ w).alloc (Nat.le_refl _) _).grown hgrow (by simp) (by intro k hk; simp [Value.ownBlock] at hk; omega)
theorem cloneW_nil (n c : Nat) (w : World) : Calls Tryz.prog 102 #[.slice none n c] w fun e w' => e = .returned (.slice none 0 0) ∧ w = w' := by
  have q22 : ∀ (w : World) (a : Option Addr) (n c n' c' : Nat), (binOp .eql 40 (.slice a n c) (.slice none n' c')).run Tryz.prog w = .ok (.bool a.isNone) w := fun w a n c n' c' => Lib.run_eql_slice_nil w _ _ a n c n' c' Tryz.underlying40
  go_enter Tryz.func102, Tryz.ntmps102
  go_wp2
  go_ret
  exact ⟨rfl, rfl⟩
theorem recsW_one (L : List (Int × Int)) : ∀ u ∈ recs alW L, u.oneCell' = true := by
  intro u hu
  simp only [recs, List.mem_flatMap] at hu
  obtain ⟨x, _, hx⟩ := hu
  exact alW_one x u hx
theorem cloneW_any (L : List (Int × Int)) (n base : Nat) (v : Value) (w : World) (hn : L.length = n) (hn2 : n ≤ 100000) (ho : w.ownsRow base 44 2 v n (recs alW L)) :
    Calls Tryz.prog 102 #[v] w fun e w' => ∃ v', e = .returned v' ∧ w'.ownsRow w.heap.size 44 2 v' n (recs alW L) ∧ Below w.heap.size w w' := by
  obtain ⟨A, c, rfl⟩ := own_slice ho
  rcases own_two ho with ⟨rfl, h0, rfl⟩ | ⟨g, rfl, _, hlt⟩
  · subst h0
    have : L = [] := List.eq_nil_of_length_eq_zero hn
    subst this
    refine (cloneW_nil 0 0 w).mono ?_
    rintro e w' ⟨rfl, rfl⟩
    exact ⟨_, rfl, World.ownsRow_nil _ _ _ _, Below.refl _ _⟩
  · exact cloneW_some g 0 n c (recs alW L) w (by rw [recs_length alW_len, hn]) (recsW_one L) (by omega) (own_cells0 ho)
def LastP (L : List (Int × Int)) (w : World) (e : Ending) (w' : World) : Prop := ∃ A c, e = .returned (.slice A (L.filter lsts).length c) ∧ w'.ownsRow w.heap.size 44 2 (.slice A (L.filter lsts).length c) (L.filter lsts).length (recs alW (L.filter lsts)) ∧ Below w.heap.size w w'
theorem lasting_any (L : List (Int × Int)) (n base : Nat) (v : Value) (w : World) (hn : L.length = n) (hn2 : n ≤ 100000) (ho : w.ownsRow base 44 2 v n (recs alW L)) :
    Calls Tryz.prog 53 #[v] w fun e w' => LastP L w e w' := by
  have HC := Lib.hid (cloneW_any L n base v w hn hn2 ho)
  have HN := Lib.hid hn
  clear ho hn
  go_enter Tryz.func53, Tryz.ntmps53
  go_wp2_with (fail)
  refine HC.out.mono ?_
  rintro e w1 ⟨v', rfl, ho1, hb1⟩
  obtain ⟨A, c, rfl⟩ := own_slice ho1
  have HD := Lib.hid (deleteW_any L n c w.heap.size A w1 HN.out hn2 ho1)
  have HB := Lib.hid hb1
  have HO := Lib.hid (fun g (hg : (Value.slice A n c).ownBlock = some g) => (ho1.lt g hg).1)
  clear ho1 hb1
  go_wp2_with (fail)
  refine HD.out.mono ?_
  rintro e w2 ⟨rfl, ho2, hg2⟩
  have HF := Lib.hid (show Below w.heap.size w w2 from by
    rw [HN.out] at hg2
    exact HB.out.grown hg2 HB.out.size (fun k hk => HO.out k hk))
  have HO2 := Lib.hid ho2
  clear ho2 hg2
  go_wp2_with (fail)
  go_ret
  exact ⟨A, c, rfl, HO2.out, HF.out⟩
end Go.Proofs.YtkabcipccpbphaaGreatDoor

/- AlarmsTakeTurns: the plain law; no program in sight. -/
namespace Go.Proofs.YtkabcipccpbphaaGreatDoor

def isUp (L : Lf) : Prop := L.st = 1 ∨ L.st = 2
theorem follow_kind (L : Lf) (s : Sg) :
    ((followL L s).1.up = L.up ∧ (isUp (followL L s).1 ↔ isUp L)) ∨ (¬ isUp L ∧ isUp (followL L s).1 ∧ (followL L s).1.up = L.up ++ [(s.at_, alEnd)] ∧ s.kd = 1) ∨ (isUp L ∧ ¬ isUp (followL L s).1 ∧ (followL L s).1.up = setLast L.up s.at_) := by
  unfold followL isUp
  split
  · rename_i hk
    split
    · exact .inl ⟨rfl, Iff.rfl⟩
    · rename_i h
      exact .inr (.inl ⟨h, .inl rfl, rfl, hk⟩)
  · split
    · split
      · rename_i h
        refine .inr (.inr ⟨.inl h, ?_, rfl⟩)
        simp [clA]
      · split
        · rename_i h
          refine .inr (.inr ⟨.inr h, ?_, rfl⟩)
          simp [clK]
        · exact .inl ⟨rfl, Iff.rfl⟩
    · split
      · split
        · rename_i h
          refine .inl ⟨rfl, ?_⟩
          simp [akd, akR, h]
        · split
          · rename_i h
            refine .inl ⟨rfl, ?_⟩
            simp [akd, akA, h]
          · exact .inl ⟨rfl, Iff.rfl⟩
      · split
        · split
          · exact .inl ⟨rfl, Iff.rfl⟩
          · exact .inl ⟨rfl, Iff.rfl⟩
        · split
          · exact .inl ⟨rfl, Iff.rfl⟩
          · exact .inl ⟨rfl, Iff.rfl⟩
theorem lifeAt_all {l : List Sg} {m : Int} {n : Nm2} (hm : ∀ s ∈ l, s.at_ ≤ m) (he : ∀ s ∈ l, s.at_ ≤ alEnd) : lifeAt l m n = lifeAt l alEnd n := by
  have key : ∀ (l : List Sg) (L : Lf), (∀ s ∈ l, s.at_ ≤ m) → (∀ s ∈ l, s.at_ ≤ alEnd) → l.foldl (lifeStep m n) L = l.foldl (lifeStep alEnd n) L := by
    intro l
    induction l with
    | nil => intro L _ _; rfl
    | cons s l ih =>
      intro L h1 h2
      rw [List.foldl_cons, List.foldl_cons]
      have : lifeStep m n L s = lifeStep alEnd n L s := by
        unfold lifeStep
        have := h1 s List.mem_cons_self
        have := h2 s List.mem_cons_self
        by_cases hn : (s.d, s.r) = n
        · rw [if_pos ⟨hn, by assumption⟩, if_pos ⟨hn, by assumption⟩]
        · rw [if_neg (fun e => hn e.1), if_neg (fun e => hn e.1)]
      rw [this]
      exact ih _ (fun q hq => h1 q (List.mem_cons_of_mem _ hq)) (fun q hq => h2 q (List.mem_cons_of_mem _ hq))
  exact key l _ hm he
/-- What holds of the windows behind some signals. -/
structure UpI (l : List Sg) (n : Nm2) (cl op : List (Int × Int)) : Prop where
  up : (lifeAt l alEnd n).up = cl ++ op
  pw : (cl ++ op).Pairwise (fun a b => a.2 ≤ b.1)
  rng : ∀ w ∈ cl ++ op, 0 ≤ w.1 ∧ w.1 ≤ w.2 ∧ w.2 ≤ alEnd ∧ ∃ s ∈ l, s.at_ = w.1 ∧ s.kd = 1 ∧ (s.d, s.r) = n
  cl_ : ∀ w ∈ cl, ∃ s ∈ l, w.2 = s.at_
  opn : (isUp (lifeAt l alEnd n) ∧ ∃ f, op = [(f, alEnd)]) ∨ (¬ isUp (lifeAt l alEnd n) ∧ op = [])
  st : ∀ w ∈ cl ++ op, ∀ m, w.1 ≤ m → m < w.2 → isUp (lifeAt l m n)
theorem upI_nil (n : Nm2) : UpI [] n [] [] := by
  refine ⟨rfl, List.Pairwise.nil, by simp, by simp, .inr ⟨?_, rfl⟩, by simp⟩
  unfold isUp
  simp [lifeAt, newL]
theorem upI_snoc {l : List Sg} {s : Sg} {n : Nm2} {cl op : List (Int × Int)} (h : UpI l n cl op) (hs : ∀ q ∈ l, q.at_ ≤ s.at_) (h0 : 0 ≤ s.at_) (h1 : s.at_ < alEnd) : ∃ cl' op', UpI (l ++ [s]) n cl' op' := by
  have hle : ∀ q ∈ l, q.at_ ≤ alEnd := fun q hq => by have := hs q hq; omega
  have hmem : ∀ q ∈ l, q ∈ l ++ [s] := fun q hq => List.mem_append_left _ hq
  by_cases hn : (s.d, s.r) = n
  · have hF : lifeAt (l ++ [s]) alEnd n = (followL (lifeAt l alEnd n) s).1 := by
      rw [lifeAt_snoc]; unfold lifeStep; rw [if_pos ⟨hn, by omega⟩]
    have hlow : ∀ m, m < s.at_ → lifeAt (l ++ [s]) m n = lifeAt l m n := fun m hm => by
      rw [lifeAt_snoc]; unfold lifeStep; rw [if_neg (fun e => by have := e.2; omega)]
    have hhigh : ∀ m, s.at_ ≤ m → lifeAt (l ++ [s]) m n = lifeAt (l ++ [s]) alEnd n := fun m hm =>
      lifeAt_all (fun q hq => by
        rw [List.mem_append, List.mem_singleton] at hq
        rcases hq with hq | rfl
        · have := hs q hq; omega
        · exact hm) (fun q hq => by
        rw [List.mem_append, List.mem_singleton] at hq
        rcases hq with hq | rfl
        · exact hle q hq
        · omega)
    have hclm : ∀ w ∈ cl, ∀ m, m < w.2 → m < s.at_ := fun w hw m hm => by
      obtain ⟨q, hq, e⟩ := h.cl_ w hw
      have := hs q hq
      omega
    have hrng : ∀ w ∈ cl ++ op, 0 ≤ w.1 ∧ w.1 ≤ w.2 ∧ w.2 ≤ alEnd ∧ ∃ q ∈ l ++ [s], q.at_ = w.1 ∧ q.kd = 1 ∧ (q.d, q.r) = n := fun w hw => by
      obtain ⟨a, b, c, q, hq, d⟩ := h.rng w hw
      exact ⟨a, b, c, q, hmem q hq, d⟩
    rcases follow_kind (lifeAt l alEnd n) s with ⟨k1, k2⟩ | ⟨k1, k2, k3, k4⟩ | ⟨k1, k2, k3⟩
    · refine ⟨cl, op, by rw [hF, k1]; exact h.up, h.pw, hrng, fun w hw => by obtain ⟨q, hq, e⟩ := h.cl_ w hw; exact ⟨q, hmem q hq, e⟩, by rw [hF, k2]; exact h.opn, fun w hw m h2 h3 => ?_⟩
      rcases Int.lt_or_le m s.at_ with hm | hm
      · rw [hlow m hm]; exact h.st w hw m h2 h3
      · rw [hhigh m hm, hF, k2]
        rcases List.mem_append.1 hw with hw | hw
        · have := hclm w hw m h3; omega
        · rcases h.opn with ⟨g, _⟩ | ⟨_, g⟩
          · exact g
          · rw [g] at hw; cases hw
    · have hop : op = [] := by
        rcases h.opn with ⟨g, _⟩ | ⟨_, g⟩
        · exact absurd g k1
        · exact g
      subst hop
      have hup := h.up
      rw [List.append_nil] at hup
      refine ⟨cl, [(s.at_, alEnd)], by rw [hF, k3, hup], ?_, ?_, fun w hw => by obtain ⟨q, hq, e⟩ := h.cl_ w hw; exact ⟨q, hmem q hq, e⟩, by rw [hF]; exact .inl ⟨k2, _, rfl⟩, ?_⟩
      · have hpw := h.pw
        rw [List.append_nil] at hpw
        refine List.pairwise_append.2 ⟨hpw, List.pairwise_singleton _ _, fun a ha b hb => ?_⟩
        rw [List.mem_singleton] at hb
        subst hb
        obtain ⟨q, hq, e⟩ := h.cl_ a ha
        have := hs q hq
        show a.2 ≤ s.at_
        omega
      · intro w hw
        rcases List.mem_append.1 hw with hw | hw
        · exact hrng w (List.mem_append_left _ hw)
        · rw [List.mem_singleton] at hw
          subst hw
          exact ⟨h0, by show s.at_ ≤ alEnd; omega, Int.le_refl _, s, by simp, rfl, k4, hn⟩
      · intro w hw m h2 h3
        rcases List.mem_append.1 hw with hw | hw
        · rw [hlow m (hclm w hw m h3)]
          exact h.st w (List.mem_append_left _ hw) m h2 h3
        · rw [List.mem_singleton] at hw
          subst hw
          rw [hhigh m h2, hF]
          exact k2
    · obtain ⟨f, hop⟩ : ∃ f, op = [(f, alEnd)] := by
        rcases h.opn with ⟨_, g⟩ | ⟨g, _⟩
        · exact g
        · exact absurd k1 g
      subst hop
      have hf := h.rng (f, alEnd) (by simp)
      obtain ⟨f1, f2, f3, q0, hq0, f4, f5⟩ := hf
      simp only at f1 f2 f3 f4
      have hfs : f ≤ s.at_ := by have := hs q0 hq0; omega
      refine ⟨cl ++ [(f, s.at_)], [], by rw [hF, k3, h.up, setLast_snoc, List.append_nil], ?_, ?_, ?_, by rw [hF]; exact .inr ⟨k2, rfl⟩, ?_⟩
      · rw [List.append_nil]
        have hpw := List.pairwise_append.1 h.pw
        refine List.pairwise_append.2 ⟨hpw.1, List.pairwise_singleton _ _, fun a ha b hb => ?_⟩
        rw [List.mem_singleton] at hb
        subst hb
        exact hpw.2.2 a ha (f, alEnd) (by simp)
      · intro w hw
        rw [List.append_nil] at hw
        rcases List.mem_append.1 hw with hw | hw
        · exact hrng w (List.mem_append_left _ hw)
        · rw [List.mem_singleton] at hw
          subst hw
          exact ⟨f1, hfs, by show s.at_ ≤ alEnd; omega, q0, hmem q0 hq0, f4, f5⟩
      · intro w hw
        rcases List.mem_append.1 hw with hw | hw
        · obtain ⟨q, hq, e⟩ := h.cl_ w hw
          exact ⟨q, hmem q hq, e⟩
        · rw [List.mem_singleton] at hw
          subst hw
          exact ⟨s, by simp, rfl⟩
      · intro w hw m h2 h3
        rw [List.append_nil] at hw
        rcases List.mem_append.1 hw with hw | hw
        · rw [hlow m (hclm w hw m h3)]
          exact h.st w (List.mem_append_left _ hw) m h2 h3
        · rw [List.mem_singleton] at hw
          subst hw
          simp only at h2 h3
          rw [hlow m h3]
          exact h.st (f, alEnd) (by simp) m h2 (by show m < alEnd; omega)
  · have hF : ∀ m, lifeAt (l ++ [s]) m n = lifeAt l m n := fun m => by
      rw [lifeAt_snoc]; unfold lifeStep; rw [if_neg (fun e => hn e.1)]
    refine ⟨cl, op, by rw [hF]; exact h.up, h.pw, fun w hw => ?_, fun w hw => ?_, by rw [hF]; exact h.opn, fun w hw m h2 h3 => by rw [hF]; exact h.st w hw m h2 h3⟩
    · obtain ⟨a, b, c, q, hq, d⟩ := h.rng w hw
      exact ⟨a, b, c, q, hmem q hq, d⟩
    · obtain ⟨q, hq, e⟩ := h.cl_ w hw
      exact ⟨q, hmem q hq, e⟩
theorem upI_any {l : List Sg} (n : Nm2) (h : SgsOk l) : ∃ cl op, UpI l n cl op := by
  have key : ∀ k, k ≤ l.length → ∃ cl op, UpI (l.take k) n cl op := by
    intro k
    induction k with
    | zero => intro _; exact ⟨[], [], by simpa using upI_nil n⟩
    | succ k ih =>
      intro hk
      obtain ⟨cl, op, hi⟩ := ih (by omega)
      have hx : l[k]? = some l[k] := List.getElem?_eq_getElem (by omega)
      have he : l.take (k + 1) = l.take k ++ [l[k]] := by rw [List.take_add_one, hx]; rfl
      rw [he]
      have hr := h.1 l[k] (List.getElem_mem (by omega))
      refine upI_snoc hi (fun q hq => ?_) hr.at0 hr.at1
      obtain ⟨i, hi', rfl⟩ := List.getElem_of_mem hq
      rw [List.length_take] at hi'
      rw [List.getElem_take]
      have := (List.pairwise_iff_getElem.1 h.2) i k (by omega) (by omega) (by omega)
      unfold SgL at this
      omega
  have := key l.length (Nat.le_refl _)
  rwa [List.take_length] at this
structure TurnW (l : List Sg) (n : Nm2) (w : Int × Int) : Prop where
  lo : 0 ≤ w.1
  lt : w.1 < w.2
  hi : w.2 ≤ 345686400000
  sig : ∃ s ∈ l, s.at_ = w.1 ∧ s.kd = 1 ∧ (s.d, s.r) = n
  at1 : isUp (lifeAt l w.1 n)
  at2 : isUp (lifeAt l (w.2 - 1) n)
theorem turns_any {l : List Sg} (n : Nm2) (h : SgsOk l) : ((lifeAt l 345686400000 n).up.filter lsts).Pairwise (fun a b => a.2 ≤ b.1) ∧ ∀ w ∈ (lifeAt l 345686400000 n).up.filter lsts, TurnW l n w := by
  obtain ⟨cl, op, hi⟩ := upI_any n h
  have hup : (lifeAt l 345686400000 n).up = cl ++ op := hi.up
  rw [hup]
  refine ⟨hi.pw.sublist List.filter_sublist, fun w hw => ?_⟩
  obtain ⟨hw1, hw2⟩ := List.mem_filter.1 hw
  have hlt : w.1 < w.2 := by unfold lsts at hw2; simpa using hw2
  obtain ⟨a, b, c, d⟩ := hi.rng w hw1
  exact ⟨a, hlt, c, d, hi.st w hw1 w.1 (Int.le_refl _) hlt, hi.st w hw1 (w.2 - 1) (by omega) (by omega)⟩
end Go.Proofs.YtkabcipccpbphaaGreatDoor

/- RefusedCanGo: the plain law; no program in sight. -/
namespace Go.Proofs.YtkabcipccpbphaaGreatDoor

/-- Why the signal at a place is refused; 0: it is followed. -/
def whyAt (l : List Sg) (i : Nat) (s : Sg) : Int := (followL (lifeAt (l.take i) alEnd (s.d, s.r)) s).2
def refU (l : List Sg) : Nat → List (Nat × Int)
  | 0 => []
  | k + 1 => refU l k ++ (match l[k]? with | some s => if whyAt l k s = 0 then [] else [(k, whyAt l k s)] | none => [])
def keepU (l : List Sg) : Nat → List Sg
  | 0 => []
  | k + 1 => keepU l k ++ (match l[k]? with | some s => if whyAt l k s = 0 then [s] else [] | none => [])
theorem refU_some {l : List Sg} {k : Nat} {s : Sg} (h : l[k]? = some s) : refU l (k + 1) = refU l k ++ (if whyAt l k s = 0 then [] else [(k, whyAt l k s)]) := by
  simp only [refU, h]
theorem keepU_some {l : List Sg} {k : Nat} {s : Sg} (h : l[k]? = some s) : keepU l (k + 1) = keepU l k ++ (if whyAt l k s = 0 then [s] else []) := by
  simp only [keepU, h]
theorem refU_lt {l : List Sg} {k : Nat} {z : Nat × Int} (h : z ∈ refU l k) : z.1 < k := by
  induction k with
  | zero => cases h
  | succ k ih =>
    simp only [refU, List.mem_append] at h
    rcases h with h | h
    · have := ih h; omega
    · split at h
      · split at h
        · cases h
        · rw [List.mem_singleton] at h; subst h; exact Nat.lt_succ_self _
      · cases h
theorem mem_refU {l : List Sg} {k i : Nat} {s : Sg} (hs : l[i]? = some s) (hi : i < k) : (∃ z ∈ refU l k, z.1 = i) ↔ whyAt l i s ≠ 0 := by
  induction k with
  | zero => omega
  | succ k ih =>
    simp only [refU]
    by_cases hk : i = k
    · subst hk
      rw [hs]
      constructor
      · rintro ⟨z, hz, e⟩
        rcases List.mem_append.1 hz with hz | hz
        · have := refU_lt hz; omega
        · simp only at hz
          split at hz
          · cases hz
          · assumption
      · intro h
        exact ⟨(i, whyAt l i s), List.mem_append_right _ (by simp only; rw [if_neg h]; simp), rfl⟩
    · rw [← ih (by omega)]
      constructor
      · rintro ⟨z, hz, e⟩
        rcases List.mem_append.1 hz with hz | hz
        · exact ⟨z, hz, e⟩
        · exfalso
          split at hz
          · split at hz
            · cases hz
            · rw [List.mem_singleton] at hz; subst hz; exact hk e.symm
          · cases hz
      · rintro ⟨z, hz, e⟩
        exact ⟨z, List.mem_append_left _ hz, e⟩
theorem refused_same {L : Lf} {s : Sg} (h : (followL L s).2 ≠ 0) : (followL L s).1 = L := by
  unfold followL at h ⊢
  split
  · split
    · rfl
    · rename_i h1 h2; rw [if_pos h1, if_neg h2] at h; exact absurd rfl h
  · rename_i h1
    rw [if_neg h1] at h
    split
    · rename_i h2
      rw [if_pos h2] at h
      split
      · rename_i h3; rw [if_pos h3] at h; exact absurd rfl h
      · rename_i h3
        rw [if_neg h3] at h
        split
        · rename_i h4; rw [if_pos h4] at h; exact absurd rfl h
        · rfl
    · rename_i h2
      rw [if_neg h2] at h
      split
      · rename_i h3
        rw [if_pos h3] at h
        split
        · rename_i h4; rw [if_pos h4] at h; exact absurd rfl h
        · rename_i h4
          rw [if_neg h4] at h
          split
          · rename_i h5; rw [if_pos h5] at h; exact absurd rfl h
          · rfl
      · rename_i h3
        rw [if_neg h3] at h
        split
        · rename_i h4
          rw [if_pos h4] at h
          split
          · rfl
          · rename_i h5; rw [if_neg h5] at h; exact absurd rfl h
        · rename_i h4
          rw [if_neg h4] at h
          split
          · rfl
          · rename_i h5; rw [if_neg h5] at h; exact absurd rfl h
theorem SgsOk.le_at {l : List Sg} (h : SgsOk l) {k : Nat} {s : Sg} (hs : l[k]? = some s) : ∀ q ∈ l.take k, q.at_ ≤ s.at_ := by
  intro q hq
  obtain ⟨i, hi, rfl⟩ := List.getElem_of_mem hq
  obtain ⟨hk, rfl⟩ := List.getElem?_eq_some_iff.1 hs
  rw [List.length_take] at hi
  rw [List.getElem_take]
  have := (List.pairwise_iff_getElem.1 h.2) i k (by omega) (by omega) (by omega)
  unfold SgL at this
  omega
theorem lifeAt_keep {l : List Sg} (h : SgsOk l) (t : Int) (n : Nm2) : ∀ k, k ≤ l.length → lifeAt (keepU l k) t n = lifeAt (l.take k) t n := by
  intro k
  induction k with
  | zero => intro _; rfl
  | succ k ih =>
    intro hk
    have hx : l[k]? = some l[k] := List.getElem?_eq_getElem (by omega)
    obtain ⟨s, es⟩ : ∃ s, s = l[k] := ⟨_, rfl⟩
    rw [← es] at hx
    have he : l.take (k + 1) = l.take k ++ [s] := by rw [List.take_add_one, hx]; rfl
    rw [keepU_some hx, he, lifeAt_snoc]
    by_cases hw : whyAt l k s = 0
    · rw [if_pos hw, lifeAt_snoc, ih (by omega)]
    · rw [if_neg hw, List.append_nil, ih (by omega)]
      unfold lifeStep
      split
      · rename_i hn
        obtain ⟨hn, hat⟩ := hn
        have hle := h.le_at hx
        have hr := h.1 s (List.mem_of_getElem? hx)
        have e : lifeAt (l.take k) t n = lifeAt (l.take k) alEnd n := lifeAt_all (fun q hq => by have := hle q hq; omega) (fun q hq => by have := hle q hq; have := hr.at1; unfold alEnd; omega)
        rw [e]
        unfold whyAt at hw
        rw [hn] at hw
        exact (refused_same hw).symm
      · rfl
theorem keepU_sub (l : List Sg) : ∀ k, (keepU l k).Sublist (l.take k) := by
  intro k
  induction k with
  | zero => exact List.Sublist.refl _
  | succ k ih =>
    cases hx : l[k]? with
    | none =>
      have : keepU l (k + 1) = keepU l k := by simp [keepU, hx]
      rw [this, List.take_add_one, hx]
      simpa using ih
    | some s =>
      rw [keepU_some hx, List.take_add_one, hx]
      refine List.Sublist.append ih ?_
      split
      · exact List.Sublist.refl _
      · exact List.nil_sublist _
theorem keepU_ok {l : List Sg} (h : SgsOk l) (k : Nat) : SgsOk (keepU l k) :=
  have hs := (keepU_sub l k).trans (List.take_sublist k l)
  ⟨fun s hm => h.1 s (hs.subset hm), h.2.sublist hs⟩
theorem why_keep {l : List Sg} (h : SgsOk l) : ∀ k, k ≤ l.length → ∀ j s, (keepU l k)[j]? = some s → whyAt (keepU l k) j s = 0 := by
  intro k
  induction k with
  | zero => intro _ j s hs; simp [keepU] at hs
  | succ k ih =>
    intro hk j s hs
    have hx : l[k]? = some l[k] := List.getElem?_eq_getElem (by omega)
    obtain ⟨u, eu⟩ : ∃ u, u = l[k] := ⟨_, rfl⟩
    rw [← eu] at hx
    rw [keepU_some hx] at hs ⊢
    by_cases hw : whyAt l k u = 0
    · rw [if_pos hw] at hs ⊢
      rcases Nat.lt_or_ge j (keepU l k).length with hj | hj
      · rw [List.getElem?_append_left hj] at hs
        have := ih (by omega) j s hs
        unfold whyAt at this ⊢
        rw [List.take_append_of_le_length (by omega)]
        exact this
      · rw [List.getElem?_append_right hj] at hs
        have hj0 : j - (keepU l k).length = 0 := by
          have := (List.getElem?_eq_some_iff.1 hs).1
          simp at this; omega
        rw [hj0] at hs
        obtain rfl : u = s := by simpa using hs
        have hjl : j = (keepU l k).length := by omega
        unfold whyAt at hw ⊢
        rw [hjl, List.take_left, lifeAt_keep h _ _ k (by omega)]
        exact hw
    · rw [if_neg hw, List.append_nil] at hs ⊢
      exact ih (by omega) j s hs
theorem refU_keep {l : List Sg} (h : SgsOk l) : ∀ m, refU (keepU l l.length) m = [] := by
  intro m
  induction m with
  | zero => rfl
  | succ m ih =>
    cases hx : (keepU l l.length)[m]? with
    | none => simp [refU, hx, ih]
    | some s => rw [refU_some hx, ih, if_pos (why_keep h _ (Nat.le_refl _) m s hx)]; rfl
/-- The names in order. -/
def al6 : List Nm2 := [(0, 0), (0, 1), (1, 0), (1, 1), (2, 0), (2, 1)]
def amsL (l : List Sg) (t : Int) : List Am := (al6.map fun n => viewL (lifeAt l t n) t).filter shownA
theorem amsL_keep {l : List Sg} (h : SgsOk l) (t : Int) : amsL (keepU l l.length) t = amsL l t := by
  unfold amsL
  have : (fun n => viewL (lifeAt (keepU l l.length) t n) t) = fun n => viewL (lifeAt l t n) t := by
    funext n
    rw [lifeAt_keep h t n _ (Nat.le_refl _), List.take_length]
  rw [this]
theorem strict_eq {α : Type} (f : α → Nat) : ∀ (a b : List α), a.Pairwise (fun x y => f x < f y) → b.Pairwise (fun x y => f x < f y) → (∀ x, x ∈ a ↔ x ∈ b) → a = b
  | [], [], _, _, _ => rfl
  | [], y :: b, _, _, h => by have := (h y).2 List.mem_cons_self; cases this
  | x :: a, [], _, _, h => by have := (h x).1 List.mem_cons_self; cases this
  | x :: a, y :: b, ha, hb, h => by
    obtain ⟨ha1, ha2⟩ := List.pairwise_cons.1 ha
    obtain ⟨hb1, hb2⟩ := List.pairwise_cons.1 hb
    have hxy : x = y := by
      rcases List.mem_cons.1 ((h x).1 List.mem_cons_self) with e | e
      · exact e
      · rcases List.mem_cons.1 ((h y).2 List.mem_cons_self) with e' | e'
        · exact e'.symm
        · have := ha1 y e'
          have := hb1 x e
          omega
    subst hxy
    congr 1
    refine strict_eq f a b ha2 hb2 fun z => ⟨fun hz => ?_, fun hz => ?_⟩
    · rcases List.mem_cons.1 ((h z).1 (List.mem_cons_of_mem _ hz)) with e | e
      · subst e; have := ha1 z hz; omega
      · exact e
    · rcases List.mem_cons.1 ((h z).2 (List.mem_cons_of_mem _ hz)) with e | e
      · subst e; have := hb1 z hz; omega
      · exact e
theorem mem_al6 {n : Nm2} (h : NmOk n) : n ∈ al6 := by
  obtain ⟨a, b⟩ := n
  obtain ⟨h1, h2⟩ := h
  simp only at h1 h2
  have ha : a = 0 ∨ a = 1 ∨ a = 2 := by omega
  have hb : b = 0 ∨ b = 1 := by omega
  rcases ha with h | h | h <;> subst h <;> rcases hb with h | h <;> subst h <;> decide
theorem shown_new (d r : Nat) (t : Int) (ht : 0 ≤ t) : shownA (viewL (newL d r) t) = false := by
  have h0 : ¬ t < (newL d r).sh := by show ¬ t < 0; omega
  unfold shownA viewL
  rw [if_neg h0]
  rfl
/-- A house's names in their order are all that may be shown. -/
theorem order_shown {l : List Sg} {t : Int} (ht : 0 ≤ t) {K : List Nm2} (hp : ∀ n, n ∈ K ↔ n ∈ namesOf l) (hok : ∀ n ∈ K, NmOk n) (hs : K.Pairwise (fun a b => rkN a ≤ rkN b)) (hn : K.Pairwise (fun a b => a ≠ b)) :
    (K.map fun n => viewL (lifeAt l t n) t).filter shownA = amsL l t := by
  have hst : K.Pairwise (fun a b => rkN a < rkN b) := by
    rw [List.pairwise_iff_getElem] at hs hn ⊢
    intro i j hi hj hij
    have h1 := hs i j hi hj hij
    have h2 := hn i j hi hj hij
    have o1 := hok _ (List.getElem_mem hi)
    have o2 := hok _ (List.getElem_mem hj)
    rcases Nat.lt_or_eq_of_le h1 with h | h
    · exact h
    · exfalso
      apply h2
      unfold rkN at h
      unfold NmOk at o1 o2
      exact Prod.ext (by omega) (by omega)
  have hK : K = al6.filter (fun n => decide (n ∈ namesOf l)) := by
    refine strict_eq rkN _ _ hst (List.Pairwise.sublist List.filter_sublist (by decide)) fun n => ?_
    rw [List.mem_filter, hp]
    refine ⟨fun h => ⟨mem_al6 (hok n ((hp n).2 h)), by simpa using h⟩, fun h => by simpa using h.2⟩
  rw [hK]
  unfold amsL
  generalize al6 = L6
  induction L6 with
  | nil => rfl
  | cons n L ih =>
    by_cases hm : n ∈ namesOf l
    · rw [List.filter_cons_of_pos (by simpa using hm), List.map_cons, List.map_cons, List.filter_cons, List.filter_cons, ih]
    · rw [List.filter_cons_of_neg (by simpa using hm), List.map_cons, List.filter_cons, lifeAt_none hm, shown_new _ _ _ ht, ih]
      rfl
end Go.Proofs.YtkabcipccpbphaaGreatDoor

/- AccountsAdd: the plain law; no program in sight. -/
namespace Go.Proofs.YtkabcipccpbphaaGreatDoor

def sumI : List Int → Int
  | [] => 0
  | x :: l => x + sumI l
theorem sumI_append (a b : List Int) : sumI (a ++ b) = sumI a + sumI b := by
  induction a with
  | nil => simp [sumI]
  | cons x a ih => simp only [List.cons_append, sumI, ih]; omega
theorem sumI_bound {α : Type} (g : α → Int) (M : Int) (hM : 0 ≤ M) : ∀ (l : List α), (∀ x ∈ l, -M ≤ g x ∧ g x ≤ M) → -((l.length : Int) * M) ≤ sumI (l.map g) ∧ sumI (l.map g) ≤ (l.length : Int) * M
  | [], _ => by simp [sumI]
  | x :: l, h => by
    have h1 := h x List.mem_cons_self
    have h2 := sumI_bound g M hM l fun y hy => h y (List.mem_cons_of_mem _ hy)
    have e : ((x :: l).length : Int) * M = (l.length : Int) * M + M := by
      rw [List.length_cons]
      push_cast
      rw [Int.add_mul, Int.one_mul]
    simp only [List.map_cons, sumI]
    rw [e]
    omega
theorem sumI_add {α : Type} (g h k : α → Int) : ∀ (l : List α), (∀ x ∈ l, g x + h x = k x) → sumI (l.map g) + sumI (l.map h) = sumI (l.map k)
  | [], _ => rfl
  | x :: l, e => by
    have e1 := e x List.mem_cons_self
    have e2 := sumI_add g h k l fun y hy => e y (List.mem_cons_of_mem _ hy)
    simp only [List.map_cons, sumI]
    omega
/-- Is a moment in a window? -/
def inW (f t x : Int) : Bool := decide (f ≤ x) && decide (x < t)
def gN (f t x : Int) : Int := if inW f t x = true then 1 else 0
def gZ (f t : Int) (p : Int × Int) : Int := if inW f t p.1 = true then p.2 else 0
def gT (f t : Int) (u : Int × Int) : Int := max 0 (min u.2 t - max u.1 f)
theorem gN_add {m : Int} (h0 : 0 ≤ m) (h1 : m ≤ 500) (x : Int) : gN 0 m x + gN m 500 x = gN 0 500 x := by
  unfold gN inW
  simp only [Bool.and_eq_true, decide_eq_true_eq]
  repeat' split
  all_goals omega
theorem gZ_add {m : Int} (h0 : 0 ≤ m) (h1 : m ≤ 500) (p : Int × Int) : gZ 0 m p + gZ m 500 p = gZ 0 500 p := by
  unfold gZ inW
  simp only [Bool.and_eq_true, decide_eq_true_eq]
  repeat' split
  all_goals omega
theorem gT_add {m : Int} (h0 : 0 ≤ m) (h1 : m ≤ 500) (u : Int × Int) : gT 0 m u + gT m 500 u = gT 0 500 u := by
  unfold gT
  omega
theorem gN_bound (f t x : Int) : -1 ≤ gN f t x ∧ gN f t x ≤ 1 := by
  unfold gN
  split <;> omega
theorem gZ_bound {f t : Int} {p : Int × Int} (h : -alEnd ≤ p.2 ∧ p.2 ≤ alEnd) : -alEnd ≤ gZ f t p ∧ gZ f t p ≤ alEnd := by
  unfold gZ
  unfold alEnd at *
  split <;> omega
theorem gT_bound {f t : Int} {u : Int × Int} (h0 : 0 ≤ f) (h1 : t ≤ 500) : -500 ≤ gT f t u ∧ gT f t u ≤ 500 := by
  unfold gT
  omega
/-- An account. -/
structure Ac where
  r : Nat
  n : Int
  k : Int
  w : Int
  t : Int
def addA (f t : Int) (L : Lf) (a : Ac) : Ac := ⟨a.r, a.n + sumI (L.ra.map (gN f t)), a.k + sumI (L.ak.map (gN f t)), a.w + sumI ((L.ak.zip L.wt).map (gZ f t)), a.t + sumI (L.up.map (gT f t))⟩
def acStep (F : Nm2 → Lf) (f t : Int) (r : Nat) (a : Ac) (n : Nm2) : Ac := if n.2 = r then addA f t (F n) a else a
/-- A rule's account over some lives. -/
def acN (F : Nm2 → Lf) (f t : Int) (r : Nat) (K : List Nm2) : Ac := K.foldl (acStep F f t r) ⟨r, 0, 0, 0, 0⟩
theorem acN_snoc (F : Nm2 → Lf) (f t : Int) (r : Nat) (K : List Nm2) (n : Nm2) : acN F f t r (K ++ [n]) = acStep F f t r (acN F f t r K) n := by simp [acN]
theorem acN_r (F : Nm2 → Lf) (f t : Int) (r : Nat) (K : List Nm2) : (acN F f t r K).r = r := by
  have key : ∀ (K : List Nm2) (a : Ac), (K.foldl (acStep F f t r) a).r = a.r := by
    intro K
    induction K with
    | nil => intro a; rfl
    | cons n K ih =>
      intro a
      rw [List.foldl_cons, ih]
      unfold acStep
      split <;> rfl
  exact key K _
theorem acN_none {F : Nm2 → Lf} {f t : Int} {r : Nat} {K : List Nm2} (h : ∀ n ∈ K, n.2 ≠ r) : acN F f t r K = ⟨r, 0, 0, 0, 0⟩ := by
  have key : ∀ (K : List Nm2) (a : Ac), (∀ n ∈ K, n.2 ≠ r) → K.foldl (acStep F f t r) a = a := by
    intro K
    induction K with
    | nil => intro a _; rfl
    | cons n K ih =>
      intro a h
      rw [List.foldl_cons]
      have : acStep F f t r a n = a := by unfold acStep; rw [if_neg (h n List.mem_cons_self)]
      rw [this]
      exact ih a fun q hq => h q (List.mem_cons_of_mem _ hq)
  exact key K _ h
structure AcSum (a b c : Ac) : Prop where
  n : a.n + b.n = c.n
  k : a.k + b.k = c.k
  w : a.w + b.w = c.w
  t : a.t + b.t = c.t
theorem addA_sum {m : Int} (h0 : 0 ≤ m) (h1 : m ≤ 500) {a b c : Ac} (h : AcSum a b c) (L : Lf) : AcSum (addA 0 m L a) (addA m 500 L b) (addA 0 500 L c) := by
  obtain ⟨e1, e2, e3, e4⟩ := h
  have f1 := sumI_add (gN 0 m) (gN m 500) (gN 0 500) L.ra fun x _ => gN_add h0 h1 x
  have f2 := sumI_add (gN 0 m) (gN m 500) (gN 0 500) L.ak fun x _ => gN_add h0 h1 x
  have f3 := sumI_add (gZ 0 m) (gZ m 500) (gZ 0 500) (L.ak.zip L.wt) fun x _ => gZ_add h0 h1 x
  have f4 := sumI_add (gT 0 m) (gT m 500) (gT 0 500) L.up fun x _ => gT_add h0 h1 x
  unfold addA
  exact ⟨by simp only; omega, by simp only; omega, by simp only; omega, by simp only; omega⟩
theorem acN_sum {m : Int} (h0 : 0 ≤ m) (h1 : m ≤ 500) (F : Nm2 → Lf) (r : Nat) (K : List Nm2) : AcSum (acN F 0 m r K) (acN F m 500 r K) (acN F 0 500 r K) := by
  have key : ∀ (K : List Nm2) (a b c : Ac), AcSum a b c → AcSum (K.foldl (acStep F 0 m r) a) (K.foldl (acStep F m 500 r) b) (K.foldl (acStep F 0 500 r) c) := by
    intro K
    induction K with
    | nil => intro a b c h; exact h
    | cons n K ih =>
      intro a b c h
      simp only [List.foldl_cons]
      refine ih _ _ _ ?_
      unfold acStep
      split
      · exact addA_sum h0 h1 h _
      · exact h
  exact key K _ _ _ ⟨rfl, rfl, rfl, rfl⟩
/-- What holds of a life's acks. -/
structure LfW (L : Lf) : Prop where
  len : L.wt.length = L.ak.length
  rng : ∀ w ∈ L.wt, -alEnd ≤ w ∧ w ≤ alEnd
theorem follow_w {L : Lf} {k : Nat} {s : Sg} (h : LfW L) (hk : LfOk L k) (h1 : 0 ≤ s.at_) (h2 : s.at_ < alEnd) : LfW (followL L s).1 := by
  have hz : -alEnd ≤ s.at_ - L.ra.getLastD 0 ∧ s.at_ - L.ra.getLastD 0 ≤ alEnd := by
    have : 0 ≤ L.ra.getLastD 0 ∧ L.ra.getLastD 0 < alEnd := by
      cases hr : L.ra with
      | nil => simp [alEnd]
      | cons x l =>
        have hm : (x :: l).getLastD 0 ∈ L.ra := by
          rw [hr, List.getLastD_eq_getLast?, List.getLast?_eq_some_getLast (by simp)]
          exact List.getLast_mem _
        exact hk.rng _ hm
    omega
  have hadd : ∀ (M : Lf), M.wt = L.wt → M.ak = L.ak → LfW (akd L s.at_ M) := fun M _ _ => ⟨by simp [akd, h.len], fun w hw => by
    simp only [akd, List.mem_append, List.mem_singleton] at hw
    rcases hw with hw | rfl
    · exact h.rng w hw
    · exact hz⟩
  unfold followL
  split
  · split
    · exact h
    · exact ⟨h.len, h.rng⟩
  · split
    · split
      · exact ⟨h.len, h.rng⟩
      · split
        · exact ⟨h.len, h.rng⟩
        · exact h
    · split
      · split
        · exact hadd _ rfl rfl
        · split
          · exact hadd _ rfl rfl
          · exact h
      · split
        · split
          · exact h
          · exact ⟨h.len, h.rng⟩
        · split
          · exact h
          · exact ⟨h.len, h.rng⟩
theorem lifeAt_w (t : Int) (n : Nm2) (l : List Sg) (h : ∀ s ∈ l, SgV s) : LfW (lifeAt l t n) := by
  have key : ∀ k, k ≤ l.length → LfW (lifeAt (l.take k) t n) := by
    intro k
    induction k with
    | zero => intro _; exact ⟨rfl, by intro w hw; cases hw⟩
    | succ k ih =>
      intro hk
      have hx : l[k]? = some l[k] := List.getElem?_eq_getElem (by omega)
      have he : l.take (k + 1) = l.take k ++ [l[k]] := by rw [List.take_add_one, hx]; rfl
      have hs := h l[k] (List.getElem_mem (by omega))
      rw [he, lifeAt_snoc]
      unfold lifeStep
      split
      · exact follow_w (ih (by omega)) (lifeAt_ok t n _ (fun s hs => h s (List.mem_of_mem_take hs))) hs.at0 hs.at1
      · exact ih (by omega)
  have := key l.length (Nat.le_refl _)
  rwa [List.take_length] at this
/-- The names of signals, in order. -/
def namK (l : List Sg) : List Nm2 := al6.filter (fun n => decide (n ∈ namesOf l))
theorem order_names {l : List Sg} {K : List Nm2} (hp : ∀ n, n ∈ K ↔ n ∈ namesOf l) (hok : ∀ n ∈ K, NmOk n) (hs : K.Pairwise (fun a b => rkN a ≤ rkN b)) (hn : K.Pairwise (fun a b => a ≠ b)) : K = namK l := by
  have hst : K.Pairwise (fun a b => rkN a < rkN b) := by
    rw [List.pairwise_iff_getElem] at hs hn ⊢
    intro i j hi hj hij
    have h1 := hs i j hi hj hij
    have h2 := hn i j hi hj hij
    have o1 := hok _ (List.getElem_mem hi)
    have o2 := hok _ (List.getElem_mem hj)
    rcases Nat.lt_or_eq_of_le h1 with h | h
    · exact h
    · exfalso
      apply h2
      unfold rkN at h
      unfold NmOk at o1 o2
      exact Prod.ext (by omega) (by omega)
  refine strict_eq rkN _ _ hst (List.Pairwise.sublist List.filter_sublist (by decide)) fun n => ?_
  unfold namK
  rw [List.mem_filter, hp]
  exact ⟨fun h => ⟨mem_al6 (hok n ((hp n).2 h)), by simpa using h⟩, fun h => by simpa using h.2⟩
/-- The rules of some names. -/
def hasR (K : List Nm2) (r : Nat) : Bool := K.any (fun n => n.2 == r)
def acL (l : List Sg) (f t : Int) : List Ac := ([0, 1].filter (hasR (namK l))).map fun r => acN (lifeAt l alEnd) f t r (namK l)
theorem acL_len (l : List Sg) (f t f' t' : Int) : (acL l f t).length = (acL l f' t').length := by simp [acL]
theorem acL_sum {m : Int} (h0 : 0 ≤ m) (h1 : m ≤ 500) (l : List Sg) {i : Nat} {a b c : Ac} (ha : (acL l 0 m)[i]? = some a) (hb : (acL l m 500)[i]? = some b) (hc : (acL l 0 500)[i]? = some c) : AcSum a b c := by
  unfold acL at ha hb hc
  rw [List.getElem?_map] at ha hb hc
  cases hr : ([0, 1].filter (hasR (namK l)))[i]? with
  | none => rw [hr] at ha; cases ha
  | some r =>
    rw [hr] at ha hb hc
    simp only [Option.map_some, Option.some.injEq] at ha hb hc
    rw [← ha, ← hb, ← hc]
    exact acN_sum h0 h1 _ r _
end Go.Proofs.YtkabcipccpbphaaGreatDoor

/- Maps whose keys are rules: look-ups, stores, and a loop over one. -/
namespace Go.Proofs.YtkabcipccpbphaaGreatDoor
open Go.RowKit Go.Shelf Go.Maps Go.WideMaps

def acPt (x : Nat) : Value := .pointer (some ⟨x, 0, none⟩)
def acE : Nat → List (Nat × Nat) → List MapEntry
  | _, [] => []
  | i, p :: l => { key := .string (alrT p.1), val := acPt p.2, born := i } :: acE (i + 1) l
theorem acE_snoc (i : Nat) (l : List (Nat × Nat)) (p : Nat × Nat) : acE i (l ++ [p]) = acE i l ++ [{ key := .string (alrT p.1), val := acPt p.2, born := i + l.length }] := by
  induction l generalizing i with
  | nil => rfl
  | cons q l ih => simp only [List.cons_append, acE, ih, List.length_cons]; rw [show i + 1 + l.length = i + (l.length + 1) by omega]
theorem acE_len (i : Nat) (l : List (Nat × Nat)) : (acE i l).length = l.length := by
  induction l generalizing i with
  | nil => rfl
  | cons q l ih => simp [acE, ih]
theorem acE_get (i : Nat) (l : List (Nat × Nat)) (k : Nat) (p : Nat × Nat) (h : l[k]? = some p) : (acE i l)[k]? = some { key := .string (alrT p.1), val := acPt p.2, born := i + k } := by
  induction l generalizing i k with
  | nil => simp at h
  | cons q l ih =>
    cases k with
    | zero => simp at h; subst h; simp [acE]
    | succ k => simp at h; simp only [acE, List.getElem?_cons_succ]; rw [ih (i + 1) k h, show i + 1 + k = i + (k + 1) by omega]
theorem acE_mem {i : Nat} {l : List (Nat × Nat)} {e : MapEntry} (h : e ∈ acE i l) : ∃ k p, l[k]? = some p ∧ e = { key := .string (alrT p.1), val := acPt p.2, born := i + k } := by
  obtain ⟨k, hk, rfl⟩ := List.getElem_of_mem h
  rw [acE_len] at hk
  refine ⟨k, l[k], List.getElem?_eq_getElem hk, ?_⟩
  have := acE_get i l k l[k] (List.getElem?_eq_getElem hk)
  rw [List.getElem?_eq_getElem (by rw [acE_len]; exact hk)] at this
  exact Option.some.inj this
def lkR (l : List (Nat × Nat)) (r : Nat) : Option Nat := (l.find? fun p => p.1 == r).map (·.2)
theorem alr_beq (i j : Nat) (hi : i < 2) (hj : j < 2) : (alrT i == alrT j) = decide (i = j) := by
  have h1 : i = 0 ∨ i = 1 := by omega
  have h2 : j = 0 ∨ j = 1 := by omega
  rcases h1 with h | h <;> subst h <;> rcases h2 with h | h <;> subst h <;> decide
theorem find_rule (r : Nat) (hr : r < 2) : ∀ (l : List (Nat × Nat)) (i j : Nat), (∀ p ∈ l, p.1 < 2) → ∃ k, Instr.findNow .string (.string (alrT r)) (acE i l) j = some ((lkR l r).map fun x => (k, acPt x))
  | [], _, _, _ => ⟨0, rfl⟩
  | p :: l, i, j, h => by
    obtain ⟨k, hk⟩ := find_rule r hr l (i + 1) (j + 1) (fun q hq => h q (List.mem_cons_of_mem _ hq))
    have he := alr_beq r p.1 hr (h p List.mem_cons_self)
    by_cases hp : p.1 = r
    · refine ⟨j, ?_⟩
      rw [hp] at he
      have he2 : (alrT r == alrT r) = true := by rw [he]; simp
      simp [acE, Instr.findNow, Instr.sameNow, lkR, hp, he2]
    · refine ⟨k, ?_⟩
      rw [decide_eq_false (fun e => hp e.symm)] at he
      have e : lkR (p :: l) r = lkR l r := by simp [lkR, hp]
      rw [e]
      simp [acE, Instr.findNow, Instr.sameNow, he, hk]
theorem find_keyR (r : Nat) (hr : r < 2) (w : World) (l : List (Nat × Nat)) (h : ∀ p ∈ l, p.1 < 2) : ∃ k, (Instr.findKey 9 (.string (alrT r)) (acE 0 l)).run Tryz.prog w = .ok ((lkR l r).map fun x => (k, acPt x)) w := by
  obtain ⟨k, hk⟩ := find_rule r hr l 0 0 h
  exact ⟨k, by simp [Instr.findKey, run_underlying Tryz.underlying9, hk, Result.andThen]⟩
def ptrA : Option Nat → Value
  | some x => acPt x
  | none => .pointer none
theorem alr_le (r : Nat) : (alrT r).size ≤ maxLen := by
  match r with
  | 0 => decide
  | n + 1 => show (⟨#[114, 98]⟩ : ByteArray).size ≤ maxLen; decide
theorem lookup_rules {r : Nat} (hr : r < 2) {w : World} {m : Nat} {l : List (Nat × Nat)} (h : ∀ p ∈ l, p.1 < 2) (hb : w.heap[m]? = some (.map (acE 0 l).toArray l.length)) :
    (Instr.lookup 124 (.map (some m)) (.string (alrT r)) false).run Tryz.prog w = .ok (ptrA (lkR l r)) w := by
  have hz : (zeroValue 125).run Tryz.prog w = .ok (.pointer none) w := by kernel_rfl
  obtain ⟨k, hk⟩ := find_keyR r hr w l h
  have hc := fun x => (WideMaps.string_law (P := Tryz.prog) Tryz.underlying9).check w x (keyOf_string_mk Tryz.underlying9 (alr_le r))
  cases hl : lkR l r with
  | none =>
    rw [hl] at hk
    simp [Instr.lookup, run_underlying Tryz.underlying124, MapKept.run_getObj_map hb, hc, hk, hz, Result.andThen, ptrA]
  | some x =>
    rw [hl] at hk
    simp [Instr.lookup, run_underlying Tryz.underlying124, MapKept.run_getObj_map hb, hc, hk, Result.andThen, ptrA]
theorem update_rules {r : Nat} (hr : r < 2) {w : World} {m x : Nat} {l : List (Nat × Nat)} (h : ∀ p ∈ l, p.1 < 2) (hl : lkR l r = none) (hb : w.heap[m]? = some (.map (acE 0 l).toArray l.length)) :
    (Instr.mapUpdate 124 (.map (some m)) (.string (alrT r)) (acPt x)).run Tryz.prog w = .ok () { w with heap := w.heap.setIfInBounds m (.map (acE 0 (l ++ [(r, x)])).toArray (l ++ [(r, x)]).length) } := by
  obtain ⟨k, hk⟩ := find_keyR r hr w l h
  have hc := fun x => (WideMaps.string_law (P := Tryz.prog) Tryz.underlying9).check w x (keyOf_string_mk Tryz.underlying9 (alr_le r))
  rw [hl] at hk
  have e : (acE 0 (l ++ [(r, x)])).toArray = (acE 0 l).toArray.push { key := .string (alrT r), val := acPt x, born := l.length } := by rw [acE_snoc]; simp
  simp [Instr.mapUpdate, run_underlying Tryz.underlying124, MapKept.run_getObj_map hb, hc, hk, MapKept.run_setObj_map _ hb, Result.andThen, e]
/-- One step of a loop over a map, wherever the iterator lies. -/
theorem run_next_raw {P : Program} (w : World) (ty : TypeId) (r bm since c0 clock : Nat) (seen : Array Nat) (es : Array MapEntry) (hr : w.heap[r]? = some (.mapIter (some bm) since seen c0)) (hb : w.heap[bm]? = some (.map es clock)) (hold : ∀ x ∈ es.toList, x.born < since) (hsc : since ≤ c0) :
    ((leftOf es seen).size = 0 ∧ (Instr.next (.pointer (some ⟨r, 0, none⟩)) false ty).run P w = .ok (.tuple #[.bool false]) w) ∨
    ∃ e ∈ (leftOf es seen).toList, ∃ w1 : World, w1.heap[r]? = some (.mapIter (some bm) since (seen.push e.born) clock) ∧ (∀ b, b ≠ r → w1.heap[b]? = w.heap[b]?) ∧ w1.heap.size = w.heap.size ∧ w1.os = w.os ∧ w1.tape = w.tape ∧ w1.output = w.output ∧ (Instr.next (.pointer (some ⟨r, 0, none⟩)) false ty).run P w = .ok (.tuple #[.bool true, e.key, e.val]) w1 := by
  have hrlt : r < w.heap.size := (Array.getElem?_eq_some_iff.1 hr).1
  simp only [Instr.next, getObj, Sem.run_bind, Sem.run, hr, hb, Result.andThen, next_test_false seen es since c0 hold hsc, Bool.false_eq_true, if_false]
  unfold leftOf
  have hmem : ∀ x ∈ (Array.filter (fun e => !seen.contains e.born) es).toList, x.born < since := fun x hx => hold x (by simp at hx ⊢; exact hx.1)
  generalize Array.filter (fun e => !seen.contains e.born) es = L at hmem ⊢
  have e1 : L.filter (fun x => decide (x.born < since)) = L := Array.filter_eq_self.2 (fun x hx => by simpa using hmem x (by simpa using hx))
  have e2 : L.filter (fun x => decide (x.born ≥ since)) = #[] := by
    rw [Array.filter_eq_empty_iff]
    intro x hx
    have := hmem x (by simpa using hx)
    simp
    omega
  simp only [e1, e2, Array.append_empty]
  by_cases h0 : L.size = 0
  · left
    have : L = #[] := Array.eq_empty_of_size_eq_zero h0
    subst this
    refine ⟨rfl, ?_⟩
    simp [choose, Sem.run, Question.forced]
  · right
    have hne : L.isEmpty = false := by simp [Array.isEmpty, h0]
    simp only [hne, Bool.false_eq_true, if_false, Array.empty_append, Array.size_map]
    have hch : ∃ (j : Nat) (w1 : World), j < L.size ∧ w1.heap = w.heap ∧ w1.os = w.os ∧ w1.tape = w.tape ∧ w1.output = w.output ∧ (choose (Question.mapNext L.size)).run P w = .ok j w1 := by
      by_cases hf : L.size ≤ 1
      · exact ⟨0, w, by omega, rfl, rfl, rfl, rfl, by simp [choose, Sem.run, Question.forced, hf]⟩
      · exact ⟨_, w.drew, Nat.mod_lt _ (by omega), rfl, rfl, rfl, rfl, by
          simp only [choose, Sem.run, Question.forced, decide_eq_true_eq, hf, if_false, Question.cut]
          rfl⟩
    obtain ⟨j, w1, hj, hal, ho1, ho2, ho3, hrun⟩ := hch
    have hw1r : w1.heap[r]? = some (.mapIter (some bm) since seen c0) := by rw [hal]; exact hr
    refine ⟨L[j], by simp, { w1 with heap := w1.heap.setIfInBounds r (.mapIter (some bm) since (seen.push L[j].born) clock) }, ?_, ?_, ?_, ho1, ho2, ho3, ?_⟩
    · exact Array.getElem?_setIfInBounds_self_of_lt (by rw [hal]; exact hrlt)
    · intro b hb'
      show (w1.heap.setIfInBounds r _)[b]? = _
      rw [Array.getElem?_setIfInBounds_ne (Ne.symm hb'), hal]
    · show (w1.heap.setIfInBounds r _).size = _
      rw [Array.size_setIfInBounds, hal]
    · have hset : ∀ o', (setObj r o').run P w1 = .ok () { w1 with heap := w1.heap.setIfInBounds r o' } := fun o' => by
        simp only [setObj, Sem.run, hw1r]
      simp only [hrun, Array.getElem?_map, Array.getElem?_eq_getElem hj, Option.map_some, Sem.run_bind, hset, Result.andThen]
      rfl
theorem run_entry_raw {P : Program} (w : World) (r bm since clock : Nat) (seen : Array Nat) (es : Array MapEntry) (e : MapEntry) (hr : w.heap[r]? = some (.mapIter (some bm) since (seen.push e.born) clock)) (hb : w.heap[bm]? = some (.map es clock)) (he : e ∈ es.toList) (hn : (es.toList.map (·.born)).Nodup) :
    (Instr.entry (.pointer (some ⟨r, 0, none⟩))).run P w = .ok (.tuple #[e.key, e.val]) w := by
  have hf : es.find? (·.born == e.born) = some e := by rw [← Array.find?_toList]; exact find_born e es.toList hn he
  simp only [Instr.entry, getObj, Sem.run_bind, Sem.run, hr, hb, Result.andThen, Array.back?_push, bne_self_eq_false, Bool.false_eq_true, if_false, hf]
  rfl
theorem acE_born (i : Nat) (l : List (Nat × Nat)) : ((acE i l).map (·.born)).Nodup := by
  have : (acE i l).map (·.born) = (List.range l.length).map (i + ·) := by
    apply List.ext_getElem?
    intro k
    rw [List.getElem?_map, List.getElem?_map]
    rcases Nat.lt_or_ge k l.length with h | h
    · rw [acE_get i l k l[k] (List.getElem?_eq_getElem h), List.getElem?_range h]
      rfl
    · rw [List.getElem?_eq_none (by rw [acE_len]; exact h), List.getElem?_eq_none (by simpa using h)]
      rfl
  rw [this]
  exact List.pairwise_map.2 (List.nodup_range.imp (fun hab h => hab (by omega)))
end Go.Proofs.YtkabcipccpbphaaGreatDoor

/- alarm.Alarms by its contract; slices.Equal of alarms. -/
namespace Go.Proofs.YtkabcipccpbphaaGreatDoor
open Go.RowKit Go.Shelf

theorem Tryz.infoAm : (Tryz.prog.info? 50).map (fun i => (i.zero, i.size, i.bytes)) = some (some (.agg #[.string ⟨#[]⟩, .string ⟨#[]⟩, .int .i64 0, .int .i64 0, .int .i64 0, .int .i64 0]), 6, 64) := by kernel_rfl
theorem amC_len (a : Am) : (amC a).length = 6 := rfl
theorem amC_one (a : Am) : ∀ u ∈ amC a, u.oneCell' = true := by
  intro u hu
  simp only [amC, List.mem_cons, List.not_mem_nil, or_false] at hu
  rcases hu with rfl | rfl | rfl | rfl | rfl | rfl <;> rfl
theorem namesOf_len (l : List Sg) : (namesOf l).length ≤ l.length := by
  have key : ∀ (l : List Sg) (ns : List Nm2), (l.foldl (fun ns s => addN ns (s.d, s.r)) ns).length ≤ ns.length + l.length := by
    intro l
    induction l with
    | nil => intro ns; exact Nat.le_refl _
    | cons s l ih =>
      intro ns
      rw [List.foldl_cons, List.length_cons]
      have h1 := ih (addN ns (s.d, s.r))
      have h2 : (addN ns (s.d, s.r)).length ≤ ns.length + 1 := by
        unfold addN
        split
        · omega
        · simp
      omega
  have := key l []
  simpa [namesOf] using this
/-- What a house says of its order. -/
theorem house_order {w' : World} {B hs m : Nat} {o : List Nat} {M : List Mb} {l : List Sg} {F : Nm2 → Lf} (hI : HsI w' B hs m o M) (ho : OrdE (mbE M) o) (hnm : M.map (·.n) = namesOf l) (hL : ∀ y ∈ M, y.L = F y.n) :
    ∃ E : List (Nm2 × Nat), o = E.map (·.2) ∧ (∀ n, n ∈ E.map (·.1) ↔ n ∈ namesOf l) ∧ (∀ n ∈ E.map (·.1), NmOk n) ∧ (E.map (·.1)).Pairwise (fun a b => rkN a ≤ rkN b) ∧ (E.map (·.1)).Pairwise (fun a b => a ≠ b) ∧ ∀ p ∈ E, ∃ v, LfI w' p.2 (F p.1) v := by
  obtain ⟨E, h1, h2, h3⟩ := ho
  have hk : (E.map (·.1)).Perm (M.map (·.n)) := by
    have := h1.map (·.1)
    rwa [show (mbE M).map (·.1) = M.map (·.n) from by simp [mbE, Function.comp_def]] at this
  refine ⟨E, h3, fun n => by rw [hk.mem_iff, hnm], fun n hn => ?_, List.pairwise_map.2 h2, ?_, fun p hp => ?_⟩
  · obtain ⟨y, hy, rfl⟩ := List.mem_map.1 (hk.mem_iff.1 hn)
    exact (hI.each y hy).2.1
  · exact hk.symm.pairwise (List.pairwise_map.2 hI.names) (fun h => Ne.symm h)
  · have := h1.mem_iff.1 hp
    simp only [mbE, List.mem_map] at this
    obtain ⟨y, hy, rfl⟩ := this
    exact ⟨y.v, by have := (hI.each y hy).1; rw [hL y hy] at this; exact this⟩
theorem own_base9 {w : World} {b b' : Nat} {e : TypeId} {size n : Nat} {v : Value} {xs : List Value} (h : w.ownsRow b e size v n xs) (hb : b' ≤ b) : w.ownsRow b' e size v n xs := by
  refine ⟨h.1, ?_⟩
  rcases h.2 with h | ⟨g, cap, cur, hv, hg, r⟩
  · exact .inl h
  · exact .inr ⟨g, cap, cur, hv, Nat.le_trans hb hg, r⟩
def AmsP (w : World) (L : List Am) (e : Ending) (w' : World) : Prop := ∃ A c, e = .returned (.tuple #[.slice A L.length c, .int .i64 0]) ∧ w'.ownsRow w.heap.size 50 6 (.slice A L.length c) L.length (recs amC L) ∧ Below w.heap.size w w'
theorem filter_snocA (E : List (Nm2 × Nat)) (V : Nm2 → Am) {i : Nat} {p : Nm2 × Nat} (h : E[i]? = some p) : ((E.take (i + 1)).map (fun q => V q.1)).filter shownA = ((E.take i).map (fun q => V q.1)).filter shownA ++ (if shownA (V p.1) then [V p.1] else []) := by
  rw [List.take_add_one, h, List.map_append, List.filter_append]
  simp only [Option.toList, List.map_cons, List.map_nil]
  cases hs : shownA (V p.1) <;> simp [hs]
set_option maxRecDepth 100000 in
set_option maxHeartbeats 4000000 in
theorem alarms_any (l : List Sg) (n c : Nat) (t : Int) (A : Option Addr) (w : World) (hl : SgsOk l) (hn : l.length = n) (hn2 : n ≤ 1000) (hr : Row w w.heap.size A (recs sgC l)) (ht0 : 0 ≤ t) (ht1 : t < 345686400000) :
    Calls Tryz.prog 25 #[.slice A n c, .int .i64 t] w fun e w' => AmsP w (amsL l t) e w' := by
  obtain ⟨i0, hi0, hz0, hz1, hz2⟩ := info_parts Tryz.infoAm
  have HC := Lib.hid (checkSignals_any l n c A w hl hn hn2 hr)
  have HA := Lib.hid (fun (V : World) (hV : Below w.heap.size w V) => at_any l n c t A V hn (by omega) ((hr.below hV).mono hV.size) (fun s hs => (hl.1 s hs).v))
  have HT := Lib.hid (And.intro ht0 ht1)
  have HLN := Lib.hid hn
  clear hl hn hr ht0 ht1
  go_enter Tryz.func25, Tryz.ntmps25
  go_wp2_with (fail)
  refine HC.out.mono ?_
  rintro e w1 ⟨rfl, hB1⟩
  have HB1 := Lib.hid hB1
  clear hB1
  go_wp2_with (go_at_call 55; refine (moment_yes _ _ HT.out.1 HT.out.2).mono ?_; rintro e w' ⟨rfl, rfl⟩)
  refine (HA.out w1 HB1.out).mono ?_
  rintro e w2 ⟨hs, m, o, M, rfl, hI, hord, hnm, hL, hB2⟩
  obtain ⟨E, eo, hE1, hE2, hE3, hE4, hE5⟩ := house_order hI hord hnm hL
  have HFIN := Lib.hid (show ((E.map fun p => viewL (lifeAt l t p.1) t).filter shownA) = amsL l t from by
    rw [← order_shown HT.out.1 hE1 hE2 hE3 hE4, List.map_map]; rfl)
  obtain ⟨Ao, co, hbo, hoo⟩ := hI.blk
  have hMl : M.length = E.length := by
    have h1 := hI.perm.length_eq
    rw [eo, List.length_map, List.length_map] at h1
    exact h1.symm
  have hcap : E.length ≤ 1000 := by
    have h1 : M.length = (namesOf l).length := by rw [← hnm, List.length_map]
    have h2 := namesOf_len l
    have := HLN.out
    omega
  obtain ⟨q, eq⟩ : ∃ q, q = E.length := ⟨_, rfl⟩
  rw [hMl, ← eq] at hbo hoo
  rw [eo] at hoo
  rw [← eq] at hcap
  have hc1 := cell_of_blk (j := 1) hbo rfl
  have hhl := (Array.getElem?_eq_some_iff.1 hbo).1
  have HB2 := Lib.hid (HB1.out.trans (hB2.mono HB1.out.size))
  have HE5 := Lib.hid hE5
  have HQ := Lib.hid eq.symm
  have HOO := Lib.hid hoo
  clear hI hord hnm hL hB2 eo hE1 hE2 hE3 hE4 hE5 hbo hoo hMl eq
  go_wp2_with (fail)
  go_loopw [7, 27] (fun v s wr => ∃ (i : Nat), i ≤ q ∧ s = .int .i64 (i : Int) ∧ w2.grownBy wr none ∧ wr.ownsRow w2.heap.size 50 6 v (((E.take i).map fun p => viewL (lifeAt l t p.1) t).filter shownA).length (recs amC (((E.take i).map fun p => viewL (lifeAt l t p.1) t).filter shownA))) (fun _ s _ => q - (intOf s).toNat)
  case atStart => exact ⟨0, by omega, rfl, grown_refl _ _, World.ownsRow_nil _ _ _ _⟩
  case round =>
    obtain ⟨i, hin, rfl, hgr, hown⟩ := hrel
    have HG := Lib.hid hgr
    have hbs := hgr.size
    have hbr : Below w2.heap.size w2 wr := ⟨hgr.os, hgr.tape, hgr.output, hgr.size, fun b hb => hgr.block b hb (by simp)⟩
    have HB := Lib.hid hbr
    obtain ⟨R, eR⟩ : ∃ R, R = ((E.take i).map fun p => viewL (lifeAt l t p.1) t).filter shownA := ⟨_, rfl⟩
    rw [← eR] at hown
    obtain ⟨r, er⟩ : ∃ r, r = R.length := ⟨_, rfl⟩
    rw [← er] at hown
    have hrl : r ≤ 1000 := by
      rw [er, eR]
      refine Nat.le_trans (List.length_filter_le _ _) ?_
      rw [List.length_map, List.length_take]
      omega
    have HO := Lib.hid hown
    have HR := Lib.hid (And.intro eR er)
    clear hgr hbr hown eR er
    by_cases hlt : i < q
    · have hltI : (i : Int) < q := by omega
      obtain ⟨p, hp⟩ : ∃ p, E[i]? = some p := ⟨_, List.getElem?_eq_getElem (by have := HQ.out; omega)⟩
      obtain ⟨v, hv⟩ := HE5.out p (List.mem_of_getElem? hp)
      obtain ⟨g, rfl, hgb, hglt⟩ : ∃ g, Ao = some ⟨g, 0, none⟩ ∧ w1.heap.size ≤ g ∧ g < w2.heap.size := by
        rcases own_two HOO.out with ⟨_, h0, _⟩ | ⟨g, h1, h2, h3⟩
        · omega
        · exact ⟨g, h1, h2, h3⟩
      have hci := own_cells0 HOO.out i (lfP p.2) (by rw [List.getElem?_map, List.getElem?_map, hp]; rfl)
      rw [Nat.zero_add] at hci
      have d0 := (HB.out.cell (p := ⟨g, i, none⟩) hglt).trans hci
      have HV := Lib.hid (view_any p.2 t _ v wr (hv.below HB.out))
      have HSN := Lib.hid (filter_snocA E (fun n => viewL (lifeAt l t n) t) hp)
      have hgl : g < wr.heap.size := by omega
      unfold lfP at d0
      obtain ⟨x, ex⟩ : ∃ x, x = p.2 := ⟨_, rfl⟩
      obtain ⟨a, ea⟩ : ∃ a, a = viewL (lifeAt l t p.1) t := ⟨_, rfl⟩
      rw [← ex] at d0 HV
      unfold ViewPost at HV
      rw [← ea] at HV HSN
      obtain ⟨sh, esh⟩ : ∃ sh, sh = shownA a := ⟨_, rfl⟩
      rw [← esh] at HV HSN
      clear hci hv hp ex ea esh
      go_wp2_with (fail)
      refine HV.out.mono ?_
      rintro e w3 ⟨rfl, hb3⟩
      have HB3 := Lib.hid hb3
      have HO3 := Lib.hid (own_belowP HO.out hb3)
      have HG3 := Lib.hid (grown_more HG.out (grown_belowP (r := none) hb3) (by simp))
      have hs3 := hb3.size
      clear hb3 d0
      unfold amC
      go_upto_region 11 with (fail)
      obtain ⟨g7, eg⟩ : ∃ g, g = w3.heap.size := ⟨_, rfl⟩
      obtain ⟨w4, e4⟩ : ∃ w4, w4 = w3.alloc (.cells #[.string (aldT a.d), .string (alrT a.r), .int .i64 a.st, .int .i64 a.si, .int .i64 a.n, .int .i64 a.sh] 50) := ⟨_, rfl⟩
      rw [← eg, ← e4]
      have hg4 : w4.heap[g7]? = some (.cells #[.string (aldT a.d), .string (alrT a.r), .int .i64 a.st, .int .i64 a.si, .int .i64 a.n, .int .i64 a.sh] 50 (0, 0)) := by rw [e4, eg]; exact heap_new w3 _
      have hB4 : Below w3.heap.size w3 w4 := by rw [e4]; exact (Below.refl _ _).alloc (Nat.le_refl _) _
      have hlt4 : g7 < w4.heap.size := by rw [e4, eg]; simp
      have hs4 := hB4.size
      have HO4 := Lib.hid (own_belowP HO3.out hB4)
      have HG4 := Lib.hid (grown_more HG3.out (grown_belowP (r := none) hB4) (by simp))
      obtain ⟨q0, q1, q2, q3, q4, q5⟩ := box6 hg4
      clear eg e4 hg4 hB4
      cases sh
      case false =>
        have HN := Lib.hid (show ((E.take (i + 1)).map fun p => viewL (lifeAt l t p.1) t).filter shownA = R from by rw [HSN.out, ← HR.out.1]; simp)
        go_wp2_with (fail)
        go_roundw
        case rel => exact ⟨i + 1, by omega, by simp, HG4.out, by rw [HN.out, ← HR.out.2]; exact HO4.out⟩
        case measure => simp [intOf]; omega
      case true =>
        have HN := Lib.hid (show ((E.take (i + 1)).map fun p => viewL (lifeAt l t p.1) t).filter shownA = R ++ [a] from by rw [HSN.out, ← HR.out.1]; simp)
        go_wp2_with (at_builtin; refine wpList_append_own2 _ rfl _ _ 67 rfl w2.heap.size 50 i0 _ 6 64 Tryz.underlying67 hi0 hz0 hz1 hz2 rfl (by decide) _ _ _ rfl (HO4.out.alloc _) ⟨_, 0, none⟩ 1 1 (amC a) rfl rfl ?c1 ?c2 ?c3 ?c4 ?c5 ?_)
        case c1 => first | exact cells_add (cells_atF (by rfl) (by first | rfl | simp)) | exact fun j u h => h
        case c2 => exact amC_one _
        case c3 => unfold maxLen; omega
        case c4 => omega
        case c5 => first | omega | (simp; omega)
        intro v9 w9 ho9 hg9 hm9
        have hlo : ∀ k, u7.ownBlock = some k → w2.heap.size ≤ k := fun k hk => (HO4.out.lt k hk).1
        have HG9 := Lib.hid (grown_more (grown_more HG4.out (World.grownBy_alloc _ _ none) (by simp)) hg9 hlo)
        have HO9 := Lib.hid ho9
        clear ho9 hg9 hm9 hlo
        go_wp2_with (fail)
        go_roundw
        case rel => exact ⟨i + 1, by omega, by simp, HG9.out, by rw [HN.out, recs_snoc, List.length_append, ← HR.out.2]; exact HO9.out⟩
        case measure => simp [intOf]; omega
    · have hltI : ¬ (i : Int) < q := by omega
      have hin' : i = q := by omega
      obtain ⟨A9, c9, rfl⟩ := own_slice HO.out
      have HF := Lib.hid (show AmsP w (amsL l t) (.returned (.tuple #[.slice A9 r c9, .int .i64 0])) wr from by
        have e1 : R = amsL l t := by rw [HR.out.1, ← HFIN.out, hin', ← HQ.out, List.take_length]
        have ho := HO.out
        rw [HR.out.2, e1] at ho ⊢
        exact ⟨A9, c9, rfl, own_base9 ho HB2.out.size, HB2.out.trans (HB.out.mono HB2.out.size)⟩)
      go_wp2_with (fail)
      exact bodyPost_ret (v := .tuple #[.slice A9 r c9, .int .i64 0]) (by simp [results, Tryz.results25, go_sem]) rfl HF.out
theorem am_cells {w : World} {b o : Nat} {l : List Am} (h : Cells w b o (recs amC l)) (i : Nat) (x : Am) (hx : l[i]? = some x) : w.cell? ⟨b, o + i * 6, none⟩ = some (.string (aldT x.d)) ∧ w.cell? ⟨b, o + i * 6 + 1, none⟩ = some (.string (alrT x.r)) ∧ w.cell? ⟨b, o + i * 6 + 2, none⟩ = some (.int .i64 x.st) ∧ w.cell? ⟨b, o + i * 6 + 3, none⟩ = some (.int .i64 x.si) ∧ w.cell? ⟨b, o + i * 6 + 4, none⟩ = some (.int .i64 x.n) ∧ w.cell? ⟨b, o + i * 6 + 5, none⟩ = some (.int .i64 x.sh) :=
  ⟨rec_cell amC_len h i x hx 0 _ rfl, rec_cell amC_len h i x hx 1 _ rfl, rec_cell amC_len h i x hx 2 _ rfl, rec_cell amC_len h i x hx 3 _ rfl, rec_cell amC_len h i x hx 4 _ rfl, rec_cell amC_len h i x hx 5 _ rfl⟩
set_option maxHeartbeats 2000000 in
theorem eqAm_any (l : List Am) (n c c' : Nat) (A A' : Option Addr) (w : World) (hn : l.length = n) (hn2 : n ≤ 1000000) (hr : Row w w.heap.size A (recs amC l)) (hr' : Row w w.heap.size A' (recs amC l)) :
    Calls Tryz.prog 26 #[.slice A n c, .slice A' n c'] w fun e w' => e = .returned (.bool true) ∧ Below w.heap.size w w' := by
  have HR := Lib.hid hr
  have HR' := Lib.hid hr'
  have HN := Lib.hid hn
  clear hr hr' hn
  go_enter Tryz.func26, Tryz.ntmps26
  go_wp2_with (fail)
  go_loopw [13] (fun i wr => ∃ k : Nat, k ≤ n ∧ i = .int .i64 k ∧ Below w.heap.size w wr) (fun i _ => n - (intOf i).toNat)
  case atStart => exact ⟨0, Nat.zero_le _, rfl, Below.refl _ _⟩
  case round =>
    obtain ⟨k, hk, rfl, hbl⟩ := hrel
    by_cases hlt : k < n
    · have hkl : k < l.length := by have := HN.out; omega
      obtain ⟨b, o, rfl, hb, hc⟩ := (HR.out).posR amC_len (by omega) (by omega)
      obtain ⟨b', o', rfl, hb', hc'⟩ := (HR'.out).posR amC_len (by omega) (by omega)
      obtain ⟨x, hx⟩ : ∃ x, l[k]? = some x := ⟨_, List.getElem?_eq_getElem hkl⟩
      obtain ⟨c0, c1, c2, c3, c4, c5⟩ := am_cells (hc.keep (hbl.block b hb)) k x hx
      obtain ⟨d0, d1, d2, d3, d4, d5⟩ := am_cells (hc'.keep (hbl.block b' hb')) k x hx
      have HBL := Lib.hid hbl
      have hlt' : (k : Int) < (n : Int) := by omega
      clear hbl hx hkl hc hc'
      go_wp2_with (fail)
      go_quiet (fail)
      go_wp2_with (fail)
      go_roundw
      case rel => exact ⟨k + 1, by omega, by go_num, below_drewN HBL.out _⟩
      case measure => simp [intOf]; omega
    · have HBL := Lib.hid hbl
      clear hbl
      go_wp2_with (fail)
      go_ret
      exact ⟨rfl, HBL.out⟩
end Go.Proofs.YtkabcipccpbphaaGreatDoor

/- Accounts in memory; alarm.Accounts' function of windows. -/
namespace Go.Proofs.YtkabcipccpbphaaGreatDoor
open Go.RowKit Go.Shelf

theorem Tryz.infoAcc : (Tryz.prog.info? 58).map (fun i => (i.zero, i.size, i.bytes)) = some (some (.agg #[.string ⟨#[]⟩, .int .i64 0, .int .i64 0, .int .i64 0, .int .i64 0]), 5, 48) := by kernel_rfl
def acC (a : Ac) : List Value := [.string (alrT a.r), .int .i64 a.n, .int .i64 a.k, .int .i64 a.w, .int .i64 a.t]
theorem acC_len (a : Ac) : (acC a).length = 5 := rfl
theorem acC_one (a : Ac) : ∀ u ∈ acC a, u.oneCell' = true := by
  intro u hu
  simp only [acC, List.mem_cons, List.not_mem_nil, or_false] at hu
  rcases hu with rfl | rfl | rfl | rfl | rfl <;> rfl
theorem inW_any (f t x : Int) (g : Nat) (w : World) (h : w.heap[g]? = some (.cells #[.int .i64 f, .int .i64 t] 44 (0, 0))) :
    Calls Tryz.prog 59 #[.int .i64 x, .pointer (some ⟨g, 0, none⟩)] w fun e w' => e = .returned (.bool (inW f t x)) ∧ w = w' := by
  have c0 := cell_of_blk (j := 0) h rfl
  have c1 := cell_of_blk (j := 1) h rfl
  have hg := (Array.getElem?_eq_some_iff.1 h).1
  clear h
  unfold inW
  by_cases h1 : f ≤ x
  · by_cases h2 : x < t
    · rw [decide_eq_true h1, decide_eq_true h2]
      go_enter Tryz.func59, Tryz.ntmps59
      go_wp2_with (fail)
      go_ret
      exact ⟨rfl, rfl⟩
    · rw [decide_eq_true h1, decide_eq_false h2]
      go_enter Tryz.func59, Tryz.ntmps59
      go_wp2_with (fail)
      go_ret
      exact ⟨rfl, rfl⟩
  · rw [decide_eq_false h1]
    go_enter Tryz.func59, Tryz.ntmps59
    go_wp2_with (fail)
    go_ret
    exact ⟨rfl, rfl⟩
theorem windowA_yes (a b : Int) (w : World) (h1 : 0 ≤ a) (h2 : a ≤ b) (h3 : b ≤ 345686400000) : Calls Tryz.prog 58 #[.agg #[.int .i64 a, .int .i64 b]] w fun e w' => e = .returned (.bool true) ∧ Below w.heap.size w w' := by
  go_enter Tryz.func58, Tryz.ntmps58
  go_wp2_with (go_at_call 29; refine (out_no _ _ _ _ (by omega) (by omega)).mono ?_; rintro e w' ⟨rfl, rfl⟩)
  go_ret
  exact ⟨rfl, (Below.refl _ _).alloc (Nat.le_refl _) _⟩
/-- An account in memory. -/
structure Ab where
  r : Nat
  x : Nat
  a : Ac
def abE (K : List Ab) : List (Nat × Nat) := K.map fun y => (y.r, y.x)
def acBk (a : Ac) : Obj := .cells #[.string (alrT a.r), .int .i64 a.n, .int .i64 a.k, .int .i64 a.w, .int .i64 a.t] 58 (0, 0)
structure AcI (w : World) (B m : Nat) (K : List Ab) : Prop where
  map : w.heap[m]? = some (.map (acE 0 (abE K)).toArray K.length)
  each : ∀ y ∈ K, w.heap[y.x]? = some (acBk y.a) ∧ y.r < 2 ∧ y.a.r = y.r ∧ B ≤ y.x
  rules : K.Pairwise (fun a b => a.r ≠ b.r)
  apart : K.Pairwise (fun a b => a.x ≠ b.x)
theorem AcI.keep {w w' : World} {B m : Nat} {K : List Ab} (h : AcI w B m K) (hk : ∀ b, b < w.heap.size → w'.heap[b]? = w.heap[b]?) : AcI w' B m K :=
  ⟨(hk m (Array.getElem?_eq_some_iff.1 h.map).1).trans h.map, fun y hy => by
    obtain ⟨h1, h2⟩ := h.each y hy
    exact ⟨(hk y.x (Array.getElem?_eq_some_iff.1 h1).1).trans h1, h2⟩, h.rules, h.apart⟩
theorem AcI.below {w w' : World} {B m : Nat} {K : List Ab} (h : AcI w B m K) (hb : Below w.heap.size w w') : AcI w' B m K := h.keep hb.block
theorem AcI.set {w : World} {B m j : Nat} {P S : List Ab} {y : Ab} {a' : Ac} {u : Value} (h : AcI w B m (P ++ y :: S)) (hu : (acC y.a).set j u = acC a') (hr : a'.r = y.a.r) (hm : m < B) :
    AcI (w.setCell ⟨y.x, j, none⟩ u) B m (P ++ { y with a := a' } :: S) := by
  have hy : y ∈ P ++ y :: S := by simp
  obtain ⟨h1, h2, h3, h4⟩ := h.each y hy
  have hset : ∀ b, b ≠ y.x → (w.setCell ⟨y.x, j, none⟩ u).heap[b]? = w.heap[b]? := fun b hb => Below.heap_setCell _ _ _ _ hb
  have hap := List.pairwise_append.1 h.apart
  have hap2 := List.pairwise_cons.1 hap.2.1
  have hru := List.pairwise_append.1 h.rules
  have hru2 := List.pairwise_cons.1 hru.2.1
  have hE : abE (P ++ { y with a := a' } :: S) = abE (P ++ y :: S) := by simp [abE]
  have hlen : (P ++ { y with a := a' } :: S).length = (P ++ y :: S).length := by simp
  refine ⟨?_, fun z hz => ?_, ?_, ?_⟩
  · rw [hE, hlen, hset m (by omega)]
    exact h.map
  · rcases List.mem_append.1 hz with hz | hz
    · obtain ⟨g1, g2⟩ := h.each z (List.mem_append_left _ hz)
      exact ⟨(hset z.x (hap.2.2 z hz y List.mem_cons_self)).trans g1, g2⟩
    · rcases List.mem_cons.1 hz with rfl | hz
      · refine ⟨?_, h2, hr.trans h3, h4⟩
        unfold acBk at h1 ⊢
        show (w.setCell ⟨y.x, j, none⟩ u).heap[y.x]? = _
        rw [heap_setCell_blk u h1]
        have e : (#[.string (alrT y.a.r), .int .i64 y.a.n, .int .i64 y.a.k, .int .i64 y.a.w, .int .i64 y.a.t] : Array Value) = (acC y.a).toArray := rfl
        have e2 : (#[.string (alrT a'.r), .int .i64 a'.n, .int .i64 a'.k, .int .i64 a'.w, .int .i64 a'.t] : Array Value) = (acC a').toArray := rfl
        show some (Obj.cells ((#[.string (alrT y.a.r), .int .i64 y.a.n, .int .i64 y.a.k, .int .i64 y.a.w, .int .i64 y.a.t] : Array Value).setIfInBounds j u) 58 (0, 0)) = some (.cells #[.string (alrT a'.r), .int .i64 a'.n, .int .i64 a'.k, .int .i64 a'.w, .int .i64 a'.t] 58 (0, 0))
        rw [e, e2, ← hu]
        simp
      · obtain ⟨g1, g2⟩ := h.each z (List.mem_append_right _ (List.mem_cons_of_mem _ hz))
        exact ⟨(hset z.x (Ne.symm (hap2.1 z hz))).trans g1, g2⟩
  · refine List.pairwise_append.2 ⟨hru.1, List.pairwise_cons.2 ⟨hru2.1, hru2.2⟩, fun a ha b hb => ?_⟩
    rcases List.mem_cons.1 hb with rfl | hb
    · exact hru.2.2 a ha y List.mem_cons_self
    · exact hru.2.2 a ha b (List.mem_cons_of_mem _ hb)
  · refine List.pairwise_append.2 ⟨hap.1, List.pairwise_cons.2 ⟨hap2.1, hap2.2⟩, fun a ha b hb => ?_⟩
    rcases List.mem_cons.1 hb with rfl | hb
    · exact hap.2.2 a ha y List.mem_cons_self
    · exact hap.2.2 a ha b (List.mem_cons_of_mem _ hb)
theorem lkR_split {K : List Ab} {r x : Nat} (h : lkR (abE K) r = some x) : ∃ P y S, K = P ++ y :: S ∧ y.r = r ∧ y.x = x := by
  induction K with
  | nil => cases h
  | cons z K ih =>
    by_cases hz : z.r = r
    · exact ⟨[], z, K, rfl, hz, by simpa [lkR, abE, hz] using h⟩
    · have h' : lkR (abE K) r = some x := by simpa [lkR, abE, hz] using h
      obtain ⟨P, y, S, rfl, h1, h2⟩ := ih h'
      exact ⟨z :: P, y, S, rfl, h1, h2⟩
theorem lkR_none {K : List Ab} {r : Nat} : lkR (abE K) r = none ↔ ∀ y ∈ K, y.r ≠ r := by
  induction K with
  | nil => simp [lkR, abE]
  | cons z K ih =>
    by_cases hz : z.r = r
    · simp [lkR, abE, hz]
    · have : lkR (abE (z :: K)) r = lkR (abE K) r := by simp [lkR, abE, hz]
      rw [this, ih]
      simp [hz]
/-- A new account in the map. -/
theorem AcI.more {T X : World} {B m r x : Nat} {K : List Ab} (h : AcI T B m K) (hr : r < 2) (hnew : ∀ y ∈ K, y.r ≠ r) (hTx : T.heap[x]? = some (acBk ⟨r, 0, 0, 0, 0⟩)) (hB : B ≤ x) (hm : m < B) (hx : ∀ y ∈ K, y.x ≠ x)
    (hX : ∀ k, k ≠ m → X.heap[k]? = T.heap[k]?) (hXm : X.heap[m]? = some (.map (acE 0 (abE K ++ [(r, x)])).toArray (abE K ++ [(r, x)]).length)) : AcI X B m (K ++ [⟨r, x, ⟨r, 0, 0, 0, 0⟩⟩]) := by
  refine ⟨?_, fun y hy => ?_, ?_, ?_⟩
  · rw [hXm]
    simp [abE]
  · rcases List.mem_append.1 hy with hy | hy
    · obtain ⟨h1, h2, h3, h4⟩ := h.each y hy
      exact ⟨(hX y.x (by omega)).trans h1, h2, h3, h4⟩
    · rw [List.mem_singleton] at hy
      subst hy
      exact ⟨(hX x (by omega)).trans hTx, hr, rfl, hB⟩
  · refine List.pairwise_append.2 ⟨h.rules, List.pairwise_singleton _ _, fun a ha b hb => ?_⟩
    rw [List.mem_singleton] at hb
    subst hb
    exact hnew a ha
  · refine List.pairwise_append.2 ⟨h.apart, List.pairwise_singleton _ _, fun a ha b hb => ?_⟩
    rw [List.mem_singleton] at hb
    subst hb
    exact hx a ha
/-- A house's order, with where the lives lie. -/
theorem house_order2 {w' : World} {B hs m : Nat} {o : List Nat} {M : List Mb} {l : List Sg} {F : Nm2 → Lf} (hI : HsI w' B hs m o M) (ho : OrdE (mbE M) o) (hnm : M.map (·.n) = namesOf l) (hL : ∀ y ∈ M, y.L = F y.n) :
    ∃ E : List (Nm2 × Nat), o = E.map (·.2) ∧ E.map (·.1) = namK l ∧ ∀ p ∈ E, NmOk p.1 ∧ ∃ v, LfI w' p.2 (F p.1) v ∧ ∀ b, lfFoot p.2 v b → B ≤ b := by
  obtain ⟨E, h1, h2, h3⟩ := ho
  have hk : (E.map (·.1)).Perm (M.map (·.n)) := by
    have := h1.map (·.1)
    rwa [show (mbE M).map (·.1) = M.map (·.n) from by simp [mbE, Function.comp_def]] at this
  have hok : ∀ n ∈ E.map (·.1), NmOk n := fun n hn => by
    obtain ⟨y, hy, rfl⟩ := List.mem_map.1 (hk.mem_iff.1 hn)
    exact (hI.each y hy).2.1
  refine ⟨E, h3, order_names (fun n => by rw [hk.mem_iff, hnm]) hok (List.pairwise_map.2 h2) (hk.symm.pairwise (List.pairwise_map.2 hI.names) (fun h => Ne.symm h)), fun p hp => ?_⟩
  refine ⟨hok p.1 (List.mem_map.2 ⟨p, hp, rfl⟩), ?_⟩
  have := h1.mem_iff.1 hp
  simp only [mbE, List.mem_map] at this
  obtain ⟨y, hy, rfl⟩ := this
  exact ⟨y.v, by have := (hI.each y hy).1; rw [hL y hy] at this; exact this, hI.low y hy⟩
/-- The bounds of a life. -/
structure LfB (L : Lf) : Prop where
  ra : L.ra.length ≤ 1000
  ak : L.ak.length ≤ 1000
  up : L.up.length ≤ 1000
  w : LfW L
  upr : ∀ u ∈ L.up, 0 ≤ u.1 ∧ u.1 ≤ u.2 ∧ u.2 ≤ alEnd
theorem lifeB {l : List Sg} (h : SgsOk l) (hn : l.length ≤ 1000) (n : Nm2) : LfB (lifeAt l alEnd n) := by
  have hv := fun s hs => (h.1 s hs).v
  have hk := lifeAt_ok alEnd n l hv
  obtain ⟨cl, op, hu⟩ := upI_any n h
  refine ⟨Nat.le_trans (hk.len 0 (by omega)) hn, Nat.le_trans (hk.len 4 (by omega)) hn, Nat.le_trans (hk.len 1 (by omega)) hn, lifeAt_w alEnd n l hv, fun u hu' => ?_⟩
  rw [hu.up] at hu'
  obtain ⟨a, b, c, _⟩ := hu.rng u hu'
  exact ⟨a, b, c⟩
def BdA (a : Ac) (q : Int) : Prop := (-q ≤ a.n ∧ a.n ≤ q) ∧ (-q ≤ a.k ∧ a.k ≤ q) ∧ (-q ≤ a.w ∧ a.w ≤ q) ∧ (-q ≤ a.t ∧ a.t ≤ q)
theorem mul_le_thousand {k : Nat} (h : k ≤ 1000) (M : Int) (hM : 0 ≤ M) : (k : Int) * M ≤ 1000 * M := Int.mul_le_mul_of_nonneg_right (by omega) hM
theorem sumN_bound (f t : Int) (l : List Int) (h : l.length ≤ 1000) : -1000 ≤ sumI (l.map (gN f t)) ∧ sumI (l.map (gN f t)) ≤ 1000 := by
  have h1 := sumI_bound (gN f t) 1 (by omega) l fun x _ => gN_bound f t x
  omega
theorem sumZ_bound (f t : Int) (l : List (Int × Int)) (h : l.length ≤ 1000) (hz : ∀ p ∈ l, -alEnd ≤ p.2 ∧ p.2 ≤ alEnd) : -345686400000000 ≤ sumI (l.map (gZ f t)) ∧ sumI (l.map (gZ f t)) ≤ 345686400000000 := by
  have h1 := sumI_bound (gZ f t) alEnd (by unfold alEnd; omega) l fun x hx => gZ_bound (hz x hx)
  have h2 := mul_le_thousand h alEnd (by unfold alEnd; omega)
  unfold alEnd at *
  omega
theorem sumT_bound (f t : Int) (l : List (Int × Int)) (h : l.length ≤ 1000) (h0 : 0 ≤ f) (h1 : t ≤ 500) : -500000 ≤ sumI (l.map (gT f t)) ∧ sumI (l.map (gT f t)) ≤ 500000 := by
  have h1 := sumI_bound (gT f t) 500 (by omega) l fun x _ => gT_bound h0 h1
  have h2 := mul_le_thousand h 500 (by omega)
  omega
theorem zip_rng {L : Lf} (h : LfW L) : ∀ p ∈ L.ak.zip L.wt, -alEnd ≤ p.2 ∧ p.2 ≤ alEnd := fun p hp => h.rng p.2 (List.of_mem_zip hp).2
theorem acN_bound {F : Nm2 → Lf} {f t : Int} (h0 : 0 ≤ f) (h1 : t ≤ 500) (r : Nat) (K : List Nm2) (hF : ∀ n ∈ K, LfB (F n)) : BdA (acN F f t r K) ((K.length : Int) * 1000000000000000) := by
  have key : ∀ k, k ≤ K.length → BdA (acN F f t r (K.take k)) ((k : Int) * 1000000000000000) := by
    intro k
    induction k with
    | zero => intro _; rw [List.take_zero]; unfold acN BdA; simp
    | succ k ih =>
      intro hk
      have hx : K[k]? = some K[k] := List.getElem?_eq_getElem (by omega)
      have he : K.take (k + 1) = K.take k ++ [K[k]] := by rw [List.take_add_one, hx]; rfl
      obtain ⟨⟨a1, a2⟩, ⟨a3, a4⟩, ⟨a5, a6⟩, a7, a8⟩ := ih (by omega)
      have hB := hF K[k] (List.getElem_mem (by omega))
      rw [he, acN_snoc]
      unfold acStep
      split
      · have b1 := sumN_bound f t (F K[k]).ra hB.ra
        have b2 := sumN_bound f t (F K[k]).ak hB.ak
        have b3 := sumZ_bound f t ((F K[k]).ak.zip (F K[k]).wt) (by rw [List.length_zip]; have := hB.ak; omega) (zip_rng hB.w)
        have b4 := sumT_bound f t (F K[k]).up hB.up h0 h1
        unfold BdA addA
        simp only
        omega
      · unfold BdA
        omega
  have := key K.length (Nat.le_refl _)
  rwa [List.take_length] at this
theorem sumI_take {α : Type} (g : α → Int) {l : List α} {j : Nat} {x : α} (h : l[j]? = some x) : sumI ((l.take (j + 1)).map g) = sumI ((l.take j).map g) + g x := by
  rw [List.take_add_one, h, List.map_append, sumI_append]
  simp [sumI]
end Go.Proofs.YtkabcipccpbphaaGreatDoor

/- The shelf's SlLaysF0.n6 at this program. -/
namespace Go.Proofs.YtkabcipccpbphaaGreatDoor
open Go.RowKit Go.Shelf

def layAc_ren : Go.Shelf.Ren := ⟨fun | 6 => 60 | 15 => 107 | 14 => 106 | 28 => 155 | 29 => 156 | 20 => 147 | 21 => 148 | 22 => 149 | 23 => 150 | 24 => 151 | 25 => 152 | 26 => 153 | 27 => 154 | 46 => 185 | 47 => 186 | 48 => 187 | 49 => 188 | 50 => 189 | 57 => 213 | n => n, fun | 22 => 54 | 24 => 58 | 25 => 128 | 3 => 3 | 39 => 134 | 0 => 0 | 53 => 170 | 55 => 173 | 4 => 4 | 46 => 209 | 45 => 208 | 50 => 199 | 5 => 5 | 9 => 9 | 66 => 240 | 70 => 244 | 76 => 266 | 77 => 267 | n => n, fun  | n => n⟩
theorem layAc : SlLaysF0.n6 Tryz.prog layAc_ren := {
  mixed := by kernel_rfl,
  f6 := ⟨Tryz.f60.name, by kernel_rfl, Tryz.func60.trans (congrArg some (by kernel_rfl))⟩,
  f14 := ⟨Tryz.f106.name, by kernel_rfl, Tryz.func106.trans (congrArg some (by kernel_rfl))⟩,
  f15 := Tryz.func107.trans (congrArg some (by kernel_rfl)),
  f20 := ⟨Tryz.f147.name, by kernel_rfl, Tryz.func147.trans (congrArg some (by kernel_rfl))⟩,
  f21 := ⟨Tryz.f148.name, by kernel_rfl, Tryz.func148.trans (congrArg some (by kernel_rfl))⟩,
  f22 := ⟨Tryz.f149.name, by kernel_rfl, Tryz.func149.trans (congrArg some (by kernel_rfl))⟩,
  f23 := ⟨Tryz.f150.name, by kernel_rfl, Tryz.func150.trans (congrArg some (by kernel_rfl))⟩,
  f24 := ⟨Tryz.f151.name, by kernel_rfl, Tryz.func151.trans (congrArg some (by kernel_rfl))⟩,
  f25 := ⟨Tryz.f152.name, by kernel_rfl, Tryz.func152.trans (congrArg some (by kernel_rfl))⟩,
  f26 := ⟨Tryz.f153.name, by kernel_rfl, Tryz.func153.trans (congrArg some (by kernel_rfl))⟩,
  f27 := ⟨Tryz.f154.name, by kernel_rfl, Tryz.func154.trans (congrArg some (by kernel_rfl))⟩,
  f28 := Tryz.func155.trans (congrArg some (by kernel_rfl)),
  f29 := Tryz.func156.trans (congrArg some (by kernel_rfl)),
  f46 := ⟨Tryz.f185.name, by kernel_rfl, Tryz.func185.trans (congrArg some (by kernel_rfl))⟩,
  f47 := Tryz.func186.trans (congrArg some (by kernel_rfl)),
  f48 := Tryz.func187.trans (congrArg some (by kernel_rfl)),
  f49 := ⟨Tryz.f188.name, by kernel_rfl, Tryz.func188.trans (congrArg some (by kernel_rfl))⟩,
  f50 := ⟨Tryz.f189.name, by kernel_rfl, Tryz.func189.trans (congrArg some (by kernel_rfl))⟩,
  f57 := ⟨Tryz.f213.name, by kernel_rfl, Tryz.func213.trans (congrArg some (by kernel_rfl))⟩,
  t0 := Tryz.underlying0,
  a0 := Tryz.isAgg0,
  z0 := Tryz.sizeOf0,
  v0 := Tryz.zeroValue0,
  t3 := Tryz.underlying3,
  a3 := Tryz.isAgg3,
  z3 := Tryz.sizeOf3,
  v3 := Tryz.zeroValue3,
  t4 := Tryz.underlying4,
  a4 := Tryz.isAgg4,
  z4 := Tryz.sizeOf4,
  v4 := Tryz.zeroValue4,
  t5 := Tryz.underlying5,
  a5 := Tryz.isAgg5,
  z5 := Tryz.sizeOf5,
  v5 := Tryz.zeroValue5,
  t9 := Tryz.underlying9,
  a9 := Tryz.isAgg9,
  z9 := Tryz.sizeOf9,
  v9 := Tryz.zeroValue9,
  t22 := Tryz.underlying54,
  a22 := Tryz.isAgg54,
  z22 := Tryz.sizeOf54,
  v22 := Tryz.zeroValue54,
  t25 := Tryz.underlying128,
  a25 := Tryz.isAgg128,
  z25 := Tryz.sizeOf128,
  v25 := Tryz.zeroValue128,
  t39 := Tryz.underlying134,
  a39 := Tryz.isAgg134,
  z39 := Tryz.sizeOf134,
  v39 := Tryz.zeroValue134,
  t45 := Tryz.underlying208,
  a45 := Tryz.isAgg208,
  z45 := Tryz.sizeOf208,
  v45 := Tryz.zeroValue208,
  t46 := Tryz.underlying209,
  a46 := Tryz.isAgg209,
  z46 := Tryz.sizeOf209,
  v46 := Tryz.zeroValue209,
  t50 := Tryz.underlying199,
  a50 := Tryz.isAgg199,
  z50 := Tryz.sizeOf199,
  v50 := Tryz.zeroValue199,
  t53 := Tryz.underlying170,
  a53 := Tryz.isAgg170,
  z53 := Tryz.sizeOf170,
  v53 := Tryz.zeroValue170,
  t55 := Tryz.underlying173,
  a55 := Tryz.isAgg173,
  z55 := Tryz.sizeOf173,
  v55 := Tryz.zeroValue173,
  t66 := Tryz.underlying240,
  a66 := Tryz.isAgg240,
  z66 := Tryz.sizeOf240,
  v66 := Tryz.zeroValue240,
  t70 := Tryz.underlying244,
  a70 := Tryz.isAgg244,
  z70 := Tryz.sizeOf244,
  v70 := Tryz.zeroValue244,
  t76 := Tryz.underlying266,
  a76 := Tryz.isAgg266,
  z76 := Tryz.sizeOf266,
  v76 := Tryz.zeroValue266,
  t77 := Tryz.underlying267,
  a77 := Tryz.isAgg267,
  z77 := Tryz.sizeOf267,
  v77 := Tryz.zeroValue267 }
end Go.Proofs.YtkabcipccpbphaaGreatDoor

/- slices.SortFunc of at most 12 accounts by their rules. -/
namespace Go.Proofs.YtkabcipccpbphaaGreatDoor
open Go.RowKit Go.Shelf Go.Sort

instance : Inhabited Ac := ⟨⟨0, 0, 0, 0, 0⟩⟩
def cfA (x y : Ac) : Int := cbT (alrT x.r) (alrT y.r)
theorem ltA (x y : Ac) : ltOf cfA x y = decide (min x.r 1 < min y.r 1) := by
  unfold ltOf cfA
  rw [alr_cmpM]
  unfold cmpI
  by_cases h1 : min x.r 1 < min y.r 1
  · have h1i : ((min x.r 1 : Nat) : Int) < ((min y.r 1 : Nat) : Int) := by omega
    simp only [h1i, if_true]
    simp [h1]
  · have h1i : ¬ ((min x.r 1 : Nat) : Int) < ((min y.r 1 : Nat) : Int) := by omega
    simp only [h1i, if_false]
    split <;> simp [h1]
theorem swoA : SWO (ltOf cfA) where
  irrefl x := by rw [ltA]; simp
  trans x y z h1 h2 := by rw [ltA] at *; simp only [decide_eq_true_eq] at *; omega
  ntrans x y z h1 h2 := by rw [ltA] at *; simp only [decide_eq_false_iff_not] at *; omega
set_option maxRecDepth 100000 in
theorem orderA_grow (x y : Ac) (W : World) : Calls Tryz.prog 61 #[.agg (acC x).toArray, .agg (acC y).toArray] W fun e w' => e = .returned (.int .i64 (cfA x y)) ∧ ∃ q os', w' = grow (W.drewN q) os' := by
  have hcon := fun W' => scompare_any (alrT x.r) (alrT y.r) W'
  unfold cfA cbT
  generalize Lib.compareBytes (alrT x.r).data.toList (alrT y.r).data.toList = r at hcon ⊢
  show Calls Tryz.prog 61 #[.agg #[.string (alrT x.r), .int .i64 x.n, .int .i64 x.k, .int .i64 x.w, .int .i64 x.t], .agg #[.string (alrT y.r), .int .i64 y.n, .int .i64 y.k, .int .i64 y.w, .int .i64 y.t]] W _
  go_enter Tryz.func61, Tryz.ntmps61
  go_wp2_with (go_at_call 62; refine (hcon _).mono ?_; rintro e w' ⟨rfl, rfl⟩)
  go_ret
  exact ⟨rfl, 0, _, by rw [alloc_eq_grow, alloc_eq_grow, grow_grow]; rfl⟩
theorem bitsLenA (n : Nat) (W : World) (h : n ≤ 12) : Calls Tryz.prog (layAc_ren.f 15) #[.int .u64 n] W fun e w' => (∃ l : Int, e = .returned (.int .i64 l)) ∧ w' = W :=
  (Any.bits_Len (SlLaysF0.n15.bits (P := Tryz.prog) (ρ := layAc_ren) { layAc with }) n W (by omega) (by omega)).mono fun _ _ ⟨he, hw⟩ => ⟨⟨_, he⟩, hw⟩
theorem insA_none (p : Option Addr) (cap : Nat) (fv : Value) (w : World) : Calls Tryz.prog 147 #[.slice p 0 cap, .int .i64 0, .int .i64 0, fv] w fun e w' => e = .returned (.tuple #[]) ∧ w' = w := by
  go_enter Tryz.func147, Tryz.ntmps147
  go_wp2_with (fail)
  refine wp_loop_rounds 1 ?_
  rw [rounds_succ]
  go_wp2_with (fail)
  go_end0
  exact ⟨rfl, rfl⟩
theorem pdqA_none (p : Option Addr) (cap : Nat) (lim : Int) (fv : Value) (w : World) : Calls Tryz.prog 106 #[.slice p 0 cap, .int .i64 0, .int .i64 0, .int .i64 lim, fv] w fun e w' => e = .returned (.tuple #[]) ∧ w' = w := by
  go_enter Tryz.func106, Tryz.ntmps106
  go_wp2_with (fail)
  refine wp_loop_rounds 1 ?_
  rw [rounds_succ]
  go_wp2_with (go_at_call 147; refine (insA_none _ _ _ _).mono ?_; rintro e w' ⟨rfl, rfl⟩)
  (try simp only [Exit.inBlock, Exit.then]); refine bodyPost_ret (results_none rfl _ _ _) rfl ?_
  exact ⟨rfl, rfl⟩
theorem sortA_none (p : Option Addr) (cap : Nat) (fv : Value) (w : World) : Calls Tryz.prog 60 #[.slice p 0 cap, fv] w fun e w' => e = .returned (.tuple #[]) ∧ w' = w := by
  have hl := fun W => bitsLenA 0 W (by omega)
  change ∀ W, Calls Tryz.prog 107 _ W _ at hl
  go_enter Tryz.func60, Tryz.ntmps60
  go_wp2_with (first | (go_at_call 107; refine (hl _).mono ?_; rintro e w' ⟨⟨l, rfl⟩, rfl⟩) | (go_at_call 106; refine (pdqA_none _ _ _ _ _).mono ?_; rintro e w' ⟨rfl, rfl⟩))
  go_end0
  exact ⟨rfl, rfl⟩
def SortAPost (l : List Ac) (n base : Nat) (v : Value) (w : World) (e : Ending) (w' : World) : Prop :=
  e = .returned (.tuple #[]) ∧ ∃ m : List Ac, m.Perm l ∧ m.length = n ∧ m.Pairwise (fun x y => min x.r 1 ≤ min y.r 1) ∧ w'.ownsRow base 58 5 v n (recs acC m) ∧ w.grownBy w' v.ownBlock
theorem sortA_any (l : List Ac) (n c base : Nat) (A : Option Addr) (w : World) (hn : l.length = n) (h12 : n ≤ 12) (ho : w.ownsRow base 58 5 (.slice A n c) n (recs acC l)) :
    Calls Tryz.prog 60 #[.slice A n c, .func (.func 61) #[] #[]] w fun e w' => SortAPost l n base (.slice A n c) w e w' := by
  rcases own_two ho with ⟨rfl, rfl, rfl⟩ | ⟨b, rfl, hb, hlt⟩
  · refine (sortA_none none 0 _ w).mono ?_
    rintro e w' ⟨rfl, rfl⟩
    have hl := List.eq_nil_of_length_eq_zero hn
    subst hl
    exact ⟨rfl, [], List.Perm.refl _, rfl, List.Pairwise.nil, ho, grown_refl _ _⟩
  · have eg : ∀ args w, (callFunc 61 args).run Tryz.prog w = .ok (.enter 61 args) w := enters_of Tryz.func61 (by kernel_rfl) rfl
    have hcmp : CmpLays Tryz.prog 61 #[] acC 5 cfA b 0 l.toArray.size w := fun m os dk _ x y => orderA_grow x y _
    have h := AnyQ.slices_SortFunc_small_sorted layAc 5 Tryz.isAgg58 Tryz.sizeOf58 acC acC_len acC_one cfA 61 #[] swoA b 0 c l.toArray w eg hcmp (holdsK_of_own acC_len ho hn) hlt (by simpa [hn] using h12) bitsLenA
    have hsz : l.toArray.size = n := by simpa using hn
    rw [hsz] at h
    refine h.mono ?_
    rintro e w' ⟨rfl, d', q, os, hp, hs, rfl⟩
    rw [← hsz] at hp hs
    obtain ⟨h1, h2, h3⟩ := sorted_list hp hs
    obtain ⟨m, rfl⟩ : ∃ m : List Ac, d' = m.toArray := ⟨d'.toList, by simp⟩
    refine ⟨rfl, m, by simpa using h1, by simpa [hn] using h2, ?_, own_sortedK acC_len ho (by simpa [hn] using h2) q os, grown_sortedK _⟩
    refine List.Pairwise.imp ?_ (by simpa using h3)
    intro x y hxy
    rw [ltA] at hxy
    simpa using hxy
end Go.Proofs.YtkabcipccpbphaaGreatDoor

/- Accounts: what was collected is the list of the rules' accounts. -/
namespace Go.Proofs.YtkabcipccpbphaaGreatDoor
open Go.RowKit

/-- What holds of the accounts behind some lives. -/
structure AcV (F : Nm2 → Lf) (f t : Int) (N : List Nm2) (K : List Ab) : Prop where
  val : ∀ y ∈ K, y.a = acN F f t y.r N
  has : ∀ r, (∃ y ∈ K, y.r = r) ↔ hasR N r = true
theorem hasR_iff (N : List Nm2) (r : Nat) : hasR N r = true ↔ ∃ n ∈ N, n.2 = r := by
  unfold hasR
  simp
theorem acL_r {l : List Sg} {f t : Int} {a : Ac} (h : a ∈ acL l f t) : a = acN (lifeAt l alEnd) f t a.r (namK l) ∧ a.r < 2 ∧ hasR (namK l) a.r = true := by
  unfold acL at h
  obtain ⟨r, hr, rfl⟩ := List.mem_map.1 h
  obtain ⟨h1, h2⟩ := List.mem_filter.1 hr
  have hr2 : r < 2 := by
    simp only [List.mem_cons, List.not_mem_nil, or_false] at h1
    omega
  rw [acN_r]
  exact ⟨rfl, hr2, h2⟩
theorem acc_final {l : List Sg} {f t : Int} {K : List Ab} {m : List Ac} (hV : AcV (lifeAt l alEnd) f t (namK l) K) (he : ∀ y ∈ K, y.r < 2 ∧ y.a.r = y.r) (hr : K.Pairwise (fun a b => a.r ≠ b.r)) (hp : m.Perm (K.map (·.a))) (hs : m.Pairwise (fun x y => min x.r 1 ≤ min y.r 1)) : m = acL l f t := by
  have hmem : ∀ a ∈ m, ∃ y ∈ K, a = y.a := fun a ha => by
    obtain ⟨y, hy, e⟩ := List.mem_map.1 (hp.mem_iff.1 ha)
    exact ⟨y, hy, e.symm⟩
  have hr2 : ∀ a ∈ m, a.r < 2 := fun a ha => by
    obtain ⟨y, hy, rfl⟩ := hmem a ha
    obtain ⟨h1, h2⟩ := he y hy
    omega
  have hne : m.Pairwise (fun x y => x.r ≠ y.r) := by
    refine hp.symm.pairwise (List.pairwise_map.2 ?_) (fun h => Ne.symm h)
    rw [List.pairwise_iff_getElem] at hr ⊢
    intro i j hi hj hij
    have := hr i j hi hj hij
    rw [(he _ (List.getElem_mem hi)).2, (he _ (List.getElem_mem hj)).2]
    exact this
  have hst : m.Pairwise (fun x y => x.r < y.r) := by
    rw [List.pairwise_iff_getElem] at hs hne ⊢
    intro i j hi hj hij
    have h1 := hs i j hi hj hij
    have h2 := hne i j hi hj hij
    have h3 := hr2 _ (List.getElem_mem hi)
    have h4 := hr2 _ (List.getElem_mem hj)
    omega
  have hst2 : (acL l f t).Pairwise (fun x y => x.r < y.r) := by
    unfold acL
    refine List.pairwise_map.2 ?_
    have : ([0, 1].filter (hasR (namK l))).Pairwise (fun a b => a < b) := List.Pairwise.sublist List.filter_sublist (by decide)
    exact this.imp fun h => by rw [acN_r, acN_r]; exact h
  refine strict_eq Ac.r _ _ hst hst2 fun a => ⟨fun ha => ?_, fun ha => ?_⟩
  · obtain ⟨y, hy, rfl⟩ := hmem a ha
    obtain ⟨h1, h2⟩ := he y hy
    unfold acL
    refine List.mem_map.2 ⟨y.r, List.mem_filter.2 ⟨by have : y.r = 0 ∨ y.r = 1 := by omega
                                                      rcases this with h | h <;> rw [h] <;> decide, (hV.has y.r).1 ⟨y, hy, rfl⟩⟩, (hV.val y hy).symm⟩
  · obtain ⟨h1, h2, h3⟩ := acL_r ha
    obtain ⟨y, hy, e⟩ := (hV.has a.r).2 h3
    refine hp.mem_iff.2 (List.mem_map.2 ⟨y, hy, ?_⟩)
    rw [h1, hV.val y hy, e]
def getA (K : List Ab) (b : Nat) : Ac := (K.getD b ⟨0, 0, ⟨0, 0, 0, 0, 0⟩⟩).a
theorem getA_some {K : List Ab} {b : Nat} {y : Ab} (h : K[b]? = some y) : getA K b = y.a := by
  unfold getA
  rw [List.getD_eq_getElem?_getD, h]
  rfl
theorem range_all {T : List Nat} {k : Nat} (hn : T.Nodup) (hlt : ∀ b ∈ T, b < k) (hall : ∀ b, b < k → b ∈ T) : T.Perm (List.range k) :=
  (List.perm_ext_iff_of_nodup hn List.nodup_range).2 fun b => ⟨fun h => List.mem_range.2 (hlt b h), fun h => hall b (List.mem_range.1 h)⟩
theorem map_getA (K : List Ab) : (List.range K.length).map (getA K) = K.map (·.a) := by
  apply List.ext_getElem?
  intro i
  rw [List.getElem?_map, List.getElem?_map]
  rcases Nat.lt_or_ge i K.length with h | h
  · rw [List.getElem?_range h, List.getElem?_eq_getElem h]
    simp only [Option.map_some]
    rw [getA_some (List.getElem?_eq_getElem h)]
  · rw [List.getElem?_eq_none (by simpa using h), List.getElem?_eq_none h]
    rfl
theorem iterSeen_at {w : World} {r : Nat} {a : Option Nat} {b c : Nat} {s : Array Nat} (h : w.heap[r]? = some (.mapIter a b s c)) : w.iterSeen r = s := by
  unfold World.iterSeen
  rw [h]
/-- A step of the loop over the accounts. -/
theorem next_acc {w : World} {r m : Nat} {K : List Ab} {T : List Nat} (hr : w.heap[r]? = some (.mapIter (some m) K.length T.toArray K.length)) (hb : w.heap[m]? = some (.map (acE 0 (abE K)).toArray K.length)) (P : Program) (ty : TypeId) :
    ((∀ b, b < K.length → b ∈ T) ∧ (Instr.next (.pointer (some ⟨r, 0, none⟩)) false ty).run P w = .ok (.tuple #[.bool false]) w) ∨
    ∃ k y, K[k]? = some y ∧ k ∉ T ∧ (leftOf (acE 0 (abE K)).toArray (T ++ [k]).toArray).size < (leftOf (acE 0 (abE K)).toArray T.toArray).size ∧ ∃ w1 : World, w1.heap[r]? = some (.mapIter (some m) K.length (T ++ [k]).toArray K.length) ∧ (∀ b, b ≠ r → w1.heap[b]? = w.heap[b]?) ∧ w1.heap.size = w.heap.size ∧ w1.os = w.os ∧ w1.tape = w.tape ∧ w1.output = w.output ∧
      (Instr.next (.pointer (some ⟨r, 0, none⟩)) false ty).run P w = .ok (.tuple #[.bool true, .string (alrT y.r), acPt y.x]) w1 ∧ (r ≠ m → (Instr.entry (.pointer (some ⟨r, 0, none⟩))).run P w1 = .ok (.tuple #[.string (alrT y.r), acPt y.x]) w1) := by
  have hab : (abE K).length = K.length := by simp [abE]
  have hent : ∀ (k : Nat) (y : Ab), K[k]? = some y → (acE 0 (abE K))[k]? = some { key := .string (alrT y.r), val := acPt y.x, born := k } := fun k y h => by
    have := acE_get 0 (abE K) k (y.r, y.x) (by unfold abE; rw [List.getElem?_map, h]; rfl)
    rwa [Nat.zero_add] at this
  rcases run_next_raw (P := P) w ty r m K.length K.length K.length T.toArray (acE 0 (abE K)).toArray hr hb (fun x hx => by
    obtain ⟨k, p, hk, rfl⟩ := acE_mem (by simpa using hx)
    have := (List.getElem?_eq_some_iff.1 hk).1
    show 0 + k < K.length
    omega) (Nat.le_refl _) with ⟨h0, hrun⟩ | ⟨e, he, w1, h1, h2, h3, h4, h5, h6, hrun⟩
  · left
    refine ⟨fun b hb' => ?_, hrun⟩
    by_cases hbT : b ∈ T
    · exact hbT
    · exfalso
      have hx := hent b K[b] (List.getElem?_eq_getElem hb')
      have hm : ({ key := .string (alrT K[b].r), val := acPt K[b].x, born := b } : MapEntry) ∈ leftOf (acE 0 (abE K)).toArray T.toArray := by
        unfold leftOf
        rw [Array.mem_filter]
        refine ⟨by simpa using List.mem_of_getElem? hx, ?_⟩
        simpa using hbT
      rw [Array.eq_empty_of_size_eq_zero h0] at hm
      simp at hm
  · right
    have hml := mem_left he
    obtain ⟨k, p, hk, rfl⟩ := acE_mem (by simpa using hml.1)
    have hkl : k < K.length := by have := (List.getElem?_eq_some_iff.1 hk).1; omega
    have hp : p = (K[k].r, K[k].x) := by
      unfold abE at hk
      rw [List.getElem?_map, List.getElem?_eq_getElem hkl] at hk
      exact (Option.some.inj hk).symm
    have hkT : k ∉ T := by
      have := hml.2
      simp only [Nat.zero_add] at this
      simpa using this
    have hpush : T.toArray.push (0 + k) = (T ++ [k]).toArray := by simp
    refine ⟨k, K[k], List.getElem?_eq_getElem hkl, hkT, ?_, w1, ?_, h2, h3, h4, h5, h6, ?_, fun hrm => ?_⟩
    · have := left_shrinks _ _ _ he
      simp only at this
      rwa [hpush] at this
    · simp only at h1
      rwa [hpush] at h1
    · rw [hp] at hrun
      exact hrun
    · have hen := run_entry_raw (P := P) w1 r m K.length K.length T.toArray (acE 0 (abE K)).toArray _ h1 ((h2 m (Ne.symm hrm)).trans hb) hml.1 (by simpa using acE_born 0 (abE K))
      rw [hp] at hen
      exact hen
end Go.Proofs.YtkabcipccpbphaaGreatDoor

/- alarm.Accounts by its contract. -/
namespace Go.Proofs.YtkabcipccpbphaaGreatDoor
open Go.RowKit Go.Shelf

def AccP (w : World) (L : List Ac) (e : Ending) (w' : World) : Prop := ∃ A c, e = .returned (.tuple #[.slice A L.length c, .int .i64 0]) ∧ w'.ownsRow w.heap.size 58 5 (.slice A L.length c) L.length (recs acC L) ∧ Below w.heap.size w w'
theorem nodup_two {l : List Nat} (h : l.Nodup) (hs : l ⊆ [0, 1]) : l.length ≤ 2 := by
  match l, h, hs with
  | [], _, _ => simp
  | [_], _, _ => simp
  | [_, _], _, _ => simp
  | a :: b :: c :: l, h, hs =>
    exfalso
    have h1 := hs (show a ∈ a :: b :: c :: l by simp)
    have h2 := hs (show b ∈ a :: b :: c :: l by simp)
    have h3 := hs (show c ∈ a :: b :: c :: l by simp)
    simp only [List.mem_cons, List.not_mem_nil, or_false] at h1 h2 h3
    have hn := List.nodup_cons.1 h
    have hn2 := List.nodup_cons.1 hn.2
    simp only [List.mem_cons, not_or] at hn hn2
    omega
/-- The stages of the region that lays an account into the map. -/
def StM (wr w4 : World) (m r : Nat) (K : List Ab) : Nat → World → Prop
  | 0, V => True ∧ Below wr.heap.size wr V
  | _, V => True ∧ ∃ y, AcI V w4.heap.size m (K ++ [⟨r, y, ⟨r, 0, 0, 0, 0⟩⟩]) ∧ w4.grownBy V (some m)
theorem StM.alloc {wr w4 : World} {m r : Nat} {K : List Ab} : ∀ s V o, StM wr w4 m r K s V → StM wr w4 m r K s (V.alloc o)
  | 0, _, o, h => ⟨trivial, h.2.alloc h.2.size o⟩
  | _ + 1, _, _, ⟨_, y, h1, h2⟩ => ⟨trivial, y, h1.below ((Below.refl _ _).alloc (Nat.le_refl _) _), grown_trans h2 (World.grownBy_alloc _ _ (some m))⟩
set_option maxRecDepth 100000 in
set_option maxHeartbeats 8000000 in
theorem accounts_any (l : List Sg) (n c : Nat) (f t : Int) (A : Option Addr) (w : World) (hl : SgsOk l) (hn : l.length = n) (hn2 : n ≤ 1000) (hr : Row w w.heap.size A (recs sgC l)) (hf : 0 ≤ f) (hft : f ≤ t) (ht : t ≤ 500) :
    Calls Tryz.prog 20 #[.slice A n c, .agg #[.int .i64 f, .int .i64 t]] w fun e w' => AccP w (acL l f t) e w' := by
  obtain ⟨i0, hi0, hz0, hz1, hz2⟩ := info_parts Tryz.infoAcc
  have hmm := @run_makeMap Tryz.prog
  have HFT := Lib.hid (And.intro hf (And.intro hft ht))
  have hbw : Below w.heap.size w (w.alloc (.cells #[.int .i64 f, .int .i64 t] 44)) := (Below.refl _ _).alloc (Nat.le_refl _) _
  have HW0 := Lib.hid (And.intro hbw (heap_new w (.cells #[.int .i64 f, .int .i64 t] 44)))
  have HC := Lib.hid (checkSignals_any l n c A (w.alloc (.cells #[.int .i64 f, .int .i64 t] 44)) hl hn hn2 ((hr.below hbw).mono hbw.size))
  have HA := Lib.hid (fun (V : World) (hV : Below w.heap.size w V) => at_any l n c 345686400000 A V hn (by omega) ((hr.below hV).mono hV.size) (fun s hs => (hl.1 s hs).v))
  have HLB := Lib.hid (fun m => lifeB hl (by omega) m)
  clear hl hn hr hf hft ht hbw
  go_enter Tryz.func20, Tryz.ntmps20
  go_wp2_with (fail)
  refine HC.out.mono ?_
  rintro e w1 ⟨rfl, hB1⟩
  have HB1 := Lib.hid (HW0.out.1.trans (hB1.mono HW0.out.1.size))
  have hg1 := (hB1.block w.heap.size (by simp)).trans HW0.out.2
  have hlt1 : w.heap.size < w1.heap.size := (Array.getElem?_eq_some_iff.1 hg1).1
  have HG1 := Lib.hid hg1
  obtain ⟨q0, q1⟩ := And.intro (cell_of_blk (j := 0) hg1 rfl) (cell_of_blk (j := 1) hg1 rfl)
  clear hB1 hg1 HC
  go_wp2_with (fail)
  obtain ⟨gw, egw⟩ : ∃ g, g = w.heap.size := ⟨_, rfl⟩
  rw [← egw] at HG1 hlt1 ⊢
  clear q0 q1
  refine (windowA_yes f t w1 HFT.out.1 HFT.out.2.1 (by have := HFT.out.2.2; omega)).mono ?_
  rintro e w2 ⟨rfl, hB2⟩
  have HB2 := Lib.hid (HB1.out.trans (hB2.mono HB1.out.size))
  have HG2 := Lib.hid ((hB2.block gw hlt1).trans HG1.out)
  have hs2 := hB2.size
  clear hB2
  go_upto_region 8 with (fail)
  obtain ⟨m, em⟩ : ∃ m, m = w2.heap.size := ⟨_, rfl⟩
  obtain ⟨w3, e3⟩ : ∃ w3, w3 = w2.alloc (.map #[] 0) := ⟨_, rfl⟩
  rw [← em, ← e3]
  have hb3 : Below w2.heap.size w2 w3 := by rw [e3]; exact (Below.refl _ _).alloc (Nat.le_refl _) _
  have hm3 : w3.heap[m]? = some (.map #[] 0) := by rw [e3, em]; exact heap_new w2 _
  have hs3 : w3.heap.size = m + 1 := by rw [e3, em]; simp
  have HB3 := Lib.hid (HB2.out.trans (hb3.mono HB2.out.size))
  have HG3 := Lib.hid ((hb3.block gw (by omega)).trans HG2.out)
  have hwm : w.heap.size ≤ m := by have := HB2.out.size; omega
  have hgm : gw < m := by omega
  clear hb3 e3 em hs2
  go_wp2_with (fail)
  refine (HA.out w3 HB3.out).mono ?_
  rintro e w4 ⟨hs, mh, o, M, rfl, hI, hord, hnm, hL, hB4⟩
  obtain ⟨E, eo, hE1, hE2⟩ := house_order2 hI hord hnm hL
  obtain ⟨Ao, co, hbo, hoo⟩ := hI.blk
  have hMl : M.length = E.length := by
    have h1 := hI.perm.length_eq
    rw [eo, List.length_map, List.length_map] at h1
    exact h1.symm
  obtain ⟨q, eq⟩ : ∃ q, q = E.length := ⟨_, rfl⟩
  have hq6 : q ≤ 6 := by
    have h1 : (E.map (·.1)).length ≤ 6 := by rw [hE1]; exact List.length_filter_le _ _
    rw [List.length_map] at h1
    omega
  rw [hMl, ← eq] at hbo hoo
  rw [eo] at hoo
  have hc1 := cell_of_blk (j := 1) hbo rfl
  have hhl := (Array.getElem?_eq_some_iff.1 hbo).1
  have HB4 := Lib.hid (HB3.out.trans (hB4.mono HB3.out.size))
  have HG4 := Lib.hid ((hB4.block gw (by omega)).trans HG3.out)
  have HM4 := Lib.hid ((hB4.block m (by omega)).trans hm3)
  have hs4 := hB4.size
  have hm4 : m < w4.heap.size := by omega
  have HE1 := Lib.hid hE1
  have HE2 := Lib.hid hE2
  have HQ := Lib.hid eq.symm
  have HOO := Lib.hid hoo
  clear hI hord hnm hL hB4 eo hE1 hE2 hbo hoo hMl eq hm3
  go_wp2_with (fail)
  go_loopw [37] (fun s wr => ∃ (i : Nat) (K : List Ab), i ≤ q ∧ s = .int .i64 (i : Int) ∧ w4.grownBy wr (some m) ∧ AcI wr w4.heap.size m K ∧ AcV (lifeAt l alEnd) f t ((E.take i).map (·.1)) K) (fun s _ => q - (intOf s).toNat)
  case atStart => exact ⟨0, [], by omega, rfl, grown_refl _ _, ⟨HM4.out, by simp, List.Pairwise.nil, List.Pairwise.nil⟩, ⟨by simp, by simp [hasR]⟩⟩
  case round =>
    obtain ⟨i, K, hin, rfl, hgr, hK, hKV⟩ := hrel
    have HG := Lib.hid hgr
    have HK := Lib.hid hK
    have HKV := Lib.hid hKV
    have hbs := hgr.size
    clear hgr hK hKV
    by_cases hlt : i < q
    · have hltI : (i : Int) < q := by omega
      obtain ⟨p, hp⟩ : ∃ p, E[i]? = some p := ⟨_, List.getElem?_eq_getElem (by have := HQ.out; omega)⟩
      obtain ⟨hnm, v, hv, hvB⟩ := HE2.out p (List.mem_of_getElem? hp)
      obtain ⟨g, rfl, hgb, hglt⟩ : ∃ g, Ao = some ⟨g, 0, none⟩ ∧ w3.heap.size ≤ g ∧ g < w4.heap.size := by
        rcases own_two HOO.out with ⟨_, h0, _⟩ | ⟨g, h1, h2, h3⟩
        · omega
        · exact ⟨g, h1, h2, h3⟩
      have hci := own_cells0 HOO.out i (lfP p.2) (by rw [List.getElem?_map, List.getElem?_map, hp]; rfl)
      rw [Nat.zero_add] at hci
      obtain ⟨x, ex⟩ : ∃ x, x = p.2 := ⟨_, rfl⟩
      obtain ⟨L, eL⟩ : ∃ L, L = lifeAt l 345686400000 p.1 := ⟨_, rfl⟩
      obtain ⟨r, er⟩ : ∃ r, r = p.1.2 := ⟨_, rfl⟩
      rw [← eL, ← ex] at hv
      rw [← ex] at hvB hci
      have hLr : L.r = r := by rw [eL, er]; exact (lifeAt_name l _ p.1).2
      have hr2 : r < 2 := by rw [er]; exact hnm.2
      have HLV := Lib.hid (fun (V : World) (hV : w4.grownBy V (some m)) => show LfI V x L v from hv.keep fun b hb => hV.block b (hv.foot_lt hb) (by intro e; injection e with e; have := hvB b hb; omega))
      have HLBD := Lib.hid (show LfB L from by rw [eL]; exact HLB.out p.1)
      have d0 : wr.cell? ⟨g, i, none⟩ = some (.pointer (some ⟨x, 0, none⟩)) := HG.out.cell hci (by simp; omega)
      have hxl : x < w4.heap.size := hv.lt
      have hx1 := (HLV.out wr HG.out).blk
      have c1 : wr.cell? ⟨x, 1, none⟩ = some (.string (alrT r)) := by rw [← hLr]; exact cell_of_blk (j := 1) hx1 rfl
      have hgl : g < wr.heap.size := by omega
      have hxlr : x < wr.heap.size := by omega
      have HP := Lib.hid (And.intro hp (And.intro er (And.intro eL hLr)))
      have hlk := lookup_rules hr2 (w := wr) (m := m) (l := abE K) (fun z hz => by
        obtain ⟨y, hy, rfl⟩ := List.mem_map.1 hz
        exact (HK.out.each y hy).2.1) (by have := HK.out.map; simpa [abE] using this)
      clear hci hp hv hvB ex eL er hLr hnm hx1
      obtain ⟨nb, enb⟩ : ∃ nb : Bool, nb = (lkR (abE K) r).isNone := ⟨_, rfl⟩
      go_upto_region 11 with (fail)
      go_cut [48] (fun s wx => s = .bool nb ∧ wx = wr)
      case first =>
        cases hlr : lkR (abE K) r with
        | some x0 =>
          rw [hlr] at hlk enb
          unfold ptrA acPt at hlk
          have enb' : nb = false := enb
          subst enb'
          clear hlr enb
          go_wp2_with (fail)
          go_meet
          exact ⟨rfl, rfl⟩
        | none =>
          rw [hlr] at hlk enb
          unfold ptrA at hlk
          have enb' : nb = true := enb
          subst enb'
          clear hlr enb
          go_wp2_with (fail)
          go_meet
          exact ⟨rfl, rfl⟩
      case rest =>
      obtain ⟨rfl, ewc⟩ := hcut
      rw [ewc]
      clear ewc
      go_upto_if 48 with (fail)
      go_cut [] (fun wx => ∃ (K' : List Ab), w4.grownBy wx (some m) ∧ AcI wx w4.heap.size m K' ∧ (∀ y ∈ K', y.a = acN (lifeAt l alEnd) f t y.r ((E.take i).map (·.1))) ∧ (∀ r', (∃ y ∈ K', y.r = r') ↔ (hasR ((E.take i).map (·.1)) r' = true ∨ r' = r)))
      case first =>
        cases hlr : lkR (abE K) r with
        | some x0 =>
          rw [hlr] at enb
          have enb' : nb = false := enb
          subst enb'
          clear enb
          have HF := Lib.hid (show ∀ r', (∃ y ∈ K, y.r = r') ↔ (hasR ((E.take i).map (·.1)) r' = true ∨ r' = r) from fun r' => by
            rw [← HKV.out.has]
            refine ⟨fun h => .inl h, fun h => ?_⟩
            rcases h with h | rfl
            · exact h
            · obtain ⟨P, y, S, e, h1, _⟩ := lkR_split hlr
              exact ⟨y, by rw [e]; simp, h1⟩)
          clear hlr
          go_wp2_with (fail)
          go_meet
          exact ⟨K, HG.out, HK.out, HKV.out.val, HF.out⟩
        | none =>
          rw [hlr] at enb
          have enb' : nb = true := enb
          subst enb'
          clear enb
          have HLR := Lib.hid hlr
          have HQ12 := Lib.hid (fun (T : World) (hT : Below wr.heap.size wr T) => show T.cell? ⟨x, 1, none⟩ = some (.string (alrT r)) from (hT.cell (p := ⟨x, 1, none⟩) hxlr).trans c1)
          clear hlr
          go_upto_region 12 with (fail)
          have HKN := Lib.hid (And.intro HK.out (fun y hy => lkR_none.1 HLR.out y hy))
          refine qRegionSt (StM wr w4 m r K) [.map (some m), acPt x, acPt x, acPt x, .pointer (some ⟨x, 1, none⟩), .string (alrT r), acPt x, acPt x, acPt x, .pointer (some ⟨x, 1, none⟩), .string (alrT r), .agg #[.string (alrT r), .int .i64 0, .int .i64 0, .int .i64 0, .int .i64 0], undef, undef]
            [none, none, none, none, none, none, none, none, none, none, none, none, some (acBk ⟨r, 0, 0, 0, 0⟩, acPt), none] [0, 0, 0, 0, 0, 0, 0, 0, 0, 0, 0, 0, 0, 1] [1, 1, 1, 1, 1, 0, 1, 1, 1, 1, 0, 1, 1, 1] 1 (by kernel_rfl) (by kernel_rfl) rfl rfl (by rfl) ⟨trivial, (Below.refl _ _).drew⟩ StM.alloc ?_ ?_
          · unfold acPt
            simp only [putL, Act.put, List.setIfInBounds_toArray, List.set_cons_zero, List.set_cons_succ]
            refine ⟨?_, ?_, ?_, ?_, ?_, ?_, ?_, ?_, ?_, ?_, ?_, ?_, ?_, ?_, trivial⟩
            · exact OneSt.pure (fun G V => by simp only [putH, Act.put, List.setIfInBounds_toArray, List.set_cons_zero, List.set_cons_succ]; go_simp)
            · exact OneSt.pure (fun G V => by simp only [putH, Act.put, List.setIfInBounds_toArray, List.set_cons_zero, List.set_cons_succ]; go_simp)
            · exact OneSt.pure (fun G V => by simp only [putH, Act.put, List.setIfInBounds_toArray, List.set_cons_zero, List.set_cons_succ]; go_simp)
            · exact OneSt.pure (fun G V => by simp only [putH, Act.put, List.setIfInBounds_toArray, List.set_cons_zero, List.set_cons_succ]; go_simp)
            · exact OneSt.pure (fun G V => by simp only [putH, Act.put, List.setIfInBounds_toArray, List.set_cons_zero, List.set_cons_succ]; go_simp)
            · exact OneSt.load (fun G s V hK hs => by obtain rfl : s = 0 := (by omega); have z0 := HQ12.out V hK.2; simp only [putH, Act.put, List.setIfInBounds_toArray, List.set_cons_zero, List.set_cons_succ]; go_simp)
            · exact OneSt.pure (fun G V => by simp only [putH, Act.put, List.setIfInBounds_toArray, List.set_cons_zero, List.set_cons_succ]; go_simp)
            · exact OneSt.pure (fun G V => by simp only [putH, Act.put, List.setIfInBounds_toArray, List.set_cons_zero, List.set_cons_succ]; go_simp)
            · exact OneSt.pure (fun G V => by simp only [putH, Act.put, List.setIfInBounds_toArray, List.set_cons_zero, List.set_cons_succ]; go_simp)
            · exact OneSt.pure (fun G V => by simp only [putH, Act.put, List.setIfInBounds_toArray, List.set_cons_zero, List.set_cons_succ]; go_simp)
            · exact OneSt.load (fun G s V hK hs => by obtain rfl : s = 0 := (by omega); have z0 := HQ12.out V hK.2; simp only [putH, Act.put, List.setIfInBounds_toArray, List.set_cons_zero, List.set_cons_succ]; go_simp)
            · exact OneSt.pure (fun G V => by simp only [putH, Act.put, List.setIfInBounds_toArray, List.set_cons_zero, List.set_cons_succ]; go_simp)
            · exact OneSt.lay (fun G V => by show _ = Result.ok (Next.value (.pointer (some ⟨V.heap.size, 0, none⟩))) (V.alloc (.cells #[.string (alrT r), .int .i64 0, .int .i64 0, .int .i64 0, .int .i64 0] 58)); simp only [putH, Act.put, List.setIfInBounds_toArray, List.set_cons_zero, List.set_cons_succ]; go_simp)
            · refine OneSt.store (fun G V hK hL => ?_)
              obtain ⟨hg1, hg2⟩ := hL 12 _ _ rfl (by kernel_rfl)
              have hKV := HKN.out.1.below hK.2
              have hup := update_rules hr2 (w := V) (m := m) (x := G 12) (l := abE K) (fun z hz => by
                obtain ⟨y, hy, rfl⟩ := List.mem_map.1 hz
                exact (HK.out.each y hy).2.1) HLR.out (by have := hKV.map; simpa [abE] using this)
              have hml := (Array.getElem?_eq_some_iff.1 hKV.map).1
              have hmw := (Array.getElem?_eq_some_iff.1 HKN.out.1.map).1
              unfold acPt at hup
              have hXm : ({ V with heap := V.heap.setIfInBounds m (.map (acE 0 (abE K ++ [(r, G 12)])).toArray (abE K ++ [(r, G 12)]).length) } : World).heap[m]? = some (.map (acE 0 (abE K ++ [(r, G 12)])).toArray (abE K ++ [(r, G 12)]).length) := Array.getElem?_setIfInBounds_self_of_lt hml
              have hX : ∀ k, k ≠ m → ({ V with heap := V.heap.setIfInBounds m (.map (acE 0 (abE K ++ [(r, G 12)])).toArray (abE K ++ [(r, G 12)]).length) } : World).heap[k]? = V.heap[k]? := fun k hk => Array.getElem?_setIfInBounds_ne (Ne.symm hk)
              refine ⟨_, ?_, rfl, ⟨trivial, G 12, hKV.more hr2 HKN.out.2 hg2 (by have := HG.out.size; omega) hm4 (fun y hy e => ?_) hX hXm, ?_⟩, ?_⟩
              · simp only [putH, Act.put, List.setIfInBounds_toArray, List.set_cons_zero, List.set_cons_succ]
                go_simp
              · have h1 := (HK.out.each y hy).1
                have := (Array.getElem?_eq_some_iff.1 h1).1
                omega
              · have hVs := hK.2.size
                exact ⟨hK.2.os.trans HG.out.os, hK.2.tape.trans HG.out.tape, hK.2.output.trans HG.out.output, by show w4.heap.size ≤ (V.heap.setIfInBounds m _).size; rw [Array.size_setIfInBounds]; omega, fun b hb hne => (hX b (fun e => hne (by rw [e]))).trans ((hK.2.block b (by omega)).trans (HG.out.block b hb hne))⟩
              · refine ⟨by show V.heap.size ≤ (V.heap.setIfInBounds m _).size; rw [Array.size_setIfInBounds]; exact Nat.le_refl _, fun b hb _ => hX b (by omega)⟩
          · intro G W7 hK1 hsz hG
            clear hG
            have HK1 := Lib.hid hK1
            clear hK1
            unfold acPt
            simp only [putL, putH, Act.put, List.setIfInBounds_toArray, List.set_cons_zero, List.set_cons_succ]
            go_wp2_with (fail)
            go_meet
            obtain ⟨_, y, h1, h2⟩ := HK1.out
            refine ⟨K ++ [⟨r, y, ⟨r, 0, 0, 0, 0⟩⟩], h2, h1, fun z hz => ?_, fun r' => ?_⟩
            · rcases List.mem_append.1 hz with hz | hz
              · exact HKV.out.val z hz
              · rw [List.mem_singleton] at hz
                subst hz
                exact (acN_none (fun n hn e => by
                  obtain ⟨y', hy', e'⟩ := (HKV.out.has r).2 ((hasR_iff _ _).2 ⟨n, hn, e⟩)
                  exact HKN.out.2 y' hy' e')).symm
            · rw [← HKV.out.has]
              constructor
              · rintro ⟨z, hz, e⟩
                rcases List.mem_append.1 hz with hz | hz
                · exact .inl ⟨z, hz, e⟩
                · rw [List.mem_singleton] at hz; subst hz; exact .inr e.symm
              · rintro (⟨z, hz, e⟩ | rfl)
                · exact ⟨z, List.mem_append_left _ hz, e⟩
                · exact ⟨_, List.mem_append_right _ (List.mem_singleton.2 rfl), rfl⟩
      case rest =>
      obtain ⟨K', hgr, hK, hval, hhas⟩ := hcut
      obtain ⟨w5, rfl⟩ : ∃ w5 : World, w5 = wc := ⟨_, rfl⟩
      obtain ⟨P, y, S, rfl, hyr⟩ : ∃ P y S, K' = P ++ y :: S ∧ y.r = r := by
        obtain ⟨y, hy, e⟩ := (hhas r).2 (.inr rfl)
        cases h : lkR (abE K') r with
        | none => exact absurd e (lkR_none.1 h y hy)
        | some x => obtain ⟨P, y, S, h1, h2, _⟩ := lkR_split h; exact ⟨P, y, S, h1, h2⟩
      have hyM : y ∈ P ++ y :: S := by simp
      have hylk : lkR (abE (P ++ y :: S)) r = some y.x := by
        have hru := List.pairwise_append.1 hK.rules
        have hP : ∀ z ∈ P, z.r ≠ r := fun z hz => by rw [← hyr]; exact hru.2.2 z hz y List.mem_cons_self
        clear hhas hval hK hru hyM
        induction P with
        | nil => simp [lkR, abE, hyr]
        | cons z P ih =>
          have h1 : z.r ≠ r := hP z List.mem_cons_self
          have h2 := ih fun q hq => hP q (List.mem_cons_of_mem _ hq)
          have : lkR (abE (z :: P ++ y :: S)) r = lkR (abE (P ++ y :: S)) r := by simp [lkR, abE, h1]
          rw [this, h2]
      obtain ⟨hyb, hyr2, hyar, hyx⟩ := hK.each y hyM
      have hlk5 := lookup_rules hr2 (w := w5) (m := m) (l := abE (P ++ y :: S)) (fun z hz => by
        obtain ⟨y, hy, rfl⟩ := List.mem_map.1 hz
        exact (hK.each y hy).2.1) (by have := hK.map; simpa [abE] using this)
      rw [hylk] at hlk5
      unfold ptrA acPt at hlk5
      have HA0 := Lib.hid (show y.a = acN (lifeAt l alEnd) f t r ((E.take i).map (·.1)) from by rw [hval y hyM, hyr])
      have HBD := Lib.hid (show BdA y.a 6000000000000000 from by
        rw [HA0.out]
        have h := acN_bound (F := lifeAt l alEnd) HFT.out.1 HFT.out.2.2 r ((E.take i).map (·.1)) (fun n _ => HLB.out n)
        have hle : (((E.take i).map (·.1)).length : Int) * 1000000000000000 ≤ 6000000000000000 := by
          have h6 : ((E.take i).map (·.1)).length ≤ 6 := by rw [List.length_map, List.length_take]; omega
          have := Int.mul_le_mul_of_nonneg_right (show (((E.take i).map (·.1)).length : Int) ≤ 6 by omega) (show (0 : Int) ≤ 1000000000000000 by omega)
          omega
        obtain ⟨⟨a1, a2⟩, ⟨a3, a4⟩, ⟨a5, a6⟩, a7, a8⟩ := h
        exact ⟨⟨by omega, by omega⟩, ⟨by omega, by omega⟩, ⟨by omega, by omega⟩, by omega, by omega⟩)
      have HVH := Lib.hid (And.intro hval hhas)
      have HK5 := Lib.hid hK
      have HG5 := Lib.hid hgr
      have hs5 := hgr.size
      have hyxl := (Array.getElem?_eq_some_iff.1 hyb).1
      have hX5 := HLV.out w5 hgr
      have c1' : w5.cell? ⟨x, 1, none⟩ = some (.string (alrT r)) := by rw [← HP.out.2.2.2]; exact cell_of_blk (j := 1) hX5.blk rfl
      obtain ⟨Ar, cr, hvr⟩ := own_slice (hX5.row 0 (by omega))
      replace hvr : v 0 = .slice Ar L.ra.length cr := hvr
      have c4' : w5.cell? ⟨x, 4, none⟩ = some (.slice Ar L.ra.length cr) := by rw [← hvr]; exact cell_of_blk (j := 4) hX5.blk rfl
      have HVR := Lib.hid hvr
      have hxl5 : x < w5.heap.size := by omega
      obtain ⟨nr, enr⟩ : ∃ nr, nr = L.ra.length := ⟨_, rfl⟩
      have hnr : nr ≤ 1000 := by rw [enr]; exact HLBD.out.ra
      rw [← enr] at c4'
      have HNR := Lib.hid enr.symm
      clear hgr hK hval hhas hyM hylk hyb hX5 hvr enr hlk c1 d0 enb
      go_upto_region 14 with (fail)
      clear hlk5
      go_wp2_with (fail)
      go_loopw [74] (fun s wx => ∃ (j : Nat), j ≤ nr ∧ s = .int .i64 (j : Int) ∧ w4.grownBy wx (some m) ∧ AcI wx w4.heap.size m (P ++ { y with a := ⟨y.a.r, y.a.n + sumI ((L.ra.take j).map (gN f t)), y.a.k, y.a.w, y.a.t⟩ } :: S)) (fun s _ => nr - (intOf s).toNat)
      case atStart => exact ⟨0, by omega, rfl, HG5.out, by simpa [sumI] using HK5.out⟩
      case round =>
        obtain ⟨j, hjn, rfl, hgr, hK⟩ := hrel
        have HGx := Lib.hid hgr
        have HKx := Lib.hid hK
        by_cases hj : j < nr
        · have hjI : (j : Int) < nr := by omega
          have hXx := HLV.out _ hgr
          obtain ⟨k, hk⟩ : ∃ k, L.ra[j]? = some k := ⟨_, List.getElem?_eq_getElem (by have := HNR.out; omega)⟩
          have hrow := hXx.row 0 (by omega)
          rw [HVR.out] at hrow
          obtain ⟨gr, rfl, hgrl⟩ : ∃ g, Ar = some ⟨g, 0, none⟩ ∧ g < wr.heap.size := by
            rcases own_two hrow with ⟨_, h0, _⟩ | ⟨g, h1, _, h3⟩
            · have h1 : L.ra.length = 0 := h0
              have := HNR.out; omega
            · exact ⟨g, h1, h3⟩
          have hci := own_cells0 hrow j (.int .i64 k) (by show (alI L.ra)[j]? = _; unfold alI; rw [List.getElem?_map, hk]; rfl)
          rw [Nat.zero_add] at hci
          have hgwk := (hgr.block gw (by omega) (by intro e; injection e with e; omega)).trans HG4.out
          have HIN := Lib.hid (inW_any f t k gw wr hgwk)
          rw [egw] at HIN
          have HSN := Lib.hid (sumI_take (gN f t) hk)
          have hsB := sumN_bound f t (L.ra.take j) (by rw [List.length_take]; omega)
          obtain ⟨sj, esj⟩ : ∃ sj, sj = sumI ((L.ra.take j).map (gN f t)) := ⟨_, rfl⟩
          rw [← esj] at HKx HSN hsB
          have hyk := (HKx.out.each _ (show ({ y with a := ⟨y.a.r, y.a.n + sj, y.a.k, y.a.w, y.a.t⟩ } : Ab) ∈ P ++ { y with a := ⟨y.a.r, y.a.n + sj, y.a.k, y.a.w, y.a.t⟩ } :: S by simp)).1
          have hyl := (Array.getElem?_eq_some_iff.1 hyk).1
          have n1 : wr.cell? ⟨y.x, 1, none⟩ = some (.int .i64 (y.a.n + sj)) := cell_of_blk (j := 1) hyk rfl
          have fr1 : wr.frozen? ⟨y.x, 1, none⟩ = false := by unfold acBk at hyk; simp [World.frozen?, hyk]
          have hyl' : y.x < wr.heap.size := hyl
          have hw1 : IntKind.i64.wrap (y.a.n + sj + 1) = y.a.n + sj + 1 := by have := HBD.out.1; rw [IntKind.wrap_i64]; omega
          obtain ⟨bb, ebb⟩ : ∃ bb, bb = inW f t k := ⟨_, rfl⟩
          rw [← ebb] at HIN
          have HBB := Lib.hid ebb
          have HSET := Lib.hid (HKx.out.set (j := 1) (a' := ⟨y.a.r, y.a.n + sj + 1, y.a.k, y.a.w, y.a.t⟩) (u := .int .i64 (y.a.n + sj + 1)) rfl rfl hm4)
          have HGS := Lib.hid (show w4.grownBy (wr.setCell ⟨y.x, 1, none⟩ (.int .i64 (y.a.n + sj + 1))) (some m) from grown_set hgr (q := ⟨y.x, 1, none⟩) (.inr hyx) _)
          clear hgr hK hXx hk hrow hgwk esj hyk ebb hyl
          go_wp2_with (fail)
          refine HIN.out.mono ?_
          rintro e w6 ⟨rfl, rfl⟩
          cases bb
          case false =>
            have HN := Lib.hid (show sumI ((L.ra.take (j + 1)).map (gN f t)) = sj from by rw [HSN.out]; unfold gN; rw [← HBB.out]; simp)
            go_wp2_with (fail)
            go_roundw
            case rel => exact ⟨j + 1, by omega, by simp, HGx.out, by rw [HN.out]; exact HKx.out⟩
            case measure => simp [intOf]; omega
          case true =>
            have HN := Lib.hid (show y.a.n + sumI ((L.ra.take (j + 1)).map (gN f t)) = y.a.n + sj + 1 from by rw [HSN.out]; unfold gN; rw [← HBB.out]; simp; omega)
            go_wp2_with (fail)
            go_roundw
            case rel => exact ⟨j + 1, by omega, by simp, HGS.out, by rw [HN.out]; exact HSET.out⟩
            case measure => simp [intOf]; omega
        · have hjI : ¬ (j : Int) < nr := by omega
          have hjn' : j = nr := by omega
          subst hjn'
          have HS1 := Lib.hid (show sumI ((L.ra.take j).map (gN f t)) = sumI (L.ra.map (gN f t)) from by rw [← HNR.out, List.take_length])
          rw [HS1.out] at HKx
          obtain ⟨w6, rfl⟩ : ∃ w6 : World, w6 = wr := ⟨_, rfl⟩
          obtain ⟨n1, en1⟩ : ∃ n1, n1 = y.a.n + sumI (L.ra.map (gN f t)) := ⟨_, rfl⟩
          rw [← en1] at HKx
          have HN1 := Lib.hid en1
          have hs6 := hgr.size
          have hX6 := HLV.out _ hgr
          obtain ⟨Ak, ck, hvk⟩ := own_slice (hX6.row 4 (by omega))
          replace hvk : v 4 = .slice Ak L.ak.length ck := hvk
          have c9 : w6.cell? ⟨x, 9, none⟩ = some (.slice Ak L.ak.length ck) := by rw [← hvk]; exact cell_of_blk (j := 9) hX6.blk rfl
          have HVK := Lib.hid hvk
          obtain ⟨Aw, cw, hvw⟩ := own_slice (hX6.row 5 (by omega))
          replace hvw : v 5 = .slice Aw L.wt.length cw := hvw
          have HVW := Lib.hid hvw
          obtain ⟨na, ena⟩ : ∃ na, na = L.ak.length := ⟨_, rfl⟩
          have hna : na ≤ 1000 := by rw [ena]; exact HLBD.out.ak
          rw [← ena] at c9
          have HNA := Lib.hid (And.intro ena.symm (show L.wt.length = na from by rw [ena]; exact HLBD.out.w.len))
          have hxl6 : x < w6.heap.size := by omega
          clear hgr hK hX6 hvk hvw ena en1
          go_wp2_with (fail)
          go_loopw [94] (fun s wx => ∃ (j : Nat), j ≤ na ∧ s = .int .i64 (j : Int) ∧ w4.grownBy wx (some m) ∧ AcI wx w4.heap.size m (P ++ { y with a := ⟨y.a.r, n1, y.a.k + sumI ((L.ak.take j).map (gN f t)), y.a.w + sumI (((L.ak.zip L.wt).take j).map (gZ f t)), y.a.t⟩ } :: S)) (fun s _ => na - (intOf s).toNat)
          case atStart => exact ⟨0, by omega, rfl, HGx.out, by simpa [sumI] using HKx.out⟩
          case round =>
            obtain ⟨j, hjn, rfl, hgr, hK⟩ := hrel
            have HGx := Lib.hid hgr
            have HKx := Lib.hid hK
            by_cases hj : j < na
            · have hjI : (j : Int) < na := by omega
              have hXx := HLV.out _ hgr
              obtain ⟨k, hk⟩ : ∃ k, L.ak[j]? = some k := ⟨_, List.getElem?_eq_getElem (by have := HNA.out.1; omega)⟩
              obtain ⟨u, hu⟩ : ∃ u, L.wt[j]? = some u := ⟨_, List.getElem?_eq_getElem (by have := HNA.out.2; omega)⟩
              have hz : (L.ak.zip L.wt)[j]? = some (k, u) := by rw [List.getElem?_zip_eq_some]; exact ⟨hk, hu⟩
              have hrow := hXx.row 4 (by omega)
              rw [HVK.out] at hrow
              obtain ⟨gk, rfl, hgkl⟩ : ∃ g, Ak = some ⟨g, 0, none⟩ ∧ g < wr.heap.size := by
                rcases own_two hrow with ⟨_, h0, _⟩ | ⟨g, h1, _, h3⟩
                · have h1 : L.ak.length = 0 := h0
                  have := HNA.out.1; omega
                · exact ⟨g, h1, h3⟩
              have hci := own_cells0 hrow j (.int .i64 k) (by show (alI L.ak)[j]? = _; unfold alI; rw [List.getElem?_map, hk]; rfl)
              rw [Nat.zero_add] at hci
              have hrw := hXx.row 5 (by omega)
              rw [HVW.out] at hrw
              have c10 : wr.cell? ⟨x, 10, none⟩ = some (.slice Aw na cw) := by rw [← HNA.out.2, ← HVW.out]; exact cell_of_blk (j := 10) hXx.blk rfl
              obtain ⟨gx, rfl, hgxl⟩ : ∃ g, Aw = some ⟨g, 0, none⟩ ∧ g < wr.heap.size := by
                rcases own_two hrw with ⟨_, h0, _⟩ | ⟨g, h1, _, h3⟩
                · have h1 : L.wt.length = 0 := h0
                  have := HNA.out.2; omega
                · exact ⟨g, h1, h3⟩
              have hcw := own_cells0 hrw j (.int .i64 u) (by show (alI L.wt)[j]? = _; unfold alI; rw [List.getElem?_map, hu]; rfl)
              rw [Nat.zero_add] at hcw
              have hgwk := (hgr.block gw (by omega) (by intro e; injection e with e; omega)).trans HG4.out
              have HIN := Lib.hid (inW_any f t k gw wr hgwk)
              rw [egw] at HIN
              have HSN := Lib.hid (And.intro (sumI_take (gN f t) hk) (sumI_take (gZ f t) hz))
              have hsB := sumN_bound f t (L.ak.take j) (by rw [List.length_take]; omega)
              have hzB := sumZ_bound f t ((L.ak.zip L.wt).take j) (by rw [List.length_take]; omega) (fun p hp => zip_rng HLBD.out.w p (List.mem_of_mem_take hp))
              have hub := HLBD.out.w.rng u (List.mem_of_getElem? hu)
              obtain ⟨sj, esj⟩ : ∃ sj, sj = y.a.k + sumI ((L.ak.take j).map (gN f t)) := ⟨_, rfl⟩
              obtain ⟨zj, ezj⟩ : ∃ zj, zj = y.a.w + sumI (((L.ak.zip L.wt).take j).map (gZ f t)) := ⟨_, rfl⟩
              have hw1 : IntKind.i64.wrap (sj + 1) = sj + 1 := by have := HBD.out.2.1; rw [IntKind.wrap_i64]; omega
              have hw2 : IntKind.i64.wrap (zj + u) = zj + u := by have := HBD.out.2.2.1; unfold alEnd at hub; rw [IntKind.wrap_i64]; omega
              rw [← esj, ← ezj] at HKx
              have HEJ := Lib.hid (And.intro esj ezj)
              have hyk := (HKx.out.each _ (show ({ y with a := ⟨y.a.r, n1, sj, zj, y.a.t⟩ } : Ab) ∈ P ++ { y with a := ⟨y.a.r, n1, sj, zj, y.a.t⟩ } :: S by simp)).1
              have hyl := (Array.getElem?_eq_some_iff.1 hyk).1
              have n2 : wr.cell? ⟨y.x, 2, none⟩ = some (.int .i64 sj) := cell_of_blk (j := 2) hyk rfl
              have fr2 : wr.frozen? ⟨y.x, 2, none⟩ = false := by unfold acBk at hyk; simp [World.frozen?, hyk]
              have hyl' : y.x < wr.heap.size := hyl
              obtain ⟨bb, ebb⟩ : ∃ bb, bb = inW f t k := ⟨_, rfl⟩
              rw [← ebb] at HIN
              have HBB := Lib.hid ebb
              obtain ⟨w7, e7⟩ : ∃ w7, w7 = wr.setCell ⟨y.x, 2, none⟩ (.int .i64 (sj + 1)) := ⟨_, rfl⟩
              have HSET := Lib.hid (show AcI w7 w4.heap.size m (P ++ { y with a := ⟨y.a.r, n1, sj + 1, zj, y.a.t⟩ } :: S) from by rw [e7]; exact HKx.out.set (j := 2) (a' := ⟨y.a.r, n1, sj + 1, zj, y.a.t⟩) (u := .int .i64 (sj + 1)) rfl rfl hm4)
              have HGS := Lib.hid (show w4.grownBy w7 (some m) from by rw [e7]; exact grown_set hgr (q := ⟨y.x, 2, none⟩) (.inr hyx) _)
              have hs7 : w7.heap.size = wr.heap.size := by rw [e7]; simp [World.setCell]
              have h7b : ∀ b, b ≠ y.x → w7.heap[b]? = wr.heap[b]? := fun b hb => by rw [e7]; exact Below.heap_setCell _ _ _ _ hb
              have hxy : x ≠ y.x := by omega
              have hgxy : gx ≠ y.x := fun e => by
                obtain ⟨cs, hcs⟩ := own_blk hrw
                rw [e] at hcs
                unfold acBk at hyk
                have hyk' : wr.heap[y.x]? = some (.cells _ 58 (0, 0)) := hyk
                rw [hyk'] at hcs
                injection hcs with hcs
                injection hcs with _ hcs _
                exact absurd hcs (by decide : (58 : TypeId) ≠ 3)
              have c10' : w7.cell? ⟨x, 10, none⟩ = some (.slice (some ⟨gx, 0, none⟩) na cw) := by
                rw [← c10]
                show World.cell? _ _ = _
                simp only [World.cell?, h7b x hxy]
              have hcw' : w7.cell? ⟨gx, j, none⟩ = some (.int .i64 u) := by
                rw [← hcw]
                show World.cell? _ _ = _
                simp only [World.cell?, h7b gx hgxy]
              have hy7 := (HSET.out.each _ (show ({ y with a := ⟨y.a.r, n1, sj + 1, zj, y.a.t⟩ } : Ab) ∈ P ++ { y with a := ⟨y.a.r, n1, sj + 1, zj, y.a.t⟩ } :: S by simp)).1
              have HQ25 := Lib.hid (fun (V : World) (hV : Below w7.heap.size w7 V) => show V.cell? ⟨y.x, 3, none⟩ = some (.int .i64 zj) ∧ V.cell? ⟨x, 10, none⟩ = some (.slice (some ⟨gx, 0, none⟩) na cw) ∧ V.cell? ⟨gx, j, none⟩ = some (.int .i64 u) from
                ⟨(hV.cell (p := ⟨y.x, 3, none⟩) (by show y.x < _; omega)).trans (cell_of_blk (j := 3) hy7 rfl), (hV.cell (p := ⟨x, 10, none⟩) (by show x < _; omega)).trans c10', (hV.cell (p := ⟨gx, j, none⟩) (by show gx < _; omega)).trans hcw'⟩)
              have HE7 := Lib.hid e7
              clear hgr hK hXx hk hu hz hrow hrw hgwk esj ezj hyk ebb hyl c10 hcw c10' hcw' hy7 h7b e7
              go_wp2_with (fail)
              refine HIN.out.mono ?_
              rintro e w8 ⟨rfl, rfl⟩
              cases bb
              case false =>
                have HN := Lib.hid (show y.a.k + sumI ((L.ak.take (j + 1)).map (gN f t)) = sj ∧ y.a.w + sumI (((L.ak.zip L.wt).take (j + 1)).map (gZ f t)) = zj from by
                  have e1 : gN f t k = 0 := by unfold gN; rw [← HBB.out]; rfl
                  have e2 : gZ f t (k, u) = 0 := by unfold gZ; rw [← HBB.out]; rfl
                  have h1 := HSN.out.1
                  have h2 := HSN.out.2
                  have h3 := HEJ.out.1
                  have h4 := HEJ.out.2
                  rw [h1, h2, e1, e2]
                  omega)
                go_wp2_with (fail)
                go_roundw
                case rel => exact ⟨j + 1, by omega, by simp, HGx.out, by rw [HN.out.1, HN.out.2]; exact HKx.out⟩
                case measure => simp [intOf]; omega
              case true =>
                have HN := Lib.hid (show y.a.k + sumI ((L.ak.take (j + 1)).map (gN f t)) = sj + 1 ∧ y.a.w + sumI (((L.ak.zip L.wt).take (j + 1)).map (gZ f t)) = zj + u from by
                  have e1 : gN f t k = 1 := by unfold gN; rw [← HBB.out]; rfl
                  have e2 : gZ f t (k, u) = u := by unfold gZ; rw [← HBB.out]; rfl
                  have h1 := HSN.out.1
                  have h2 := HSN.out.2
                  have h3 := HEJ.out.1
                  have h4 := HEJ.out.2
                  rw [h1, h2, e1, e2]
                  omega)
                go_upto_region 25 with (fail)
                rw [← HE7.out]
                clear n2 fr2 hci
                go_upto_region 25 with (fail)
                refine qRegionTail 14 (by kernel_rfl) (by kernel_rfl) ?_
                simp only [List.take_succ_cons, List.take_zero, List.drop_succ_cons, List.drop_zero]
                repeat (first
                  | (go_big_quiet_want; refine qVal (fun V hV => (by (obtain ⟨z0, z1, z2⟩ := HQ25.out V hV; go_simp; try rfl))) ?_; simp only [Act.put, List.setIfInBounds_toArray, List.set_cons_zero, List.set_cons_succ]; go_big_quiet_on)
                  | go_big_quiet_skip)
                refine wpQuiet_nil ?_
                intro T hT
                have hTs := hT.size
                have hKT := HSET.out.below hT
                have hyT := (hKT.each _ (show ({ y with a := ⟨y.a.r, n1, sj + 1, zj, y.a.t⟩ } : Ab) ∈ P ++ { y with a := ⟨y.a.r, n1, sj + 1, zj, y.a.t⟩ } :: S by simp)).1
                have n3 : T.cell? ⟨y.x, 3, none⟩ = some (.int .i64 zj) := cell_of_blk (j := 3) hyT rfl
                have fr3 : T.frozen? ⟨y.x, 3, none⟩ = false := by unfold acBk at hyT; simp [World.frozen?, hyT]
                have hylT : y.x < T.heap.size := (Array.getElem?_eq_some_iff.1 hyT).1
                have HST := Lib.hid (hKT.set (j := 3) (a' := ⟨y.a.r, n1, sj + 1, zj + u, y.a.t⟩) (u := .int .i64 (zj + u)) rfl rfl hm4)
                have HGT := Lib.hid (show w4.grownBy (T.setCell ⟨y.x, 3, none⟩ (.int .i64 (zj + u))) (some m) from grown_set (grown_trans HGS.out (grown_belowP (r := some m) hT)) (q := ⟨y.x, 3, none⟩) (.inr hyx) _)
                clear hT hKT hyT
                go_wp2_with (fail)
                go_roundw
                case rel => exact ⟨j + 1, by omega, by simp, HGT.out, by rw [HN.out.1, HN.out.2]; exact HST.out⟩
                case measure => simp [intOf]; omega
            · have hjI : ¬ (j : Int) < na := by omega
              have hjn' : j = na := by omega
              subst hjn'
              have HS2 := Lib.hid (show sumI ((L.ak.take j).map (gN f t)) = sumI (L.ak.map (gN f t)) ∧ sumI (((L.ak.zip L.wt).take j).map (gZ f t)) = sumI ((L.ak.zip L.wt).map (gZ f t)) from by
                rw [← HNA.out.1, List.take_length, List.take_of_length_le (by rw [List.length_zip]; omega)]; exact ⟨rfl, rfl⟩)
              rw [HS2.out.1, HS2.out.2] at HKx
              obtain ⟨w7, rfl⟩ : ∃ w7 : World, w7 = wr := ⟨_, rfl⟩
              obtain ⟨k1, ek1⟩ : ∃ k1, k1 = y.a.k + sumI (L.ak.map (gN f t)) := ⟨_, rfl⟩
              obtain ⟨z1, ez1⟩ : ∃ z1, z1 = y.a.w + sumI ((L.ak.zip L.wt).map (gZ f t)) := ⟨_, rfl⟩
              rw [← ek1, ← ez1] at HKx
              have HKZ := Lib.hid (And.intro ek1 ez1)
              have hs7 := hgr.size
              have hX7 := HLV.out _ hgr
              obtain ⟨Au, cu, hvu⟩ := own_slice (hX7.row 1 (by omega))
              replace hvu : v 1 = .slice Au L.up.length cu := hvu
              have c6 : w7.cell? ⟨x, 6, none⟩ = some (.slice Au L.up.length cu) := by rw [← hvu]; exact cell_of_blk (j := 6) hX7.blk rfl
              have HVU := Lib.hid hvu
              obtain ⟨nu, enu⟩ : ∃ nu, nu = L.up.length := ⟨_, rfl⟩
              have hnu : nu ≤ 1000 := by rw [enu]; exact HLBD.out.up
              rw [← enu] at c6
              have HNU := Lib.hid enu.symm
              have hxl7 : x < w7.heap.size := by omega
              clear hgr hK hX7 hvu enu ek1 ez1
              go_wp2_with (fail)
              go_loopw [129] (fun s wx => ∃ (j : Nat), j ≤ nu ∧ s = .int .i64 (j : Int) ∧ w4.grownBy wx (some m) ∧ AcI wx w4.heap.size m (P ++ { y with a := ⟨y.a.r, n1, k1, z1, y.a.t + sumI ((L.up.take j).map (gT f t))⟩ } :: S)) (fun s _ => nu - (intOf s).toNat)
              case atStart => exact ⟨0, by omega, rfl, HGx.out, by simpa [sumI] using HKx.out⟩
              case round =>
                obtain ⟨j, hjn, rfl, hgr, hK⟩ := hrel
                have HGx := Lib.hid hgr
                have HKx := Lib.hid hK
                have hsr := hgr.size
                by_cases hj : j < nu
                · have hjI : (j : Int) < nu := by omega
                  have hXx := HLV.out _ hgr
                  obtain ⟨u, hu⟩ : ∃ u, L.up[j]? = some u := ⟨_, List.getElem?_eq_getElem (by have := HNU.out; omega)⟩
                  have hrow := hXx.row 1 (by omega)
                  rw [HVU.out] at hrow
                  obtain ⟨gu, rfl, hgul⟩ : ∃ g, Au = some ⟨g, 0, none⟩ ∧ g < wr.heap.size := by
                    rcases own_two hrow with ⟨_, h0, _⟩ | ⟨g, h1, _, h3⟩
                    · have h1 : L.up.length = 0 := h0
                      have := HNU.out; omega
                    · exact ⟨g, h1, h3⟩
                  have hcu := own_cells0 hrow
                  have d0 := rec_cell alW_len hcu j u hu 0 _ rfl
                  have d1 := rec_cell alW_len hcu j u hu 1 _ rfl
                  simp only [Nat.zero_add, Nat.add_zero] at d0 d1
                  have hgwk := (hgr.block gw (by omega) (by intro e; injection e with e; omega)).trans HG4.out
                  rw [egw] at hgwk
                  have HSN := Lib.hid (sumI_take (gT f t) hu)
                  have hsB := sumT_bound f t (L.up.take j) (by rw [List.length_take]; omega) HFT.out.1 HFT.out.2.2
                  have hub := HLBD.out.upr u (List.mem_of_getElem? hu)
                  obtain ⟨tj, etj⟩ : ∃ tj, tj = y.a.t + sumI ((L.up.take j).map (gT f t)) := ⟨_, rfl⟩
                  have hgb := gT_bound (f := f) (t := t) (u := u) HFT.out.1 HFT.out.2.2
                  have hw1 : IntKind.i64.wrap (min u.2 t - max u.1 f) = min u.2 t - max u.1 f := by have := HFT.out; unfold alEnd at hub; rw [IntKind.wrap_i64]; omega
                  have hw2 : IntKind.i64.wrap (tj + max 0 (min u.2 t - max u.1 f)) = tj + max 0 (min u.2 t - max u.1 f) := by have := HBD.out.2.2.2; unfold gT at hgb; rw [IntKind.wrap_i64]; omega
                  rw [← etj] at HKx
                  have HEJ := Lib.hid etj
                  obtain ⟨w8, e8⟩ : ∃ w8, w8 = wr.alloc (.cells #[.int .i64 u.1, .int .i64 u.2] 44) := ⟨_, rfl⟩
                  obtain ⟨g8, eg8⟩ : ∃ g8, g8 = wr.heap.size := ⟨_, rfl⟩
                  have hb8 : Below wr.heap.size wr w8 := by rw [e8]; exact (Below.refl _ _).alloc (Nat.le_refl _) _
                  have hg8 : w8.heap[g8]? = some (.cells #[.int .i64 u.1, .int .i64 u.2] 44 (0, 0)) := by rw [e8, eg8]; exact heap_new wr _
                  have hlt8 := (Array.getElem?_eq_some_iff.1 hg8).1
                  have hs8 := hb8.size
                  have hK8 := HKx.out.below hb8
                  have hy8 := (hK8.each _ (show ({ y with a := ⟨y.a.r, n1, k1, z1, tj⟩ } : Ab) ∈ P ++ { y with a := ⟨y.a.r, n1, k1, z1, tj⟩ } :: S by simp)).1
                  have hyl8 := (Array.getElem?_eq_some_iff.1 hy8).1
                  have hgw8 := (hb8.block w.heap.size (by omega)).trans hgwk
                  have hgw8l : w.heap.size < w8.heap.size := (Array.getElem?_eq_some_iff.1 hgw8).1
                  have HQ30 := Lib.hid (fun (V : World) (hV : Below w8.heap.size w8 V) => show V.cell? ⟨y.x, 4, none⟩ = some (.int .i64 tj) ∧ V.cell? ⟨g8, 0, none⟩ = some (.int .i64 u.1) ∧ V.cell? ⟨g8, 1, none⟩ = some (.int .i64 u.2) ∧ V.cell? ⟨w.heap.size, 0, none⟩ = some (.int .i64 f) ∧ V.cell? ⟨w.heap.size, 1, none⟩ = some (.int .i64 t) from
                    ⟨(hV.cell (p := ⟨y.x, 4, none⟩) hyl8).trans (cell_of_blk (j := 4) hy8 rfl), (hV.cell (p := ⟨g8, 0, none⟩) hlt8).trans (cell_of_blk (j := 0) hg8 rfl), (hV.cell (p := ⟨g8, 1, none⟩) hlt8).trans (cell_of_blk (j := 1) hg8 rfl), (hV.cell (p := ⟨w.heap.size, 0, none⟩) hgw8l).trans (cell_of_blk (j := 0) hgw8 rfl), (hV.cell (p := ⟨w.heap.size, 1, none⟩) hgw8l).trans (cell_of_blk (j := 1) hgw8 rfl)⟩)
                  have HG8 := Lib.hid (show w4.grownBy w8 (some m) from grown_trans hgr (grown_belowP (r := some m) hb8))
                  have HK8 := Lib.hid hK8
                  clear hgr hK hXx hu hrow hcu hgwk etj hb8 hg8 hK8 hy8 hyl8 hgw8
                  go_upto_region 30 with (fail)
                  rw [← eg8, ← e8]
                  clear eg8 e8 d0 d1
                  go_upto_region 30 with (fail)
                  refine qRegionTail 19 (by kernel_rfl) (by kernel_rfl) ?_
                  simp only [List.take_succ_cons, List.take_zero, List.drop_succ_cons, List.drop_zero]
                  repeat (first
                    | (go_big_quiet_want; refine qVal (fun V hV => (by (obtain ⟨z0, z1, z2, z3, z4⟩ := HQ30.out V hV; go_simp; try rfl))) ?_; simp only [Act.put, List.setIfInBounds_toArray, List.set_cons_zero, List.set_cons_succ]; go_big_quiet_on)
                    | go_big_quiet_skip)
                  refine wpQuiet_nil ?_
                  intro T hT
                  have hTs := hT.size
                  have hKT := HK8.out.below hT
                  have hyT := (hKT.each _ (show ({ y with a := ⟨y.a.r, n1, k1, z1, tj⟩ } : Ab) ∈ P ++ { y with a := ⟨y.a.r, n1, k1, z1, tj⟩ } :: S by simp)).1
                  have n4 : T.cell? ⟨y.x, 4, none⟩ = some (.int .i64 tj) := cell_of_blk (j := 4) hyT rfl
                  have fr4 : T.frozen? ⟨y.x, 4, none⟩ = false := by unfold acBk at hyT; simp [World.frozen?, hyT]
                  have hylT : y.x < T.heap.size := (Array.getElem?_eq_some_iff.1 hyT).1
                  have HST := Lib.hid (hKT.set (j := 4) (a' := ⟨y.a.r, n1, k1, z1, tj + gT f t u⟩) (u := .int .i64 (tj + max 0 (min u.2 t - max u.1 f))) rfl rfl hm4)
                  have HGT := Lib.hid (show w4.grownBy (T.setCell ⟨y.x, 4, none⟩ (.int .i64 (tj + max 0 (min u.2 t - max u.1 f)))) (some m) from grown_set (grown_trans HG8.out (grown_belowP (r := some m) hT)) (q := ⟨y.x, 4, none⟩) (.inr hyx) _)
                  have HN := Lib.hid (show y.a.t + sumI ((L.up.take (j + 1)).map (gT f t)) = tj + gT f t u from by have h1 := HSN.out; have h2 := HEJ.out; rw [h1]; omega)
                  clear hT hKT hyT
                  go_wp2_with (fail)
                  go_roundw
                  case rel => exact ⟨j + 1, by omega, by simp, HGT.out, by rw [HN.out]; exact HST.out⟩
                  case measure => simp [intOf]; omega
                · have hjI : ¬ (j : Int) < nu := by omega
                  have hjn' : j = nu := by omega
                  subst hjn'
                  have HS3 := Lib.hid (show sumI ((L.up.take j).map (gT f t)) = sumI (L.up.map (gT f t)) from by rw [← HNU.out, List.take_length])
                  rw [HS3.out] at HKx
                  have HEND := Lib.hid (show AcV (lifeAt l alEnd) f t ((E.take (i + 1)).map (·.1)) (P ++ { y with a := ⟨y.a.r, n1, k1, z1, y.a.t + sumI (L.up.map (gT f t))⟩ } :: S) from by
                    obtain ⟨hp, hpr, hpL, hLr⟩ := HP.out
                    have hNS : (E.take (i + 1)).map (·.1) = (E.take i).map (·.1) ++ [p.1] := by rw [List.take_add_one, hp, List.map_append]; rfl
                    have hadd : (⟨y.a.r, n1, k1, z1, y.a.t + sumI (L.up.map (gT f t))⟩ : Ac) = addA f t (lifeAt l alEnd p.1) y.a := by
                      unfold addA
                      rw [show lifeAt l alEnd p.1 = L from hpL.symm, HN1.out, HKZ.out.1, HKZ.out.2]
                    rw [hNS]
                    have hru := List.pairwise_append.1 HK5.out.rules
                    have hru2 := List.pairwise_cons.1 hru.2.1
                    have oth : ∀ z, z ∈ P ++ y :: S → z.r ≠ r → z.a = acN (lifeAt l alEnd) f t z.r ((E.take i).map (·.1) ++ [p.1]) := fun z hz hne => by
                      rw [acN_snoc]
                      unfold acStep
                      rw [if_neg (by rw [← hpr]; exact fun e => hne e.symm)]
                      exact HVH.out.1 z hz
                    refine ⟨fun z hz => ?_, fun r' => ?_⟩
                    · rcases List.mem_append.1 hz with hz | hz
                      · exact oth z (List.mem_append_left _ hz) (by rw [← hyr]; exact hru.2.2 z hz y List.mem_cons_self)
                      · rcases List.mem_cons.1 hz with rfl | hz
                        · show (⟨y.a.r, n1, k1, z1, y.a.t + sumI (L.up.map (gT f t))⟩ : Ac) = acN _ f t y.r _
                          rw [hadd, acN_snoc]
                          unfold acStep
                          rw [if_pos (by rw [← hpr, hyr]), hyr, ← HA0.out]
                        · exact oth z (List.mem_append_right _ (List.mem_cons_of_mem _ hz)) (by rw [← hyr]; exact Ne.symm (hru2.1 z hz))
                    · have h1 : (∃ z ∈ P ++ { y with a := ⟨y.a.r, n1, k1, z1, y.a.t + sumI (L.up.map (gT f t))⟩ } :: S, z.r = r') ↔ ∃ z ∈ P ++ y :: S, z.r = r' := by
                        constructor
                        · rintro ⟨z, hz, e⟩
                          rcases List.mem_append.1 hz with hz | hz
                          · exact ⟨z, List.mem_append_left _ hz, e⟩
                          · rcases List.mem_cons.1 hz with rfl | hz
                            · exact ⟨y, by simp, e⟩
                            · exact ⟨z, List.mem_append_right _ (List.mem_cons_of_mem _ hz), e⟩
                        · rintro ⟨z, hz, e⟩
                          rcases List.mem_append.1 hz with hz | hz
                          · exact ⟨z, List.mem_append_left _ hz, e⟩
                          · rcases List.mem_cons.1 hz with rfl | hz
                            · exact ⟨_, List.mem_append_right _ List.mem_cons_self, e⟩
                            · exact ⟨z, List.mem_append_right _ (List.mem_cons_of_mem _ hz), e⟩
                      rw [h1, HVH.out.2 r', hasR_iff, hasR_iff]
                      simp only [List.mem_append, List.mem_singleton, or_and_right, exists_or, exists_eq_left]
                      rw [← hpr, eq_comm (a := r)])
                  clear hgr hK
                  go_wp2_with (fail)
                  go_roundw
                  case rel => exact ⟨i + 1, _, by omega, by go_num, HGx.out, HKx.out, HEND.out⟩
                  case measure => simp [intOf]; omega
    · have hltI : ¬ (i : Int) < q := by omega
      have hiq : i = q := by omega
      subst hiq
      have HV := Lib.hid (show AcV (lifeAt l alEnd) f t (namK l) K from by have := HKV.out; rwa [← HQ.out, List.take_length, HE1.out] at this)
      have hK2 : K.length ≤ 2 := by
        have h1 : (K.map (·.r)).Nodup := List.pairwise_map.2 HK.out.rules
        have h2 : (K.map (·.r)) ⊆ [0, 1] := fun r hr => by
          obtain ⟨y, hy, rfl⟩ := List.mem_map.1 hr
          have := (HK.out.each y hy).2.1
          have : y.r = 0 ∨ y.r = 1 := by omega
          rcases this with h | h <;> rw [h] <;> decide
        have h3 := nodup_two h1 h2
        rwa [List.length_map] at h3
      have hrg := run_range_map (P := Tryz.prog) wr 124 9 125 m _ _ Tryz.underlying124 HK.out.map
      have hmlr := (Array.getElem?_eq_some_iff.1 HK.out.map).1
      obtain ⟨ri, eri⟩ : ∃ ri, ri = wr.heap.size := ⟨_, rfl⟩
      obtain ⟨w5, e5⟩ : ∃ w5, w5 = wr.alloc (.mapIter (some m) K.length #[] K.length) := ⟨_, rfl⟩
      have h5i : w5.heap[ri]? = some (.mapIter (some m) K.length ([] : List Nat).toArray K.length) := by rw [e5, eri]; exact heap_new wr _
      have hb5 : Below wr.heap.size wr w5 := by rw [e5]; exact (Below.refl _ _).alloc (Nat.le_refl _) _
      have hs5 : w5.heap.size = ri + 1 := by rw [e5, eri]; simp
      have HK5 := Lib.hid (HK.out.below hb5)
      have HG5 := Lib.hid (show w4.grownBy w5 (some m) from grown_trans HG.out (grown_belowP (r := some m) hb5))
      have HI5 := Lib.hid h5i
      have hrm : ri ≠ m := by omega
      have hw45 : w4.heap.size ≤ w5.heap.size := HG5.out.size
      have hri4 : w4.heap.size ≤ ri := by omega
      have hwlo : w.heap.size ≤ w5.heap.size := by omega
      go_wp2_with (fail)
      rw [← eri, ← e5]
      clear hrg e5 eri hb5 h5i
      go_loopw [18] (fun v wx => ∃ (T : List Nat), wx.heap[ri]? = some (.mapIter (some m) K.length T.toArray K.length) ∧ T.Nodup ∧ (∀ b ∈ T, b < K.length) ∧ AcI wx w4.heap.size m K ∧ w4.grownBy wx (some m) ∧ wx.ownsRow w5.heap.size 58 5 v T.length (recs acC (T.map (getA K))) ∧ w5.heap.size ≤ wx.heap.size) (fun _ wx => (leftOf (acE 0 (abE K)).toArray (wx.iterSeen ri)).size)
      case atStart => exact ⟨[], HI5.out, List.Pairwise.nil, by simp, HK5.out, HG5.out, World.ownsRow_nil _ _ _ _, Nat.le_refl _⟩
      case round =>
        obtain ⟨T, hit, hTn, hTl, hK, hgr, hown, hsx⟩ := hrel
        have HTN := Lib.hid (And.intro hTn hTl)
        rcases next_acc hit hK.map Tryz.prog 0 with ⟨hall, hrun⟩ | ⟨k, y, hky, hkT, hmeas, w6, h1, h2, h3, h4, h5, h6, hrun, hen⟩
        · have hnx : ∀ ty, (Instr.next (.pointer (some ⟨ri, 0, none⟩)) false ty).run Tryz.prog wr = _ := fun _ => hrun
          obtain ⟨Ax, cx, rfl⟩ := own_slice hown
          have hTp := range_all hTn hTl hall
          have hTlen : T.length ≤ 2 := by rw [hTp.length_eq, List.length_range]; exact hK2
          have HSRT := Lib.hid (sortA_any (T.map (getA K)) T.length cx w5.heap.size Ax wr (by rw [List.length_map]) (by omega) hown)
          have HPM := Lib.hid (show (T.map (getA K)).Perm (K.map (·.a)) from by rw [← map_getA]; exact hTp.map _)
          have HKE := Lib.hid (fun (mm : List Ac) (hp : mm.Perm (T.map (getA K))) (hs : mm.Pairwise (fun x y => min x.r 1 ≤ min y.r 1)) => show mm = acL l f t from acc_final HV.out (fun y hy => ⟨(HK.out.each y hy).2.1, (HK.out.each y hy).2.2.1⟩) HK.out.rules (hp.trans HPM.out) hs)
          have HBX := Lib.hid (show Below w.heap.size w wr from ⟨hgr.os.trans HB4.out.os, hgr.tape.trans HB4.out.tape, hgr.output.trans HB4.out.output, by have := HB4.out.size; omega, fun b hb => (hgr.block b (by have := HB4.out.size; omega) (by intro e; injection e with e; omega)).trans (HB4.out.block b hb)⟩)
          have HLO := Lib.hid (fun g (hg : (Value.slice Ax T.length cx).ownBlock = some g) => (hown.lt g hg).1)
          clear hit hTn hTl hK hgr hown hall hTp
          go_wp2_with (fail)
          refine HSRT.out.mono ?_
          rintro e w7 ⟨rfl, mm, hmp, hml, hms, ho7, hg7⟩
          have hfin := HKE.out mm hmp hms
          rw [hfin] at hml ho7
          have HF := Lib.hid (show AccP w (acL l f t) (.returned (.tuple #[.slice Ax T.length cx, .int .i64 0])) w7 from by
            rw [← hml] at ho7 ⊢
            exact ⟨Ax, cx, rfl, own_base9 ho7 hwlo, HBX.out.grown hg7 HBX.out.size (fun k hk => Nat.le_trans hwlo (HLO.out k hk))⟩)
          clear hmp hml hms ho7 hg7 hfin
          go_wp2_with (fail)
          exact bodyPost_ret (v := .tuple #[.slice Ax T.length cx, .int .i64 0]) (by simp [results, Tryz.results20, go_sem]) rfl HF.out
        · have hnx : ∀ ty, (Instr.next (.pointer (some ⟨ri, 0, none⟩)) false ty).run Tryz.prog wr = _ := fun _ => hrun
          have hen' := hen hrm
          unfold acPt at hnx hen'
          have hkl : k < K.length := (List.getElem?_eq_some_iff.1 hky).1
          have hy := hK.each y (List.mem_of_getElem? hky)
          have hyri : y.x ≠ ri := fun e => by
            have := hy.1
            rw [e, hit] at this
            cases this
          have hy6 := (h2 y.x hyri).trans hy.1
          have hyl6 := (Array.getElem?_eq_some_iff.1 hy6).1
          have b0 : w6.cell? ⟨y.x, 0, none⟩ = some (.string (alrT y.a.r)) := cell_of_blk (j := 0) hy6 rfl
          have b1 : w6.cell? ⟨y.x, 1, none⟩ = some (.int .i64 y.a.n) := cell_of_blk (j := 1) hy6 rfl
          have b2 : w6.cell? ⟨y.x, 2, none⟩ = some (.int .i64 y.a.k) := cell_of_blk (j := 2) hy6 rfl
          have b3 : w6.cell? ⟨y.x, 3, none⟩ = some (.int .i64 y.a.w) := cell_of_blk (j := 3) hy6 rfl
          have b4 : w6.cell? ⟨y.x, 4, none⟩ = some (.int .i64 y.a.t) := cell_of_blk (j := 4) hy6 rfl
          have HO6 := Lib.hid (show w6.ownsRow w5.heap.size 58 5 u18 T.length (recs acC (T.map (getA K))) from own_keptB hown fun b hb => h2 b (by have := (hown.lt b hb).1; omega))
          have HK6 := Lib.hid (show AcI w6 w4.heap.size m K from ⟨(h2 m (Ne.symm hrm)).trans hK.map, fun z hz => by
            obtain ⟨z1, z2⟩ := hK.each z hz
            exact ⟨(h2 z.x (fun e => by rw [e, hit] at z1; cases z1)).trans z1, z2⟩, hK.rules, hK.apart⟩)
          have HG6 := Lib.hid (show w4.grownBy w6 (some m) from ⟨h4.trans hgr.os, h5.trans hgr.tape, h6.trans hgr.output, by omega, fun b hb hne => (h2 b (by omega)).trans (hgr.block b hb hne)⟩)
          have HI6 := Lib.hid h1
          have HGA := Lib.hid (getA_some hky)
          have hTlen : T.length ≤ 2 := nodup_two hTn (fun b hb => by
            have := hTl b hb
            have : b = 0 ∨ b = 1 := by omega
            rcases this with h | h <;> rw [h] <;> decide)
          have HKY := Lib.hid (And.intro hkT hkl)
          have HME := Lib.hid (show (leftOf (acE 0 (abE K)).toArray (T ++ [k]).toArray).size < (leftOf (acE 0 (abE K)).toArray (wr.iterSeen ri)).size from by rw [iterSeen_at hit]; exact hmeas)
          have hs56 : w5.heap.size ≤ w6.heap.size := by omega
          obtain ⟨tl, etl⟩ : ∃ tl, tl = T.length := ⟨_, rfl⟩
          rw [← etl] at HO6 hTlen
          have HTL := Lib.hid etl
          clear hit hTn hTl hK hgr hown hen hky hkT hmeas h1 h2 h3 h4 h5 h6 hy hy6 etl
          go_wp2_with (at_builtin; refine wpList_append_own2 _ rfl _ _ 54 rfl w5.heap.size 58 i0 _ 5 48 Tryz.underlying54 hi0 hz0 hz1 hz2 rfl (by decide) _ _ _ rfl (HO6.out.alloc _) ⟨_, 0, none⟩ 1 1 (acC y.a) rfl rfl ?c1 ?c2 ?c3 ?c4 ?c5 ?_)
          case c1 => first | exact cells_add (cells_atF (by rfl) (by first | rfl | simp)) | exact fun j u h => h
          case c2 => exact acC_one _
          case c3 => unfold maxLen; omega
          case c4 => omega
          case c5 => first | omega | (simp; omega)
          intro v9 w9 ho9 hg9 hm9
          have hlo : ∀ k, u18.ownBlock = some k → w5.heap.size ≤ k := fun k hk => (HO6.out.lt k hk).1
          have HO9 := Lib.hid ho9
          have hb69 : Below w5.heap.size w6 w9 := ((Below.refl w5.heap.size w6).alloc hs56 _).grown hg9 (by simp; omega) hlo
          have HI9 := Lib.hid ((hb69.block ri (by omega)).trans HI6.out)
          have HK9 := Lib.hid (show AcI w9 w4.heap.size m K from ⟨(hb69.block m (by omega)).trans HK6.out.map, fun z hz => by
            obtain ⟨z1, z2⟩ := HK6.out.each z hz
            have hzl := (Array.getElem?_eq_some_iff.1 (HK5.out.each z hz).1).1
            exact ⟨(hb69.block z.x hzl).trans z1, z2⟩, HK6.out.rules, HK6.out.apart⟩)
          have HG9 := Lib.hid (show w4.grownBy w9 (some m) from ⟨hb69.os.trans HG6.out.os, hb69.tape.trans HG6.out.tape, hb69.output.trans HG6.out.output, Nat.le_trans HG6.out.size hb69.size, fun b hb hne => (hb69.block b (by omega)).trans (HG6.out.block b hb hne)⟩)
          have hs69 := hb69.size
          clear ho9 hg9 hm9 hlo hb69
          go_wp2_with (fail)
          go_roundw
          case rel =>
            refine ⟨T ++ [k], HI9.out, List.nodup_append.2 ⟨HTN.out.1, by simp, fun a ha b hb => ?_⟩, fun b hb => ?_, HK9.out, HG9.out, ?_, by omega⟩
            · rw [List.mem_singleton] at hb
              rw [hb]
              exact fun e => HKY.out.1 (e ▸ ha)
            · rw [List.mem_append, List.mem_singleton] at hb
              rcases hb with hb | rfl
              · exact HTN.out.2 b hb
              · exact HKY.out.2
            · rw [List.map_append, List.map_singleton, HGA.out, recs_snoc, List.length_append, ← HTL.out]
              have h := HO9.out
              rw [← hs5] at h
              exact h
          case measure =>
            rw [iterSeen_at HI9.out]
            exact HME.out
end Go.Proofs.YtkabcipccpbphaaGreatDoor
