/- Several texts in one: SgK, SgX, SgC, AlA, AlW, AlX, RcP, AlB, RcR, RcC, RcL. -/
import Derived.Test.YtkabcipccpbphaaGreatDoorMgA
import Derived.Test.YtkabcipccpbphaaGreatDoorMgB
import Derived.Test.YtkabcipccpbphaaGreatDoorMgD
import Derived.Test.YtkabcipccpbphaaGreatDoorMgC

/- fleetref1.Key at the names and people of signals; in, MomentFault. -/
namespace Go.Proofs.YtkabcipccpbphaaGreatDoor
open Go.RowKit

theorem inR_yes (n lo hi : Int) (h1 : lo ≤ n) (h2 : n ≤ hi) (w : World) : Calls Tryz.prog 50 #[.int .i64 n, .int .i64 lo, .int .i64 hi] w fun e w' => e = .returned (.bool true) ∧ w = w' := by
  go_enter Tryz.func50, Tryz.ntmps50
  go_wp2_with (fail)
  go_ret
  exact ⟨rfl, rfl⟩
theorem inR_no (n lo hi : Int) (h : ¬ (lo ≤ n ∧ n ≤ hi)) (w : World) : Calls Tryz.prog 50 #[.int .i64 n, .int .i64 lo, .int .i64 hi] w fun e w' => e = .returned (.bool false) ∧ w = w' := by
  by_cases h1 : lo ≤ n
  · have h2 : ¬ n ≤ hi := fun h2 => h ⟨h1, h2⟩
    clear h
    go_enter Tryz.func50, Tryz.ntmps50
    go_wp2_with (fail)
    go_ret
    exact ⟨rfl, rfl⟩
  · clear h
    go_enter Tryz.func50, Tryz.ntmps50
    go_wp2_with (fail)
    go_ret
    exact ⟨rfl, rfl⟩
theorem inR_any (n lo hi : Int) (w : World) : Calls Tryz.prog 50 #[.int .i64 n, .int .i64 lo, .int .i64 hi] w fun e w' => e = .returned (.bool (decide (lo ≤ n ∧ n ≤ hi))) ∧ w = w' := by
  by_cases h : lo ≤ n ∧ n ≤ hi
  · rw [decide_eq_true h]; exact inR_yes n lo hi h.1 h.2 w
  · rw [decide_eq_false h]; exact inR_no n lo hi h w
theorem momF_any (n : Int) (w : World) : Calls Tryz.prog 48 #[.int .i64 n] w fun e w' => e = .returned (.int .i64 (if 0 ≤ n ∧ n ≤ 345686399999 then 0 else 1)) ∧ w = w' := by
  have HI := Lib.hid (inR_any n 0 345686399999 w)
  by_cases h : 0 ≤ n ∧ n ≤ 345686399999
  · rw [decide_eq_true h] at HI
    rw [if_pos h]
    clear h
    go_enter Tryz.func48, Tryz.ntmps48
    go_wp2_with (go_at_call 50; refine HI.out.mono ?_; rintro e w' ⟨rfl, rfl⟩)
    go_ret
    exact ⟨rfl, rfl⟩
  · rw [decide_eq_false h] at HI
    rw [if_neg h]
    clear h
    go_enter Tryz.func48, Tryz.ntmps48
    go_wp2_with (go_at_call 50; refine HI.out.mono ?_; rintro e w' ⟨rfl, rfl⟩)
    go_ret
    exact ⟨rfl, rfl⟩
def rkSet : ByteArray := ⟨#[97, 98, 99, 100, 101, 102, 103, 104, 105, 106, 107, 108, 109, 110, 111, 112, 113, 114, 115, 116, 117, 118, 119, 120, 121, 122, 48, 49, 50, 51, 52, 53, 54, 55, 56, 57, 45, 95]⟩
theorem rtrim (s : ByteArray) (hs : s.size ≤ 40) (q : ByteArray) (hq : q = ⟨(Lib.trimS s.data.toList rkSet.data.toList).toArray⟩) (w : World) :
    Calls Tryz.prog 36 #[.string s, .string ⟨#[97, 98, 99, 100, 101, 102, 103, 104, 105, 106, 107, 108, 109, 110, 111, 112, 113, 114, 115, 116, 117, 118, 119, 120, 121, 122, 48, 49, 50, 51, 52, 53, 54, 55, 56, 57, 45, 95]⟩] w fun e w' => e = .returned (.string q) ∧ Below w.heap.size w w' := by
  subst hq
  exact Any.strings_Trim_laid lay160 (by kernel_rfl) s rkSet w (by omega) (by decide) (ascii_of_all (by decide))
theorem ribyte (c : Int) (w : World) : Calls Tryz.prog 79 #[.string ⟨#[97, 98, 99, 100, 101, 102, 103, 104, 105, 106, 107, 108, 109, 110, 111, 112, 113, 114, 115, 116, 117, 118, 119, 120, 121, 122]⟩, .int .u8 c] w fun e w' => ∃ z : Int, e = .returned (.int .i64 z) ∧ w = w' := by
  refine (Any.strings_IndexByte lay137 ⟨#[97, 98, 99, 100, 101, 102, 103, 104, 105, 106, 107, 108, 109, 110, 111, 112, 113, 114, 115, 116, 117, 118, 119, 120, 121, 122]⟩ c w).mono ?_
  rintro e w' ⟨h1, h2⟩
  exact ⟨_, h1, h2.symm⟩
set_option maxRecDepth 100000 in
theorem rkey_yes (s : ByteArray) (h1 : 1 ≤ s.size) (h2 : s.size ≤ 40) (ht : (⟨#[]⟩ : ByteArray) = ⟨(Lib.trimS s.data.toList rkSet.data.toList).toArray⟩) (w : World) :
    Calls Tryz.prog 49 #[.string s] w fun e w' => ∃ t : Bool, e = .returned (.bool t) ∧ Below w.heap.size w w' := by
  have h1I : (1 : Int) ≤ s.size := by omega
  have h2I : (s.size : Int) ≤ 40 := by omega
  have h0 : 0 < s.size := by omega
  have HT := Lib.hid (fun V => rtrim s h2 ⟨#[]⟩ ht V)
  clear ht
  go_enter Tryz.func49, Tryz.ntmps49
  go_wp2_with (go_at_call 50; refine (inR_yes _ _ _ h1I h2I _).mono ?_; rintro e w' ⟨rfl, rfl⟩)
  refine (HT.out _).mono ?_
  rintro e w1 ⟨rfl, hb1⟩
  have HB := Lib.hid hb1
  clear hb1
  go_wp2_with (fail)
  refine (ribyte _ _).mono ?_
  rintro e w2 ⟨z, rfl, rfl⟩
  go_wp2_with (fail)
  go_ret
  exact ⟨_, rfl, HB.out⟩
theorem rkey_nil (w : World) : Calls Tryz.prog 49 #[.string ⟨#[]⟩] w fun e w' => e = .returned (.bool false) ∧ Below w.heap.size w w' := by
  go_enter Tryz.func49, Tryz.ntmps49
  go_wp2_with (go_at_call 50; refine (inR_no _ _ _ (by decide) _).mono ?_; rintro e w' ⟨rfl, rfl⟩)
  go_ret
  exact ⟨rfl, Below.refl _ _⟩
set_option maxRecDepth 100000 in
theorem rkey_A (w : World) : Calls Tryz.prog 49 #[.string ⟨#[65]⟩] w fun e w' => e = .returned (.bool false) ∧ Below w.heap.size w w' := by
  have HT := Lib.hid (fun V => rtrim ⟨#[65]⟩ (by decide) ⟨#[65]⟩ (by rfl) V)
  go_enter Tryz.func49, Tryz.ntmps49
  go_wp2_with (go_at_call 50; refine (inR_yes _ _ _ (by decide) (by decide) _).mono ?_; rintro e w' ⟨rfl, rfl⟩)
  refine (HT.out _).mono ?_
  rintro e w1 ⟨rfl, hb1⟩
  have HB := Lib.hid hb1
  clear hb1
  go_wp2_with (fail)
  go_ret
  exact ⟨rfl, HB.out⟩
theorem rkey_dev (d : Nat) (w : World) : Calls Tryz.prog 49 #[.string (aldT d)] w fun e w' => ∃ t : Bool, e = .returned (.bool t) ∧ Below w.heap.size w w' := by
  match d with
  | 0 => exact rkey_yes _ (by decide) (by decide) (by rfl) w
  | 1 => exact rkey_yes _ (by decide) (by decide) (by rfl) w
  | n + 2 => exact rkey_yes _ (by show 1 ≤ (⟨#[100, 103]⟩ : ByteArray).size; decide) (by show (⟨#[100, 103]⟩ : ByteArray).size ≤ 40; decide) (by rfl) w
theorem rkey_rule (r : Nat) (w : World) : Calls Tryz.prog 49 #[.string (alrT r)] w fun e w' => ∃ t : Bool, e = .returned (.bool t) ∧ Below w.heap.size w w' := by
  match r with
  | 0 => exact rkey_yes _ (by decide) (by decide) (by rfl) w
  | n + 1 => exact rkey_yes _ (by show 1 ≤ (⟨#[114, 98]⟩ : ByteArray).size; decide) (by show (⟨#[114, 98]⟩ : ByteArray).size ≤ 40; decide) (by rfl) w
theorem rkey_who (b : Nat) (w : World) : Calls Tryz.prog 49 #[.string (alwT b)] w fun e w' => ∃ t : Bool, e = .returned (.bool t) ∧ (t = true → b = 1 ∨ b = 2) ∧ Below w.heap.size w w' := by
  match b with
  | 0 => exact (rkey_nil w).mono fun e w' h => ⟨false, h.1, by simp, h.2⟩
  | 1 => exact (rkey_yes _ (by decide) (by decide) (by rfl) w).mono fun e w' ⟨t, h1, h2⟩ => ⟨t, h1, fun _ => .inl rfl, h2⟩
  | 2 => exact (rkey_yes _ (by decide) (by decide) (by rfl) w).mono fun e w' ⟨t, h1, h2⟩ => ⟨t, h1, fun _ => .inr rfl, h2⟩
  | n + 3 => exact (rkey_A w).mono fun e w' h => ⟨false, h.1, by simp, h.2⟩
end Go.Proofs.YtkabcipccpbphaaGreatDoor

/- fleetref1.SignalsFault: where it answers 0, the signals are right. Printed by gen_SgX.py. -/
namespace Go.Proofs.YtkabcipccpbphaaGreatDoor
open Go.RowKit Go.Shelf Go.Sort

/-- A right signal. -/
structure SgR (s : Sg) : Prop where
  d : s.d < 3
  r : s.r < 2
  at0 : 0 ≤ s.at_
  at1 : s.at_ < 345686400000
  kd : 1 ≤ s.kd ∧ s.kd ≤ 5
  who : 3 ≤ s.kd → s.b = 1 ∨ s.b = 2
  none_ : s.kd < 3 → s.b = 0
  shelf : s.kd = 4 → s.at_ + 1 ≤ s.un ∧ s.un ≤ s.at_ + 2592000000 ∧ s.un ≤ 345686400000
  plain : s.kd ≠ 4 → s.un = 0
def SgsOk (l : List Sg) : Prop := (∀ s ∈ l, SgR s) ∧ l.Pairwise SgL
theorem SgL.trans {a b c : Sg} (h : SgL a b) (k : SgL b c) : SgL a c := by unfold SgL at *; omega
theorem SgsOk.nil : SgsOk [] := ⟨by simp, List.Pairwise.nil⟩
theorem SgsOk.snoc {l : List Sg} {s : Sg} (h : SgsOk l) (hs : SgR s) (hl : ∀ q, l.getLast? = some q → SgL q s) : SgsOk (l ++ [s]) := by
  refine ⟨fun x hx => ?_, List.pairwise_append.2 ⟨h.2, List.pairwise_singleton _ _, fun a ha b hb => ?_⟩⟩
  · rw [List.mem_append, List.mem_singleton] at hx
    rcases hx with hx | rfl
    · exact h.1 x hx
    · exact hs
  · rw [List.mem_singleton] at hb
    subst hb
    obtain ⟨i, hi, rfl⟩ := List.getElem_of_mem ha
    have hne : l ≠ [] := by intro e; subst e; cases ha
    have hlast := hl _ (List.getLast?_eq_some_getLast hne)
    rw [List.getLast_eq_getElem] at hlast
    rcases Nat.lt_or_ge i (l.length - 1) with h1 | h1
    · exact ((List.pairwise_iff_getElem.1 h.2) i (l.length - 1) hi (by omega) h1).trans hlast
    · have : i = l.length - 1 := by omega
      subst this
      exact hlast
theorem take_last {l : List Sg} {i : Nat} {q : Sg} (hi : 1 ≤ i) (hq : l[i - 1]? = some q) : (l.take i).getLast? = some q := by
  have hlt : i - 1 < l.length := (List.getElem?_eq_some_iff.1 hq).1
  rw [List.getLast?_eq_getElem?, List.length_take, Nat.min_eq_left (by omega), List.getElem?_take_of_lt (by omega)]
  exact hq
theorem cmp_neg {q x : Sg} (h : ¬ 0 ≤ sgCmp q x) : SgL q x := (sgCmp_lt q x).1 (by omega)
theorem alw_zero (b : Nat) : (decide ((alwT b).toList = [])) = decide (b = 0) := by
  match b with
  | 0 => decide +kernel
  | 1 => decide +kernel
  | 2 => decide +kernel
  | n + 3 => rw [show alwT (n + 3) = ⟨#[65]⟩ from rfl, decide_eq_false (show ¬ (n + 3 = 0) by omega)]; decide +kernel
def SgAt3 (V : World) (b o : Nat) (x : Sg) (g : Nat) (y : Sg) : Prop :=
  V.cell? ⟨b, o, none⟩ = some (.int .i64 x.at_) ∧ V.cell? ⟨b, o + 1, none⟩ = some (.int .i64 x.kd) ∧ V.cell? ⟨b, o + 2, none⟩ = some (.string (aldT x.d)) ∧ V.cell? ⟨b, o + 3, none⟩ = some (.string (alrT x.r)) ∧ V.cell? ⟨b, o + 4, none⟩ = some (.string (alwT x.b)) ∧ V.cell? ⟨b, o + 5, none⟩ = some (.int .i64 x.un) ∧ V.cell? ⟨g, 0, none⟩ = some (.int .i64 y.at_) ∧ V.cell? ⟨g, 1, none⟩ = some (.int .i64 y.kd) ∧ V.cell? ⟨g, 2, none⟩ = some (.string (aldT y.d)) ∧ V.cell? ⟨g, 3, none⟩ = some (.string (alrT y.r)) ∧ V.cell? ⟨g, 4, none⟩ = some (.string (alwT y.b)) ∧ V.cell? ⟨g, 5, none⟩ = some (.int .i64 y.un)
theorem sgAt3 {V : World} {b o g : Nat} {x y : Sg} (h : SgAt V b o x) (k : SgB V g y) : SgAt3 V b o x g y :=
  ⟨h.1, h.2.1, h.2.2.1, h.2.2.2.1, h.2.2.2.2.1, h.2.2.2.2.2, k.1, k.2.1, k.2.2.1, k.2.2.2.1, k.2.2.2.2.1, k.2.2.2.2.2⟩
def FaultP (w : World) (l : List Sg) (e : Ending) (w' : World) : Prop := ∃ z : Int, e = .returned (.int .i64 z) ∧ (z = 0 → SgsOk l) ∧ Below w.heap.size w w'
theorem FaultP.no {w w' : World} {l : List Sg} {z : Int} (hz : z ≠ 0) (hb : Below w.heap.size w w') : FaultP w l (.returned (.int .i64 z)) w' := ⟨z, rfl, fun h => absurd h hz, hb⟩
set_option maxRecDepth 100000 in
set_option maxHeartbeats 4000000 in
theorem sigsFault_any (l : List Sg) (n c : Nat) (A : Option Addr) (w : World) (hn : l.length = n) (hn2 : n ≤ 1000) (hr : Row w w.heap.size A (recs sgC l)) (hg : ∀ x ∈ l, SgG x) :
    Calls Tryz.prog 14 #[.slice A n c] w fun e w' => FaultP w l e w' := by
  have HR := Lib.hid hr
  have HN := Lib.hid hn
  have HG := Lib.hid hg
  have hnI2 : ¬ (5000 : Int) < n := by omega
  clear hr hn hg
  go_enter Tryz.func14, Tryz.ntmps14
  go_wp2_with (fail)
  go_loopw [12] (fun s wr => ∃ (i : Nat), i ≤ n ∧ s = .int .i64 (i : Int) ∧ Below w.heap.size w wr ∧ Hid (SgsOk (l.take i))) (fun s _ => n - (intOf s).toNat)
  case atStart => exact ⟨0, by omega, rfl, Below.refl _ _, Lib.hid (by simpa using SgsOk.nil)⟩
  case round =>
    obtain ⟨i, hin, rfl, hbr, HOK⟩ := hrel
    have hbs := hbr.size
    have HB := Lib.hid hbr
    clear hbr
    by_cases hlt : i < n
    · have hltI : (i : Int) < n := by omega
      obtain ⟨x, hx⟩ : ∃ x, l[i]? = some x := ⟨_, List.getElem?_eq_getElem (by have := HN.out; omega)⟩
      obtain ⟨b, o, rfl, hb, hC⟩ := (HR.out.below HB.out).posR sgC_len (by omega) (by have := HN.out; omega)
      have HX := Lib.hid (HG.out x (List.mem_of_getElem? hx))
      obtain ⟨c0, c1, c2, c3, c4, c5⟩ := sg_cells hC i x hx
      have HP := Lib.hid hx
      have hb' : b < wr.heap.size := by omega
      clear hx hC
      go_upto_region 6 with (fail)
      obtain ⟨g, eg⟩ : ∃ g, g = wr.heap.size := ⟨_, rfl⟩
      obtain ⟨w5, e5⟩ : ∃ w5, w5 = wr.alloc (.cells #[.int .i64 x.at_, .int .i64 x.kd, .string (aldT x.d), .string (alrT x.r), .string (alwT x.b), .int .i64 x.un] 47) := ⟨_, rfl⟩
      rw [← eg, ← e5]
      have hg5 : w5.heap[g]? = some (sgBk x) := by rw [e5, eg]; exact heap_new wr _
      have HB5 := Lib.hid (show Below w.heap.size w w5 from by rw [e5]; exact HB.out.alloc hbs _)
      have hlt5 : g < w5.heap.size := by rw [e5, eg]; simp
      have hbs5 := HB5.out.size
      have HQ := Lib.hid (fun (V : World) (hV : Below w5.heap.size w5 V) => show SgB V g x from sg_blk ((hV.block g hlt5).trans hg5))
      obtain ⟨q0, q1, q2, q3, q4, q5⟩ := sg_blk hg5
      clear eg e5 hg5 c0 c1 c2 c3 c4 c5
      go_quiet (fail)
      obtain ⟨w6, e6⟩ : ∃ w6, w6 = w5.drewN nq := ⟨_, rfl⟩
      rw [← e6]
      obtain ⟨p3, hp3⟩ : ∃ t : Bool, t = decide (3 ≤ x.kd) := ⟨_, rfl⟩
      obtain ⟨s4, hs4⟩ : ∃ t : Bool, t = (x.kd == 4) := ⟨_, rfl⟩
      rw [← hp3, ← hs4]
      have HP3 := Lib.hid (show p3 = true ↔ 3 ≤ x.kd from by rw [hp3]; simp)
      have HS4 := Lib.hid (show s4 = true ↔ x.kd = 4 from by rw [hs4]; simp)
      have HB6 := Lib.hid (show Below w.heap.size w w6 from by rw [e6]; exact below_drewN HB5.out _)
      have HQ6 := Lib.hid (show ∀ V, Below w6.heap.size w6 V → SgB V g x from fun V hV => HQ.out V (by subst e6; exact ⟨hV.os, hV.tape, hV.output, hV.size, hV.block⟩))
      have hs6 : w6.heap.size = w5.heap.size := by rw [e6]; rfl
      have hlt6 : g < w6.heap.size := by omega
      clear e6 hp3 hs4 q0 q1 q2 q3 q4 q5 HQ
      obtain ⟨q0, q1, q2, q3, q4, q5⟩ := HQ6.out w6 (Below.refl _ _)
      go_wp2_with (fail)
      refine (momF_any _ _).mono ?_
      rintro e w' ⟨rfl, rfl⟩
      by_cases hm : 0 ≤ x.at_ ∧ x.at_ ≤ 345686399999
      case neg =>
        rw [if_neg hm]
        clear hm
        go_wp2_with (fail)
        go_ret
        exact FaultP.no (by decide) HB6.out
      rw [if_pos hm]
      have HM := Lib.hid hm
      clear hm
      go_wp2_with (fail)
      refine (rkey_dev x.d _).mono ?_
      rintro e w7 ⟨t1, rfl, hb7⟩
      have hs7 := hb7.size
      have HB7 := Lib.hid (HB6.out.trans (hb7.mono (by omega)))
      have HB67 := Lib.hid hb7
      have hlt7 : g < w7.heap.size := by omega
      clear q0 q1 q2 q3 q4 q5 hb7
      obtain ⟨q0, q1, q2, q3, q4, q5⟩ := HQ6.out w7 HB67.out
      cases t1
      case false =>
        go_wp2_with (fail)
        go_ret
        exact FaultP.no (by decide) HB7.out
      go_wp2_with (fail)
      refine (rkey_rule x.r _).mono ?_
      rintro e w8 ⟨t2, rfl, hb8⟩
      have hs8 := hb8.size
      have HB8 := Lib.hid (HB7.out.trans (hb8.mono (by omega)))
      have HB68 := Lib.hid (HB67.out.trans (hb8.mono (by omega)))
      have hlt8 : g < w8.heap.size := by omega
      clear q0 q1 q2 q3 q4 q5 hb8
      obtain ⟨q0, q1, q2, q3, q4, q5⟩ := HQ6.out w8 HB68.out
      cases t2
      case false =>
        go_wp2_with (fail)
        go_ret
        exact FaultP.no (by decide) HB8.out
      go_wp2_with (fail)
      refine (inR_any _ _ _ _).mono ?_
      rintro e w' ⟨rfl, rfl⟩
      by_cases hk : 1 ≤ x.kd ∧ x.kd ≤ 5
      case neg =>
        rw [decide_eq_false hk]
        clear hk
        go_wp2_with (fail)
        go_ret
        exact FaultP.no (by decide) HB8.out
      rw [decide_eq_true hk]
      have HK := Lib.hid hk
      clear hk
      cases p3
      case true =>
        go_wp2_with (fail)
        refine (rkey_who x.b _).mono ?_
        rintro e w9 ⟨t3, rfl, hw9, hb9⟩
        have hs9 := hb9.size
        have HB9 := Lib.hid (HB8.out.trans (hb9.mono (by omega)))
        have HB69 := Lib.hid (HB68.out.trans (hb9.mono (by omega)))
        have hlt9 : g < w9.heap.size := by omega
        have HW := Lib.hid hw9
        clear q0 q1 q2 q3 q4 q5 hb9 hw9
        obtain ⟨q0, q1, q2, q3, q4, q5⟩ := HQ6.out w9 HB69.out
        cases t3
        case false =>
          go_wp2_with (fail)
          go_ret
          exact FaultP.no (by decide) HB9.out
        cases s4
        case true =>
          have hwa : IntKind.i64.wrap (x.at_ + 1) = x.at_ + 1 := by have := HM.out; rw [IntKind.wrap_i64]; omega
          have hwb : IntKind.i64.wrap (x.at_ + 2592000000) = x.at_ + 2592000000 := by have := HM.out; rw [IntKind.wrap_i64]; omega
          go_wp2_with (fail)
          refine (inR_any _ _ _ _).mono ?_
          rintro e w' ⟨rfl, rfl⟩
          by_cases hsh : x.at_ + 1 ≤ x.un ∧ x.un ≤ min (x.at_ + 2592000000) 345686400000
          case neg =>
            rw [decide_eq_false hsh]
            clear hsh
            go_wp2_with (fail)
            go_ret
            exact FaultP.no (by decide) HB9.out
          rw [decide_eq_true hsh]
          have HR1 := Lib.hid (show SgR x from ⟨HX.out.d, HX.out.r, HM.out.1, by have := HM.out; omega, HK.out, fun _ => (by simpa using HW.out), fun h => by have h4 : x.kd = 4 := (by simpa using HS4.out); omega, fun _ => by omega, fun h => absurd (show x.kd = 4 from by simpa using HS4.out) h⟩)
          clear hsh hwa hwb
          by_cases hi0 : i = 0
          case pos =>
            subst hi0
            have hd : decide ((0 : Int) < 0) = false := by decide
            have HOK2 := Lib.hid (show SgsOk (l.take (0 + 1)) from by
              rw [List.take_add_one, HP.out]
              exact SgsOk.snoc HOK.out HR1.out (fun q hq => by simp at hq))
            go_wp2_with (fail)
            go_quiet (fail)
            go_wp2_with (fail)
            go_roundw
            case rel => exact ⟨1, by omega, by simp, below_drewN HB9.out _, HOK2⟩
            case measure => simp [intOf]; omega
          have hi1I : (0 : Int) < i := by omega
          have hd : decide ((0 : Int) < i) = true := by simpa using hi1I
          have hd2 : decide (0 < i) = true := by simp; omega
          have hd3 : 0 < i := by omega
          obtain ⟨q, hq⟩ : ∃ q, l[i - 1]? = some q := ⟨_, List.getElem?_eq_getElem (by have := HN.out; omega)⟩
          obtain ⟨b2, o2, e2, hb2, hC2⟩ := HR.out.posR sgC_len (by omega) (by have := HN.out; omega)
          cases e2
          have HSA := Lib.hid (sg_cells hC2 (i - 1) q hq)
          have hwrap : (i : Int) - 1 = ((i - 1 : Nat) : Int) := by omega
          have hwr : IntKind.i64.wrap ((i - 1 : Nat) : Int) = ((i - 1 : Nat) : Int) := by rw [IntKind.wrap_i64]; omega
          have hxI : ((i - 1 : Nat) : Int) < (n : Int) := by omega
          have hxN : i - 1 < n := by omega
          have HTL := Lib.hid (take_last hd3 hq)
          have HQ9 := Lib.hid (fun (V : World) (hV : Below w9.heap.size w9 V) => show SgAt3 V b (o + (i - 1) * 6) q g x from
            sgAt3 (HSA.out.below (HB9.out.trans (hV.mono HB9.out.size)) hb2) (HQ6.out V (HB69.out.trans (hV.mono HB69.out.size))))
          have HSO := Lib.hid (fun V => show Calls Tryz.prog 43 #[.agg #[.int .i64 q.at_, .int .i64 q.kd, .string (aldT q.d), .string (alrT q.r), .string (alwT q.b), .int .i64 q.un], .agg #[.int .i64 x.at_, .int .i64 x.kd, .string (aldT x.d), .string (alrT x.r), .string (alwT x.b), .int .i64 x.un]] V _ from signalOrder_grow q x V)
          obtain ⟨r, er⟩ : ∃ r, r = sgCmp q x := ⟨_, rfl⟩
          rw [← er] at HSO
          have HRL := Lib.hid (show ¬ 0 ≤ r → SgL q x from by rw [er]; exact cmp_neg)
          go_upto_region 21 with (fail)
          clear hq hC2 er q0 q1 q2 q3 q4 q5
          go_upto_region 21 with (fail)
          refine qRegionTail 9 (by kernel_rfl) (by kernel_rfl) ?_
          simp only [List.take_succ_cons, List.take_zero, List.drop_succ_cons, List.drop_zero]
          repeat (first
            | (go_big_quiet_want; refine qVal (fun V hV => (by (obtain ⟨r0, r1, r2, r3, r4, r5, s0, s1, s2, s3, s4', s5⟩ := HQ9.out V hV; go_simp; try rfl))) ?_; simp only [Act.put, List.setIfInBounds_toArray, List.set_cons_zero, List.set_cons_succ]; go_big_quiet_on)
            | go_big_quiet_skip)
          refine wpQuiet_nil ?_
          intro w10 hb10
          have HB10 := Lib.hid (HB9.out.trans (hb10.mono HB9.out.size))
          clear hb10
          go_wp2_with (fail)
          refine (HSO.out w10).mono ?_
          rintro e w11 ⟨rfl, qn, os, rfl⟩
          have HB11 := Lib.hid (HB10.out.trans ((below_grow w10 qn os).mono HB10.out.size))
          by_cases hr0 : 0 ≤ r
          case pos =>
            go_wp2_with (fail)
            go_ret
            exact FaultP.no (by decide) HB11.out
          have HOK2 := Lib.hid (show SgsOk (l.take (i + 1)) from by
            rw [List.take_add_one, HP.out]
            exact SgsOk.snoc HOK.out HR1.out (fun q' hq' => by rw [HTL.out] at hq'; cases hq'; exact HRL.out (by omega)))
          go_wp2_with (fail)
          go_roundw
          case rel => exact ⟨i + 1, by omega, by simp, HB11.out, HOK2⟩
          case measure => simp [intOf]; omega
        case false =>
          by_cases hun : x.un = 0
          case neg =>
            have hunb : (x.un != 0) = true := by simpa using hun
            go_wp2_with (fail)
            go_ret
            exact FaultP.no (by decide) HB9.out
          have hunb : (x.un != 0) = false := by simpa using hun
          have HR1 := Lib.hid (show SgR x from ⟨HX.out.d, HX.out.r, HM.out.1, by have := HM.out; omega, HK.out, fun _ => (by simpa using HW.out), (fun h => by have h3 : 3 ≤ x.kd := (by simpa using HP3.out); omega), (fun h => by have h4 : ¬ x.kd = 4 := (by simpa using HS4.out); exact absurd h h4), fun _ => hun⟩)
          clear hun
          by_cases hi0 : i = 0
          case pos =>
            subst hi0
            have hd : decide ((0 : Int) < 0) = false := by decide
            have HOK2 := Lib.hid (show SgsOk (l.take (0 + 1)) from by
              rw [List.take_add_one, HP.out]
              exact SgsOk.snoc HOK.out HR1.out (fun q hq => by simp at hq))
            go_wp2_with (fail)
            go_quiet (fail)
            go_wp2_with (fail)
            go_roundw
            case rel => exact ⟨1, by omega, by simp, below_drewN HB9.out _, HOK2⟩
            case measure => simp [intOf]; omega
          have hi1I : (0 : Int) < i := by omega
          have hd : decide ((0 : Int) < i) = true := by simpa using hi1I
          have hd2 : decide (0 < i) = true := by simp; omega
          have hd3 : 0 < i := by omega
          obtain ⟨q, hq⟩ : ∃ q, l[i - 1]? = some q := ⟨_, List.getElem?_eq_getElem (by have := HN.out; omega)⟩
          obtain ⟨b2, o2, e2, hb2, hC2⟩ := HR.out.posR sgC_len (by omega) (by have := HN.out; omega)
          cases e2
          have HSA := Lib.hid (sg_cells hC2 (i - 1) q hq)
          have hwrap : (i : Int) - 1 = ((i - 1 : Nat) : Int) := by omega
          have hwr : IntKind.i64.wrap ((i - 1 : Nat) : Int) = ((i - 1 : Nat) : Int) := by rw [IntKind.wrap_i64]; omega
          have hxI : ((i - 1 : Nat) : Int) < (n : Int) := by omega
          have hxN : i - 1 < n := by omega
          have HTL := Lib.hid (take_last hd3 hq)
          have HQ9 := Lib.hid (fun (V : World) (hV : Below w9.heap.size w9 V) => show SgAt3 V b (o + (i - 1) * 6) q g x from
            sgAt3 (HSA.out.below (HB9.out.trans (hV.mono HB9.out.size)) hb2) (HQ6.out V (HB69.out.trans (hV.mono HB69.out.size))))
          have HSO := Lib.hid (fun V => show Calls Tryz.prog 43 #[.agg #[.int .i64 q.at_, .int .i64 q.kd, .string (aldT q.d), .string (alrT q.r), .string (alwT q.b), .int .i64 q.un], .agg #[.int .i64 x.at_, .int .i64 x.kd, .string (aldT x.d), .string (alrT x.r), .string (alwT x.b), .int .i64 x.un]] V _ from signalOrder_grow q x V)
          obtain ⟨r, er⟩ : ∃ r, r = sgCmp q x := ⟨_, rfl⟩
          rw [← er] at HSO
          have HRL := Lib.hid (show ¬ 0 ≤ r → SgL q x from by rw [er]; exact cmp_neg)
          go_upto_region 21 with (fail)
          clear hq hC2 er q0 q1 q2 q3 q4 q5
          go_upto_region 21 with (fail)
          refine qRegionTail 9 (by kernel_rfl) (by kernel_rfl) ?_
          simp only [List.take_succ_cons, List.take_zero, List.drop_succ_cons, List.drop_zero]
          repeat (first
            | (go_big_quiet_want; refine qVal (fun V hV => (by (obtain ⟨r0, r1, r2, r3, r4, r5, s0, s1, s2, s3, s4', s5⟩ := HQ9.out V hV; go_simp; try rfl))) ?_; simp only [Act.put, List.setIfInBounds_toArray, List.set_cons_zero, List.set_cons_succ]; go_big_quiet_on)
            | go_big_quiet_skip)
          refine wpQuiet_nil ?_
          intro w10 hb10
          have HB10 := Lib.hid (HB9.out.trans (hb10.mono HB9.out.size))
          clear hb10
          go_wp2_with (fail)
          refine (HSO.out w10).mono ?_
          rintro e w11 ⟨rfl, qn, os, rfl⟩
          have HB11 := Lib.hid (HB10.out.trans ((below_grow w10 qn os).mono HB10.out.size))
          by_cases hr0 : 0 ≤ r
          case pos =>
            go_wp2_with (fail)
            go_ret
            exact FaultP.no (by decide) HB11.out
          have HOK2 := Lib.hid (show SgsOk (l.take (i + 1)) from by
            rw [List.take_add_one, HP.out]
            exact SgsOk.snoc HOK.out HR1.out (fun q' hq' => by rw [HTL.out] at hq'; cases hq'; exact HRL.out (by omega)))
          go_wp2_with (fail)
          go_roundw
          case rel => exact ⟨i + 1, by omega, by simp, HB11.out, HOK2⟩
          case measure => simp [intOf]; omega
      case false =>
        have hb4 := HX.out.b
        by_cases hb0 : x.b = 0
        case neg =>
          obtain h | h | h : x.b = 1 ∨ x.b = 2 ∨ x.b = 3 := by omega
          · have e4 : alwT x.b = ⟨#[97, 110, 110]⟩ := by rw [h]; rfl
            rw [e4] at q4
            go_wp2_with (fail)
            go_ret
            exact FaultP.no (by decide) HB8.out
          · have e4 : alwT x.b = ⟨#[98, 111, 98]⟩ := by rw [h]; rfl
            rw [e4] at q4
            go_wp2_with (fail)
            go_ret
            exact FaultP.no (by decide) HB8.out
          · have e4 : alwT x.b = ⟨#[65]⟩ := by rw [h]; rfl
            rw [e4] at q4
            go_wp2_with (fail)
            go_ret
            exact FaultP.no (by decide) HB8.out
        have e4 : alwT x.b = ⟨#[]⟩ := by rw [hb0]; rfl
        rw [e4] at q4
        cases s4
        case true =>
          exfalso
          have h1 : x.kd = 4 := (by simpa using HS4.out)
          have h2 : ¬ 3 ≤ x.kd := (by simpa using HP3.out)
          omega
        by_cases hun : x.un = 0
        case neg =>
          have hunb : (x.un != 0) = true := by simpa using hun
          go_wp2_with (fail)
          go_ret
          exact FaultP.no (by decide) HB8.out
        have hunb : (x.un != 0) = false := by simpa using hun
        have HR1 := Lib.hid (show SgR x from ⟨HX.out.d, HX.out.r, HM.out.1, by have := HM.out; omega, HK.out, (fun h => by have h3 : ¬ 3 ≤ x.kd := (by simpa using HP3.out); omega), fun _ => hb0, (fun h => by have h4 : ¬ x.kd = 4 := (by simpa using HS4.out); exact absurd h h4), fun _ => hun⟩)
        clear hun
        by_cases hi0 : i = 0
        case pos =>
          subst hi0
          have hd : decide ((0 : Int) < 0) = false := by decide
          have HOK2 := Lib.hid (show SgsOk (l.take (0 + 1)) from by
            rw [List.take_add_one, HP.out]
            exact SgsOk.snoc HOK.out HR1.out (fun q hq => by simp at hq))
          go_wp2_with (fail)
          go_quiet (fail)
          go_wp2_with (fail)
          go_roundw
          case rel => exact ⟨1, by omega, by simp, below_drewN HB8.out _, HOK2⟩
          case measure => simp [intOf]; omega
        have hi1I : (0 : Int) < i := by omega
        have hd : decide ((0 : Int) < i) = true := by simpa using hi1I
        have hd2 : decide (0 < i) = true := by simp; omega
        have hd3 : 0 < i := by omega
        obtain ⟨q, hq⟩ : ∃ q, l[i - 1]? = some q := ⟨_, List.getElem?_eq_getElem (by have := HN.out; omega)⟩
        obtain ⟨b2, o2, e2, hb2, hC2⟩ := HR.out.posR sgC_len (by omega) (by have := HN.out; omega)
        cases e2
        have HSA := Lib.hid (sg_cells hC2 (i - 1) q hq)
        have hwrap : (i : Int) - 1 = ((i - 1 : Nat) : Int) := by omega
        have hwr : IntKind.i64.wrap ((i - 1 : Nat) : Int) = ((i - 1 : Nat) : Int) := by rw [IntKind.wrap_i64]; omega
        have hxI : ((i - 1 : Nat) : Int) < (n : Int) := by omega
        have hxN : i - 1 < n := by omega
        have HTL := Lib.hid (take_last hd3 hq)
        have HQ9 := Lib.hid (fun (V : World) (hV : Below w8.heap.size w8 V) => show SgAt3 V b (o + (i - 1) * 6) q g x from
          sgAt3 (HSA.out.below (HB8.out.trans (hV.mono HB8.out.size)) hb2) (HQ6.out V (HB68.out.trans (hV.mono HB68.out.size))))
        have HSO := Lib.hid (fun V => show Calls Tryz.prog 43 #[.agg #[.int .i64 q.at_, .int .i64 q.kd, .string (aldT q.d), .string (alrT q.r), .string (alwT q.b), .int .i64 q.un], .agg #[.int .i64 x.at_, .int .i64 x.kd, .string (aldT x.d), .string (alrT x.r), .string (alwT x.b), .int .i64 x.un]] V _ from signalOrder_grow q x V)
        obtain ⟨r, er⟩ : ∃ r, r = sgCmp q x := ⟨_, rfl⟩
        rw [← er] at HSO
        have HRL := Lib.hid (show ¬ 0 ≤ r → SgL q x from by rw [er]; exact cmp_neg)
        go_upto_region 21 with (fail)
        clear hq hC2 er e4 hb0 q0 q1 q2 q3 q4 q5
        go_upto_region 21 with (fail)
        refine qRegionTail 9 (by kernel_rfl) (by kernel_rfl) ?_
        simp only [List.take_succ_cons, List.take_zero, List.drop_succ_cons, List.drop_zero]
        repeat (first
          | (go_big_quiet_want; refine qVal (fun V hV => (by (obtain ⟨r0, r1, r2, r3, r4, r5, s0, s1, s2, s3, s4', s5⟩ := HQ9.out V hV; go_simp; try rfl))) ?_; simp only [Act.put, List.setIfInBounds_toArray, List.set_cons_zero, List.set_cons_succ]; go_big_quiet_on)
          | go_big_quiet_skip)
        refine wpQuiet_nil ?_
        intro w10 hb10
        have HB10 := Lib.hid (HB8.out.trans (hb10.mono HB8.out.size))
        clear hb10
        go_wp2_with (fail)
        refine (HSO.out w10).mono ?_
        rintro e w11 ⟨rfl, qn, os, rfl⟩
        have HB11 := Lib.hid (HB10.out.trans ((below_grow w10 qn os).mono HB10.out.size))
        by_cases hr0 : 0 ≤ r
        case pos =>
          go_wp2_with (fail)
          go_ret
          exact FaultP.no (by decide) HB11.out
        have HOK2 := Lib.hid (show SgsOk (l.take (i + 1)) from by
          rw [List.take_add_one, HP.out]
          exact SgsOk.snoc HOK.out HR1.out (fun q' hq' => by rw [HTL.out] at hq'; cases hq'; exact HRL.out (by omega)))
        go_wp2_with (fail)
        go_roundw
        case rel => exact ⟨i + 1, by omega, by simp, HB11.out, HOK2⟩
        case measure => simp [intOf]; omega
    · have hltI : ¬ (i : Int) < n := by omega
      have hin' : i = n := by omega
      subst hin'
      go_wp2_with (fail)
      go_ret
      exact ⟨0, rfl, fun _ => by have := HOK.out; rwa [← HN.out, List.take_length] at this, HB.out⟩
end Go.Proofs.YtkabcipccpbphaaGreatDoor

/- alarm.CheckSignals and nameFault of right signals: nothing is wrong. Printed by gen_SgC.py. -/
namespace Go.Proofs.YtkabcipccpbphaaGreatDoor
open Go.RowKit Go.Shelf Go.Sort

theorem key_dev (d : Nat) (w : World) : Calls Tryz.prog 67 #[.string (aldT d)] w fun e w' => e = .returned (.bool true) ∧ w = w' := by
  match d with
  | 0 => exact key_yes ⟨#[100, 97]⟩ w (by kernel_rfl)
  | 1 => exact key_yes ⟨#[100, 98]⟩ w (by kernel_rfl)
  | n + 2 => exact key_yes ⟨#[100, 103]⟩ w (by kernel_rfl)
theorem key_rule (r : Nat) (w : World) : Calls Tryz.prog 67 #[.string (alrT r)] w fun e w' => e = .returned (.bool true) ∧ w = w' := by
  match r with
  | 0 => exact key_yes ⟨#[114, 97]⟩ w (by kernel_rfl)
  | n + 1 => exact key_yes ⟨#[114, 98]⟩ w (by kernel_rfl)
theorem key_who (b : Nat) (hb : b = 1 ∨ b = 2) (w : World) : Calls Tryz.prog 67 #[.string (alwT b)] w fun e w' => e = .returned (.bool true) ∧ w = w' := by
  rcases hb with rfl | rfl
  · exact key_yes ⟨#[97, 110, 110]⟩ w (by kernel_rfl)
  · exact key_yes ⟨#[98, 111, 98]⟩ w (by kernel_rfl)
set_option maxRecDepth 100000 in
set_option maxHeartbeats 2000000 in
theorem sigFault_ok (x : Sg) (w : World) (h : SgR x) : Calls Tryz.prog 104 #[.agg #[.int .i64 x.at_, .int .i64 x.kd, .string (aldT x.d), .string (alrT x.r), .string (alwT x.b), .int .i64 x.un]] w fun e w' => e = .returned (.int .i64 0) ∧ Below w.heap.size w w' := by
  obtain ⟨at_, kd, d, r, b, un⟩ := x
  obtain ⟨hd, hr, h0, h1, hk, hw, hn, hs, hp⟩ := h
  simp only at hd hr h0 h1 hk hw hn hs hp ⊢
  have HD := Lib.hid (fun V => key_dev d V)
  have HRu := Lib.hid (fun V => key_rule r V)
  by_cases h3 : 3 ≤ kd
  · have HW := Lib.hid (fun V => key_who b (hw h3) V)
    by_cases h4 : kd = 4
    · obtain ⟨s1, s2, s3⟩ := hs h4
      subst h4
      clear hw hn hs hp hk h3
      have hwa : IntKind.i64.wrap (at_ + 1) = at_ + 1 := by rw [IntKind.wrap_i64]; omega
      have hwb : IntKind.i64.wrap (at_ + 2592000000) = at_ + 2592000000 := by rw [IntKind.wrap_i64]; omega
      have h3n : ¬ (345686400000 : Int) < un := by omega
      go_enter Tryz.func104, Tryz.ntmps104
      go_wp2_with (go_at_call 55; refine (moment_yes _ _ h0 h1).mono ?_; rintro e w' ⟨rfl, rfl⟩)
      refine (HD.out _).mono ?_
      rintro e w1 ⟨rfl, rfl⟩
      go_wp2_with (fail)
      refine (HRu.out _).mono ?_
      rintro e w1 ⟨rfl, rfl⟩
      go_wp2_with (go_at_call 29; refine (out_no _ _ _ _ (by omega) (by omega)).mono ?_; rintro e w' ⟨rfl, rfl⟩)
      refine (HW.out _).mono ?_
      rintro e w1 ⟨rfl, rfl⟩
      go_wp2_with (go_at_call 29; refine (out_no _ _ _ _ (by omega) (by omega)).mono ?_; rintro e w' ⟨rfl, rfl⟩)
      go_ret
      exact ⟨rfl, (Below.refl _ _).alloc (Nat.le_refl _) _⟩
    · have hun := hp h4
      subst hun
      have h4b : (kd == 4) = false := by simpa using h4
      clear hw hn hs hp h4
      go_enter Tryz.func104, Tryz.ntmps104
      go_wp2_with (go_at_call 55; refine (moment_yes _ _ h0 h1).mono ?_; rintro e w' ⟨rfl, rfl⟩)
      refine (HD.out _).mono ?_
      rintro e w1 ⟨rfl, rfl⟩
      go_wp2_with (fail)
      refine (HRu.out _).mono ?_
      rintro e w1 ⟨rfl, rfl⟩
      go_wp2_with (go_at_call 29; refine (out_no _ _ _ _ hk.1 hk.2).mono ?_; rintro e w' ⟨rfl, rfl⟩)
      refine (HW.out _).mono ?_
      rintro e w1 ⟨rfl, rfl⟩
      go_wp2_with (fail)
      go_ret
      exact ⟨rfl, (Below.refl _ _).alloc (Nat.le_refl _) _⟩
  · have hb := hn (by omega)
    subst hb
    have h4 : ¬ kd = 4 := by omega
    have hun := hp h4
    subst hun
    have h4b : (kd == 4) = false := by simpa using h4
    clear hw hn hs hp h4
    simp only [alwT]
    go_enter Tryz.func104, Tryz.ntmps104
    go_wp2_with (go_at_call 55; refine (moment_yes _ _ h0 h1).mono ?_; rintro e w' ⟨rfl, rfl⟩)
    refine (HD.out _).mono ?_
    rintro e w1 ⟨rfl, rfl⟩
    go_wp2_with (fail)
    refine (HRu.out _).mono ?_
    rintro e w1 ⟨rfl, rfl⟩
    go_wp2_with (go_at_call 29; refine (out_no _ _ _ _ hk.1 hk.2).mono ?_; rintro e w' ⟨rfl, rfl⟩)
    go_ret
    exact ⟨rfl, (Below.refl _ _).alloc (Nat.le_refl _) _⟩

theorem pair_get {l : List Sg} (h : l.Pairwise SgL) {i k : Nat} {x y : Sg} (hi : l[i]? = some x) (hk : l[k]? = some y) (hik : i < k) : SgL x y := by
  obtain ⟨h1, rfl⟩ := List.getElem?_eq_some_iff.1 hi
  obtain ⟨h2, rfl⟩ := List.getElem?_eq_some_iff.1 hk
  exact (List.pairwise_iff_getElem.1 h) i k h1 h2 hik
set_option maxRecDepth 100000 in
set_option maxHeartbeats 4000000 in
theorem checkSignals_any (l : List Sg) (n c : Nat) (A : Option Addr) (w : World) (hl : SgsOk l) (hn : l.length = n) (hn2 : n ≤ 1000) (hr : Row w w.heap.size A (recs sgC l)) :
    Calls Tryz.prog 57 #[.slice A n c] w fun e w' => e = .returned (.int .i64 0) ∧ Below w.heap.size w w' := by
  have HR := Lib.hid hr
  have HL := Lib.hid hl
  have HN := Lib.hid hn
  have hnI2 : ¬ (5000 : Int) < n := by omega
  clear hr hl hn
  go_enter Tryz.func57, Tryz.ntmps57
  go_wp2_with (fail)
  go_loopw [11] (fun s wr => ∃ (i : Nat), i ≤ n ∧ s = .int .i64 (i : Int) ∧ Below w.heap.size w wr) (fun s _ => n - (intOf s).toNat)
  case atStart => exact ⟨0, by omega, rfl, Below.refl _ _⟩
  case round =>
    obtain ⟨i, hin, rfl, hbr⟩ := hrel
    have hbs := hbr.size
    have HB := Lib.hid hbr
    clear hbr
    by_cases hlt : i < n
    · have hltI : (i : Int) < n := by omega
      obtain ⟨x, hx⟩ : ∃ x, l[i]? = some x := ⟨_, List.getElem?_eq_getElem (by have := HN.out; omega)⟩
      obtain ⟨b, o, rfl, hb, hC⟩ := (HR.out.below HB.out).posR sgC_len (by omega) (by have := HN.out; omega)
      have HSF := Lib.hid (fun V => sigFault_ok x V (HL.out.1 x (List.mem_of_getElem? hx)))
      obtain ⟨c0, c1, c2, c3, c4, c5⟩ := sg_cells hC i x hx
      have HP := Lib.hid hx
      have hb' : b < wr.heap.size := by omega
      clear hx hC
      go_upto_region 6 with (fail)
      obtain ⟨g, eg⟩ : ∃ g, g = wr.heap.size := ⟨_, rfl⟩
      obtain ⟨w5, e5⟩ : ∃ w5, w5 = wr.alloc (.cells #[.int .i64 x.at_, .int .i64 x.kd, .string (aldT x.d), .string (alrT x.r), .string (alwT x.b), .int .i64 x.un] 47) := ⟨_, rfl⟩
      rw [← eg, ← e5]
      have hg5 : w5.heap[g]? = some (sgBk x) := by rw [e5, eg]; exact heap_new wr _
      have HB5 := Lib.hid (show Below w.heap.size w w5 from by rw [e5]; exact HB.out.alloc hbs _)
      have hlt5 : g < w5.heap.size := by rw [e5, eg]; simp
      have hbs5 := HB5.out.size
      have HQ := Lib.hid (fun (V : World) (hV : Below w5.heap.size w5 V) => show SgB V g x from sg_blk ((hV.block g hlt5).trans hg5))
      obtain ⟨q0, q1, q2, q3, q4, q5⟩ := sg_blk hg5
      clear eg e5 hg5 c0 c1 c2 c3 c4 c5
      go_wp2_with (fail)
      refine (HSF.out _).mono ?_
      rintro e w6 ⟨rfl, hb6⟩
      have hs6 := hb6.size
      have HB6 := Lib.hid (HB5.out.trans (hb6.mono hbs5))
      have HB56 := Lib.hid hb6
      clear hb6 q0 q1 q2 q3 q4 q5
      by_cases hi0 : i = 0
      case pos =>
        subst hi0
        have hd : decide ((0 : Int) < 0) = false := by decide
        obtain ⟨q0, q1, q2, q3, q4, q5⟩ := HQ.out w6 HB56.out
        go_wp2_with (fail)
        go_quiet (fail)
        go_wp2_with (fail)
        go_roundw
        case rel => exact ⟨1, by omega, by simp, below_drewN HB6.out _⟩
        case measure => simp [intOf]; omega
      have hi1I : (0 : Int) < i := by omega
      have hd : decide ((0 : Int) < i) = true := by simpa using hi1I
      have hd2 : decide (0 < i) = true := by simp; omega
      have hd3 : 0 < i := by omega
      obtain ⟨q, hq⟩ : ∃ q, l[i - 1]? = some q := ⟨_, List.getElem?_eq_getElem (by have := HN.out; omega)⟩
      obtain ⟨b2, o2, e2, hb2, hC2⟩ := HR.out.posR sgC_len (by omega) (by have := HN.out; omega)
      cases e2
      have HSA := Lib.hid (sg_cells hC2 (i - 1) q hq)
      have hwrap : (i : Int) - 1 = ((i - 1 : Nat) : Int) := by omega
      have hwr : IntKind.i64.wrap ((i - 1 : Nat) : Int) = ((i - 1 : Nat) : Int) := by rw [IntKind.wrap_i64]; omega
      have hxI : ((i - 1 : Nat) : Int) < (n : Int) := by omega
      have hxN : i - 1 < n := by omega
      have HQ9 := Lib.hid (fun (V : World) (hV : Below w6.heap.size w6 V) => show SgAt3 V b (o + (i - 1) * 6) q g x from
        sgAt3 (HSA.out.below (HB6.out.trans (hV.mono HB6.out.size)) hb2) (HQ.out V (HB56.out.trans (hV.mono HB56.out.size))))
      have HSO := Lib.hid (fun V => show Calls Tryz.prog 105 #[.agg #[.int .i64 x.at_, .int .i64 x.kd, .string (aldT x.d), .string (alrT x.r), .string (alwT x.b), .int .i64 x.un], .agg #[.int .i64 q.at_, .int .i64 q.kd, .string (aldT q.d), .string (alrT q.r), .string (alwT q.b), .int .i64 q.un]] V _ from byMoment_grow x q V)
      have hr0 : 0 < sgCmp x q := (sgCmp_gt x q).2 (pair_get HL.out.2 hq HP.out (by omega))
      obtain ⟨r, er⟩ : ∃ r, r = sgCmp x q := ⟨_, rfl⟩
      rw [← er] at HSO hr0
      have hr1 : ¬ r ≤ 0 := by omega
      clear hq hC2 er
      go_upto_region 9 with (fail)
      go_upto_region 9 with (fail)
      refine qRegionTail 9 (by kernel_rfl) (by kernel_rfl) ?_
      simp only [List.take_succ_cons, List.take_zero, List.drop_succ_cons, List.drop_zero]
      repeat (first
        | (go_big_quiet_want; refine qVal (fun V hV => (by (obtain ⟨r0, r1, r2, r3, r4, r5, s0, s1, s2, s3, s4', s5⟩ := HQ9.out V hV; go_simp; try rfl))) ?_; simp only [Act.put, List.setIfInBounds_toArray, List.set_cons_zero, List.set_cons_succ]; go_big_quiet_on)
        | go_big_quiet_skip)
      refine wpQuiet_nil ?_
      intro w10 hb10
      have HB10 := Lib.hid (HB6.out.trans (hb10.mono HB6.out.size))
      clear hb10
      go_wp2_with (fail)
      refine (HSO.out w10).mono ?_
      rintro e w11 ⟨rfl, qn, os, rfl⟩
      have HB11 := Lib.hid (HB10.out.trans ((below_grow w10 qn os).mono HB10.out.size))
      go_wp2_with (fail)
      go_roundw
      case rel => exact ⟨i + 1, by omega, by simp, HB11.out⟩
      case measure => simp [intOf]; omega
    · have hltI : ¬ (i : Int) < n := by omega
      have hin' : i = n := by omega
      subst hin'
      go_wp2_with (fail)
      go_ret
      exact ⟨rfl, HB.out⟩
theorem nameFault_any (l : List Sg) (n c d r : Nat) (A : Option Addr) (w : World) (hl : SgsOk l) (hn : l.length = n) (hn2 : n ≤ 1000) (hr : Row w w.heap.size A (recs sgC l)) :
    Calls Tryz.prog 51 #[.slice A n c, .string (aldT d), .string (alrT r)] w fun e w' => e = .returned (.int .i64 0) ∧ Below w.heap.size w w' := by
  have HC := Lib.hid (checkSignals_any l n c A w hl hn hn2 hr)
  have HD := Lib.hid (fun V => key_dev d V)
  have HRu := Lib.hid (fun V => key_rule r V)
  clear hl hn hr
  go_enter Tryz.func51, Tryz.ntmps51
  go_wp2_with (fail)
  refine HC.out.mono ?_
  rintro e w1 ⟨rfl, hb1⟩
  have HB := Lib.hid hb1
  clear hb1
  go_wp2_with (fail)
  refine (HD.out _).mono ?_
  rintro e w1 ⟨rfl, rfl⟩
  go_wp2_with (fail)
  refine (HRu.out _).mono ?_
  rintro e w1 ⟨rfl, rfl⟩
  go_wp2_with (fail)
  go_ret
  exact ⟨rfl, HB.out⟩
end Go.Proofs.YtkabcipccpbphaaGreatDoor

/- alarm.AlarmOf by its contract. -/
namespace Go.Proofs.YtkabcipccpbphaaGreatDoor
open Go.RowKit Go.Shelf

theorem SgR.v {s : Sg} (h : SgR s) : SgV s := ⟨⟨h.d, h.r⟩, h.kd, h.at0, h.at1⟩
theorem lifeAt_none {l : List Sg} {t : Int} {n : Nm2} (h : n ∉ namesOf l) : lifeAt l t n = newL n.1 n.2 := by
  have h' : ∀ s ∈ l, (s.d, s.r) ≠ n := fun s hs e => h ((mem_namesOf l n).2 ⟨s, hs, e⟩)
  clear h
  have key : ∀ (l : List Sg) (L : Lf), (∀ s ∈ l, (s.d, s.r) ≠ n) → l.foldl (lifeStep t n) L = L := by
    intro l
    induction l with
    | nil => intro L _; rfl
    | cons s l ih =>
      intro L hl
      rw [List.foldl_cons]
      have : lifeStep t n L s = L := by unfold lifeStep; rw [if_neg (fun e => hl s List.mem_cons_self e.1)]
      rw [this]
      exact ih L fun q hq => hl q (List.mem_cons_of_mem _ hq)
  exact key l _ h'
theorem lifeAt_name (l : List Sg) (t : Int) (n : Nm2) : (lifeAt l t n).d = n.1 ∧ (lifeAt l t n).r = n.2 := by
  have key : ∀ (l : List Sg) (L : Lf), (l.foldl (lifeStep t n) L).d = L.d ∧ (l.foldl (lifeStep t n) L).r = L.r := by
    intro l
    induction l with
    | nil => intro L; exact ⟨rfl, rfl⟩
    | cons s l ih =>
      intro L
      rw [List.foldl_cons]
      obtain ⟨h1, h2⟩ := ih (lifeStep t n L s)
      have : (lifeStep t n L s).d = L.d ∧ (lifeStep t n L s).r = L.r := by
        unfold lifeStep
        split
        · exact follow_name L s
        · exact ⟨rfl, rfl⟩
      exact ⟨h1.trans this.1, h2.trans this.2⟩
  exact key l _
/-- What a house says of a name. -/
theorem house_look {w' : World} {B hs m : Nat} {o : List Nat} {M : List Mb} {l : List Sg} {F : Nm2 → Lf} (hI : HsI w' B hs m o M) (hnm : M.map (·.n) = namesOf l) (hL : ∀ y ∈ M, y.L = F y.n) (d r : Nat) (hn : NmOk (d, r)) :
    w'.cell? ⟨hs, 0, none⟩ = some (.map (some m)) ∧
    ((∃ x v, (Instr.lookup 109 (.map (some m)) (.agg #[.string (aldT d), .string (alrT r)]) false).run Tryz.prog w' = .ok (.pointer (some ⟨x, 0, none⟩)) w' ∧ LfI w' x (F (d, r)) v) ∨
      ((Instr.lookup 109 (.map (some m)) (.agg #[.string (aldT d), .string (alrT r)]) false).run Tryz.prog w' = .ok (.pointer none) w' ∧ (d, r) ∉ namesOf l)) := by
  obtain ⟨A, c, hb, _⟩ := hI.blk
  refine ⟨cell_of_blk (j := 0) hb rfl, ?_⟩
  have hlk := lookup_names hn (w := w') (m := m) (l := mbE M) (fun p hp => by
    simp only [mbE, List.mem_map] at hp
    obtain ⟨z, hz, rfl⟩ := hp
    exact (hI.each z hz).2.1) (by have := hI.map; simpa [mbE] using this)
  cases h : lkN (mbE M) (d, r) with
  | some x =>
    left
    obtain ⟨P, y, S, hM, h1, h2, h3⟩ := lkN_split h
    have hy : y ∈ M := by rw [hM]; simp
    rw [h] at hlk
    refine ⟨x, y.v, hlk, ?_⟩
    have := (hI.each y hy).1
    rw [hL y hy, h1, h2] at this
    exact this
  | none =>
    right
    rw [h] at hlk
    exact ⟨hlk, by rw [← hnm]; exact lkN_none.1 h⟩
def AlOfP (w : World) (a : Am) (e : Ending) (w' : World) : Prop := e = .returned (.tuple #[.agg #[.string (aldT a.d), .string (alrT a.r), .int .i64 a.st, .int .i64 a.si, .int .i64 a.n, .int .i64 a.sh], .int .i64 0]) ∧ Below w.heap.size w w'
set_option maxRecDepth 100000 in
set_option maxHeartbeats 2000000 in
theorem alarmOf_any (l : List Sg) (n c d r : Nat) (t : Int) (A : Option Addr) (w : World) (hl : SgsOk l) (hn : l.length = n) (hn2 : n ≤ 1000) (hr : Row w w.heap.size A (recs sgC l)) (hd : NmOk (d, r)) (ht0 : 0 ≤ t) (ht1 : t < 345686400000) :
    Calls Tryz.prog 18 #[.slice A n c, .string (aldT d), .string (alrT r), .int .i64 t] w fun e w' => AlOfP w (viewL (lifeAt l t (d, r)) t) e w' := by
  have hba : Below w.heap.size w (w.alloc (.cells #[.string ⟨#[]⟩, .string ⟨#[]⟩, .int .i64 0, .int .i64 0, .int .i64 0, .int .i64 0] 50)) := (Below.refl _ _).alloc (Nat.le_refl _) _
  have hnw := heap_new w (.cells #[.string ⟨#[]⟩, .string ⟨#[]⟩, .int .i64 0, .int .i64 0, .int .i64 0, .int .i64 0] 50)
  have hz : w.heap.size < (w.alloc (.cells #[.string ⟨#[]⟩, .string ⟨#[]⟩, .int .i64 0, .int .i64 0, .int .i64 0, .int .i64 0] 50)).heap.size := by simp
  have HRW := Lib.hid (fun (V : World) (hV : Below w.heap.size w V) => show Row V V.heap.size A (recs sgC l) from (hr.below hV).mono hV.size)
  have HN := Lib.hid (nameFault_any l n c d r A _ hl hn hn2 (HRW.out _ hba))
  have HA := Lib.hid (fun V hV => at_any l n c t A V hn (by omega) (HRW.out V hV) (fun s hs => (hl.1 s hs).v))
  have HK := Lib.hid (And.intro hba (And.intro hnw hz))
  have HNM := Lib.hid hd
  have HT := Lib.hid (And.intro ht0 ht1)
  obtain ⟨⟨ad, ar, a1, a2, a3, a4⟩, ha⟩ : ∃ a, a = viewL (lifeAt l t (d, r)) t := ⟨_, rfl⟩
  rw [← ha]
  have HAV := Lib.hid ha
  unfold AlOfP
  simp only
  clear ha
  clear hba hnw hz hl hn hr hd ht0 ht1
  go_enter Tryz.func18, Tryz.ntmps18
  go_wp2_with (fail)
  refine HN.out.mono ?_
  rintro e w1 ⟨rfl, hB1⟩
  have HB1 := Lib.hid (HK.out.1.trans (hB1.mono HK.out.1.size))
  have HN1 := Lib.hid ((hB1.block w.heap.size HK.out.2.2).trans HK.out.2.1)
  have hs1 := hB1.size
  have hlt1 : w.heap.size < w1.heap.size := Nat.lt_of_lt_of_le HK.out.2.2 hs1
  clear hB1 hs1
  go_wp2_with (go_at_call 55; refine (moment_yes _ _ HT.out.1 HT.out.2).mono ?_; rintro e w' ⟨rfl, rfl⟩)
  refine (HA.out w1 HB1.out).mono ?_
  rintro e w2 ⟨hs, m, o, M, rfl, hI, hord, hnm, hL, hB2⟩
  have hlook := house_look hI hnm hL d r HNM.out
  obtain ⟨hc, hlook⟩ := hlook
  have hs2 := hB2.size
  have HB2 := Lib.hid (HB1.out.trans (hB2.mono HB1.out.size))
  have HN2 := Lib.hid ((hB2.block w.heap.size hlt1).trans HN1.out)
  have hlt2 : w.heap.size < w2.heap.size := by omega
  clear hI hord hnm hL hB2
  generalize hgg : w.heap.size = g at hlt2 hlt1 ⊢
  have HGG := Lib.hid hgg
  rcases hlook with ⟨x, v, hl, hX⟩ | ⟨hl, hno⟩
  · have HV := Lib.hid (view_any x t _ v w2 hX)
    unfold ViewPost at HV
    rw [← HAV.out] at HV
    unfold amC at HV
    simp only at HV
    clear hX hgg
    go_wp2_with (fail)
    refine HV.out.mono ?_
    rintro e w3 ⟨rfl, hB3⟩
    have hn3 := (hB3.block g hlt2).trans (HGG.out ▸ HN2.out)
    have hs3 := hB3.size
    have HB3 := Lib.hid (show Below w.heap.size w w3 from HB2.out.trans (hB3.mono HB2.out.size))
    have hlt3 : g < w3.heap.size := by omega
    have HN3 := Lib.hid hn3
    clear hB3 hn3 hl hc
    go_upto_region 10 with (fail)
    have hbv : Below w3.heap.size w3 (w3.alloc (.cells #[.string (aldT ad), .string (alrT ar), .int .i64 a1, .int .i64 a2, .int .i64 a3, .int .i64 a4] 50)) := (Below.refl _ _).alloc (Nat.le_refl _) _
    have hnv := heap_new w3 (.cells #[.string (aldT ad), .string (alrT ar), .int .i64 a1, .int .i64 a2, .int .i64 a3, .int .i64 a4] 50)
    generalize w3.alloc (.cells #[.string (aldT ad), .string (alrT ar), .int .i64 a1, .int .i64 a2, .int .i64 a3, .int .i64 a4] 50) = V at hbv hnv ⊢
    have hgv := (hbv.block g hlt3).trans HN3.out
    have HWV := Lib.hid (show Below w.heap.size w V from HB3.out.trans (hbv.mono HB3.out.size))
    have hne : g ≠ w3.heap.size := by omega
    generalize w3.heap.size = k at hnv hne ⊢
    obtain ⟨p0, p1, p2, p3, p4, p5⟩ := box6 hnv
    obtain ⟨q0, q1, q2, q3, q4, q5⟩ := box6 hgv
    have z0 := frz hgv 0
    have z1 := frz hgv 1
    have z2 := frz hgv 2
    have z3 := frz hgv 3
    have z4 := frz hgv 4
    have z5 := frz hgv 5
    have HV3 := Lib.hid hgv
    clear hbv hgv hnv hlt3
    go_wp2_with (fail)
    have HX := six_set (.string (aldT ad)) (.string (alrT ar)) (.int .i64 a1) (.int .i64 a2) (.int .i64 a3) (.int .i64 a4) HWV.out (Nat.le_of_eq HGG.out) HV3.out
    obtain ⟨HBX, HX⟩ := HX
    generalize ((((((V.setCell ⟨g, 0, none⟩ (.string (aldT ad))).setCell ⟨g, 1, none⟩ (.string (alrT ar))).setCell ⟨g, 2, none⟩ (.int .i64 a1)).setCell ⟨g, 3, none⟩ (.int .i64 a2)).setCell ⟨g, 4, none⟩ (.int .i64 a3)).setCell ⟨g, 5, none⟩ (.int .i64 a4)) = U at HX HBX ⊢
    clear q0 q1 q2 q3 q4 q5 p0 p1 p2 p3 p4 p5
    obtain ⟨q0, q1, q2, q3, q4, q5⟩ := box6 HX
    exact bodyPost_ret (v := .tuple #[.agg #[.string (aldT ad), .string (alrT ar), .int .i64 a1, .int .i64 a2, .int .i64 a3, .int .i64 a4], .int .i64 0]) (by simp [results, Tryz.results18, go_sem, q0, q1, q2, q3, q4, q5]) rfl ⟨rfl, HBX⟩
  · have hav : (⟨ad, ar, a1, a2, a3, a4⟩ : Am) = ⟨d, r, 0, 0, 0, 0⟩ := by
      rw [HAV.out, lifeAt_none hno]
      unfold viewL newL
      simp only [List.length_nil]
      rw [if_neg (by have := HT.out.1; omega)]
      rfl
    have HAV2 := Lib.hid (Am.mk.inj hav)
    have hgv := HGG.out ▸ HN2.out
    obtain ⟨q0, q1, q2, q3, q4, q5⟩ := box6 hgv
    have z0 := frz hgv 0
    have z1 := frz hgv 1
    have z2 := frz hgv 2
    have z3 := frz hgv 3
    have z4 := frz hgv 4
    have z5 := frz hgv 5
    have HV3 := Lib.hid hgv
    clear hav hno hgv hgg
    go_wp2_with (fail)
    have HX := six_set (.string (aldT d)) (.string (alrT r)) (.int .i64 0) (.int .i64 0) (.int .i64 0) (.int .i64 0) HB2.out (Nat.le_of_eq HGG.out) HV3.out
    obtain ⟨HBX, HX⟩ := HX
    generalize ((((((w2.setCell ⟨g, 0, none⟩ (.string (aldT d))).setCell ⟨g, 1, none⟩ (.string (alrT r))).setCell ⟨g, 2, none⟩ (.int .i64 0)).setCell ⟨g, 3, none⟩ (.int .i64 0)).setCell ⟨g, 4, none⟩ (.int .i64 0)).setCell ⟨g, 5, none⟩ (.int .i64 0)) = U at HX HBX ⊢
    clear q0 q1 q2 q3 q4 q5
    obtain ⟨q0, q1, q2, q3, q4, q5⟩ := box6 HX
    exact bodyPost_ret (v := .tuple #[.agg #[.string (aldT d), .string (alrT r), .int .i64 0, .int .i64 0, .int .i64 0, .int .i64 0], .int .i64 0]) (by simp [results, Tryz.results18, go_sem, q0, q1, q2, q3, q4, q5]) rfl ⟨by obtain ⟨e1, e2, e3, e4, e5, e6⟩ := HAV2.out; rw [e1, e2, e3, e4, e5, e6], HBX⟩
end Go.Proofs.YtkabcipccpbphaaGreatDoor

/- alarm.lasting by its contract: the windows that have a moment. -/
namespace Go.Proofs.YtkabcipccpbphaaGreatDoor
open Go.RowKit

theorem alW_one (x : Int × Int) : ∀ u ∈ alW x, u.oneCell' = true := by
  intro u hu
  simp only [alW, List.mem_cons, List.not_mem_nil, or_false] at hu
  rcases hu with rfl | rfl <;> rfl
def lsts (x : Int × Int) : Bool := decide (x.1 < x.2)
theorem last1_any (x : Int × Int) (w : World) : Calls Tryz.prog 103 #[.agg #[.int .i64 x.1, .int .i64 x.2]] w fun e w' => e = .returned (.bool (!lsts x)) ∧ Below w.heap.size w w' := by
  obtain ⟨a, b⟩ := x
  unfold lsts
  simp only
  by_cases h : b ≤ a
  · rw [decide_eq_false (show ¬ a < b by omega)]
    go_enter Tryz.func103, Tryz.ntmps103
    go_wp2_with (fail)
    go_ret
    exact ⟨by simp, (Below.refl _ _).alloc (Nat.le_refl _) _⟩
  · rw [decide_eq_true (show a < b by omega)]
    go_enter Tryz.func103, Tryz.ntmps103
    go_wp2_with (fail)
    go_ret
    exact ⟨by simp, (Below.refl _ _).alloc (Nat.le_refl _) _⟩
theorem win_cells {w : World} {b o : Nat} {l : List (Int × Int)} (h : Cells w b o (recs alW l)) (i : Nat) (x : Int × Int) (hx : l[i]? = some x) : w.cell? ⟨b, o + i * 2, none⟩ = some (.int .i64 x.1) ∧ w.cell? ⟨b, o + i * 2 + 1, none⟩ = some (.int .i64 x.2) :=
  ⟨rec_cell alW_len h i x hx 0 _ rfl, rec_cell alW_len h i x hx 1 _ rfl⟩
/-- The first window that has no moment; -1: each has one. -/
def IdxW (L : List (Int × Int)) (z : Int) : Prop := (z = -1 ∧ ∀ x ∈ L, lsts x = true) ∨ ∃ k : Nat, k < L.length ∧ z = (k : Int) ∧ (∀ x ∈ L.take k, lsts x = true) ∧ ∀ x, L[k]? = some x → lsts x = false
set_option maxRecDepth 100000 in
set_option maxHeartbeats 1000000 in
theorem indexW_any (L : List (Int × Int)) (n c : Nat) (A : Option Addr) (w : World) (hn : L.length = n) (hn2 : n ≤ 100000) (hr : Row w w.heap.size A (recs alW L)) :
    Calls Tryz.prog 146 #[.slice A n c, .func (.func 103) #[] #[]] w fun e w' => ∃ z : Int, e = .returned (.int .i64 z) ∧ IdxW L z ∧ Below w.heap.size w w' := by
  have HR := Lib.hid hr
  have HN := Lib.hid hn
  clear hr hn
  go_enter Tryz.func146, Tryz.ntmps146
  go_wp2_with (fail)
  go_loopw [8] (fun s wr => ∃ (i : Nat), i ≤ n ∧ s = .int .i64 (i : Int) ∧ Below w.heap.size w wr ∧ Hid (∀ x ∈ L.take i, lsts x = true)) (fun s _ => n - (intOf s).toNat)
  case atStart => exact ⟨0, by omega, rfl, Below.refl _ _, Lib.hid (by simp)⟩
  case round =>
    obtain ⟨i, hin, rfl, hbr, HK⟩ := hrel
    have hbs := hbr.size
    have HB := Lib.hid hbr
    clear hbr
    by_cases hlt : i < n
    · have hltI : (i : Int) < n := by omega
      obtain ⟨x, hx⟩ : ∃ x, L[i]? = some x := ⟨_, List.getElem?_eq_getElem (by have := HN.out; omega)⟩
      obtain ⟨b, o, rfl, hb, hC⟩ := (HR.out.below HB.out).posR alW_len (by omega) (by have := HN.out; omega)
      obtain ⟨c0, c1⟩ := win_cells hC i x hx
      have HX := Lib.hid hx
      have hb' : b < wr.heap.size := by omega
      clear hx hC
      go_wp2_with (fail)
      refine (last1_any x _).mono ?_
      obtain ⟨t, et⟩ : ∃ t, t = lsts x := ⟨_, rfl⟩
      rw [← et]
      have HE := Lib.hid et
      clear et
      rintro e w2 ⟨rfl, hb2⟩
      have HB2 := Lib.hid (HB.out.trans (hb2.mono hbs))
      clear hb2
      cases t
      case true =>
        have HK2 := Lib.hid (show ∀ y ∈ L.take (i + 1), lsts y = true from by
          rw [List.take_add_one, HX.out]
          intro y hy
          rw [List.mem_append] at hy
          rcases hy with hy | hy
          · exact HK.out y hy
          · simp at hy; rw [hy]; exact HE.out.symm)
        go_wp2_with (fail)
        go_roundw
        case rel => exact ⟨i + 1, by omega, by simp, HB2.out, HK2⟩
        case measure => simp [intOf]; omega
      case false =>
        go_wp2_with (fail)
        go_ret
        exact ⟨(i : Int), rfl, .inr ⟨i, by rw [HN.out]; exact hlt, rfl, HK.out, fun y hy => by rw [HX.out] at hy; cases hy; exact HE.out.symm⟩, HB2.out⟩
    · have hltI : ¬ (i : Int) < n := by omega
      have hin' : i = n := by omega
      subst hin'
      go_wp2_with (fail)
      go_ret
      exact ⟨-1, rfl, .inl ⟨rfl, by have := HK.out; rwa [← HN.out, List.take_length] at this⟩, HB.out⟩
theorem win_store {W : World} {base g n cap : Nat} {L : List (Int × Int)} (h : W.ownsRow base 44 2 (.slice (some ⟨g, 0, none⟩) n cap) n (recs alW L)) (hL : L.length = n) (i : Nat) (hi : i < n) (x : Int × Int) :
    ((W.setCell ⟨g, i * 2, none⟩ (.int .i64 x.1)).setCell ⟨g, i * 2 + 1, none⟩ (.int .i64 x.2)).ownsRow base 44 2 (.slice (some ⟨g, 0, none⟩) n cap) n (recs alW (L.set i x)) ∧
    W.grownBy ((W.setCell ⟨g, i * 2, none⟩ (.int .i64 x.1)).setCell ⟨g, i * 2 + 1, none⟩ (.int .i64 x.2)) (some g) := by
  have h2 := own_setCells (alW x) (i * 2) W (recs alW L) h (by rw [recs_length alW_len, alW_len, hL]; omega)
  rw [recs_set alW_len L i x (by omega)] at h2
  exact h2
theorem filter_take_snoc {α : Type} {p : α → Bool} {L : List α} {j : Nat} {x : α} (hx : L[j]? = some x) : (L.take (j + 1)).filter p = (L.take j).filter p ++ (if p x then [x] else []) := by
  rw [List.take_add_one, hx, List.filter_append]
  cases h : p x <;> simp [h]
def DelP (L : List (Int × Int)) (base c : Nat) (A : Option Addr) (w : World) (e : Ending) (w' : World) : Prop :=
  e = .returned (.slice A (L.filter lsts).length c) ∧ w'.ownsRow base 44 2 (.slice A (L.filter lsts).length c) (L.filter lsts).length (recs alW (L.filter lsts)) ∧ w.grownBy w' (Value.slice A L.length c).ownBlock
set_option maxRecDepth 100000 in
set_option maxHeartbeats 4000000 in
theorem deleteW_any (L : List (Int × Int)) (n c base : Nat) (A : Option Addr) (w : World) (hn : L.length = n) (hn2 : n ≤ 100000) (ho : w.ownsRow base 44 2 (.slice A n c) n (recs alW L)) :
    Calls Tryz.prog 101 #[.slice A n c, .func (.func 103) #[] #[]] w fun e w' => DelP L base c A w e w' := by
  have hcap := own_cap ho
  have HL := Lib.hid hn
  have HO := Lib.hid ho
  have HI := Lib.hid (indexW_any L n c A w hn hn2 (by
    rcases own_two ho with ⟨rfl, h0, _⟩ | ⟨g, rfl, _, hlt⟩
    · have : L = [] := List.eq_nil_of_length_eq_zero (by omega)
      subst this
      exact .inl rfl
    · exact .inr ⟨g, 0, rfl, hlt, own_cells0 ho⟩))
  clear ho hn
  go_enter Tryz.func101, Tryz.ntmps101
  go_wp2_with (fail)
  refine HI.out.mono ?_
  rintro e w1 ⟨z, rfl, hz, hb1⟩
  have hs1 := hb1.size
  have HB1 := Lib.hid hb1
  have HO1 := Lib.hid (own_belowP HO.out hb1)
  clear hb1
  rcases hz with ⟨rfl, hall⟩ | ⟨k, hk, rfl, hpre, hkx⟩
  · have hf : L.filter lsts = L := List.filter_eq_self.2 hall
    have HF := Lib.hid (show DelP L base c A w (.returned (.slice A n c)) w1 from by
      unfold DelP
      rw [hf, HL.out]
      exact ⟨rfl, HO1.out, grown_belowP HB1.out⟩)
    clear hf hall
    go_wp2_with (fail)
    go_ret
    exact HF.out
  · have hkn : k < n := by rw [← HL.out]; exact hk
    obtain ⟨g, rfl, hbg, hlt⟩ : ∃ g, A = some ⟨g, 0, none⟩ ∧ base ≤ g ∧ g < w1.heap.size := by
      rcases own_two HO1.out with ⟨_, h0, _⟩ | ⟨g, h1, h2, h3⟩
      · omega
      · exact ⟨g, h1, h2, h3⟩
    have HPK := Lib.hid (show (L.take (k + 1)).filter lsts = L.take k from by
      obtain ⟨x, hx⟩ : ∃ x, L[k]? = some x := ⟨_, List.getElem?_eq_getElem hk⟩
      rw [filter_take_snoc hx, hkx x hx]
      simp only [Bool.false_eq_true, if_false, List.append_nil]
      exact List.filter_eq_self.2 hpre)
    have hkne : ¬ (k : Int) = -1 := by omega
    have hkb : ((k : Int) == -1) = false := by simp
    have hkw : IntKind.i64.wrap ((k : Int) + 1) = (k : Int) + 1 := by rw [IntKind.wrap_i64]; omega
    clear hpre hkx hk
    go_wp2_with (fail)
    go_loopw [5, 6] (fun s t wx => ∃ (j : Nat), j ≤ n ∧ k < j ∧ t = .int .i64 (j : Int) ∧ s = .int .i64 (((L.take j).filter lsts).length : Int) ∧ ((L.take j).filter lsts).length < j ∧ wx.ownsRow base 44 2 (.slice (some ⟨g, 0, none⟩) n c) n (recs alW (csR L ((L.take j).filter lsts))) ∧ w.grownBy wx (some g)) (fun _ t _ => n - (intOf t).toNat)
    case atStart =>
      have htk : (L.take k).length = k := by rw [List.length_take]; have := HL.out; omega
      refine ⟨k + 1, by omega, by omega, by simp, by rw [HPK.out, htk], by rw [HPK.out, htk]; omega, ?_, grown_belowP HB1.out⟩
      rw [HPK.out, csR_take L k (by have := HL.out; omega)]
      exact HO1.out
    case round =>
      obtain ⟨j, hjn, hkj, rfl, rfl, hpl, hown, hgr⟩ := hrel
      have HOW := Lib.hid hown
      have HGR := Lib.hid hgr
      have hgs := hgr.size
      obtain ⟨P, eP⟩ : ∃ P, P = (L.take j).filter lsts := ⟨_, rfl⟩
      rw [← eP] at hpl HOW ⊢
      obtain ⟨pl, epl⟩ : ∃ pl, pl = P.length := ⟨_, rfl⟩
      rw [← epl] at hpl ⊢
      have HPL := Lib.hid epl.symm
      have HEP := Lib.hid eP
      clear hown hgr epl eP
      have hlg : g < wr.heap.size := by obtain ⟨cs, hcs⟩ := own_blk HOW.out; exact (Array.getElem?_eq_some_iff.1 hcs).1
      by_cases hltj : j < n
      · have hltI : (j : Int) < (n : Int) := by omega
        obtain ⟨x, hx⟩ : ∃ x, L[j]? = some x := ⟨_, List.getElem?_eq_getElem (by have := HL.out; omega)⟩
        have hcc := win_cells (own_cells0 HOW.out) j x (by rw [csR_get (by have := HPL.out; omega)]; exact hx)
        rw [Nat.zero_add] at hcc
        obtain ⟨c0, c1⟩ := hcc
        have HX := Lib.hid hx
        clear hx
        go_upto_region 8 with (fail)
        obtain ⟨g7, eg⟩ : ∃ g, g = wr.heap.size := ⟨_, rfl⟩
        obtain ⟨w2, e2⟩ : ∃ w2, w2 = wr.alloc (.cells #[.int .i64 x.1, .int .i64 x.2] 44) := ⟨_, rfl⟩
        rw [← eg, ← e2]
        have hg2 : w2.heap[g7]? = some (.cells #[.int .i64 x.1, .int .i64 x.2] 44 (0, 0)) := by rw [e2, eg]; exact heap_new wr _
        have hB2 : Below wr.heap.size wr w2 := by rw [e2]; exact (Below.refl _ _).alloc (Nat.le_refl _) _
        have hlt2 : g7 < w2.heap.size := by rw [e2, eg]; simp
        have hs2 := hB2.size
        have HB2 := Lib.hid hB2
        have HG2 := Lib.hid hg2
        have q0 := cell_of_blk (j := 0) hg2 rfl
        have q1 := cell_of_blk (j := 1) hg2 rfl
        clear eg e2 hg2 hB2 c0 c1
        go_wp2_with (fail)
        refine (last1_any x _).mono ?_
        obtain ⟨t, et⟩ : ∃ t, t = lsts x := ⟨_, rfl⟩
        rw [← et]
        have HE := Lib.hid et
        rintro e w3 ⟨rfl, hb3⟩
        have hs3 := hb3.size
        have HB3 := Lib.hid (HB2.out.trans (hb3.mono hs2))
        have hg3 := (hb3.block g7 hlt2).trans HG2.out
        have hlt3 : g7 < w3.heap.size := by omega
        have HO3 := Lib.hid (own_belowP HOW.out HB3.out)
        have HG3 := Lib.hid (grown_more HGR.out (grown_belowP (r := none) HB3.out) (by simp))
        have HSN := Lib.hid (filter_take_snoc (p := lsts) HX.out)
        clear hb3 et q0 q1
        have q0 := cell_of_blk (j := 0) hg3 rfl
        have q1 := cell_of_blk (j := 1) hg3 rfl
        clear hg3
        cases t
        case false =>
          have HN2 := Lib.hid (show (L.take (j + 1)).filter lsts = P from by rw [HSN.out, ← HE.out, ← HEP.out]; simp)
          go_wp2_with (fail)
          go_roundw
          case rel => exact ⟨j + 1, by omega, by omega, by go_num, by rw [HN2.out, HPL.out], by rw [HN2.out, HPL.out]; omega, by rw [HN2.out]; exact HO3.out, HG3.out⟩
          case measure => simp [intOf]; omega
        case true =>
          have HN2 := Lib.hid (show (L.take (j + 1)).filter lsts = P ++ [x] from by rw [HSN.out, ← HE.out, ← HEP.out]; simp)
          have hpn : pl < n := by omega
          have hpI : (pl : Int) < (n : Int) := by omega
          obtain ⟨zz, hz⟩ : ∃ z, (csR L P)[pl]? = some z := ⟨_, List.getElem?_eq_getElem (by rw [csR_len (by have := HPL.out; have := HL.out; omega)]; have := HL.out; omega)⟩
          have hzc := win_cells (own_cells0 HO3.out) pl zz hz
          rw [Nat.zero_add] at hzc
          obtain ⟨z0, z1⟩ := hzc
          obtain ⟨cs, hcs⟩ := own_blk HO3.out
          have fr0 : w3.frozen? ⟨g, pl * 2, none⟩ = false := by simp [World.frozen?, hcs]
          have fr1 : w3.frozen? ⟨g, pl * 2 + 1, none⟩ = false := by simp [World.frozen?, hcs]
          have hlg3 : g < w3.heap.size := by omega
          have HSET := Lib.hid (win_store HO3.out (by rw [csR_len (by have := HPL.out; have := HL.out; omega)]; exact HL.out) pl hpn x)
          clear hcs hz
          go_upto_region 10 with (fail)
          generalize hW5 : (w3.setCell ⟨g, pl * 2, none⟩ (.int .i64 x.1)).setCell ⟨g, pl * 2 + 1, none⟩ (.int .i64 x.2) = w5 at HSET ⊢
          have HO5 := Lib.hid (show w5.ownsRow base 44 2 (.slice (some ⟨g, 0, none⟩) n c) n (recs alW (csR L (P ++ [x]))) from by
            have h := HSET.out.1
            rw [← HPL.out, csR_set (by have := HPL.out; have := HL.out; omega)] at h
            exact h)
          have HG5 := Lib.hid (grown_trans HG3.out HSET.out.2)
          have HPL5 := Lib.hid (show (P ++ [x]).length = pl + 1 from by rw [List.length_append, HPL.out]; rfl)
          clear hW5 HSET z0 z1 q0 q1 fr0 fr1
          go_wp2_with (fail)
          go_roundw
          case rel => exact ⟨j + 1, by omega, by omega, by go_num, by rw [HN2.out, HPL5.out]; go_num, by rw [HN2.out, HPL5.out]; omega, by rw [HN2.out]; exact HO5.out, HG5.out⟩
          case measure => simp [intOf]; omega
      · have hltI : ¬ (j : Int) < (n : Int) := by omega
        have hjn2 : j = n := by omega
        subst hjn2
        have hPL : P = L.filter lsts := by rw [HEP.out, ← HL.out, List.take_length]
        have hcp : ¬ c = pl := by omega
        have hpn : pl ≤ j := by omega
        have hpI : (pl : Int) ≤ (j : Int) := by omega
        obtain ⟨cs, hcs⟩ := own_blk HOW.out
        obtain ⟨vs, hvl, hcl⟩ := run_clear_n (P := Tryz.prog) wr 40 44 _ [.int .i64 0, .int .i64 0] (j - pl) Tryz.underlying40 Tryz.zeroValue44 rfl (by simp) (by intro u hu; simp at hu; rw [hu]; rfl) g (pl * 2)
          (fun i hi => by
            simp at hi
            rw [HOW.out.cellAt _ (by omega), List.getElem?_eq_getElem (by rw [recs_length alW_len, csR_len (by have := HPL.out; have := HL.out; omega), HL.out]; omega)]
            rfl)
          (fun i _ => HOW.out.frozenAt _)
        have hvl8 : vs.length = (j - pl) * 2 := by rw [hvl]; rfl
        have HSET := Lib.hid (own_setCells vs (pl * 2) wr (recs alW (csR L P)) HOW.out (by rw [recs_length alW_len, csR_len (by have := HPL.out; have := HL.out; omega), hvl8, HL.out]; omega))
        have HF := Lib.hid (show DelP L base c (some ⟨g, 0, none⟩) w (.returned (.slice (some ⟨g, 0, none⟩) pl c)) (wr.setCells g (pl * 2) vs) from by
          unfold DelP
          rw [← hPL, HPL.out]
          refine ⟨rfl, ?_, grown_trans HGR.out HSET.out.2⟩
          have h := own_shrink HSET.out.1 pl hpn
          rw [List.append_assoc, List.take_append_of_le_length (by rw [List.length_take, recs_length alW_len, csR_len (by have := HPL.out; have := HL.out; omega), HL.out]; omega), List.take_take, Nat.min_self] at h
          have h3 : (recs alW (csR L P)).take (pl * 2) = recs alW P := by
            have h4 := recs_append alW P (L.drop P.length)
            unfold csR
            rw [h4, List.take_append_of_le_length (by rw [recs_length alW_len, HPL.out]; exact Nat.le_refl _), List.take_of_length_le (by rw [recs_length alW_len, HPL.out]; exact Nat.le_refl _)]
          rw [h3] at h
          exact h)
        have hsl : ∀ ty, (Builtin.clear_ #[40] ty #[.slice (some ⟨g, pl * 2, none⟩) (j - pl) (c - pl)]).run Tryz.prog wr = .ok (.tuple #[]) (wr.setCells g (pl * 2) vs) := fun ty => hcl ty (c - pl)
        clear hcl HSET hcs hvl hvl8 hPL
        obtain ⟨W6, e6⟩ : ∃ W6, W6 = wr.setCells g (pl * 2) vs := ⟨_, rfl⟩
        rw [← e6] at hsl HF
        clear e6
        go_wp2_with (fail)
        go_ret
        exact HF.out
set_option maxRecDepth 100000 in
set_option maxHeartbeats 1000000 in
theorem cloneW_some (b off n c : Nat) (xs : List Value) (w : World) (hl : xs.length = n * 2) (h1 : ∀ u ∈ xs, u.oneCell' = true) (hn : n ≤ 1000000) (hc : Cells w b off xs) :
    Calls Tryz.prog 102 #[.slice (some ⟨b, off, none⟩) n c] w fun e w' => ∃ v', e = .returned v' ∧ w'.ownsRow w.heap.size 44 2 v' n xs ∧ Below w.heap.size w w' := by
  obtain ⟨i0, hi, hz0, hz1, hz2⟩ := info_parts Tryz.infoWinA
  have q22 : ∀ (w : World) (a : Option Addr) (n c n' c' : Nat), (binOp .eql 40 (.slice a n c) (.slice none n' c')).run Tryz.prog w = .ok (.bool a.isNone) w := fun w a n c n' c' => Lib.run_eql_slice_nil w _ _ a n c n' c' Tryz.underlying40
  have HC := Lib.hid hc
  have H1 := Lib.hid h1
  have HL := Lib.hid hl
  clear hc h1 hl
  go_enter Tryz.func102, Tryz.ntmps102
  go_wp2_with (at_builtin; refine wpList_append_own _ rfl _ _ 40 rfl w.heap.size 44 i0 _ 2 16 Tryz.underlying40 hi hz0 hz1 hz2 rfl (by decide) _ _ _ rfl (World.ownsRow_made w #[] 0 (Nat.le_refl _) (Nat.zero_le _) rfl) ⟨b, off, none⟩ n c xs rfl ?qc1 ?qc2 ?qc3 ?qc4 ?qc5 ?qc6 ?_)
  case qc1 => exact HL.out
  case qc2 =>
    intro j u hj
    rw [Addr.add_lit]
    exact Lib.cell?_alloc_some _ (HC.out j u hj)
  case qc3 => exact H1.out
  case qc4 => unfold maxLen; omega
  case qc5 => omega
  case qc6 => simp
  intro v' w1 hown hgrow hnil
  go_wp2
  go_ret
  refine ⟨v', rfl, by simpa using hown, ?_⟩
  exact ((Below.refl _ w).alloc (Nat.le_refl _) _).grown hgrow (by simp) (by intro k hk; simp [Value.ownBlock] at hk; omega)
theorem cloneW_nil (n c : Nat) (w : World) : Calls Tryz.prog 102 #[.slice none n c] w fun e w' => e = .returned (.slice none 0 0) ∧ w = w' := by
  have q22 : ∀ (w : World) (a : Option Addr) (n c n' c' : Nat), (binOp .eql 40 (.slice a n c) (.slice none n' c')).run Tryz.prog w = .ok (.bool a.isNone) w := fun w a n c n' c' => Lib.run_eql_slice_nil w _ _ a n c n' c' Tryz.underlying40
  go_enter Tryz.func102, Tryz.ntmps102
  go_wp2
  go_ret
  exact ⟨rfl, rfl⟩
theorem recsW_one (L : List (Int × Int)) : ∀ u ∈ recs alW L, u.oneCell' = true := by
  intro u hu
  simp only [recs, List.mem_flatMap] at hu
  obtain ⟨x, _, hx⟩ := hu
  exact alW_one x u hx
theorem cloneW_any (L : List (Int × Int)) (n base : Nat) (v : Value) (w : World) (hn : L.length = n) (hn2 : n ≤ 100000) (ho : w.ownsRow base 44 2 v n (recs alW L)) :
    Calls Tryz.prog 102 #[v] w fun e w' => ∃ v', e = .returned v' ∧ w'.ownsRow w.heap.size 44 2 v' n (recs alW L) ∧ Below w.heap.size w w' := by
  obtain ⟨A, c, rfl⟩ := own_slice ho
  rcases own_two ho with ⟨rfl, h0, rfl⟩ | ⟨g, rfl, _, hlt⟩
  · subst h0
    have : L = [] := List.eq_nil_of_length_eq_zero hn
    subst this
    refine (cloneW_nil 0 0 w).mono ?_
    rintro e w' ⟨rfl, rfl⟩
    exact ⟨_, rfl, World.ownsRow_nil _ _ _ _, Below.refl _ _⟩
  · exact cloneW_some g 0 n c (recs alW L) w (by rw [recs_length alW_len, hn]) (recsW_one L) (by omega) (own_cells0 ho)
def LastP (L : List (Int × Int)) (w : World) (e : Ending) (w' : World) : Prop := ∃ A c, e = .returned (.slice A (L.filter lsts).length c) ∧ w'.ownsRow w.heap.size 44 2 (.slice A (L.filter lsts).length c) (L.filter lsts).length (recs alW (L.filter lsts)) ∧ Below w.heap.size w w'
theorem lasting_any (L : List (Int × Int)) (n base : Nat) (v : Value) (w : World) (hn : L.length = n) (hn2 : n ≤ 100000) (ho : w.ownsRow base 44 2 v n (recs alW L)) :
    Calls Tryz.prog 53 #[v] w fun e w' => LastP L w e w' := by
  have HC := Lib.hid (cloneW_any L n base v w hn hn2 ho)
  have HN := Lib.hid hn
  clear ho hn
  go_enter Tryz.func53, Tryz.ntmps53
  go_wp2_with (fail)
  refine HC.out.mono ?_
  rintro e w1 ⟨v', rfl, ho1, hb1⟩
  obtain ⟨A, c, rfl⟩ := own_slice ho1
  have HD := Lib.hid (deleteW_any L n c w.heap.size A w1 HN.out hn2 ho1)
  have HB := Lib.hid hb1
  have HO := Lib.hid (fun g (hg : (Value.slice A n c).ownBlock = some g) => (ho1.lt g hg).1)
  clear ho1 hb1
  go_wp2_with (fail)
  refine HD.out.mono ?_
  rintro e w2 ⟨rfl, ho2, hg2⟩
  have HF := Lib.hid (show Below w.heap.size w w2 from by
    rw [HN.out] at hg2
    exact HB.out.grown hg2 HB.out.size (fun k hk => HO.out k hk))
  have HO2 := Lib.hid ho2
  clear ho2 hg2
  go_wp2_with (fail)
  go_ret
  exact ⟨A, c, rfl, HO2.out, HF.out⟩
end Go.Proofs.YtkabcipccpbphaaGreatDoor

/- AlarmsTakeTurns: the plain law; no program in sight. -/
namespace Go.Proofs.YtkabcipccpbphaaGreatDoor

def isUp (L : Lf) : Prop := L.st = 1 ∨ L.st = 2
theorem follow_kind (L : Lf) (s : Sg) :
    ((followL L s).1.up = L.up ∧ (isUp (followL L s).1 ↔ isUp L)) ∨ (¬ isUp L ∧ isUp (followL L s).1 ∧ (followL L s).1.up = L.up ++ [(s.at_, alEnd)] ∧ s.kd = 1) ∨ (isUp L ∧ ¬ isUp (followL L s).1 ∧ (followL L s).1.up = setLast L.up s.at_) := by
  unfold followL isUp
  split
  · rename_i hk
    split
    · exact .inl ⟨rfl, Iff.rfl⟩
    · rename_i h
      exact .inr (.inl ⟨h, .inl rfl, rfl, hk⟩)
  · split
    · split
      · rename_i h
        refine .inr (.inr ⟨.inl h, ?_, rfl⟩)
        simp [clA]
      · split
        · rename_i h
          refine .inr (.inr ⟨.inr h, ?_, rfl⟩)
          simp [clK]
        · exact .inl ⟨rfl, Iff.rfl⟩
    · split
      · split
        · rename_i h
          refine .inl ⟨rfl, ?_⟩
          simp [akd, akR, h]
        · split
          · rename_i h
            refine .inl ⟨rfl, ?_⟩
            simp [akd, akA, h]
          · exact .inl ⟨rfl, Iff.rfl⟩
      · split
        · split
          · exact .inl ⟨rfl, Iff.rfl⟩
          · exact .inl ⟨rfl, Iff.rfl⟩
        · split
          · exact .inl ⟨rfl, Iff.rfl⟩
          · exact .inl ⟨rfl, Iff.rfl⟩
theorem lifeAt_all {l : List Sg} {m : Int} {n : Nm2} (hm : ∀ s ∈ l, s.at_ ≤ m) (he : ∀ s ∈ l, s.at_ ≤ alEnd) : lifeAt l m n = lifeAt l alEnd n := by
  have key : ∀ (l : List Sg) (L : Lf), (∀ s ∈ l, s.at_ ≤ m) → (∀ s ∈ l, s.at_ ≤ alEnd) → l.foldl (lifeStep m n) L = l.foldl (lifeStep alEnd n) L := by
    intro l
    induction l with
    | nil => intro L _ _; rfl
    | cons s l ih =>
      intro L h1 h2
      rw [List.foldl_cons, List.foldl_cons]
      have : lifeStep m n L s = lifeStep alEnd n L s := by
        unfold lifeStep
        have := h1 s List.mem_cons_self
        have := h2 s List.mem_cons_self
        by_cases hn : (s.d, s.r) = n
        · rw [if_pos ⟨hn, by assumption⟩, if_pos ⟨hn, by assumption⟩]
        · rw [if_neg (fun e => hn e.1), if_neg (fun e => hn e.1)]
      rw [this]
      exact ih _ (fun q hq => h1 q (List.mem_cons_of_mem _ hq)) (fun q hq => h2 q (List.mem_cons_of_mem _ hq))
  exact key l _ hm he
/-- What holds of the windows behind some signals. -/
structure UpI (l : List Sg) (n : Nm2) (cl op : List (Int × Int)) : Prop where
  up : (lifeAt l alEnd n).up = cl ++ op
  pw : (cl ++ op).Pairwise (fun a b => a.2 ≤ b.1)
  rng : ∀ w ∈ cl ++ op, 0 ≤ w.1 ∧ w.1 ≤ w.2 ∧ w.2 ≤ alEnd ∧ ∃ s ∈ l, s.at_ = w.1 ∧ s.kd = 1 ∧ (s.d, s.r) = n
  cl_ : ∀ w ∈ cl, ∃ s ∈ l, w.2 = s.at_
  opn : (isUp (lifeAt l alEnd n) ∧ ∃ f, op = [(f, alEnd)]) ∨ (¬ isUp (lifeAt l alEnd n) ∧ op = [])
  st : ∀ w ∈ cl ++ op, ∀ m, w.1 ≤ m → m < w.2 → isUp (lifeAt l m n)
theorem upI_nil (n : Nm2) : UpI [] n [] [] := by
  refine ⟨rfl, List.Pairwise.nil, by simp, by simp, .inr ⟨?_, rfl⟩, by simp⟩
  unfold isUp
  simp [lifeAt, newL]
theorem upI_snoc {l : List Sg} {s : Sg} {n : Nm2} {cl op : List (Int × Int)} (h : UpI l n cl op) (hs : ∀ q ∈ l, q.at_ ≤ s.at_) (h0 : 0 ≤ s.at_) (h1 : s.at_ < alEnd) : ∃ cl' op', UpI (l ++ [s]) n cl' op' := by
  have hle : ∀ q ∈ l, q.at_ ≤ alEnd := fun q hq => by have := hs q hq; omega
  have hmem : ∀ q ∈ l, q ∈ l ++ [s] := fun q hq => List.mem_append_left _ hq
  by_cases hn : (s.d, s.r) = n
  · have hF : lifeAt (l ++ [s]) alEnd n = (followL (lifeAt l alEnd n) s).1 := by
      rw [lifeAt_snoc]; unfold lifeStep; rw [if_pos ⟨hn, by omega⟩]
    have hlow : ∀ m, m < s.at_ → lifeAt (l ++ [s]) m n = lifeAt l m n := fun m hm => by
      rw [lifeAt_snoc]; unfold lifeStep; rw [if_neg (fun e => by have := e.2; omega)]
    have hhigh : ∀ m, s.at_ ≤ m → lifeAt (l ++ [s]) m n = lifeAt (l ++ [s]) alEnd n := fun m hm =>
      lifeAt_all (fun q hq => by
        rw [List.mem_append, List.mem_singleton] at hq
        rcases hq with hq | rfl
        · have := hs q hq; omega
        · exact hm) (fun q hq => by
        rw [List.mem_append, List.mem_singleton] at hq
        rcases hq with hq | rfl
        · exact hle q hq
        · omega)
    have hclm : ∀ w ∈ cl, ∀ m, m < w.2 → m < s.at_ := fun w hw m hm => by
      obtain ⟨q, hq, e⟩ := h.cl_ w hw
      have := hs q hq
      omega
    have hrng : ∀ w ∈ cl ++ op, 0 ≤ w.1 ∧ w.1 ≤ w.2 ∧ w.2 ≤ alEnd ∧ ∃ q ∈ l ++ [s], q.at_ = w.1 ∧ q.kd = 1 ∧ (q.d, q.r) = n := fun w hw => by
      obtain ⟨a, b, c, q, hq, d⟩ := h.rng w hw
      exact ⟨a, b, c, q, hmem q hq, d⟩
    rcases follow_kind (lifeAt l alEnd n) s with ⟨k1, k2⟩ | ⟨k1, k2, k3, k4⟩ | ⟨k1, k2, k3⟩
    · refine ⟨cl, op, by rw [hF, k1]; exact h.up, h.pw, hrng, fun w hw => by obtain ⟨q, hq, e⟩ := h.cl_ w hw; exact ⟨q, hmem q hq, e⟩, by rw [hF, k2]; exact h.opn, fun w hw m h2 h3 => ?_⟩
      rcases Int.lt_or_le m s.at_ with hm | hm
      · rw [hlow m hm]; exact h.st w hw m h2 h3
      · rw [hhigh m hm, hF, k2]
        rcases List.mem_append.1 hw with hw | hw
        · have := hclm w hw m h3; omega
        · rcases h.opn with ⟨g, _⟩ | ⟨_, g⟩
          · exact g
          · rw [g] at hw; cases hw
    · have hop : op = [] := by
        rcases h.opn with ⟨g, _⟩ | ⟨_, g⟩
        · exact absurd g k1
        · exact g
      subst hop
      have hup := h.up
      rw [List.append_nil] at hup
      refine ⟨cl, [(s.at_, alEnd)], by rw [hF, k3, hup], ?_, ?_, fun w hw => by obtain ⟨q, hq, e⟩ := h.cl_ w hw; exact ⟨q, hmem q hq, e⟩, by rw [hF]; exact .inl ⟨k2, _, rfl⟩, ?_⟩
      · have hpw := h.pw
        rw [List.append_nil] at hpw
        refine List.pairwise_append.2 ⟨hpw, List.pairwise_singleton _ _, fun a ha b hb => ?_⟩
        rw [List.mem_singleton] at hb
        subst hb
        obtain ⟨q, hq, e⟩ := h.cl_ a ha
        have := hs q hq
        show a.2 ≤ s.at_
        omega
      · intro w hw
        rcases List.mem_append.1 hw with hw | hw
        · exact hrng w (List.mem_append_left _ hw)
        · rw [List.mem_singleton] at hw
          subst hw
          exact ⟨h0, by show s.at_ ≤ alEnd; omega, Int.le_refl _, s, by simp, rfl, k4, hn⟩
      · intro w hw m h2 h3
        rcases List.mem_append.1 hw with hw | hw
        · rw [hlow m (hclm w hw m h3)]
          exact h.st w (List.mem_append_left _ hw) m h2 h3
        · rw [List.mem_singleton] at hw
          subst hw
          rw [hhigh m h2, hF]
          exact k2
    · obtain ⟨f, hop⟩ : ∃ f, op = [(f, alEnd)] := by
        rcases h.opn with ⟨_, g⟩ | ⟨g, _⟩
        · exact g
        · exact absurd k1 g
      subst hop
      have hf := h.rng (f, alEnd) (by simp)
      obtain ⟨f1, f2, f3, q0, hq0, f4, f5⟩ := hf
      simp only at f1 f2 f3 f4
      have hfs : f ≤ s.at_ := by have := hs q0 hq0; omega
      refine ⟨cl ++ [(f, s.at_)], [], by rw [hF, k3, h.up, setLast_snoc, List.append_nil], ?_, ?_, ?_, by rw [hF]; exact .inr ⟨k2, rfl⟩, ?_⟩
      · rw [List.append_nil]
        have hpw := List.pairwise_append.1 h.pw
        refine List.pairwise_append.2 ⟨hpw.1, List.pairwise_singleton _ _, fun a ha b hb => ?_⟩
        rw [List.mem_singleton] at hb
        subst hb
        exact hpw.2.2 a ha (f, alEnd) (by simp)
      · intro w hw
        rw [List.append_nil] at hw
        rcases List.mem_append.1 hw with hw | hw
        · exact hrng w (List.mem_append_left _ hw)
        · rw [List.mem_singleton] at hw
          subst hw
          exact ⟨f1, hfs, by show s.at_ ≤ alEnd; omega, q0, hmem q0 hq0, f4, f5⟩
      · intro w hw
        rcases List.mem_append.1 hw with hw | hw
        · obtain ⟨q, hq, e⟩ := h.cl_ w hw
          exact ⟨q, hmem q hq, e⟩
        · rw [List.mem_singleton] at hw
          subst hw
          exact ⟨s, by simp, rfl⟩
      · intro w hw m h2 h3
        rw [List.append_nil] at hw
        rcases List.mem_append.1 hw with hw | hw
        · rw [hlow m (hclm w hw m h3)]
          exact h.st w (List.mem_append_left _ hw) m h2 h3
        · rw [List.mem_singleton] at hw
          subst hw
          simp only at h2 h3
          rw [hlow m h3]
          exact h.st (f, alEnd) (by simp) m h2 (by show m < alEnd; omega)
  · have hF : ∀ m, lifeAt (l ++ [s]) m n = lifeAt l m n := fun m => by
      rw [lifeAt_snoc]; unfold lifeStep; rw [if_neg (fun e => hn e.1)]
    refine ⟨cl, op, by rw [hF]; exact h.up, h.pw, fun w hw => ?_, fun w hw => ?_, by rw [hF]; exact h.opn, fun w hw m h2 h3 => by rw [hF]; exact h.st w hw m h2 h3⟩
    · obtain ⟨a, b, c, q, hq, d⟩ := h.rng w hw
      exact ⟨a, b, c, q, hmem q hq, d⟩
    · obtain ⟨q, hq, e⟩ := h.cl_ w hw
      exact ⟨q, hmem q hq, e⟩
theorem upI_any {l : List Sg} (n : Nm2) (h : SgsOk l) : ∃ cl op, UpI l n cl op := by
  have key : ∀ k, k ≤ l.length → ∃ cl op, UpI (l.take k) n cl op := by
    intro k
    induction k with
    | zero => intro _; exact ⟨[], [], by simpa using upI_nil n⟩
    | succ k ih =>
      intro hk
      obtain ⟨cl, op, hi⟩ := ih (by omega)
      have hx : l[k]? = some l[k] := List.getElem?_eq_getElem (by omega)
      have he : l.take (k + 1) = l.take k ++ [l[k]] := by rw [List.take_add_one, hx]; rfl
      rw [he]
      have hr := h.1 l[k] (List.getElem_mem (by omega))
      refine upI_snoc hi (fun q hq => ?_) hr.at0 hr.at1
      obtain ⟨i, hi', rfl⟩ := List.getElem_of_mem hq
      rw [List.length_take] at hi'
      rw [List.getElem_take]
      have := (List.pairwise_iff_getElem.1 h.2) i k (by omega) (by omega) (by omega)
      unfold SgL at this
      omega
  have := key l.length (Nat.le_refl _)
  rwa [List.take_length] at this
structure TurnW (l : List Sg) (n : Nm2) (w : Int × Int) : Prop where
  lo : 0 ≤ w.1
  lt : w.1 < w.2
  hi : w.2 ≤ 345686400000
  sig : ∃ s ∈ l, s.at_ = w.1 ∧ s.kd = 1 ∧ (s.d, s.r) = n
  at1 : isUp (lifeAt l w.1 n)
  at2 : isUp (lifeAt l (w.2 - 1) n)
theorem turns_any {l : List Sg} (n : Nm2) (h : SgsOk l) : ((lifeAt l 345686400000 n).up.filter lsts).Pairwise (fun a b => a.2 ≤ b.1) ∧ ∀ w ∈ (lifeAt l 345686400000 n).up.filter lsts, TurnW l n w := by
  obtain ⟨cl, op, hi⟩ := upI_any n h
  have hup : (lifeAt l 345686400000 n).up = cl ++ op := hi.up
  rw [hup]
  refine ⟨hi.pw.sublist List.filter_sublist, fun w hw => ?_⟩
  obtain ⟨hw1, hw2⟩ := List.mem_filter.1 hw
  have hlt : w.1 < w.2 := by unfold lsts at hw2; simpa using hw2
  obtain ⟨a, b, c, d⟩ := hi.rng w hw1
  exact ⟨a, hlt, c, d, hi.st w hw1 w.1 (Int.le_refl _) hlt, hi.st w hw1 (w.2 - 1) (by omega) (by omega)⟩
end Go.Proofs.YtkabcipccpbphaaGreatDoor

/- RefusedCanGo: the plain law; no program in sight. -/
namespace Go.Proofs.YtkabcipccpbphaaGreatDoor

/-- Why the signal at a place is refused; 0: it is followed. -/
def whyAt (l : List Sg) (i : Nat) (s : Sg) : Int := (followL (lifeAt (l.take i) alEnd (s.d, s.r)) s).2
def refU (l : List Sg) : Nat → List (Nat × Int)
  | 0 => []
  | k + 1 => refU l k ++ (match l[k]? with | some s => if whyAt l k s = 0 then [] else [(k, whyAt l k s)] | none => [])
def keepU (l : List Sg) : Nat → List Sg
  | 0 => []
  | k + 1 => keepU l k ++ (match l[k]? with | some s => if whyAt l k s = 0 then [s] else [] | none => [])
theorem refU_some {l : List Sg} {k : Nat} {s : Sg} (h : l[k]? = some s) : refU l (k + 1) = refU l k ++ (if whyAt l k s = 0 then [] else [(k, whyAt l k s)]) := by
  simp only [refU, h]
theorem keepU_some {l : List Sg} {k : Nat} {s : Sg} (h : l[k]? = some s) : keepU l (k + 1) = keepU l k ++ (if whyAt l k s = 0 then [s] else []) := by
  simp only [keepU, h]
theorem refU_lt {l : List Sg} {k : Nat} {z : Nat × Int} (h : z ∈ refU l k) : z.1 < k := by
  induction k with
  | zero => cases h
  | succ k ih =>
    simp only [refU, List.mem_append] at h
    rcases h with h | h
    · have := ih h; omega
    · split at h
      · split at h
        · cases h
        · rw [List.mem_singleton] at h; subst h; exact Nat.lt_succ_self _
      · cases h
theorem mem_refU {l : List Sg} {k i : Nat} {s : Sg} (hs : l[i]? = some s) (hi : i < k) : (∃ z ∈ refU l k, z.1 = i) ↔ whyAt l i s ≠ 0 := by
  induction k with
  | zero => omega
  | succ k ih =>
    simp only [refU]
    by_cases hk : i = k
    · subst hk
      rw [hs]
      constructor
      · rintro ⟨z, hz, e⟩
        rcases List.mem_append.1 hz with hz | hz
        · have := refU_lt hz; omega
        · simp only at hz
          split at hz
          · cases hz
          · assumption
      · intro h
        exact ⟨(i, whyAt l i s), List.mem_append_right _ (by simp only; rw [if_neg h]; simp), rfl⟩
    · rw [← ih (by omega)]
      constructor
      · rintro ⟨z, hz, e⟩
        rcases List.mem_append.1 hz with hz | hz
        · exact ⟨z, hz, e⟩
        · exfalso
          split at hz
          · split at hz
            · cases hz
            · rw [List.mem_singleton] at hz; subst hz; exact hk e.symm
          · cases hz
      · rintro ⟨z, hz, e⟩
        exact ⟨z, List.mem_append_left _ hz, e⟩
theorem refused_same {L : Lf} {s : Sg} (h : (followL L s).2 ≠ 0) : (followL L s).1 = L := by
  unfold followL at h ⊢
  split
  · split
    · rfl
    · rename_i h1 h2; rw [if_pos h1, if_neg h2] at h; exact absurd rfl h
  · rename_i h1
    rw [if_neg h1] at h
    split
    · rename_i h2
      rw [if_pos h2] at h
      split
      · rename_i h3; rw [if_pos h3] at h; exact absurd rfl h
      · rename_i h3
        rw [if_neg h3] at h
        split
        · rename_i h4; rw [if_pos h4] at h; exact absurd rfl h
        · rfl
    · rename_i h2
      rw [if_neg h2] at h
      split
      · rename_i h3
        rw [if_pos h3] at h
        split
        · rename_i h4; rw [if_pos h4] at h; exact absurd rfl h
        · rename_i h4
          rw [if_neg h4] at h
          split
          · rename_i h5; rw [if_pos h5] at h; exact absurd rfl h
          · rfl
      · rename_i h3
        rw [if_neg h3] at h
        split
        · rename_i h4
          rw [if_pos h4] at h
          split
          · rfl
          · rename_i h5; rw [if_neg h5] at h; exact absurd rfl h
        · rename_i h4
          rw [if_neg h4] at h
          split
          · rfl
          · rename_i h5; rw [if_neg h5] at h; exact absurd rfl h
theorem SgsOk.le_at {l : List Sg} (h : SgsOk l) {k : Nat} {s : Sg} (hs : l[k]? = some s) : ∀ q ∈ l.take k, q.at_ ≤ s.at_ := by
  intro q hq
  obtain ⟨i, hi, rfl⟩ := List.getElem_of_mem hq
  obtain ⟨hk, rfl⟩ := List.getElem?_eq_some_iff.1 hs
  rw [List.length_take] at hi
  rw [List.getElem_take]
  have := (List.pairwise_iff_getElem.1 h.2) i k (by omega) (by omega) (by omega)
  unfold SgL at this
  omega
theorem lifeAt_keep {l : List Sg} (h : SgsOk l) (t : Int) (n : Nm2) : ∀ k, k ≤ l.length → lifeAt (keepU l k) t n = lifeAt (l.take k) t n := by
  intro k
  induction k with
  | zero => intro _; rfl
  | succ k ih =>
    intro hk
    have hx : l[k]? = some l[k] := List.getElem?_eq_getElem (by omega)
    obtain ⟨s, es⟩ : ∃ s, s = l[k] := ⟨_, rfl⟩
    rw [← es] at hx
    have he : l.take (k + 1) = l.take k ++ [s] := by rw [List.take_add_one, hx]; rfl
    rw [keepU_some hx, he, lifeAt_snoc]
    by_cases hw : whyAt l k s = 0
    · rw [if_pos hw, lifeAt_snoc, ih (by omega)]
    · rw [if_neg hw, List.append_nil, ih (by omega)]
      unfold lifeStep
      split
      · rename_i hn
        obtain ⟨hn, hat⟩ := hn
        have hle := h.le_at hx
        have hr := h.1 s (List.mem_of_getElem? hx)
        have e : lifeAt (l.take k) t n = lifeAt (l.take k) alEnd n := lifeAt_all (fun q hq => by have := hle q hq; omega) (fun q hq => by have := hle q hq; have := hr.at1; unfold alEnd; omega)
        rw [e]
        unfold whyAt at hw
        rw [hn] at hw
        exact (refused_same hw).symm
      · rfl
theorem keepU_sub (l : List Sg) : ∀ k, (keepU l k).Sublist (l.take k) := by
  intro k
  induction k with
  | zero => exact List.Sublist.refl _
  | succ k ih =>
    cases hx : l[k]? with
    | none =>
      have : keepU l (k + 1) = keepU l k := by simp [keepU, hx]
      rw [this, List.take_add_one, hx]
      simpa using ih
    | some s =>
      rw [keepU_some hx, List.take_add_one, hx]
      refine List.Sublist.append ih ?_
      split
      · exact List.Sublist.refl _
      · exact List.nil_sublist _
theorem keepU_ok {l : List Sg} (h : SgsOk l) (k : Nat) : SgsOk (keepU l k) :=
  have hs := (keepU_sub l k).trans (List.take_sublist k l)
  ⟨fun s hm => h.1 s (hs.subset hm), h.2.sublist hs⟩
theorem why_keep {l : List Sg} (h : SgsOk l) : ∀ k, k ≤ l.length → ∀ j s, (keepU l k)[j]? = some s → whyAt (keepU l k) j s = 0 := by
  intro k
  induction k with
  | zero => intro _ j s hs; simp [keepU] at hs
  | succ k ih =>
    intro hk j s hs
    have hx : l[k]? = some l[k] := List.getElem?_eq_getElem (by omega)
    obtain ⟨u, eu⟩ : ∃ u, u = l[k] := ⟨_, rfl⟩
    rw [← eu] at hx
    rw [keepU_some hx] at hs ⊢
    by_cases hw : whyAt l k u = 0
    · rw [if_pos hw] at hs ⊢
      rcases Nat.lt_or_ge j (keepU l k).length with hj | hj
      · rw [List.getElem?_append_left hj] at hs
        have := ih (by omega) j s hs
        unfold whyAt at this ⊢
        rw [List.take_append_of_le_length (by omega)]
        exact this
      · rw [List.getElem?_append_right hj] at hs
        have hj0 : j - (keepU l k).length = 0 := by
          have := (List.getElem?_eq_some_iff.1 hs).1
          simp at this; omega
        rw [hj0] at hs
        obtain rfl : u = s := by simpa using hs
        have hjl : j = (keepU l k).length := by omega
        unfold whyAt at hw ⊢
        rw [hjl, List.take_left, lifeAt_keep h _ _ k (by omega)]
        exact hw
    · rw [if_neg hw, List.append_nil] at hs ⊢
      exact ih (by omega) j s hs
theorem refU_keep {l : List Sg} (h : SgsOk l) : ∀ m, refU (keepU l l.length) m = [] := by
  intro m
  induction m with
  | zero => rfl
  | succ m ih =>
    cases hx : (keepU l l.length)[m]? with
    | none => simp [refU, hx, ih]
    | some s => rw [refU_some hx, ih, if_pos (why_keep h _ (Nat.le_refl _) m s hx)]; rfl
/-- The names in order. -/
def al6 : List Nm2 := [(0, 0), (0, 1), (1, 0), (1, 1), (2, 0), (2, 1)]
def amsL (l : List Sg) (t : Int) : List Am := (al6.map fun n => viewL (lifeAt l t n) t).filter shownA
theorem amsL_keep {l : List Sg} (h : SgsOk l) (t : Int) : amsL (keepU l l.length) t = amsL l t := by
  unfold amsL
  have : (fun n => viewL (lifeAt (keepU l l.length) t n) t) = fun n => viewL (lifeAt l t n) t := by
    funext n
    rw [lifeAt_keep h t n _ (Nat.le_refl _), List.take_length]
  rw [this]
theorem strict_eq {α : Type} (f : α → Nat) : ∀ (a b : List α), a.Pairwise (fun x y => f x < f y) → b.Pairwise (fun x y => f x < f y) → (∀ x, x ∈ a ↔ x ∈ b) → a = b
  | [], [], _, _, _ => rfl
  | [], y :: b, _, _, h => by have := (h y).2 List.mem_cons_self; cases this
  | x :: a, [], _, _, h => by have := (h x).1 List.mem_cons_self; cases this
  | x :: a, y :: b, ha, hb, h => by
    obtain ⟨ha1, ha2⟩ := List.pairwise_cons.1 ha
    obtain ⟨hb1, hb2⟩ := List.pairwise_cons.1 hb
    have hxy : x = y := by
      rcases List.mem_cons.1 ((h x).1 List.mem_cons_self) with e | e
      · exact e
      · rcases List.mem_cons.1 ((h y).2 List.mem_cons_self) with e' | e'
        · exact e'.symm
        · have := ha1 y e'
          have := hb1 x e
          omega
    subst hxy
    congr 1
    refine strict_eq f a b ha2 hb2 fun z => ⟨fun hz => ?_, fun hz => ?_⟩
    · rcases List.mem_cons.1 ((h z).1 (List.mem_cons_of_mem _ hz)) with e | e
      · subst e; have := ha1 z hz; omega
      · exact e
    · rcases List.mem_cons.1 ((h z).2 (List.mem_cons_of_mem _ hz)) with e | e
      · subst e; have := hb1 z hz; omega
      · exact e
theorem mem_al6 {n : Nm2} (h : NmOk n) : n ∈ al6 := by
  obtain ⟨a, b⟩ := n
  obtain ⟨h1, h2⟩ := h
  simp only at h1 h2
  have ha : a = 0 ∨ a = 1 ∨ a = 2 := by omega
  have hb : b = 0 ∨ b = 1 := by omega
  rcases ha with h | h | h <;> subst h <;> rcases hb with h | h <;> subst h <;> decide
theorem shown_new (d r : Nat) (t : Int) (ht : 0 ≤ t) : shownA (viewL (newL d r) t) = false := by
  have h0 : ¬ t < (newL d r).sh := by show ¬ t < 0; omega
  unfold shownA viewL
  rw [if_neg h0]
  rfl
/-- A house's names in their order are all that may be shown. -/
theorem order_shown {l : List Sg} {t : Int} (ht : 0 ≤ t) {K : List Nm2} (hp : ∀ n, n ∈ K ↔ n ∈ namesOf l) (hok : ∀ n ∈ K, NmOk n) (hs : K.Pairwise (fun a b => rkN a ≤ rkN b)) (hn : K.Pairwise (fun a b => a ≠ b)) :
    (K.map fun n => viewL (lifeAt l t n) t).filter shownA = amsL l t := by
  have hst : K.Pairwise (fun a b => rkN a < rkN b) := by
    rw [List.pairwise_iff_getElem] at hs hn ⊢
    intro i j hi hj hij
    have h1 := hs i j hi hj hij
    have h2 := hn i j hi hj hij
    have o1 := hok _ (List.getElem_mem hi)
    have o2 := hok _ (List.getElem_mem hj)
    rcases Nat.lt_or_eq_of_le h1 with h | h
    · exact h
    · exfalso
      apply h2
      unfold rkN at h
      unfold NmOk at o1 o2
      exact Prod.ext (by omega) (by omega)
  have hK : K = al6.filter (fun n => decide (n ∈ namesOf l)) := by
    refine strict_eq rkN _ _ hst (List.Pairwise.sublist List.filter_sublist (by decide)) fun n => ?_
    rw [List.mem_filter, hp]
    refine ⟨fun h => ⟨mem_al6 (hok n ((hp n).2 h)), by simpa using h⟩, fun h => by simpa using h.2⟩
  rw [hK]
  unfold amsL
  generalize al6 = L6
  induction L6 with
  | nil => rfl
  | cons n L ih =>
    by_cases hm : n ∈ namesOf l
    · rw [List.filter_cons_of_pos (by simpa using hm), List.map_cons, List.map_cons, List.filter_cons, List.filter_cons, ih]
    · rw [List.filter_cons_of_neg (by simpa using hm), List.map_cons, List.filter_cons, lifeAt_none hm, shown_new _ _ _ ht, ih]
      rfl
end Go.Proofs.YtkabcipccpbphaaGreatDoor

/- alarm.Alarms by its contract; slices.Equal of alarms. -/
namespace Go.Proofs.YtkabcipccpbphaaGreatDoor
open Go.RowKit Go.Shelf

theorem Tryz.infoAm : (Tryz.prog.info? 50).map (fun i => (i.zero, i.size, i.bytes)) = some (some (.agg #[.string ⟨#[]⟩, .string ⟨#[]⟩, .int .i64 0, .int .i64 0, .int .i64 0, .int .i64 0]), 6, 64) := by kernel_rfl
theorem amC_len (a : Am) : (amC a).length = 6 := rfl
theorem amC_one (a : Am) : ∀ u ∈ amC a, u.oneCell' = true := by
  intro u hu
  simp only [amC, List.mem_cons, List.not_mem_nil, or_false] at hu
  rcases hu with rfl | rfl | rfl | rfl | rfl | rfl <;> rfl
theorem namesOf_len (l : List Sg) : (namesOf l).length ≤ l.length := by
  have key : ∀ (l : List Sg) (ns : List Nm2), (l.foldl (fun ns s => addN ns (s.d, s.r)) ns).length ≤ ns.length + l.length := by
    intro l
    induction l with
    | nil => intro ns; exact Nat.le_refl _
    | cons s l ih =>
      intro ns
      rw [List.foldl_cons, List.length_cons]
      have h1 := ih (addN ns (s.d, s.r))
      have h2 : (addN ns (s.d, s.r)).length ≤ ns.length + 1 := by
        unfold addN
        split
        · omega
        · simp
      omega
  have := key l []
  simpa [namesOf] using this
/-- What a house says of its order. -/
theorem house_order {w' : World} {B hs m : Nat} {o : List Nat} {M : List Mb} {l : List Sg} {F : Nm2 → Lf} (hI : HsI w' B hs m o M) (ho : OrdE (mbE M) o) (hnm : M.map (·.n) = namesOf l) (hL : ∀ y ∈ M, y.L = F y.n) :
    ∃ E : List (Nm2 × Nat), o = E.map (·.2) ∧ (∀ n, n ∈ E.map (·.1) ↔ n ∈ namesOf l) ∧ (∀ n ∈ E.map (·.1), NmOk n) ∧ (E.map (·.1)).Pairwise (fun a b => rkN a ≤ rkN b) ∧ (E.map (·.1)).Pairwise (fun a b => a ≠ b) ∧ ∀ p ∈ E, ∃ v, LfI w' p.2 (F p.1) v := by
  obtain ⟨E, h1, h2, h3⟩ := ho
  have hk : (E.map (·.1)).Perm (M.map (·.n)) := by
    have := h1.map (·.1)
    rwa [show (mbE M).map (·.1) = M.map (·.n) from by simp [mbE, Function.comp_def]] at this
  refine ⟨E, h3, fun n => by rw [hk.mem_iff, hnm], fun n hn => ?_, List.pairwise_map.2 h2, ?_, fun p hp => ?_⟩
  · obtain ⟨y, hy, rfl⟩ := List.mem_map.1 (hk.mem_iff.1 hn)
    exact (hI.each y hy).2.1
  · exact hk.symm.pairwise (List.pairwise_map.2 hI.names) (fun h => Ne.symm h)
  · have := h1.mem_iff.1 hp
    simp only [mbE, List.mem_map] at this
    obtain ⟨y, hy, rfl⟩ := this
    exact ⟨y.v, by have := (hI.each y hy).1; rw [hL y hy] at this; exact this⟩
theorem own_base9 {w : World} {b b' : Nat} {e : TypeId} {size n : Nat} {v : Value} {xs : List Value} (h : w.ownsRow b e size v n xs) (hb : b' ≤ b) : w.ownsRow b' e size v n xs := by
  refine ⟨h.1, ?_⟩
  rcases h.2 with h | ⟨g, cap, cur, hv, hg, r⟩
  · exact .inl h
  · exact .inr ⟨g, cap, cur, hv, Nat.le_trans hb hg, r⟩
def AmsP (w : World) (L : List Am) (e : Ending) (w' : World) : Prop := ∃ A c, e = .returned (.tuple #[.slice A L.length c, .int .i64 0]) ∧ w'.ownsRow w.heap.size 50 6 (.slice A L.length c) L.length (recs amC L) ∧ Below w.heap.size w w'
theorem filter_snocA (E : List (Nm2 × Nat)) (V : Nm2 → Am) {i : Nat} {p : Nm2 × Nat} (h : E[i]? = some p) : ((E.take (i + 1)).map (fun q => V q.1)).filter shownA = ((E.take i).map (fun q => V q.1)).filter shownA ++ (if shownA (V p.1) then [V p.1] else []) := by
  rw [List.take_add_one, h, List.map_append, List.filter_append]
  simp only [Option.toList, List.map_cons, List.map_nil]
  cases hs : shownA (V p.1) <;> simp [hs]
set_option maxRecDepth 100000 in
set_option maxHeartbeats 4000000 in
theorem alarms_any (l : List Sg) (n c : Nat) (t : Int) (A : Option Addr) (w : World) (hl : SgsOk l) (hn : l.length = n) (hn2 : n ≤ 1000) (hr : Row w w.heap.size A (recs sgC l)) (ht0 : 0 ≤ t) (ht1 : t < 345686400000) :
    Calls Tryz.prog 25 #[.slice A n c, .int .i64 t] w fun e w' => AmsP w (amsL l t) e w' := by
  obtain ⟨i0, hi0, hz0, hz1, hz2⟩ := info_parts Tryz.infoAm
  have HC := Lib.hid (checkSignals_any l n c A w hl hn hn2 hr)
  have HA := Lib.hid (fun (V : World) (hV : Below w.heap.size w V) => at_any l n c t A V hn (by omega) ((hr.below hV).mono hV.size) (fun s hs => (hl.1 s hs).v))
  have HT := Lib.hid (And.intro ht0 ht1)
  have HLN := Lib.hid hn
  clear hl hn hr ht0 ht1
  go_enter Tryz.func25, Tryz.ntmps25
  go_wp2_with (fail)
  refine HC.out.mono ?_
  rintro e w1 ⟨rfl, hB1⟩
  have HB1 := Lib.hid hB1
  clear hB1
  go_wp2_with (go_at_call 55; refine (moment_yes _ _ HT.out.1 HT.out.2).mono ?_; rintro e w' ⟨rfl, rfl⟩)
  refine (HA.out w1 HB1.out).mono ?_
  rintro e w2 ⟨hs, m, o, M, rfl, hI, hord, hnm, hL, hB2⟩
  obtain ⟨E, eo, hE1, hE2, hE3, hE4, hE5⟩ := house_order hI hord hnm hL
  have HFIN := Lib.hid (show ((E.map fun p => viewL (lifeAt l t p.1) t).filter shownA) = amsL l t from by
    rw [← order_shown HT.out.1 hE1 hE2 hE3 hE4, List.map_map]; rfl)
  obtain ⟨Ao, co, hbo, hoo⟩ := hI.blk
  have hMl : M.length = E.length := by
    have h1 := hI.perm.length_eq
    rw [eo, List.length_map, List.length_map] at h1
    exact h1.symm
  have hcap : E.length ≤ 1000 := by
    have h1 : M.length = (namesOf l).length := by rw [← hnm, List.length_map]
    have h2 := namesOf_len l
    have := HLN.out
    omega
  obtain ⟨q, eq⟩ : ∃ q, q = E.length := ⟨_, rfl⟩
  rw [hMl, ← eq] at hbo hoo
  rw [eo] at hoo
  rw [← eq] at hcap
  have hc1 := cell_of_blk (j := 1) hbo rfl
  have hhl := (Array.getElem?_eq_some_iff.1 hbo).1
  have HB2 := Lib.hid (HB1.out.trans (hB2.mono HB1.out.size))
  have HE5 := Lib.hid hE5
  have HQ := Lib.hid eq.symm
  have HOO := Lib.hid hoo
  clear hI hord hnm hL hB2 eo hE1 hE2 hE3 hE4 hE5 hbo hoo hMl eq
  go_wp2_with (fail)
  go_loopw [7, 27] (fun v s wr => ∃ (i : Nat), i ≤ q ∧ s = .int .i64 (i : Int) ∧ w2.grownBy wr none ∧ wr.ownsRow w2.heap.size 50 6 v (((E.take i).map fun p => viewL (lifeAt l t p.1) t).filter shownA).length (recs amC (((E.take i).map fun p => viewL (lifeAt l t p.1) t).filter shownA))) (fun _ s _ => q - (intOf s).toNat)
  case atStart => exact ⟨0, by omega, rfl, grown_refl _ _, World.ownsRow_nil _ _ _ _⟩
  case round =>
    obtain ⟨i, hin, rfl, hgr, hown⟩ := hrel
    have HG := Lib.hid hgr
    have hbs := hgr.size
    have hbr : Below w2.heap.size w2 wr := ⟨hgr.os, hgr.tape, hgr.output, hgr.size, fun b hb => hgr.block b hb (by simp)⟩
    have HB := Lib.hid hbr
    obtain ⟨R, eR⟩ : ∃ R, R = ((E.take i).map fun p => viewL (lifeAt l t p.1) t).filter shownA := ⟨_, rfl⟩
    rw [← eR] at hown
    obtain ⟨r, er⟩ : ∃ r, r = R.length := ⟨_, rfl⟩
    rw [← er] at hown
    have hrl : r ≤ 1000 := by
      rw [er, eR]
      refine Nat.le_trans (List.length_filter_le _ _) ?_
      rw [List.length_map, List.length_take]
      omega
    have HO := Lib.hid hown
    have HR := Lib.hid (And.intro eR er)
    clear hgr hbr hown eR er
    by_cases hlt : i < q
    · have hltI : (i : Int) < q := by omega
      obtain ⟨p, hp⟩ : ∃ p, E[i]? = some p := ⟨_, List.getElem?_eq_getElem (by have := HQ.out; omega)⟩
      obtain ⟨v, hv⟩ := HE5.out p (List.mem_of_getElem? hp)
      obtain ⟨g, rfl, hgb, hglt⟩ : ∃ g, Ao = some ⟨g, 0, none⟩ ∧ w1.heap.size ≤ g ∧ g < w2.heap.size := by
        rcases own_two HOO.out with ⟨_, h0, _⟩ | ⟨g, h1, h2, h3⟩
        · omega
        · exact ⟨g, h1, h2, h3⟩
      have hci := own_cells0 HOO.out i (lfP p.2) (by rw [List.getElem?_map, List.getElem?_map, hp]; rfl)
      rw [Nat.zero_add] at hci
      have d0 := (HB.out.cell (p := ⟨g, i, none⟩) hglt).trans hci
      have HV := Lib.hid (view_any p.2 t _ v wr (hv.below HB.out))
      have HSN := Lib.hid (filter_snocA E (fun n => viewL (lifeAt l t n) t) hp)
      have hgl : g < wr.heap.size := by omega
      unfold lfP at d0
      obtain ⟨x, ex⟩ : ∃ x, x = p.2 := ⟨_, rfl⟩
      obtain ⟨a, ea⟩ : ∃ a, a = viewL (lifeAt l t p.1) t := ⟨_, rfl⟩
      rw [← ex] at d0 HV
      unfold ViewPost at HV
      rw [← ea] at HV HSN
      obtain ⟨sh, esh⟩ : ∃ sh, sh = shownA a := ⟨_, rfl⟩
      rw [← esh] at HV HSN
      clear hci hv hp ex ea esh
      go_wp2_with (fail)
      refine HV.out.mono ?_
      rintro e w3 ⟨rfl, hb3⟩
      have HB3 := Lib.hid hb3
      have HO3 := Lib.hid (own_belowP HO.out hb3)
      have HG3 := Lib.hid (grown_more HG.out (grown_belowP (r := none) hb3) (by simp))
      have hs3 := hb3.size
      clear hb3 d0
      unfold amC
      go_upto_region 11 with (fail)
      obtain ⟨g7, eg⟩ : ∃ g, g = w3.heap.size := ⟨_, rfl⟩
      obtain ⟨w4, e4⟩ : ∃ w4, w4 = w3.alloc (.cells #[.string (aldT a.d), .string (alrT a.r), .int .i64 a.st, .int .i64 a.si, .int .i64 a.n, .int .i64 a.sh] 50) := ⟨_, rfl⟩
      rw [← eg, ← e4]
      have hg4 : w4.heap[g7]? = some (.cells #[.string (aldT a.d), .string (alrT a.r), .int .i64 a.st, .int .i64 a.si, .int .i64 a.n, .int .i64 a.sh] 50 (0, 0)) := by rw [e4, eg]; exact heap_new w3 _
      have hB4 : Below w3.heap.size w3 w4 := by rw [e4]; exact (Below.refl _ _).alloc (Nat.le_refl _) _
      have hlt4 : g7 < w4.heap.size := by rw [e4, eg]; simp
      have hs4 := hB4.size
      have HO4 := Lib.hid (own_belowP HO3.out hB4)
      have HG4 := Lib.hid (grown_more HG3.out (grown_belowP (r := none) hB4) (by simp))
      obtain ⟨q0, q1, q2, q3, q4, q5⟩ := box6 hg4
      clear eg e4 hg4 hB4
      cases sh
      case false =>
        have HN := Lib.hid (show ((E.take (i + 1)).map fun p => viewL (lifeAt l t p.1) t).filter shownA = R from by rw [HSN.out, ← HR.out.1]; simp)
        go_wp2_with (fail)
        go_roundw
        case rel => exact ⟨i + 1, by omega, by simp, HG4.out, by rw [HN.out, ← HR.out.2]; exact HO4.out⟩
        case measure => simp [intOf]; omega
      case true =>
        have HN := Lib.hid (show ((E.take (i + 1)).map fun p => viewL (lifeAt l t p.1) t).filter shownA = R ++ [a] from by rw [HSN.out, ← HR.out.1]; simp)
        go_wp2_with (at_builtin; refine wpList_append_own2 _ rfl _ _ 67 rfl w2.heap.size 50 i0 _ 6 64 Tryz.underlying67 hi0 hz0 hz1 hz2 rfl (by decide) _ _ _ rfl (HO4.out.alloc _) ⟨_, 0, none⟩ 1 1 (amC a) rfl rfl ?c1 ?c2 ?c3 ?c4 ?c5 ?_)
        case c1 => first | exact cells_add (cells_atF (by rfl) (by first | rfl | simp)) | exact fun j u h => h
        case c2 => exact amC_one _
        case c3 => unfold maxLen; omega
        case c4 => omega
        case c5 => first | omega | (simp; omega)
        intro v9 w9 ho9 hg9 hm9
        have hlo : ∀ k, u7.ownBlock = some k → w2.heap.size ≤ k := fun k hk => (HO4.out.lt k hk).1
        have HG9 := Lib.hid (grown_more (grown_more HG4.out (World.grownBy_alloc _ _ none) (by simp)) hg9 hlo)
        have HO9 := Lib.hid ho9
        clear ho9 hg9 hm9 hlo
        go_wp2_with (fail)
        go_roundw
        case rel => exact ⟨i + 1, by omega, by simp, HG9.out, by rw [HN.out, recs_snoc, List.length_append, ← HR.out.2]; exact HO9.out⟩
        case measure => simp [intOf]; omega
    · have hltI : ¬ (i : Int) < q := by omega
      have hin' : i = q := by omega
      obtain ⟨A9, c9, rfl⟩ := own_slice HO.out
      have HF := Lib.hid (show AmsP w (amsL l t) (.returned (.tuple #[.slice A9 r c9, .int .i64 0])) wr from by
        have e1 : R = amsL l t := by rw [HR.out.1, ← HFIN.out, hin', ← HQ.out, List.take_length]
        have ho := HO.out
        rw [HR.out.2, e1] at ho ⊢
        exact ⟨A9, c9, rfl, own_base9 ho HB2.out.size, HB2.out.trans (HB.out.mono HB2.out.size)⟩)
      go_wp2_with (fail)
      exact bodyPost_ret (v := .tuple #[.slice A9 r c9, .int .i64 0]) (by simp [results, Tryz.results25, go_sem]) rfl HF.out
theorem am_cells {w : World} {b o : Nat} {l : List Am} (h : Cells w b o (recs amC l)) (i : Nat) (x : Am) (hx : l[i]? = some x) : w.cell? ⟨b, o + i * 6, none⟩ = some (.string (aldT x.d)) ∧ w.cell? ⟨b, o + i * 6 + 1, none⟩ = some (.string (alrT x.r)) ∧ w.cell? ⟨b, o + i * 6 + 2, none⟩ = some (.int .i64 x.st) ∧ w.cell? ⟨b, o + i * 6 + 3, none⟩ = some (.int .i64 x.si) ∧ w.cell? ⟨b, o + i * 6 + 4, none⟩ = some (.int .i64 x.n) ∧ w.cell? ⟨b, o + i * 6 + 5, none⟩ = some (.int .i64 x.sh) :=
  ⟨rec_cell amC_len h i x hx 0 _ rfl, rec_cell amC_len h i x hx 1 _ rfl, rec_cell amC_len h i x hx 2 _ rfl, rec_cell amC_len h i x hx 3 _ rfl, rec_cell amC_len h i x hx 4 _ rfl, rec_cell amC_len h i x hx 5 _ rfl⟩
set_option maxHeartbeats 2000000 in
theorem eqAm_any (l : List Am) (n c c' : Nat) (A A' : Option Addr) (w : World) (hn : l.length = n) (hn2 : n ≤ 1000000) (hr : Row w w.heap.size A (recs amC l)) (hr' : Row w w.heap.size A' (recs amC l)) :
    Calls Tryz.prog 26 #[.slice A n c, .slice A' n c'] w fun e w' => e = .returned (.bool true) ∧ Below w.heap.size w w' := by
  have HR := Lib.hid hr
  have HR' := Lib.hid hr'
  have HN := Lib.hid hn
  clear hr hr' hn
  go_enter Tryz.func26, Tryz.ntmps26
  go_wp2_with (fail)
  go_loopw [13] (fun i wr => ∃ k : Nat, k ≤ n ∧ i = .int .i64 k ∧ Below w.heap.size w wr) (fun i _ => n - (intOf i).toNat)
  case atStart => exact ⟨0, Nat.zero_le _, rfl, Below.refl _ _⟩
  case round =>
    obtain ⟨k, hk, rfl, hbl⟩ := hrel
    by_cases hlt : k < n
    · have hkl : k < l.length := by have := HN.out; omega
      obtain ⟨b, o, rfl, hb, hc⟩ := (HR.out).posR amC_len (by omega) (by omega)
      obtain ⟨b', o', rfl, hb', hc'⟩ := (HR'.out).posR amC_len (by omega) (by omega)
      obtain ⟨x, hx⟩ : ∃ x, l[k]? = some x := ⟨_, List.getElem?_eq_getElem hkl⟩
      obtain ⟨c0, c1, c2, c3, c4, c5⟩ := am_cells (hc.keep (hbl.block b hb)) k x hx
      obtain ⟨d0, d1, d2, d3, d4, d5⟩ := am_cells (hc'.keep (hbl.block b' hb')) k x hx
      have HBL := Lib.hid hbl
      have hlt' : (k : Int) < (n : Int) := by omega
      clear hbl hx hkl hc hc'
      go_wp2_with (fail)
      go_quiet (fail)
      go_wp2_with (fail)
      go_roundw
      case rel => exact ⟨k + 1, by omega, by go_num, below_drewN HBL.out _⟩
      case measure => simp [intOf]; omega
    · have HBL := Lib.hid hbl
      clear hbl
      go_wp2_with (fail)
      go_ret
      exact ⟨rfl, HBL.out⟩
end Go.Proofs.YtkabcipccpbphaaGreatDoor

/- alarm.RefusedOf by its contract. -/
namespace Go.Proofs.YtkabcipccpbphaaGreatDoor
open Go.RowKit Go.Shelf

theorem Tryz.infoRf : (Tryz.prog.info? 65).map (fun i => (i.zero, i.size, i.bytes)) = some (some (.agg #[.int .i64 0, .int .i64 0]), 2, 16) := by kernel_rfl
def rfC (z : Nat × Int) : List Value := [.int .i64 (z.1 : Int), .int .i64 z.2]
theorem rfC_len (z : Nat × Int) : (rfC z).length = 2 := rfl
theorem rfC_one (z : Nat × Int) : ∀ u ∈ rfC z, u.oneCell' = true := by
  intro u hu
  simp only [rfC, List.mem_cons, List.not_mem_nil, or_false] at hu
  rcases hu with rfl | rfl <;> rfl
/-- A block of refused signals. -/
def IsRf (w : World) (b : Nat) : Prop := ∃ cs f, w.heap[b]? = some (.cells cs 65 f)
theorem ty_ref {t : TypeId} (h : t = 119 ∨ ∃ m, t = rTy m) : t ≠ 65 := by
  rcases h with rfl | ⟨m, rfl⟩
  · decide
  · match m with
    | 0 => decide
    | 1 => decide
    | 2 => decide
    | 3 => decide
    | _ + 4 => exact (by decide : (3 : TypeId) ≠ 65)
theorem foot_ref {w : World} {x b : Nat} {L : Lf} {v : Nat → Value} (h : LfI w x L v) (hf : lfFoot x v b) : ¬ IsRf w b := by
  rintro ⟨cs, f, hb⟩
  obtain ⟨cs', t, f', hb', ht⟩ := foot_cells h hf
  rw [hb] at hb'
  injection hb' with hb'
  injection hb' with _ hb' _
  exact ty_ref ht hb'.symm
theorem HsI.keepR {w w' : World} {B hs m : Nat} {o : List Nat} {M : List Mb} (h : HsI w B hs m o M) (hk : ∀ b, b < w.heap.size → ¬ IsRf w b → w'.heap[b]? = w.heap[b]?) : HsI w' B hs m o M := by
  obtain ⟨h1, h2⟩ := h.len
  obtain ⟨A, c, h3, h4⟩ := h.blk
  refine ⟨⟨A, c, (hk hs h1 ?_).trans h3, own_keptB h4 fun b hb => hk b (own_block_lt h4 hb) ?_⟩, (hk m h2 ?_).trans h.map, fun y hy => ?_, h.low, h.names, h.apart, h.perm, h.lo⟩
  · rintro ⟨cs, f, hb⟩
    rw [h3] at hb
    injection hb with hb
    injection hb with _ hb _
    exact (by decide : (112 : TypeId) ≠ 65) hb
  · rintro ⟨cs, f, hg⟩
    exact own_ne h4 hg (by decide : (108 : TypeId) ≠ 65) hb.symm
  · rintro ⟨cs, f, hb⟩
    rw [h.map] at hb
    injection hb with hb
    cases hb
  · obtain ⟨g1, g2⟩ := h.each y hy
    exact ⟨g1.keep fun b hb => hk b (g1.foot_lt hb) (foot_ref g1 hb), g2⟩
theorem own_rf {w : World} {base n g : Nat} {v : Value} {xs : List Value} (h : w.ownsRow base 65 2 v n xs) (hg : v.ownBlock = some g) : IsRf w g := by
  obtain ⟨A, c, rfl⟩ := own_slice h
  rcases own_two h with ⟨rfl, _, _⟩ | ⟨q, rfl, _, _⟩
  · cases hg
  · obtain ⟨cs, hcs⟩ := own_blk h
    have : q = g := by simpa [Value.ownBlock] using hg
    subst this
    exact ⟨cs, _, hcs⟩
def RfP (w : World) (L : List (Nat × Int)) (e : Ending) (w' : World) : Prop := ∃ A c, e = .returned (.tuple #[.slice A L.length c, .int .i64 0]) ∧ w'.ownsRow w.heap.size 65 2 (.slice A L.length c) L.length (recs rfC L) ∧ Below w.heap.size w w'
theorem refU_len (l : List Sg) : ∀ k, (refU l k).length ≤ k := by
  intro k
  induction k with
  | zero => exact Nat.le_refl _
  | succ k ih =>
    simp only [refU, List.length_append]
    split
    · split
      · simp; omega
      · simp; omega
    · simp; omega
set_option maxRecDepth 100000 in
set_option maxHeartbeats 4000000 in
theorem refusedOf_any (l : List Sg) (n c : Nat) (A : Option Addr) (w : World) (hl : SgsOk l) (hn : l.length = n) (hn2 : n ≤ 1000) (hr : Row w w.heap.size A (recs sgC l)) :
    Calls Tryz.prog 22 #[.slice A n c] w fun e w' => RfP w (refU l l.length) e w' := by
  obtain ⟨i0, hi0, hz0, hz1, hz2⟩ := info_parts Tryz.infoRf
  have HC := Lib.hid (checkSignals_any l n c A w hl hn hn2 hr)
  have HA := Lib.hid (fun (V : World) (hV : Below w.heap.size w V) => newHouse_any l n c A V hn (by omega) ((hr.below hV).mono hV.size) (fun s hs => (hl.1 s hs).v.nm))
  have HN := Lib.hid hn
  have HR := Lib.hid hr
  have HOK := Lib.hid (fun s hs => (hl.1 s hs).v)
  clear hl hn hr
  go_enter Tryz.func22, Tryz.ntmps22
  go_wp2_with (fail)
  refine HC.out.mono ?_
  rintro e w1 ⟨rfl, hB1⟩
  have HB1 := Lib.hid hB1
  clear hB1
  go_wp2_with (fail)
  refine (HA.out w1 HB1.out).mono ?_
  rintro e w2 ⟨hs, m, o, M0, rfl, hI, hord, hnm, hL, hB2⟩
  have H1 := Lib.hid (And.intro hI (And.intro hnm hL))
  have HB2 := Lib.hid (HB1.out.trans (hB2.mono HB1.out.size))
  have HB12 := Lib.hid hB2
  clear hI hord hnm hL hB2
  go_wp2_with (fail)
  go_loopw [6, 19] (fun v s wr => ∃ (i : Nat) (M : List Mb), i ≤ n ∧ s = .int .i64 (i : Int) ∧ HsI wr w1.heap.size hs m o M ∧ M.map (·.n) = namesOf l ∧ (∀ y ∈ M, y.L = lifeAt (l.take i) alEnd y.n) ∧ Below w1.heap.size w1 wr ∧ wr.ownsRow w1.heap.size 65 2 v (refU l i).length (recs rfC (refU l i)) ∧ Below w.heap.size w wr) (fun _ s _ => n - (intOf s).toNat)
  case atStart => exact ⟨0, M0, Nat.zero_le _, rfl, H1.out.1, H1.out.2.1, (fun y hy => by rw [H1.out.2.2 y hy]; simp [lifeAt]), HB12.out, World.ownsRow_nil _ _ _ _, HB2.out⟩
  case round =>
    obtain ⟨i, M, hin, rfl, hI, hnm, hL, hbr, hown, hbw⟩ := hrel
    have hbs := hbr.size
    by_cases hlt : i < n
    · obtain ⟨s, hs'⟩ : ∃ s, l[i]? = some s := ⟨_, List.getElem?_eq_getElem (by have := HN.out; omega)⟩
      obtain ⟨b, ob, hA, hb, hcs⟩ := HR.out.posR sgC_len (by omega) (by have := HN.out; omega)
      subst hA
      have hcc := fun j u hj => (hbw.cell (p := ⟨b, ob + i * 6 + j, none⟩) hb).trans (rec_cell sgC_len hcs i s hs' j u hj)
      have d0 := hcc 0 _ rfl
      have d1 := hcc 1 _ rfl
      have d2 := hcc 2 _ rfl
      have d3 := hcc 3 _ rfl
      have d4 := hcc 4 _ rfl
      have d5 := hcc 5 _ rfl
      simp only [Nat.add_zero] at d0
      have hsn := HOK.out s (List.mem_of_getElem? hs')
      have hbwl := hbw.size
      have hbl : b < wr.heap.size := by omega
      have hltI : (i : Int) < (n : Int) := by omega
      have hnmE : (s.d, s.r) ∈ M.map (·.n) := by rw [hnm, mem_namesOf]; exact ⟨s, List.mem_of_getElem? hs', rfl⟩
      obtain ⟨x, hx⟩ : ∃ x, lkN (mbE M) (s.d, s.r) = some x := by
        cases h : lkN (mbE M) (s.d, s.r) with
        | some x => exact ⟨x, rfl⟩
        | none => exact absurd hnmE (lkN_none.1 h)
      obtain ⟨P, y, S, rfl, hyn, _, hPn⟩ := lkN_split hx
      have hwb : Below wr.heap.size wr (wr.alloc (sgO s)) := (Below.refl _ _).alloc (Nat.le_refl _) _
      have hyM : y ∈ P ++ y :: S := by simp
      have hyL := hL y hyM
      have htk : l.take (i + 1) = l.take i ++ [s] := by rw [List.take_add_one, hs']; rfl
      have hLk : LfOk y.L i := by
        rw [hyL]
        have := lifeAt_ok alEnd y.n (l.take i) (fun q hq => HOK.out q (List.mem_of_mem_take hq))
        exact this.mono (by rw [List.length_take]; omega)
      have hIb := hI.below hwb
      have HF := Lib.hid (hfollow_gr hs m w1.heap.size i o P S y s _ hIb (fun z hz => by rw [hyn]; exact hPn z hz) hyn (Nat.le_trans hbs hwb.size) hLk (by omega) hsn.kd hsn.at0 hsn.at1)
      have HFT := Lib.hid (fun b hb => foot_ref (hIb.each y hyM).1 (b := b) hb)
      obtain ⟨z, ez⟩ : ∃ z, z = (followL y.L s).2 := ⟨_, rfl⟩
      have HZ := Lib.hid (show z = whyAt l i s from by rw [ez, hyL, hyn]; rfl)
      rw [← ez] at HF
      obtain ⟨R, eR⟩ : ∃ R, R = refU l i := ⟨_, rfl⟩
      have hRl : R.length ≤ i := by rw [eR]; exact refU_len l i
      have HRS := Lib.hid (refU_some hs')
      rw [← eR] at hown HRS
      obtain ⟨r, er⟩ : ∃ r, r = R.length := ⟨_, rfl⟩
      rw [← er] at hown hRl
      have HER := Lib.hid er
      have HO := Lib.hid (own_belowP hown hwb)
      unfold sgV sgO at HF
      unfold sgO at HO HFT
      have HT := Lib.hid htk
      have HAT := Lib.hid (show s.at_ ≤ alEnd from by have := hsn.at1; omega)
      have HI := Lib.hid (And.intro hnm (And.intro hL (And.intro hyn (And.intro hyL hPn))))
      have HBR := Lib.hid (And.intro (hbr.trans (hwb.mono hbs)) (hbw.trans (hwb.mono hbwl)))
      unfold sgO at HBR
      clear hcc hcs hs' hsn hI hIb hnm hL hbr hbw hnmE hx hwb hyM hyL hLk htk hPn ez eR er hown
      go_wp2_with (fail)
      refine HF.out.mono ?_
      rintro e w3 ⟨rfl, ⟨v', hI2⟩, hb2, hgf⟩
      have HI2 := Lib.hid (And.intro hI2 (HBR.out.1.trans hb2))
      have HW2 := Lib.hid (show Below w.heap.size w w3 from HBR.out.2.trans (hb2.mono HB1.out.size))
      have HO3 := Lib.hid (show w3.ownsRow w1.heap.size 65 2 u6 r (recs rfC R) from own_keptB HO.out (fun q hq => hgf.block q (own_block_lt HO.out hq) (fun hf => HFT.out q hf (own_rf HO.out hq))))
      have HL2 := Lib.hid (show ∀ z ∈ P ++ { y with L := (followL y.L s).1, v := v' } :: S, z.L = lifeAt (l.take (i + 1)) alEnd z.n from fun z hz => by
        have hnn := hI2.names
        have hyn := HI.out.2.2.1
        rw [HT.out, lifeAt_snoc]
        unfold lifeStep
        rcases List.mem_append.1 hz with hz | hz
        · rw [if_neg (fun h => HI.out.2.2.2.2 z hz h.1.symm)]
          exact HI.out.2.1 z (List.mem_append_left _ hz)
        · rcases List.mem_cons.1 hz with rfl | hz
          · rw [if_pos ⟨hyn.symm, HAT.out⟩]
            show (followL y.L s).1 = _
            rw [HI.out.2.2.2.1]
          · have h1 := (List.pairwise_cons.1 (List.pairwise_append.1 hnn).2.1).1 z hz
            rw [if_neg (fun h => h1 (hyn.trans h.1))]
            exact HI.out.2.1 z (List.mem_append_right _ (List.mem_cons_of_mem _ hz)))
      clear hI2 hb2 hgf d0 d1 d2 d3 d4 d5
      by_cases hz0 : z = 0
      · have hzb : (z != 0) = false := by simpa using hz0
        have HN2 := Lib.hid (show refU l (i + 1) = R from by rw [HRS.out, if_pos (by rw [← HZ.out]; exact hz0), List.append_nil])
        clear hz0
        go_wp2_with (fail)
        go_roundw
        case rel => exact ⟨i + 1, P ++ { y with L := (followL y.L s).1, v := v' } :: S, by omega, by go_num, HI2.out.1, by rw [← HI.out.1]; simp, HL2.out, HI2.out.2, by rw [HN2.out, ← HER.out]; exact HO3.out, HW2.out⟩
        case measure => simp [intOf]; omega
      · have hzb : (z != 0) = true := by simpa using hz0
        have HN2 := Lib.hid (show refU l (i + 1) = R ++ [(i, z)] from by rw [HRS.out, if_neg (by rw [← HZ.out]; exact hz0), HZ.out])
        clear hz0
        have hw13 : w1.heap.size ≤ w3.heap.size := HI2.out.2.size
        go_wp2_with (at_builtin; refine wpList_append_own2 _ rfl _ _ 60 rfl w1.heap.size 65 i0 _ 2 16 Tryz.underlying60 hi0 hz0 hz1 hz2 rfl (by decide) _ _ _ rfl (HO3.out.alloc _) ⟨_, 0, none⟩ 1 1 (rfC (i, z)) rfl rfl ?c1 ?c2 ?c3 ?c4 ?c5 ?_)
        case c1 => first | exact cells_add (cells_atF (by rfl) (by first | rfl | simp)) | exact fun j u h => h
        case c2 => exact rfC_one _
        case c3 => unfold maxLen; omega
        case c4 => omega
        case c5 => first | omega | (simp; omega)
        intro v9 w9 ho9 hg9 hm9
        have hlo : ∀ k, u6.ownBlock = some k → w1.heap.size ≤ k := fun k hk => (HO3.out.lt k hk).1
        have HO9 := Lib.hid ho9
        have HI9 := Lib.hid (show HsI w9 w1.heap.size hs m o (P ++ { y with L := (followL y.L s).1, v := v' } :: S) from by
          have hal := HI2.out.1.below ((Below.refl _ w3).alloc (Nat.le_refl _) (.cells #[.int .i64 (i : Int), .int .i64 z] 65))
          exact hal.keepR fun b hb hnr => hg9.block b hb (fun e => hnr (own_rf (HO3.out.alloc _) e.symm)))
        have HB9 := Lib.hid (show Below w1.heap.size w1 w9 from (HI2.out.2.alloc hw13 _).grown hg9 (by simp; omega) hlo)
        have HW9 := Lib.hid (show Below w.heap.size w w9 from HB1.out.trans (HB9.out.mono HB1.out.size))
        clear ho9 hg9 hm9 hlo
        go_wp2_with (fail)
        go_roundw
        case rel => exact ⟨i + 1, P ++ { y with L := (followL y.L s).1, v := v' } :: S, by omega, by go_num, HI9.out, by rw [← HI.out.1]; simp, HL2.out, HB9.out, by rw [HN2.out, recs_snoc, List.length_append, ← HER.out]; exact HO9.out, HW9.out⟩
        case measure => simp [intOf]; omega
    · have hni : i = n := by omega
      have hltI : ¬ (i : Int) < (n : Int) := by omega
      obtain ⟨A9, c9, rfl⟩ := own_slice hown
      have HF := Lib.hid (show RfP w (refU l l.length) (.returned (.tuple #[.slice A9 (refU l i).length c9, .int .i64 0])) wr from by
        rw [HN.out, ← hni]
        exact ⟨A9, c9, rfl, own_base9 hown HB1.out.size, hbw⟩)
      clear hI hnm hL hbr hown hbw hni
      go_wp2_with (fail)
      exact bodyPost_ret (v := .tuple #[.slice A9 (refU l i).length c9, .int .i64 0]) (by simp [results, Tryz.results22, go_sem]) rfl HF.out
end Go.Proofs.YtkabcipccpbphaaGreatDoor

/- RefusedCanGo: slices.ContainsFunc of refused signals with the law's function. -/
namespace Go.Proofs.YtkabcipccpbphaaGreatDoor
open Go.RowKit

theorem rf_cells {w : World} {b o : Nat} {l : List (Nat × Int)} (h : Cells w b o (recs rfC l)) (i : Nat) (x : Nat × Int) (hx : l[i]? = some x) : w.cell? ⟨b, o + i * 2, none⟩ = some (.int .i64 (x.1 : Int)) ∧ w.cell? ⟨b, o + i * 2 + 1, none⟩ = some (.int .i64 x.2) :=
  ⟨rec_cell rfC_len h i x hx 0 _ rfl, rec_cell rfC_len h i x hx 1 _ rfl⟩
set_option maxRecDepth 100000 in
theorem rcF_any (x : Nat × Int) (i g : Nat) (w : World) (h : w.cell? ⟨g, 0, none⟩ = some (.int .i64 (i : Int))) :
    Calls Tryz.prog 24 #[.agg #[.int .i64 (x.1 : Int), .int .i64 x.2], .pointer (some ⟨g, 0, none⟩)] w fun e w' => e = .returned (.bool (decide (x.1 = i))) ∧ Below w.heap.size w w' := by
  have hg := World.block_lt_of_cell? w _ h
  simp only at hg
  obtain ⟨a, b⟩ := x
  simp only
  by_cases hab : a = i
  · have hb : ((a : Int) == (i : Int)) = true := by simp [hab]
    rw [decide_eq_true hab]
    clear hab
    go_enter Tryz.func24, Tryz.ntmps24
    go_wp2_with (fail)
    go_ret
    exact ⟨by simp, (Below.refl _ _).alloc (Nat.le_refl _) _⟩
  · have hb : ((a : Int) == (i : Int)) = false := by simp; omega
    rw [decide_eq_false hab]
    clear hab
    go_enter Tryz.func24, Tryz.ntmps24
    go_wp2_with (fail)
    go_ret
    exact ⟨by simp, (Below.refl _ _).alloc (Nat.le_refl _) _⟩
def IdxR (L : List (Nat × Int)) (i : Nat) (w : World) (e : Ending) (w' : World) : Prop := ∃ z : Int, e = .returned (.int .i64 z) ∧ (0 ≤ z ↔ ∃ x ∈ L, x.1 = i) ∧ Below w.heap.size w w'
set_option maxRecDepth 100000 in
set_option maxHeartbeats 1000000 in
theorem indexRf_any (L : List (Nat × Int)) (n c g k : Nat) (A : Option Addr) (w : World) (hn : L.length = n) (hn2 : n ≤ 100000) (hr : Row w w.heap.size A (recs rfC L)) (h : w.cell? ⟨g, 0, none⟩ = some (.int .i64 (k : Int))) :
    Calls Tryz.prog 66 #[.slice A n c, .func (.func 24) #[] #[.pointer (some ⟨g, 0, none⟩)]] w fun e w' => IdxR L k w e w' := by
  have hg := World.block_lt_of_cell? w _ h
  simp only at hg
  have HR := Lib.hid hr
  have HN := Lib.hid hn
  have HC := Lib.hid h
  clear hr hn h
  go_enter Tryz.func66, Tryz.ntmps66
  go_wp2_with (fail)
  go_loopw [8] (fun s wr => ∃ (i : Nat), i ≤ n ∧ s = .int .i64 (i : Int) ∧ Below w.heap.size w wr ∧ Hid (∀ x ∈ L.take i, ¬ x.1 = k)) (fun s _ => n - (intOf s).toNat)
  case atStart => exact ⟨0, by omega, rfl, Below.refl _ _, Lib.hid (by simp)⟩
  case round =>
    obtain ⟨i, hin, rfl, hbr, HK⟩ := hrel
    have hbs := hbr.size
    have HB := Lib.hid hbr
    clear hbr
    by_cases hlt : i < n
    · have hltI : (i : Int) < n := by omega
      obtain ⟨x, hx⟩ : ∃ x, L[i]? = some x := ⟨_, List.getElem?_eq_getElem (by have := HN.out; omega)⟩
      obtain ⟨b, o, rfl, hb, hC⟩ := (HR.out.below HB.out).posR rfC_len (by omega) (by have := HN.out; omega)
      obtain ⟨c0, c1⟩ := rf_cells hC i x hx
      have HL := Lib.hid (rcF_any x k g wr ((HB.out.cell (p := ⟨g, 0, none⟩) hg).trans HC.out))
      have HX := Lib.hid hx
      have hb' : b < wr.heap.size := by omega
      clear hx hC
      obtain ⟨t, et⟩ : ∃ t, t = decide (x.1 = k) := ⟨_, rfl⟩
      rw [← et] at HL
      have HE := Lib.hid (show t = true ↔ x.1 = k from by rw [et]; simp)
      clear et
      go_wp2_with (fail)
      refine HL.out.mono ?_
      rintro e w2 ⟨rfl, hb2⟩
      have HB2 := Lib.hid (HB.out.trans (hb2.mono hbs))
      clear hb2
      cases t
      case false =>
        have HK2 := Lib.hid (show ∀ y ∈ L.take (i + 1), ¬ y.1 = k from by
          rw [List.take_add_one, HX.out]
          intro y hy
          rw [List.mem_append] at hy
          rcases hy with hy | hy
          · exact HK.out y hy
          · simp at hy; subst hy; simpa using HE.out)
        go_wp2_with (fail)
        go_roundw
        case rel => exact ⟨i + 1, by omega, by simp, HB2.out, HK2⟩
        case measure => simp [intOf]; omega
      case true =>
        have HF := Lib.hid (show ∃ x ∈ L, x.1 = k from ⟨x, List.mem_of_getElem? HX.out, by simpa using HE.out⟩)
        go_wp2_with (fail)
        go_ret
        exact ⟨(i : Int), rfl, ⟨fun _ => HF.out, fun _ => by omega⟩, HB2.out⟩
    · have hltI : ¬ (i : Int) < n := by omega
      have hin' : i = n := by omega
      subst hin'
      go_wp2_with (fail)
      go_ret
      exact ⟨-1, rfl, ⟨fun h => by omega, fun ⟨x, hx, hw⟩ => absurd hw (by have := HK.out; rw [← HN.out, List.take_length] at this; exact this x hx)⟩, HB.out⟩
theorem containsRf_any (L : List (Nat × Int)) (n c g k : Nat) (A : Option Addr) (w : World) (hn : L.length = n) (hn2 : n ≤ 100000) (hr : Row w w.heap.size A (recs rfC L)) (h : w.cell? ⟨g, 0, none⟩ = some (.int .i64 (k : Int))) :
    Calls Tryz.prog 23 #[.slice A n c, .func (.func 24) #[] #[.pointer (some ⟨g, 0, none⟩)]] w fun e w' => ∃ t : Bool, e = .returned (.bool t) ∧ (t = true ↔ ∃ x ∈ L, x.1 = k) ∧ Below w.heap.size w w' := by
  have HI := Lib.hid (indexRf_any L n c g k A w hn hn2 hr h)
  clear hn hr h
  go_enter Tryz.func23, Tryz.ntmps23
  go_wp2_with (fail)
  refine HI.out.mono ?_
  rintro e w1 ⟨z, rfl, hz, hb1⟩
  have HB := Lib.hid hb1
  have HZ := Lib.hid hz
  clear hz hb1
  go_wp2_with (fail)
  go_ret
  exact ⟨decide (0 ≤ z), rfl, by rw [← HZ.out]; simp, HB.out⟩
end Go.Proofs.YtkabcipccpbphaaGreatDoor

/- RefusedCanGo: the law function. -/
namespace Go.Proofs.YtkabcipccpbphaaGreatDoor
open Go.RowKit

theorem row_ownR {α : Type} {f : α → List Value} {k : Nat} {w : World} {base n c : Nat} {e : TypeId} {A : Option Addr} {l : List α} (ho : w.ownsRow base e k (.slice A n c) n (recs f l)) (hn : l.length = n) : Row w w.heap.size A (recs f l) := by
  rcases own_two ho with ⟨rfl, h0, _⟩ | ⟨g, rfl, _, hlt⟩
  · have : l = [] := List.eq_nil_of_length_eq_zero (by omega)
    subst this
    exact .inl rfl
  · exact .inr ⟨g, 0, rfl, hlt, own_cells0 ho⟩
theorem keepU_len (l : List Sg) : ∀ k, (keepU l k).length ≤ k := by
  intro k
  induction k with
  | zero => exact Nat.le_refl _
  | succ k ih =>
    simp only [keepU, List.length_append]
    split
    · split
      · simp; omega
      · simp; omega
    · simp; omega
set_option maxRecDepth 100000 in
set_option maxHeartbeats 8000000 in
theorem rcL_yes (w : World) (xs : List Int) (n c : Nat) (A0 : Option Addr) (hs : ∀ (W : World), Below w.heap.size w W → W.heap[w.heap.size]? = some (.cells #[.slice A0 n c, .int .i64 0] 25) → Strm W w.heap.size xs 0) (hT : RkW w) :
    Calls Tryz.prog 6 #[.slice A0 n c] w fun e w' => e = .returned (.bool true) ∧ Below w.heap.size w w' := by
  obtain ⟨i0, hi0, hz0, hz1, hz2⟩ := info_parts Tryz.infoSg
  have HS := Lib.hid hs
  have HT := Lib.hid (fun V (hV : Below w.heap.size w V) => hT.below hV)
  clear hs hT
  go_enter Tryz.func6, Tryz.ntmps6
  go_upto_region 2 with (fail)
  generalize hW : w.alloc (.cells #[.slice A0 n c, .int .i64 0] 25) = w0
  have hsz0 : w.heap.size < w0.heap.size := by rw [← hW]; simp
  have hB0 : Below w.heap.size w w0 := hW ▸ (Below.refl _ _).alloc (Nat.le_refl _) _
  have HST0 := Lib.hid (HS.out w0 hB0 (by rw [← hW]; exact heap_new w _))
  have HB0 := Lib.hid hB0
  clear hW hB0 HS
  obtain ⟨p, ep⟩ : ∃ p, p = w.heap.size := ⟨_, rfl⟩
  have hpw : w.heap.size ≤ p := by omega
  rw [← ep] at HST0 hsz0 ⊢
  clear ep
  go_wp2_with (fail)
  refine (range_nat w0 p 0 14 xs (by omega) (by omega) HST0.out).mono ?_
  have hNl := nextN_lt xs 0 15 (by omega)
  obtain ⟨N, eN⟩ : ∃ N, N = nextN xs 0 15 := ⟨_, rfl⟩
  rw [← eN] at hNl ⊢
  clear eN
  rintro e w1 ⟨rfl, hst1, hg1⟩
  have HST1 := Lib.hid hst1
  have HB1 := Lib.hid (HB0.out.grown hg1 HB0.out.size (fun q hq => by cases hq; exact hpw))
  have hsz1 : p < w1.heap.size := Nat.lt_of_lt_of_le hsz0 hg1.size
  clear hst1 hg1
  go_wp2_with (fail)
  refine (signals_any w1 p 1 N xs (by omega) (by omega) HST1.out).mono ?_
  rintro e w2 ⟨l, A, cl, k', m, rfl, hG, hlen, hmN, ho, hst2, hk2, hg2⟩
  have HB2 := Lib.hid (HB1.out.grown hg2 HB1.out.size (fun q hq => by cases hq; exact hpw))
  have HO2 := Lib.hid ho
  have HST2 := Lib.hid hst2
  have HLN := Lib.hid hlen
  have HGG := Lib.hid hG
  clear ho hst2 hg2 hlen hG
  have hm16 : m ≤ 16 := by omega
  go_wp2_with (fail)
  refine (next_any w2 p k' xs 300 (by omega) (by omega) HST2.out).mono ?_
  have ht := nextV_range xs k' 300 (by omega)
  obtain ⟨t, et⟩ : ∃ t, t = nextV xs k' 300 := ⟨_, rfl⟩
  rw [← et] at ht ⊢
  clear et
  rintro e w3 ⟨rfl, _, hg3⟩
  have HB3 := Lib.hid (HB2.out.grown hg3 HB2.out.size (fun q hq => by cases hq; exact hpw))
  have HROW := Lib.hid (row_ownR (own_kept HO2.out hg3 (by omega)) HLN.out)
  clear hg3 HO2 HST2
  go_wp2_with (fail)
  refine (sigsFault_any l m cl A w3 HLN.out (by omega) HROW.out HGG.out).mono ?_
  rintro e w4 ⟨z, rfl, hz, hb4⟩
  have HB4 := Lib.hid (HB3.out.trans (hb4.mono HB3.out.size))
  have HROW4 := Lib.hid (fun (V : World) (hV : Below w4.heap.size w4 V) => show Row V V.heap.size A (recs sgC l) from ((HROW.out.below hb4).mono hb4.size |>.below hV).mono hV.size)
  have HZ := Lib.hid hz
  clear hb4 hz
  by_cases hz0 : z = 0
  case neg =>
    have hzb : (z != 0) = true := by simpa using hz0
    have HR := Lib.hid (ready1_yes w4 (HT.out _ HB4.out))
    go_wp2_with (fail)
    refine HR.out.mono ?_
    rintro e w5 ⟨rfl, hb5⟩
    have HF := Lib.hid (HB4.out.trans (hb5.mono HB4.out.size))
    clear hb5
    go_wp2_with (fail)
    go_ret
    exact ⟨rfl, HF.out⟩
  subst hz0
  have HOK := Lib.hid (HZ.out rfl)
  go_wp2_with (fail)
  refine (refusedOf_any l m cl A w4 HOK.out HLN.out (by omega) (HROW4.out w4 (Below.refl _ _))).mono ?_
  rintro e w5 ⟨A5, c5, rfl, ho5, hb5⟩
  obtain ⟨R, eR⟩ : ∃ R, R = refU l l.length := ⟨_, rfl⟩
  rw [← eR] at ho5 ⊢
  obtain ⟨rn, ern⟩ : ∃ rn, rn = R.length := ⟨_, rfl⟩
  have hrl : rn ≤ 16 := by have := refU_len l l.length; rw [← eR] at this; have := HLN.out; omega
  rw [← ern] at ho5 ⊢
  have HMR := Lib.hid (fun (i : Nat) (s : Sg) (hs : l[i]? = some s) => show (∃ z ∈ R, z.1 = i) ↔ whyAt l i s ≠ 0 from by rw [eR]; exact mem_refU hs (List.getElem?_eq_some_iff.1 hs).1)
  have HRN := Lib.hid ern.symm
  have HROW5 := Lib.hid (fun (V : World) (hV : Below w5.heap.size w5 V) => show Row V V.heap.size A5 (recs rfC R) from ((row_ownR ho5 ern.symm).below hV).mono hV.size)
  have HB45 := Lib.hid hb5
  have HB5 := Lib.hid (HB4.out.trans (hb5.mono HB4.out.size))
  clear ho5 hb5 eR ern
  go_wp2_with (fail)
  go_loopw [8, 38] (fun v s wr => ∃ (i : Nat), i ≤ m ∧ s = .int .i64 (i : Int) ∧ Below w5.heap.size w5 wr ∧ wr.ownsRow w5.heap.size 47 6 v (keepU l i).length (recs sgC (keepU l i))) (fun _ s _ => m - (intOf s).toNat)
  case atStart => exact ⟨0, by omega, rfl, Below.refl _ _, World.ownsRow_nil _ _ _ _⟩
  case round =>
    obtain ⟨i, hin, rfl, hbr, hown⟩ := hrel
    have hbs := hbr.size
    have HB := Lib.hid hbr
    have HBW := Lib.hid (HB5.out.trans (hbr.mono HB5.out.size))
    obtain ⟨S, eS⟩ : ∃ S, S = keepU l i := ⟨_, rfl⟩
    have hSl : S.length ≤ i := by rw [eS]; exact keepU_len l i
    rw [← eS] at hown
    obtain ⟨sn, esn⟩ : ∃ sn, sn = S.length := ⟨_, rfl⟩
    rw [← esn] at hown hSl
    have HO := Lib.hid hown
    have HES := Lib.hid (And.intro eS esn)
    clear hbr hown eS esn
    by_cases hlt : i < m
    · have hltI : (i : Int) < m := by omega
      obtain ⟨x, hx⟩ : ∃ x, l[i]? = some x := ⟨_, List.getElem?_eq_getElem (by have := HLN.out; omega)⟩
      obtain ⟨b, o, rfl, hb, hC⟩ := (HROW4.out wr (HB45.out.trans (HB.out.mono HB45.out.size))).posR sgC_len (by omega) (by have := HLN.out; omega)
      obtain ⟨d0, d1, d2, d3, d4, d5⟩ := sg_cells hC i x hx
      have HKS := Lib.hid (keepU_some hx)
      have HMX := Lib.hid (HMR.out i x hx)
      clear hx hC
      go_upto_region 12 with (fail)
      obtain ⟨g, eg⟩ : ∃ g, g = wr.heap.size := ⟨_, rfl⟩
      obtain ⟨w6, e6⟩ : ∃ w6, w6 = (wr.alloc (.cells #[.int .i64 (i : Int)] 3)).alloc (.cells #[.int .i64 x.at_, .int .i64 x.kd, .string (aldT x.d), .string (alrT x.r), .string (alwT x.b), .int .i64 x.un] 47) := ⟨_, rfl⟩
      rw [← eg, ← e6]
      have hg6 : w6.heap[g]? = some (.cells #[.int .i64 (i : Int)] 3 (0, 0)) := by
        rw [e6, eg, Below.heap_alloc _ _ _ (by simp)]
        exact heap_new wr _
      have hh6 : w6.heap[g + 1]? = some (sgBk x) := by
        rw [e6, eg]
        have := heap_new (wr.alloc (.cells #[.int .i64 (i : Int)] 3)) (.cells #[.int .i64 x.at_, .int .i64 x.kd, .string (aldT x.d), .string (alrT x.r), .string (alwT x.b), .int .i64 x.un] 47)
        simpa [sgBk] using this
      have hb6 : Below wr.heap.size wr w6 := by rw [e6]; exact ((Below.refl _ _).alloc (Nat.le_refl _) _).alloc (by simp) _
      have hs6 := hb6.size
      have HB6 := Lib.hid hb6
      have hlt6 : g + 1 < w6.heap.size := (Array.getElem?_eq_some_iff.1 hh6).1
      have HH6 := Lib.hid hh6
      have HCR := Lib.hid (containsRf_any R rn c5 g i A5 w6 HRN.out (by omega) (HROW5.out w6 (HB.out.trans (hb6.mono hbs))) (cell_of_blk (j := 0) hg6 rfl))
      clear eg e6 hg6 hh6 hb6 d0 d1 d2 d3 d4 d5
      generalize g + 1 = g2 at hlt6 HH6 ⊢
      go_wp2_with (fail)
      refine HCR.out.mono ?_
      rintro e w7 ⟨t7, rfl, ht7, hb7⟩
      have hs7 := hb7.size
      have hh7 := (hb7.block g2 hlt6).trans HH6.out
      have hb67 : Below wr.heap.size wr w7 := HB6.out.trans (hb7.mono hs6)
      have HO7 := Lib.hid (own_belowP HO.out hb67)
      have HB7 := Lib.hid (HB.out.trans (hb67.mono hbs))
      obtain ⟨q0, q1, q2, q3, q4, q5⟩ := sg_blk hh7
      have hlt7 : g2 < w7.heap.size := by omega
      have HT7 := Lib.hid (show t7 = true ↔ whyAt l i x ≠ 0 from ht7.trans HMX.out)
      clear hb7 hh7 hb67 ht7
      cases t7
      case true =>
        have HN := Lib.hid (show keepU l (i + 1) = S from by
          have h : whyAt l i x ≠ 0 := by simpa using HT7.out
          rw [HKS.out, if_neg h, List.append_nil, HES.out.1])
        go_wp2_with (fail)
        go_roundw
        case rel => exact ⟨i + 1, by omega, by simp, HB7.out, by rw [HN.out, ← HES.out.2]; exact HO7.out⟩
        case measure => simp [intOf]; omega
      case false =>
        have HN := Lib.hid (show keepU l (i + 1) = S ++ [x] from by
          have h : whyAt l i x = 0 := by simpa using HT7.out
          rw [HKS.out, if_pos h, HES.out.1])
        have hw57 : w5.heap.size ≤ w7.heap.size := HB7.out.size
        go_wp2_with (at_builtin; refine wpList_append_own2 _ rfl _ _ 37 rfl w5.heap.size 47 i0 _ 6 72 Tryz.underlying37 hi0 hz0 hz1 hz2 rfl (by decide) _ _ _ rfl (HO7.out.alloc _) ⟨_, 0, none⟩ 1 1 (sgC x) rfl rfl ?c1 ?c2 ?c3 ?c4 ?c5 ?_)
        case c1 => first | exact cells_add (cells_atF (by rfl) (by first | rfl | simp)) | exact fun j u h => h
        case c2 => exact sgC_one _
        case c3 => unfold maxLen; omega
        case c4 => omega
        case c5 => first | omega | (simp; omega)
        intro v9 w9 ho9 hg9 hm9
        have hlo : ∀ k, u8.ownBlock = some k → w5.heap.size ≤ k := fun k hk => (HO7.out.lt k hk).1
        have HB9 := Lib.hid ((HB7.out.alloc hw57 _).grown hg9 (by simp; omega) hlo)
        have HO9 := Lib.hid ho9
        clear ho9 hg9 hm9 hlo
        go_wp2_with (fail)
        go_roundw
        case rel => exact ⟨i + 1, by omega, by simp, HB9.out, by rw [HN.out, recs_snoc, List.length_append, ← HES.out.2]; exact HO9.out⟩
        case measure => simp [intOf]; omega
    · have hltI : ¬ (i : Int) < m := by omega
      have hin' : i = m := by omega
      obtain ⟨A8, c8, rfl⟩ := own_slice HO.out
      have HSK := Lib.hid (show S = keepU l l.length from by rw [HES.out.1, hin', ← HLN.out])
      have HKO := Lib.hid (show SgsOk S from by rw [HSK.out]; exact keepU_ok HOK.out _)
      have HSR := Lib.hid (fun (V : World) (hV : Below wr.heap.size wr V) => show Row V V.heap.size A8 (recs sgC S) from ((row_ownR HO.out HES.out.2.symm).below hV).mono hV.size)
      have HXR := Lib.hid (fun (V : World) (hV : Below wr.heap.size wr V) => HROW4.out V (HB45.out.trans ((HB.out.trans (hV.mono HB.out.size)).mono HB45.out.size)))
      obtain ⟨Q, eQ⟩ : ∃ Q, Q = amsL l t := ⟨_, rfl⟩
      have HA1 := Lib.hid (alarms_any l m cl t A wr HOK.out HLN.out (by omega) (HXR.out wr (Below.refl _ _)) ht.1 (by omega))
      have HA2 := Lib.hid (fun (V : World) (hV : Below wr.heap.size wr V) => alarms_any S sn c8 t A8 V HKO.out HES.out.2.symm (by omega) (HSR.out V hV) ht.1 (by omega))
      rw [show amsL S t = amsL l t from by rw [HSK.out]; exact amsL_keep HOK.out t] at HA2
      have hQ6 : Q.length ≤ 6 := by rw [eQ]; exact Nat.le_trans (List.length_filter_le _ _) (by rw [List.length_map]; decide)
      rw [← eQ] at HA1 HA2
      unfold AmsP at HA2
      have HRF := Lib.hid (fun (V : World) (hV : Below wr.heap.size wr V) => refusedOf_any S sn c8 A8 V HKO.out HES.out.2.symm (by omega) (HSR.out V hV))
      rw [show refU S S.length = [] from by rw [HSK.out]; exact refU_keep HOK.out _] at HRF
      clear eQ hin'
      go_wp2_with (fail)
      refine HA1.out.mono ?_
      rintro e w10 ⟨A10, c10, rfl, ho10, hb10⟩
      have HB10 := Lib.hid hb10
      have hs10 := hb10.size
      have HR10 := Lib.hid (fun (V : World) (hV : Below w10.heap.size w10 V) => show Row V V.heap.size A10 (recs amC Q) from ((row_ownR ho10 rfl).below hV).mono hV.size)
      obtain ⟨qn, eqn⟩ : ∃ qn, qn = Q.length := ⟨_, rfl⟩
      have HQN := Lib.hid eqn.symm
      rw [← eqn] at HA2 hQ6 ⊢
      clear ho10 hb10 eqn HA1
      go_wp2_with (fail)
      refine (HA2.out w10 HB10.out).mono ?_
      rintro e w11 ⟨A11, c11, rfl, ho11, hb11⟩
      have hs11 := hb11.size
      have HB11 := Lib.hid (HB10.out.trans (hb11.mono hs10))
      have HR11 := Lib.hid (fun (V : World) (hV : Below w11.heap.size w11 V) => show Row V V.heap.size A11 (recs amC Q) from ((row_ownR ho11 HQN.out).below hV).mono hV.size)
      have HR1011 := Lib.hid (fun (V : World) (hV : Below w11.heap.size w11 V) => HR10.out V (hb11.trans (hV.mono hb11.size)))
      clear ho11 hb11 HA2
      go_wp2_with (fail)
      refine (HRF.out w11 HB11.out).mono ?_
      rintro e w12 ⟨A12, c12, rfl, ho12, hb12⟩
      have hs12 := hb12.size
      have HB12 := Lib.hid (HB11.out.trans (hb12.mono (by omega)))
      have HEQ := Lib.hid (eqAm_any Q qn c10 c11 A10 A11 w12 HQN.out (by omega) (HR1011.out w12 hb12) (HR11.out w12 hb12))
      clear ho12 hb12 HRF
      go_wp2_with (fail)
      refine HEQ.out.mono ?_
      rintro e w13 ⟨rfl, hb13⟩
      have HB13 := Lib.hid (HBW.out.trans ((HB12.out.trans (hb13.mono (by omega))).mono HBW.out.size))
      have HR := Lib.hid (ready1_yes w13 (HT.out _ HB13.out))
      clear hb13 HEQ
      go_wp2_with (fail)
      refine HR.out.mono ?_
      rintro e w14 ⟨rfl, hb14⟩
      have HF := Lib.hid (HB13.out.trans (hb14.mono HB13.out.size))
      clear hb14
      go_wp2_with (fail)
      go_ret
      exact ⟨rfl, HF.out⟩
end Go.Proofs.YtkabcipccpbphaaGreatDoor
