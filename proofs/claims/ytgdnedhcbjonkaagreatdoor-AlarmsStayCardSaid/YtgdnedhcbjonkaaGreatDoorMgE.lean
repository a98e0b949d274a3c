/- Several texts in one: SgK, SgX, SgC, AlA, AlWd, AlX, NdP, FlP, RcP, AlB, AcP, HoO, FlW, BdD, Qsk, Qsa, BdG. -/
import Derived.Test.YtgdnedhcbjonkaaGreatDoorMgA
import Derived.Test.YtgdnedhcbjonkaaGreatDoorMgB
import Derived.Test.YtgdnedhcbjonkaaGreatDoorMgD
import Derived.Test.YtgdnedhcbjonkaaGreatDoorMgC

/- fleetref1.Key at the names and people of signals; in, MomentFault. -/
namespace Go.Proofs.YtgdnedhcbjonkaaGreatDoor
open Go.RowKit

theorem inR_yes (n lo hi : Int) (h1 : lo ≤ n) (h2 : n ≤ hi) (w : World) : Calls Tryz.prog 34 #[.int .i64 n, .int .i64 lo, .int .i64 hi] w fun e w' => e = .returned (.bool true) ∧ w = w' := by
  go_enter Tryz.func34, Tryz.ntmps34
  go_wp2_with (fail)
  go_ret
  exact ⟨rfl, rfl⟩
theorem inR_no (n lo hi : Int) (h : ¬ (lo ≤ n ∧ n ≤ hi)) (w : World) : Calls Tryz.prog 34 #[.int .i64 n, .int .i64 lo, .int .i64 hi] w fun e w' => e = .returned (.bool false) ∧ w = w' := by
  by_cases h1 : lo ≤ n
  · have h2 : ¬ n ≤ hi := fun h2 => h ⟨h1, h2⟩
    clear h
    go_enter Tryz.func34, Tryz.ntmps34
    go_wp2_with (fail)
    go_ret
    exact ⟨rfl, rfl⟩
  · clear h
    go_enter Tryz.func34, Tryz.ntmps34
    go_wp2_with (fail)
    go_ret
    exact ⟨rfl, rfl⟩
theorem inR_any (n lo hi : Int) (w : World) : Calls Tryz.prog 34 #[.int .i64 n, .int .i64 lo, .int .i64 hi] w fun e w' => e = .returned (.bool (decide (lo ≤ n ∧ n ≤ hi))) ∧ w = w' := by
  by_cases h : lo ≤ n ∧ n ≤ hi
  · rw [decide_eq_true h]; exact inR_yes n lo hi h.1 h.2 w
  · rw [decide_eq_false h]; exact inR_no n lo hi h w
theorem momF_any (n : Int) (w : World) : Calls Tryz.prog 32 #[.int .i64 n] w fun e w' => e = .returned (.int .i64 (if 0 ≤ n ∧ n ≤ 345686399999 then 0 else 1)) ∧ w = w' := by
  have HI := Lib.hid (inR_any n 0 345686399999 w)
  by_cases h : 0 ≤ n ∧ n ≤ 345686399999
  · rw [decide_eq_true h] at HI
    rw [if_pos h]
    clear h
    go_enter Tryz.func32, Tryz.ntmps32
    go_wp2_with (go_at_call 34; refine HI.out.mono ?_; rintro e w' ⟨rfl, rfl⟩)
    go_ret
    exact ⟨rfl, rfl⟩
  · rw [decide_eq_false h] at HI
    rw [if_neg h]
    clear h
    go_enter Tryz.func32, Tryz.ntmps32
    go_wp2_with (go_at_call 34; refine HI.out.mono ?_; rintro e w' ⟨rfl, rfl⟩)
    go_ret
    exact ⟨rfl, rfl⟩
def rkSet : ByteArray := ⟨#[97, 98, 99, 100, 101, 102, 103, 104, 105, 106, 107, 108, 109, 110, 111, 112, 113, 114, 115, 116, 117, 118, 119, 120, 121, 122, 48, 49, 50, 51, 52, 53, 54, 55, 56, 57, 45, 95]⟩
theorem rtrim (s : ByteArray) (hs : s.size ≤ 40) (q : ByteArray) (hq : q = ⟨(Lib.trimS s.data.toList rkSet.data.toList).toArray⟩) (w : World) :
    Calls Tryz.prog 68 #[.string s, .string ⟨#[97, 98, 99, 100, 101, 102, 103, 104, 105, 106, 107, 108, 109, 110, 111, 112, 113, 114, 115, 116, 117, 118, 119, 120, 121, 122, 48, 49, 50, 51, 52, 53, 54, 55, 56, 57, 45, 95]⟩] w fun e w' => e = .returned (.string q) ∧ Below w.heap.size w w' := by
  subst hq
  exact Any.strings_Trim_laid lay160 (by kernel_rfl) s rkSet w (by omega) (by decide) (ascii_of_all (by decide))
theorem ribyte (c : Int) (w : World) : Calls Tryz.prog 69 #[.string ⟨#[97, 98, 99, 100, 101, 102, 103, 104, 105, 106, 107, 108, 109, 110, 111, 112, 113, 114, 115, 116, 117, 118, 119, 120, 121, 122]⟩, .int .u8 c] w fun e w' => ∃ z : Int, e = .returned (.int .i64 z) ∧ w = w' := by
  refine (Any.strings_IndexByte lay137 ⟨#[97, 98, 99, 100, 101, 102, 103, 104, 105, 106, 107, 108, 109, 110, 111, 112, 113, 114, 115, 116, 117, 118, 119, 120, 121, 122]⟩ c w).mono ?_
  rintro e w' ⟨h1, h2⟩
  exact ⟨_, h1, h2.symm⟩
set_option maxRecDepth 100000 in
theorem rkey_yes (s : ByteArray) (h1 : 1 ≤ s.size) (h2 : s.size ≤ 40) (ht : (⟨#[]⟩ : ByteArray) = ⟨(Lib.trimS s.data.toList rkSet.data.toList).toArray⟩) (w : World) :
    Calls Tryz.prog 33 #[.string s] w fun e w' => ∃ t : Bool, e = .returned (.bool t) ∧ Below w.heap.size w w' := by
  have h1I : (1 : Int) ≤ s.size := by omega
  have h2I : (s.size : Int) ≤ 40 := by omega
  have h0 : 0 < s.size := by omega
  have HT := Lib.hid (fun V => rtrim s h2 ⟨#[]⟩ ht V)
  clear ht
  go_enter Tryz.func33, Tryz.ntmps33
  go_wp2_with (go_at_call 34; refine (inR_yes _ _ _ h1I h2I _).mono ?_; rintro e w' ⟨rfl, rfl⟩)
  refine (HT.out _).mono ?_
  rintro e w1 ⟨rfl, hb1⟩
  have HB := Lib.hid hb1
  clear hb1
  go_wp2_with (fail)
  refine (ribyte _ _).mono ?_
  rintro e w2 ⟨z, rfl, rfl⟩
  go_wp2_with (fail)
  go_ret
  exact ⟨_, rfl, HB.out⟩
theorem rkey_nil (w : World) : Calls Tryz.prog 33 #[.string ⟨#[]⟩] w fun e w' => e = .returned (.bool false) ∧ Below w.heap.size w w' := by
  go_enter Tryz.func33, Tryz.ntmps33
  go_wp2_with (go_at_call 34; refine (inR_no _ _ _ (by decide) _).mono ?_; rintro e w' ⟨rfl, rfl⟩)
  go_ret
  exact ⟨rfl, Below.refl _ _⟩
set_option maxRecDepth 100000 in
theorem rkey_A (w : World) : Calls Tryz.prog 33 #[.string ⟨#[65]⟩] w fun e w' => e = .returned (.bool false) ∧ Below w.heap.size w w' := by
  have HT := Lib.hid (fun V => rtrim ⟨#[65]⟩ (by decide) ⟨#[65]⟩ (by rfl) V)
  go_enter Tryz.func33, Tryz.ntmps33
  go_wp2_with (go_at_call 34; refine (inR_yes _ _ _ (by decide) (by decide) _).mono ?_; rintro e w' ⟨rfl, rfl⟩)
  refine (HT.out _).mono ?_
  rintro e w1 ⟨rfl, hb1⟩
  have HB := Lib.hid hb1
  clear hb1
  go_wp2_with (fail)
  go_ret
  exact ⟨rfl, HB.out⟩
theorem rkey_dev (d : Nat) (w : World) : Calls Tryz.prog 33 #[.string (aldT d)] w fun e w' => ∃ t : Bool, e = .returned (.bool t) ∧ Below w.heap.size w w' := by
  match d with
  | 0 => exact rkey_yes _ (by decide) (by decide) (by rfl) w
  | 1 => exact rkey_yes _ (by decide) (by decide) (by rfl) w
  | n + 2 => exact rkey_yes _ (by show 1 ≤ (⟨#[100, 103]⟩ : ByteArray).size; decide) (by show (⟨#[100, 103]⟩ : ByteArray).size ≤ 40; decide) (by rfl) w
theorem rkey_rule (r : Nat) (w : World) : Calls Tryz.prog 33 #[.string (alrT r)] w fun e w' => ∃ t : Bool, e = .returned (.bool t) ∧ Below w.heap.size w w' := by
  match r with
  | 0 => exact rkey_yes _ (by decide) (by decide) (by rfl) w
  | n + 1 => exact rkey_yes _ (by show 1 ≤ (⟨#[114, 98]⟩ : ByteArray).size; decide) (by show (⟨#[114, 98]⟩ : ByteArray).size ≤ 40; decide) (by rfl) w
theorem rkey_who (b : Nat) (w : World) : Calls Tryz.prog 33 #[.string (alwT b)] w fun e w' => ∃ t : Bool, e = .returned (.bool t) ∧ (t = true → b = 1 ∨ b = 2) ∧ Below w.heap.size w w' := by
  match b with
  | 0 => exact (rkey_nil w).mono fun e w' h => ⟨false, h.1, by simp, h.2⟩
  | 1 => exact (rkey_yes _ (by decide) (by decide) (by rfl) w).mono fun e w' ⟨t, h1, h2⟩ => ⟨t, h1, fun _ => .inl rfl, h2⟩
  | 2 => exact (rkey_yes _ (by decide) (by decide) (by rfl) w).mono fun e w' ⟨t, h1, h2⟩ => ⟨t, h1, fun _ => .inr rfl, h2⟩
  | n + 3 => exact (rkey_A w).mono fun e w' h => ⟨false, h.1, by simp, h.2⟩
end Go.Proofs.YtgdnedhcbjonkaaGreatDoor

/- fleetref1.SignalsFault: where it answers 0, the signals are right. Printed by gen_SgX.py. -/
namespace Go.Proofs.YtgdnedhcbjonkaaGreatDoor
open Go.RowKit Go.Shelf Go.Sort

/-- A right signal. -/
structure SgR (s : Sg) : Prop where
  d : s.d < 3
  r : s.r < 2
  at0 : 0 ≤ s.at_
  at1 : s.at_ < 345686400000
  kd : 1 ≤ s.kd ∧ s.kd ≤ 5
  who : 3 ≤ s.kd → s.b = 1 ∨ s.b = 2
  none_ : s.kd < 3 → s.b = 0
  shelf : s.kd = 4 → s.at_ + 1 ≤ s.un ∧ s.un ≤ s.at_ + 2592000000 ∧ s.un ≤ 345686400000
  plain : s.kd ≠ 4 → s.un = 0
def SgsOk (l : List Sg) : Prop := (∀ s ∈ l, SgR s) ∧ l.Pairwise SgL
theorem SgL.trans {a b c : Sg} (h : SgL a b) (k : SgL b c) : SgL a c := by unfold SgL at *; omega
theorem SgsOk.nil : SgsOk [] := ⟨by simp, List.Pairwise.nil⟩
theorem SgsOk.snoc {l : List Sg} {s : Sg} (h : SgsOk l) (hs : SgR s) (hl : ∀ q, l.getLast? = some q → SgL q s) : SgsOk (l ++ [s]) := by
  refine ⟨fun x hx => ?_, List.pairwise_append.2 ⟨h.2, List.pairwise_singleton _ _, fun a ha b hb => ?_⟩⟩
  · rw [List.mem_append, List.mem_singleton] at hx
    rcases hx with hx | rfl
    · exact h.1 x hx
    · exact hs
  · rw [List.mem_singleton] at hb
    subst hb
    obtain ⟨i, hi, rfl⟩ := List.getElem_of_mem ha
    have hne : l ≠ [] := by intro e; subst e; cases ha
    have hlast := hl _ (List.getLast?_eq_some_getLast hne)
    rw [List.getLast_eq_getElem] at hlast
    rcases Nat.lt_or_ge i (l.length - 1) with h1 | h1
    · exact ((List.pairwise_iff_getElem.1 h.2) i (l.length - 1) hi (by omega) h1).trans hlast
    · have : i = l.length - 1 := by omega
      subst this
      exact hlast
theorem take_last {l : List Sg} {i : Nat} {q : Sg} (hi : 1 ≤ i) (hq : l[i - 1]? = some q) : (l.take i).getLast? = some q := by
  have hlt : i - 1 < l.length := (List.getElem?_eq_some_iff.1 hq).1
  rw [List.getLast?_eq_getElem?, List.length_take, Nat.min_eq_left (by omega), List.getElem?_take_of_lt (by omega)]
  exact hq
theorem cmp_neg {q x : Sg} (h : ¬ 0 ≤ sgCmp q x) : SgL q x := (sgCmp_lt q x).1 (by omega)
theorem alw_zero (b : Nat) : (decide ((alwT b).toList = [])) = decide (b = 0) := by
  match b with
  | 0 => decide +kernel
  | 1 => decide +kernel
  | 2 => decide +kernel
  | n + 3 => rw [show alwT (n + 3) = ⟨#[65]⟩ from rfl, decide_eq_false (show ¬ (n + 3 = 0) by omega)]; decide +kernel
def SgAt3 (V : World) (b o : Nat) (x : Sg) (g : Nat) (y : Sg) : Prop :=
  V.cell? ⟨b, o, none⟩ = some (.int .i64 x.at_) ∧ V.cell? ⟨b, o + 1, none⟩ = some (.int .i64 x.kd) ∧ V.cell? ⟨b, o + 2, none⟩ = some (.string (aldT x.d)) ∧ V.cell? ⟨b, o + 3, none⟩ = some (.string (alrT x.r)) ∧ V.cell? ⟨b, o + 4, none⟩ = some (.string (alwT x.b)) ∧ V.cell? ⟨b, o + 5, none⟩ = some (.int .i64 x.un) ∧ V.cell? ⟨g, 0, none⟩ = some (.int .i64 y.at_) ∧ V.cell? ⟨g, 1, none⟩ = some (.int .i64 y.kd) ∧ V.cell? ⟨g, 2, none⟩ = some (.string (aldT y.d)) ∧ V.cell? ⟨g, 3, none⟩ = some (.string (alrT y.r)) ∧ V.cell? ⟨g, 4, none⟩ = some (.string (alwT y.b)) ∧ V.cell? ⟨g, 5, none⟩ = some (.int .i64 y.un)
theorem sgAt3 {V : World} {b o g : Nat} {x y : Sg} (h : SgAt V b o x) (k : SgB V g y) : SgAt3 V b o x g y :=
  ⟨h.1, h.2.1, h.2.2.1, h.2.2.2.1, h.2.2.2.2.1, h.2.2.2.2.2, k.1, k.2.1, k.2.2.1, k.2.2.2.1, k.2.2.2.2.1, k.2.2.2.2.2⟩
def FaultP (w : World) (l : List Sg) (e : Ending) (w' : World) : Prop := ∃ z : Int, e = .returned (.int .i64 z) ∧ (z = 0 → SgsOk l) ∧ Below w.heap.size w w'
theorem FaultP.no {w w' : World} {l : List Sg} {z : Int} (hz : z ≠ 0) (hb : Below w.heap.size w w') : FaultP w l (.returned (.int .i64 z)) w' := ⟨z, rfl, fun h => absurd h hz, hb⟩
set_option maxRecDepth 100000 in
set_option maxHeartbeats 4000000 in
theorem sigsFault_any (l : List Sg) (n c : Nat) (A : Option Addr) (w : World) (hn : l.length = n) (hn2 : n ≤ 1000) (hr : Row w w.heap.size A (recs sgC l)) (hg : ∀ x ∈ l, SgG x) :
    Calls Tryz.prog 8 #[.slice A n c] w fun e w' => FaultP w l e w' := by
  have HR := Lib.hid hr
  have HN := Lib.hid hn
  have HG := Lib.hid hg
  have hnI2 : ¬ (5000 : Int) < n := by omega
  clear hr hn hg
  go_enter Tryz.func8, Tryz.ntmps8
  go_wp2_with (fail)
  go_loopw [12] (fun s wr => ∃ (i : Nat), i ≤ n ∧ s = .int .i64 (i : Int) ∧ Below w.heap.size w wr ∧ Hid (SgsOk (l.take i))) (fun s _ => n - (intOf s).toNat)
  case atStart => exact ⟨0, by omega, rfl, Below.refl _ _, Lib.hid (by simpa using SgsOk.nil)⟩
  case round =>
    obtain ⟨i, hin, rfl, hbr, HOK⟩ := hrel
    have hbs := hbr.size
    have HB := Lib.hid hbr
    clear hbr
    by_cases hlt : i < n
    · have hltI : (i : Int) < n := by omega
      obtain ⟨x, hx⟩ : ∃ x, l[i]? = some x := ⟨_, List.getElem?_eq_getElem (by have := HN.out; omega)⟩
      obtain ⟨b, o, rfl, hb, hC⟩ := (HR.out.below HB.out).posR sgC_len (by omega) (by have := HN.out; omega)
      have HX := Lib.hid (HG.out x (List.mem_of_getElem? hx))
      obtain ⟨c0, c1, c2, c3, c4, c5⟩ := sg_cells hC i x hx
      have HP := Lib.hid hx
      have hb' : b < wr.heap.size := by omega
      clear hx hC
      go_upto_region 6 with (fail)
      obtain ⟨g, eg⟩ : ∃ g, g = wr.heap.size := ⟨_, rfl⟩
      obtain ⟨w5, e5⟩ : ∃ w5, w5 = wr.alloc (.cells #[.int .i64 x.at_, .int .i64 x.kd, .string (aldT x.d), .string (alrT x.r), .string (alwT x.b), .int .i64 x.un] 47) := ⟨_, rfl⟩
      rw [← eg, ← e5]
      have hg5 : w5.heap[g]? = some (sgBk x) := by rw [e5, eg]; exact heap_new wr _
      have HB5 := Lib.hid (show Below w.heap.size w w5 from by rw [e5]; exact HB.out.alloc hbs _)
      have hlt5 : g < w5.heap.size := by rw [e5, eg]; simp
      have hbs5 := HB5.out.size
      have HQ := Lib.hid (fun (V : World) (hV : Below w5.heap.size w5 V) => show SgB V g x from sg_blk ((hV.block g hlt5).trans hg5))
      obtain ⟨q0, q1, q2, q3, q4, q5⟩ := sg_blk hg5
      clear eg e5 hg5 c0 c1 c2 c3 c4 c5
      go_quiet (fail)
      obtain ⟨w6, e6⟩ : ∃ w6, w6 = w5.drewN nq := ⟨_, rfl⟩
      rw [← e6]
      obtain ⟨p3, hp3⟩ : ∃ t : Bool, t = decide (3 ≤ x.kd) := ⟨_, rfl⟩
      obtain ⟨s4, hs4⟩ : ∃ t : Bool, t = (x.kd == 4) := ⟨_, rfl⟩
      rw [← hp3, ← hs4]
      have HP3 := Lib.hid (show p3 = true ↔ 3 ≤ x.kd from by rw [hp3]; simp)
      have HS4 := Lib.hid (show s4 = true ↔ x.kd = 4 from by rw [hs4]; simp)
      have HB6 := Lib.hid (show Below w.heap.size w w6 from by rw [e6]; exact below_drewN HB5.out _)
      have HQ6 := Lib.hid (show ∀ V, Below w6.heap.size w6 V → SgB V g x from fun V hV => HQ.out V (by subst e6; exact ⟨hV.os, hV.tape, hV.output, hV.size, hV.block⟩))
      have hs6 : w6.heap.size = w5.heap.size := by rw [e6]; rfl
      have hlt6 : g < w6.heap.size := by omega
      clear e6 hp3 hs4 q0 q1 q2 q3 q4 q5 HQ
      obtain ⟨q0, q1, q2, q3, q4, q5⟩ := HQ6.out w6 (Below.refl _ _)
      go_wp2_with (fail)
      refine (momF_any _ _).mono ?_
      rintro e w' ⟨rfl, rfl⟩
      by_cases hm : 0 ≤ x.at_ ∧ x.at_ ≤ 345686399999
      case neg =>
        rw [if_neg hm]
        clear hm
        go_wp2_with (fail)
        go_ret
        exact FaultP.no (by decide) HB6.out
      rw [if_pos hm]
      have HM := Lib.hid hm
      clear hm
      go_wp2_with (fail)
      refine (rkey_dev x.d _).mono ?_
      rintro e w7 ⟨t1, rfl, hb7⟩
      have hs7 := hb7.size
      have HB7 := Lib.hid (HB6.out.trans (hb7.mono (by omega)))
      have HB67 := Lib.hid hb7
      have hlt7 : g < w7.heap.size := by omega
      clear q0 q1 q2 q3 q4 q5 hb7
      obtain ⟨q0, q1, q2, q3, q4, q5⟩ := HQ6.out w7 HB67.out
      cases t1
      case false =>
        go_wp2_with (fail)
        go_ret
        exact FaultP.no (by decide) HB7.out
      go_wp2_with (fail)
      refine (rkey_rule x.r _).mono ?_
      rintro e w8 ⟨t2, rfl, hb8⟩
      have hs8 := hb8.size
      have HB8 := Lib.hid (HB7.out.trans (hb8.mono (by omega)))
      have HB68 := Lib.hid (HB67.out.trans (hb8.mono (by omega)))
      have hlt8 : g < w8.heap.size := by omega
      clear q0 q1 q2 q3 q4 q5 hb8
      obtain ⟨q0, q1, q2, q3, q4, q5⟩ := HQ6.out w8 HB68.out
      cases t2
      case false =>
        go_wp2_with (fail)
        go_ret
        exact FaultP.no (by decide) HB8.out
      go_wp2_with (fail)
      refine (inR_any _ _ _ _).mono ?_
      rintro e w' ⟨rfl, rfl⟩
      by_cases hk : 1 ≤ x.kd ∧ x.kd ≤ 5
      case neg =>
        rw [decide_eq_false hk]
        clear hk
        go_wp2_with (fail)
        go_ret
        exact FaultP.no (by decide) HB8.out
      rw [decide_eq_true hk]
      have HK := Lib.hid hk
      clear hk
      cases p3
      case true =>
        go_wp2_with (fail)
        refine (rkey_who x.b _).mono ?_
        rintro e w9 ⟨t3, rfl, hw9, hb9⟩
        have hs9 := hb9.size
        have HB9 := Lib.hid (HB8.out.trans (hb9.mono (by omega)))
        have HB69 := Lib.hid (HB68.out.trans (hb9.mono (by omega)))
        have hlt9 : g < w9.heap.size := by omega
        have HW := Lib.hid hw9
        clear q0 q1 q2 q3 q4 q5 hb9 hw9
        obtain ⟨q0, q1, q2, q3, q4, q5⟩ := HQ6.out w9 HB69.out
        cases t3
        case false =>
          go_wp2_with (fail)
          go_ret
          exact FaultP.no (by decide) HB9.out
        cases s4
        case true =>
          have hwa : IntKind.i64.wrap (x.at_ + 1) = x.at_ + 1 := by have := HM.out; rw [IntKind.wrap_i64]; omega
          have hwb : IntKind.i64.wrap (x.at_ + 2592000000) = x.at_ + 2592000000 := by have := HM.out; rw [IntKind.wrap_i64]; omega
          go_wp2_with (fail)
          refine (inR_any _ _ _ _).mono ?_
          rintro e w' ⟨rfl, rfl⟩
          by_cases hsh : x.at_ + 1 ≤ x.un ∧ x.un ≤ min (x.at_ + 2592000000) 345686400000
          case neg =>
            rw [decide_eq_false hsh]
            clear hsh
            go_wp2_with (fail)
            go_ret
            exact FaultP.no (by decide) HB9.out
          rw [decide_eq_true hsh]
          have HR1 := Lib.hid (show SgR x from ⟨HX.out.d, HX.out.r, HM.out.1, by have := HM.out; omega, HK.out, fun _ => (by simpa using HW.out), fun h => by have h4 : x.kd = 4 := (by simpa using HS4.out); omega, fun _ => by omega, fun h => absurd (show x.kd = 4 from by simpa using HS4.out) h⟩)
          clear hsh hwa hwb
          by_cases hi0 : i = 0
          case pos =>
            subst hi0
            have hd : decide ((0 : Int) < 0) = false := by decide
            have HOK2 := Lib.hid (show SgsOk (l.take (0 + 1)) from by
              rw [List.take_add_one, HP.out]
              exact SgsOk.snoc HOK.out HR1.out (fun q hq => by simp at hq))
            go_wp2_with (fail)
            go_quiet (fail)
            go_wp2_with (fail)
            go_roundw
            case rel => exact ⟨1, by omega, by simp, below_drewN HB9.out _, HOK2⟩
            case measure => simp [intOf]; omega
          have hi1I : (0 : Int) < i := by omega
          have hd : decide ((0 : Int) < i) = true := by simpa using hi1I
          have hd2 : decide (0 < i) = true := by simp; omega
          have hd3 : 0 < i := by omega
          obtain ⟨q, hq⟩ : ∃ q, l[i - 1]? = some q := ⟨_, List.getElem?_eq_getElem (by have := HN.out; omega)⟩
          obtain ⟨b2, o2, e2, hb2, hC2⟩ := HR.out.posR sgC_len (by omega) (by have := HN.out; omega)
          cases e2
          have HSA := Lib.hid (sg_cells hC2 (i - 1) q hq)
          have hwrap : (i : Int) - 1 = ((i - 1 : Nat) : Int) := by omega
          have hwr : IntKind.i64.wrap ((i - 1 : Nat) : Int) = ((i - 1 : Nat) : Int) := by rw [IntKind.wrap_i64]; omega
          have hxI : ((i - 1 : Nat) : Int) < (n : Int) := by omega
          have hxN : i - 1 < n := by omega
          have HTL := Lib.hid (take_last hd3 hq)
          have HQ9 := Lib.hid (fun (V : World) (hV : Below w9.heap.size w9 V) => show SgAt3 V b (o + (i - 1) * 6) q g x from
            sgAt3 (HSA.out.below (HB9.out.trans (hV.mono HB9.out.size)) hb2) (HQ6.out V (HB69.out.trans (hV.mono HB69.out.size))))
          have HSO := Lib.hid (fun V => show Calls Tryz.prog 26 #[.agg #[.int .i64 q.at_, .int .i64 q.kd, .string (aldT q.d), .string (alrT q.r), .string (alwT q.b), .int .i64 q.un], .agg #[.int .i64 x.at_, .int .i64 x.kd, .string (aldT x.d), .string (alrT x.r), .string (alwT x.b), .int .i64 x.un]] V _ from signalOrder_grow q x V)
          obtain ⟨r, er⟩ : ∃ r, r = sgCmp q x := ⟨_, rfl⟩
          rw [← er] at HSO
          have HRL := Lib.hid (show ¬ 0 ≤ r → SgL q x from by rw [er]; exact cmp_neg)
          go_upto_region 21 with (fail)
          clear hq hC2 er q0 q1 q2 q3 q4 q5
          go_upto_region 21 with (fail)
          refine qRegionTail 9 (by kernel_rfl) (by kernel_rfl) ?_
          simp only [List.take_succ_cons, List.take_zero, List.drop_succ_cons, List.drop_zero]
          repeat (first
            | (go_big_quiet_want; refine qVal (fun V hV => (by (obtain ⟨r0, r1, r2, r3, r4, r5, s0, s1, s2, s3, s4', s5⟩ := HQ9.out V hV; go_simp; try rfl))) ?_; simp only [Act.put, List.setIfInBounds_toArray, List.set_cons_zero, List.set_cons_succ]; go_big_quiet_on)
            | go_big_quiet_skip)
          refine wpQuiet_nil ?_
          intro w10 hb10
          have HB10 := Lib.hid (HB9.out.trans (hb10.mono HB9.out.size))
          clear hb10
          go_wp2_with (fail)
          refine (HSO.out w10).mono ?_
          rintro e w11 ⟨rfl, qn, os, rfl⟩
          have HB11 := Lib.hid (HB10.out.trans ((below_grow w10 qn os).mono HB10.out.size))
          by_cases hr0 : 0 ≤ r
          case pos =>
            go_wp2_with (fail)
            go_ret
            exact FaultP.no (by decide) HB11.out
          have HOK2 := Lib.hid (show SgsOk (l.take (i + 1)) from by
            rw [List.take_add_one, HP.out]
            exact SgsOk.snoc HOK.out HR1.out (fun q' hq' => by rw [HTL.out] at hq'; cases hq'; exact HRL.out (by omega)))
          go_wp2_with (fail)
          go_roundw
          case rel => exact ⟨i + 1, by omega, by simp, HB11.out, HOK2⟩
          case measure => simp [intOf]; omega
        case false =>
          by_cases hun : x.un = 0
          case neg =>
            have hunb : (x.un != 0) = true := by simpa using hun
            go_wp2_with (fail)
            go_ret
            exact FaultP.no (by decide) HB9.out
          have hunb : (x.un != 0) = false := by simpa using hun
          have HR1 := Lib.hid (show SgR x from ⟨HX.out.d, HX.out.r, HM.out.1, by have := HM.out; omega, HK.out, fun _ => (by simpa using HW.out), (fun h => by have h3 : 3 ≤ x.kd := (by simpa using HP3.out); omega), (fun h => by have h4 : ¬ x.kd = 4 := (by simpa using HS4.out); exact absurd h h4), fun _ => hun⟩)
          clear hun
          by_cases hi0 : i = 0
          case pos =>
            subst hi0
            have hd : decide ((0 : Int) < 0) = false := by decide
            have HOK2 := Lib.hid (show SgsOk (l.take (0 + 1)) from by
              rw [List.take_add_one, HP.out]
              exact SgsOk.snoc HOK.out HR1.out (fun q hq => by simp at hq))
            go_wp2_with (fail)
            go_quiet (fail)
            go_wp2_with (fail)
            go_roundw
            case rel => exact ⟨1, by omega, by simp, below_drewN HB9.out _, HOK2⟩
            case measure => simp [intOf]; omega
          have hi1I : (0 : Int) < i := by omega
          have hd : decide ((0 : Int) < i) = true := by simpa using hi1I
          have hd2 : decide (0 < i) = true := by simp; omega
          have hd3 : 0 < i := by omega
          obtain ⟨q, hq⟩ : ∃ q, l[i - 1]? = some q := ⟨_, List.getElem?_eq_getElem (by have := HN.out; omega)⟩
          obtain ⟨b2, o2, e2, hb2, hC2⟩ := HR.out.posR sgC_len (by omega) (by have := HN.out; omega)
          cases e2
          have HSA := Lib.hid (sg_cells hC2 (i - 1) q hq)
          have hwrap : (i : Int) - 1 = ((i - 1 : Nat) : Int) := by omega
          have hwr : IntKind.i64.wrap ((i - 1 : Nat) : Int) = ((i - 1 : Nat) : Int) := by rw [IntKind.wrap_i64]; omega
          have hxI : ((i - 1 : Nat) : Int) < (n : Int) := by omega
          have hxN : i - 1 < n := by omega
          have HTL := Lib.hid (take_last hd3 hq)
          have HQ9 := Lib.hid (fun (V : World) (hV : Below w9.heap.size w9 V) => show SgAt3 V b (o + (i - 1) * 6) q g x from
            sgAt3 (HSA.out.below (HB9.out.trans (hV.mono HB9.out.size)) hb2) (HQ6.out V (HB69.out.trans (hV.mono HB69.out.size))))
          have HSO := Lib.hid (fun V => show Calls Tryz.prog 26 #[.agg #[.int .i64 q.at_, .int .i64 q.kd, .string (aldT q.d), .string (alrT q.r), .string (alwT q.b), .int .i64 q.un], .agg #[.int .i64 x.at_, .int .i64 x.kd, .string (aldT x.d), .string (alrT x.r), .string (alwT x.b), .int .i64 x.un]] V _ from signalOrder_grow q x V)
          obtain ⟨r, er⟩ : ∃ r, r = sgCmp q x := ⟨_, rfl⟩
          rw [← er] at HSO
          have HRL := Lib.hid (show ¬ 0 ≤ r → SgL q x from by rw [er]; exact cmp_neg)
          go_upto_region 21 with (fail)
          clear hq hC2 er q0 q1 q2 q3 q4 q5
          go_upto_region 21 with (fail)
          refine qRegionTail 9 (by kernel_rfl) (by kernel_rfl) ?_
          simp only [List.take_succ_cons, List.take_zero, List.drop_succ_cons, List.drop_zero]
          repeat (first
            | (go_big_quiet_want; refine qVal (fun V hV => (by (obtain ⟨r0, r1, r2, r3, r4, r5, s0, s1, s2, s3, s4', s5⟩ := HQ9.out V hV; go_simp; try rfl))) ?_; simp only [Act.put, List.setIfInBounds_toArray, List.set_cons_zero, List.set_cons_succ]; go_big_quiet_on)
            | go_big_quiet_skip)
          refine wpQuiet_nil ?_
          intro w10 hb10
          have HB10 := Lib.hid (HB9.out.trans (hb10.mono HB9.out.size))
          clear hb10
          go_wp2_with (fail)
          refine (HSO.out w10).mono ?_
          rintro e w11 ⟨rfl, qn, os, rfl⟩
          have HB11 := Lib.hid (HB10.out.trans ((below_grow w10 qn os).mono HB10.out.size))
          by_cases hr0 : 0 ≤ r
          case pos =>
            go_wp2_with (fail)
            go_ret
            exact FaultP.no (by decide) HB11.out
          have HOK2 := Lib.hid (show SgsOk (l.take (i + 1)) from by
            rw [List.take_add_one, HP.out]
            exact SgsOk.snoc HOK.out HR1.out (fun q' hq' => by rw [HTL.out] at hq'; cases hq'; exact HRL.out (by omega)))
          go_wp2_with (fail)
          go_roundw
          case rel => exact ⟨i + 1, by omega, by simp, HB11.out, HOK2⟩
          case measure => simp [intOf]; omega
      case false =>
        have hb4 := HX.out.b
        by_cases hb0 : x.b = 0
        case neg =>
          obtain h | h | h : x.b = 1 ∨ x.b = 2 ∨ x.b = 3 := by omega
          · have e4 : alwT x.b = ⟨#[97, 110, 110]⟩ := by rw [h]; rfl
            rw [e4] at q4
            go_wp2_with (fail)
            go_ret
            exact FaultP.no (by decide) HB8.out
          · have e4 : alwT x.b = ⟨#[98, 111, 98]⟩ := by rw [h]; rfl
            rw [e4] at q4
            go_wp2_with (fail)
            go_ret
            exact FaultP.no (by decide) HB8.out
          · have e4 : alwT x.b = ⟨#[65]⟩ := by rw [h]; rfl
            rw [e4] at q4
            go_wp2_with (fail)
            go_ret
            exact FaultP.no (by decide) HB8.out
        have e4 : alwT x.b = ⟨#[]⟩ := by rw [hb0]; rfl
        rw [e4] at q4
        cases s4
        case true =>
          exfalso
          have h1 : x.kd = 4 := (by simpa using HS4.out)
          have h2 : ¬ 3 ≤ x.kd := (by simpa using HP3.out)
          omega
        by_cases hun : x.un = 0
        case neg =>
          have hunb : (x.un != 0) = true := by simpa using hun
          go_wp2_with (fail)
          go_ret
          exact FaultP.no (by decide) HB8.out
        have hunb : (x.un != 0) = false := by simpa using hun
        have HR1 := Lib.hid (show SgR x from ⟨HX.out.d, HX.out.r, HM.out.1, by have := HM.out; omega, HK.out, (fun h => by have h3 : ¬ 3 ≤ x.kd := (by simpa using HP3.out); omega), fun _ => hb0, (fun h => by have h4 : ¬ x.kd = 4 := (by simpa using HS4.out); exact absurd h h4), fun _ => hun⟩)
        clear hun
        by_cases hi0 : i = 0
        case pos =>
          subst hi0
          have hd : decide ((0 : Int) < 0) = false := by decide
          have HOK2 := Lib.hid (show SgsOk (l.take (0 + 1)) from by
            rw [List.take_add_one, HP.out]
            exact SgsOk.snoc HOK.out HR1.out (fun q hq => by simp at hq))
          go_wp2_with (fail)
          go_quiet (fail)
          go_wp2_with (fail)
          go_roundw
          case rel => exact ⟨1, by omega, by simp, below_drewN HB8.out _, HOK2⟩
          case measure => simp [intOf]; omega
        have hi1I : (0 : Int) < i := by omega
        have hd : decide ((0 : Int) < i) = true := by simpa using hi1I
        have hd2 : decide (0 < i) = true := by simp; omega
        have hd3 : 0 < i := by omega
        obtain ⟨q, hq⟩ : ∃ q, l[i - 1]? = some q := ⟨_, List.getElem?_eq_getElem (by have := HN.out; omega)⟩
        obtain ⟨b2, o2, e2, hb2, hC2⟩ := HR.out.posR sgC_len (by omega) (by have := HN.out; omega)
        cases e2
        have HSA := Lib.hid (sg_cells hC2 (i - 1) q hq)
        have hwrap : (i : Int) - 1 = ((i - 1 : Nat) : Int) := by omega
        have hwr : IntKind.i64.wrap ((i - 1 : Nat) : Int) = ((i - 1 : Nat) : Int) := by rw [IntKind.wrap_i64]; omega
        have hxI : ((i - 1 : Nat) : Int) < (n : Int) := by omega
        have hxN : i - 1 < n := by omega
        have HTL := Lib.hid (take_last hd3 hq)
        have HQ9 := Lib.hid (fun (V : World) (hV : Below w8.heap.size w8 V) => show SgAt3 V b (o + (i - 1) * 6) q g x from
          sgAt3 (HSA.out.below (HB8.out.trans (hV.mono HB8.out.size)) hb2) (HQ6.out V (HB68.out.trans (hV.mono HB68.out.size))))
        have HSO := Lib.hid (fun V => show Calls Tryz.prog 26 #[.agg #[.int .i64 q.at_, .int .i64 q.kd, .string (aldT q.d), .string (alrT q.r), .string (alwT q.b), .int .i64 q.un], .agg #[.int .i64 x.at_, .int .i64 x.kd, .string (aldT x.d), .string (alrT x.r), .string (alwT x.b), .int .i64 x.un]] V _ from signalOrder_grow q x V)
        obtain ⟨r, er⟩ : ∃ r, r = sgCmp q x := ⟨_, rfl⟩
        rw [← er] at HSO
        have HRL := Lib.hid (show ¬ 0 ≤ r → SgL q x from by rw [er]; exact cmp_neg)
        go_upto_region 21 with (fail)
        clear hq hC2 er e4 hb0 q0 q1 q2 q3 q4 q5
        go_upto_region 21 with (fail)
        refine qRegionTail 9 (by kernel_rfl) (by kernel_rfl) ?_
        simp only [List.take_succ_cons, List.take_zero, List.drop_succ_cons, List.drop_zero]
        repeat (first
          | (go_big_quiet_want; refine qVal (fun V hV => (by (obtain ⟨r0, r1, r2, r3, r4, r5, s0, s1, s2, s3, s4', s5⟩ := HQ9.out V hV; go_simp; try rfl))) ?_; simp only [Act.put, List.setIfInBounds_toArray, List.set_cons_zero, List.set_cons_succ]; go_big_quiet_on)
          | go_big_quiet_skip)
        refine wpQuiet_nil ?_
        intro w10 hb10
        have HB10 := Lib.hid (HB8.out.trans (hb10.mono HB8.out.size))
        clear hb10
        go_wp2_with (fail)
        refine (HSO.out w10).mono ?_
        rintro e w11 ⟨rfl, qn, os, rfl⟩
        have HB11 := Lib.hid (HB10.out.trans ((below_grow w10 qn os).mono HB10.out.size))
        by_cases hr0 : 0 ≤ r
        case pos =>
          go_wp2_with (fail)
          go_ret
          exact FaultP.no (by decide) HB11.out
        have HOK2 := Lib.hid (show SgsOk (l.take (i + 1)) from by
          rw [List.take_add_one, HP.out]
          exact SgsOk.snoc HOK.out HR1.out (fun q' hq' => by rw [HTL.out] at hq'; cases hq'; exact HRL.out (by omega)))
        go_wp2_with (fail)
        go_roundw
        case rel => exact ⟨i + 1, by omega, by simp, HB11.out, HOK2⟩
        case measure => simp [intOf]; omega
    · have hltI : ¬ (i : Int) < n := by omega
      have hin' : i = n := by omega
      subst hin'
      go_wp2_with (fail)
      go_ret
      exact ⟨0, rfl, fun _ => by have := HOK.out; rwa [← HN.out, List.take_length] at this, HB.out⟩
end Go.Proofs.YtgdnedhcbjonkaaGreatDoor

/- alarm.CheckSignals and nameFault of right signals: nothing is wrong. Printed by gen_SgC.py. -/
namespace Go.Proofs.YtgdnedhcbjonkaaGreatDoor
open Go.RowKit Go.Shelf Go.Sort

theorem key_dev (d : Nat) (w : World) : Calls Tryz.prog 93 #[.string (aldT d)] w fun e w' => e = .returned (.bool true) ∧ w = w' := by
  match d with
  | 0 => exact key_yes ⟨#[100, 97]⟩ w (by kernel_rfl)
  | 1 => exact key_yes ⟨#[100, 98]⟩ w (by kernel_rfl)
  | n + 2 => exact key_yes ⟨#[100, 103]⟩ w (by kernel_rfl)
theorem key_rule (r : Nat) (w : World) : Calls Tryz.prog 93 #[.string (alrT r)] w fun e w' => e = .returned (.bool true) ∧ w = w' := by
  match r with
  | 0 => exact key_yes ⟨#[114, 97]⟩ w (by kernel_rfl)
  | n + 1 => exact key_yes ⟨#[114, 98]⟩ w (by kernel_rfl)
theorem key_who (b : Nat) (hb : b = 1 ∨ b = 2) (w : World) : Calls Tryz.prog 93 #[.string (alwT b)] w fun e w' => e = .returned (.bool true) ∧ w = w' := by
  rcases hb with rfl | rfl
  · exact key_yes ⟨#[97, 110, 110]⟩ w (by kernel_rfl)
  · exact key_yes ⟨#[98, 111, 98]⟩ w (by kernel_rfl)
set_option maxRecDepth 100000 in
set_option maxHeartbeats 2000000 in
theorem sigFault_ok (x : Sg) (w : World) (h : SgR x) : Calls Tryz.prog 88 #[.agg #[.int .i64 x.at_, .int .i64 x.kd, .string (aldT x.d), .string (alrT x.r), .string (alwT x.b), .int .i64 x.un]] w fun e w' => e = .returned (.int .i64 0) ∧ Below w.heap.size w w' := by
  obtain ⟨at_, kd, d, r, b, un⟩ := x
  obtain ⟨hd, hr, h0, h1, hk, hw, hn, hs, hp⟩ := h
  simp only at hd hr h0 h1 hk hw hn hs hp ⊢
  have HD := Lib.hid (fun V => key_dev d V)
  have HRu := Lib.hid (fun V => key_rule r V)
  by_cases h3 : 3 ≤ kd
  · have HW := Lib.hid (fun V => key_who b (hw h3) V)
    by_cases h4 : kd = 4
    · obtain ⟨s1, s2, s3⟩ := hs h4
      subst h4
      clear hw hn hs hp hk h3
      have hwa : IntKind.i64.wrap (at_ + 1) = at_ + 1 := by rw [IntKind.wrap_i64]; omega
      have hwb : IntKind.i64.wrap (at_ + 2592000000) = at_ + 2592000000 := by rw [IntKind.wrap_i64]; omega
      have h3n : ¬ (345686400000 : Int) < un := by omega
      go_enter Tryz.func88, Tryz.ntmps88
      go_wp2_with (go_at_call 50; refine (moment_yes _ _ h0 h1).mono ?_; rintro e w' ⟨rfl, rfl⟩)
      refine (HD.out _).mono ?_
      rintro e w1 ⟨rfl, rfl⟩
      go_wp2_with (fail)
      refine (HRu.out _).mono ?_
      rintro e w1 ⟨rfl, rfl⟩
      go_wp2_with (go_at_call 74; refine (out_no _ _ _ _ (by omega) (by omega)).mono ?_; rintro e w' ⟨rfl, rfl⟩)
      refine (HW.out _).mono ?_
      rintro e w1 ⟨rfl, rfl⟩
      go_wp2_with (go_at_call 74; refine (out_no _ _ _ _ (by omega) (by omega)).mono ?_; rintro e w' ⟨rfl, rfl⟩)
      go_ret
      exact ⟨rfl, (Below.refl _ _).alloc (Nat.le_refl _) _⟩
    · have hun := hp h4
      subst hun
      have h4b : (kd == 4) = false := by simpa using h4
      clear hw hn hs hp h4
      go_enter Tryz.func88, Tryz.ntmps88
      go_wp2_with (go_at_call 50; refine (moment_yes _ _ h0 h1).mono ?_; rintro e w' ⟨rfl, rfl⟩)
      refine (HD.out _).mono ?_
      rintro e w1 ⟨rfl, rfl⟩
      go_wp2_with (fail)
      refine (HRu.out _).mono ?_
      rintro e w1 ⟨rfl, rfl⟩
      go_wp2_with (go_at_call 74; refine (out_no _ _ _ _ hk.1 hk.2).mono ?_; rintro e w' ⟨rfl, rfl⟩)
      refine (HW.out _).mono ?_
      rintro e w1 ⟨rfl, rfl⟩
      go_wp2_with (fail)
      go_ret
      exact ⟨rfl, (Below.refl _ _).alloc (Nat.le_refl _) _⟩
  · have hb := hn (by omega)
    subst hb
    have h4 : ¬ kd = 4 := by omega
    have hun := hp h4
    subst hun
    have h4b : (kd == 4) = false := by simpa using h4
    clear hw hn hs hp h4
    simp only [alwT]
    go_enter Tryz.func88, Tryz.ntmps88
    go_wp2_with (go_at_call 50; refine (moment_yes _ _ h0 h1).mono ?_; rintro e w' ⟨rfl, rfl⟩)
    refine (HD.out _).mono ?_
    rintro e w1 ⟨rfl, rfl⟩
    go_wp2_with (fail)
    refine (HRu.out _).mono ?_
    rintro e w1 ⟨rfl, rfl⟩
    go_wp2_with (go_at_call 74; refine (out_no _ _ _ _ hk.1 hk.2).mono ?_; rintro e w' ⟨rfl, rfl⟩)
    go_ret
    exact ⟨rfl, (Below.refl _ _).alloc (Nat.le_refl _) _⟩

theorem pair_get {l : List Sg} (h : l.Pairwise SgL) {i k : Nat} {x y : Sg} (hi : l[i]? = some x) (hk : l[k]? = some y) (hik : i < k) : SgL x y := by
  obtain ⟨h1, rfl⟩ := List.getElem?_eq_some_iff.1 hi
  obtain ⟨h2, rfl⟩ := List.getElem?_eq_some_iff.1 hk
  exact (List.pairwise_iff_getElem.1 h) i k h1 h2 hik
set_option maxRecDepth 100000 in
set_option maxHeartbeats 4000000 in
theorem checkSignals_any (l : List Sg) (n c : Nat) (A : Option Addr) (w : World) (hl : SgsOk l) (hn : l.length = n) (hn2 : n ≤ 1000) (hr : Row w w.heap.size A (recs sgC l)) :
    Calls Tryz.prog 43 #[.slice A n c] w fun e w' => e = .returned (.int .i64 0) ∧ Below w.heap.size w w' := by
  have HR := Lib.hid hr
  have HL := Lib.hid hl
  have HN := Lib.hid hn
  have hnI2 : ¬ (5000 : Int) < n := by omega
  clear hr hl hn
  go_enter Tryz.func43, Tryz.ntmps43
  go_wp2_with (fail)
  go_loopw [11] (fun s wr => ∃ (i : Nat), i ≤ n ∧ s = .int .i64 (i : Int) ∧ Below w.heap.size w wr) (fun s _ => n - (intOf s).toNat)
  case atStart => exact ⟨0, by omega, rfl, Below.refl _ _⟩
  case round =>
    obtain ⟨i, hin, rfl, hbr⟩ := hrel
    have hbs := hbr.size
    have HB := Lib.hid hbr
    clear hbr
    by_cases hlt : i < n
    · have hltI : (i : Int) < n := by omega
      obtain ⟨x, hx⟩ : ∃ x, l[i]? = some x := ⟨_, List.getElem?_eq_getElem (by have := HN.out; omega)⟩
      obtain ⟨b, o, rfl, hb, hC⟩ := (HR.out.below HB.out).posR sgC_len (by omega) (by have := HN.out; omega)
      have HSF := Lib.hid (fun V => sigFault_ok x V (HL.out.1 x (List.mem_of_getElem? hx)))
      obtain ⟨c0, c1, c2, c3, c4, c5⟩ := sg_cells hC i x hx
      have HP := Lib.hid hx
      have hb' : b < wr.heap.size := by omega
      clear hx hC
      go_upto_region 6 with (fail)
      obtain ⟨g, eg⟩ : ∃ g, g = wr.heap.size := ⟨_, rfl⟩
      obtain ⟨w5, e5⟩ : ∃ w5, w5 = wr.alloc (.cells #[.int .i64 x.at_, .int .i64 x.kd, .string (aldT x.d), .string (alrT x.r), .string (alwT x.b), .int .i64 x.un] 47) := ⟨_, rfl⟩
      rw [← eg, ← e5]
      have hg5 : w5.heap[g]? = some (sgBk x) := by rw [e5, eg]; exact heap_new wr _
      have HB5 := Lib.hid (show Below w.heap.size w w5 from by rw [e5]; exact HB.out.alloc hbs _)
      have hlt5 : g < w5.heap.size := by rw [e5, eg]; simp
      have hbs5 := HB5.out.size
      have HQ := Lib.hid (fun (V : World) (hV : Below w5.heap.size w5 V) => show SgB V g x from sg_blk ((hV.block g hlt5).trans hg5))
      obtain ⟨q0, q1, q2, q3, q4, q5⟩ := sg_blk hg5
      clear eg e5 hg5 c0 c1 c2 c3 c4 c5
      go_wp2_with (fail)
      refine (HSF.out _).mono ?_
      rintro e w6 ⟨rfl, hb6⟩
      have hs6 := hb6.size
      have HB6 := Lib.hid (HB5.out.trans (hb6.mono hbs5))
      have HB56 := Lib.hid hb6
      clear hb6 q0 q1 q2 q3 q4 q5
      by_cases hi0 : i = 0
      case pos =>
        subst hi0
        have hd : decide ((0 : Int) < 0) = false := by decide
        obtain ⟨q0, q1, q2, q3, q4, q5⟩ := HQ.out w6 HB56.out
        go_wp2_with (fail)
        go_quiet (fail)
        go_wp2_with (fail)
        go_roundw
        case rel => exact ⟨1, by omega, by simp, below_drewN HB6.out _⟩
        case measure => simp [intOf]; omega
      have hi1I : (0 : Int) < i := by omega
      have hd : decide ((0 : Int) < i) = true := by simpa using hi1I
      have hd2 : decide (0 < i) = true := by simp; omega
      have hd3 : 0 < i := by omega
      obtain ⟨q, hq⟩ : ∃ q, l[i - 1]? = some q := ⟨_, List.getElem?_eq_getElem (by have := HN.out; omega)⟩
      obtain ⟨b2, o2, e2, hb2, hC2⟩ := HR.out.posR sgC_len (by omega) (by have := HN.out; omega)
      cases e2
      have HSA := Lib.hid (sg_cells hC2 (i - 1) q hq)
      have hwrap : (i : Int) - 1 = ((i - 1 : Nat) : Int) := by omega
      have hwr : IntKind.i64.wrap ((i - 1 : Nat) : Int) = ((i - 1 : Nat) : Int) := by rw [IntKind.wrap_i64]; omega
      have hxI : ((i - 1 : Nat) : Int) < (n : Int) := by omega
      have hxN : i - 1 < n := by omega
      have HQ9 := Lib.hid (fun (V : World) (hV : Below w6.heap.size w6 V) => show SgAt3 V b (o + (i - 1) * 6) q g x from
        sgAt3 (HSA.out.below (HB6.out.trans (hV.mono HB6.out.size)) hb2) (HQ.out V (HB56.out.trans (hV.mono HB56.out.size))))
      have HSO := Lib.hid (fun V => show Calls Tryz.prog 47 #[.agg #[.int .i64 x.at_, .int .i64 x.kd, .string (aldT x.d), .string (alrT x.r), .string (alwT x.b), .int .i64 x.un], .agg #[.int .i64 q.at_, .int .i64 q.kd, .string (aldT q.d), .string (alrT q.r), .string (alwT q.b), .int .i64 q.un]] V _ from byMoment_grow x q V)
      have hr0 : 0 < sgCmp x q := (sgCmp_gt x q).2 (pair_get HL.out.2 hq HP.out (by omega))
      obtain ⟨r, er⟩ : ∃ r, r = sgCmp x q := ⟨_, rfl⟩
      rw [← er] at HSO hr0
      have hr1 : ¬ r ≤ 0 := by omega
      clear hq hC2 er
      go_upto_region 9 with (fail)
      go_upto_region 9 with (fail)
      refine qRegionTail 9 (by kernel_rfl) (by kernel_rfl) ?_
      simp only [List.take_succ_cons, List.take_zero, List.drop_succ_cons, List.drop_zero]
      repeat (first
        | (go_big_quiet_want; refine qVal (fun V hV => (by (obtain ⟨r0, r1, r2, r3, r4, r5, s0, s1, s2, s3, s4', s5⟩ := HQ9.out V hV; go_simp; try rfl))) ?_; simp only [Act.put, List.setIfInBounds_toArray, List.set_cons_zero, List.set_cons_succ]; go_big_quiet_on)
        | go_big_quiet_skip)
      refine wpQuiet_nil ?_
      intro w10 hb10
      have HB10 := Lib.hid (HB6.out.trans (hb10.mono HB6.out.size))
      clear hb10
      go_wp2_with (fail)
      refine (HSO.out w10).mono ?_
      rintro e w11 ⟨rfl, qn, os, rfl⟩
      have HB11 := Lib.hid (HB10.out.trans ((below_grow w10 qn os).mono HB10.out.size))
      go_wp2_with (fail)
      go_roundw
      case rel => exact ⟨i + 1, by omega, by simp, HB11.out⟩
      case measure => simp [intOf]; omega
    · have hltI : ¬ (i : Int) < n := by omega
      have hin' : i = n := by omega
      subst hin'
      go_wp2_with (fail)
      go_ret
      exact ⟨rfl, HB.out⟩
theorem nameFault_any (l : List Sg) (n c d r : Nat) (A : Option Addr) (w : World) (hl : SgsOk l) (hn : l.length = n) (hn2 : n ≤ 1000) (hr : Row w w.heap.size A (recs sgC l)) :
    Calls Tryz.prog 78 #[.slice A n c, .string (aldT d), .string (alrT r)] w fun e w' => e = .returned (.int .i64 0) ∧ Below w.heap.size w w' := by
  have HC := Lib.hid (checkSignals_any l n c A w hl hn hn2 hr)
  have HD := Lib.hid (fun V => key_dev d V)
  have HRu := Lib.hid (fun V => key_rule r V)
  clear hl hn hr
  go_enter Tryz.func78, Tryz.ntmps78
  go_wp2_with (fail)
  refine HC.out.mono ?_
  rintro e w1 ⟨rfl, hb1⟩
  have HB := Lib.hid hb1
  clear hb1
  go_wp2_with (fail)
  refine (HD.out _).mono ?_
  rintro e w1 ⟨rfl, rfl⟩
  go_wp2_with (fail)
  refine (HRu.out _).mono ?_
  rintro e w1 ⟨rfl, rfl⟩
  go_wp2_with (fail)
  go_ret
  exact ⟨rfl, HB.out⟩
end Go.Proofs.YtgdnedhcbjonkaaGreatDoor

/- alarm.AlarmOf by its contract. -/
namespace Go.Proofs.YtgdnedhcbjonkaaGreatDoor
open Go.RowKit Go.Shelf

theorem SgR.v {s : Sg} (h : SgR s) : SgV s := ⟨⟨h.d, h.r⟩, h.kd, h.at0, h.at1⟩
theorem lifeAt_none {l : List Sg} {t : Int} {n : Nm2} (h : n ∉ namesOf l) : lifeAt l t n = newL n.1 n.2 := by
  have h' : ∀ s ∈ l, (s.d, s.r) ≠ n := fun s hs e => h ((mem_namesOf l n).2 ⟨s, hs, e⟩)
  clear h
  have key : ∀ (l : List Sg) (L : Lf), (∀ s ∈ l, (s.d, s.r) ≠ n) → l.foldl (lifeStep t n) L = L := by
    intro l
    induction l with
    | nil => intro L _; rfl
    | cons s l ih =>
      intro L hl
      rw [List.foldl_cons]
      have : lifeStep t n L s = L := by unfold lifeStep; rw [if_neg (fun e => hl s List.mem_cons_self e.1)]
      rw [this]
      exact ih L fun q hq => hl q (List.mem_cons_of_mem _ hq)
  exact key l _ h'
theorem lifeAt_name (l : List Sg) (t : Int) (n : Nm2) : (lifeAt l t n).d = n.1 ∧ (lifeAt l t n).r = n.2 := by
  have key : ∀ (l : List Sg) (L : Lf), (l.foldl (lifeStep t n) L).d = L.d ∧ (l.foldl (lifeStep t n) L).r = L.r := by
    intro l
    induction l with
    | nil => intro L; exact ⟨rfl, rfl⟩
    | cons s l ih =>
      intro L
      rw [List.foldl_cons]
      obtain ⟨h1, h2⟩ := ih (lifeStep t n L s)
      have : (lifeStep t n L s).d = L.d ∧ (lifeStep t n L s).r = L.r := by
        unfold lifeStep
        split
        · exact follow_name L s
        · exact ⟨rfl, rfl⟩
      exact ⟨h1.trans this.1, h2.trans this.2⟩
  exact key l _
/-- What a house says of a name. -/
theorem house_look {w' : World} {B hs m : Nat} {o : List Nat} {M : List Mb} {l : List Sg} {F : Nm2 → Lf} (hI : HsI w' B hs m o M) (hnm : M.map (·.n) = namesOf l) (hL : ∀ y ∈ M, y.L = F y.n) (d r : Nat) (hn : NmOk (d, r)) :
    w'.cell? ⟨hs, 0, none⟩ = some (.map (some m)) ∧
    ((∃ x v, (Instr.lookup 133 (.map (some m)) (.agg #[.string (aldT d), .string (alrT r)]) false).run Tryz.prog w' = .ok (.pointer (some ⟨x, 0, none⟩)) w' ∧ LfI w' x (F (d, r)) v) ∨
      ((Instr.lookup 133 (.map (some m)) (.agg #[.string (aldT d), .string (alrT r)]) false).run Tryz.prog w' = .ok (.pointer none) w' ∧ (d, r) ∉ namesOf l)) := by
  obtain ⟨A, c, hb, _⟩ := hI.blk
  refine ⟨cell_of_blk (j := 0) hb rfl, ?_⟩
  have hlk := lookup_names hn (w := w') (m := m) (l := mbE M) (fun p hp => by
    simp only [mbE, List.mem_map] at hp
    obtain ⟨z, hz, rfl⟩ := hp
    exact (hI.each z hz).2.1) (by have := hI.map; simpa [mbE] using this)
  cases h : lkN (mbE M) (d, r) with
  | some x =>
    left
    obtain ⟨P, y, S, hM, h1, h2, h3⟩ := lkN_split h
    have hy : y ∈ M := by rw [hM]; simp
    rw [h] at hlk
    refine ⟨x, y.v, hlk, ?_⟩
    have := (hI.each y hy).1
    rw [hL y hy, h1, h2] at this
    exact this
  | none =>
    right
    rw [h] at hlk
    exact ⟨hlk, by rw [← hnm]; exact lkN_none.1 h⟩
def AlOfP (w : World) (a : Am) (e : Ending) (w' : World) : Prop := e = .returned (.tuple #[.agg #[.string (aldT a.d), .string (alrT a.r), .int .i64 a.st, .int .i64 a.si, .int .i64 a.n, .int .i64 a.sh], .int .i64 0]) ∧ Below w.heap.size w w'
set_option maxRecDepth 100000 in
set_option maxHeartbeats 2000000 in
theorem alarmOf_any (l : List Sg) (n c d r : Nat) (t : Int) (A : Option Addr) (w : World) (hl : SgsOk l) (hn : l.length = n) (hn2 : n ≤ 1000) (hr : Row w w.heap.size A (recs sgC l)) (hd : NmOk (d, r)) (ht0 : 0 ≤ t) (ht1 : t < 345686400000) :
    Calls Tryz.prog 39 #[.slice A n c, .string (aldT d), .string (alrT r), .int .i64 t] w fun e w' => AlOfP w (viewL (lifeAt l t (d, r)) t) e w' := by
  have hba : Below w.heap.size w (w.alloc (.cells #[.string ⟨#[]⟩, .string ⟨#[]⟩, .int .i64 0, .int .i64 0, .int .i64 0, .int .i64 0] 99)) := (Below.refl _ _).alloc (Nat.le_refl _) _
  have hnw := heap_new w (.cells #[.string ⟨#[]⟩, .string ⟨#[]⟩, .int .i64 0, .int .i64 0, .int .i64 0, .int .i64 0] 99)
  have hz : w.heap.size < (w.alloc (.cells #[.string ⟨#[]⟩, .string ⟨#[]⟩, .int .i64 0, .int .i64 0, .int .i64 0, .int .i64 0] 99)).heap.size := by simp
  have HRW := Lib.hid (fun (V : World) (hV : Below w.heap.size w V) => show Row V V.heap.size A (recs sgC l) from (hr.below hV).mono hV.size)
  have HN := Lib.hid (nameFault_any l n c d r A _ hl hn hn2 (HRW.out _ hba))
  have HA := Lib.hid (fun V hV => at_any l n c t A V hn (by omega) (HRW.out V hV) (fun s hs => (hl.1 s hs).v))
  have HK := Lib.hid (And.intro hba (And.intro hnw hz))
  have HNM := Lib.hid hd
  have HT := Lib.hid (And.intro ht0 ht1)
  obtain ⟨⟨ad, ar, a1, a2, a3, a4⟩, ha⟩ : ∃ a, a = viewL (lifeAt l t (d, r)) t := ⟨_, rfl⟩
  rw [← ha]
  have HAV := Lib.hid ha
  unfold AlOfP
  simp only
  clear ha
  clear hba hnw hz hl hn hr hd ht0 ht1
  go_enter Tryz.func39, Tryz.ntmps39
  go_wp2_with (fail)
  refine HN.out.mono ?_
  rintro e w1 ⟨rfl, hB1⟩
  have HB1 := Lib.hid (HK.out.1.trans (hB1.mono HK.out.1.size))
  have HN1 := Lib.hid ((hB1.block w.heap.size HK.out.2.2).trans HK.out.2.1)
  have hs1 := hB1.size
  have hlt1 : w.heap.size < w1.heap.size := Nat.lt_of_lt_of_le HK.out.2.2 hs1
  clear hB1 hs1
  go_wp2_with (go_at_call 50; refine (moment_yes _ _ HT.out.1 HT.out.2).mono ?_; rintro e w' ⟨rfl, rfl⟩)
  refine (HA.out w1 HB1.out).mono ?_
  rintro e w2 ⟨hs, m, o, M, rfl, hI, hord, hnm, hL, hB2⟩
  have hlook := house_look hI hnm hL d r HNM.out
  obtain ⟨hc, hlook⟩ := hlook
  have hs2 := hB2.size
  have HB2 := Lib.hid (HB1.out.trans (hB2.mono HB1.out.size))
  have HN2 := Lib.hid ((hB2.block w.heap.size hlt1).trans HN1.out)
  have hlt2 : w.heap.size < w2.heap.size := by omega
  clear hI hord hnm hL hB2
  generalize hgg : w.heap.size = g at hlt2 hlt1 ⊢
  have HGG := Lib.hid hgg
  rcases hlook with ⟨x, v, hl, hX⟩ | ⟨hl, hno⟩
  · have HV := Lib.hid (view_any x t _ v w2 hX)
    unfold ViewPost at HV
    rw [← HAV.out] at HV
    unfold amC at HV
    simp only at HV
    clear hX hgg
    go_wp2_with (fail)
    refine HV.out.mono ?_
    rintro e w3 ⟨rfl, hB3⟩
    have hn3 := (hB3.block g hlt2).trans (HGG.out ▸ HN2.out)
    have hs3 := hB3.size
    have HB3 := Lib.hid (show Below w.heap.size w w3 from HB2.out.trans (hB3.mono HB2.out.size))
    have hlt3 : g < w3.heap.size := by omega
    have HN3 := Lib.hid hn3
    clear hB3 hn3 hl hc
    go_upto_region 10 with (fail)
    have hbv : Below w3.heap.size w3 (w3.alloc (.cells #[.string (aldT ad), .string (alrT ar), .int .i64 a1, .int .i64 a2, .int .i64 a3, .int .i64 a4] 99)) := (Below.refl _ _).alloc (Nat.le_refl _) _
    have hnv := heap_new w3 (.cells #[.string (aldT ad), .string (alrT ar), .int .i64 a1, .int .i64 a2, .int .i64 a3, .int .i64 a4] 99)
    generalize w3.alloc (.cells #[.string (aldT ad), .string (alrT ar), .int .i64 a1, .int .i64 a2, .int .i64 a3, .int .i64 a4] 99) = V at hbv hnv ⊢
    have hgv := (hbv.block g hlt3).trans HN3.out
    have HWV := Lib.hid (show Below w.heap.size w V from HB3.out.trans (hbv.mono HB3.out.size))
    have hne : g ≠ w3.heap.size := by omega
    generalize w3.heap.size = k at hnv hne ⊢
    obtain ⟨p0, p1, p2, p3, p4, p5⟩ := box6 hnv
    obtain ⟨q0, q1, q2, q3, q4, q5⟩ := box6 hgv
    have z0 := frz hgv 0
    have z1 := frz hgv 1
    have z2 := frz hgv 2
    have z3 := frz hgv 3
    have z4 := frz hgv 4
    have z5 := frz hgv 5
    have HV3 := Lib.hid hgv
    clear hbv hgv hnv hlt3
    go_wp2_with (fail)
    have HX := six_set (.string (aldT ad)) (.string (alrT ar)) (.int .i64 a1) (.int .i64 a2) (.int .i64 a3) (.int .i64 a4) HWV.out (Nat.le_of_eq HGG.out) HV3.out
    obtain ⟨HBX, HX⟩ := HX
    generalize ((((((V.setCell ⟨g, 0, none⟩ (.string (aldT ad))).setCell ⟨g, 1, none⟩ (.string (alrT ar))).setCell ⟨g, 2, none⟩ (.int .i64 a1)).setCell ⟨g, 3, none⟩ (.int .i64 a2)).setCell ⟨g, 4, none⟩ (.int .i64 a3)).setCell ⟨g, 5, none⟩ (.int .i64 a4)) = U at HX HBX ⊢
    clear q0 q1 q2 q3 q4 q5 p0 p1 p2 p3 p4 p5
    obtain ⟨q0, q1, q2, q3, q4, q5⟩ := box6 HX
    exact bodyPost_ret (v := .tuple #[.agg #[.string (aldT ad), .string (alrT ar), .int .i64 a1, .int .i64 a2, .int .i64 a3, .int .i64 a4], .int .i64 0]) (by simp [results, Tryz.results39, go_sem, q0, q1, q2, q3, q4, q5]) rfl ⟨rfl, HBX⟩
  · have hav : (⟨ad, ar, a1, a2, a3, a4⟩ : Am) = ⟨d, r, 0, 0, 0, 0⟩ := by
      rw [HAV.out, lifeAt_none hno]
      unfold viewL newL
      simp only [List.length_nil]
      rw [if_neg (by have := HT.out.1; omega)]
      rfl
    have HAV2 := Lib.hid (Am.mk.inj hav)
    have hgv := HGG.out ▸ HN2.out
    obtain ⟨q0, q1, q2, q3, q4, q5⟩ := box6 hgv
    have z0 := frz hgv 0
    have z1 := frz hgv 1
    have z2 := frz hgv 2
    have z3 := frz hgv 3
    have z4 := frz hgv 4
    have z5 := frz hgv 5
    have HV3 := Lib.hid hgv
    clear hav hno hgv hgg
    go_wp2_with (fail)
    have HX := six_set (.string (aldT d)) (.string (alrT r)) (.int .i64 0) (.int .i64 0) (.int .i64 0) (.int .i64 0) HB2.out (Nat.le_of_eq HGG.out) HV3.out
    obtain ⟨HBX, HX⟩ := HX
    generalize ((((((w2.setCell ⟨g, 0, none⟩ (.string (aldT d))).setCell ⟨g, 1, none⟩ (.string (alrT r))).setCell ⟨g, 2, none⟩ (.int .i64 0)).setCell ⟨g, 3, none⟩ (.int .i64 0)).setCell ⟨g, 4, none⟩ (.int .i64 0)).setCell ⟨g, 5, none⟩ (.int .i64 0)) = U at HX HBX ⊢
    clear q0 q1 q2 q3 q4 q5
    obtain ⟨q0, q1, q2, q3, q4, q5⟩ := box6 HX
    exact bodyPost_ret (v := .tuple #[.agg #[.string (aldT d), .string (alrT r), .int .i64 0, .int .i64 0, .int .i64 0, .int .i64 0], .int .i64 0]) (by simp [results, Tryz.results39, go_sem, q0, q1, q2, q3, q4, q5]) rfl ⟨by obtain ⟨e1, e2, e3, e4, e5, e6⟩ := HAV2.out; rw [e1, e2, e3, e4, e5, e6], HBX⟩
end Go.Proofs.YtgdnedhcbjonkaaGreatDoor

/- Windows that have a moment. No program in sight. -/
namespace Go.Proofs.YtgdnedhcbjonkaaGreatDoor

def lsts (x : Int × Int) : Bool := decide (x.1 < x.2)
end Go.Proofs.YtgdnedhcbjonkaaGreatDoor

/- AlarmsTakeTurns: the plain law; no program in sight. -/
namespace Go.Proofs.YtgdnedhcbjonkaaGreatDoor

def isUp (L : Lf) : Prop := L.st = 1 ∨ L.st = 2
theorem follow_kind (L : Lf) (s : Sg) :
    ((followL L s).1.up = L.up ∧ (isUp (followL L s).1 ↔ isUp L)) ∨ (¬ isUp L ∧ isUp (followL L s).1 ∧ (followL L s).1.up = L.up ++ [(s.at_, alEnd)] ∧ s.kd = 1) ∨ (isUp L ∧ ¬ isUp (followL L s).1 ∧ (followL L s).1.up = setLast L.up s.at_) := by
  unfold followL isUp
  split
  · rename_i hk
    split
    · exact .inl ⟨rfl, Iff.rfl⟩
    · rename_i h
      exact .inr (.inl ⟨h, .inl rfl, rfl, hk⟩)
  · split
    · split
      · rename_i h
        refine .inr (.inr ⟨.inl h, ?_, rfl⟩)
        simp [clA]
      · split
        · rename_i h
          refine .inr (.inr ⟨.inr h, ?_, rfl⟩)
          simp [clK]
        · exact .inl ⟨rfl, Iff.rfl⟩
    · split
      · split
        · rename_i h
          refine .inl ⟨rfl, ?_⟩
          simp [akd, akR, h]
        · split
          · rename_i h
            refine .inl ⟨rfl, ?_⟩
            simp [akd, akA, h]
          · exact .inl ⟨rfl, Iff.rfl⟩
      · split
        · split
          · exact .inl ⟨rfl, Iff.rfl⟩
          · exact .inl ⟨rfl, Iff.rfl⟩
        · split
          · exact .inl ⟨rfl, Iff.rfl⟩
          · exact .inl ⟨rfl, Iff.rfl⟩
theorem lifeAt_all {l : List Sg} {m : Int} {n : Nm2} (hm : ∀ s ∈ l, s.at_ ≤ m) (he : ∀ s ∈ l, s.at_ ≤ alEnd) : lifeAt l m n = lifeAt l alEnd n := by
  have key : ∀ (l : List Sg) (L : Lf), (∀ s ∈ l, s.at_ ≤ m) → (∀ s ∈ l, s.at_ ≤ alEnd) → l.foldl (lifeStep m n) L = l.foldl (lifeStep alEnd n) L := by
    intro l
    induction l with
    | nil => intro L _ _; rfl
    | cons s l ih =>
      intro L h1 h2
      rw [List.foldl_cons, List.foldl_cons]
      have : lifeStep m n L s = lifeStep alEnd n L s := by
        unfold lifeStep
        have := h1 s List.mem_cons_self
        have := h2 s List.mem_cons_self
        by_cases hn : (s.d, s.r) = n
        · rw [if_pos ⟨hn, by assumption⟩, if_pos ⟨hn, by assumption⟩]
        · rw [if_neg (fun e => hn e.1), if_neg (fun e => hn e.1)]
      rw [this]
      exact ih _ (fun q hq => h1 q (List.mem_cons_of_mem _ hq)) (fun q hq => h2 q (List.mem_cons_of_mem _ hq))
  exact key l _ hm he
/-- What holds of the windows behind some signals. -/
structure UpI (l : List Sg) (n : Nm2) (cl op : List (Int × Int)) : Prop where
  up : (lifeAt l alEnd n).up = cl ++ op
  pw : (cl ++ op).Pairwise (fun a b => a.2 ≤ b.1)
  rng : ∀ w ∈ cl ++ op, 0 ≤ w.1 ∧ w.1 ≤ w.2 ∧ w.2 ≤ alEnd ∧ ∃ s ∈ l, s.at_ = w.1 ∧ s.kd = 1 ∧ (s.d, s.r) = n
  cl_ : ∀ w ∈ cl, ∃ s ∈ l, w.2 = s.at_
  opn : (isUp (lifeAt l alEnd n) ∧ ∃ f, op = [(f, alEnd)]) ∨ (¬ isUp (lifeAt l alEnd n) ∧ op = [])
  st : ∀ w ∈ cl ++ op, ∀ m, w.1 ≤ m → m < w.2 → isUp (lifeAt l m n)
theorem upI_nil (n : Nm2) : UpI [] n [] [] := by
  refine ⟨rfl, List.Pairwise.nil, by simp, by simp, .inr ⟨?_, rfl⟩, by simp⟩
  unfold isUp
  simp [lifeAt, newL]
theorem upI_snoc {l : List Sg} {s : Sg} {n : Nm2} {cl op : List (Int × Int)} (h : UpI l n cl op) (hs : ∀ q ∈ l, q.at_ ≤ s.at_) (h0 : 0 ≤ s.at_) (h1 : s.at_ < alEnd) : ∃ cl' op', UpI (l ++ [s]) n cl' op' := by
  have hle : ∀ q ∈ l, q.at_ ≤ alEnd := fun q hq => by have := hs q hq; omega
  have hmem : ∀ q ∈ l, q ∈ l ++ [s] := fun q hq => List.mem_append_left _ hq
  by_cases hn : (s.d, s.r) = n
  · have hF : lifeAt (l ++ [s]) alEnd n = (followL (lifeAt l alEnd n) s).1 := by
      rw [lifeAt_snoc]; unfold lifeStep; rw [if_pos ⟨hn, by omega⟩]
    have hlow : ∀ m, m < s.at_ → lifeAt (l ++ [s]) m n = lifeAt l m n := fun m hm => by
      rw [lifeAt_snoc]; unfold lifeStep; rw [if_neg (fun e => by have := e.2; omega)]
    have hhigh : ∀ m, s.at_ ≤ m → lifeAt (l ++ [s]) m n = lifeAt (l ++ [s]) alEnd n := fun m hm =>
      lifeAt_all (fun q hq => by
        rw [List.mem_append, List.mem_singleton] at hq
        rcases hq with hq | rfl
        · have := hs q hq; omega
        · exact hm) (fun q hq => by
        rw [List.mem_append, List.mem_singleton] at hq
        rcases hq with hq | rfl
        · exact hle q hq
        · omega)
    have hclm : ∀ w ∈ cl, ∀ m, m < w.2 → m < s.at_ := fun w hw m hm => by
      obtain ⟨q, hq, e⟩ := h.cl_ w hw
      have := hs q hq
      omega
    have hrng : ∀ w ∈ cl ++ op, 0 ≤ w.1 ∧ w.1 ≤ w.2 ∧ w.2 ≤ alEnd ∧ ∃ q ∈ l ++ [s], q.at_ = w.1 ∧ q.kd = 1 ∧ (q.d, q.r) = n := fun w hw => by
      obtain ⟨a, b, c, q, hq, d⟩ := h.rng w hw
      exact ⟨a, b, c, q, hmem q hq, d⟩
    rcases follow_kind (lifeAt l alEnd n) s with ⟨k1, k2⟩ | ⟨k1, k2, k3, k4⟩ | ⟨k1, k2, k3⟩
    · refine ⟨cl, op, by rw [hF, k1]; exact h.up, h.pw, hrng, fun w hw => by obtain ⟨q, hq, e⟩ := h.cl_ w hw; exact ⟨q, hmem q hq, e⟩, by rw [hF, k2]; exact h.opn, fun w hw m h2 h3 => ?_⟩
      rcases Int.lt_or_le m s.at_ with hm | hm
      · rw [hlow m hm]; exact h.st w hw m h2 h3
      · rw [hhigh m hm, hF, k2]
        rcases List.mem_append.1 hw with hw | hw
        · have := hclm w hw m h3; omega
        · rcases h.opn with ⟨g, _⟩ | ⟨_, g⟩
          · exact g
          · rw [g] at hw; cases hw
    · have hop : op = [] := by
        rcases h.opn with ⟨g, _⟩ | ⟨_, g⟩
        · exact absurd g k1
        · exact g
      subst hop
      have hup := h.up
      rw [List.append_nil] at hup
      refine ⟨cl, [(s.at_, alEnd)], by rw [hF, k3, hup], ?_, ?_, fun w hw => by obtain ⟨q, hq, e⟩ := h.cl_ w hw; exact ⟨q, hmem q hq, e⟩, by rw [hF]; exact .inl ⟨k2, _, rfl⟩, ?_⟩
      · have hpw := h.pw
        rw [List.append_nil] at hpw
        refine List.pairwise_append.2 ⟨hpw, List.pairwise_singleton _ _, fun a ha b hb => ?_⟩
        rw [List.mem_singleton] at hb
        subst hb
        obtain ⟨q, hq, e⟩ := h.cl_ a ha
        have := hs q hq
        show a.2 ≤ s.at_
        omega
      · intro w hw
        rcases List.mem_append.1 hw with hw | hw
        · exact hrng w (List.mem_append_left _ hw)
        · rw [List.mem_singleton] at hw
          subst hw
          exact ⟨h0, by show s.at_ ≤ alEnd; omega, Int.le_refl _, s, by simp, rfl, k4, hn⟩
      · intro w hw m h2 h3
        rcases List.mem_append.1 hw with hw | hw
        · rw [hlow m (hclm w hw m h3)]
          exact h.st w (List.mem_append_left _ hw) m h2 h3
        · rw [List.mem_singleton] at hw
          subst hw
          rw [hhigh m h2, hF]
          exact k2
    · obtain ⟨f, hop⟩ : ∃ f, op = [(f, alEnd)] := by
        rcases h.opn with ⟨_, g⟩ | ⟨g, _⟩
        · exact g
        · exact absurd k1 g
      subst hop
      have hf := h.rng (f, alEnd) (by simp)
      obtain ⟨f1, f2, f3, q0, hq0, f4, f5⟩ := hf
      simp only at f1 f2 f3 f4
      have hfs : f ≤ s.at_ := by have := hs q0 hq0; omega
      refine ⟨cl ++ [(f, s.at_)], [], by rw [hF, k3, h.up, setLast_snoc, List.append_nil], ?_, ?_, ?_, by rw [hF]; exact .inr ⟨k2, rfl⟩, ?_⟩
      · rw [List.append_nil]
        have hpw := List.pairwise_append.1 h.pw
        refine List.pairwise_append.2 ⟨hpw.1, List.pairwise_singleton _ _, fun a ha b hb => ?_⟩
        rw [List.mem_singleton] at hb
        subst hb
        exact hpw.2.2 a ha (f, alEnd) (by simp)
      · intro w hw
        rw [List.append_nil] at hw
        rcases List.mem_append.1 hw with hw | hw
        · exact hrng w (List.mem_append_left _ hw)
        · rw [List.mem_singleton] at hw
          subst hw
          exact ⟨f1, hfs, by show s.at_ ≤ alEnd; omega, q0, hmem q0 hq0, f4, f5⟩
      · intro w hw
        rcases List.mem_append.1 hw with hw | hw
        · obtain ⟨q, hq, e⟩ := h.cl_ w hw
          exact ⟨q, hmem q hq, e⟩
        · rw [List.mem_singleton] at hw
          subst hw
          exact ⟨s, by simp, rfl⟩
      · intro w hw m h2 h3
        rw [List.append_nil] at hw
        rcases List.mem_append.1 hw with hw | hw
        · rw [hlow m (hclm w hw m h3)]
          exact h.st w (List.mem_append_left _ hw) m h2 h3
        · rw [List.mem_singleton] at hw
          subst hw
          simp only at h2 h3
          rw [hlow m h3]
          exact h.st (f, alEnd) (by simp) m h2 (by show m < alEnd; omega)
  · have hF : ∀ m, lifeAt (l ++ [s]) m n = lifeAt l m n := fun m => by
      rw [lifeAt_snoc]; unfold lifeStep; rw [if_neg (fun e => hn e.1)]
    refine ⟨cl, op, by rw [hF]; exact h.up, h.pw, fun w hw => ?_, fun w hw => ?_, by rw [hF]; exact h.opn, fun w hw m h2 h3 => by rw [hF]; exact h.st w hw m h2 h3⟩
    · obtain ⟨a, b, c, q, hq, d⟩ := h.rng w hw
      exact ⟨a, b, c, q, hmem q hq, d⟩
    · obtain ⟨q, hq, e⟩ := h.cl_ w hw
      exact ⟨q, hmem q hq, e⟩
theorem upI_any {l : List Sg} (n : Nm2) (h : SgsOk l) : ∃ cl op, UpI l n cl op := by
  have key : ∀ k, k ≤ l.length → ∃ cl op, UpI (l.take k) n cl op := by
    intro k
    induction k with
    | zero => intro _; exact ⟨[], [], by simpa using upI_nil n⟩
    | succ k ih =>
      intro hk
      obtain ⟨cl, op, hi⟩ := ih (by omega)
      have hx : l[k]? = some l[k] := List.getElem?_eq_getElem (by omega)
      have he : l.take (k + 1) = l.take k ++ [l[k]] := by rw [List.take_add_one, hx]; rfl
      rw [he]
      have hr := h.1 l[k] (List.getElem_mem (by omega))
      refine upI_snoc hi (fun q hq => ?_) hr.at0 hr.at1
      obtain ⟨i, hi', rfl⟩ := List.getElem_of_mem hq
      rw [List.length_take] at hi'
      rw [List.getElem_take]
      have := (List.pairwise_iff_getElem.1 h.2) i k (by omega) (by omega) (by omega)
      unfold SgL at this
      omega
  have := key l.length (Nat.le_refl _)
  rwa [List.take_length] at this
structure TurnW (l : List Sg) (n : Nm2) (w : Int × Int) : Prop where
  lo : 0 ≤ w.1
  lt : w.1 < w.2
  hi : w.2 ≤ 345686400000
  sig : ∃ s ∈ l, s.at_ = w.1 ∧ s.kd = 1 ∧ (s.d, s.r) = n
  at1 : isUp (lifeAt l w.1 n)
  at2 : isUp (lifeAt l (w.2 - 1) n)
theorem turns_any {l : List Sg} (n : Nm2) (h : SgsOk l) : ((lifeAt l 345686400000 n).up.filter lsts).Pairwise (fun a b => a.2 ≤ b.1) ∧ ∀ w ∈ (lifeAt l 345686400000 n).up.filter lsts, TurnW l n w := by
  obtain ⟨cl, op, hi⟩ := upI_any n h
  have hup : (lifeAt l 345686400000 n).up = cl ++ op := hi.up
  rw [hup]
  refine ⟨hi.pw.sublist List.filter_sublist, fun w hw => ?_⟩
  obtain ⟨hw1, hw2⟩ := List.mem_filter.1 hw
  have hlt : w.1 < w.2 := by unfold lsts at hw2; simpa using hw2
  obtain ⟨a, b, c, d⟩ := hi.rng w hw1
  exact ⟨a, hlt, c, d, hi.st w hw1 w.1 (Int.le_refl _) hlt, hi.st w hw1 (w.2 - 1) (by omega) (by omega)⟩
end Go.Proofs.YtgdnedhcbjonkaaGreatDoor

/- NoticesAreDue: the plain law of lives: the times in which an alarm is active, and in which it is shelved; no program in sight. -/
namespace Go.Proofs.YtgdnedhcbjonkaaGreatDoor

theorem follow_fresh (L : Lf) (s : Sg) :
    ((followL L s).1.fr = L.fr ∧ ((followL L s).1.st = 1 ↔ L.st = 1)) ∨ (¬ L.st = 1 ∧ (followL L s).1.st = 1 ∧ (followL L s).1.fr = L.fr ++ [(s.at_, alEnd)]) ∨ (L.st = 1 ∧ ¬ (followL L s).1.st = 1 ∧ (followL L s).1.fr = setLast L.fr s.at_) := by
  unfold followL
  split
  · split
    · exact .inl ⟨rfl, Iff.rfl⟩
    · rename_i h
      exact .inr (.inl ⟨by omega, rfl, rfl⟩)
  · split
    · split
      · rename_i h
        exact .inr (.inr ⟨h, by simp [clA], rfl⟩)
      · split
        · rename_i h1 h2
          exact .inl ⟨rfl, by simp [clK, h2]⟩
        · exact .inl ⟨rfl, Iff.rfl⟩
    · split
      · split
        · rename_i h
          exact .inl ⟨rfl, by simp [akd, akR, h]⟩
        · split
          · rename_i h
            exact .inr (.inr ⟨h, by simp [akd, akA], rfl⟩)
          · exact .inl ⟨rfl, Iff.rfl⟩
      · split
        · split
          · exact .inl ⟨rfl, Iff.rfl⟩
          · exact .inl ⟨rfl, Iff.rfl⟩
        · split
          · exact .inl ⟨rfl, Iff.rfl⟩
          · exact .inl ⟨rfl, Iff.rfl⟩
/-- What holds of the windows in which an alarm is active. -/
structure FrI (l : List Sg) (n : Nm2) (cl op : List (Int × Int)) : Prop where
  fr : (lifeAt l alEnd n).fr = cl ++ op
  rng : ∀ w ∈ cl ++ op, 0 ≤ w.1 ∧ w.1 ≤ w.2 ∧ w.2 ≤ alEnd
  cl_ : ∀ w ∈ cl, ∃ s ∈ l, w.2 = s.at_
  op_ : ∀ w ∈ op, ∃ s ∈ l, w.1 = s.at_
  opn : ((lifeAt l alEnd n).st = 1 ∧ ∃ f, op = [(f, alEnd)]) ∨ (¬ (lifeAt l alEnd n).st = 1 ∧ op = [])
  st : ∀ w ∈ cl ++ op, ∀ m, w.1 ≤ m → m < w.2 → (lifeAt l m n).st = 1
theorem frI_nil (n : Nm2) : FrI [] n [] [] := by
  refine ⟨rfl, by simp, by simp, by simp, .inr ⟨?_, rfl⟩, by simp⟩
  simp [lifeAt, newL]
theorem life_low {l : List Sg} {s : Sg} {n : Nm2} {m : Int} (hm : m < s.at_) : lifeAt (l ++ [s]) m n = lifeAt l m n := by
  rw [lifeAt_snoc]; unfold lifeStep; rw [if_neg (fun e => by have := e.2; omega)]
theorem life_high {l : List Sg} {s : Sg} {n : Nm2} {m : Int} (hs : ∀ q ∈ l, q.at_ ≤ s.at_) (h1 : s.at_ < alEnd) (hm : s.at_ ≤ m) : lifeAt (l ++ [s]) m n = lifeAt (l ++ [s]) alEnd n :=
  lifeAt_all (fun q hq => by
    rw [List.mem_append, List.mem_singleton] at hq
    rcases hq with hq | rfl
    · have := hs q hq; omega
    · exact hm) (fun q hq => by
    rw [List.mem_append, List.mem_singleton] at hq
    rcases hq with hq | rfl
    · have := hs q hq; omega
    · omega)
theorem life_other {l : List Sg} {s : Sg} {n : Nm2} (hn : (s.d, s.r) ≠ n) (m : Int) : lifeAt (l ++ [s]) m n = lifeAt l m n := by
  rw [lifeAt_snoc]; unfold lifeStep; rw [if_neg (fun e => hn e.1)]
theorem life_same {l : List Sg} {s : Sg} {n : Nm2} (hn : (s.d, s.r) = n) (h1 : s.at_ < alEnd) : lifeAt (l ++ [s]) alEnd n = (followL (lifeAt l alEnd n) s).1 := by
  rw [lifeAt_snoc]; unfold lifeStep; rw [if_pos ⟨hn, by omega⟩]
theorem frI_snoc {l : List Sg} {s : Sg} {n : Nm2} {cl op : List (Int × Int)} (h : FrI l n cl op) (hs : ∀ q ∈ l, q.at_ ≤ s.at_) (h0 : 0 ≤ s.at_) (h1 : s.at_ < alEnd) : ∃ cl' op', FrI (l ++ [s]) n cl' op' := by
  have hmem : ∀ q ∈ l, q ∈ l ++ [s] := fun q hq => List.mem_append_left _ hq
  by_cases hn : (s.d, s.r) = n
  · have hF := life_same (l := l) hn h1
    have hlow : ∀ m, m < s.at_ → lifeAt (l ++ [s]) m n = lifeAt l m n := fun m hm => life_low hm
    have hhigh : ∀ m, s.at_ ≤ m → lifeAt (l ++ [s]) m n = lifeAt (l ++ [s]) alEnd n := fun m hm => life_high hs h1 hm
    have hclm : ∀ w ∈ cl, ∀ m, m < w.2 → m < s.at_ := fun w hw m hm => by
      obtain ⟨q, hq, e⟩ := h.cl_ w hw
      have := hs q hq
      omega
    rcases follow_fresh (lifeAt l alEnd n) s with ⟨k1, k2⟩ | ⟨k1, k2, k3⟩ | ⟨k1, k2, k3⟩
    · refine ⟨cl, op, by rw [hF, k1]; exact h.fr, h.rng, fun w hw => by obtain ⟨q, hq, e⟩ := h.cl_ w hw; exact ⟨q, hmem q hq, e⟩, fun w hw => by obtain ⟨q, hq, e⟩ := h.op_ w hw; exact ⟨q, hmem q hq, e⟩, by rw [hF, k2]; exact h.opn, fun w hw m h2 h3 => ?_⟩
      rcases Int.lt_or_le m s.at_ with hm | hm
      · rw [hlow m hm]; exact h.st w hw m h2 h3
      · rw [hhigh m hm, hF, k2]
        rcases List.mem_append.1 hw with hw | hw
        · have := hclm w hw m h3; omega
        · rcases h.opn with ⟨g, _⟩ | ⟨_, g⟩
          · exact g
          · rw [g] at hw; cases hw
    · have hop : op = [] := by
        rcases h.opn with ⟨g, _⟩ | ⟨_, g⟩
        · exact absurd g k1
        · exact g
      subst hop
      have hfr := h.fr
      rw [List.append_nil] at hfr
      refine ⟨cl, [(s.at_, alEnd)], by rw [hF, k3, hfr], ?_, fun w hw => by obtain ⟨q, hq, e⟩ := h.cl_ w hw; exact ⟨q, hmem q hq, e⟩, fun w hw => ⟨s, by simp, by rw [List.mem_singleton] at hw; subst hw; rfl⟩, by rw [hF]; exact .inl ⟨k2, _, rfl⟩, ?_⟩
      · intro w hw
        rcases List.mem_append.1 hw with hw | hw
        · exact h.rng w (List.mem_append_left _ hw)
        · rw [List.mem_singleton] at hw
          subst hw
          exact ⟨h0, by show s.at_ ≤ alEnd; omega, Int.le_refl _⟩
      · intro w hw m h2 h3
        rcases List.mem_append.1 hw with hw | hw
        · rw [hlow m (hclm w hw m h3)]
          exact h.st w (List.mem_append_left _ hw) m h2 h3
        · rw [List.mem_singleton] at hw
          subst hw
          rw [hhigh m h2, hF]
          exact k2
    · obtain ⟨f, hop⟩ : ∃ f, op = [(f, alEnd)] := by
        rcases h.opn with ⟨_, g⟩ | ⟨g, _⟩
        · exact g
        · exact absurd k1 g
      subst hop
      obtain ⟨f1, f2, f3⟩ := h.rng (f, alEnd) (by simp)
      simp only at f1 f2 f3
      have hfs : f ≤ s.at_ := by
        obtain ⟨q, hq, e⟩ := h.op_ (f, alEnd) (by simp)
        have := hs q hq
        simp only at e
        omega
      refine ⟨cl ++ [(f, s.at_)], [], by rw [hF, k3, h.fr, setLast_snoc, List.append_nil], ?_, ?_, by simp, by rw [hF]; exact .inr ⟨k2, rfl⟩, ?_⟩
      · intro w hw
        rw [List.append_nil] at hw
        rcases List.mem_append.1 hw with hw | hw
        · exact h.rng w (List.mem_append_left _ hw)
        · rw [List.mem_singleton] at hw
          subst hw
          exact ⟨f1, hfs, by show s.at_ ≤ alEnd; omega⟩
      · intro w hw
        rcases List.mem_append.1 hw with hw | hw
        · obtain ⟨q, hq, e⟩ := h.cl_ w hw
          exact ⟨q, hmem q hq, e⟩
        · rw [List.mem_singleton] at hw
          subst hw
          exact ⟨s, by simp, rfl⟩
      · intro w hw m h2 h3
        rw [List.append_nil] at hw
        rcases List.mem_append.1 hw with hw | hw
        · rw [hlow m (hclm w hw m h3)]
          exact h.st w (List.mem_append_left _ hw) m h2 h3
        · rw [List.mem_singleton] at hw
          subst hw
          simp only at h2 h3
          rw [hlow m h3]
          exact h.st (f, alEnd) (by simp) m h2 (by show m < alEnd; omega)
  · have hF : ∀ m, lifeAt (l ++ [s]) m n = lifeAt l m n := life_other hn
    refine ⟨cl, op, by rw [hF]; exact h.fr, h.rng, fun w hw => ?_, fun w hw => ?_, by rw [hF]; exact h.opn, fun w hw m h2 h3 => by rw [hF]; exact h.st w hw m h2 h3⟩
    · obtain ⟨q, hq, e⟩ := h.cl_ w hw
      exact ⟨q, hmem q hq, e⟩
    · obtain ⟨q, hq, e⟩ := h.op_ w hw
      exact ⟨q, hmem q hq, e⟩
theorem setLast_mem {l : List (Int × Int)} {w : Int × Int} {t m : Int} (hw : w ∈ l) (h1 : w.1 ≤ m) (h2 : m < w.2) (ht : m < t) : ∃ u ∈ setLast l t, u.1 ≤ m ∧ m < u.2 := by
  have hne : l ≠ [] := by intro e; subst e; cases hw
  obtain ⟨a, x, rfl⟩ := snoc_of_ne hne
  rw [setLast_snoc]
  rcases List.mem_append.1 hw with hw | hw
  · exact ⟨w, List.mem_append_left _ hw, h1, h2⟩
  · rw [List.mem_singleton] at hw
    subst hw
    exact ⟨_, List.mem_append_right _ (List.mem_singleton.2 rfl), h1, ht⟩
/-- How the times in which an alarm is shelved go on. -/
theorem follow_aside (L : Lf) (s : Sg) :
    ((followL L s).1.as_ = L.as_ ∧ (followL L s).1.sh = L.sh) ∨ ((followL L s).1.as_ = L.as_ ++ [(s.at_, s.un)] ∧ (followL L s).1.sh = s.un) ∨ ((followL L s).1.as_ = setLast L.as_ s.at_ ∧ (followL L s).1.sh = s.at_) := by
  unfold followL
  split
  · split
    · exact .inl ⟨rfl, rfl⟩
    · exact .inl ⟨rfl, rfl⟩
  · split
    · split
      · exact .inl ⟨rfl, rfl⟩
      · split
        · exact .inl ⟨rfl, rfl⟩
        · exact .inl ⟨rfl, rfl⟩
    · split
      · split
        · exact .inl ⟨rfl, rfl⟩
        · split
          · exact .inl ⟨rfl, rfl⟩
          · exact .inl ⟨rfl, rfl⟩
      · split
        · split
          · exact .inl ⟨rfl, rfl⟩
          · exact .inr (.inl ⟨rfl, rfl⟩)
        · split
          · exact .inl ⟨rfl, rfl⟩
          · exact .inr (.inr ⟨rfl, rfl⟩)
structure AsI (l : List Sg) (n : Nm2) : Prop where
  last : (lifeAt l alEnd n).sh ≤ 0 ∨ (∃ q ∈ l, (lifeAt l alEnd n).sh ≤ q.at_) ∨ ∃ a, (a, (lifeAt l alEnd n).sh) ∈ (lifeAt l alEnd n).as_ ∧ ∃ q ∈ l, a ≤ q.at_
  at_ : ∀ m, 0 ≤ m → m < (lifeAt l m n).sh → ∃ w ∈ (lifeAt l alEnd n).as_, w.1 ≤ m ∧ m < w.2
theorem asI_snoc {l : List Sg} {s : Sg} {n : Nm2} (h : AsI l n) (hs : ∀ q ∈ l, q.at_ ≤ s.at_) (h1 : s.at_ < alEnd) : AsI (l ++ [s]) n := by
  have hmem : ∀ q ∈ l, q ∈ l ++ [s] := fun q hq => List.mem_append_left _ hq
  by_cases hn : (s.d, s.r) = n
  · have hF := life_same (l := l) hn h1
    rcases follow_aside (lifeAt l alEnd n) s with ⟨k1, k2⟩ | ⟨k1, k2⟩ | ⟨k1, k2⟩
    · refine ⟨?_, fun m h0 hm => ?_⟩
      · rw [hF, k1, k2]
        rcases h.last with g | ⟨q, hq, g⟩ | ⟨a, ha, q, hq, g⟩
        · exact .inl g
        · exact .inr (.inl ⟨q, hmem q hq, g⟩)
        · exact .inr (.inr ⟨a, ha, q, hmem q hq, g⟩)
      · rcases Int.lt_or_le m s.at_ with hlt | hle
        · rw [life_low hlt] at hm
          rw [hF, k1]
          exact h.at_ m h0 hm
        · rw [life_high hs h1 hle, hF, k2] at hm
          rw [hF, k1]
          rcases h.last with g | ⟨q, hq, g⟩ | ⟨a, ha, q, hq, g⟩
          · omega
          · have := hs q hq; omega
          · have := hs q hq
            exact ⟨_, ha, by show a ≤ m; omega, hm⟩
    · refine ⟨?_, fun m h0 hm => ?_⟩
      · rw [hF, k1, k2]
        exact .inr (.inr ⟨s.at_, by simp, s, by simp, Int.le_refl _⟩)
      · rcases Int.lt_or_le m s.at_ with hlt | hle
        · rw [life_low hlt] at hm
          rw [hF, k1]
          obtain ⟨w, hw, g⟩ := h.at_ m h0 hm
          exact ⟨w, List.mem_append_left _ hw, g⟩
        · rw [life_high hs h1 hle, hF, k2] at hm
          rw [hF, k1]
          exact ⟨(s.at_, s.un), by simp, hle, hm⟩
    · refine ⟨?_, fun m h0 hm => ?_⟩
      · rw [hF, k2]
        exact .inr (.inl ⟨s, by simp, Int.le_refl _⟩)
      · rcases Int.lt_or_le m s.at_ with hlt | hle
        · rw [life_low hlt] at hm
          rw [hF, k1]
          obtain ⟨w, hw, g1, g2⟩ := h.at_ m h0 hm
          exact setLast_mem hw g1 g2 hlt
        · rw [life_high hs h1 hle, hF, k2] at hm
          omega
  · have hF : ∀ m, lifeAt (l ++ [s]) m n = lifeAt l m n := life_other hn
    refine ⟨?_, fun m h0 hm => ?_⟩
    · rw [hF]
      rcases h.last with g | ⟨q, hq, g⟩ | ⟨a, ha, q, hq, g⟩
      · exact .inl g
      · exact .inr (.inl ⟨q, hmem q hq, g⟩)
      · exact .inr (.inr ⟨a, ha, q, hmem q hq, g⟩)
    · rw [hF] at hm ⊢
      exact h.at_ m h0 hm
theorem fresh_aside {l : List Sg} (n : Nm2) (h : SgsOk l) : (∃ cl op, FrI l n cl op) ∧ AsI l n := by
  have key : ∀ k, k ≤ l.length → (∃ cl op, FrI (l.take k) n cl op) ∧ AsI (l.take k) n := by
    intro k
    induction k with
    | zero => intro _; exact ⟨⟨[], [], by simpa using frI_nil n⟩, ⟨.inl (by simp [lifeAt, newL]), fun m h0 hm => by simp [lifeAt, newL] at hm; omega⟩⟩
    | succ k ih =>
      intro hk
      obtain ⟨⟨cl, op, hi⟩, hj⟩ := ih (by omega)
      have hx : l[k]? = some l[k] := List.getElem?_eq_getElem (by omega)
      have he : l.take (k + 1) = l.take k ++ [l[k]] := by rw [List.take_add_one, hx]; rfl
      rw [he]
      have hr := h.1 l[k] (List.getElem_mem (by omega))
      have hs : ∀ q ∈ l.take k, q.at_ ≤ l[k].at_ := fun q hq => by
        obtain ⟨i, hi', rfl⟩ := List.getElem_of_mem hq
        rw [List.length_take] at hi'
        rw [List.getElem_take]
        have := (List.pairwise_iff_getElem.1 h.2) i k (by omega) (by omega) (by omega)
        unfold SgL at this
        omega
      exact ⟨frI_snoc hi hs hr.at0 hr.at1, asI_snoc hj hs hr.at1⟩
  have := key l.length (Nat.le_refl _)
  rwa [List.take_length] at this
/-- Who is told in a fresh time, and not while the alarm is shelved, is told of an active alarm that is not shelved. -/
theorem told_right {l : List Sg} {n : Nm2} (h : SgsOk l) {w : Int × Int} (hw : w ∈ (lifeAt l 345686400000 n).fr) {m : Int} (h1 : w.1 ≤ m) (h2 : m < w.2) (h3 : ∀ u ∈ (lifeAt l 345686400000 n).as_, ¬ (u.1 ≤ m ∧ m < u.2)) :
    0 ≤ m ∧ m < 345686400000 ∧ (viewL (lifeAt l m n) m).st = 1 ∧ (viewL (lifeAt l m n) m).sh = 0 := by
  obtain ⟨⟨cl, op, hi⟩, hj⟩ := fresh_aside n h
  have hw' : w ∈ cl ++ op := by rw [← hi.fr]; exact hw
  obtain ⟨a, b, c⟩ := hi.rng w hw'
  unfold alEnd at c
  have h0 : 0 ≤ m := by omega
  refine ⟨h0, by omega, hi.st w hw' m h1 h2, ?_⟩
  show (if m < (lifeAt l m n).sh then (lifeAt l m n).sh else 0) = 0
  rw [if_neg (fun hm => ?_)]
  obtain ⟨u, hu, g⟩ := hj.at_ m h0 hm
  exact h3 u hu g
end Go.Proofs.YtgdnedhcbjonkaaGreatDoor

/- The times in which an alarm flaps: plain; what is raised later does not matter. No program in sight. -/
namespace Go.Proofs.YtgdnedhcbjonkaaGreatDoor

def flAdv (ra : List Int) (lim : Int) : Nat → Nat → Nat
  | 0, f => f
  | k + 1, f => if ra.getD f 0 ≤ lim then flAdv ra lim k (f + 1) else f
def flOut (m c r : Int) (d : Int) (o : List (Int × Int)) : List (Int × Int) :=
  match o.getLast? with
  | some a => if r ≤ a.2 then setLast o (r + c) else if m ≤ d then o ++ [(r, r + c)] else o
  | none => if m ≤ d then o ++ [(r, r + c)] else o
def flStep (m w c : Int) (ra : List Int) (i : Nat) (st : Nat × List (Int × Int)) : Nat × List (Int × Int) :=
  (flAdv ra (ra.getD i 0 - w) (i - st.1) st.1, flOut m c (ra.getD i 0) ((i : Int) - (flAdv ra (ra.getD i 0 - w) (i - st.1) st.1 : Nat) + 1) st.2)
def flF (m w c : Int) (ra : List Int) : Nat → Nat × List (Int × Int)
  | 0 => (0, [])
  | i + 1 => flStep m w c ra i (flF m w c ra i)
def capW (a : Int × Int) : Int × Int := (a.1, min a.2 345686400000)
def flR (m w c : Int) (ra : List Int) : List (Int × Int) := (flF m w c ra ra.length).2.map capW
def inF (t : Int) (a : Int × Int) : Bool := decide (a.1 ≤ t) && decide (t < a.2)
def flA (m w c : Int) (ra : List Int) (t : Int) : Bool := (flR m w c ra).any (inF t)
theorem flAdv_le (ra : List Int) (lim : Int) : ∀ (k f : Nat), f ≤ flAdv ra lim k f ∧ flAdv ra lim k f ≤ f + k
  | 0, f => ⟨Nat.le_refl _, Nat.le_refl _⟩
  | k + 1, f => by
    unfold flAdv
    split
    · have := flAdv_le ra lim k (f + 1); omega
    · omega
theorem flAdv_pre (ra more : List Int) (lim : Int) : ∀ (k f : Nat), f + k ≤ ra.length → flAdv (ra ++ more) lim k f = flAdv ra lim k f
  | 0, f, _ => rfl
  | k + 1, f, h => by
    unfold flAdv
    have e : (ra ++ more).getD f 0 = ra.getD f 0 := by simp [List.getD_eq_getElem?_getD, List.getElem?_append_left (show f < ra.length by omega)]
    rw [e, flAdv_pre ra more lim k (f + 1) (by omega)]
theorem flF_first (m w c : Int) (ra : List Int) : ∀ i, (flF m w c ra i).1 ≤ i
  | 0 => Nat.le_refl _
  | i + 1 => by
    have h := flF_first m w c ra i
    have := (flAdv_le ra (ra.getD i 0 - w) (i - (flF m w c ra i).1) (flF m w c ra i).1).2
    show flAdv _ _ _ _ ≤ _
    omega
theorem flF_pre (m w c : Int) (ra more : List Int) : ∀ i, i ≤ ra.length → flF m w c (ra ++ more) i = flF m w c ra i
  | 0, _ => rfl
  | i + 1, h => by
    have ih := flF_pre m w c ra more i (by omega)
    have hf := flF_first m w c ra i
    have e : (ra ++ more).getD i 0 = ra.getD i 0 := by simp [List.getD_eq_getElem?_getD, List.getElem?_append_left (show i < ra.length by omega)]
    simp only [flF, flStep]
    rw [ih, e, flAdv_pre _ _ _ _ _ (by omega)]
theorem getLast_split {o : List (Int × Int)} {a : Int × Int} (h : o.getLast? = some a) : ∃ p, o = p ++ [a] := by
  have hne : o ≠ [] := by intro e; subst e; cases h
  obtain ⟨p, x, rfl⟩ := snoc_of_ne hne
  rw [List.getLast?_concat] at h
  exact ⟨p, by rw [Option.some.inj h]⟩
theorem flOut_len (m c r d : Int) (o : List (Int × Int)) : o.length ≤ (flOut m c r d o).length ∧ (flOut m c r d o).length ≤ o.length + 1 := by
  unfold flOut
  split
  · rename_i a h
    obtain ⟨p, rfl⟩ := getLast_split h
    split
    · rw [setLast_snoc]; simp
    · split <;> simp
  · split <;> simp
theorem flF_len (m w c : Int) (ra : List Int) : ∀ i, (flF m w c ra i).2.length ≤ i
  | 0 => Nat.le_refl _
  | i + 1 => by
    have h := flF_len m w c ra i
    have := (flOut_len m c (ra.getD i 0) ((i : Int) - (flAdv ra (ra.getD i 0 - w) (i - (flF m w c ra i).1) (flF m w c ra i).1 : Nat) + 1) (flF m w c ra i).2).2
    show (flOut _ _ _ _ _).length ≤ _
    omega
theorem flOut_any {m c r d t : Int} {o : List (Int × Int)} (hc : 1 ≤ c) (ht : t < r) : (flOut m c r d o).any (inF t) = o.any (inF t) := by
  have happ : ∀ o : List (Int × Int), (o ++ [(r, r + c)]).any (inF t) = o.any (inF t) := fun o => by
    rw [List.any_append]
    simp only [List.any_cons, List.any_nil, Bool.or_false]
    have : inF t (r, r + c) = false := by unfold inF; simp; omega
    rw [this, Bool.or_false]
  unfold flOut
  split
  · rename_i a h
    obtain ⟨p, rfl⟩ := getLast_split h
    split
    · rename_i hle
      rw [setLast_snoc, List.any_append, List.any_append]
      have : inF t (a.1, r + c) = inF t a := by
        unfold inF
        rw [decide_eq_true (show t < r + c by omega), decide_eq_true (show t < a.2 by omega)]
      simp [this]
    · split
      · exact happ _
      · rfl
  · split
    · exact happ _
    · rfl
theorem cap_any {t : Int} (ht : t < 345686400000) (o : List (Int × Int)) : (o.map capW).any (inF t) = o.any (inF t) := by
  rw [List.any_map]
  congr 1
  funext a
  show (decide (a.1 ≤ t) && decide (t < min a.2 345686400000)) = _
  unfold inF
  congr 1
  by_cases h : t < a.2
  · rw [decide_eq_true h, decide_eq_true (by omega)]
  · rw [decide_eq_false h, decide_eq_false (by omega)]
/-- What is raised later does not matter. -/
theorem flA_more {m w c t : Int} {ra more : List Int} (hm : ∀ r ∈ more, t < r) (hc : 1 ≤ c) (ht : t < 345686400000) : flA m w c (ra ++ more) t = flA m w c ra t := by
  unfold flA flR
  rw [cap_any ht, cap_any ht, ← flF_pre m w c ra more ra.length (Nat.le_refl _)]
  have key : ∀ k, k ≤ more.length → (flF m w c (ra ++ more) (ra.length + k)).2.any (inF t) = (flF m w c (ra ++ more) ra.length).2.any (inF t) := by
    intro k
    induction k with
    | zero => intro _; rfl
    | succ k ih =>
      intro hk
      rw [← ih (by omega)]
      show (flOut _ _ _ _ _).any (inF t) = _
      refine flOut_any hc ?_
      have e : (ra ++ more).getD (ra.length + k) 0 = more[k] := by simp [List.getD_eq_getElem?_getD, show k < more.length by omega]
      show t < (ra ++ more).getD (ra.length + k) 0
      rw [e]
      exact hm _ (List.getElem_mem _)
  rw [List.length_append]
  exact key more.length (Nat.le_refl _)
theorem follow_ra (L : Lf) (s : Sg) : (followL L s).1.ra = L.ra ∨ (followL L s).1.ra = L.ra ++ [s.at_] := by
  unfold followL
  repeat' split
  all_goals first | exact .inl rfl | exact .inr rfl
theorem ra_snoc {l : List Sg} {s : Sg} {n : Nm2} {t : Int} (h : ∃ more, (lifeAt l alEnd n).ra = (lifeAt l t n).ra ++ more ∧ ∀ r ∈ more, t < r) (hs : ∀ q ∈ l, q.at_ ≤ s.at_) (h1 : s.at_ < alEnd) : ∃ more, (lifeAt (l ++ [s]) alEnd n).ra = (lifeAt (l ++ [s]) t n).ra ++ more ∧ ∀ r ∈ more, t < r := by
  rcases Int.lt_or_le t s.at_ with hlt | hle
  · rw [life_low hlt]
    obtain ⟨more, e, hm⟩ := h
    by_cases hn : (s.d, s.r) = n
    · rw [life_same hn h1]
      rcases follow_ra (lifeAt l alEnd n) s with g | g
      · exact ⟨more, by rw [g, e], hm⟩
      · refine ⟨more ++ [s.at_], by rw [g, e, List.append_assoc], fun r hr => ?_⟩
        rcases List.mem_append.1 hr with hr | hr
        · exact hm r hr
        · rw [List.mem_singleton] at hr; omega
    · rw [life_other hn]
      exact ⟨more, e, hm⟩
  · rw [life_high hs h1 hle]
    exact ⟨[], by simp, by simp⟩
/-- The raises up to a moment are the first ones. -/
theorem ra_more {l : List Sg} (n : Nm2) (t : Int) (h : SgsOk l) : ∃ more, (lifeAt l 345686400000 n).ra = (lifeAt l t n).ra ++ more ∧ ∀ r ∈ more, t < r := by
  have key : ∀ k, k ≤ l.length → ∃ more, (lifeAt (l.take k) alEnd n).ra = (lifeAt (l.take k) t n).ra ++ more ∧ ∀ r ∈ more, t < r := by
    intro k
    induction k with
    | zero => intro _; exact ⟨[], by simp [lifeAt, newL], by simp⟩
    | succ k ih =>
      intro hk
      have hx : l[k]? = some l[k] := List.getElem?_eq_getElem (by omega)
      have he : l.take (k + 1) = l.take k ++ [l[k]] := by rw [List.take_add_one, hx]; rfl
      rw [he]
      have hr := h.1 l[k] (List.getElem_mem (by omega))
      have hs : ∀ q ∈ l.take k, q.at_ ≤ l[k].at_ := fun q hq => by
        obtain ⟨i, hi', rfl⟩ := List.getElem_of_mem hq
        rw [List.length_take] at hi'
        rw [List.getElem_take]
        have := (List.pairwise_iff_getElem.1 h.2) i k (by omega) (by omega) (by omega)
        unfold SgL at this
        omega
      exact ra_snoc (ih (by omega)) hs hr.at1
  have := key l.length (Nat.le_refl _)
  rwa [List.take_length] at this
end Go.Proofs.YtgdnedhcbjonkaaGreatDoor

/- RefusedCanGo: the plain law; no program in sight. -/
namespace Go.Proofs.YtgdnedhcbjonkaaGreatDoor

/-- Why the signal at a place is refused; 0: it is followed. -/
def whyAt (l : List Sg) (i : Nat) (s : Sg) : Int := (followL (lifeAt (l.take i) alEnd (s.d, s.r)) s).2
def refU (l : List Sg) : Nat → List (Nat × Int)
  | 0 => []
  | k + 1 => refU l k ++ (match l[k]? with | some s => if whyAt l k s = 0 then [] else [(k, whyAt l k s)] | none => [])
def keepU (l : List Sg) : Nat → List Sg
  | 0 => []
  | k + 1 => keepU l k ++ (match l[k]? with | some s => if whyAt l k s = 0 then [s] else [] | none => [])
theorem refU_some {l : List Sg} {k : Nat} {s : Sg} (h : l[k]? = some s) : refU l (k + 1) = refU l k ++ (if whyAt l k s = 0 then [] else [(k, whyAt l k s)]) := by
  simp only [refU, h]
theorem keepU_some {l : List Sg} {k : Nat} {s : Sg} (h : l[k]? = some s) : keepU l (k + 1) = keepU l k ++ (if whyAt l k s = 0 then [s] else []) := by
  simp only [keepU, h]
theorem refU_lt {l : List Sg} {k : Nat} {z : Nat × Int} (h : z ∈ refU l k) : z.1 < k := by
  induction k with
  | zero => cases h
  | succ k ih =>
    simp only [refU, List.mem_append] at h
    rcases h with h | h
    · have := ih h; omega
    · split at h
      · split at h
        · cases h
        · rw [List.mem_singleton] at h; subst h; exact Nat.lt_succ_self _
      · cases h
theorem mem_refU {l : List Sg} {k i : Nat} {s : Sg} (hs : l[i]? = some s) (hi : i < k) : (∃ z ∈ refU l k, z.1 = i) ↔ whyAt l i s ≠ 0 := by
  induction k with
  | zero => omega
  | succ k ih =>
    simp only [refU]
    by_cases hk : i = k
    · subst hk
      rw [hs]
      constructor
      · rintro ⟨z, hz, e⟩
        rcases List.mem_append.1 hz with hz | hz
        · have := refU_lt hz; omega
        · simp only at hz
          split at hz
          · cases hz
          · assumption
      · intro h
        exact ⟨(i, whyAt l i s), List.mem_append_right _ (by simp only; rw [if_neg h]; simp), rfl⟩
    · rw [← ih (by omega)]
      constructor
      · rintro ⟨z, hz, e⟩
        rcases List.mem_append.1 hz with hz | hz
        · exact ⟨z, hz, e⟩
        · exfalso
          split at hz
          · split at hz
            · cases hz
            · rw [List.mem_singleton] at hz; subst hz; exact hk e.symm
          · cases hz
      · rintro ⟨z, hz, e⟩
        exact ⟨z, List.mem_append_left _ hz, e⟩
theorem refused_same {L : Lf} {s : Sg} (h : (followL L s).2 ≠ 0) : (followL L s).1 = L := by
  unfold followL at h ⊢
  split
  · split
    · rfl
    · rename_i h1 h2; rw [if_pos h1, if_neg h2] at h; exact absurd rfl h
  · rename_i h1
    rw [if_neg h1] at h
    split
    · rename_i h2
      rw [if_pos h2] at h
      split
      · rename_i h3; rw [if_pos h3] at h; exact absurd rfl h
      · rename_i h3
        rw [if_neg h3] at h
        split
        · rename_i h4; rw [if_pos h4] at h; exact absurd rfl h
        · rfl
    · rename_i h2
      rw [if_neg h2] at h
      split
      · rename_i h3
        rw [if_pos h3] at h
        split
        · rename_i h4; rw [if_pos h4] at h; exact absurd rfl h
        · rename_i h4
          rw [if_neg h4] at h
          split
          · rename_i h5; rw [if_pos h5] at h; exact absurd rfl h
          · rfl
      · rename_i h3
        rw [if_neg h3] at h
        split
        · rename_i h4
          rw [if_pos h4] at h
          split
          · rfl
          · rename_i h5; rw [if_neg h5] at h; exact absurd rfl h
        · rename_i h4
          rw [if_neg h4] at h
          split
          · rfl
          · rename_i h5; rw [if_neg h5] at h; exact absurd rfl h
theorem SgsOk.le_at {l : List Sg} (h : SgsOk l) {k : Nat} {s : Sg} (hs : l[k]? = some s) : ∀ q ∈ l.take k, q.at_ ≤ s.at_ := by
  intro q hq
  obtain ⟨i, hi, rfl⟩ := List.getElem_of_mem hq
  obtain ⟨hk, rfl⟩ := List.getElem?_eq_some_iff.1 hs
  rw [List.length_take] at hi
  rw [List.getElem_take]
  have := (List.pairwise_iff_getElem.1 h.2) i k (by omega) (by omega) (by omega)
  unfold SgL at this
  omega
theorem lifeAt_keep {l : List Sg} (h : SgsOk l) (t : Int) (n : Nm2) : ∀ k, k ≤ l.length → lifeAt (keepU l k) t n = lifeAt (l.take k) t n := by
  intro k
  induction k with
  | zero => intro _; rfl
  | succ k ih =>
    intro hk
    have hx : l[k]? = some l[k] := List.getElem?_eq_getElem (by omega)
    obtain ⟨s, es⟩ : ∃ s, s = l[k] := ⟨_, rfl⟩
    rw [← es] at hx
    have he : l.take (k + 1) = l.take k ++ [s] := by rw [List.take_add_one, hx]; rfl
    rw [keepU_some hx, he, lifeAt_snoc]
    by_cases hw : whyAt l k s = 0
    · rw [if_pos hw, lifeAt_snoc, ih (by omega)]
    · rw [if_neg hw, List.append_nil, ih (by omega)]
      unfold lifeStep
      split
      · rename_i hn
        obtain ⟨hn, hat⟩ := hn
        have hle := h.le_at hx
        have hr := h.1 s (List.mem_of_getElem? hx)
        have e : lifeAt (l.take k) t n = lifeAt (l.take k) alEnd n := lifeAt_all (fun q hq => by have := hle q hq; omega) (fun q hq => by have := hle q hq; have := hr.at1; unfold alEnd; omega)
        rw [e]
        unfold whyAt at hw
        rw [hn] at hw
        exact (refused_same hw).symm
      · rfl
theorem keepU_sub (l : List Sg) : ∀ k, (keepU l k).Sublist (l.take k) := by
  intro k
  induction k with
  | zero => exact List.Sublist.refl _
  | succ k ih =>
    cases hx : l[k]? with
    | none =>
      have : keepU l (k + 1) = keepU l k := by simp [keepU, hx]
      rw [this, List.take_add_one, hx]
      simpa using ih
    | some s =>
      rw [keepU_some hx, List.take_add_one, hx]
      refine List.Sublist.append ih ?_
      split
      · exact List.Sublist.refl _
      · exact List.nil_sublist _
theorem keepU_ok {l : List Sg} (h : SgsOk l) (k : Nat) : SgsOk (keepU l k) :=
  have hs := (keepU_sub l k).trans (List.take_sublist k l)
  ⟨fun s hm => h.1 s (hs.subset hm), h.2.sublist hs⟩
theorem why_keep {l : List Sg} (h : SgsOk l) : ∀ k, k ≤ l.length → ∀ j s, (keepU l k)[j]? = some s → whyAt (keepU l k) j s = 0 := by
  intro k
  induction k with
  | zero => intro _ j s hs; simp [keepU] at hs
  | succ k ih =>
    intro hk j s hs
    have hx : l[k]? = some l[k] := List.getElem?_eq_getElem (by omega)
    obtain ⟨u, eu⟩ : ∃ u, u = l[k] := ⟨_, rfl⟩
    rw [← eu] at hx
    rw [keepU_some hx] at hs ⊢
    by_cases hw : whyAt l k u = 0
    · rw [if_pos hw] at hs ⊢
      rcases Nat.lt_or_ge j (keepU l k).length with hj | hj
      · rw [List.getElem?_append_left hj] at hs
        have := ih (by omega) j s hs
        unfold whyAt at this ⊢
        rw [List.take_append_of_le_length (by omega)]
        exact this
      · rw [List.getElem?_append_right hj] at hs
        have hj0 : j - (keepU l k).length = 0 := by
          have := (List.getElem?_eq_some_iff.1 hs).1
          simp at this; omega
        rw [hj0] at hs
        obtain rfl : u = s := by simpa using hs
        have hjl : j = (keepU l k).length := by omega
        unfold whyAt at hw ⊢
        rw [hjl, List.take_left, lifeAt_keep h _ _ k (by omega)]
        exact hw
    · rw [if_neg hw, List.append_nil] at hs ⊢
      exact ih (by omega) j s hs
theorem refU_keep {l : List Sg} (h : SgsOk l) : ∀ m, refU (keepU l l.length) m = [] := by
  intro m
  induction m with
  | zero => rfl
  | succ m ih =>
    cases hx : (keepU l l.length)[m]? with
    | none => simp [refU, hx, ih]
    | some s => rw [refU_some hx, ih, if_pos (why_keep h _ (Nat.le_refl _) m s hx)]; rfl
/-- The names in order. -/
def al6 : List Nm2 := [(0, 0), (0, 1), (1, 0), (1, 1), (2, 0), (2, 1)]
def amsL (l : List Sg) (t : Int) : List Am := (al6.map fun n => viewL (lifeAt l t n) t).filter shownA
theorem amsL_keep {l : List Sg} (h : SgsOk l) (t : Int) : amsL (keepU l l.length) t = amsL l t := by
  unfold amsL
  have : (fun n => viewL (lifeAt (keepU l l.length) t n) t) = fun n => viewL (lifeAt l t n) t := by
    funext n
    rw [lifeAt_keep h t n _ (Nat.le_refl _), List.take_length]
  rw [this]
theorem strict_eq {α : Type} (f : α → Nat) : ∀ (a b : List α), a.Pairwise (fun x y => f x < f y) → b.Pairwise (fun x y => f x < f y) → (∀ x, x ∈ a ↔ x ∈ b) → a = b
  | [], [], _, _, _ => rfl
  | [], y :: b, _, _, h => by have := (h y).2 List.mem_cons_self; cases this
  | x :: a, [], _, _, h => by have := (h x).1 List.mem_cons_self; cases this
  | x :: a, y :: b, ha, hb, h => by
    obtain ⟨ha1, ha2⟩ := List.pairwise_cons.1 ha
    obtain ⟨hb1, hb2⟩ := List.pairwise_cons.1 hb
    have hxy : x = y := by
      rcases List.mem_cons.1 ((h x).1 List.mem_cons_self) with e | e
      · exact e
      · rcases List.mem_cons.1 ((h y).2 List.mem_cons_self) with e' | e'
        · exact e'.symm
        · have := ha1 y e'
          have := hb1 x e
          omega
    subst hxy
    congr 1
    refine strict_eq f a b ha2 hb2 fun z => ⟨fun hz => ?_, fun hz => ?_⟩
    · rcases List.mem_cons.1 ((h z).1 (List.mem_cons_of_mem _ hz)) with e | e
      · subst e; have := ha1 z hz; omega
      · exact e
    · rcases List.mem_cons.1 ((h z).2 (List.mem_cons_of_mem _ hz)) with e | e
      · subst e; have := hb1 z hz; omega
      · exact e
theorem mem_al6 {n : Nm2} (h : NmOk n) : n ∈ al6 := by
  obtain ⟨a, b⟩ := n
  obtain ⟨h1, h2⟩ := h
  simp only at h1 h2
  have ha : a = 0 ∨ a = 1 ∨ a = 2 := by omega
  have hb : b = 0 ∨ b = 1 := by omega
  rcases ha with h | h | h <;> subst h <;> rcases hb with h | h <;> subst h <;> decide
theorem shown_new (d r : Nat) (t : Int) (ht : 0 ≤ t) : shownA (viewL (newL d r) t) = false := by
  have h0 : ¬ t < (newL d r).sh := by show ¬ t < 0; omega
  unfold shownA viewL
  rw [if_neg h0]
  rfl
/-- A house's names in their order are all that may be shown. -/
theorem order_shown {l : List Sg} {t : Int} (ht : 0 ≤ t) {K : List Nm2} (hp : ∀ n, n ∈ K ↔ n ∈ namesOf l) (hok : ∀ n ∈ K, NmOk n) (hs : K.Pairwise (fun a b => rkN a ≤ rkN b)) (hn : K.Pairwise (fun a b => a ≠ b)) :
    (K.map fun n => viewL (lifeAt l t n) t).filter shownA = amsL l t := by
  have hst : K.Pairwise (fun a b => rkN a < rkN b) := by
    rw [List.pairwise_iff_getElem] at hs hn ⊢
    intro i j hi hj hij
    have h1 := hs i j hi hj hij
    have h2 := hn i j hi hj hij
    have o1 := hok _ (List.getElem_mem hi)
    have o2 := hok _ (List.getElem_mem hj)
    rcases Nat.lt_or_eq_of_le h1 with h | h
    · exact h
    · exfalso
      apply h2
      unfold rkN at h
      unfold NmOk at o1 o2
      exact Prod.ext (by omega) (by omega)
  have hK : K = al6.filter (fun n => decide (n ∈ namesOf l)) := by
    refine strict_eq rkN _ _ hst (List.Pairwise.sublist List.filter_sublist (by decide)) fun n => ?_
    rw [List.mem_filter, hp]
    refine ⟨fun h => ⟨mem_al6 (hok n ((hp n).2 h)), by simpa using h⟩, fun h => by simpa using h.2⟩
  rw [hK]
  unfold amsL
  generalize al6 = L6
  induction L6 with
  | nil => rfl
  | cons n L ih =>
    by_cases hm : n ∈ namesOf l
    · rw [List.filter_cons_of_pos (by simpa using hm), List.map_cons, List.map_cons, List.filter_cons, List.filter_cons, ih]
    · rw [List.filter_cons_of_neg (by simpa using hm), List.map_cons, List.filter_cons, lifeAt_none hm, shown_new _ _ _ ht, ih]
      rfl
end Go.Proofs.YtgdnedhcbjonkaaGreatDoor

/- alarm.Alarms by its contract. -/
namespace Go.Proofs.YtgdnedhcbjonkaaGreatDoor
open Go.RowKit Go.Shelf

theorem Tryz.infoAm : (Tryz.prog.info? 99).map (fun i => (i.zero, i.size, i.bytes)) = some (some (.agg #[.string ⟨#[]⟩, .string ⟨#[]⟩, .int .i64 0, .int .i64 0, .int .i64 0, .int .i64 0]), 6, 64) := by kernel_rfl
theorem amC_len (a : Am) : (amC a).length = 6 := rfl
theorem amC_one (a : Am) : ∀ u ∈ amC a, u.oneCell' = true := by
  intro u hu
  simp only [amC, List.mem_cons, List.not_mem_nil, or_false] at hu
  rcases hu with rfl | rfl | rfl | rfl | rfl | rfl <;> rfl
theorem namesOf_len (l : List Sg) : (namesOf l).length ≤ l.length := by
  have key : ∀ (l : List Sg) (ns : List Nm2), (l.foldl (fun ns s => addN ns (s.d, s.r)) ns).length ≤ ns.length + l.length := by
    intro l
    induction l with
    | nil => intro ns; exact Nat.le_refl _
    | cons s l ih =>
      intro ns
      rw [List.foldl_cons, List.length_cons]
      have h1 := ih (addN ns (s.d, s.r))
      have h2 : (addN ns (s.d, s.r)).length ≤ ns.length + 1 := by
        unfold addN
        split
        · omega
        · simp
      omega
  have := key l []
  simpa [namesOf] using this
/-- What a house says of its order. -/
theorem house_order {w' : World} {B hs m : Nat} {o : List Nat} {M : List Mb} {l : List Sg} {F : Nm2 → Lf} (hI : HsI w' B hs m o M) (ho : OrdE (mbE M) o) (hnm : M.map (·.n) = namesOf l) (hL : ∀ y ∈ M, y.L = F y.n) :
    ∃ E : List (Nm2 × Nat), o = E.map (·.2) ∧ (∀ n, n ∈ E.map (·.1) ↔ n ∈ namesOf l) ∧ (∀ n ∈ E.map (·.1), NmOk n) ∧ (E.map (·.1)).Pairwise (fun a b => rkN a ≤ rkN b) ∧ (E.map (·.1)).Pairwise (fun a b => a ≠ b) ∧ ∀ p ∈ E, ∃ v, LfI w' p.2 (F p.1) v := by
  obtain ⟨E, h1, h2, h3⟩ := ho
  have hk : (E.map (·.1)).Perm (M.map (·.n)) := by
    have := h1.map (·.1)
    rwa [show (mbE M).map (·.1) = M.map (·.n) from by simp [mbE, Function.comp_def]] at this
  refine ⟨E, h3, fun n => by rw [hk.mem_iff, hnm], fun n hn => ?_, List.pairwise_map.2 h2, ?_, fun p hp => ?_⟩
  · obtain ⟨y, hy, rfl⟩ := List.mem_map.1 (hk.mem_iff.1 hn)
    exact (hI.each y hy).2.1
  · exact hk.symm.pairwise (List.pairwise_map.2 hI.names) (fun h => Ne.symm h)
  · have := h1.mem_iff.1 hp
    simp only [mbE, List.mem_map] at this
    obtain ⟨y, hy, rfl⟩ := this
    exact ⟨y.v, by have := (hI.each y hy).1; rw [hL y hy] at this; exact this⟩
theorem own_base9 {w : World} {b b' : Nat} {e : TypeId} {size n : Nat} {v : Value} {xs : List Value} (h : w.ownsRow b e size v n xs) (hb : b' ≤ b) : w.ownsRow b' e size v n xs := by
  refine ⟨h.1, ?_⟩
  rcases h.2 with h | ⟨g, cap, cur, hv, hg, r⟩
  · exact .inl h
  · exact .inr ⟨g, cap, cur, hv, Nat.le_trans hb hg, r⟩
def AmsP (w : World) (L : List Am) (e : Ending) (w' : World) : Prop := ∃ A c, e = .returned (.tuple #[.slice A L.length c, .int .i64 0]) ∧ w'.ownsRow w.heap.size 99 6 (.slice A L.length c) L.length (recs amC L) ∧ Below w.heap.size w w'
theorem filter_snocA (E : List (Nm2 × Nat)) (V : Nm2 → Am) {i : Nat} {p : Nm2 × Nat} (h : E[i]? = some p) : ((E.take (i + 1)).map (fun q => V q.1)).filter shownA = ((E.take i).map (fun q => V q.1)).filter shownA ++ (if shownA (V p.1) then [V p.1] else []) := by
  rw [List.take_add_one, h, List.map_append, List.filter_append]
  simp only [Option.toList, List.map_cons, List.map_nil]
  cases hs : shownA (V p.1) <;> simp [hs]
theorem am_cells {w : World} {b o : Nat} {l : List Am} (h : Cells w b o (recs amC l)) (i : Nat) (x : Am) (hx : l[i]? = some x) : w.cell? ⟨b, o + i * 6, none⟩ = some (.string (aldT x.d)) ∧ w.cell? ⟨b, o + i * 6 + 1, none⟩ = some (.string (alrT x.r)) ∧ w.cell? ⟨b, o + i * 6 + 2, none⟩ = some (.int .i64 x.st) ∧ w.cell? ⟨b, o + i * 6 + 3, none⟩ = some (.int .i64 x.si) ∧ w.cell? ⟨b, o + i * 6 + 4, none⟩ = some (.int .i64 x.n) ∧ w.cell? ⟨b, o + i * 6 + 5, none⟩ = some (.int .i64 x.sh) :=
  ⟨rec_cell amC_len h i x hx 0 _ rfl, rec_cell amC_len h i x hx 1 _ rfl, rec_cell amC_len h i x hx 2 _ rfl, rec_cell amC_len h i x hx 3 _ rfl, rec_cell amC_len h i x hx 4 _ rfl, rec_cell amC_len h i x hx 5 _ rfl⟩
end Go.Proofs.YtgdnedhcbjonkaaGreatDoor

/- AccountsAdd: the plain law; no program in sight. -/
namespace Go.Proofs.YtgdnedhcbjonkaaGreatDoor

def sumI : List Int → Int
  | [] => 0
  | x :: l => x + sumI l
theorem sumI_append (a b : List Int) : sumI (a ++ b) = sumI a + sumI b := by
  induction a with
  | nil => simp [sumI]
  | cons x a ih => simp only [List.cons_append, sumI, ih]; omega
theorem sumI_bound {α : Type} (g : α → Int) (M : Int) (hM : 0 ≤ M) : ∀ (l : List α), (∀ x ∈ l, -M ≤ g x ∧ g x ≤ M) → -((l.length : Int) * M) ≤ sumI (l.map g) ∧ sumI (l.map g) ≤ (l.length : Int) * M
  | [], _ => by simp [sumI]
  | x :: l, h => by
    have h1 := h x List.mem_cons_self
    have h2 := sumI_bound g M hM l fun y hy => h y (List.mem_cons_of_mem _ hy)
    have e : ((x :: l).length : Int) * M = (l.length : Int) * M + M := by
      rw [List.length_cons]
      push_cast
      rw [Int.add_mul, Int.one_mul]
    simp only [List.map_cons, sumI]
    rw [e]
    omega
theorem sumI_add {α : Type} (g h k : α → Int) : ∀ (l : List α), (∀ x ∈ l, g x + h x = k x) → sumI (l.map g) + sumI (l.map h) = sumI (l.map k)
  | [], _ => rfl
  | x :: l, e => by
    have e1 := e x List.mem_cons_self
    have e2 := sumI_add g h k l fun y hy => e y (List.mem_cons_of_mem _ hy)
    simp only [List.map_cons, sumI]
    omega
/-- Is a moment in a window? -/
def inW (f t x : Int) : Bool := decide (f ≤ x) && decide (x < t)
def gN (f t x : Int) : Int := if inW f t x = true then 1 else 0
def gZ (f t : Int) (p : Int × Int) : Int := if inW f t p.1 = true then p.2 else 0
def gT (f t : Int) (u : Int × Int) : Int := max 0 (min u.2 t - max u.1 f)
theorem gN_add {m : Int} (h0 : 0 ≤ m) (h1 : m ≤ 500) (x : Int) : gN 0 m x + gN m 500 x = gN 0 500 x := by
  unfold gN inW
  simp only [Bool.and_eq_true, decide_eq_true_eq]
  repeat' split
  all_goals omega
theorem gZ_add {m : Int} (h0 : 0 ≤ m) (h1 : m ≤ 500) (p : Int × Int) : gZ 0 m p + gZ m 500 p = gZ 0 500 p := by
  unfold gZ inW
  simp only [Bool.and_eq_true, decide_eq_true_eq]
  repeat' split
  all_goals omega
theorem gT_add {m : Int} (h0 : 0 ≤ m) (h1 : m ≤ 500) (u : Int × Int) : gT 0 m u + gT m 500 u = gT 0 500 u := by
  unfold gT
  omega
theorem gN_bound (f t x : Int) : -1 ≤ gN f t x ∧ gN f t x ≤ 1 := by
  unfold gN
  split <;> omega
theorem gZ_bound {f t : Int} {p : Int × Int} (h : -alEnd ≤ p.2 ∧ p.2 ≤ alEnd) : -alEnd ≤ gZ f t p ∧ gZ f t p ≤ alEnd := by
  unfold gZ
  unfold alEnd at *
  split <;> omega
theorem gT_bound {f t : Int} {u : Int × Int} (h0 : 0 ≤ f) (h1 : t ≤ 500) : -500 ≤ gT f t u ∧ gT f t u ≤ 500 := by
  unfold gT
  omega
/-- An account. -/
structure Ac where
  r : Nat
  n : Int
  k : Int
  w : Int
  t : Int
def addA (f t : Int) (L : Lf) (a : Ac) : Ac := ⟨a.r, a.n + sumI (L.ra.map (gN f t)), a.k + sumI (L.ak.map (gN f t)), a.w + sumI ((L.ak.zip L.wt).map (gZ f t)), a.t + sumI (L.up.map (gT f t))⟩
def acStep (F : Nm2 → Lf) (f t : Int) (r : Nat) (a : Ac) (n : Nm2) : Ac := if n.2 = r then addA f t (F n) a else a
/-- A rule's account over some lives. -/
def acN (F : Nm2 → Lf) (f t : Int) (r : Nat) (K : List Nm2) : Ac := K.foldl (acStep F f t r) ⟨r, 0, 0, 0, 0⟩
theorem acN_snoc (F : Nm2 → Lf) (f t : Int) (r : Nat) (K : List Nm2) (n : Nm2) : acN F f t r (K ++ [n]) = acStep F f t r (acN F f t r K) n := by simp [acN]
theorem acN_r (F : Nm2 → Lf) (f t : Int) (r : Nat) (K : List Nm2) : (acN F f t r K).r = r := by
  have key : ∀ (K : List Nm2) (a : Ac), (K.foldl (acStep F f t r) a).r = a.r := by
    intro K
    induction K with
    | nil => intro a; rfl
    | cons n K ih =>
      intro a
      rw [List.foldl_cons, ih]
      unfold acStep
      split <;> rfl
  exact key K _
theorem acN_none {F : Nm2 → Lf} {f t : Int} {r : Nat} {K : List Nm2} (h : ∀ n ∈ K, n.2 ≠ r) : acN F f t r K = ⟨r, 0, 0, 0, 0⟩ := by
  have key : ∀ (K : List Nm2) (a : Ac), (∀ n ∈ K, n.2 ≠ r) → K.foldl (acStep F f t r) a = a := by
    intro K
    induction K with
    | nil => intro a _; rfl
    | cons n K ih =>
      intro a h
      rw [List.foldl_cons]
      have : acStep F f t r a n = a := by unfold acStep; rw [if_neg (h n List.mem_cons_self)]
      rw [this]
      exact ih a fun q hq => h q (List.mem_cons_of_mem _ hq)
  exact key K _ h
structure AcSum (a b c : Ac) : Prop where
  n : a.n + b.n = c.n
  k : a.k + b.k = c.k
  w : a.w + b.w = c.w
  t : a.t + b.t = c.t
theorem addA_sum {m : Int} (h0 : 0 ≤ m) (h1 : m ≤ 500) {a b c : Ac} (h : AcSum a b c) (L : Lf) : AcSum (addA 0 m L a) (addA m 500 L b) (addA 0 500 L c) := by
  obtain ⟨e1, e2, e3, e4⟩ := h
  have f1 := sumI_add (gN 0 m) (gN m 500) (gN 0 500) L.ra fun x _ => gN_add h0 h1 x
  have f2 := sumI_add (gN 0 m) (gN m 500) (gN 0 500) L.ak fun x _ => gN_add h0 h1 x
  have f3 := sumI_add (gZ 0 m) (gZ m 500) (gZ 0 500) (L.ak.zip L.wt) fun x _ => gZ_add h0 h1 x
  have f4 := sumI_add (gT 0 m) (gT m 500) (gT 0 500) L.up fun x _ => gT_add h0 h1 x
  unfold addA
  exact ⟨by simp only; omega, by simp only; omega, by simp only; omega, by simp only; omega⟩
theorem acN_sum {m : Int} (h0 : 0 ≤ m) (h1 : m ≤ 500) (F : Nm2 → Lf) (r : Nat) (K : List Nm2) : AcSum (acN F 0 m r K) (acN F m 500 r K) (acN F 0 500 r K) := by
  have key : ∀ (K : List Nm2) (a b c : Ac), AcSum a b c → AcSum (K.foldl (acStep F 0 m r) a) (K.foldl (acStep F m 500 r) b) (K.foldl (acStep F 0 500 r) c) := by
    intro K
    induction K with
    | nil => intro a b c h; exact h
    | cons n K ih =>
      intro a b c h
      simp only [List.foldl_cons]
      refine ih _ _ _ ?_
      unfold acStep
      split
      · exact addA_sum h0 h1 h _
      · exact h
  exact key K _ _ _ ⟨rfl, rfl, rfl, rfl⟩
/-- What holds of a life's acks. -/
structure LfW (L : Lf) : Prop where
  len : L.wt.length = L.ak.length
  rng : ∀ w ∈ L.wt, -alEnd ≤ w ∧ w ≤ alEnd
theorem follow_w {L : Lf} {k : Nat} {s : Sg} (h : LfW L) (hk : LfOk L k) (h1 : 0 ≤ s.at_) (h2 : s.at_ < alEnd) : LfW (followL L s).1 := by
  have hz : -alEnd ≤ s.at_ - L.ra.getLastD 0 ∧ s.at_ - L.ra.getLastD 0 ≤ alEnd := by
    have : 0 ≤ L.ra.getLastD 0 ∧ L.ra.getLastD 0 < alEnd := by
      cases hr : L.ra with
      | nil => simp [alEnd]
      | cons x l =>
        have hm : (x :: l).getLastD 0 ∈ L.ra := by
          rw [hr, List.getLastD_eq_getLast?, List.getLast?_eq_some_getLast (by simp)]
          exact List.getLast_mem _
        exact hk.rng _ hm
    omega
  have hadd : ∀ (M : Lf), M.wt = L.wt → M.ak = L.ak → LfW (akd L s.at_ M) := fun M _ _ => ⟨by simp [akd, h.len], fun w hw => by
    simp only [akd, List.mem_append, List.mem_singleton] at hw
    rcases hw with hw | rfl
    · exact h.rng w hw
    · exact hz⟩
  unfold followL
  split
  · split
    · exact h
    · exact ⟨h.len, h.rng⟩
  · split
    · split
      · exact ⟨h.len, h.rng⟩
      · split
        · exact ⟨h.len, h.rng⟩
        · exact h
    · split
      · split
        · exact hadd _ rfl rfl
        · split
          · exact hadd _ rfl rfl
          · exact h
      · split
        · split
          · exact h
          · exact ⟨h.len, h.rng⟩
        · split
          · exact h
          · exact ⟨h.len, h.rng⟩
theorem lifeAt_w (t : Int) (n : Nm2) (l : List Sg) (h : ∀ s ∈ l, SgV s) : LfW (lifeAt l t n) := by
  have key : ∀ k, k ≤ l.length → LfW (lifeAt (l.take k) t n) := by
    intro k
    induction k with
    | zero => intro _; exact ⟨rfl, by intro w hw; cases hw⟩
    | succ k ih =>
      intro hk
      have hx : l[k]? = some l[k] := List.getElem?_eq_getElem (by omega)
      have he : l.take (k + 1) = l.take k ++ [l[k]] := by rw [List.take_add_one, hx]; rfl
      have hs := h l[k] (List.getElem_mem (by omega))
      rw [he, lifeAt_snoc]
      unfold lifeStep
      split
      · exact follow_w (ih (by omega)) (lifeAt_ok t n _ (fun s hs => h s (List.mem_of_mem_take hs))) hs.at0 hs.at1
      · exact ih (by omega)
  have := key l.length (Nat.le_refl _)
  rwa [List.take_length] at this
/-- The names of signals, in order. -/
def namK (l : List Sg) : List Nm2 := al6.filter (fun n => decide (n ∈ namesOf l))
theorem order_names {l : List Sg} {K : List Nm2} (hp : ∀ n, n ∈ K ↔ n ∈ namesOf l) (hok : ∀ n ∈ K, NmOk n) (hs : K.Pairwise (fun a b => rkN a ≤ rkN b)) (hn : K.Pairwise (fun a b => a ≠ b)) : K = namK l := by
  have hst : K.Pairwise (fun a b => rkN a < rkN b) := by
    rw [List.pairwise_iff_getElem] at hs hn ⊢
    intro i j hi hj hij
    have h1 := hs i j hi hj hij
    have h2 := hn i j hi hj hij
    have o1 := hok _ (List.getElem_mem hi)
    have o2 := hok _ (List.getElem_mem hj)
    rcases Nat.lt_or_eq_of_le h1 with h | h
    · exact h
    · exfalso
      apply h2
      unfold rkN at h
      unfold NmOk at o1 o2
      exact Prod.ext (by omega) (by omega)
  refine strict_eq rkN _ _ hst (List.Pairwise.sublist List.filter_sublist (by decide)) fun n => ?_
  unfold namK
  rw [List.mem_filter, hp]
  exact ⟨fun h => ⟨mem_al6 (hok n ((hp n).2 h)), by simpa using h⟩, fun h => by simpa using h.2⟩
/-- The rules of some names. -/
def hasR (K : List Nm2) (r : Nat) : Bool := K.any (fun n => n.2 == r)
def acL (l : List Sg) (f t : Int) : List Ac := ([0, 1].filter (hasR (namK l))).map fun r => acN (lifeAt l alEnd) f t r (namK l)
theorem acL_len (l : List Sg) (f t f' t' : Int) : (acL l f t).length = (acL l f' t').length := by simp [acL]
theorem acL_sum {m : Int} (h0 : 0 ≤ m) (h1 : m ≤ 500) (l : List Sg) {i : Nat} {a b c : Ac} (ha : (acL l 0 m)[i]? = some a) (hb : (acL l m 500)[i]? = some b) (hc : (acL l 0 500)[i]? = some c) : AcSum a b c := by
  unfold acL at ha hb hc
  rw [List.getElem?_map] at ha hb hc
  cases hr : ([0, 1].filter (hasR (namK l)))[i]? with
  | none => rw [hr] at ha; cases ha
  | some r =>
    rw [hr] at ha hb hc
    simp only [Option.map_some, Option.some.injEq] at ha hb hc
    rw [← ha, ← hb, ← hc]
    exact acN_sum h0 h1 _ r _
end Go.Proofs.YtgdnedhcbjonkaaGreatDoor

/- What a house says of its order, with where the lives lie. -/
namespace Go.Proofs.YtgdnedhcbjonkaaGreatDoor
open Go.RowKit Go.Shelf

/-- A house's order, with where the lives lie. -/
theorem house_order2 {w' : World} {B hs m : Nat} {o : List Nat} {M : List Mb} {l : List Sg} {F : Nm2 → Lf} (hI : HsI w' B hs m o M) (ho : OrdE (mbE M) o) (hnm : M.map (·.n) = namesOf l) (hL : ∀ y ∈ M, y.L = F y.n) :
    ∃ E : List (Nm2 × Nat), o = E.map (·.2) ∧ E.map (·.1) = namK l ∧ ∀ p ∈ E, NmOk p.1 ∧ ∃ v, LfI w' p.2 (F p.1) v ∧ ∀ b, lfFoot p.2 v b → B ≤ b := by
  obtain ⟨E, h1, h2, h3⟩ := ho
  have hk : (E.map (·.1)).Perm (M.map (·.n)) := by
    have := h1.map (·.1)
    rwa [show (mbE M).map (·.1) = M.map (·.n) from by simp [mbE, Function.comp_def]] at this
  have hok : ∀ n ∈ E.map (·.1), NmOk n := fun n hn => by
    obtain ⟨y, hy, rfl⟩ := List.mem_map.1 (hk.mem_iff.1 hn)
    exact (hI.each y hy).2.1
  refine ⟨E, h3, order_names (fun n => by rw [hk.mem_iff, hnm]) hok (List.pairwise_map.2 h2) (hk.symm.pairwise (List.pairwise_map.2 hI.names) (fun h => Ne.symm h)), fun p hp => ?_⟩
  refine ⟨hok p.1 (List.mem_map.2 ⟨p, hp, rfl⟩), ?_⟩
  have := h1.mem_iff.1 hp
  simp only [mbE, List.mem_map] at this
  obtain ⟨y, hy, rfl⟩ := this
  exact ⟨y.v, by have := (hI.each y hy).1; rw [hL y hy] at this; exact this, hI.low y hy⟩
end Go.Proofs.YtgdnedhcbjonkaaGreatDoor

/- alarm.flaps, flapFault and Flapping by their contracts. -/
namespace Go.Proofs.YtgdnedhcbjonkaaGreatDoor
open Go.RowKit Go.Shelf

theorem Tryz.infoFw : (Tryz.prog.info? 55).map (fun i => (i.zero, i.size, i.bytes)) = some (some (.agg #[.int .i64 0, .int .i64 0]), 2, 16) := by kernel_rfl
structure FlOk (m w c : Int) : Prop where
  m : 2 ≤ m ∧ m ≤ 1000
  w : 1 ≤ w ∧ w ≤ 1000
  c : 1 ≤ c ∧ c ≤ 1000
theorem flapFault_no (m w c : Int) (W : World) (h : FlOk m w c) : Calls Tryz.prog 92 #[.agg #[.int .i64 m, .int .i64 w, .int .i64 c]] W fun e w' => e = .returned (.int .i64 0) ∧ Below W.heap.size W w' := by
  obtain ⟨⟨m1, m2⟩, ⟨w1, w2⟩, c1, c2⟩ := h
  go_enter Tryz.func92, Tryz.ntmps92
  go_wp2_with (go_at_call 74; refine (out_no _ _ _ _ (by omega) (by omega)).mono ?_; rintro e w' ⟨rfl, rfl⟩)
  go_ret
  exact ⟨rfl, (Below.refl _ _).alloc (Nat.le_refl _) _⟩
def FlapsP (W : World) (R : List (Int × Int)) (e : Ending) (w' : World) : Prop := ∃ A c n, e = .returned (.slice A n c) ∧ R.length = n ∧ w'.ownsRow W.heap.size 55 2 (.slice A n c) n (recs alW R) ∧ Below W.heap.size W w'
theorem setLast_set {o : List (Int × Int)} {a : Int × Int} (h : o.getLast? = some a) (t : Int) : setLast o t = o.set (o.length - 1) (a.1, t) := by
  obtain ⟨p, rfl⟩ := getLast_split h
  rw [setLast_snoc]
  simp
theorem flF_bound (m w c : Int) (ra : List Int) (hr : ∀ r ∈ ra, 0 ≤ r ∧ r < 345686400000) (hc : 1 ≤ c ∧ c ≤ 1000) : ∀ i, i ≤ ra.length → ∀ a ∈ (flF m w c ra i).2, 0 ≤ a.1 ∧ a.1 < 345686400000 ∧ 0 ≤ a.2 ∧ a.2 ≤ 345686401000
  | 0, _ => by intro a ha; simp [flF] at ha
  | i + 1, h => by
    have ih := flF_bound m w c ra hr hc i (by omega)
    have he : ra.getD i 0 = ra[i] := by simp [List.getD_eq_getElem?_getD, show i < ra.length by omega]
    have hri := hr _ (List.getElem_mem (show i < ra.length by omega))
    rw [← he] at hri
    intro a ha
    have ha' : a ∈ flOut m c (ra.getD i 0) ((i : Int) - (flAdv ra (ra.getD i 0 - w) (i - (flF m w c ra i).1) (flF m w c ra i).1 : Nat) + 1) (flF m w c ra i).2 := ha
    have happ : ∀ x ∈ (flF m w c ra i).2 ++ [(ra.getD i 0, ra.getD i 0 + c)], 0 ≤ x.1 ∧ x.1 < 345686400000 ∧ 0 ≤ x.2 ∧ x.2 ≤ 345686401000 := fun x hx => by
      rcases List.mem_append.1 hx with hx | hx
      · exact ih x hx
      · rw [List.mem_singleton] at hx; subst hx; simp only; omega
    unfold flOut at ha'
    split at ha'
    · rename_i b hb
      obtain ⟨p, hp⟩ := getLast_split hb
      split at ha'
      · rw [hp, setLast_snoc] at ha'
        rcases List.mem_append.1 ha' with hx | hx
        · exact ih a (by rw [hp]; exact List.mem_append_left _ hx)
        · rw [List.mem_singleton] at hx
          have := ih b (by rw [hp]; simp)
          subst hx; simp only; omega
      · split at ha'
        · exact happ a ha'
        · exact ih a ha'
    · split at ha'
      · exact happ a ha'
      · exact ih a ha'
theorem flOut_two (m c r d : Int) (O : List (Int × Int)) : (∃ a, O[O.length - 1]? = some a ∧ 0 < O.length ∧ r ≤ a.2 ∧ flOut m c r d O = O.set (O.length - 1) (a.1, r + c)) ∨ ((∀ a, O[O.length - 1]? = some a → ¬ r ≤ a.2) ∧ flOut m c r d O = if m ≤ d then O ++ [(r, r + c)] else O) := by
  unfold flOut
  rw [← List.getLast?_eq_getElem?]
  cases h : O.getLast? with
  | none => exact .inr ⟨fun a h => (by cases h), rfl⟩
  | some a =>
    by_cases hle : r ≤ a.2
    · refine .inl ⟨a, rfl, ?_, hle, ?_⟩
      · obtain ⟨p, rfl⟩ := getLast_split h
        simp
      · simp only [if_pos hle]
        exact setLast_set h _
    · refine .inr ⟨fun b hb => (by cases hb; exact hle), ?_⟩
      simp only [if_neg hle]
theorem alW_oneF (x : Int × Int) : ∀ u ∈ alW x, u.oneCell' = true := by
  intro u hu; simp [alW] at hu; rcases hu with rfl | rfl <;> rfl
def capTo (j : Nat) (O : List (Int × Int)) : List (Int × Int) := (O.take j).map capW ++ O.drop j
theorem capTo_zero (O : List (Int × Int)) : capTo 0 O = O := by simp [capTo]
theorem capTo_all (O : List (Int × Int)) : capTo O.length O = O.map capW := by simp [capTo]
theorem capTo_len (j : Nat) (O : List (Int × Int)) : (capTo j O).length = O.length := by unfold capTo; rw [List.length_append, List.length_map, List.length_take, List.length_drop]; omega
theorem capTo_get {j : Nat} {O : List (Int × Int)} {a : Int × Int} (h : O[j]? = some a) : (capTo j O)[j]? = some a := by
  have hj := (List.getElem?_eq_some_iff.1 h).1
  unfold capTo
  rw [List.getElem?_append_right (by rw [List.length_map, List.length_take]; omega), List.length_map, List.length_take, List.getElem?_drop, ← h]
  congr 1
  omega
theorem capTo_set {j : Nat} {O : List (Int × Int)} {a : Int × Int} (h : O[j]? = some a) : (capTo j O).set j (capW a) = capTo (j + 1) O := by
  have hj := (List.getElem?_eq_some_iff.1 h).1
  have hd : O.drop j = a :: O.drop (j + 1) := by
    obtain ⟨h1, rfl⟩ := List.getElem?_eq_some_iff.1 h
    exact List.drop_eq_getElem_cons h1
  unfold capTo
  rw [hd, List.take_add_one, h, List.set_append_right _ _ (by rw [List.length_map, List.length_take]; omega), List.length_map, List.length_take, show j - min j O.length = 0 by omega]
  simp
/-- A window's end is set. -/
theorem win_set {w : World} {B g n cap j : Nat} {l : List (Int × Int)} {a : Int × Int} {z : Int} (ho : w.ownsRow B 55 2 (.slice (some ⟨g, 0, none⟩) n cap) n (recs alW l)) (ha : l[j]? = some a) : (w.setCell ⟨g, j * 2 + 1, none⟩ (.int .i64 z)).ownsRow B 55 2 (.slice (some ⟨g, 0, none⟩) n cap) n (recs alW (l.set j (a.1, z))) := by
  have hj := (List.getElem?_eq_some_iff.1 ha).1
  have hst := (ho.stored (j * 2 + 1) (.int .i64 z)).1
  have e : l.set j a = l := by
    apply List.ext_getElem?
    intro k
    by_cases hk : j = k
    · subst hk
      rw [List.getElem?_set_self hj, ha]
    · rw [List.getElem?_set_ne hk]
  have h2 := recs_cell alW_len l j 1 a (a.1, z) (.int .i64 z) hj (by decide) rfl
  rw [e] at h2
  rw [h2] at hst
  exact hst
set_option maxRecDepth 100000 in
set_option maxHeartbeats 4000000 in
theorem flaps_any (m w c : Int) (ra : List Int) (n cc : Nat) (A : Option Addr) (W : World) (hf : FlOk m w c) (hn : ra.length = n) (hn2 : n ≤ 1000) (hra : ∀ r ∈ ra, 0 ≤ r ∧ r < 345686400000) (hr : Row W W.heap.size A (alI ra)) :
    Calls Tryz.prog 97 #[.agg #[.int .i64 m, .int .i64 w, .int .i64 c], .slice A n cc] W fun e w' => FlapsP W (flR m w c ra) e w' := by
  obtain ⟨i0, hi0, hz0, hz1, hz2⟩ := info_parts Tryz.infoFw
  obtain ⟨gf, egf⟩ : ∃ g, g = W.heap.size := ⟨_, rfl⟩
  obtain ⟨w0, e0⟩ : ∃ V : World, V = W.alloc (.cells #[.int .i64 m, .int .i64 w, .int .i64 c] 29) := ⟨_, rfl⟩
  have hb0 : Below W.heap.size W w0 := by rw [e0]; exact (Below.refl _ _).alloc (Nat.le_refl _) _
  have hg0 : w0.heap[gf]? = some (.cells #[.int .i64 m, .int .i64 w, .int .i64 c] 29 (0, 0)) := by rw [e0, egf]; exact heap_new W _
  have hgf0 : gf < w0.heap.size := (Array.getElem?_eq_some_iff.1 hg0).1
  have HKF := Lib.hid (fun (V : World) (hV : Below w0.heap.size w0 V) => show V.cell? ⟨gf, 0, none⟩ = some (.int .i64 m) ∧ V.cell? ⟨gf, 1, none⟩ = some (.int .i64 w) ∧ V.cell? ⟨gf, 2, none⟩ = some (.int .i64 c) ∧ gf < V.heap.size from
    ⟨cell_of_blk (j := 0) ((hV.block gf hgf0).trans hg0) rfl, cell_of_blk (j := 1) ((hV.block gf hgf0).trans hg0) rfl, cell_of_blk (j := 2) ((hV.block gf hgf0).trans hg0) rfl, Nat.lt_of_lt_of_le hgf0 hV.size⟩)
  have HRW := Lib.hid (fun (V : World) (hV : Below w0.heap.size w0 V) => show Row V w0.heap.size A (alI ra) from ((hr.below hb0).mono hb0.size).keep fun b hb => hV.block b hb)
  have HB0 := Lib.hid hb0
  have HN := Lib.hid (And.intro hn hra)
  have HF := Lib.hid hf
  have HBD := Lib.hid (flF_bound m w c ra hra hf.c)
  obtain ⟨⟨m1, m2⟩, ⟨v1, v2⟩, c1, c2⟩ := hf
  clear hn hra hr hb0 hg0
  go_enter Tryz.func97, Tryz.ntmps97
  go_upto_region 1 with (fail)
  rw [← egf, ← e0]
  clear e0 egf
  go_wp2_with (fail)
  go_loopw [5, 6, 13] (fun v f s wr => ∃ (i : Nat), i ≤ n ∧ s = .int .i64 (i : Int) ∧ f = .int .i64 ((flF m w c ra i).1 : Nat) ∧ wr.ownsRow w0.heap.size 55 2 v (flF m w c ra i).2.length (recs alW (flF m w c ra i).2) ∧ Below w0.heap.size w0 wr) (fun _ _ s _ => n - (intOf s).toNat)
  case atStart => exact ⟨0, by omega, rfl, rfl, World.ownsRow_nil _ _ _ _, Below.refl _ _⟩
  case round =>
    obtain ⟨i, hin, rfl, rfl, hown, hbr⟩ := hrel
    obtain ⟨f0, ef0⟩ : ∃ f, f = (flF m w c ra i).1 := ⟨_, rfl⟩
    obtain ⟨O, eO⟩ : ∃ o, o = (flF m w c ra i).2 := ⟨_, rfl⟩
    obtain ⟨on, eon⟩ : ∃ o, o = O.length := ⟨_, rfl⟩
    have hf0 : f0 ≤ i := by rw [ef0]; exact flF_first m w c ra i
    have hon : on ≤ i := by rw [eon, eO]; exact flF_len m w c ra i
    rw [← eO, ← eon] at hown
    rw [← ef0]
    have hbs := hbr.size
    obtain ⟨XA, xc, rfl⟩ := own_slice hown
    have HO := Lib.hid hown
    have HB := Lib.hid hbr
    have HFE := Lib.hid (And.intro ef0 (And.intro eO eon))
    clear hown hbr ef0 eO eon
    by_cases hlt : i < n
    · have hltI : (i : Int) < n := by omega
      obtain ⟨r, hri⟩ : ∃ r, ra[i]? = some r := ⟨_, List.getElem?_eq_getElem (by have := HN.out.1; omega)⟩
      have hrr := HN.out.2 r (List.mem_of_getElem? hri)
      have hrg : ra.getD i 0 = r := by simp [List.getD_eq_getElem?_getD, hri]
      obtain ⟨gA, oA, rfl, hgA⟩ : ∃ g o, A = some ⟨g, o, none⟩ ∧ g < w0.heap.size := by
        rcases HRW.out wr HB.out with h0 | ⟨g, o, h1, h2, _⟩
        · exfalso
          have : ra.length = 0 := by
            have h1 := congrArg List.length h0
            simpa [alI] using h1
          have := HN.out.1
          omega
        · exact ⟨g, o, h1, h2⟩
      have HCE := Lib.hid (fun (V : World) (hV : Below w0.heap.size w0 V) (j : Nat) (x : Int) (hx : ra[j]? = some x) => show V.cell? ⟨gA, oA + j, none⟩ = some (.int .i64 x) from by
        rcases HRW.out V hV with h0 | ⟨g, o, h1, _, h3⟩
        · exfalso
          have h1 := congrArg List.length h0
          have : ra.length = 0 := by simpa [alI] using h1
          have := (List.getElem?_eq_some_iff.1 hx).1
          omega
        · cases h1
          exact h3 j _ (by simp [alI, hx]))
      have d0 := HCE.out wr HB.out i r hri
      have hgr : gA < wr.heap.size := by omega
      have hw1 : IntKind.i64.wrap (r - w) = r - w := by rw [IntKind.wrap_i64]; omega
      have HRI := Lib.hid (And.intro hri hrg)
      obtain ⟨F, eF⟩ : ∃ F, F = flAdv ra (r - w) (i - f0) f0 := ⟨_, rfl⟩
      have HFF := Lib.hid eF
      have HOW := Lib.hid (fun (V : World) (hV : Below wr.heap.size wr V) => own_belowP HO.out hV)
      have HBW := Lib.hid (fun (V : World) (hV : Below wr.heap.size wr V) => show Below w0.heap.size w0 V from HB.out.trans (hV.mono hbs))
      clear hri hrg eF HO
      obtain ⟨w5, ew5⟩ : ∃ V : World, V = wr := ⟨_, rfl⟩
      rw [← ew5] at HOW HBW d0 hgr hbs HB ⊢
      clear ew5
      go_wp2_with (fail)
      clear d0
      go_loopw [6] (fun f wx => ∃ (q : Nat), f0 ≤ q ∧ q ≤ i ∧ f = .int .i64 (q : Int) ∧ Hid (F = flAdv ra (r - w) (i - q) q) ∧ Below w5.heap.size w5 wx) (fun f _ => i - (intOf f).toNat)
      case atStart => exact ⟨f0, Nat.le_refl _, hf0, rfl, HFF, Below.refl _ _⟩
      case round =>
        obtain ⟨q, hq1, hq2, rfl, HQ, hbx⟩ := hrel
        have HBX := Lib.hid hbx
        have hxs := hbx.size
        clear hbx
        obtain ⟨x, hx⟩ : ∃ x, ra[q]? = some x := ⟨_, List.getElem?_eq_getElem (by have := HN.out.1; omega)⟩
        have hxg : ra.getD q 0 = x := by simp [List.getD_eq_getElem?_getD, hx]
        have hqi : q = i → x = r := fun e => by subst e; have := hx.symm.trans HRI.out.1; exact Option.some.inj this
        have d0 := HCE.out wr (HBW.out wr HBX.out) q x hx
        obtain ⟨_, k1, _, kl⟩ := HKF.out wr (HBW.out wr HBX.out)
        have hgr' : gA < wr.heap.size := by omega
        have hqn : q < n := by omega
        by_cases hle : x ≤ r - w
        · have hqlt : q < i := by
            rcases Nat.lt_or_eq_of_le hq2 with h | h
            · exact h
            · have := hqi h; omega
          have hle2 : decide (x ≤ r - w) = true := decide_eq_true hle
          have HQ2 := Lib.hid (show F = flAdv ra (r - w) (i - (q + 1)) (q + 1) from by
            rw [HQ.out, show i - q = (i - (q + 1)) + 1 by omega]
            show (if ra.getD q 0 ≤ r - w then _ else _) = _
            rw [hxg, if_pos hle])
          clear hx hxg hqi
          go_upto_region 6 with (fail)
          go_quiet (fail)
          go_wp2_with (fail)
          go_roundw
          case rel => exact ⟨q + 1, by omega, by omega, by go_num, HQ2, below_drewN HBX.out _⟩
          case measure => simp [intOf]; omega
        · have hle2 : decide (x ≤ r - w) = false := decide_eq_false hle
          have hFq : F = q := by
            rw [HQ.out]
            rcases Nat.lt_or_eq_of_le hq2 with h | h
            · rw [show i - q = (i - (q + 1)) + 1 by omega]
              show (if ra.getD q 0 ≤ r - w then _ else _) = _
              rw [hxg, if_neg hle]
            · rw [show i - q = 0 by omega]; rfl
          have hOq : (flF m w c ra (i + 1)) = (F, flOut m c r ((i : Int) - (F : Nat) + 1) O) := by
            obtain ⟨e1, e2, e3⟩ := HFE.out
            show flStep m w c ra i (flF m w c ra i) = _
            unfold flStep
            rw [← e1, ← e2, HRI.out.2, ← HFF.out]
          have HOQ := Lib.hid hOq
          subst hFq
          have HO5 := Lib.hid (HOW.out wr HBX.out)
          have HB5 := Lib.hid (HBW.out wr HBX.out)
          clear hx hxg hqi hOq HOW HBW HBX
          have hk1 := k1
          go_upto_region 6 with (fail)
          go_cut [26] (fun s wx => s = .bool false ∧ Below wr.heap.size wr wx)
          case first =>
            go_quiet (fail)
            go_wp2_with (fail)
            go_meet
            exact ⟨rfl, below_drewN (Below.refl _ _) _⟩
          case rest =>
          obtain ⟨rfl, hbc⟩ := hcut
          obtain ⟨w6, ew6⟩ : ∃ V : World, V = wc := ⟨_, rfl⟩
          rw [← ew6] at hbc ⊢
          have HO6 := Lib.hid (own_belowP HO5.out hbc)
          have HB6 := Lib.hid (HB5.out.trans (hbc.mono HB5.out.size))
          obtain ⟨k0', k1', k2', kl'⟩ := HKF.out w6 HB6.out
          have hs6 := HB6.out.size
          clear ew6 hbc HO5 HB5 d0 k1 kl hk1
          have hwc : IntKind.i64.wrap (r + c) = r + c := by rw [IntKind.wrap_i64]; omega
          have hwi1 : IntKind.i64.wrap ((i : Int) - (F : Nat)) = (i : Int) - (F : Nat) := by rw [IntKind.wrap_i64]; omega
          have hwi2 : IntKind.i64.wrap ((i : Int) - (F : Nat) + 1) = (i : Int) - (F : Nat) + 1 := by rw [IntKind.wrap_i64]; omega
          obtain ⟨dd, edd⟩ : ∃ dd : Int, dd = (i : Int) - (F : Nat) + 1 := ⟨_, rfl⟩
          rw [← edd] at HOQ hwi2
          have hed : (i : Int) - (F : Nat) + 1 = dd := edd.symm
          clear edd
          rcases flOut_two m c r dd O with ⟨a, ha, hpos, hle3, hout⟩ | ⟨hno, hout⟩
          · obtain ⟨on', eon'⟩ : ∃ k, on = k + 1 := ⟨on - 1, by have := HFE.out.2.2; omega⟩
            subst eon'
            have hOl : O.length = on' + 1 := HFE.out.2.2.symm
            rw [hOl, Nat.add_sub_cancel] at ha hout
            have HOUT := Lib.hid (show (flF m w c ra (i + 1)) = (F, O.set on' (a.1, r + c)) from by rw [HOQ.out, hout])
            obtain ⟨gO, rfl, hgB, hgl⟩ : ∃ g, XA = some ⟨g, 0, none⟩ ∧ w0.heap.size ≤ g ∧ g < w6.heap.size := by
              rcases own_two HO6.out with ⟨_, h0, _⟩ | ⟨g, h1, h2, h3⟩
              · omega
              · exact ⟨g, h1, h2, h3⟩
            have hcu := own_cells0 HO6.out
            have a1 := rec_cell alW_len hcu on' a ha 1 _ rfl
            simp only [Nat.zero_add] at a1
            have fr : w6.frozen? ⟨gO, on' * 2 + 1, none⟩ = false := by
              obtain ⟨cs, hcs⟩ := own_blk HO6.out
              simp [World.frozen?, hcs]
            have HS := Lib.hid (win_set (z := r + c) HO6.out ha)
            have HBS := Lib.hid (HB6.out.setCell (p := ⟨gO, on' * 2 + 1, none⟩) hgB (.int .i64 (r + c)))
            have hp1 : IntKind.i64.wrap (on' : Int) = on' := by rw [IntKind.wrap_i64]; omega
            have hp2 : (0 : Int) ≤ (on' : Int) + 1 := by omega
            have hp3 : ((on' : Int) + 1).toNat = on' + 1 := by omega
            have hp4 : on' < on' + 1 := by omega
            have HOL := Lib.hid hOl
            clear hcu ha hout hOl hpos
            go_wp2_with (fail)
            go_roundw
            case rel => exact ⟨i + 1, by omega, by go_num, by rw [HOUT.out], by rw [HOUT.out, List.length_set, HOL.out]; exact HS.out, HBS.out⟩
            case measure => simp [intOf]; omega
          · obtain ⟨bb, hbb⟩ : ∃ bb : Bool, bb = decide (m ≤ dd) := ⟨_, rfl⟩
            obtain ⟨kz, ekz⟩ : ∃ kz : Int, kz = (on : Int) - 1 := ⟨_, rfl⟩
            have hkz : (on : Int) - 1 = kz := ekz.symm
            have hwk : IntKind.i64.wrap ((on : Int) - 1) = kz := by rw [IntKind.wrap_i64]; omega
            clear ekz
            go_upto_region 9 with (fail)
            go_cut [32] (fun s wx => s = .bool false ∧ wx = w6)
            case first =>
              rcases Nat.eq_zero_or_pos on with h0 | hpos
              · subst h0
                have hkn : ¬ 0 ≤ kz := by omega
                clear hkz hwk
                go_wp2_with (fail)
                go_meet
                exact ⟨rfl, rfl⟩
              · obtain ⟨on', eon'⟩ : ∃ k, on = k + 1 := ⟨on - 1, by omega⟩
                subst eon'
                obtain rfl : kz = (on' : Int) := by omega
                clear hkz hwk
                have hOl : O.length = on' + 1 := HFE.out.2.2.symm
                obtain ⟨a, ha⟩ : ∃ a, O[on']? = some a := ⟨_, List.getElem?_eq_getElem (by omega)⟩
                have hle3 := hno a (by rw [hOl]; exact ha)
                obtain ⟨gO, rfl, hgB, hgl⟩ : ∃ g, XA = some ⟨g, 0, none⟩ ∧ w0.heap.size ≤ g ∧ g < w6.heap.size := by
                  rcases own_two HO6.out with ⟨_, h0, _⟩ | ⟨g, h1, h2, h3⟩
                  · omega
                  · exact ⟨g, h1, h2, h3⟩
                have hcu := own_cells0 HO6.out
                have a1 := rec_cell alW_len hcu on' a ha 1 _ rfl
                simp only [Nat.zero_add] at a1
                have hp1 : IntKind.i64.wrap (on' : Int) = on' := by rw [IntKind.wrap_i64]; omega
                have hp2 : (0 : Int) ≤ (on' : Int) + 1 := by omega
                have hp3 : ((on' : Int) + 1).toNat = on' + 1 := by omega
                have hp4 : on' < on' + 1 := by omega
                clear hcu ha hno
                go_wp2_with (fail)
                go_meet
                exact ⟨rfl, rfl⟩
            case rest =>
            obtain ⟨rfl, ewc⟩ := hcut
            rw [ewc]
            clear ewc hno hkz hwk
            have HBB := Lib.hid hbb
            cases bb
            case false =>
              have hmd : decide (m ≤ dd) = false := hbb.symm
              have HOUT := Lib.hid (show (flF m w c ra (i + 1)) = (F, O) from by rw [HOQ.out, hout, if_neg (of_decide_eq_false hmd)])
              clear hout hbb
              go_wp2_with (fail)
              go_roundw
              case rel => exact ⟨i + 1, by omega, by go_num, by rw [HOUT.out], by rw [HOUT.out]; show World.ownsRow _ _ _ _ _ O.length (recs alW O); rw [← HFE.out.2.2]; exact HO6.out, HB6.out⟩
              case measure => simp [intOf]; omega
            case true =>
              have hmd : decide (m ≤ dd) = true := hbb.symm
              have HOUT := Lib.hid (show (flF m w c ra (i + 1)) = (F, O ++ [(r, r + c)]) from by rw [HOQ.out, hout, if_pos (of_decide_eq_true hmd)])
              clear hout hbb
              go_wp2_with (at_builtin; refine wpList_append_own2 _ rfl _ _ 143 rfl w0.heap.size 55 i0 _ 2 16 Tryz.underlying143 hi0 hz0 hz1 hz2 rfl (by decide) _ _ _ rfl (HO6.out.alloc _) ⟨_, 0, none⟩ 1 1 (alW (r, r + c)) rfl rfl ?c1 ?c2 ?c3 ?c4 ?c5 ?_)
              case c1 => first | exact cells_add (cells_atF (by rfl) (by first | rfl | simp)) | exact fun j u h => h
              case c2 => exact alW_oneF _
              case c3 => unfold maxLen; omega
              case c4 => omega
              case c5 => first | omega | (simp; omega)
              intro v9 w9 ho9 hg9 hm9
              have hlo : ∀ k, (Value.slice XA on xc).ownBlock = some k → w0.heap.size ≤ k := fun k hk => (HO6.out.lt k hk).1
              have HB9 := Lib.hid ((HB6.out.alloc HB6.out.size _).grown hg9 (by have := HB6.out.size; simp; omega) hlo)
              have HO9 := Lib.hid ho9
              clear ho9 hg9 hm9 hlo
              go_wp2_with (fail)
              go_roundw
              case rel => exact ⟨i + 1, by omega, by go_num, by rw [HOUT.out], by rw [HOUT.out]; show World.ownsRow _ _ _ _ _ (O ++ [(r, r + c)]).length (recs alW (O ++ [(r, r + c)])); rw [recs_snoc, List.length_append, ← HFE.out.2.2]; exact HO9.out, HB9.out⟩
              case measure => simp [intOf]; omega
    · have hltI : ¬ (i : Int) < n := by omega
      have hin' : i = n := by omega
      have HFO := Lib.hid (show O.map capW = flR m w c ra from by unfold flR; rw [HN.out.1, ← hin', ← HFE.out.2.1])
      go_wp2_with (fail)
      obtain ⟨w5, ew5⟩ : ∃ V : World, V = wr := ⟨_, rfl⟩
      rw [← ew5] at HO HB ⊢
      clear ew5
      go_loopw [72] (fun s wx => ∃ (j : Nat), j ≤ on ∧ s = .int .i64 (j : Int) ∧ wx.ownsRow w0.heap.size 55 2 (.slice XA on xc) on (recs alW (capTo j O)) ∧ Below w0.heap.size w0 wx) (fun s _ => on - (intOf s).toNat)
      case atStart => exact ⟨0, by omega, rfl, by rw [capTo_zero]; exact HO.out, HB.out⟩
      case round =>
        obtain ⟨j, hj, rfl, ho, hb⟩ := hrel
        have HOx := Lib.hid ho
        have HBx := Lib.hid hb
        clear ho hb
        by_cases hjl : j < on
        · have hjI : (j : Int) < on := by omega
          obtain ⟨a, ha⟩ : ∃ a, O[j]? = some a := ⟨_, List.getElem?_eq_getElem (by have := HFE.out.2.2; omega)⟩
          have ha2 := capTo_get ha
          have hab := HBD.out i (by have := HN.out.1; omega) a (by rw [← HFE.out.2.1]; exact List.mem_of_getElem? ha)
          obtain ⟨gO, rfl, hgB, hgl⟩ : ∃ g, XA = some ⟨g, 0, none⟩ ∧ w0.heap.size ≤ g ∧ g < wr.heap.size := by
            rcases own_two HOx.out with ⟨_, h0, _⟩ | ⟨g, h1, h2, h3⟩
            · omega
            · exact ⟨g, h1, h2, h3⟩
          have hcu := own_cells0 HOx.out
          have a1 := rec_cell alW_len hcu j a ha2 1 _ rfl
          simp only [Nat.zero_add] at a1
          have fr : wr.frozen? ⟨gO, j * 2 + 1, none⟩ = false := by
            obtain ⟨cs, hcs⟩ := own_blk HOx.out
            simp [World.frozen?, hcs]
          have hst := win_set (z := min a.2 345686400000) HOx.out ha2
          rw [show (a.1, min a.2 345686400000) = capW a from rfl, capTo_set ha] at hst
          have HS := Lib.hid hst
          have HBS := Lib.hid (HBx.out.setCell (p := ⟨gO, j * 2 + 1, none⟩) hgB (.int .i64 (min a.2 345686400000)))
          clear hcu ha ha2 hst
          go_wp2_with (fail)
          go_roundw
          case rel => exact ⟨j + 1, by omega, by go_num, HS.out, HBS.out⟩
          case measure => simp [intOf]; omega
        · have hjI : ¬ (j : Int) < on := by omega
          have hjn : j = on := by omega
          have HF2 := Lib.hid (show FlapsP W (flR m w c ra) (.returned (.slice XA on xc)) wr from by
            refine ⟨XA, xc, on, rfl, by rw [← HFO.out, List.length_map]; exact HFE.out.2.2.symm, ?_, HB0.out.trans (HBx.out.mono HB0.out.size)⟩
            rw [← HFO.out, ← capTo_all, ← HFE.out.2.2, ← hjn]
            have h := HOx.out
            rw [← hjn] at h
            exact own_mono h HB0.out.size)
          go_wp2_with (fail)
          go_ret
          exact HF2.out
end Go.Proofs.YtgdnedhcbjonkaaGreatDoor

/- Boards as data: links of devices, grades of rules; no program in sight. -/
namespace Go.Proofs.YtgdnedhcbjonkaaGreatDoor
open Go.RowKit

def bdT : Nat → ByteArray
  | 0 => ⟨#[100, 97]⟩
  | 1 => ⟨#[100, 98]⟩
  | 2 => ⟨#[100, 103]⟩
  | 3 => ⟨#[100, 99]⟩
  | _ => ⟨#[100, 104]⟩
theorem bd_ald (d : Nat) (h : d < 3) : aldT d = bdT d := by
  have : d = 0 ∨ d = 1 ∨ d = 2 := by omega
  rcases this with h | h | h <;> subst h <;> rfl
theorem bd_le (d : Nat) : (bdT d).size ≤ maxLen := by
  match d with
  | 0 => decide
  | 1 => decide
  | 2 => decide
  | 3 => decide
  | n + 4 => show (⟨#[100, 104]⟩ : ByteArray).size ≤ maxLen; decide
theorem bd_inj (a b : Nat) (ha : a < 5) (hb : b < 5) : bdT a = bdT b ↔ a = b := by
  have h1 : a = 0 ∨ a = 1 ∨ a = 2 ∨ a = 3 ∨ a = 4 := by omega
  have h2 : b = 0 ∨ b = 1 ∨ b = 2 ∨ b = 3 ∨ b = 4 := by omega
  rcases h1 with h | h | h | h | h <;> subst h <;> rcases h2 with h | h | h | h | h <;> subst h <;> simp [bdT]
structure Lk where
  d : Nat
  p : Nat
instance : Inhabited Lk := ⟨⟨0, 0⟩⟩
def lkC (x : Lk) : List Value := [.string (bdT x.d), .string (bdT x.p)]
theorem lkC_len (x : Lk) : (lkC x).length = 2 := rfl
theorem lkC_one (x : Lk) : ∀ u ∈ lkC x, u.oneCell' = true := by
  intro u hu; simp [lkC] at hu; rcases hu with rfl | rfl <;> rfl
structure Gr where
  r : Nat
  lv : Int
  ca : Bool
instance : Inhabited Gr := ⟨⟨0, 0, false⟩⟩
def grC (x : Gr) : List Value := [.string (alrT x.r), .int .i64 x.lv, .bool x.ca]
theorem grC_len (x : Gr) : (grC x).length = 3 := rfl
theorem grC_one (x : Gr) : ∀ u ∈ grC x, u.oneCell' = true := by
  intro u hu; simp [grC] at hu; rcases hu with rfl | rfl | rfl <;> rfl
/-- The devices in the order of their names. -/
def rkD : Nat → Nat
  | 0 => 0
  | 1 => 1
  | 3 => 2
  | _ => 3
structure LkR (x : Lk) : Prop where
  d : x.d < 4
  p : x.p = 2 ∨ x.p = 4
  g : x.d = 2 → x.p = 4
structure LksOk (L : List Lk) : Prop where
  each : ∀ x ∈ L, LkR x
  ord : L.Pairwise (fun a b => rkD a.d < rkD b.d)
structure GrsOk (G : List Gr) : Prop where
  each : ∀ x ∈ G, x.r < 2 ∧ 1 ≤ x.lv ∧ x.lv ≤ 9
  ord : G.Pairwise (fun a b => a.r < b.r)
theorem LksOk.nil : LksOk [] := ⟨by simp, List.Pairwise.nil⟩
theorem GrsOk.nil : GrsOk [] := ⟨by simp, List.Pairwise.nil⟩
theorem LksOk.snoc {L : List Lk} {x : Lk} (h : LksOk L) (hx : LkR x) (hl : ∀ y ∈ L, rkD y.d < rkD x.d) : LksOk (L ++ [x]) := by
  refine ⟨fun y hy => ?_, List.pairwise_append.2 ⟨h.ord, List.pairwise_singleton _ _, fun a ha b hb => ?_⟩⟩
  · rcases List.mem_append.1 hy with hy | hy
    · exact h.each y hy
    · rw [List.mem_singleton] at hy; rw [hy]; exact hx
  · rw [List.mem_singleton] at hb; rw [hb]; exact hl a ha
theorem GrsOk.snoc {L : List Gr} {x : Gr} (h : GrsOk L) (hx : x.r < 2 ∧ 1 ≤ x.lv ∧ x.lv ≤ 9) (hl : ∀ y ∈ L, y.r < x.r) : GrsOk (L ++ [x]) := by
  refine ⟨fun y hy => ?_, List.pairwise_append.2 ⟨h.ord, List.pairwise_singleton _ _, fun a ha b hb => ?_⟩⟩
  · rcases List.mem_append.1 hy with hy | hy
    · exact h.each y hy
    · rw [List.mem_singleton] at hy; rw [hy]; exact hx
  · rw [List.mem_singleton] at hb; rw [hb]; exact hl a ha
/-- On which one a device depends. -/
def prD (L : List Lk) (d : Nat) : Option Nat := (L.find? fun x => x.d == d).map (·.p)
theorem prD_some {L : List Lk} (h : LksOk L) {d p : Nat} (hp : prD L d = some p) : d < 4 ∧ (p = 2 ∨ p = 4) ∧ (d = 2 → p = 4) ∧ L ≠ [] := by
  unfold prD at hp
  cases hf : L.find? (fun x => x.d == d) with
  | none => rw [hf] at hp; cases hp
  | some x =>
    rw [hf] at hp
    have hx := List.mem_of_find?_eq_some hf
    have hd : x.d = d := by simpa using List.find?_some hf
    have hr := h.each x hx
    have hpp : x.p = p := by simpa using hp
    refine ⟨by rw [← hd]; exact hr.d, by rw [← hpp]; exact hr.p, fun e => by rw [← hpp]; exact hr.g (hd.trans e), fun e => by rw [e] at hx; cases hx⟩
theorem prD_four {L : List Lk} (h : LksOk L) : prD L 4 = none := by
  cases hp : prD L 4 with
  | none => rfl
  | some p => have := (prD_some h hp).1; omega
end Go.Proofs.YtgdnedhcbjonkaaGreatDoor

/- Stages of a region that changes one record of a row that is owned, with numbers of the stream. -/
namespace Go.Proofs.YtgdnedhcbjonkaaGreatDoor
open Go.RowKit

structure KG {α : Type} (C : α → List Value) (q : Nat) (ty : TypeId) (W : World) (p kk B g c n i : Nat) (xs : LiA) (m : List α) (X : Nat → α) (od : Nat → Nat) (s : Nat) (w : World) : Prop where
  own : w.ownsRow B ty q (.slice (some ⟨g, 0, none⟩) n c) n (recs C (m.set i (X s)))
  strm : Strm w p xs (kk + od s)
  gr : GrF W w (fun b => b = p ∨ b = g)
section
variable {α : Type} {C : α → List Value} {q : Nat} {ty : TypeId} {W w w' : World} {p kk B g c n i : Nat} {xs : LiA} {m : List α} {X : Nat → α} {od : Nat → Nat} {s : Nat}
theorem KG.first (x : α) (ho : w.ownsRow B ty q (.slice (some ⟨g, 0, none⟩) n c) n (recs C m)) (hx : m[i]? = some x) (h0 : X 0 = x) (hs : Strm w p xs kk) (hd : od 0 = 0) : KG C q ty w p kk B g c n i xs m X od 0 w.drew := by
  have e : m.set i (X 0) = m := by
    apply List.ext_getElem?
    intro k
    by_cases hk : i = k
    · subst hk
      rw [List.getElem?_set_self (List.getElem?_eq_some_iff.1 hx).1, h0, hx]
    · rw [List.getElem?_set_ne hk]
  refine ⟨by rw [e]; exact ho, by rw [hd]; exact hs, ⟨rfl, rfl, rfl, Nat.le_refl _, fun _ _ _ => rfl⟩⟩
theorem KG.alloc (h : KG C q ty W p kk B g c n i xs m X od s w) (o : Obj) : KG C q ty W p kk B g c n i xs m X od s (w.alloc o) :=
  ⟨own_belowP h.own ((Below.refl _ _).alloc (Nat.le_refl _) _), h.strm.alloc o, h.gr.trans ⟨rfl, rfl, rfl, by simp, fun b hb _ => Below.heap_alloc _ _ _ hb⟩⟩
theorem KG.cells (hf : ∀ x, (C x).length = q) (h : KG C q ty W p kk B g c n i xs m X od s w) (hi : i < m.length) (j : Nat) (u : Value) (hu : (C (X s))[j]? = some u) : w.cell? ⟨g, i * q + j, none⟩ = some u := by
  have hc := own_cells0 h.own
  have hg : (m.set i (X s))[i]? = some (X s) := by simp [hi]
  have := rec_cell hf hc i (X s) hg j u hu
  simpa using this
theorem KG.fro (h : KG C q ty W p kk B g c n i xs m X od s w) (j : Nat) : w.frozen? ⟨g, j, none⟩ = false := by
  obtain ⟨cs, hcs⟩ := own_blk h.own
  simp [World.frozen?, hcs]
theorem KG.lt (h : KG C q ty W p kk B g c n i xs m X od s w) : g < w.heap.size := by
  obtain ⟨cs, hcs⟩ := own_blk h.own
  exact (Array.getElem?_eq_some_iff.1 hcs).1
theorem KG.call (h : KG C q ty W p kk B g c n i xs m X od s w) (hg : w.grownBy w' (some p)) (hp : p < B) (hpW : p < W.heap.size) (hst : Strm w' p xs (kk + od (s + 1))) (hX : X (s + 1) = X s) : KG C q ty W p kk B g c n i xs m X od (s + 1) w' ∧ GrN W w w' :=
  ⟨⟨by rw [hX]; exact own_kept h.own hg hp, hst, h.gr.trans (GrF.of_grown hg _ (fun b e => by injection e with e; exact .inl e.symm))⟩, hg.size, fun b hb hlt => hg.block b hlt (by intro e; injection e with e; omega)⟩
theorem KG.store (hf : ∀ x, (C x).length = q) (h : KG C q ty W p kk B g c n i xs m X od s w) (hi : i < m.length) (hgW : g < W.heap.size) (hpg : p < g) (j : Nat) (hj : j < q) (u : Value) (hX : (C (X s)).set j u = C (X (s + 1))) (hP : od (s + 1) = od s) :
    KG C q ty W p kk B g c n i xs m X od (s + 1) (w.setCell ⟨g, i * q + j, none⟩ u) ∧ GrN W w (w.setCell ⟨g, i * q + j, none⟩ u) := by
  have hset : ∀ b, b ≠ g → (w.setCell ⟨g, i * q + j, none⟩ u).heap[b]? = w.heap[b]? := fun b hb => Below.heap_setCell _ _ _ _ hb
  have hsz : (w.setCell ⟨g, i * q + j, none⟩ u).heap.size = w.heap.size := by simp [World.setCell]
  have hst := h.own.stored (i * q + j) u
  rw [recs_cell hf m i j _ _ u hi hj hX] at hst
  refine ⟨⟨hst.1, ?_, h.gr.set (.inr rfl) u⟩, by rw [hsz]; exact Nat.le_refl _, fun b hb _ => hset b (by omega)⟩
  rw [hP]
  exact h.strm.keep fun b hb => hset b (by omega)
end
end Go.Proofs.YtgdnedhcbjonkaaGreatDoor

/- As Qst, with one operation more whose value isn't known ahead (append): the stages behind it know it. No program in sight. -/
namespace Go.Proofs.YtgdnedhcbjonkaaGreatDoor
open Go.RowKit

/-- append to a row of the call's own, as it runs. -/
theorem app_run {P : Program} {oa : Oper} {a : Act} {w : World} (s x : Operand) (t : TypeId) (hop : oa.op = Op.call { callee := Callee.builtin Builtin.append, args := #[s, x], argTypes := #[t, t] })
    (base : Nat) (e : TypeId) (i : TypeInfo) (z : Value) (size bytes : Nat) (h1 : P.underlying t = some (.slice e)) (h2 : P.info? e = some i) (h3 : i.zero = some z) (h4 : i.size = size) (h5 : i.bytes = bytes) (h6 : z.cells.size = size) (h7 : 0 < size)
    (v : Value) (n : Nat) (xs : List Value) (hs : a.eval s = v) (hown : w.ownsRow base e size v n xs)
    (ad : Addr) (m c : Nat) (news : List Value) (hx : a.eval x = .slice (some ad) m c) (hn : news.length = m * size) (hc : ∀ j u, news[j]? = some u → w.cell? (ad.add j) = some u) (h1c : ∀ u ∈ news, u.oneCell' = true)
    (b1 : n + m ≤ maxLen) (b2 : (n + m) * bytes ≤ 140737488355328) (hb : base ≤ w.heap.size) :
    ∃ v' w', (execOp a.eval oa).run P w = .ok (.value v') w' ∧ w'.ownsRow base e size v' (n + m) (xs ++ news) ∧ w.grownBy w' v.ownBlock ∧ Moved w v v' := by
  obtain ⟨v', w', hrun, r1, r2, r3⟩ := run_append_own2 (P := P) w base t oa.type e i z size bytes h1 h2 h3 h4 h5 h6 h7 v n xs hown ad m c news hn hc h1c b1 b2 hb
  exact ⟨v', w', by simp [execOp, hop, resolve, invoke, builtin, hs, hx, hrun, Result.andThen], r1, r2, r3⟩
/-- The same, for the arm of qRegionSa. -/
theorem app_st {P : Program} {oa : Oper} {a : Act} {w : World} {Q : Value → World → Prop} (s x : Operand) (t : TypeId) (hop : oa.op = Op.call { callee := Callee.builtin Builtin.append, args := #[s, x], argTypes := #[t, t] })
    (base : Nat) (e : TypeId) (i : TypeInfo) (z : Value) (size bytes : Nat) (h1 : P.underlying t = some (.slice e)) (h2 : P.info? e = some i) (h3 : i.zero = some z) (h4 : i.size = size) (h5 : i.bytes = bytes) (h6 : z.cells.size = size) (h7 : 0 < size)
    (v : Value) (n : Nat) (xs : List Value) (hs : a.eval s = v) (hown : w.ownsRow base e size v n xs)
    (ad : Addr) (m c : Nat) (news : List Value) (hx : a.eval x = .slice (some ad) m c) (hn : news.length = m * size) (hc : ∀ j u, news[j]? = some u → w.cell? (ad.add j) = some u) (h1c : ∀ u ∈ news, u.oneCell' = true)
    (b1 : n + m ≤ maxLen) (b2 : (n + m) * bytes ≤ 140737488355328) (hb : base ≤ w.heap.size)
    (hQ : ∀ v' w', w'.ownsRow base e size v' (n + m) (xs ++ news) → w.grownBy w' v.ownBlock → Moved w v v' → Q v' w') :
    ∃ v' w', (execOp a.eval oa).run P w = .ok (.value v') w' ∧ Q v' w' := by
  obtain ⟨v', w', h, r1, r2, r3⟩ := app_run s x t hop base e i z size bytes h1 h2 h3 h4 h5 h6 h7 v n xs hs hown ad m c news hx hn hc h1c b1 b2 hb
  exact ⟨v', w', h, hQ v' w' r1 r2 r3⟩
def AllSk (P : Program) (W : World) (K : Nat → World → Prop) (A : Act) (l : List Oper) (ms0 : List Laid) (ka : Nat) : Nat → List Oper → List Value → List Laid → List Nat → List Nat → Prop
  | k, o :: os, v :: vs, m :: ms, c :: cs, b :: bs => (k ≠ ka → OneSt P W K A l ms0 o v m c b) ∧ AllSk P W K A l ms0 ka (k + 1) os vs ms cs bs
  | _, _, _, _, _, _ => True
theorem AllSk.get {P : Program} {W : World} {K : Nat → World → Prop} {A : Act} {l : List Oper} {ms0 : List Laid} {ka : Nat} : ∀ {os : List Oper} {vs : List Value} {ms : List Laid} {cs bs : List Nat} {i k : Nat} {o : Oper} {v : Value} {m : Laid} {c b : Nat}, AllSk P W K A l ms0 ka i os vs ms cs bs → os[k]? = some o → vs[k]? = some v → ms[k]? = some m → cs[k]? = some c → bs[k]? = some b → i + k ≠ ka → OneSt P W K A l ms0 o v m c b
  | o :: os, v :: vs, m :: ms, c :: cs, b :: bs, i, 0, _, _, _, _, _, h, h1, h2, h3, h4, h5, h6 => by cases h1; cases h2; cases h3; cases h4; cases h5; exact h.1 h6
  | o :: os, v :: vs, m :: ms, c :: cs, b :: bs, i, k + 1, _, _, _, _, _, h, h1, h2, h3, h4, h5, h6 => AllSk.get h.2 h1 h2 h3 h4 h5 (by omega)
  | [], _, _, _, _, _, _, _, _, _, _, _, _, h1, _, _, _, _, _ => by simp at h1
  | _ :: _, [], _, _, _, _, _, _, _, _, _, _, _, _, h2, _, _, _, _ => by simp at h2
  | _ :: _, _ :: _, [], _, _, _, _, _, _, _, _, _, _, _, _, h3, _, _, _ => by simp at h3
  | _ :: _, _ :: _, _ :: _, [], _, _, _, _, _, _, _, _, _, _, _, _, h4, _, _ => by simp at h4
  | _ :: _, _ :: _, _ :: _, _ :: _, [], _, _, _, _, _, _, _, _, _, _, _, _, h5, _ => by simp at h5
section
variable {P : Program} {W : World} {K : Value → Nat → World → Prop} {ops : Array Oper} {vs : List Value} {ms : List Laid} {cs bs : List Nat} {cm : Nat} {A : Value → Act}
theorem region_sa {ka ca ta : Nat} {oa : Oper} {R : Exit → Act → World → Prop} (hB : stB ops ms cs bs cm = true) (hq : ∀ u, AllSk P W (K u) (A u) ops.toList ms ka 0 ops.toList vs ms cs bs) (hka : ops[ka]? = some oa) (hda : oa.dst = some ta) (hma : ms[ka]? = some none) (hca : cs[ka]? = some (ca + 1))
    (hap : ∀ u G w, K u ca w → LkOk W w oa ms G → ∃ v w', (execOp (putH G (A u) ops.toList ms 0).eval oa).run P w = .ok (.value v) w' ∧ K v (ca + 1) w' ∧ GrN W w w') (hvs : vs.length = ops.size) (hms : ms.length = ops.size)
    (hKa : ∀ u s w o, K u s w → K u s (w.alloc o)) (hA : ∀ (u : Value) (k : Nat) (o : Oper) (v : Value) (t : Tmp), ops[k]? = some o → vs[k]? = some v → o.dst = some t → t < (A u).tmps.size ∧ (ms[k]? = some none → k ≠ ka → (A u).tmps[t]? = some v))
    (hAa : ∀ u, (A u).tmps[ta]? = some u) (hAo : ∀ u v q, q ≠ ta → (A u).tmps[q]? = (A v).tmps[q]?) (hAs : ∀ u v, (A u).tmps.size = (A v).tmps.size ∧ (A u).defers = (A v).defers)
    (hend : ∀ u a w G, K u cm w → W.heap.size ≤ w.heap.size → (∀ k ob, ms[k]? = some (some ob) → W.heap.size ≤ G k ∧ w.heap[G k]? = some ob.1) → a = putH G (A u) ops.toList ms 0 → R .normal a w) :
    ∀ (f : Nat) (d : Array Bool) (a : Act) (w : World) (G : Nat → Nat) (s : Nat) (u : Value), SInv W (K u) ops ms cs cm (A u) G d a w s → cntU d ops.size = f → wpAny P .any ops R f d a w := by
  unfold stB at hB
  simp only [Bool.and_eq_true] at hB
  obtain ⟨⟨hsel, hops⟩, hcm⟩ := hB
  have hok : ∀ i, i < ops.size → ∃ o m c b, ops[i]? = some o ∧ ms[i]? = some m ∧ cs[i]? = some c ∧ bs[i]? = some b ∧ OpSt ops ms cs bs cm i o m c b := fun i hi => opSt_spec (List.all_eq_true.1 hops i (List.mem_range.2 hi))
  -- what a frame holds where an operation looks
  have hfr : ∀ (z : Value) (G : Nat → Nat) (d : Array Bool) (a : Act) (w : World) (s : Nat), SInv W (K z) ops ms cs cm (A z) G d a w s → ∀ t, (∀ (k : Nat) (o : Oper), ops[k]? = some o → o.dst = some t → d.getD k false = true) → a.tmps[t]? = (putH G (A z) ops.toList ms 0).tmps[t]? := by
    intro z G d a w s inv t ht
    by_cases hx : ∃ (j : Nat) (o : Oper) (ob : Obj × (Nat → Value)), ops.toList[j]? = some o ∧ ms[j]? = some (some ob) ∧ o.dst = some t
    · obtain ⟨j, o, ob, hj, hmj, hot⟩ := hx
      have hj' : ops[j]? = some o := by simpa using hj
      rw [(inv.al j o t ob hj' hot hmj (ht j o hj' hot)).1]
      have hjn : j < ops.size := (Array.getElem?_eq_some_iff.1 hj').1
      obtain ⟨o', m', c', b', ho', _, _, _, hO⟩ := hok j hjn
      obtain rfl : o' = o := Option.some.inj (ho'.symm.trans hj')
      obtain ⟨v, hv⟩ : ∃ v, vs[j]? = some v := ⟨_, List.getElem?_eq_getElem (by omega)⟩
      have := putH_at G ops.toList ms (A z) 0 j o' ob t hj hmj hot (hA z j o' v t hj' hv hot).1 (fun i p hp hne e => hne (hO.apart i p t (by simpa using hp) e hot))
      rw [this, Nat.zero_add]
    · rw [putH_get G ops.toList ms (A z) 0 t (fun j o ob hj hmj hot => hx ⟨j, o, ob, hj, hmj, hot⟩)]
      refine inv.slot t (fun k o hk hot => ⟨ht k o hk hot, ?_⟩)
      have hkn : k < ops.size := (Array.getElem?_eq_some_iff.1 hk).1
      obtain ⟨o', m', c', b', ho', hm', _⟩ := hok k hkn
      cases m' with
      | none => exact hm'
      | some ob => exact absurd ⟨k, o, ob, by simpa using hk, hm', hot⟩ hx
  intro f
  induction f with
  | zero =>
    intro d a w G s z inv hcn
    have hall := cntU_zero hcn
    refine ⟨?_, ?_⟩
    · refine List.eq_nil_iff_forall_not_mem.2 (fun i hi => ?_)
      obtain ⟨h1, o, ho, _⟩ := mem_ready.1 hi
      have hi' : i < ops.size := (Array.getElem?_eq_some_iff.1 ho).1
      have h2 := hall i hi'
      rw [getD_both h1] at h2
      cases h2
    · refine hend z a w G ?_ inv.hsize ?_ ?_
      · have hs : s = cm := by
          have hle := inv.st.2.1
          simp only [Bool.or_eq_true, beq_iff_eq] at hcm
          rcases hcm with h | h
          · omega
          · obtain ⟨j, hj, hj2⟩ := List.any_eq_true.1 h
            have hjn := List.mem_range.1 hj
            rcases Nat.eq_zero_or_pos cm with h0 | h0
            · omega
            · have := (inv.st.2.2 j cm hjn (by simpa using hj2) h0).1 (hall j hjn)
              omega
        exact hs ▸ inv.st.1
      · intro k ob hk
        rcases Nat.lt_or_ge k ops.size with hkn | hkn
        · obtain ⟨o, m, c, b, ho, hm, _, _, hO⟩ := hok k hkn
          obtain ⟨t, ht⟩ := hO.dst (by rw [hk] at hm; rw [← Option.some.inj hm]; simp)
          exact (inv.al k o t ob ho ht hk (hall k hkn)).2
        · have := (List.getElem?_eq_some_iff.1 hk).1
          omega
      · have hgs := putH_size G ops.toList ms (A z) 0
        refine act_ext (inv.defers.trans hgs.2.symm) (inv.size.trans hgs.1.symm) (fun t => ?_)
        exact hfr z G d a w s inv t (fun k o hk _ => hall k (Array.getElem?_eq_some_iff.1 hk).1)
  | succ f ih =>
    intro d a w G s z inv hcn
    obtain ⟨k0, hk0, hk1, hk2⟩ := cntU_some (d := d) (n := ops.size) (by omega)
    have hr0 : k0 ∈ Region.ready .any ops d := by
      obtain ⟨o, m, c, b, ho, _, _, _, hO⟩ := hok k0 hk0
      exact mem_ready.2 ⟨getD_in (by rw [inv.dsize]; omega) hk1, o, ho, fun e he hb => hk2 _ (hO.back e he hb)⟩
    refine ⟨fun h => (by rw [h] at hr0; cases hr0), fun i hi => ?_⟩
    obtain ⟨hiu, oi, hoi, hiall⟩ := mem_ready.1 hi
    have hin : i < ops.size := (Array.getElem?_eq_some_iff.1 hoi).1
    obtain ⟨o, m, c, b, ho, hm, hc, hb, hO⟩ := hok i hin
    obtain rfl : o = oi := Option.some.inj (ho.symm.trans hoi)
    have hid : d.getD i false = false := getD_both hiu
    have hisz : i < d.size := by rw [inv.dsize]; omega
    obtain ⟨v, hv⟩ : ∃ v, vs[i]? = some v := ⟨_, List.getElem?_eq_getElem (by omega)⟩
    have hLk : LkOk W w o ms G := (by
      intro k ob f hk he
      obtain ⟨e, he1, he2, he3⟩ := hasE_spec he
      have hkn : k < ops.size := by have := hO.back e he1 he2; omega
      obtain ⟨p, m', c', b', hp, hm', _, _, hP⟩ := hok k hkn
      obtain ⟨t, ht⟩ := hP.dst (by rw [hk] at hm'; rw [← Option.some.inj hm']; simp)
      exact (inv.al k p t (ob, f) hp ht hk (he3 ▸ hiall e he1 he2)).2)
    have hQ := fun hne => (hq z).get (k := i) (by simpa using ho) hv hm hc hb (by simpa using hne) G s w inv.st.1 hLk
    have hexec : execOp a.eval o = execOp (putH G (A z) ops.toList ms 0).eval o := by
      refine execOp_congr o (fun cs b => Region.noSelect_spec hsel i o cs b ho) (fun x hx => eval_agree (fun u hu => hfr z G d a w s inv u (fun k p hp hpu => ?_)))
      have hlook : u ∈ o.looksAt ops := by
        subst hu
        exact List.mem_append_left _ (List.mem_filterMap.2 ⟨.tmp u, by simpa using hx, rfl⟩)
      obtain ⟨e, he, hbd, hon⟩ := hasE_spec (hO.looks k p u hp hpu hlook)
      exact hon ▸ hiall e he hbd
    have hcnt : cntU (d.setIfInBounds i true) ops.size = f := by
      obtain ⟨h1, h2⟩ := cntU_set hisz hid (n := ops.size)
      rw [h1, if_pos hin]; omega
    have hdset : ∀ k, (d.setIfInBounds i true).getD k false = true → k = i ∨ d.getD k false = true := fun k hk => by
      by_cases hki : i = k
      · exact .inl hki.symm
      · rw [getD_set_ne false hki] at hk; exact .inr hk
    have hdmono : ∀ k, d.getD k false = true → (d.setIfInBounds i true).getD k false = true := fun k hk => by
      by_cases hki : i = k
      · subst hki; rw [hid] at hk; cases hk
      · rw [getD_set_ne false hki]; exact hk
    have hdsame : (d.setIfInBounds i true).getD i false = true := by simp [hisz]
    have hput : ∀ (u : Value) (q t : Tmp), o.dst = some t → t < (A z).tmps.size → (a.put o.dst u).tmps[q]? = if q = t then some u else a.tmps[q]? := by
      intro u q t hot htA
      rw [hot]
      unfold Act.put
      simp only
      by_cases hst : q = t
      · subst hst
        rw [if_pos rfl]
        simp [inv.size, htA]
      · rw [if_neg hst, Array.getElem?_setIfInBounds_ne (fun e => hst e.symm)]
    have hnew : ∀ (z2 u : Value) (w' : World) (G' : Nat → Nat) (s' : Nat), GrN W w w' → K z2 s' w' → s' ≤ cm → (∀ j c', j < ops.size → cs[j]? = some c' → 0 < c' → ((d.setIfInBounds i true).getD j false = true ↔ c' ≤ s')) → (m = none → ∀ t, o.dst = some t → (A z2).tmps[t]? = some u) → (∀ q, o.dst ≠ some q → (A z2).tmps[q]? = (A z).tmps[q]?) →
        (∀ ob, m = some ob → u = ob.2 w.heap.size ∧ w'.heap[w.heap.size]? = some ob.1 ∧ G' i = w.heap.size) → (∀ k, k ≠ i → G' k = G k) →
        SInv W (K z2) ops ms cs cm (A z2) G' (d.setIfInBounds i true) (a.put o.dst u) w' s' := by
      intro z2 u w' G' s' hg hK hscm hst hu hoth hal hGk
      refine ⟨by rw [Array.size_setIfInBounds]; exact inv.dsize, ?_, ⟨hK, hscm, hst⟩, by rw [(put_size _ _ _).2]; exact inv.defers.trans (hAs z z2).2, by rw [(put_size _ _ _).1]; exact inv.size.trans (hAs z z2).1, Nat.le_trans inv.hsize hg.1, ?_, ?_⟩
      · intro j oj hj hdj e he hbd
        rcases hdset j hdj with e1 | e1
        · subst e1
          obtain rfl : oj = o := Option.some.inj (hj.symm.trans ho)
          exact hdmono _ (hiall e he hbd)
        · exact hdmono _ (inv.closed j oj hj e1 e he hbd)
      · intro q hs'
        by_cases hot : ∃ t, o.dst = some t
        · obtain ⟨t, hot⟩ := hot
          obtain ⟨htA, _⟩ := hA z i o v t ho hv hot
          rw [hput u q t hot htA]
          by_cases hqt : q = t
          · rw [if_pos hqt]
            obtain ⟨_, g2⟩ := hs' i o ho (by rw [hqt]; exact hot)
            have hmn : m = none := by rw [hm] at g2; exact Option.some.inj g2
            rw [hqt, hu hmn t hot]
          · rw [if_neg hqt, hoth q (fun e => hqt (Option.some.inj (hot.symm.trans e)).symm)]
            refine inv.slot q (fun k p hp hps => ?_)
            obtain ⟨g1, g2⟩ := hs' k p hp hps
            rcases hdset k g1 with e | e
            · exfalso
              subst e
              have : p = o := Option.some.inj (hp.symm.trans ho)
              rw [this, hot] at hps
              exact hqt (Option.some.inj hps).symm
            · exact ⟨e, g2⟩
        · have hdn : o.dst = none := by
            cases h : o.dst with
            | none => rfl
            | some t => exact absurd ⟨t, h⟩ hot
          rw [show (a.put o.dst u).tmps = a.tmps by rw [hdn]; rfl, hoth q (by rw [hdn]; simp)]
          refine inv.slot q (fun k p hp hps => ?_)
          obtain ⟨g1, g2⟩ := hs' k p hp hps
          rcases hdset k g1 with e | e
          · exfalso
            subst e
            have : p = o := Option.some.inj (hp.symm.trans ho)
            rw [this, hdn] at hps
            cases hps
          · exact ⟨e, g2⟩
      · intro k p t ob hp hps hmk hdk
        by_cases hki : k = i
        · subst hki
          have hpo : p = o := Option.some.inj (hp.symm.trans ho)
          rw [hm] at hmk
          obtain ⟨g1, g2, g3⟩ := hal ob (Option.some.inj hmk)
          rw [hpo] at hps
          rw [hput u t t hps (hA z k o v t ho hv hps).1, if_pos rfl, g1, g3]
          exact ⟨rfl, inv.hsize, g2⟩
        · have hdk' : d.getD k false = true := (hdset k hdk).resolve_left hki
          obtain ⟨g1, g2, g3⟩ := inv.al k p t ob hp hps hmk hdk'
          have hlt := (Array.getElem?_eq_some_iff.1 g3).1
          have hne : (a.put o.dst u).tmps[t]? = a.tmps[t]? := put_get _ _ _ _ (fun e => hki (hO.apart k p t hp hps e))
          rw [hne, hGk k hki]
          exact ⟨g1, g2, (hg.2 _ g2 hlt).trans g3⟩
    -- the stage behind it
    have hstay : c = 0 → ∀ j c', j < ops.size → cs[j]? = some c' → 0 < c' → ((d.setIfInBounds i true).getD j false = true ↔ c' ≤ s) := by
      intro hc0 j c' hj hcj hpos
      have hji : i ≠ j := fun e => by subst e; rw [hc] at hcj; have := Option.some.inj hcj; omega
      rw [getD_set_ne false hji]
      exact inv.st.2.2 j c' hj hcj hpos
    have hsb : c = 0 → s ≤ b := by
      intro hc0
      rcases Nat.lt_or_ge b cm with hbc | hbc
      · obtain ⟨j, q, hq', hcj, hE⟩ := hO.low hc0 hbc
        rcases Nat.lt_or_ge b s with hlt | hge
        · exfalso
          have hj : j < ops.size := (Array.getElem?_eq_some_iff.1 hq').1
          have hdone := (inv.st.2.2 j (b + 1) hj hcj (by omega)).2 (by omega)
          obtain ⟨e, he1, he2, he3⟩ := hasE_spec hE
          have := inv.closed j q hq' hdone e he1 he2
          rw [he3, hid] at this
          cases this
        · exact hge
      · have := inv.st.2.1
        omega
    unfold wpOp
    rw [ho]
    simp only
    have hw : Region.wanted o (yielded ops a.tmps) = true := by unfold Region.wanted; rw [hO.guard]
    rw [if_pos hw]
    refine .inl ?_
    unfold Oper.wp
    rw [hexec]
    by_cases hc0 : c = 0
    · cases m with
      | some ob =>
        have hik : i ≠ ka := fun e => by subst e; rw [hm] at hma; cases hma
        rw [hQ hik hc0 (hsb hc0)]
        refine ih _ _ _ (fun k => if k = i then w.heap.size else G k) s z (hnew z _ _ _ s (GrN.alloc _ _ _) (hKa _ _ _ _ inv.st.1) inv.st.2.1 (hstay hc0) (fun h => by cases h) (fun _ _ => rfl) (fun ob' h => ?_) (fun k hk => if_neg hk)) hcnt
        cases h
        exact ⟨rfl, heap_new w ob.1, if_pos rfl⟩
      | none =>
        have hik : i ≠ ka := fun e => by subst e; rw [hc] at hca; have := Option.some.inj hca; omega
        have hQ := hQ hik
        simp only [hc0, Nat.lt_irrefl, if_false] at hQ
        have hvz : (none : Laid) = none → ∀ t, o.dst = some t → (A z).tmps[t]? = some v := fun _ t ht => (hA z i o v t ho hv ht).2 hm hik
        rcases hQ (hsb hc0) with ⟨w', h1, h2, h3⟩ | ⟨fn, args, h1, h2⟩ | ⟨w', h1, hdn, h2, h3⟩
        · rw [h1]
          exact ih _ _ _ G s z (hnew z v w' G s h3 h2 inv.st.2.1 (hstay hc0) hvz (fun _ _ => rfl) (fun ob h => by cases h) (fun _ _ => rfl)) hcnt
        · rw [h1]
          refine h2.mono (fun e w' h => ?_)
          obtain ⟨rfl, hk, hg⟩ := h
          exact ih _ _ _ G s z (hnew z v w' G s hg hk inv.st.2.1 (hstay hc0) hvz (fun _ _ => rfl) (fun ob h => by cases h) (fun _ _ => rfl)) hcnt
        · rw [h1]
          have ea : a.put o.dst undef = a.put o.dst v := by rw [hdn]; rfl
          exact ih _ _ _ G s z (by rw [ea]; exact hnew z v w' G s h3 h2 inv.st.2.1 (hstay hc0) hvz (fun _ _ => rfl) (fun ob h => by cases h) (fun _ _ => rfl)) hcnt
    · have hcp : 0 < c := by omega
      obtain ⟨hmn, hccm, hpre⟩ := hO.high hcp
      subst hmn
      have hnot : ¬ c ≤ s := fun h => by
        have := (inv.st.2.2 i c hin hc hcp).2 h
        rw [hid] at this; cases this
      have hs1 : s + 1 = c := by
        rcases hpre with h | ⟨j, hj, hcj, hE⟩
        · omega
        · rcases Nat.eq_zero_or_pos (c - 1) with h0 | h0
          · omega
          · obtain ⟨e, he1, he2, he3⟩ := hasE_spec hE
            have := (inv.st.2.2 j (c - 1) hj hcj h0).1 (he3 ▸ hiall e he1 he2)
            omega
      have hgo : ∀ j c', j < ops.size → cs[j]? = some c' → 0 < c' → ((d.setIfInBounds i true).getD j false = true ↔ c' ≤ c) := by
        intro j c' hj hcj hpos
        by_cases hji : i = j
        · subst hji
          rw [hc] at hcj
          have := Option.some.inj hcj
          exact ⟨fun _ => by omega, fun _ => hdsame⟩
        · rw [getD_set_ne false hji, inv.st.2.2 j c' hj hcj hpos]
          have hne : c' ≠ c := fun e => hji (hO.alone hcp j hj (e ▸ hcj)).symm
          omega
      by_cases hik : i = ka
      · subst hik
        obtain rfl : o = oa := Option.some.inj (ho.symm.trans hka)
        rw [hca] at hc
        have hcc : ca + 1 = c := Option.some.inj hc
        obtain rfl : s = ca := by omega
        obtain ⟨v', w', h1, h2, h3⟩ := hap z G w inv.st.1 hLk
        rw [h1]
        subst hcc
        exact ih _ _ _ G (s + 1) v' (hnew v' v' w' G (s + 1) h3 h2 hccm hgo (fun _ t ht => by
          obtain rfl : ta = t := Option.some.inj (hda.symm.trans ht)
          exact hAa v') (fun q hq => hAo v' z q (fun e => hq (by rw [e]; exact hda))) (fun ob h => by cases h) (fun _ _ => rfl)) hcnt
      have hQ := hQ hik
      have hvz : (none : Laid) = none → ∀ t, o.dst = some t → (A z).tmps[t]? = some v := fun _ t ht => (hA z i o v t ho hv ht).2 hm hik
      simp only [hcp, if_true] at hQ
      rcases hQ hs1 with ⟨w', h1, h2, h3⟩ | ⟨fn, args, h1, h2⟩ | ⟨w', h1, hdn, h2, h3⟩
      · rw [h1]
        exact ih _ _ _ G c z (hnew z v w' G c h3 h2 hccm hgo hvz (fun _ _ => rfl) (fun ob h => by cases h) (fun _ _ => rfl)) hcnt
      · rw [h1]
        refine h2.mono (fun e w' h => ?_)
        obtain ⟨rfl, hk, hg⟩ := h
        exact ih _ _ _ G c z (hnew z v w' G c hg hk hccm hgo hvz (fun _ _ => rfl) (fun ob h => by cases h) (fun _ _ => rfl)) hcnt
      · rw [h1]
        have ea : a.put o.dst undef = a.put o.dst v := by rw [hdn]; rfl
        exact ih _ _ _ G c z (by rw [ea]; exact hnew z v w' G c h3 h2 hccm hgo hvz (fun _ _ => rfl) (fun ob h => by cases h) (fun _ _ => rfl)) hcnt
/-- A region that draws, each operation looked at once, with an append (the operation ka, stage ca + 1, slot ta). -/
theorem qRegionSa {id : Nat} {R : Exit → Act → World → Prop} {a : Act} {w : World} {l : List Oper} (K : Value → Nat → World → Prop) (ka ca ta : Nat) (oa : Oper) (vs : List Value) (ms : List Laid) (cs bs : List Nat) (cm : Nat) (hm : P.follows .mixedOrders = true) (hB : stB l.toArray ms cs bs cm = true)
    (hvs : vs.length = l.length) (hms : ms.length = l.length) (hsz : l.all (fun o => match o.dst with | some t => decide (t < a.tmps.size) | none => true) = true)
    (hka : l[ka]? = some oa) (hda : oa.dst = some ta) (hma : ms[ka]? = some none) (hca : cs[ka]? = some (ca + 1))
    (hK0 : K undef 0 w.drew) (hKa : ∀ u s w o, K u s w → K u s (w.alloc o))
    (hq : ∀ u, AllSk P w (K u) ((putL a l vs).put (some ta) u) l ms ka 0 l vs ms cs bs)
    (hap : ∀ u G w', K u ca w' → LkOk w w' oa ms G → ∃ v w2, (execOp (putH G ((putL a l vs).put (some ta) u) l ms 0).eval oa).run P w' = .ok (.value v) w2 ∧ K v (ca + 1) w2 ∧ GrN w w' w2)
    (h : ∀ (u : Value) (G : Nat → Nat) w', K u cm w' → w.heap.size ≤ w'.heap.size → (∀ k ob, ms[k]? = some (some ob) → w.heap.size ≤ G k ∧ w'.heap[G k]? = some ob.1) → R .normal (putH G ((putL a l vs).put (some ta) u) l ms 0) w') : (Code.region id l.toArray true).wp P R a w := by
  refine wp_region_any hm ?_
  have hB' := hB
  unfold stB at hB'
  simp only [Bool.and_eq_true] at hB'
  obtain ⟨⟨hsel, hops⟩, hcm⟩ := hB'
  have hok : ∀ i, i < l.toArray.size → ∃ o m c b, l.toArray[i]? = some o ∧ ms[i]? = some m ∧ cs[i]? = some c ∧ bs[i]? = some b ∧ OpSt l.toArray ms cs bs cm i o m c b := fun i hi => opSt_spec (List.all_eq_true.1 hops i (List.mem_range.2 hi))
  have hsize := putL_size l vs a
  have hbd : ∀ (k : Nat) (o : Oper) (t : Tmp), l.toArray[k]? = some o → o.dst = some t → t < a.tmps.size := fun k o t ho ht => by
    have := List.all_eq_true.1 hsz o (List.mem_of_getElem? (i := k) (by simpa using ho))
    rw [ht] at this
    simpa using this
  have hta : ta < a.tmps.size := hbd ka oa ta (by simpa using hka) hda
  have hput : ∀ u q, ((putL a l vs).put (some ta) u).tmps[q]? = if q = ta then some u else (putL a l vs).tmps[q]? := fun u q => by
    unfold Act.put
    simp only
    by_cases hqt : q = ta
    · subst hqt
      rw [if_pos rfl]
      simp [hsize.1, hta]
    · rw [if_neg hqt, Array.getElem?_setIfInBounds_ne (fun e => hqt e.symm)]
  have hps : ∀ u, ((putL a l vs).put (some ta) u).tmps.size = (putL a l vs).tmps.size ∧ ((putL a l vs).put (some ta) u).defers = (putL a l vs).defers := fun u => put_size _ _ _
  have hA : ∀ (u : Value) (k : Nat) (o : Oper) (v : Value) (t : Tmp), l.toArray[k]? = some o → vs[k]? = some v → o.dst = some t → t < ((putL a l vs).put (some ta) u).tmps.size ∧ (ms[k]? = some none → k ≠ ka → ((putL a l vs).put (some ta) u).tmps[t]? = some v) := fun u k o v t ho hv ht => by
    refine ⟨by rw [(hps u).1, hsize.1]; exact hbd k o t ho ht, fun _ hne => ?_⟩
    obtain ⟨o', m', c', b', ho', _, _, _, hO⟩ := hok k (Array.getElem?_eq_some_iff.1 ho).1
    obtain rfl : o' = o := Option.some.inj (ho'.symm.trans ho)
    rw [hput, if_neg (fun e => hne (hO.apart ka oa t (by simpa using hka) (by rw [e]; exact hda) ht).symm)]
    exact putL_at l vs a k o' v t (by simpa using ho) hv ht (hbd k o' t ho ht) (fun j p hp hne e => hne (hO.apart j p t (by simpa using hp) e ht))
  have hmain := region_sa (R := R) (W := w) (K := K) (A := fun u => (putL a l vs).put (some ta) u) (ka := ka) (ca := ca) (ta := ta) (oa := oa) hB (by simpa using hq) (by simpa using hka) hda hma hca (by simpa using hap) (by simpa using hvs) (by simpa using hms) hKa hA (fun u => by rw [hput, if_pos rfl]) (fun u v q hq => by rw [hput, hput, if_neg hq, if_neg hq]) (fun u v => ⟨(hps u).1.trans (hps v).1.symm, (hps u).2.trans (hps v).2.symm⟩) (fun u a' w' G hk hs hG e => by rw [e]; exact h u G w' hk hs hG)
  have inv0 : SInv w (K undef) l.toArray ms cs cm ((putL a l vs).put (some ta) undef) (fun _ => 0) (Array.replicate l.toArray.size false) a { w with drawn := w.drawn + 1 } 0 := by
    refine ⟨by simp, fun j oj _ hj => (by rw [getD_replicate_false] at hj; cases hj), ⟨hK0, Nat.zero_le _, fun i c _ _ hp => ⟨fun hd => (by rw [getD_replicate_false] at hd; cases hd), fun hd => by omega⟩⟩, ((hps undef).2.trans hsize.2).symm, ((hps undef).1.trans hsize.1).symm, Nat.le_refl _, ?_, ?_⟩
    · intro t ht
      rw [hput, if_neg (fun e => by
        have := (ht ka oa (by simpa using hka) (by rw [e]; exact hda)).1
        rw [getD_replicate_false] at this
        cases this)]
      refine (putL_get _ _ a t (fun o ho e => ?_)).symm
      obtain ⟨j, hj⟩ := List.getElem?_of_mem ho
      have := (ht j o (by simpa using hj) e).1
      rw [getD_replicate_false] at this
      cases this
    · intro k o t ob _ _ _ hd
      rw [getD_replicate_false] at hd; cases hd
  have := hmain _ _ a _ _ 0 undef inv0 rfl
  refine wpAny_le ?_ this
  exact cntU_le _ _
end
end Go.Proofs.YtgdnedhcbjonkaaGreatDoor

/- (*Stream).RightBoard by its contract. -/
namespace Go.Proofs.YtgdnedhcbjonkaaGreatDoor
open Go.RowKit

theorem Tryz.infoLk : (Tryz.prog.info? 67).map (fun i => (i.zero, i.size, i.bytes)) = some (some (.agg #[.string ⟨#[]⟩, .string ⟨#[]⟩]), 2, 32) := by kernel_rfl
theorem Tryz.infoGr : (Tryz.prog.info? 70).map (fun i => (i.zero, i.size, i.bytes)) = some (some (.agg #[.string ⟨#[]⟩, .int .i64 0, .bool false]), 3, 32) := by kernel_rfl
/-- A row more in a board that lies by itself: j is 3 (links) or 4 (grades). -/
def bdBk (fm fw fc : Int) (vl vg : Value) : Obj := .cells #[.int .i64 fm, .int .i64 fw, .int .i64 fc, vl, vg] 33 (0, 0)
def bdPut (j : Nat) (vo vb : Value) : Value × Value := if j = 3 then (vb, vo) else (vo, vb)
structure KBm {α : Type} (C : α → List Value) (q : Nat) (ty : TypeId) (j : Nat) (W : World) (p kk bx S0 : Nat) (xs : LiA) (fm fw fc : Int) (vo vb vr : Value) (n : Nat) (G : List α) (w : World) : Prop where
  blk : w.heap[bx]? = some (bdBk fm fw fc (bdPut j vo vb).1 (bdPut j vo vb).2)
  row : w.ownsRow S0 ty q vr n (recs C G)
  strm : Strm w p xs kk
  gr : GrF W w (fun b => b = p ∨ b = bx ∨ S0 ≤ b)
section
variable {α : Type} {C : α → List Value} {q : Nat} {ty : TypeId} {j : Nat} {W w w' : World} {p kk bx S0 : Nat} {xs : LiA} {fm fw fc : Int} {vo vb vr : Value} {n : Nat} {G : List α}
theorem KBm.cell (h : KBm C q ty j W p kk bx S0 xs fm fw fc vo vb vr n G w) (hj : j = 3 ∨ j = 4) : w.cell? ⟨bx, j, none⟩ = some vb := by
  have hb := h.blk
  rcases hj with rfl | rfl
  · exact cell_of_blk (j := 3) hb rfl
  · exact cell_of_blk (j := 4) hb rfl
theorem KBm.lt (h : KBm C q ty j W p kk bx S0 xs fm fw fc vo vb vr n G w) : bx < w.heap.size := (Array.getElem?_eq_some_iff.1 h.blk).1
theorem KBm.fro (h : KBm C q ty j W p kk bx S0 xs fm fw fc vo vb vr n G w) (i : Nat) : w.frozen? ⟨bx, i, none⟩ = false := by
  have hb := h.blk
  unfold bdBk at hb
  simp [World.frozen?, hb]
theorem KBm.alloc (h : KBm C q ty j W p kk bx S0 xs fm fw fc vo vb vr n G w) (o : Obj) : KBm C q ty j W p kk bx S0 xs fm fw fc vo vb vr n G (w.alloc o) :=
  ⟨(Below.heap_alloc _ _ _ h.lt).trans h.blk, own_belowP h.row ((Below.refl _ _).alloc (Nat.le_refl _) _), h.strm.alloc o, h.gr.trans ⟨rfl, rfl, rfl, by simp, fun b hb _ => Below.heap_alloc _ _ _ hb⟩⟩
theorem KBm.call (h : KBm C q ty j W p kk bx S0 xs fm fw fc vo vb vr n G w) (hg : w.grownBy w' (some p)) (hpx : p < bx) (hpS : p < S0) (hpW : p < W.heap.size) {k2 : Nat} (hst : Strm w' p xs k2) : KBm C q ty j W p k2 bx S0 xs fm fw fc vo vb vr n G w' ∧ GrN W w w' :=
  ⟨⟨(hg.block bx h.lt (by intro e; injection e with e; omega)).trans h.blk, own_kept h.row hg hpS, hst, h.gr.trans (GrF.of_grown hg _ (fun b e => by injection e with e; exact .inl e.symm))⟩, hg.size, fun b hb hlt => hg.block b hlt (by intro e; injection e with e; omega)⟩
theorem KBm.app {G' : List α} {u : Value} {m : Nat} (h : KBm C q ty j W p kk bx S0 xs fm fw fc vo vb vr n G w) (ho : w'.ownsRow S0 ty q u m (recs C G')) (hg : w.grownBy w' vr.ownBlock) (hpx : p < bx) (hxS : bx < S0) (hvW : ∀ b, vr.ownBlock = some b → b < W.heap.size) : KBm C q ty j W p kk bx S0 xs fm fw fc vo vb u m G' w' ∧ GrN W w w' := by
  have hlo : ∀ b, vr.ownBlock = some b → S0 ≤ b := fun b hb => (h.row.lt b hb).1
  refine ⟨⟨(hg.block bx h.lt (fun e => by have := hlo bx e.symm; omega)).trans h.blk, ho, h.strm.row hg (fun b hb => by have := hlo b hb; omega), h.gr.trans (GrF.of_grown hg _ (fun b e => .inr (.inr (hlo b e))))⟩, hg.size, fun b hb hlt => hg.block b hlt (fun e => by have := hvW b e.symm; omega)⟩
theorem KBm.store (h : KBm C q ty j W p kk bx S0 xs fm fw fc vo vb vr n G w) (hj : j = 3 ∨ j = 4) (hpx : p < bx) (hxS : bx < S0) (hbxW : bx < W.heap.size) : KBm C q ty j W p kk bx S0 xs fm fw fc vo vr vr n G (w.setCell ⟨bx, j, none⟩ vr) ∧ GrN W w (w.setCell ⟨bx, j, none⟩ vr) := by
  have hset : ∀ b, b ≠ bx → (w.setCell ⟨bx, j, none⟩ vr).heap[b]? = w.heap[b]? := fun b hb => Below.heap_setCell _ _ _ _ hb
  have hsz : (w.setCell ⟨bx, j, none⟩ vr).heap.size = w.heap.size := by simp [World.setCell]
  refine ⟨⟨?_, own_keptB h.row (fun b hb => hset b (by have := (h.row.lt b hb).1; omega)), h.strm.keep fun b hb => hset b (by omega), h.gr.set (.inr (.inl rfl)) vr⟩, by rw [hsz]; exact Nat.le_refl _, fun b hb _ => hset b (by omega)⟩
  have hb := h.blk
  unfold bdBk at hb ⊢
  rw [heap_setCell_blk vr hb]
  rcases hj with rfl | rfl <;> rfl
/-- A row's base goes down, its world goes back. -/
theorem KBm.back {W0 : World} {S1 : Nat} (h : KBm C q ty j W p kk bx S0 xs fm fw fc vo vb vr n G w) (hg : GrF W0 W (fun b => b = p ∨ b = bx ∨ S1 ≤ b)) (hS : S1 ≤ S0) : KBm C q ty j W0 p kk bx S1 xs fm fw fc vo vb vr n G w :=
  ⟨h.blk, own_mono h.row hS, h.strm, hg.trans (h.gr.mono fun b _ hb => by rcases hb with hb | hb | hb; exact .inl hb; exact .inr (.inl hb); exact .inr (.inr (by omega)))⟩
end
def KB {α : Type} (C : α → List Value) (q : Nat) (ty : TypeId) (j nc : Nat) (W : World) (p kk bx S0 : Nat) (xs : LiA) (fm fw fc : Int) (vo v : Value) (n : Nat) (G : List α) (y : α) (u : Value) (s : Nat) (w : World) : Prop :=
  if s ≤ nc then KBm C q ty j W p (kk + s) bx S0 xs fm fw fc vo v v n G w
  else if s = nc + 1 then KBm C q ty j W p (kk + nc) bx S0 xs fm fw fc vo v u (n + 1) (G ++ [y]) w
  else KBm C q ty j W p (kk + nc) bx S0 xs fm fw fc vo u u (n + 1) (G ++ [y]) w
section
variable {α : Type} {C : α → List Value} {q : Nat} {ty : TypeId} {j nc : Nat} {W w : World} {p kk bx S0 : Nat} {xs : LiA} {fm fw fc : Int} {vo v : Value} {n : Nat} {G : List α} {y : α} {u : Value} {s : Nat}
theorem KB.alloc (h : KB C q ty j nc W p kk bx S0 xs fm fw fc vo v n G y u s w) (o : Obj) : KB C q ty j nc W p kk bx S0 xs fm fw fc vo v n G y u s (w.alloc o) := by
  unfold KB at *
  split
  · rename_i h1; rw [if_pos h1] at h; exact h.alloc o
  · rename_i h1
    rw [if_neg h1] at h
    split
    · rename_i h2; rw [if_pos h2] at h; exact h.alloc o
    · rename_i h2; rw [if_neg h2] at h; exact h.alloc o
theorem KB.low (h : KB C q ty j nc W p kk bx S0 xs fm fw fc vo v n G y u s w) (hs : s ≤ nc) : KBm C q ty j W p (kk + s) bx S0 xs fm fw fc vo v v n G w := by
  unfold KB at h
  rwa [if_pos hs] at h
theorem KB.to_low (h : KBm C q ty j W p (kk + s) bx S0 xs fm fw fc vo v v n G w) (hs : s ≤ nc) : KB C q ty j nc W p kk bx S0 xs fm fw fc vo v n G y u s w := by
  unfold KB
  rwa [if_pos hs]
theorem KB.mid (h : KB C q ty j nc W p kk bx S0 xs fm fw fc vo v n G y u (nc + 1) w) : KBm C q ty j W p (kk + nc) bx S0 xs fm fw fc vo v u (n + 1) (G ++ [y]) w := by
  unfold KB at h
  rwa [if_neg (by omega), if_pos rfl] at h
theorem KB.to_mid (h : KBm C q ty j W p (kk + nc) bx S0 xs fm fw fc vo v u (n + 1) (G ++ [y]) w) : KB C q ty j nc W p kk bx S0 xs fm fw fc vo v n G y u (nc + 1) w := by
  unfold KB
  rwa [if_neg (by omega), if_pos rfl]
theorem KB.hi (h : KB C q ty j nc W p kk bx S0 xs fm fw fc vo v n G y u (nc + 2) w) : KBm C q ty j W p (kk + nc) bx S0 xs fm fw fc vo u u (n + 1) (G ++ [y]) w := by
  unfold KB at h
  rwa [if_neg (by omega), if_neg (by omega)] at h
theorem KB.to_hi (h : KBm C q ty j W p (kk + nc) bx S0 xs fm fw fc vo u u (n + 1) (G ++ [y]) w) : KB C q ty j nc W p kk bx S0 xs fm fw fc vo v n G y u (nc + 2) w := by
  unfold KB
  rwa [if_neg (by omega), if_neg (by omega)]
end
def bmPk : List Int := [2, 3, 9]
theorem bmPk_range (j : Nat) (h : j < 3) : 2 ≤ bmPk.getD j 0 ∧ bmPk.getD j 0 ≤ 9 := by
  have : j = 0 ∨ j = 1 ∨ j = 2 := by omega
  rcases this with h | h | h <;> subst h <;> decide
def bwPk : List Int := [10, 30]
theorem bwPk_range (j : Nat) (h : j < 2) : 10 ≤ bwPk.getD j 0 ∧ bwPk.getD j 0 ≤ 30 := by
  have : j = 0 ∨ j = 1 := by omega
  rcases this with h | h <;> subst h <;> decide
def bcPk : List Int := [5, 20]
theorem bcPk_range (j : Nat) (h : j < 2) : 5 ≤ bcPk.getD j 0 ∧ bcPk.getD j 0 ≤ 20 := by
  have : j = 0 ∨ j = 1 := by omega
  rcases this with h | h <;> subst h <;> decide
/-- The devices that a board may link, in the order of their names. -/
def ndD : Nat → Nat
  | 0 => 0
  | 1 => 1
  | _ => 3
theorem par_pick (j : Nat) (h : j < 3) : ∃ pp, pp = [2, 2, 4].getD j 0 ∧ (pp = 2 ∨ pp = 4) ∧ ([2, 2, 4].map bdT).getD j ⟨#[]⟩ = bdT pp := by
  have : j = 0 ∨ j = 1 ∨ j = 2 := by omega
  rcases this with h | h | h <;> subst h
  · exact ⟨2, rfl, .inl rfl, rfl⟩
  · exact ⟨2, rfl, .inl rfl, rfl⟩
  · exact ⟨4, rfl, .inr rfl, rfl⟩
def bdA (xs : LiA) (k : Nat) : Nat → Nat × List Lk
  | 0 => (k, [])
  | j + 1 => if nextV xs (bdA xs k j).1 3 = 0 then ((bdA xs k j).1 + 1, (bdA xs k j).2) else ((bdA xs k j).1 + 1 + 1, (bdA xs k j).2 ++ [⟨ndD j, [2, 2, 4].getD (nextN xs ((bdA xs k j).1 + 1) 3) 0⟩])
theorem bdA_skip {xs : LiA} {k j k' : Nat} {L : List Lk} (h : bdA xs k j = (k', L)) (hb : true = decide (nextV xs k' 3 = 0)) : bdA xs k (j + 1) = (k' + 1, L) := by
  rw [bdA, h, if_pos (by simpa using hb.symm)]
theorem bdA_step {xs : LiA} {k j k' k2 dj pp : Nat} {L : List Lk} (h : bdA xs k j = (k', L)) (hb : false = decide (nextV xs k' 3 = 0)) (hk : k2 = k' + 1) (hd : dj = ndD j) (hp : pp = [2, 2, 4].getD (nextN xs k2 3) 0) : bdA xs k (j + 1) = (k2 + 1, L ++ [⟨dj, pp⟩]) := by
  subst hk
  rw [bdA, h, if_neg (by simpa using hb.symm), hd, hp]
def bdM (xs : LiA) (k : Nat) : List Lk := if nextV xs (bdA xs k 3).1 2 = 0 then (bdA xs k 3).2 ++ [⟨2, 4⟩] else (bdA xs k 3).2
theorem bdM_yes {xs : LiA} {k k' : Nat} {L : List Lk} (h : bdA xs k 3 = (k', L)) (hb : true = decide (nextV xs k' 2 = 0)) : L ++ [⟨2, 4⟩] = bdM xs k := by
  unfold bdM
  rw [h, if_pos (by simpa using hb.symm)]
theorem bdM_no {xs : LiA} {k k' : Nat} {L : List Lk} (h : bdA xs k 3 = (k', L)) (hb : false = decide (nextV xs k' 2 = 0)) : L = bdM xs k := by
  unfold bdM
  rw [h, if_neg (by simpa using hb.symm)]
def bgG (xs : LiA) (k : Nat) : Nat → Nat × List Gr
  | 0 => (k, [])
  | j + 1 => if nextV xs (bgG xs k j).1 3 = 0 then ((bgG xs k j).1 + 1, (bgG xs k j).2) else ((bgG xs k j).1 + 1 + 2, (bgG xs k j).2 ++ [⟨j, 1 + nextV xs ((bgG xs k j).1 + 1) (9 - 1 + 1), !decide (nextV xs ((bgG xs k j).1 + 1 + 1) 3 = 0)⟩])
theorem bgG_skip {xs : LiA} {k j k' : Nat} {G : List Gr} (h : bgG xs k j = (k', G)) (hb : true = decide (nextV xs k' 3 = 0)) : bgG xs k (j + 1) = (k' + 1, G) := by
  rw [bgG, h, if_pos (by simpa using hb.symm)]
theorem bgG_step {xs : LiA} {k j k' k5 : Nat} {lv : Int} {b2 : Bool} {G : List Gr} (h : bgG xs k j = (k', G)) (hb : false = decide (nextV xs k' 3 = 0)) (hk : k5 = k' + 1) (hv : 1 + nextV xs k5 (9 - 1 + 1) = lv ∧ decide (nextV xs (k5 + 1) 3 = 0) = b2) : bgG xs k (j + 1) = (k5 + 2, G ++ [⟨j, lv, !b2⟩]) := by
  subst hk
  rw [bgG, h, if_neg (by simpa using hb.symm), ← hv.1, ← hv.2]
/-- The links and the grades of the board that is made, and how many numbers were taken. -/
def bdF (xs : LiA) (k : Nat) : List Lk × List Gr × Nat := (bdM xs (k + 3), (bgG xs ((bdA xs (k + 3) 3).1 + 1) 2).2, (bgG xs ((bdA xs (k + 3) 3).1 + 1) 2).1)
def BdPost (w : World) (p k : Nat) (xs : LiA) (e : Ending) (w' : World) : Prop :=
  ∃ (fm fw fc : Int) (L : List Lk) (G : List Gr) (LA GA : Option Addr) (lc gc ln gn k' : Nat), e = .returned (.agg #[.int .i64 fm, .int .i64 fw, .int .i64 fc, .slice LA ln lc, .slice GA gn gc]) ∧ FlOk fm fw fc ∧ LksOk L ∧ GrsOk G ∧ L.length = ln ∧ G.length = gn ∧ ln ≤ 4 ∧ gn ≤ 2 ∧
    w'.ownsRow w.heap.size 67 2 (.slice LA ln lc) ln (recs lkC L) ∧ w'.ownsRow w.heap.size 70 3 (.slice GA gn gc) gn (recs grC G) ∧ Strm w' p xs k' ∧ k' ≤ k + 30 ∧ w.grownBy w' (some p)
theorem five_set {V : World} {g p : Nat} {a0 a1 a2 a3 a4 : Value} {t : TypeId} (a b c d e : Value) {w : World} (hV : w.grownBy V (some p)) (hg : w.heap.size ≤ g) (h : V.heap[g]? = some (.cells #[a0, a1, a2, a3, a4] t (0, 0))) :
    w.grownBy (((((V.setCell ⟨g, 0, none⟩ a).setCell ⟨g, 1, none⟩ b).setCell ⟨g, 2, none⟩ c).setCell ⟨g, 3, none⟩ d).setCell ⟨g, 4, none⟩ e) (some p) ∧
      (((((V.setCell ⟨g, 0, none⟩ a).setCell ⟨g, 1, none⟩ b).setCell ⟨g, 2, none⟩ c).setCell ⟨g, 3, none⟩ d).setCell ⟨g, 4, none⟩ e).heap[g]? = some (.cells #[a, b, c, d, e] t (0, 0)) ∧
      ∀ q, q ≠ g → (((((V.setCell ⟨g, 0, none⟩ a).setCell ⟨g, 1, none⟩ b).setCell ⟨g, 2, none⟩ c).setCell ⟨g, 3, none⟩ d).setCell ⟨g, 4, none⟩ e).heap[q]? = V.heap[q]? :=
  ⟨grown_set (q := ⟨g, 4, none⟩) (grown_set (q := ⟨g, 3, none⟩) (grown_set (q := ⟨g, 2, none⟩) (grown_set (q := ⟨g, 1, none⟩) (grown_set (q := ⟨g, 0, none⟩) hV (.inr hg) a) (.inr hg) b) (.inr hg) c) (.inr hg) d) (.inr hg) e,
   heap_setCell_blk e (heap_setCell_blk d (heap_setCell_blk c (heap_setCell_blk b (heap_setCell_blk a h)))),
   fun _ hq => (Below.heap_setCell _ _ _ _ hq).trans ((Below.heap_setCell _ _ _ _ hq).trans ((Below.heap_setCell _ _ _ _ hq).trans ((Below.heap_setCell _ _ _ _ hq).trans (Below.heap_setCell _ _ _ _ hq))))⟩
theorem box5 {w : World} {g : Nat} {a b c d e : Value} {t : TypeId} (h : w.heap[g]? = some (.cells #[a, b, c, d, e] t (0, 0))) :
    w.cell? ⟨g, 0, none⟩ = some a ∧ w.cell? ⟨g, 1, none⟩ = some b ∧ w.cell? ⟨g, 2, none⟩ = some c ∧ w.cell? ⟨g, 3, none⟩ = some d ∧ w.cell? ⟨g, 4, none⟩ = some e :=
  ⟨cell_of_blk h rfl, cell_of_blk h rfl, cell_of_blk h rfl, cell_of_blk h rfl, cell_of_blk h rfl⟩
theorem grownF {w5 V w : World} {p bx S0 : Nat} (hg : w.grownBy w5 (some p)) (hV : GrF w5 V (fun b => b = p ∨ b = bx ∨ S0 ≤ b)) (hb : w.heap.size ≤ bx) (hS : w.heap.size ≤ S0) : w.grownBy V (some p) :=
  ⟨hV.os.trans hg.os, hV.tape.trans hg.tape, hV.output.trans hg.output, Nat.le_trans hg.size hV.size, fun b hlt hne => (hV.block b (Nat.lt_of_lt_of_le hlt hg.size) (by rintro (h | h | h); (exact hne (by rw [h])); omega; omega)).trans (hg.block b hlt hne)⟩
def BdxPost (w : World) (p k : Nat) (xs : LiA) (e : Ending) (w' : World) : Prop :=
  ∃ (fm fw fc : Int) (L : List Lk) (G : List Gr) (LA GA : Option Addr) (lc gc ln gn k' : Nat), bdF xs k = (L, G, k') ∧ e = .returned (.agg #[.int .i64 fm, .int .i64 fw, .int .i64 fc, .slice LA ln lc, .slice GA gn gc]) ∧ FlOk fm fw fc ∧ LksOk L ∧ GrsOk G ∧ L.length = ln ∧ G.length = gn ∧ ln ≤ 4 ∧ gn ≤ 2 ∧
    w'.ownsRow w.heap.size 67 2 (.slice LA ln lc) ln (recs lkC L) ∧ w'.ownsRow w.heap.size 70 3 (.slice GA gn gc) gn (recs grC G) ∧ Strm w' p xs k' ∧ k' ≤ k + 30 ∧ w.grownBy w' (some p)
set_option maxRecDepth 100000 in
set_option maxHeartbeats 8000000 in
theorem boardX_any (w : World) (p k : Nat) (xs : LiA) (hk : k < 100000) (hs : Strm w p xs k) :
    Calls Tryz.prog 5 #[.pointer (some ⟨p, 0, none⟩)] w fun e w' => BdxPost w p k xs e w' := by
  obtain ⟨i0, hi0, hz0, hz1, hz2⟩ := info_parts Tryz.infoLk
  obtain ⟨i1, hi1, hy0, hy1, hy2⟩ := info_parts Tryz.infoGr
  have hplt := hs.lt
  have HS := Lib.hid hs
  clear hs
  go_enter Tryz.func5, Tryz.ntmps5
  go_upto_region 1 with (fail)
  obtain ⟨rb, erb⟩ : ∃ g, g = w.heap.size := ⟨_, rfl⟩
  obtain ⟨w0, e0⟩ : ∃ V : World, V = w.alloc (.cells #[.int .i64 0, .int .i64 0, .int .i64 0, .slice none 0 0, .slice none 0 0] 33) := ⟨_, rfl⟩
  rw [← erb, ← e0]
  have hb00 : w.grownBy w0 (some p) := by rw [e0]; exact World.grownBy_alloc _ _ (some p)
  have hr0 : w0.heap[rb]? = some (bdBk 0 0 0 (.slice none 0 0) (.slice none 0 0)) := by rw [e0, erb]; exact heap_new w _
  have HS0 := Lib.hid (show Strm w0 p xs k from by rw [e0]; exact HS.out.alloc _)
  have HG0 := Lib.hid hb00
  have HR0 := Lib.hid hr0
  have hs0 : rb < w0.heap.size := (Array.getElem?_eq_some_iff.1 hr0).1
  have hprb : p < rb := by omega
  have hwrb : w.heap.size ≤ rb := by omega
  clear e0 erb hb00 hr0 HS
  go_wp2_with (fail)
  refine (pick_any _ p k w0.heap.size 3 3 xs bmPk (by omega) rfl (by omega) (by omega) (HS0.out.alloc _) (by omega) (Cells.new _ _ _ _ _ rfl)).mono ?_
  have hfm := bmPk_range (nextN xs k 3) (nextN_lt _ _ _ (by omega))
  obtain ⟨fm, efm⟩ : ∃ r, r = bmPk.getD (nextN xs k 3) 0 := ⟨_, rfl⟩
  rw [← efm] at hfm ⊢
  clear efm
  rintro e w1 ⟨rfl, hst1, hg1⟩
  have hg1' := grown_of_alloc hg1
  have hs1 := hg1'.size
  have HST1 := Lib.hid hst1
  have HG1 := Lib.hid (grown_trans HG0.out hg1')
  have HR1 := Lib.hid ((hg1'.block rb hs0 (by intro e; injection e with e; omega)).trans HR0.out)
  clear hst1 hg1 hg1'
  go_wp2_with (fail)
  refine (pick_any _ p (k + 1) w1.heap.size 2 2 xs bwPk (by omega) rfl (by omega) (by omega) (HST1.out.alloc _) (by omega) (Cells.new _ _ _ _ _ rfl)).mono ?_
  have hfw := bwPk_range (nextN xs (k + 1) 2) (nextN_lt _ _ _ (by omega))
  obtain ⟨fw, efw⟩ : ∃ r, r = bwPk.getD (nextN xs (k + 1) 2) 0 := ⟨_, rfl⟩
  rw [← efw] at hfw ⊢
  clear efw
  rintro e w2 ⟨rfl, hst2, hg2⟩
  have hg2' := grown_of_alloc hg2
  have hs2 := hg2'.size
  have HST2 := Lib.hid hst2
  have HG2 := Lib.hid (grown_trans HG1.out hg2')
  have HR2 := Lib.hid ((hg2'.block rb (by omega) (by intro e; injection e with e; omega)).trans HR1.out)
  clear hst2 hg2 hg2'
  go_wp2_with (fail)
  refine (pick_any _ p (k + 1 + 1) w2.heap.size 2 2 xs bcPk (by omega) rfl (by omega) (by omega) (HST2.out.alloc _) (by omega) (Cells.new _ _ _ _ _ rfl)).mono ?_
  have hfc := bcPk_range (nextN xs (k + 1 + 1) 2) (nextN_lt _ _ _ (by omega))
  obtain ⟨fc, efc⟩ : ∃ r, r = bcPk.getD (nextN xs (k + 1 + 1) 2) 0 := ⟨_, rfl⟩
  rw [← efc] at hfc ⊢
  clear efc
  rintro e w3 ⟨rfl, hst3, hg3⟩
  have hg3' := grown_of_alloc hg3
  have hs3 := hg3'.size
  have HST3 := Lib.hid hst3
  have HG3 := Lib.hid (grown_trans HG2.out hg3')
  have HR3 := Lib.hid ((hg3'.block rb (by omega) (by intro e; injection e with e; omega)).trans HR2.out)
  clear hst3 hg3 hg3'
  go_upto_region 3 with (fail)
  -- the board, and the names of devices
  obtain ⟨bx, ebx⟩ : ∃ g, g = w3.heap.size := ⟨_, rfl⟩
  obtain ⟨w4, e4⟩ : ∃ V : World, V = w3.alloc (.cells #[.int .i64 fm, .int .i64 fw, .int .i64 fc, .slice none 0 0, .slice none 0 0] 33) := ⟨_, rfl⟩
  have hg34 : w3.grownBy w4 (some p) := by rw [e4]; exact World.grownBy_alloc _ _ (some p)
  have hx4 : w4.heap[bx]? = some (bdBk fm fw fc (.slice none 0 0) (.slice none 0 0)) := by rw [e4, ebx]; exact heap_new w3 _
  have hs4' : w4.heap.size = bx + 1 := by rw [e4, ebx]; simp
  have hs4 : bx + 1 ≤ w4.heap.size := by omega
  have HST4 := Lib.hid (show Strm w4 p xs (k + 1 + 1 + 1) from by rw [e4]; exact HST3.out.alloc _)
  rw [← ebx, ← e4]
  obtain ⟨gn, egn⟩ : ∃ g, g = bx + 1 := ⟨_, rfl⟩
  obtain ⟨w5, e5⟩ : ∃ V : World, V = w4.alloc (.cells #[.string ⟨#[100, 97]⟩, .string ⟨#[100, 98]⟩, .string ⟨#[100, 99]⟩] 9) := ⟨_, rfl⟩
  have hg45 : w4.grownBy w5 (some p) := by rw [e5]; exact World.grownBy_alloc _ _ (some p)
  have hn5 : w5.heap[gn]? = some (.cells #[.string ⟨#[100, 97]⟩, .string ⟨#[100, 98]⟩, .string ⟨#[100, 99]⟩] 9 (0, 0)) := by rw [e5, egn, ← hs4']; exact heap_new w4 _
  have hs5 : gn + 1 ≤ w5.heap.size := by rw [e5, egn, ← hs4']; simp
  have HST5 := Lib.hid (show Strm w5 p xs (k + 1 + 1 + 1) from by rw [e5]; exact HST4.out.alloc _)
  have HG5 := Lib.hid (grown_trans (grown_trans HG3.out hg34) hg45)
  have HX5 := Lib.hid ((hg45.block bx (by omega) (by intro e; injection e with e; omega)).trans hx4)
  have HR5 := Lib.hid ((hg45.block rb (by omega) (by intro e; injection e with e; omega)).trans ((hg34.block rb (by omega) (by intro e; injection e with e; omega)).trans HR3.out))
  rw [← egn, ← e5]
  have hbg : bx < gn := by omega
  have hpb : p < bx := by omega
  have hrbx : rb < bx := by omega
  clear e4 e5 hg34 hg45 hx4 HST3 HST4 ebx egn hs4'
  obtain ⟨k3, ek3⟩ : ∃ q, q = k + 1 + 1 + 1 := ⟨_, rfl⟩
  rw [← ek3] at HST5
  have hk3 : k3 = k + 3 := ek3
  clear ek3
  obtain ⟨S0, eS0⟩ : ∃ S, S = w5.heap.size := ⟨_, rfl⟩
  have hxS : bx < S0 := by omega
  have hpS : p < S0 := by omega
  have HGN := Lib.hid (fun (V : World) (hV : GrF w5 V (fun b => b = p ∨ b = bx ∨ S0 ≤ b)) => show V.cell? ⟨gn, 0, none⟩ = some (.string (bdT 0)) ∧ V.cell? ⟨gn, 1, none⟩ = some (.string (bdT 1)) ∧ V.cell? ⟨gn, 2, none⟩ = some (.string (bdT 3)) ∧ gn < V.heap.size from by
    have h := (hV.block gn (by omega) (by rintro (h | h | h) <;> omega)).trans hn5
    exact ⟨cell_of_blk (j := 0) h rfl, cell_of_blk (j := 1) h rfl, cell_of_blk (j := 2) h rfl, (Array.getElem?_eq_some_iff.1 h).1⟩)
  have hwS : w.heap.size ≤ S0 := by omega
  have hS5 : S0 ≤ w5.heap.size := by omega
  clear hn5 eS0
  go_wp2_with (fail)
  go_loopw [21] (fun s wr => ∃ (j k' : Nat) (v : Value) (L : List Lk), j ≤ 3 ∧ s = .int .i64 (j : Int) ∧ LksOk L ∧ (∀ x ∈ L, rkD x.d < j) ∧ L.length ≤ j ∧ KBm lkC 2 67 3 w5 p k' bx S0 xs fm fw fc (.slice none 0 0) v v L.length L wr ∧ k' ≤ k3 + 2 * j ∧ Hid (bdA xs k3 j = (k', L))) (fun s _ => 3 - (intOf s).toNat)
  case atStart => exact ⟨0, k3, .slice none 0 0, [], by omega, rfl, LksOk.nil, by simp, by simp, ⟨HX5.out, World.ownsRow_nil _ _ _ _, HST5.out, GrF.refl _ _⟩, by omega, Lib.hid rfl⟩
  case round =>
    obtain ⟨j, k', v, L, hj, rfl, hok, hrk, hln, hK, hk', HBA⟩ := hrel
    have HK := Lib.hid hK
    have HOK := Lib.hid (And.intro hok hrk)
    have hrs := hK.gr.size
    obtain ⟨n0, n1, n2, hgnr⟩ := HGN.out wr hK.gr
    have hplt2 := hK.strm.lt
    obtain ⟨ln, eln⟩ : ∃ n, n = L.length := ⟨_, rfl⟩
    rw [← eln] at HK hln
    have HLN := Lib.hid eln.symm
    clear hK hok hrk eln
    by_cases hlt : j < 3
    · have hltI : (j : Int) < 3 := by omega
      have nj : wr.cell? ⟨gn, j, none⟩ = some (.string (bdT (ndD j))) := by
        have : j = 0 ∨ j = 1 ∨ j = 2 := by omega
        rcases this with rfl | rfl | rfl
        · exact n0
        · exact n1
        · exact n2
      have hrkj : rkD (ndD j) = j ∧ ndD j < 4 ∧ ndD j ≠ 2 := by
        have : j = 0 ∨ j = 1 ∨ j = 2 := by omega
        rcases this with rfl | rfl | rfl <;> exact ⟨rfl, by decide, by decide⟩
      obtain ⟨dj, edj⟩ : ∃ d, d = ndD j := ⟨_, rfl⟩
      rw [← edj] at nj hrkj
      have HDJ := Lib.hid edj
      clear n0 n1 n2 edj
      go_wp2_with (fail)
      refine (flipD_any wr p k' xs 3 (by omega) (by omega) (by omega) HK.out.strm).mono ?_
      obtain ⟨b1, eb1⟩ : ∃ b : Bool, b = decide (nextV xs k' 3 = 0) := ⟨_, rfl⟩
      rw [← eb1]
      have HB1F := Lib.hid eb1
      clear eb1
      rintro e w6 ⟨rfl, hst6, hg6⟩
      have HK6 := Lib.hid (HK.out.call hg6 hpb hpS (by omega) hst6).1
      clear hst6 hg6
      cases b1 with
      | true =>
        go_wp2_with (fail)
        go_roundw
        case rel => exact ⟨j + 1, k' + 1, v, L, by omega, by go_num, HOK.out.1, fun x hx => by have := HOK.out.2 x hx; omega, by have := HLN.out; omega, by rw [HLN.out]; exact HK6.out, by omega, Lib.hid (bdA_skip HBA.out HB1F.out)⟩
        case measure => simp [intOf]; omega
      | false =>
      obtain ⟨XA, xc, rfl⟩ := own_slice HK6.out.row
      obtain ⟨k2, ek2⟩ : ∃ k2, k2 = k' + 1 := ⟨_, rfl⟩
      rw [← ek2] at HK6
      have hk2 : k2 < 100100 := by omega
      have hk2n : k2 = k' + 1 := ek2
      have hbxW := HK6.out.lt
      have hpW : p < w6.heap.size := by omega
      have HVW := Lib.hid (fun b (hb : (Value.slice XA ln xc).ownBlock = some b) => (HK6.out.row.lt b hb).2)
      have hs6 := HK6.out.gr.size
      obtain ⟨pp, hpv, hpp, hpe⟩ := par_pick (nextN xs k2 3) (nextN_lt _ _ _ (by omega))
      have HV := Lib.hid hpe
      have HBA2 := Lib.hid (bdA_step HBA.out HB1F.out hk2n HDJ.out hpv)
      clear ek2 hpe nj hpv
      go_upto_region 6 with (fail)
      have HK0 := Lib.hid (show KBm lkC 2 67 3 w6 p k2 bx S0 xs fm fw fc (.slice none 0 0) (.slice XA ln xc) (.slice XA ln xc) ln L w6.drew from ⟨HK6.out.blk, HK6.out.row, HK6.out.strm, ⟨rfl, rfl, rfl, Nat.le_refl _, fun _ _ _ => rfl⟩⟩)
      refine qRegionSa (fun u => KB lkC 2 67 3 1 w6 p k2 bx S0 xs fm fw fc (.slice none 0 0) (.slice XA ln xc) ln L ⟨dj, pp⟩ u) 8 1 36 _
        [.pointer (some ⟨bx, 3, none⟩), .slice XA ln xc, .string (bdT dj), .pointer (some ⟨p, 0, none⟩), undef, .string (bdT pp), .agg #[.string (bdT dj), .string (bdT pp)], undef, undef, .pointer (some ⟨bx, 3, none⟩), .tuple #[]]
        [none, none, none, none, some (.cells #[.string ⟨#[100, 103]⟩, .string ⟨#[100, 103]⟩, .string ⟨#[100, 104]⟩] 9, fun b => .slice (some ⟨b, 0, none⟩) 3 3), none, none, some (.cells #[.string (bdT dj), .string (bdT pp)] 67, fun b => .slice (some ⟨b, 0, none⟩) 1 1), none, none, none]
        [0, 0, 0, 0, 0, 1, 0, 0, 2, 0, 3]
        [3, 1, 3, 3, 3, 3, 3, 3, 3, 3, 3] 3 (by kernel_rfl) (by kernel_rfl) rfl rfl (by rfl) rfl rfl rfl rfl (KB.to_low HK0.out (by omega)) (fun u s w o h => KB.alloc h o) ?_ ?_ ?_
      · intro u; simp only [putL, Act.put, List.setIfInBounds_toArray, List.set_cons_zero, List.set_cons_succ]
        refine ⟨?_, ?_, ?_, ?_, ?_, ?_, ?_, ?_, ?_, ?_, ?_, trivial⟩
        · exact fun _ => OneSt.pure (fun G V => by simp only [putH, Act.put, List.setIfInBounds_toArray, List.set_cons_zero, List.set_cons_succ]; go_simp)
        · exact fun _ => OneSt.load (fun G s V hK hs => by have hq := KB.low hK hs; have c0 := hq.cell (.inl rfl); have hgl := hq.lt; simp only [putH, Act.put, List.setIfInBounds_toArray, List.set_cons_zero, List.set_cons_succ]; go_simp)
        · exact fun _ => OneSt.pure (fun G V => by simp only [putH, Act.put, List.setIfInBounds_toArray, List.set_cons_zero, List.set_cons_succ]; go_simp)
        · exact fun _ => OneSt.pure (fun G V => by simp only [putH, Act.put, List.setIfInBounds_toArray, List.set_cons_zero, List.set_cons_succ]; go_simp)
        · exact fun _ => OneSt.lay (fun G V => by simp only [putH, Act.put, List.setIfInBounds_toArray, List.set_cons_zero, List.set_cons_succ]; go_simp)
        · exact fun _ => OneSt.call (fun G V hK hL => ⟨_, _, by simp only [putH, Act.put, List.setIfInBounds_toArray, List.set_cons_zero, List.set_cons_succ]; go_simp <;> exact ⟨rfl, rfl⟩, by obtain ⟨hg1, hg2⟩ := hL 4 _ _ rfl (by kernel_rfl); have hK := KB.low hK (by omega); exact (some_any V p k2 (G 4) 3 3 xs ([2, 2, 4].map bdT) (by omega) rfl (by omega) (by omega) (KBm.strm hK) (by omega) (cells_blk hg2 rfl)).mono (fun e w' h => ⟨by rw [h.1, HV.out], by have h2 := KBm.call hK h.2.2 hpb hpS hpW h.2.1; exact ⟨KB.to_low h2.1 (by omega), h2.2⟩⟩)⟩)
        · exact fun _ => OneSt.pure (fun G V => by simp only [putH, Act.put, List.setIfInBounds_toArray, List.set_cons_zero, List.set_cons_succ]; go_simp)
        · exact fun _ => OneSt.lay (fun G V => by simp only [putH, Act.put, List.setIfInBounds_toArray, List.set_cons_zero, List.set_cons_succ]; go_simp)
        · exact fun h => absurd rfl h
        · exact fun _ => OneSt.pure (fun G V => by simp only [putH, Act.put, List.setIfInBounds_toArray, List.set_cons_zero, List.set_cons_succ]; go_simp)
        · exact fun _ => OneSt.store (fun G V hK hL => by have hK := KB.mid hK; obtain ⟨UA, uc, rfl⟩ := own_slice (KBm.row hK); have c0 := KBm.cell hK (.inl rfl); have f0 := KBm.fro hK 3; have hgl := KBm.lt hK; have hs := KBm.store hK (.inl rfl) hpb hxS hbxW; refine ⟨_, ?_, rfl, KB.to_hi hs.1, hs.2⟩; simp only [putH, Act.put, List.setIfInBounds_toArray, List.set_cons_zero, List.set_cons_succ]; go_simp)
      · intro u G V hK hL
        have hK := KB.low hK (Nat.le_refl _)
        obtain ⟨hg1, hg2⟩ := hL 7 _ _ rfl (by kernel_rfl)
        refine app_st (.tmp 29) (.tmp 35) 30 rfl S0 67 i0 _ 2 32 Tryz.underlying30 hi0 hz0 hz1 hz2 rfl (by decide) (.slice XA ln xc) ln (recs lkC L) ?_ (KBm.row hK) ⟨G 7, 0, none⟩ 1 1 (lkC ⟨dj, pp⟩) ?_ rfl (cells_add (cells_blk hg2 rfl)) (lkC_one _) (by unfold maxLen; omega) (by omega) (by have := (KBm.gr hK).size; omega) ?_
        · simp only [putL, putH, Act.put, List.setIfInBounds_toArray, List.set_cons_zero, List.set_cons_succ]; rfl
        · simp only [putL, putH, Act.put, List.setIfInBounds_toArray, List.set_cons_zero, List.set_cons_succ]; rfl
        · intro v' w2 ho hg hm
          rw [← recs_snoc] at ho
          have h2 := KBm.app hK ho hg hpb hxS HVW.out
          exact ⟨KB.to_mid h2.1, h2.2⟩
      · intro u G w7 hK hsz hG
        clear hG
        have hKu := KB.hi hK
        clear hK
        simp only [putL, putH, Act.put, List.setIfInBounds_toArray, List.set_cons_zero, List.set_cons_succ]
        have HK7 := Lib.hid (hKu.back HK6.out.gr (Nat.le_refl _))
        have HOK7 := Lib.hid (show LksOk (L ++ [⟨dj, pp⟩]) ∧ (∀ x ∈ L ++ [⟨dj, pp⟩], rkD x.d < j + 1) from
          ⟨HOK.out.1.snoc ⟨hrkj.2.1, hpp, fun e => absurd e hrkj.2.2⟩ (fun y hy => by have := HOK.out.2 y hy; show _ < rkD dj; omega), fun x hx => by
            rcases List.mem_append.1 hx with hx | hx
            · have := HOK.out.2 x hx; omega
            · rw [List.mem_singleton] at hx; rw [hx]; show rkD dj < _; omega⟩)
        clear hKu
        go_wp2_with (fail)
        go_roundw
        case rel => exact ⟨j + 1, k2 + 1, u, L ++ [⟨dj, pp⟩], by omega, by go_num, HOK7.out.1, HOK7.out.2, by rw [List.length_append, HLN.out]; simp; omega, by rw [List.length_append, HLN.out]; exact HK7.out, by omega, HBA2⟩
        case measure => simp [intOf]; omega
    · have hltI : ¬ (j : Int) < 3 := by omega
      have HBA3 := Lib.hid (show bdA xs k3 3 = (k', L) from by rw [show (3 : Nat) = j by omega]; exact HBA.out)
      clear n0 n1 n2
      go_wp2_with (fail)
      refine (flipD_any wr p k' xs 2 (by omega) (by omega) (by omega) HK.out.strm).mono ?_
      obtain ⟨b1, eb1⟩ : ∃ b : Bool, b = decide (nextV xs k' 2 = 0) := ⟨_, rfl⟩
      rw [← eb1]
      have HB1F := Lib.hid eb1
      clear eb1
      rintro e w6 ⟨rfl, hst6, hg6⟩
      have HK6 := Lib.hid (HK.out.call hg6 hpb hpS (by omega) hst6).1
      obtain ⟨k2, ek2⟩ : ∃ k2, k2 = k' + 1 := ⟨_, rfl⟩
      rw [← ek2] at HK6
      have hk2n : k2 = k' + 1 := ek2
      clear hst6 hg6 ek2
      go_upto_if 40 with (fail)
      go_cut [] (fun wx => ∃ (v : Value) (L : List Lk), LksOk L ∧ L.length ≤ 4 ∧ KBm lkC 2 67 3 w5 p k2 bx S0 xs fm fw fc (.slice none 0 0) v v L.length L wx ∧ Hid (L = bdM xs k3))
      case first =>
        cases b1 with
        | false =>
          go_wp2_with (fail)
          go_meet
          exact ⟨v, L, HOK.out.1, by have := HLN.out; omega, by rw [HLN.out]; exact HK6.out, Lib.hid (bdM_no HBA3.out HB1F.out)⟩
        | true =>
          obtain ⟨XA, xc, rfl⟩ := own_slice HK6.out.row
          have c3 : w6.cell? ⟨bx, 3, none⟩ = some (.slice XA ln xc) := HK6.out.cell (.inl rfl)
          have hbx6 := HK6.out.lt
          have hs6 := HK6.out.gr.size
          go_wp2_with (at_builtin; refine wpList_append_own2 _ rfl _ _ 30 rfl S0 67 i0 _ 2 32 Tryz.underlying30 hi0 hz0 hz1 hz2 rfl (by decide) _ _ _ rfl (HK6.out.row.alloc _) ⟨_, 0, none⟩ 1 1 (lkC ⟨2, 4⟩) rfl rfl ?c1 ?c2 ?c3 ?c4 ?c5 ?_)
          case c1 => first | exact cells_add (cells_atF (by rfl) (by first | rfl | simp)) | exact fun j u h => h
          case c2 => exact lkC_one _
          case c3 => unfold maxLen; omega
          case c4 => omega
          case c5 => first | omega | (simp; omega)
          intro v9 w9 ho9 hg9 hm9
          rw [← recs_snoc] at ho9
          obtain ⟨UA, uc, rfl⟩ := own_slice ho9
          obtain ⟨wb, ewb⟩ : ∃ V : World, V = w6.alloc (.cells #[.string ⟨#[100, 103]⟩, .string ⟨#[100, 104]⟩] 67) := ⟨_, rfl⟩
          have HKb := Lib.hid (show KBm lkC 2 67 3 wb p k2 bx S0 xs fm fw fc (.slice none 0 0) (.slice XA ln xc) (.slice XA ln xc) ln L wb from by
            have h := HK6.out.alloc (.cells #[.string ⟨#[100, 103]⟩, .string ⟨#[100, 104]⟩] 67)
            rw [← ewb] at h
            exact ⟨h.blk, h.row, h.strm, GrF.refl _ _⟩)
          have hgb : GrF w5 wb (fun b => b = p ∨ b = bx ∨ S0 ≤ b) := by
            have h := (HK6.out.alloc (.cells #[.string ⟨#[100, 103]⟩, .string ⟨#[100, 104]⟩] 67)).gr
            rwa [← ewb] at h
          have hsb := hgb.size
          have hg9' : wb.grownBy w9 (Value.slice XA ln xc).ownBlock := by rw [ewb]; exact hg9
          have HK9 := Lib.hid (HKb.out.app ho9 hg9' hpb hxS (fun b hb => (HKb.out.row.lt b hb).2)).1
          have hbx9 := HK9.out.lt
          have c9 := HK9.out.cell (.inl rfl)
          have f9 := HK9.out.fro 3
          have hbxb := HKb.out.lt
          have HK10 := Lib.hid ((HK9.out.store (.inl rfl) hpb hxS hbxb).1.back hgb (Nat.le_refl _))
          have HOK10 := Lib.hid (show LksOk (L ++ [⟨2, 4⟩]) from HOK.out.1.snoc ⟨by decide, .inr rfl, fun _ => rfl⟩ (fun y hy => by have := HOK.out.2 y hy; show _ < 3; omega))
          clear ho9 hg9 hm9 hg9' ewb hgb
          go_wp2_with (fail)
          go_meet
          exact ⟨.slice UA (ln + 1) uc, L ++ [⟨2, 4⟩], HOK10.out, by rw [List.length_append, HLN.out]; simp; omega, by rw [List.length_append, HLN.out]; exact HK10.out, Lib.hid (bdM_yes HBA3.out HB1F.out)⟩
      case rest =>
      obtain ⟨vl, M, hMok, hM4, hKM, HBM⟩ := hcut
      obtain ⟨w7, ew7⟩ : ∃ V : World, V = wc := ⟨_, rfl⟩
      rw [← ew7] at hKM ⊢
      clear ew7 HK HOK HLN HK6
      obtain ⟨LA, lc, rfl⟩ := own_slice hKM.row
      obtain ⟨mn, emn⟩ : ∃ m, m = M.length := ⟨_, rfl⟩
      rw [← emn] at hKM hM4
      have HM := Lib.hid (And.intro hMok emn.symm)
      have hs7 := hKM.gr.size
      have hbx7 := hKM.lt
      have HKM := Lib.hid hKM
      clear hMok emn hKM
      go_upto_region 11 with (fail)
      obtain ⟨gr, egr⟩ : ∃ g, g = w7.heap.size := ⟨_, rfl⟩
      obtain ⟨w8, e8⟩ : ∃ V : World, V = w7.alloc (.cells #[.string ⟨#[114, 97]⟩, .string ⟨#[114, 98]⟩] 9) := ⟨_, rfl⟩
      have hn8 : w8.heap[gr]? = some (.cells #[.string ⟨#[114, 97]⟩, .string ⟨#[114, 98]⟩] 9 (0, 0)) := by rw [e8, egr]; exact heap_new w7 _
      have hs8 : gr + 1 ≤ w8.heap.size := by rw [e8, egr]; simp
      have HK8 := Lib.hid (show KBm lkC 2 67 3 w5 p k2 bx S0 xs fm fw fc (.slice none 0 0) (.slice LA mn lc) (.slice LA mn lc) mn M w8 from by rw [e8]; exact HKM.out.alloc _)
      rw [← egr, ← e8]
      have hgrx : bx < gr := by omega
      clear e8 egr HKM
      obtain ⟨S1, eS1⟩ : ∃ S, S = w8.heap.size := ⟨_, rfl⟩
      have hS01 : S0 ≤ S1 := by have := HK8.out.gr.size; omega
      have HGN2 := Lib.hid (fun (V : World) (hV : GrF w8 V (fun b => b = p ∨ b = bx ∨ S1 ≤ b)) => show V.cell? ⟨gr, 0, none⟩ = some (.string (alrT 0)) ∧ V.cell? ⟨gr, 1, none⟩ = some (.string (alrT 1)) ∧ gr < V.heap.size from by
        have h := (hV.block gr (by omega) (by rintro (h | h | h) <;> omega)).trans hn8
        exact ⟨cell_of_blk (j := 0) h rfl, cell_of_blk (j := 1) h rfl, (Array.getElem?_eq_some_iff.1 h).1⟩)
      have HLR := Lib.hid (fun (V : World) (hV : GrF w8 V (fun b => b = p ∨ b = bx ∨ S1 ≤ b)) => show V.ownsRow S0 67 2 (.slice LA mn lc) mn (recs lkC M) from own_keptB HK8.out.row (fun b hb => hV.block b (HK8.out.row.lt b hb).2 (by have := HK8.out.row.lt b hb; rintro (h | h | h) <;> omega)))
      have hS8 : S1 ≤ w8.heap.size := by omega
      clear hn8 eS1
      go_wp2_with (fail)
      go_loopw [49] (fun s wr => ∃ (j k' : Nat) (v : Value) (G : List Gr), j ≤ 2 ∧ s = .int .i64 (j : Int) ∧ GrsOk G ∧ (∀ x ∈ G, x.r < j) ∧ G.length ≤ j ∧ KBm grC 3 70 4 w8 p k' bx S1 xs fm fw fc (.slice LA mn lc) v v G.length G wr ∧ k' ≤ k2 + 3 * j ∧ Hid (bgG xs k2 j = (k', G))) (fun s _ => 2 - (intOf s).toNat)
      case atStart => exact ⟨0, k2, .slice none 0 0, [], by omega, rfl, GrsOk.nil, by simp, by simp, ⟨HK8.out.blk, World.ownsRow_nil _ _ _ _, HK8.out.strm, GrF.refl _ _⟩, by omega, Lib.hid rfl⟩
      case round =>
        obtain ⟨kL, ekL⟩ : ∃ q, q = k' := ⟨_, rfl⟩
        obtain ⟨j, k', v, G, hj, rfl, hok, hrk, hln, hK, hk', HGG⟩ := hrel
        have HK := Lib.hid hK
        have HOK := Lib.hid (And.intro hok hrk)
        have hrs := hK.gr.size
        obtain ⟨n0, n1, hgnr⟩ := HGN2.out wr hK.gr
        have hplt2 := hK.strm.lt
        obtain ⟨ln, eln⟩ : ∃ n, n = G.length := ⟨_, rfl⟩
        rw [← eln] at HK hln
        have HLN := Lib.hid eln.symm
        clear hK hok hrk eln
        by_cases hlt : j < 2
        · have hltI : (j : Int) < 2 := by omega
          have nj : wr.cell? ⟨gr, j, none⟩ = some (.string (alrT j)) := by
            have : j = 0 ∨ j = 1 := by omega
            rcases this with rfl | rfl
            · exact n0
            · exact n1
          clear n0 n1
          go_wp2_with (fail)
          refine (flipD_any wr p k' xs 3 (by omega) (by omega) (by omega) HK.out.strm).mono ?_
          obtain ⟨b1, eb1⟩ : ∃ b : Bool, b = decide (nextV xs k' 3 = 0) := ⟨_, rfl⟩
          rw [← eb1]
          have HB3F := Lib.hid eb1
          clear eb1
          rintro e w9 ⟨rfl, hst9, hg9⟩
          have HK9 := Lib.hid (HK.out.call hg9 hpb (by omega) (by omega) hst9).1
          clear hst9 hg9
          cases b1 with
          | true =>
            go_wp2_with (fail)
            go_roundw
            case rel => exact ⟨j + 1, k' + 1, v, G, by omega, by go_num, HOK.out.1, fun x hx => by have := HOK.out.2 x hx; omega, by have := HLN.out; omega, by rw [HLN.out]; exact HK9.out, by omega, Lib.hid (bgG_skip HGG.out HB3F.out)⟩
            case measure => simp [intOf]; omega
          | false =>
          obtain ⟨XA, xc, rfl⟩ := own_slice HK9.out.row
          obtain ⟨k5, ek5⟩ : ∃ q, q = k' + 1 := ⟨_, rfl⟩
          rw [← ek5] at HK9
          have hk5 : k5 < 100100 := by omega
          have hk5n : k5 = k' + 1 := ek5
          have hbxW := HK9.out.lt
          have hpW : p < w9.heap.size := by omega
          have HVW := Lib.hid (fun b (hb : (Value.slice XA ln xc).ownBlock = some b) => (HK9.out.row.lt b hb).2)
          have hs9 := HK9.out.gr.size
          have hpS1 : p < S1 := by omega
          have hxS1 : bx < S1 := by omega
          have hlr := nextV_range xs k5 (9 - 1 + 1) (by omega)
          obtain ⟨lv, elv⟩ : ∃ r : Int, r = 1 + nextV xs k5 (9 - 1 + 1) := ⟨_, rfl⟩
          have hlv : 1 ≤ lv ∧ lv ≤ 9 := by omega
          obtain ⟨b2, eb2⟩ : ∃ b : Bool, b = decide (nextV xs (k5 + 1) 3 = 0) := ⟨_, rfl⟩
          have HV := Lib.hid (And.intro elv.symm eb2.symm)
          have HGG2 := Lib.hid (bgG_step HGG.out HB3F.out hk5n HV.out)
          clear ek5 elv eb2 hlr nj
          go_upto_region 14 with (fail)
          have HK0 := Lib.hid (show KBm grC 3 70 4 w9 p k5 bx S1 xs fm fw fc (.slice LA mn lc) (.slice XA ln xc) (.slice XA ln xc) ln G w9.drew from ⟨HK9.out.blk, HK9.out.row, HK9.out.strm, ⟨rfl, rfl, rfl, Nat.le_refl _, fun _ _ _ => rfl⟩⟩)
          refine qRegionSa (fun u => KB grC 3 70 4 2 w9 p k5 bx S1 xs fm fw fc (.slice LA mn lc) (.slice XA ln xc) ln G ⟨j, lv, !b2⟩ u) 10 2 66 _
            [.pointer (some ⟨bx, 4, none⟩), .slice XA ln xc, .string (alrT j), .pointer (some ⟨p, 0, none⟩), .int .i64 lv, .pointer (some ⟨p, 0, none⟩), .bool b2, .bool (!b2), .agg #[.string (alrT j), .int .i64 lv, .bool (!b2)], undef, undef, .pointer (some ⟨bx, 4, none⟩), .tuple #[]]
            [none, none, none, none, none, none, none, none, none, some (.cells #[.string (alrT j), .int .i64 lv, .bool (!b2)] 70, fun b => .slice (some ⟨b, 0, none⟩) 1 1), none, none, none]
            [0, 0, 0, 0, 1, 0, 2, 0, 0, 0, 3, 0, 4]
            [4, 2, 4, 4, 4, 4, 4, 4, 4, 4, 4, 4, 4] 4 (by kernel_rfl) (by kernel_rfl) rfl rfl (by rfl) rfl rfl rfl rfl (KB.to_low HK0.out (by omega)) (fun u s w o h => KB.alloc h o) ?_ ?_ ?_
          · intro u; simp only [putL, Act.put, List.setIfInBounds_toArray, List.set_cons_zero, List.set_cons_succ]
            refine ⟨?_, ?_, ?_, ?_, ?_, ?_, ?_, ?_, ?_, ?_, ?_, ?_, ?_, trivial⟩
            · exact fun _ => OneSt.pure (fun G V => by simp only [putH, Act.put, List.setIfInBounds_toArray, List.set_cons_zero, List.set_cons_succ]; go_simp)
            · exact fun _ => OneSt.load (fun G s V hK hs => by have hq := KB.low hK hs; have c0 := hq.cell (.inr rfl); have hgl := hq.lt; simp only [putH, Act.put, List.setIfInBounds_toArray, List.set_cons_zero, List.set_cons_succ]; go_simp)
            · exact fun _ => OneSt.pure (fun G V => by simp only [putH, Act.put, List.setIfInBounds_toArray, List.set_cons_zero, List.set_cons_succ]; go_simp)
            · exact fun _ => OneSt.pure (fun G V => by simp only [putH, Act.put, List.setIfInBounds_toArray, List.set_cons_zero, List.set_cons_succ]; go_simp)
            · exact fun _ => OneSt.call (fun G V hK hL => ⟨_, _, by simp only [putH, Act.put, List.setIfInBounds_toArray, List.set_cons_zero, List.set_cons_succ]; go_simp <;> exact ⟨rfl, rfl⟩, by have hK := KB.low hK (by omega); exact (range_any V p k5 xs 1 9 (by omega) (by omega) (by omega) (by omega) (by omega) (KBm.strm hK)).mono (fun e w' h => ⟨by rw [h.1, HV.out.1], by have h2 := KBm.call hK h.2.2 hpb hpS1 hpW h.2.1; exact ⟨KB.to_low h2.1 (by omega), h2.2⟩⟩)⟩)
            · exact fun _ => OneSt.pure (fun G V => by simp only [putH, Act.put, List.setIfInBounds_toArray, List.set_cons_zero, List.set_cons_succ]; go_simp)
            · exact fun _ => OneSt.call (fun G V hK hL => ⟨_, _, by simp only [putH, Act.put, List.setIfInBounds_toArray, List.set_cons_zero, List.set_cons_succ]; go_simp <;> exact ⟨rfl, rfl⟩, by have hK := KB.low hK (by omega); exact (flipD_any V p (k5 + 1) xs 3 (by omega) (by omega) (by omega) (KBm.strm hK)).mono (fun e w' h => ⟨by rw [h.1, HV.out.2], by have h2 := KBm.call hK h.2.2 hpb hpS1 hpW h.2.1; exact ⟨KB.to_low h2.1 (by omega), h2.2⟩⟩)⟩)
            · exact fun _ => OneSt.pure (fun G V => by simp only [putH, Act.put, List.setIfInBounds_toArray, List.set_cons_zero, List.set_cons_succ]; go_simp)
            · exact fun _ => OneSt.pure (fun G V => by simp only [putH, Act.put, List.setIfInBounds_toArray, List.set_cons_zero, List.set_cons_succ]; go_simp)
            · exact fun _ => OneSt.lay (fun G V => by simp only [putH, Act.put, List.setIfInBounds_toArray, List.set_cons_zero, List.set_cons_succ]; go_simp)
            · exact fun h => absurd rfl h
            · exact fun _ => OneSt.pure (fun G V => by simp only [putH, Act.put, List.setIfInBounds_toArray, List.set_cons_zero, List.set_cons_succ]; go_simp)
            · exact fun _ => OneSt.store (fun G V hK hL => by have hK := KB.mid hK; obtain ⟨UA, uc, rfl⟩ := own_slice (KBm.row hK); have c0 := KBm.cell hK (.inr rfl); have f0 := KBm.fro hK 4; have hgl := KBm.lt hK; have hs := KBm.store hK (.inr rfl) hpb hxS1 hbxW; refine ⟨_, ?_, rfl, KB.to_hi hs.1, hs.2⟩; simp only [putH, Act.put, List.setIfInBounds_toArray, List.set_cons_zero, List.set_cons_succ]; go_simp)
          · intro u G' V hK hL
            have hK := KB.low hK (Nat.le_refl _)
            obtain ⟨hg1, hg2⟩ := hL 9 _ _ rfl (by kernel_rfl)
            refine app_st (.tmp 57) (.tmp 65) 31 rfl S1 70 i1 _ 3 32 Tryz.underlying31 hi1 hy0 hy1 hy2 rfl (by decide) (.slice XA ln xc) ln (recs grC G) ?_ (KBm.row hK) ⟨G' 9, 0, none⟩ 1 1 (grC ⟨j, lv, !b2⟩) ?_ rfl (cells_add (cells_blk hg2 rfl)) (grC_one _) (by unfold maxLen; omega) (by omega) (by have := (KBm.gr hK).size; omega) ?_
            · simp only [putL, putH, Act.put, List.setIfInBounds_toArray, List.set_cons_zero, List.set_cons_succ]; rfl
            · simp only [putL, putH, Act.put, List.setIfInBounds_toArray, List.set_cons_zero, List.set_cons_succ]; rfl
            · intro v' w2 ho hg hm
              rw [← recs_snoc] at ho
              have h2 := KBm.app hK ho hg hpb hxS1 HVW.out
              exact ⟨KB.to_mid h2.1, h2.2⟩
          · intro u G' w10 hK hsz hG
            clear hG
            have hKu := KB.hi hK
            clear hK
            simp only [putL, putH, Act.put, List.setIfInBounds_toArray, List.set_cons_zero, List.set_cons_succ]
            have HK10 := Lib.hid (hKu.back HK9.out.gr (Nat.le_refl _))
            have HOK10 := Lib.hid (show GrsOk (G ++ [⟨j, lv, !b2⟩]) ∧ (∀ x ∈ G ++ [⟨j, lv, !b2⟩], x.r < j + 1) from
              ⟨HOK.out.1.snoc ⟨hlt, hlv⟩ (fun y hy => HOK.out.2 y hy), fun x hx => by
                rcases List.mem_append.1 hx with hx | hx
                · have := HOK.out.2 x hx; omega
                · rw [List.mem_singleton] at hx; rw [hx]; show j < _; omega⟩)
            clear hKu
            go_wp2_with (fail)
            go_roundw
            case rel => exact ⟨j + 1, k5 + 2, u, G ++ [⟨j, lv, !b2⟩], by omega, by go_num, HOK10.out.1, HOK10.out.2, by rw [List.length_append, HLN.out]; simp; omega, by rw [List.length_append, HLN.out]; exact HK10.out, by omega, HGG2⟩
            case measure => simp [intOf]; omega
        · have hltI : ¬ (j : Int) < 2 := by omega
          have HBF := Lib.hid (show bdF xs k = (M, G, k') from by
            unfold bdF
            rw [← hk3, ← HBM.out, HBA3.out]
            simp only
            rw [← ekL, show kL + 1 = k2 by omega, show (2 : Nat) = j by omega, HGG.out])
          obtain ⟨GA, gc, rfl⟩ := own_slice HK.out.row
          have hb := HK.out.blk
          obtain ⟨x0, x1, x2, x3, x4⟩ := box5 (show wr.heap[bx]? = some (.cells #[.int .i64 fm, .int .i64 fw, .int .i64 fc, .slice LA mn lc, .slice GA ln gc] 33 (0, 0)) from hb)
          have hgF : GrF w5 wr (fun b => b = p ∨ b = bx ∨ S0 ≤ b) := HK8.out.gr.trans (HK.out.gr.mono (fun b _ h => by rcases h with h | h | h; exact .inl h; exact .inr (.inl h); exact .inr (.inr (by omega))))
          have hrbk : wr.heap[rb]? = some (.cells #[.int .i64 0, .int .i64 0, .int .i64 0, .slice none 0 0, .slice none 0 0] 33 (0, 0)) := (hgF.block rb (by omega) (by rintro (h | h | h) <;> omega)).trans HR5.out
          obtain ⟨q0, q1, q2, q3, q4⟩ := box5 hrbk
          have z0 := frz hrbk 0
          have z1 := frz hrbk 1
          have z2 := frz hrbk 2
          have z3 := frz hrbk 3
          have z4 := frz hrbk 4
          have hrbl := (Array.getElem?_eq_some_iff.1 hrbk).1
          have hbxl := HK.out.lt
          have HRB := Lib.hid hrbk
          have HGW := Lib.hid (grownF HG5.out hgF (by omega) (by omega))
          have HLK := Lib.hid (HLR.out wr HK.out.gr)
          clear hb hgF hrbk n0 n1
          go_wp2_with (fail)
          have HX := five_set (.int .i64 fm) (.int .i64 fw) (.int .i64 fc) (.slice LA mn lc) (.slice GA ln gc) HGW.out hwrb HRB.out
          obtain ⟨HBX, HX, HKX⟩ := HX
          generalize (((((wr.setCell ⟨rb, 0, none⟩ (.int .i64 fm)).setCell ⟨rb, 1, none⟩ (.int .i64 fw)).setCell ⟨rb, 2, none⟩ (.int .i64 fc)).setCell ⟨rb, 3, none⟩ (.slice LA mn lc)).setCell ⟨rb, 4, none⟩ (.slice GA ln gc)) = U at HX HBX HKX ⊢
          clear q0 q1 q2 q3 q4 x0 x1 x2 x3 x4 z0 z1 z2 z3 z4
          obtain ⟨q0, q1, q2, q3, q4⟩ := box5 HX
          refine bodyPost_ret (v := .agg #[.int .i64 fm, .int .i64 fw, .int .i64 fc, .slice LA mn lc, .slice GA ln gc]) (by simp [results, Tryz.results5, go_sem, q0, q1, q2, q3, q4]) rfl ?_
          refine ⟨fm, fw, fc, M, G, LA, GA, lc, gc, mn, ln, k', HBF.out, rfl, ⟨by omega, by omega, by omega⟩, HM.out.1, HOK.out.1, HM.out.2, HLN.out, hM4, by omega, ?_, ?_, HK.out.strm.keep fun b hb => HKX b (by omega), by omega, HBX⟩
          · exact own_keptB (own_mono HLK.out (by omega)) (fun b hb => HKX b (by have := (HLK.out.lt b hb).1; omega))
          · exact own_keptB (own_mono HK.out.row (by omega)) (fun b hb => HKX b (by have := (HK.out.row.lt b hb).1; omega))
theorem board_any (w : World) (p k : Nat) (xs : LiA) (hk : k < 100000) (hs : Strm w p xs k) :
    Calls Tryz.prog 5 #[.pointer (some ⟨p, 0, none⟩)] w fun e w' => BdPost w p k xs e w' :=
  (boardX_any w p k xs hk hs).mono fun _ _ ⟨fm, fw, fc, L, G, LA, GA, lc, gc, ln, gn, k', _, h⟩ => ⟨fm, fw, fc, L, G, LA, GA, lc, gc, ln, gn, k', h⟩
end Go.Proofs.YtgdnedhcbjonkaaGreatDoor
