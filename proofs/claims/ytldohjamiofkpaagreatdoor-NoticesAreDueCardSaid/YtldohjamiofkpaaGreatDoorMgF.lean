/- Several texts in one: SgK, SgX, SgC, LdK, SfX, SfC, LdX, LdC, AlA, AlWd, AlX, NdP, NtA, NtT, NtC, LayNt, NtS, RcP, AlB, AcP, HoO, Fst, NtN. -/
import Derived.Test.YtldohjamiofkpaaGreatDoorMgA
import Derived.Test.YtldohjamiofkpaaGreatDoorMgB
import Derived.Test.YtldohjamiofkpaaGreatDoorMgD
import Derived.Test.YtldohjamiofkpaaGreatDoorMgE
import Derived.Test.YtldohjamiofkpaaGreatDoorMgC
import Derived.Test.YtldohjamiofkpaaGreatDoorProg
import Derived.Shelf.SlSortCmp.SmallK
import Derived.Shelf.SlSortCmp.Xorshift
import Derived.Shelf.SlSortCmp.WholeK

/- fleetref1.Key at the names and people of signals; in, MomentFault. -/
namespace Go.Proofs.YtldohjamiofkpaaGreatDoor
open Go.RowKit

theorem inR_yes (n lo hi : Int) (h1 : lo ≤ n) (h2 : n ≤ hi) (w : World) : Calls Tryz.prog 36 #[.int .i64 n, .int .i64 lo, .int .i64 hi] w fun e w' => e = .returned (.bool true) ∧ w = w' := by
  go_enter Tryz.func36, Tryz.ntmps36
  go_wp2_with (fail)
  go_ret
  exact ⟨rfl, rfl⟩
theorem inR_no (n lo hi : Int) (h : ¬ (lo ≤ n ∧ n ≤ hi)) (w : World) : Calls Tryz.prog 36 #[.int .i64 n, .int .i64 lo, .int .i64 hi] w fun e w' => e = .returned (.bool false) ∧ w = w' := by
  by_cases h1 : lo ≤ n
  · have h2 : ¬ n ≤ hi := fun h2 => h ⟨h1, h2⟩
    clear h
    go_enter Tryz.func36, Tryz.ntmps36
    go_wp2_with (fail)
    go_ret
    exact ⟨rfl, rfl⟩
  · clear h
    go_enter Tryz.func36, Tryz.ntmps36
    go_wp2_with (fail)
    go_ret
    exact ⟨rfl, rfl⟩
theorem inR_any (n lo hi : Int) (w : World) : Calls Tryz.prog 36 #[.int .i64 n, .int .i64 lo, .int .i64 hi] w fun e w' => e = .returned (.bool (decide (lo ≤ n ∧ n ≤ hi))) ∧ w = w' := by
  by_cases h : lo ≤ n ∧ n ≤ hi
  · rw [decide_eq_true h]; exact inR_yes n lo hi h.1 h.2 w
  · rw [decide_eq_false h]; exact inR_no n lo hi h w
theorem momF_any (n : Int) (w : World) : Calls Tryz.prog 34 #[.int .i64 n] w fun e w' => e = .returned (.int .i64 (if 0 ≤ n ∧ n ≤ 345686399999 then 0 else 1)) ∧ w = w' := by
  have HI := Lib.hid (inR_any n 0 345686399999 w)
  by_cases h : 0 ≤ n ∧ n ≤ 345686399999
  · rw [decide_eq_true h] at HI
    rw [if_pos h]
    clear h
    go_enter Tryz.func34, Tryz.ntmps34
    go_wp2_with (go_at_call 36; refine HI.out.mono ?_; rintro e w' ⟨rfl, rfl⟩)
    go_ret
    exact ⟨rfl, rfl⟩
  · rw [decide_eq_false h] at HI
    rw [if_neg h]
    clear h
    go_enter Tryz.func34, Tryz.ntmps34
    go_wp2_with (go_at_call 36; refine HI.out.mono ?_; rintro e w' ⟨rfl, rfl⟩)
    go_ret
    exact ⟨rfl, rfl⟩
def rkSet : ByteArray := ⟨#[97, 98, 99, 100, 101, 102, 103, 104, 105, 106, 107, 108, 109, 110, 111, 112, 113, 114, 115, 116, 117, 118, 119, 120, 121, 122, 48, 49, 50, 51, 52, 53, 54, 55, 56, 57, 45, 95]⟩
theorem rtrim (s : ByteArray) (hs : s.size ≤ 40) (q : ByteArray) (hq : q = ⟨(Lib.trimS s.data.toList rkSet.data.toList).toArray⟩) (w : World) :
    Calls Tryz.prog 73 #[.string s, .string ⟨#[97, 98, 99, 100, 101, 102, 103, 104, 105, 106, 107, 108, 109, 110, 111, 112, 113, 114, 115, 116, 117, 118, 119, 120, 121, 122, 48, 49, 50, 51, 52, 53, 54, 55, 56, 57, 45, 95]⟩] w fun e w' => e = .returned (.string q) ∧ Below w.heap.size w w' := by
  subst hq
  exact Any.strings_Trim_laid lay160 (by kernel_rfl) s rkSet w (by omega) (by decide) (ascii_of_all (by decide))
theorem ribyte (c : Int) (w : World) : Calls Tryz.prog 74 #[.string ⟨#[97, 98, 99, 100, 101, 102, 103, 104, 105, 106, 107, 108, 109, 110, 111, 112, 113, 114, 115, 116, 117, 118, 119, 120, 121, 122]⟩, .int .u8 c] w fun e w' => ∃ z : Int, e = .returned (.int .i64 z) ∧ w = w' := by
  refine (Any.strings_IndexByte lay137 ⟨#[97, 98, 99, 100, 101, 102, 103, 104, 105, 106, 107, 108, 109, 110, 111, 112, 113, 114, 115, 116, 117, 118, 119, 120, 121, 122]⟩ c w).mono ?_
  rintro e w' ⟨h1, h2⟩
  exact ⟨_, h1, h2.symm⟩
set_option maxRecDepth 100000 in
theorem rkey_yes (s : ByteArray) (h1 : 1 ≤ s.size) (h2 : s.size ≤ 40) (ht : (⟨#[]⟩ : ByteArray) = ⟨(Lib.trimS s.data.toList rkSet.data.toList).toArray⟩) (w : World) :
    Calls Tryz.prog 35 #[.string s] w fun e w' => ∃ t : Bool, e = .returned (.bool t) ∧ Below w.heap.size w w' := by
  have h1I : (1 : Int) ≤ s.size := by omega
  have h2I : (s.size : Int) ≤ 40 := by omega
  have h0 : 0 < s.size := by omega
  have HT := Lib.hid (fun V => rtrim s h2 ⟨#[]⟩ ht V)
  clear ht
  go_enter Tryz.func35, Tryz.ntmps35
  go_wp2_with (go_at_call 36; refine (inR_yes _ _ _ h1I h2I _).mono ?_; rintro e w' ⟨rfl, rfl⟩)
  refine (HT.out _).mono ?_
  rintro e w1 ⟨rfl, hb1⟩
  have HB := Lib.hid hb1
  clear hb1
  go_wp2_with (fail)
  refine (ribyte _ _).mono ?_
  rintro e w2 ⟨z, rfl, rfl⟩
  go_wp2_with (fail)
  go_ret
  exact ⟨_, rfl, HB.out⟩
theorem rkey_nil (w : World) : Calls Tryz.prog 35 #[.string ⟨#[]⟩] w fun e w' => e = .returned (.bool false) ∧ Below w.heap.size w w' := by
  go_enter Tryz.func35, Tryz.ntmps35
  go_wp2_with (go_at_call 36; refine (inR_no _ _ _ (by decide) _).mono ?_; rintro e w' ⟨rfl, rfl⟩)
  go_ret
  exact ⟨rfl, Below.refl _ _⟩
set_option maxRecDepth 100000 in
theorem rkey_A (w : World) : Calls Tryz.prog 35 #[.string ⟨#[65]⟩] w fun e w' => e = .returned (.bool false) ∧ Below w.heap.size w w' := by
  have HT := Lib.hid (fun V => rtrim ⟨#[65]⟩ (by decide) ⟨#[65]⟩ (by rfl) V)
  go_enter Tryz.func35, Tryz.ntmps35
  go_wp2_with (go_at_call 36; refine (inR_yes _ _ _ (by decide) (by decide) _).mono ?_; rintro e w' ⟨rfl, rfl⟩)
  refine (HT.out _).mono ?_
  rintro e w1 ⟨rfl, hb1⟩
  have HB := Lib.hid hb1
  clear hb1
  go_wp2_with (fail)
  go_ret
  exact ⟨rfl, HB.out⟩
theorem rkey_dev (d : Nat) (w : World) : Calls Tryz.prog 35 #[.string (aldT d)] w fun e w' => ∃ t : Bool, e = .returned (.bool t) ∧ Below w.heap.size w w' := by
  match d with
  | 0 => exact rkey_yes _ (by decide) (by decide) (by rfl) w
  | 1 => exact rkey_yes _ (by decide) (by decide) (by rfl) w
  | n + 2 => exact rkey_yes _ (by show 1 ≤ (⟨#[100, 103]⟩ : ByteArray).size; decide) (by show (⟨#[100, 103]⟩ : ByteArray).size ≤ 40; decide) (by rfl) w
theorem rkey_rule (r : Nat) (w : World) : Calls Tryz.prog 35 #[.string (alrT r)] w fun e w' => ∃ t : Bool, e = .returned (.bool t) ∧ Below w.heap.size w w' := by
  match r with
  | 0 => exact rkey_yes _ (by decide) (by decide) (by rfl) w
  | n + 1 => exact rkey_yes _ (by show 1 ≤ (⟨#[114, 98]⟩ : ByteArray).size; decide) (by show (⟨#[114, 98]⟩ : ByteArray).size ≤ 40; decide) (by rfl) w
theorem rkey_who (b : Nat) (w : World) : Calls Tryz.prog 35 #[.string (alwT b)] w fun e w' => ∃ t : Bool, e = .returned (.bool t) ∧ (t = true → b = 1 ∨ b = 2) ∧ Below w.heap.size w w' := by
  match b with
  | 0 => exact (rkey_nil w).mono fun e w' h => ⟨false, h.1, by simp, h.2⟩
  | 1 => exact (rkey_yes _ (by decide) (by decide) (by rfl) w).mono fun e w' ⟨t, h1, h2⟩ => ⟨t, h1, fun _ => .inl rfl, h2⟩
  | 2 => exact (rkey_yes _ (by decide) (by decide) (by rfl) w).mono fun e w' ⟨t, h1, h2⟩ => ⟨t, h1, fun _ => .inr rfl, h2⟩
  | n + 3 => exact (rkey_A w).mono fun e w' h => ⟨false, h.1, by simp, h.2⟩
end Go.Proofs.YtldohjamiofkpaaGreatDoor

/- fleetref1.SignalsFault: where it answers 0, the signals are right. Printed by gen_SgX.py. -/
namespace Go.Proofs.YtldohjamiofkpaaGreatDoor
open Go.RowKit Go.Shelf Go.Sort

/-- A right signal. -/
structure SgR (s : Sg) : Prop where
  d : s.d < 3
  r : s.r < 2
  at0 : 0 ≤ s.at_
  at1 : s.at_ < 345686400000
  kd : 1 ≤ s.kd ∧ s.kd ≤ 5
  who : 3 ≤ s.kd → s.b = 1 ∨ s.b = 2
  none_ : s.kd < 3 → s.b = 0
  shelf : s.kd = 4 → s.at_ + 1 ≤ s.un ∧ s.un ≤ s.at_ + 2592000000 ∧ s.un ≤ 345686400000
  plain : s.kd ≠ 4 → s.un = 0
def SgsOk (l : List Sg) : Prop := (∀ s ∈ l, SgR s) ∧ l.Pairwise SgL
theorem SgL.trans {a b c : Sg} (h : SgL a b) (k : SgL b c) : SgL a c := by unfold SgL at *; omega
theorem SgsOk.nil : SgsOk [] := ⟨by simp, List.Pairwise.nil⟩
theorem SgsOk.snoc {l : List Sg} {s : Sg} (h : SgsOk l) (hs : SgR s) (hl : ∀ q, l.getLast? = some q → SgL q s) : SgsOk (l ++ [s]) := by
  refine ⟨fun x hx => ?_, List.pairwise_append.2 ⟨h.2, List.pairwise_singleton _ _, fun a ha b hb => ?_⟩⟩
  · rw [List.mem_append, List.mem_singleton] at hx
    rcases hx with hx | rfl
    · exact h.1 x hx
    · exact hs
  · rw [List.mem_singleton] at hb
    subst hb
    obtain ⟨i, hi, rfl⟩ := List.getElem_of_mem ha
    have hne : l ≠ [] := by intro e; subst e; cases ha
    have hlast := hl _ (List.getLast?_eq_some_getLast hne)
    rw [List.getLast_eq_getElem] at hlast
    rcases Nat.lt_or_ge i (l.length - 1) with h1 | h1
    · exact ((List.pairwise_iff_getElem.1 h.2) i (l.length - 1) hi (by omega) h1).trans hlast
    · have : i = l.length - 1 := by omega
      subst this
      exact hlast
theorem take_last {l : List Sg} {i : Nat} {q : Sg} (hi : 1 ≤ i) (hq : l[i - 1]? = some q) : (l.take i).getLast? = some q := by
  have hlt : i - 1 < l.length := (List.getElem?_eq_some_iff.1 hq).1
  rw [List.getLast?_eq_getElem?, List.length_take, Nat.min_eq_left (by omega), List.getElem?_take_of_lt (by omega)]
  exact hq
theorem cmp_neg {q x : Sg} (h : ¬ 0 ≤ sgCmp q x) : SgL q x := (sgCmp_lt q x).1 (by omega)
theorem alw_zero (b : Nat) : (decide ((alwT b).toList = [])) = decide (b = 0) := by
  match b with
  | 0 => decide +kernel
  | 1 => decide +kernel
  | 2 => decide +kernel
  | n + 3 => rw [show alwT (n + 3) = ⟨#[65]⟩ from rfl, decide_eq_false (show ¬ (n + 3 = 0) by omega)]; decide +kernel
def SgAt3 (V : World) (b o : Nat) (x : Sg) (g : Nat) (y : Sg) : Prop :=
  V.cell? ⟨b, o, none⟩ = some (.int .i64 x.at_) ∧ V.cell? ⟨b, o + 1, none⟩ = some (.int .i64 x.kd) ∧ V.cell? ⟨b, o + 2, none⟩ = some (.string (aldT x.d)) ∧ V.cell? ⟨b, o + 3, none⟩ = some (.string (alrT x.r)) ∧ V.cell? ⟨b, o + 4, none⟩ = some (.string (alwT x.b)) ∧ V.cell? ⟨b, o + 5, none⟩ = some (.int .i64 x.un) ∧ V.cell? ⟨g, 0, none⟩ = some (.int .i64 y.at_) ∧ V.cell? ⟨g, 1, none⟩ = some (.int .i64 y.kd) ∧ V.cell? ⟨g, 2, none⟩ = some (.string (aldT y.d)) ∧ V.cell? ⟨g, 3, none⟩ = some (.string (alrT y.r)) ∧ V.cell? ⟨g, 4, none⟩ = some (.string (alwT y.b)) ∧ V.cell? ⟨g, 5, none⟩ = some (.int .i64 y.un)
theorem sgAt3 {V : World} {b o g : Nat} {x y : Sg} (h : SgAt V b o x) (k : SgB V g y) : SgAt3 V b o x g y :=
  ⟨h.1, h.2.1, h.2.2.1, h.2.2.2.1, h.2.2.2.2.1, h.2.2.2.2.2, k.1, k.2.1, k.2.2.1, k.2.2.2.1, k.2.2.2.2.1, k.2.2.2.2.2⟩
def FaultP (w : World) (l : List Sg) (e : Ending) (w' : World) : Prop := ∃ z : Int, e = .returned (.int .i64 z) ∧ (z = 0 → SgsOk l) ∧ Below w.heap.size w w'
theorem FaultP.no {w w' : World} {l : List Sg} {z : Int} (hz : z ≠ 0) (hb : Below w.heap.size w w') : FaultP w l (.returned (.int .i64 z)) w' := ⟨z, rfl, fun h => absurd h hz, hb⟩
set_option maxRecDepth 100000 in
set_option maxHeartbeats 4000000 in
theorem sigsFault_any (l : List Sg) (n c : Nat) (A : Option Addr) (w : World) (hn : l.length = n) (hn2 : n ≤ 1000) (hr : Row w w.heap.size A (recs sgC l)) (hg : ∀ x ∈ l, SgG x) :
    Calls Tryz.prog 9 #[.slice A n c] w fun e w' => FaultP w l e w' := by
  have HR := Lib.hid hr
  have HN := Lib.hid hn
  have HG := Lib.hid hg
  have hnI2 : ¬ (5000 : Int) < n := by omega
  clear hr hn hg
  go_enter Tryz.func9, Tryz.ntmps9
  go_wp2_with (fail)
  go_loopw [12] (fun s wr => ∃ (i : Nat), i ≤ n ∧ s = .int .i64 (i : Int) ∧ Below w.heap.size w wr ∧ Hid (SgsOk (l.take i))) (fun s _ => n - (intOf s).toNat)
  case atStart => exact ⟨0, by omega, rfl, Below.refl _ _, Lib.hid (by simpa using SgsOk.nil)⟩
  case round =>
    obtain ⟨i, hin, rfl, hbr, HOK⟩ := hrel
    have hbs := hbr.size
    have HB := Lib.hid hbr
    clear hbr
    by_cases hlt : i < n
    · have hltI : (i : Int) < n := by omega
      obtain ⟨x, hx⟩ : ∃ x, l[i]? = some x := ⟨_, List.getElem?_eq_getElem (by have := HN.out; omega)⟩
      obtain ⟨b, o, rfl, hb, hC⟩ := (HR.out.below HB.out).posR sgC_len (by omega) (by have := HN.out; omega)
      have HX := Lib.hid (HG.out x (List.mem_of_getElem? hx))
      obtain ⟨c0, c1, c2, c3, c4, c5⟩ := sg_cells hC i x hx
      have HP := Lib.hid hx
      have hb' : b < wr.heap.size := by omega
      clear hx hC
      go_upto_region 6 with (fail)
      obtain ⟨g, eg⟩ : ∃ g, g = wr.heap.size := ⟨_, rfl⟩
      obtain ⟨w5, e5⟩ : ∃ w5, w5 = wr.alloc (.cells #[.int .i64 x.at_, .int .i64 x.kd, .string (aldT x.d), .string (alrT x.r), .string (alwT x.b), .int .i64 x.un] 79) := ⟨_, rfl⟩
      rw [← eg, ← e5]
      have hg5 : w5.heap[g]? = some (sgBk x) := by rw [e5, eg]; exact heap_new wr _
      have HB5 := Lib.hid (show Below w.heap.size w w5 from by rw [e5]; exact HB.out.alloc hbs _)
      have hlt5 : g < w5.heap.size := by rw [e5, eg]; simp
      have hbs5 := HB5.out.size
      have HQ := Lib.hid (fun (V : World) (hV : Below w5.heap.size w5 V) => show SgB V g x from sg_blk ((hV.block g hlt5).trans hg5))
      obtain ⟨q0, q1, q2, q3, q4, q5⟩ := sg_blk hg5
      clear eg e5 hg5 c0 c1 c2 c3 c4 c5
      go_quiet (fail)
      obtain ⟨w6, e6⟩ : ∃ w6, w6 = w5.drewN nq := ⟨_, rfl⟩
      rw [← e6]
      obtain ⟨p3, hp3⟩ : ∃ t : Bool, t = decide (3 ≤ x.kd) := ⟨_, rfl⟩
      obtain ⟨s4, hs4⟩ : ∃ t : Bool, t = (x.kd == 4) := ⟨_, rfl⟩
      rw [← hp3, ← hs4]
      have HP3 := Lib.hid (show p3 = true ↔ 3 ≤ x.kd from by rw [hp3]; simp)
      have HS4 := Lib.hid (show s4 = true ↔ x.kd = 4 from by rw [hs4]; simp)
      have HB6 := Lib.hid (show Below w.heap.size w w6 from by rw [e6]; exact below_drewN HB5.out _)
      have HQ6 := Lib.hid (show ∀ V, Below w6.heap.size w6 V → SgB V g x from fun V hV => HQ.out V (by subst e6; exact ⟨hV.os, hV.tape, hV.output, hV.size, hV.block⟩))
      have hs6 : w6.heap.size = w5.heap.size := by rw [e6]; rfl
      have hlt6 : g < w6.heap.size := by omega
      clear e6 hp3 hs4 q0 q1 q2 q3 q4 q5 HQ
      obtain ⟨q0, q1, q2, q3, q4, q5⟩ := HQ6.out w6 (Below.refl _ _)
      go_wp2_with (fail)
      refine (momF_any _ _).mono ?_
      rintro e w' ⟨rfl, rfl⟩
      by_cases hm : 0 ≤ x.at_ ∧ x.at_ ≤ 345686399999
      case neg =>
        rw [if_neg hm]
        clear hm
        go_wp2_with (fail)
        go_ret
        exact FaultP.no (by decide) HB6.out
      rw [if_pos hm]
      have HM := Lib.hid hm
      clear hm
      go_wp2_with (fail)
      refine (rkey_dev x.d _).mono ?_
      rintro e w7 ⟨t1, rfl, hb7⟩
      have hs7 := hb7.size
      have HB7 := Lib.hid (HB6.out.trans (hb7.mono (by omega)))
      have HB67 := Lib.hid hb7
      have hlt7 : g < w7.heap.size := by omega
      clear q0 q1 q2 q3 q4 q5 hb7
      obtain ⟨q0, q1, q2, q3, q4, q5⟩ := HQ6.out w7 HB67.out
      cases t1
      case false =>
        go_wp2_with (fail)
        go_ret
        exact FaultP.no (by decide) HB7.out
      go_wp2_with (fail)
      refine (rkey_rule x.r _).mono ?_
      rintro e w8 ⟨t2, rfl, hb8⟩
      have hs8 := hb8.size
      have HB8 := Lib.hid (HB7.out.trans (hb8.mono (by omega)))
      have HB68 := Lib.hid (HB67.out.trans (hb8.mono (by omega)))
      have hlt8 : g < w8.heap.size := by omega
      clear q0 q1 q2 q3 q4 q5 hb8
      obtain ⟨q0, q1, q2, q3, q4, q5⟩ := HQ6.out w8 HB68.out
      cases t2
      case false =>
        go_wp2_with (fail)
        go_ret
        exact FaultP.no (by decide) HB8.out
      go_wp2_with (fail)
      refine (inR_any _ _ _ _).mono ?_
      rintro e w' ⟨rfl, rfl⟩
      by_cases hk : 1 ≤ x.kd ∧ x.kd ≤ 5
      case neg =>
        rw [decide_eq_false hk]
        clear hk
        go_wp2_with (fail)
        go_ret
        exact FaultP.no (by decide) HB8.out
      rw [decide_eq_true hk]
      have HK := Lib.hid hk
      clear hk
      cases p3
      case true =>
        go_wp2_with (fail)
        refine (rkey_who x.b _).mono ?_
        rintro e w9 ⟨t3, rfl, hw9, hb9⟩
        have hs9 := hb9.size
        have HB9 := Lib.hid (HB8.out.trans (hb9.mono (by omega)))
        have HB69 := Lib.hid (HB68.out.trans (hb9.mono (by omega)))
        have hlt9 : g < w9.heap.size := by omega
        have HW := Lib.hid hw9
        clear q0 q1 q2 q3 q4 q5 hb9 hw9
        obtain ⟨q0, q1, q2, q3, q4, q5⟩ := HQ6.out w9 HB69.out
        cases t3
        case false =>
          go_wp2_with (fail)
          go_ret
          exact FaultP.no (by decide) HB9.out
        cases s4
        case true =>
          have hwa : IntKind.i64.wrap (x.at_ + 1) = x.at_ + 1 := by have := HM.out; rw [IntKind.wrap_i64]; omega
          have hwb : IntKind.i64.wrap (x.at_ + 2592000000) = x.at_ + 2592000000 := by have := HM.out; rw [IntKind.wrap_i64]; omega
          go_wp2_with (fail)
          refine (inR_any _ _ _ _).mono ?_
          rintro e w' ⟨rfl, rfl⟩
          by_cases hsh : x.at_ + 1 ≤ x.un ∧ x.un ≤ min (x.at_ + 2592000000) 345686400000
          case neg =>
            rw [decide_eq_false hsh]
            clear hsh
            go_wp2_with (fail)
            go_ret
            exact FaultP.no (by decide) HB9.out
          rw [decide_eq_true hsh]
          have HR1 := Lib.hid (show SgR x from ⟨HX.out.d, HX.out.r, HM.out.1, by have := HM.out; omega, HK.out, fun _ => (by simpa using HW.out), fun h => by have h4 : x.kd = 4 := (by simpa using HS4.out); omega, fun _ => by omega, fun h => absurd (show x.kd = 4 from by simpa using HS4.out) h⟩)
          clear hsh hwa hwb
          by_cases hi0 : i = 0
          case pos =>
            subst hi0
            have hd : decide ((0 : Int) < 0) = false := by decide
            have HOK2 := Lib.hid (show SgsOk (l.take (0 + 1)) from by
              rw [List.take_add_one, HP.out]
              exact SgsOk.snoc HOK.out HR1.out (fun q hq => by simp at hq))
            go_wp2_with (fail)
            go_quiet (fail)
            go_wp2_with (fail)
            go_roundw
            case rel => exact ⟨1, by omega, by simp, below_drewN HB9.out _, HOK2⟩
            case measure => simp [intOf]; omega
          have hi1I : (0 : Int) < i := by omega
          have hd : decide ((0 : Int) < i) = true := by simpa using hi1I
          have hd2 : decide (0 < i) = true := by simp; omega
          have hd3 : 0 < i := by omega
          obtain ⟨q, hq⟩ : ∃ q, l[i - 1]? = some q := ⟨_, List.getElem?_eq_getElem (by have := HN.out; omega)⟩
          obtain ⟨b2, o2, e2, hb2, hC2⟩ := HR.out.posR sgC_len (by omega) (by have := HN.out; omega)
          cases e2
          have HSA := Lib.hid (sg_cells hC2 (i - 1) q hq)
          have hwrap : (i : Int) - 1 = ((i - 1 : Nat) : Int) := by omega
          have hwr : IntKind.i64.wrap ((i - 1 : Nat) : Int) = ((i - 1 : Nat) : Int) := by rw [IntKind.wrap_i64]; omega
          have hxI : ((i - 1 : Nat) : Int) < (n : Int) := by omega
          have hxN : i - 1 < n := by omega
          have HTL := Lib.hid (take_last hd3 hq)
          have HQ9 := Lib.hid (fun (V : World) (hV : Below w9.heap.size w9 V) => show SgAt3 V b (o + (i - 1) * 6) q g x from
            sgAt3 (HSA.out.below (HB9.out.trans (hV.mono HB9.out.size)) hb2) (HQ6.out V (HB69.out.trans (hV.mono HB69.out.size))))
          have HSO := Lib.hid (fun V => show Calls Tryz.prog 29 #[.agg #[.int .i64 q.at_, .int .i64 q.kd, .string (aldT q.d), .string (alrT q.r), .string (alwT q.b), .int .i64 q.un], .agg #[.int .i64 x.at_, .int .i64 x.kd, .string (aldT x.d), .string (alrT x.r), .string (alwT x.b), .int .i64 x.un]] V _ from signalOrder_grow q x V)
          obtain ⟨r, er⟩ : ∃ r, r = sgCmp q x := ⟨_, rfl⟩
          rw [← er] at HSO
          have HRL := Lib.hid (show ¬ 0 ≤ r → SgL q x from by rw [er]; exact cmp_neg)
          go_upto_region 21 with (fail)
          clear hq hC2 er q0 q1 q2 q3 q4 q5
          go_upto_region 21 with (fail)
          refine qRegionTail 9 (by kernel_rfl) (by kernel_rfl) ?_
          simp only [List.take_succ_cons, List.take_zero, List.drop_succ_cons, List.drop_zero]
          repeat (first
            | (go_big_quiet_want; refine qVal (fun V hV => (by (obtain ⟨r0, r1, r2, r3, r4, r5, s0, s1, s2, s3, s4', s5⟩ := HQ9.out V hV; go_simp; try rfl))) ?_; simp only [Act.put, List.setIfInBounds_toArray, List.set_cons_zero, List.set_cons_succ]; go_big_quiet_on)
            | go_big_quiet_skip)
          refine wpQuiet_nil ?_
          intro w10 hb10
          have HB10 := Lib.hid (HB9.out.trans (hb10.mono HB9.out.size))
          clear hb10
          go_wp2_with (fail)
          refine (HSO.out w10).mono ?_
          rintro e w11 ⟨rfl, qn, os, rfl⟩
          have HB11 := Lib.hid (HB10.out.trans ((below_grow w10 qn os).mono HB10.out.size))
          by_cases hr0 : 0 ≤ r
          case pos =>
            go_wp2_with (fail)
            go_ret
            exact FaultP.no (by decide) HB11.out
          have HOK2 := Lib.hid (show SgsOk (l.take (i + 1)) from by
            rw [List.take_add_one, HP.out]
            exact SgsOk.snoc HOK.out HR1.out (fun q' hq' => by rw [HTL.out] at hq'; cases hq'; exact HRL.out (by omega)))
          go_wp2_with (fail)
          go_roundw
          case rel => exact ⟨i + 1, by omega, by simp, HB11.out, HOK2⟩
          case measure => simp [intOf]; omega
        case false =>
          by_cases hun : x.un = 0
          case neg =>
            have hunb : (x.un != 0) = true := by simpa using hun
            go_wp2_with (fail)
            go_ret
            exact FaultP.no (by decide) HB9.out
          have hunb : (x.un != 0) = false := by simpa using hun
          have HR1 := Lib.hid (show SgR x from ⟨HX.out.d, HX.out.r, HM.out.1, by have := HM.out; omega, HK.out, fun _ => (by simpa using HW.out), (fun h => by have h3 : 3 ≤ x.kd := (by simpa using HP3.out); omega), (fun h => by have h4 : ¬ x.kd = 4 := (by simpa using HS4.out); exact absurd h h4), fun _ => hun⟩)
          clear hun
          by_cases hi0 : i = 0
          case pos =>
            subst hi0
            have hd : decide ((0 : Int) < 0) = false := by decide
            have HOK2 := Lib.hid (show SgsOk (l.take (0 + 1)) from by
              rw [List.take_add_one, HP.out]
              exact SgsOk.snoc HOK.out HR1.out (fun q hq => by simp at hq))
            go_wp2_with (fail)
            go_quiet (fail)
            go_wp2_with (fail)
            go_roundw
            case rel => exact ⟨1, by omega, by simp, below_drewN HB9.out _, HOK2⟩
            case measure => simp [intOf]; omega
          have hi1I : (0 : Int) < i := by omega
          have hd : decide ((0 : Int) < i) = true := by simpa using hi1I
          have hd2 : decide (0 < i) = true := by simp; omega
          have hd3 : 0 < i := by omega
          obtain ⟨q, hq⟩ : ∃ q, l[i - 1]? = some q := ⟨_, List.getElem?_eq_getElem (by have := HN.out; omega)⟩
          obtain ⟨b2, o2, e2, hb2, hC2⟩ := HR.out.posR sgC_len (by omega) (by have := HN.out; omega)
          cases e2
          have HSA := Lib.hid (sg_cells hC2 (i - 1) q hq)
          have hwrap : (i : Int) - 1 = ((i - 1 : Nat) : Int) := by omega
          have hwr : IntKind.i64.wrap ((i - 1 : Nat) : Int) = ((i - 1 : Nat) : Int) := by rw [IntKind.wrap_i64]; omega
          have hxI : ((i - 1 : Nat) : Int) < (n : Int) := by omega
          have hxN : i - 1 < n := by omega
          have HTL := Lib.hid (take_last hd3 hq)
          have HQ9 := Lib.hid (fun (V : World) (hV : Below w9.heap.size w9 V) => show SgAt3 V b (o + (i - 1) * 6) q g x from
            sgAt3 (HSA.out.below (HB9.out.trans (hV.mono HB9.out.size)) hb2) (HQ6.out V (HB69.out.trans (hV.mono HB69.out.size))))
          have HSO := Lib.hid (fun V => show Calls Tryz.prog 29 #[.agg #[.int .i64 q.at_, .int .i64 q.kd, .string (aldT q.d), .string (alrT q.r), .string (alwT q.b), .int .i64 q.un], .agg #[.int .i64 x.at_, .int .i64 x.kd, .string (aldT x.d), .string (alrT x.r), .string (alwT x.b), .int .i64 x.un]] V _ from signalOrder_grow q x V)
          obtain ⟨r, er⟩ : ∃ r, r = sgCmp q x := ⟨_, rfl⟩
          rw [← er] at HSO
          have HRL := Lib.hid (show ¬ 0 ≤ r → SgL q x from by rw [er]; exact cmp_neg)
          go_upto_region 21 with (fail)
          clear hq hC2 er q0 q1 q2 q3 q4 q5
          go_upto_region 21 with (fail)
          refine qRegionTail 9 (by kernel_rfl) (by kernel_rfl) ?_
          simp only [List.take_succ_cons, List.take_zero, List.drop_succ_cons, List.drop_zero]
          repeat (first
            | (go_big_quiet_want; refine qVal (fun V hV => (by (obtain ⟨r0, r1, r2, r3, r4, r5, s0, s1, s2, s3, s4', s5⟩ := HQ9.out V hV; go_simp; try rfl))) ?_; simp only [Act.put, List.setIfInBounds_toArray, List.set_cons_zero, List.set_cons_succ]; go_big_quiet_on)
            | go_big_quiet_skip)
          refine wpQuiet_nil ?_
          intro w10 hb10
          have HB10 := Lib.hid (HB9.out.trans (hb10.mono HB9.out.size))
          clear hb10
          go_wp2_with (fail)
          refine (HSO.out w10).mono ?_
          rintro e w11 ⟨rfl, qn, os, rfl⟩
          have HB11 := Lib.hid (HB10.out.trans ((below_grow w10 qn os).mono HB10.out.size))
          by_cases hr0 : 0 ≤ r
          case pos =>
            go_wp2_with (fail)
            go_ret
            exact FaultP.no (by decide) HB11.out
          have HOK2 := Lib.hid (show SgsOk (l.take (i + 1)) from by
            rw [List.take_add_one, HP.out]
            exact SgsOk.snoc HOK.out HR1.out (fun q' hq' => by rw [HTL.out] at hq'; cases hq'; exact HRL.out (by omega)))
          go_wp2_with (fail)
          go_roundw
          case rel => exact ⟨i + 1, by omega, by simp, HB11.out, HOK2⟩
          case measure => simp [intOf]; omega
      case false =>
        have hb4 := HX.out.b
        by_cases hb0 : x.b = 0
        case neg =>
          obtain h | h | h : x.b = 1 ∨ x.b = 2 ∨ x.b = 3 := by omega
          · have e4 : alwT x.b = ⟨#[97, 110, 110]⟩ := by rw [h]; rfl
            rw [e4] at q4
            go_wp2_with (fail)
            go_ret
            exact FaultP.no (by decide) HB8.out
          · have e4 : alwT x.b = ⟨#[98, 111, 98]⟩ := by rw [h]; rfl
            rw [e4] at q4
            go_wp2_with (fail)
            go_ret
            exact FaultP.no (by decide) HB8.out
          · have e4 : alwT x.b = ⟨#[65]⟩ := by rw [h]; rfl
            rw [e4] at q4
            go_wp2_with (fail)
            go_ret
            exact FaultP.no (by decide) HB8.out
        have e4 : alwT x.b = ⟨#[]⟩ := by rw [hb0]; rfl
        rw [e4] at q4
        cases s4
        case true =>
          exfalso
          have h1 : x.kd = 4 := (by simpa using HS4.out)
          have h2 : ¬ 3 ≤ x.kd := (by simpa using HP3.out)
          omega
        by_cases hun : x.un = 0
        case neg =>
          have hunb : (x.un != 0) = true := by simpa using hun
          go_wp2_with (fail)
          go_ret
          exact FaultP.no (by decide) HB8.out
        have hunb : (x.un != 0) = false := by simpa using hun
        have HR1 := Lib.hid (show SgR x from ⟨HX.out.d, HX.out.r, HM.out.1, by have := HM.out; omega, HK.out, (fun h => by have h3 : ¬ 3 ≤ x.kd := (by simpa using HP3.out); omega), fun _ => hb0, (fun h => by have h4 : ¬ x.kd = 4 := (by simpa using HS4.out); exact absurd h h4), fun _ => hun⟩)
        clear hun
        by_cases hi0 : i = 0
        case pos =>
          subst hi0
          have hd : decide ((0 : Int) < 0) = false := by decide
          have HOK2 := Lib.hid (show SgsOk (l.take (0 + 1)) from by
            rw [List.take_add_one, HP.out]
            exact SgsOk.snoc HOK.out HR1.out (fun q hq => by simp at hq))
          go_wp2_with (fail)
          go_quiet (fail)
          go_wp2_with (fail)
          go_roundw
          case rel => exact ⟨1, by omega, by simp, below_drewN HB8.out _, HOK2⟩
          case measure => simp [intOf]; omega
        have hi1I : (0 : Int) < i := by omega
        have hd : decide ((0 : Int) < i) = true := by simpa using hi1I
        have hd2 : decide (0 < i) = true := by simp; omega
        have hd3 : 0 < i := by omega
        obtain ⟨q, hq⟩ : ∃ q, l[i - 1]? = some q := ⟨_, List.getElem?_eq_getElem (by have := HN.out; omega)⟩
        obtain ⟨b2, o2, e2, hb2, hC2⟩ := HR.out.posR sgC_len (by omega) (by have := HN.out; omega)
        cases e2
        have HSA := Lib.hid (sg_cells hC2 (i - 1) q hq)
        have hwrap : (i : Int) - 1 = ((i - 1 : Nat) : Int) := by omega
        have hwr : IntKind.i64.wrap ((i - 1 : Nat) : Int) = ((i - 1 : Nat) : Int) := by rw [IntKind.wrap_i64]; omega
        have hxI : ((i - 1 : Nat) : Int) < (n : Int) := by omega
        have hxN : i - 1 < n := by omega
        have HTL := Lib.hid (take_last hd3 hq)
        have HQ9 := Lib.hid (fun (V : World) (hV : Below w8.heap.size w8 V) => show SgAt3 V b (o + (i - 1) * 6) q g x from
          sgAt3 (HSA.out.below (HB8.out.trans (hV.mono HB8.out.size)) hb2) (HQ6.out V (HB68.out.trans (hV.mono HB68.out.size))))
        have HSO := Lib.hid (fun V => show Calls Tryz.prog 29 #[.agg #[.int .i64 q.at_, .int .i64 q.kd, .string (aldT q.d), .string (alrT q.r), .string (alwT q.b), .int .i64 q.un], .agg #[.int .i64 x.at_, .int .i64 x.kd, .string (aldT x.d), .string (alrT x.r), .string (alwT x.b), .int .i64 x.un]] V _ from signalOrder_grow q x V)
        obtain ⟨r, er⟩ : ∃ r, r = sgCmp q x := ⟨_, rfl⟩
        rw [← er] at HSO
        have HRL := Lib.hid (show ¬ 0 ≤ r → SgL q x from by rw [er]; exact cmp_neg)
        go_upto_region 21 with (fail)
        clear hq hC2 er e4 hb0 q0 q1 q2 q3 q4 q5
        go_upto_region 21 with (fail)
        refine qRegionTail 9 (by kernel_rfl) (by kernel_rfl) ?_
        simp only [List.take_succ_cons, List.take_zero, List.drop_succ_cons, List.drop_zero]
        repeat (first
          | (go_big_quiet_want; refine qVal (fun V hV => (by (obtain ⟨r0, r1, r2, r3, r4, r5, s0, s1, s2, s3, s4', s5⟩ := HQ9.out V hV; go_simp; try rfl))) ?_; simp only [Act.put, List.setIfInBounds_toArray, List.set_cons_zero, List.set_cons_succ]; go_big_quiet_on)
          | go_big_quiet_skip)
        refine wpQuiet_nil ?_
        intro w10 hb10
        have HB10 := Lib.hid (HB8.out.trans (hb10.mono HB8.out.size))
        clear hb10
        go_wp2_with (fail)
        refine (HSO.out w10).mono ?_
        rintro e w11 ⟨rfl, qn, os, rfl⟩
        have HB11 := Lib.hid (HB10.out.trans ((below_grow w10 qn os).mono HB10.out.size))
        by_cases hr0 : 0 ≤ r
        case pos =>
          go_wp2_with (fail)
          go_ret
          exact FaultP.no (by decide) HB11.out
        have HOK2 := Lib.hid (show SgsOk (l.take (i + 1)) from by
          rw [List.take_add_one, HP.out]
          exact SgsOk.snoc HOK.out HR1.out (fun q' hq' => by rw [HTL.out] at hq'; cases hq'; exact HRL.out (by omega)))
        go_wp2_with (fail)
        go_roundw
        case rel => exact ⟨i + 1, by omega, by simp, HB11.out, HOK2⟩
        case measure => simp [intOf]; omega
    · have hltI : ¬ (i : Int) < n := by omega
      have hin' : i = n := by omega
      subst hin'
      go_wp2_with (fail)
      go_ret
      exact ⟨0, rfl, fun _ => by have := HOK.out; rwa [← HN.out, List.take_length] at this, HB.out⟩
end Go.Proofs.YtldohjamiofkpaaGreatDoor

/- alarm.CheckSignals and nameFault of right signals: nothing is wrong. Printed by gen_SgC.py. -/
namespace Go.Proofs.YtldohjamiofkpaaGreatDoor
open Go.RowKit Go.Shelf Go.Sort

theorem key_dev (d : Nat) (w : World) : Calls Tryz.prog 69 #[.string (aldT d)] w fun e w' => e = .returned (.bool true) ∧ w = w' := by
  match d with
  | 0 => exact key_yes ⟨#[100, 97]⟩ w (by kernel_rfl)
  | 1 => exact key_yes ⟨#[100, 98]⟩ w (by kernel_rfl)
  | n + 2 => exact key_yes ⟨#[100, 103]⟩ w (by kernel_rfl)
theorem key_rule (r : Nat) (w : World) : Calls Tryz.prog 69 #[.string (alrT r)] w fun e w' => e = .returned (.bool true) ∧ w = w' := by
  match r with
  | 0 => exact key_yes ⟨#[114, 97]⟩ w (by kernel_rfl)
  | n + 1 => exact key_yes ⟨#[114, 98]⟩ w (by kernel_rfl)
theorem key_who (b : Nat) (hb : b = 1 ∨ b = 2) (w : World) : Calls Tryz.prog 69 #[.string (alwT b)] w fun e w' => e = .returned (.bool true) ∧ w = w' := by
  rcases hb with rfl | rfl
  · exact key_yes ⟨#[97, 110, 110]⟩ w (by kernel_rfl)
  · exact key_yes ⟨#[98, 111, 98]⟩ w (by kernel_rfl)
set_option maxRecDepth 100000 in
set_option maxHeartbeats 2000000 in
theorem sigFault_ok (x : Sg) (w : World) (h : SgR x) : Calls Tryz.prog 91 #[.agg #[.int .i64 x.at_, .int .i64 x.kd, .string (aldT x.d), .string (alrT x.r), .string (alwT x.b), .int .i64 x.un]] w fun e w' => e = .returned (.int .i64 0) ∧ Below w.heap.size w w' := by
  obtain ⟨at_, kd, d, r, b, un⟩ := x
  obtain ⟨hd, hr, h0, h1, hk, hw, hn, hs, hp⟩ := h
  simp only at hd hr h0 h1 hk hw hn hs hp ⊢
  have HD := Lib.hid (fun V => key_dev d V)
  have HRu := Lib.hid (fun V => key_rule r V)
  by_cases h3 : 3 ≤ kd
  · have HW := Lib.hid (fun V => key_who b (hw h3) V)
    by_cases h4 : kd = 4
    · obtain ⟨s1, s2, s3⟩ := hs h4
      subst h4
      clear hw hn hs hp hk h3
      have hwa : IntKind.i64.wrap (at_ + 1) = at_ + 1 := by rw [IntKind.wrap_i64]; omega
      have hwb : IntKind.i64.wrap (at_ + 2592000000) = at_ + 2592000000 := by rw [IntKind.wrap_i64]; omega
      have h3n : ¬ (345686400000 : Int) < un := by omega
      go_enter Tryz.func91, Tryz.ntmps91
      go_wp2_with (go_at_call 56; refine (moment_yes _ _ h0 h1).mono ?_; rintro e w' ⟨rfl, rfl⟩)
      refine (HD.out _).mono ?_
      rintro e w1 ⟨rfl, rfl⟩
      go_wp2_with (fail)
      refine (HRu.out _).mono ?_
      rintro e w1 ⟨rfl, rfl⟩
      go_wp2_with (go_at_call 79; refine (out_no _ _ _ _ (by omega) (by omega)).mono ?_; rintro e w' ⟨rfl, rfl⟩)
      refine (HW.out _).mono ?_
      rintro e w1 ⟨rfl, rfl⟩
      go_wp2_with (go_at_call 79; refine (out_no _ _ _ _ (by omega) (by omega)).mono ?_; rintro e w' ⟨rfl, rfl⟩)
      go_ret
      exact ⟨rfl, (Below.refl _ _).alloc (Nat.le_refl _) _⟩
    · have hun := hp h4
      subst hun
      have h4b : (kd == 4) = false := by simpa using h4
      clear hw hn hs hp h4
      go_enter Tryz.func91, Tryz.ntmps91
      go_wp2_with (go_at_call 56; refine (moment_yes _ _ h0 h1).mono ?_; rintro e w' ⟨rfl, rfl⟩)
      refine (HD.out _).mono ?_
      rintro e w1 ⟨rfl, rfl⟩
      go_wp2_with (fail)
      refine (HRu.out _).mono ?_
      rintro e w1 ⟨rfl, rfl⟩
      go_wp2_with (go_at_call 79; refine (out_no _ _ _ _ hk.1 hk.2).mono ?_; rintro e w' ⟨rfl, rfl⟩)
      refine (HW.out _).mono ?_
      rintro e w1 ⟨rfl, rfl⟩
      go_wp2_with (fail)
      go_ret
      exact ⟨rfl, (Below.refl _ _).alloc (Nat.le_refl _) _⟩
  · have hb := hn (by omega)
    subst hb
    have h4 : ¬ kd = 4 := by omega
    have hun := hp h4
    subst hun
    have h4b : (kd == 4) = false := by simpa using h4
    clear hw hn hs hp h4
    simp only [alwT]
    go_enter Tryz.func91, Tryz.ntmps91
    go_wp2_with (go_at_call 56; refine (moment_yes _ _ h0 h1).mono ?_; rintro e w' ⟨rfl, rfl⟩)
    refine (HD.out _).mono ?_
    rintro e w1 ⟨rfl, rfl⟩
    go_wp2_with (fail)
    refine (HRu.out _).mono ?_
    rintro e w1 ⟨rfl, rfl⟩
    go_wp2_with (go_at_call 79; refine (out_no _ _ _ _ hk.1 hk.2).mono ?_; rintro e w' ⟨rfl, rfl⟩)
    go_ret
    exact ⟨rfl, (Below.refl _ _).alloc (Nat.le_refl _) _⟩

theorem pair_get {l : List Sg} (h : l.Pairwise SgL) {i k : Nat} {x y : Sg} (hi : l[i]? = some x) (hk : l[k]? = some y) (hik : i < k) : SgL x y := by
  obtain ⟨h1, rfl⟩ := List.getElem?_eq_some_iff.1 hi
  obtain ⟨h2, rfl⟩ := List.getElem?_eq_some_iff.1 hk
  exact (List.pairwise_iff_getElem.1 h) i k h1 h2 hik
set_option maxRecDepth 100000 in
set_option maxHeartbeats 4000000 in
theorem checkSignals_any (l : List Sg) (n c : Nat) (A : Option Addr) (w : World) (hl : SgsOk l) (hn : l.length = n) (hn2 : n ≤ 1000) (hr : Row w w.heap.size A (recs sgC l)) :
    Calls Tryz.prog 44 #[.slice A n c] w fun e w' => e = .returned (.int .i64 0) ∧ Below w.heap.size w w' := by
  have HR := Lib.hid hr
  have HL := Lib.hid hl
  have HN := Lib.hid hn
  have hnI2 : ¬ (5000 : Int) < n := by omega
  clear hr hl hn
  go_enter Tryz.func44, Tryz.ntmps44
  go_wp2_with (fail)
  go_loopw [11] (fun s wr => ∃ (i : Nat), i ≤ n ∧ s = .int .i64 (i : Int) ∧ Below w.heap.size w wr) (fun s _ => n - (intOf s).toNat)
  case atStart => exact ⟨0, by omega, rfl, Below.refl _ _⟩
  case round =>
    obtain ⟨i, hin, rfl, hbr⟩ := hrel
    have hbs := hbr.size
    have HB := Lib.hid hbr
    clear hbr
    by_cases hlt : i < n
    · have hltI : (i : Int) < n := by omega
      obtain ⟨x, hx⟩ : ∃ x, l[i]? = some x := ⟨_, List.getElem?_eq_getElem (by have := HN.out; omega)⟩
      obtain ⟨b, o, rfl, hb, hC⟩ := (HR.out.below HB.out).posR sgC_len (by omega) (by have := HN.out; omega)
      have HSF := Lib.hid (fun V => sigFault_ok x V (HL.out.1 x (List.mem_of_getElem? hx)))
      obtain ⟨c0, c1, c2, c3, c4, c5⟩ := sg_cells hC i x hx
      have HP := Lib.hid hx
      have hb' : b < wr.heap.size := by omega
      clear hx hC
      go_upto_region 6 with (fail)
      obtain ⟨g, eg⟩ : ∃ g, g = wr.heap.size := ⟨_, rfl⟩
      obtain ⟨w5, e5⟩ : ∃ w5, w5 = wr.alloc (.cells #[.int .i64 x.at_, .int .i64 x.kd, .string (aldT x.d), .string (alrT x.r), .string (alwT x.b), .int .i64 x.un] 79) := ⟨_, rfl⟩
      rw [← eg, ← e5]
      have hg5 : w5.heap[g]? = some (sgBk x) := by rw [e5, eg]; exact heap_new wr _
      have HB5 := Lib.hid (show Below w.heap.size w w5 from by rw [e5]; exact HB.out.alloc hbs _)
      have hlt5 : g < w5.heap.size := by rw [e5, eg]; simp
      have hbs5 := HB5.out.size
      have HQ := Lib.hid (fun (V : World) (hV : Below w5.heap.size w5 V) => show SgB V g x from sg_blk ((hV.block g hlt5).trans hg5))
      obtain ⟨q0, q1, q2, q3, q4, q5⟩ := sg_blk hg5
      clear eg e5 hg5 c0 c1 c2 c3 c4 c5
      go_wp2_with (fail)
      refine (HSF.out _).mono ?_
      rintro e w6 ⟨rfl, hb6⟩
      have hs6 := hb6.size
      have HB6 := Lib.hid (HB5.out.trans (hb6.mono hbs5))
      have HB56 := Lib.hid hb6
      clear hb6 q0 q1 q2 q3 q4 q5
      by_cases hi0 : i = 0
      case pos =>
        subst hi0
        have hd : decide ((0 : Int) < 0) = false := by decide
        obtain ⟨q0, q1, q2, q3, q4, q5⟩ := HQ.out w6 HB56.out
        go_wp2_with (fail)
        go_quiet (fail)
        go_wp2_with (fail)
        go_roundw
        case rel => exact ⟨1, by omega, by simp, below_drewN HB6.out _⟩
        case measure => simp [intOf]; omega
      have hi1I : (0 : Int) < i := by omega
      have hd : decide ((0 : Int) < i) = true := by simpa using hi1I
      have hd2 : decide (0 < i) = true := by simp; omega
      have hd3 : 0 < i := by omega
      obtain ⟨q, hq⟩ : ∃ q, l[i - 1]? = some q := ⟨_, List.getElem?_eq_getElem (by have := HN.out; omega)⟩
      obtain ⟨b2, o2, e2, hb2, hC2⟩ := HR.out.posR sgC_len (by omega) (by have := HN.out; omega)
      cases e2
      have HSA := Lib.hid (sg_cells hC2 (i - 1) q hq)
      have hwrap : (i : Int) - 1 = ((i - 1 : Nat) : Int) := by omega
      have hwr : IntKind.i64.wrap ((i - 1 : Nat) : Int) = ((i - 1 : Nat) : Int) := by rw [IntKind.wrap_i64]; omega
      have hxI : ((i - 1 : Nat) : Int) < (n : Int) := by omega
      have hxN : i - 1 < n := by omega
      have HQ9 := Lib.hid (fun (V : World) (hV : Below w6.heap.size w6 V) => show SgAt3 V b (o + (i - 1) * 6) q g x from
        sgAt3 (HSA.out.below (HB6.out.trans (hV.mono HB6.out.size)) hb2) (HQ.out V (HB56.out.trans (hV.mono HB56.out.size))))
      have HSO := Lib.hid (fun V => show Calls Tryz.prog 92 #[.agg #[.int .i64 x.at_, .int .i64 x.kd, .string (aldT x.d), .string (alrT x.r), .string (alwT x.b), .int .i64 x.un], .agg #[.int .i64 q.at_, .int .i64 q.kd, .string (aldT q.d), .string (alrT q.r), .string (alwT q.b), .int .i64 q.un]] V _ from byMoment_grow x q V)
      have hr0 : 0 < sgCmp x q := (sgCmp_gt x q).2 (pair_get HL.out.2 hq HP.out (by omega))
      obtain ⟨r, er⟩ : ∃ r, r = sgCmp x q := ⟨_, rfl⟩
      rw [← er] at HSO hr0
      have hr1 : ¬ r ≤ 0 := by omega
      clear hq hC2 er
      go_upto_region 9 with (fail)
      go_upto_region 9 with (fail)
      refine qRegionTail 9 (by kernel_rfl) (by kernel_rfl) ?_
      simp only [List.take_succ_cons, List.take_zero, List.drop_succ_cons, List.drop_zero]
      repeat (first
        | (go_big_quiet_want; refine qVal (fun V hV => (by (obtain ⟨r0, r1, r2, r3, r4, r5, s0, s1, s2, s3, s4', s5⟩ := HQ9.out V hV; go_simp; try rfl))) ?_; simp only [Act.put, List.setIfInBounds_toArray, List.set_cons_zero, List.set_cons_succ]; go_big_quiet_on)
        | go_big_quiet_skip)
      refine wpQuiet_nil ?_
      intro w10 hb10
      have HB10 := Lib.hid (HB6.out.trans (hb10.mono HB6.out.size))
      clear hb10
      go_wp2_with (fail)
      refine (HSO.out w10).mono ?_
      rintro e w11 ⟨rfl, qn, os, rfl⟩
      have HB11 := Lib.hid (HB10.out.trans ((below_grow w10 qn os).mono HB10.out.size))
      go_wp2_with (fail)
      go_roundw
      case rel => exact ⟨i + 1, by omega, by simp, HB11.out⟩
      case measure => simp [intOf]; omega
    · have hltI : ¬ (i : Int) < n := by omega
      have hin' : i = n := by omega
      subst hin'
      go_wp2_with (fail)
      go_ret
      exact ⟨rfl, HB.out⟩
theorem nameFault_any (l : List Sg) (n c d r : Nat) (A : Option Addr) (w : World) (hl : SgsOk l) (hn : l.length = n) (hn2 : n ≤ 1000) (hr : Row w w.heap.size A (recs sgC l)) :
    Calls Tryz.prog 55 #[.slice A n c, .string (aldT d), .string (alrT r)] w fun e w' => e = .returned (.int .i64 0) ∧ Below w.heap.size w w' := by
  have HC := Lib.hid (checkSignals_any l n c A w hl hn hn2 hr)
  have HD := Lib.hid (fun V => key_dev d V)
  have HRu := Lib.hid (fun V => key_rule r V)
  clear hl hn hr
  go_enter Tryz.func55, Tryz.ntmps55
  go_wp2_with (fail)
  refine HC.out.mono ?_
  rintro e w1 ⟨rfl, hb1⟩
  have HB := Lib.hid hb1
  clear hb1
  go_wp2_with (fail)
  refine (HD.out _).mono ?_
  rintro e w1 ⟨rfl, rfl⟩
  go_wp2_with (fail)
  refine (HRu.out _).mono ?_
  rintro e w1 ⟨rfl, rfl⟩
  go_wp2_with (fail)
  go_ret
  exact ⟨rfl, HB.out⟩
end Go.Proofs.YtldohjamiofkpaaGreatDoor

/- Keys of ladders and shifts: fleetref1.Key and base.Key; rules in order. -/
namespace Go.Proofs.YtldohjamiofkpaaGreatDoor
open Go.RowKit

theorem rkey_ru (r : Nat) (w : World) : Calls Tryz.prog 35 #[.string (ruT r)] w fun e w' => ∃ t : Bool, e = .returned (.bool t) ∧ (t = true → r < 2) ∧ Below w.heap.size w w' := by
  match r with
  | 0 => exact (rkey_yes _ (by decide) (by decide) (by rfl) w).mono fun e w' ⟨t, h1, h2⟩ => ⟨t, h1, fun _ => by omega, h2⟩
  | 1 => exact (rkey_yes _ (by decide) (by decide) (by rfl) w).mono fun e w' ⟨t, h1, h2⟩ => ⟨t, h1, fun _ => by omega, h2⟩
  | n + 2 => exact (rkey_nil w).mono fun e w' h => ⟨false, h.1, by simp, h.2⟩
theorem rkey_tm (r : Nat) (w : World) : Calls Tryz.prog 35 #[.string (tmT r)] w fun e w' => ∃ t : Bool, e = .returned (.bool t) ∧ (t = true → r ≠ 2) ∧ Below w.heap.size w w' := by
  match r with
  | 0 => exact (rkey_yes _ (by decide) (by decide) (by rfl) w).mono fun e w' ⟨t, h1, h2⟩ => ⟨t, h1, fun _ => by omega, h2⟩
  | 1 => exact (rkey_yes _ (by decide) (by decide) (by rfl) w).mono fun e w' ⟨t, h1, h2⟩ => ⟨t, h1, fun _ => by omega, h2⟩
  | 2 => exact (rkey_nil w).mono fun e w' h => ⟨false, h.1, by simp, h.2⟩
  | n + 3 => exact (rkey_yes _ (by show 1 ≤ (⟨#[122, 122]⟩ : ByteArray).size; decide) (by show (⟨#[122, 122]⟩ : ByteArray).size ≤ 40; decide) (by rfl) w).mono fun e w' ⟨t, h1, h2⟩ => ⟨t, h1, fun _ => by omega, h2⟩
theorem key_ru (r : Nat) (hr : r < 2) (w : World) : Calls Tryz.prog 69 #[.string (ruT r)] w fun e w' => e = .returned (.bool true) ∧ w = w' := by
  match r, hr with
  | 0, _ => exact key_yes ⟨#[114, 97]⟩ w (by kernel_rfl)
  | 1, _ => exact key_yes ⟨#[114, 98]⟩ w (by kernel_rfl)
theorem key_tm (r : Nat) (hr : r ≠ 2) (w : World) : Calls Tryz.prog 69 #[.string (tmT r)] w fun e w' => e = .returned (.bool true) ∧ w = w' := by
  match r, hr with
  | 0, _ => exact key_yes ⟨#[98, 111, 115, 115]⟩ w (by kernel_rfl)
  | 1, _ => exact key_yes ⟨#[111, 112, 115]⟩ w (by kernel_rfl)
  | n + 3, _ => exact key_yes ⟨#[122, 122]⟩ w (by kernel_rfl)
theorem ru_le (r q : Nat) (hr : r < 2) (hq : q < 2) : (Op.bytesLess (ruT r).toList (ruT q).toList || (ruT r).toList == (ruT q).toList) = decide (r ≤ q) := by
  have h1 : r = 0 ∨ r = 1 := by omega
  have h2 : q = 0 ∨ q = 1 := by omega
  rcases h1 with rfl | rfl <;> rcases h2 with rfl | rfl <;> decide +kernel
theorem ru_not_le {a x : Ld} (hx : x.r < 2) (ha : a.r < 2) (h : (Op.bytesLess (ruT x.r).toList (ruT a.r).toList || (ruT x.r).toList == (ruT a.r).toList) = false) : LdL a x := by
  rw [ru_le _ _ hx ha] at h
  have := of_decide_eq_false h
  unfold LdL
  omega
theorem ru_le_no {a x : Ld} (hx : x.r < 2) (h : LdL a x) : (Op.bytesLess (ruT x.r).toList (ruT a.r).toList || (ruT x.r).toList == (ruT a.r).toList) = false := by
  unfold LdL at h
  rw [ru_le _ _ hx (by omega)]
  exact decide_eq_false (by omega)
end Go.Proofs.YtldohjamiofkpaaGreatDoor

/- fleetref1.ShiftsFault: where it answers 0, the shifts are right. Printed by gen_SfX.py. -/
namespace Go.Proofs.YtldohjamiofkpaaGreatDoor
open Go.RowKit Go.Shelf Go.Sort

theorem tm_min (i : Nat) : tmT i = tmT (min i 3) := by
  match i with
  | 0 => rfl
  | 1 => rfl
  | 2 => rfl
  | 3 => rfl
  | n + 4 => rw [show min (n + 4) 3 = 3 by omega]; rfl
theorem tm_cmp (i j : Nat) (hi : i ≠ 2) (hj : j ≠ 2) : cbT (tmT i) (tmT j) = cmpI ((tmO i : Nat) : Int) ((tmO j : Nat) : Int) := by
  rw [tm_min i, tm_min j]
  unfold tmO
  have h1 : min i 3 = 0 ∨ min i 3 = 1 ∨ min i 3 = 3 := by omega
  have h2 : min j 3 = 0 ∨ min j 3 = 1 ∨ min j 3 = 3 := by omega
  rcases h1 with h | h | h <;> rw [h] <;> rcases h2 with h | h | h <;> rw [h] <;> rfl
theorem tm_eq (i j : Nat) : ((tmT i).toList == (tmT j).toList) = decide (tmO i = tmO j) := by
  rw [tm_min i, tm_min j]
  unfold tmO
  have h1 : min i 3 = 0 ∨ min i 3 = 1 ∨ min i 3 = 2 ∨ min i 3 = 3 := by omega
  have h2 : min j 3 = 0 ∨ min j 3 = 1 ∨ min j 3 = 2 ∨ min j 3 = 3 := by omega
  rcases h1 with h | h | h | h <;> rw [h] <;> rcases h2 with h | h | h | h <;> rw [h] <;> decide +kernel
/-- How two shifts lie. -/
def sfCmp (x y : Sf) : Int := orI [cbT (tmT x.t) (tmT y.t), cmpI x.f y.f]
theorem sfCmp_lt (x y : Sf) (hx : x.t ≠ 2) (hy : y.t ≠ 2) : sfCmp x y < 0 ↔ (tmO x.t < tmO y.t ∨ tmO x.t = tmO y.t ∧ x.f < y.f) := by
  unfold sfCmp
  rw [tm_cmp _ _ hx hy]
  simp only [orI, cmpI]
  repeat' split
  all_goals omega
theorem sfCmp_gt (x y : Sf) (hx : x.t ≠ 2) (hy : y.t ≠ 2) : 0 < sfCmp x y ↔ (tmO y.t < tmO x.t ∨ tmO x.t = tmO y.t ∧ y.f < x.f) := by
  unfold sfCmp
  rw [tm_cmp _ _ hx hy]
  simp only [orI, cmpI]
  repeat' split
  all_goals omega
def sfBk (x : Sf) : Obj := .cells #[.string (tmT x.t), .string (alwT x.b), .int .i64 x.f, .int .i64 x.u] 94 (0, 0)
def SfB (V : World) (g : Nat) (x : Sf) : Prop := V.cell? ⟨g, 0, none⟩ = some (.string (tmT x.t)) ∧ V.cell? ⟨g, 1, none⟩ = some (.string (alwT x.b)) ∧ V.cell? ⟨g, 2, none⟩ = some (.int .i64 x.f) ∧ V.cell? ⟨g, 3, none⟩ = some (.int .i64 x.u)
theorem sf_blk {V : World} {g : Nat} {x : Sf} (h : V.heap[g]? = some (sfBk x)) : SfB V g x := ⟨cell_of_blk (j := 0) h rfl, cell_of_blk (j := 1) h rfl, cell_of_blk (j := 2) h rfl, cell_of_blk (j := 3) h rfl⟩
def SfB2 (V : World) (g : Nat) (x : Sf) (h : Nat) (y : Sf) : Prop := V.cell? ⟨g, 0, none⟩ = some (.string (tmT x.t)) ∧ V.cell? ⟨g, 2, none⟩ = some (.int .i64 x.f) ∧ V.cell? ⟨h, 0, none⟩ = some (.string (tmT y.t)) ∧ V.cell? ⟨h, 2, none⟩ = some (.int .i64 y.f)
theorem sf_cells {w : World} {b o : Nat} {l : List Sf} (h : Cells w b o (recs sfC l)) (i : Nat) (x : Sf) (hx : l[i]? = some x) : w.cell? ⟨b, o + i * 4, none⟩ = some (.string (tmT x.t)) ∧ w.cell? ⟨b, o + i * 4 + 1, none⟩ = some (.string (alwT x.b)) ∧ w.cell? ⟨b, o + i * 4 + 2, none⟩ = some (.int .i64 x.f) ∧ w.cell? ⟨b, o + i * 4 + 3, none⟩ = some (.int .i64 x.u) :=
  ⟨rec_cell sfC_len h i x hx 0 _ rfl, rec_cell sfC_len h i x hx 1 _ rfl, rec_cell sfC_len h i x hx 2 _ rfl, rec_cell sfC_len h i x hx 3 _ rfl⟩
def SfFP (w : World) (L : List Sf) (e : Ending) (w' : World) : Prop := ∃ z : Int, e = .returned (.int .i64 z) ∧ (z = 0 → SfsOk L) ∧ Below w.heap.size w w'
theorem SfFP.no {w w' : World} {L : List Sf} {z : Int} (hz : z ≠ 0) (hb : Below w.heap.size w w') : SfFP w L (.returned (.int .i64 z)) w' := ⟨z, rfl, fun h => absurd h hz, hb⟩
set_option maxRecDepth 100000 in
set_option maxHeartbeats 4000000 in
theorem sftFault_any (L : List Sf) (n c : Nat) (A : Option Addr) (w : World) (hn : L.length = n) (hn2 : n ≤ 1000) (hr : Row w w.heap.size A (recs sfC L)) :
    Calls Tryz.prog 11 #[.slice A n c] w fun e w' => SfFP w L e w' := by
  have HR := Lib.hid hr
  have HN := Lib.hid hn
  have hnI2 : ¬ (1000 : Int) < n := by omega
  clear hr hn
  go_enter Tryz.func11, Tryz.ntmps11
  go_wp2_with (fail)
  go_loopw [11] (fun s wr => ∃ (i : Nat), i ≤ n ∧ s = .int .i64 (i : Int) ∧ Below w.heap.size w wr ∧ Hid (UpTo SfR SfL L i)) (fun s _ => n - (intOf s).toNat)
  case atStart => exact ⟨0, by omega, rfl, Below.refl _ _, Lib.hid UpTo.nil⟩
  case round =>
    obtain ⟨i, hin, rfl, hbr, HOK⟩ := hrel
    have hbs := hbr.size
    have HB := Lib.hid hbr
    clear hbr
    by_cases hlt : i < n
    · have hltI : (i : Int) < n := by omega
      obtain ⟨x, hx⟩ : ∃ x, L[i]? = some x := ⟨_, List.getElem?_eq_getElem (by have := HN.out; omega)⟩
      obtain ⟨b, o, rfl, hb, hC⟩ := (HR.out.below HB.out).posR sfC_len (by omega) (by have := HN.out; omega)
      obtain ⟨c0, c1, c2, c3⟩ := sf_cells hC i x hx
      have HP := Lib.hid hx
      have hb' : b < wr.heap.size := by omega
      clear hx hC
      go_upto_region 6 with (fail)
      obtain ⟨g, eg⟩ : ∃ g, g = wr.heap.size := ⟨_, rfl⟩
      obtain ⟨w5, e5⟩ : ∃ w5, w5 = wr.alloc (.cells #[.string (tmT x.t), .string (alwT x.b), .int .i64 x.f, .int .i64 x.u] 94) := ⟨_, rfl⟩
      rw [← eg, ← e5]
      have hg5 : w5.heap[g]? = some (sfBk x) := by rw [e5, eg]; exact heap_new wr _
      have HB5 := Lib.hid (show Below w.heap.size w w5 from by rw [e5]; exact HB.out.alloc hbs _)
      have hlt5 : g < w5.heap.size := by rw [e5, eg]; simp
      have hbs5 := HB5.out.size
      have HQ := Lib.hid (fun (V : World) (hV : Below w5.heap.size w5 V) => show SfB V g x from sf_blk ((hV.block g hlt5).trans hg5))
      obtain ⟨q0, q1, q2, q3⟩ := sf_blk hg5
      clear eg e5 hg5 c0 c1 c2 c3
      go_wp2_with (fail)
      refine (rkey_tm x.t _).mono ?_
      rintro e w6 ⟨t1, rfl, ht1, hb6⟩
      have HB6 := Lib.hid (HB5.out.trans (hb6.mono hbs5))
      have HB56 := Lib.hid hb6
      have hs6 := hb6.size
      clear hb6 q0 q1 q2 q3
      obtain ⟨q0, q1, q2, q3⟩ := HQ.out w6 HB56.out
      have hg6 : g < w6.heap.size := by omega
      cases t1
      case false =>
        go_wp2_with (fail)
        go_ret
        exact SfFP.no (by decide) HB6.out
      have HT2 := Lib.hid (ht1 rfl)
      clear ht1
      go_wp2_with (fail)
      refine (rkey_who x.b _).mono ?_
      rintro e w7 ⟨t1, rfl, ht1, hb7⟩
      have HB7 := Lib.hid (HB6.out.trans (hb7.mono HB6.out.size))
      have HB57 := Lib.hid (HB56.out.trans (hb7.mono HB56.out.size))
      have hs7 := hb7.size
      clear hb7 q0 q1 q2 q3
      obtain ⟨q0, q1, q2, q3⟩ := HQ.out w7 HB57.out
      have hg7 : g < w7.heap.size := by omega
      cases t1
      case false =>
        go_wp2_with (fail)
        go_ret
        exact SfFP.no (by decide) HB7.out
      have HBB := Lib.hid (ht1 rfl)
      clear ht1
      by_cases hf0 : 0 ≤ x.f
      case neg =>
        have hd0 : x.f < 0 := by omega
        have hd : decide (x.f < 0) = true := decide_eq_true hd0
        clear hf0
        go_wp2_with (fail)
        go_ret
        exact SfFP.no (by decide) HB7.out
      have hd0 : ¬ x.f < 0 := by omega
      have hd : decide (x.f < 0) = false := decide_eq_false hd0
      by_cases hfu : x.f < x.u
      case neg =>
        have he0 : x.u ≤ x.f := by omega
        have he : decide (x.u ≤ x.f) = true := decide_eq_true he0
        clear hf0 hfu
        go_wp2_with (fail)
        go_ret
        exact SfFP.no (by decide) HB7.out
      have he0 : ¬ x.u ≤ x.f := by omega
      have he : decide (x.u ≤ x.f) = false := decide_eq_false he0
      by_cases hen : x.u ≤ 345686400000
      case neg =>
        have hh0 : 345686400000 < x.u := by omega
        have hh : decide (345686400000 < x.u) = true := decide_eq_true hh0
        clear hf0 hfu hen
        go_wp2_with (fail)
        go_ret
        exact SfFP.no (by decide) HB7.out
      have hh0 : ¬ 345686400000 < x.u := by omega
      have hh : decide (345686400000 < x.u) = false := decide_eq_false hh0
      have HXR := Lib.hid (show SfR x from ⟨HT2.out, HBB.out, ⟨hf0, hfu⟩, hen⟩)
      clear hf0 hfu hen
      by_cases hi0 : i = 0
      case pos =>
        subst hi0
        have HNX := Lib.hid (show UpTo SfR SfL L (0 + 1) from HOK.out.step HP.out HXR.out (fun a h0 => by omega))
        go_wp2_with (fail)
        go_roundw
        case rel => exact ⟨1, by omega, by simp, HB7.out, HNX⟩
        case measure => simp [intOf]; omega
      have hi1I : (0 : Int) < i := by omega
      have hi1N : ¬ (i : Int) = 0 := by omega
      have hd3 : 0 < i := by omega
      obtain ⟨q, hq⟩ : ∃ q, L[i - 1]? = some q := ⟨_, List.getElem?_eq_getElem (by have := HN.out; omega)⟩
      obtain ⟨b2, o2, e2, hb2, hC2⟩ := (HR.out.below HB7.out).posR sfC_len (by omega) (by have := HN.out; omega)
      cases e2
      obtain ⟨d0, d1, d2, d3⟩ := sf_cells hC2 (i - 1) q hq
      have hwrap : (i : Int) - 1 = ((i - 1 : Nat) : Int) := by omega
      have hwr : IntKind.i64.wrap ((i - 1 : Nat) : Int) = ((i - 1 : Nat) : Int) := by rw [IntKind.wrap_i64]; omega
      have hxI : ((i - 1 : Nat) : Int) < (n : Int) := by omega
      have hxN : i - 1 < n := by omega
      have hb7' : b < w7.heap.size := by have := HB7.out.size; omega
      have HQT := Lib.hid (show q.t ≠ 2 from (HOK.out.1 (i - 1) q (by omega) hq).t)
      have HPQ := Lib.hid hq
      clear hq hC2
      go_upto_region 12 with (fail)
      obtain ⟨h, eh⟩ : ∃ g, g = w7.heap.size := ⟨_, rfl⟩
      obtain ⟨w8, e8⟩ : ∃ V : World, V = w7.alloc (.cells #[.string (tmT q.t), .string (alwT q.b), .int .i64 q.f, .int .i64 q.u] 94) := ⟨_, rfl⟩
      rw [← eh, ← e8]
      have hh8 : w8.heap[h]? = some (sfBk q) := by rw [e8, eh]; exact heap_new w7 _
      have hb8 : Below w7.heap.size w7 w8 := by rw [e8]; exact (Below.refl _ _).alloc (Nat.le_refl _) _
      have HB8 := Lib.hid (HB7.out.trans (hb8.mono HB7.out.size))
      have HB58 := Lib.hid (HB57.out.trans (hb8.mono HB57.out.size))
      have hh8l : h < w8.heap.size := by rw [e8, eh]; simp
      have HQH := Lib.hid (fun (V : World) (hV : Below w8.heap.size w8 V) => show SfB V h q from sf_blk ((hV.block h hh8l).trans hh8))
      have hg8 : g < w8.heap.size := by have := HB58.out.size; omega
      have HQ8 := Lib.hid (fun (V : World) (hV : Below w8.heap.size w8 V) => show SfB2 V g x h q from by
        obtain ⟨a0, a1, a2, a3⟩ := HQ.out V (HB58.out.trans (hV.mono HB58.out.size))
        obtain ⟨e0, e1, e2, e3⟩ := HQH.out V hV
        exact ⟨a0, a2, e0, e2⟩)
      clear eh e8 hh8 hb8 q0 q1 q2 q3 d0 d1 d2 d3
      have HC1 := Lib.hid (fun V => (scompare_any (tmT q.t) (tmT x.t) V).mono (fun e w' h => show _ ∧ Below V.heap.size V w' from ⟨h.1, h.2 ▸ Below.refl _ _⟩))
      have HC2 := Lib.hid (fun V => (compare_any q.f x.f V).mono (fun e w' h => show _ ∧ Below V.heap.size V w' from ⟨h.1, h.2 ▸ Below.refl _ _⟩))
      obtain ⟨r1, er1⟩ : ∃ r, r = Lib.compareBytes (tmT q.t).data.toList (tmT x.t).data.toList := ⟨_, rfl⟩
      obtain ⟨r2, er2⟩ : ∃ r, r = cmpI q.f x.f := ⟨_, rfl⟩
      rw [← er1] at HC1
      rw [← er2] at HC2
      have HRR := Lib.hid (show orI [r1, r2] = sfCmp q x from by rw [er1, er2]; rfl)
      clear er1 er2
      go_upto_region 12 with (fail)
      refine qRegionTail 12 (by kernel_rfl) (by kernel_rfl) ?_
      simp only [List.take_succ_cons, List.take_zero, List.drop_succ_cons, List.drop_zero]
      repeat (first
        | (go_big_quiet_want; refine qVal (fun V hV => (by (obtain ⟨a0, a1, a2, a3⟩ := HQ8.out V hV; go_simp; try rfl))) ?_; simp only [Act.put, List.setIfInBounds_toArray, List.set_cons_zero, List.set_cons_succ]; go_big_quiet_on)
        | (go_big_quiet_want
           refine qCall (fun V hV => (by (obtain ⟨a0, a1, a2, a3⟩ := HQ8.out V hV; go_simp; exact ⟨rfl, rfl⟩))) (fun V hV => (by first
             | with_reducible exact (HC1.out V).mono (fun e w' h => ⟨h.1, hV.trans (h.2.mono hV.size)⟩)
             | with_reducible exact (HC2.out V).mono (fun e w' h => ⟨h.1, hV.trans (h.2.mono hV.size)⟩))) ?_
           simp only [Act.put, List.setIfInBounds_toArray, List.set_cons_zero, List.set_cons_succ]; go_big_quiet_on)
        | go_big_quiet_skip)
      refine wpQuiet_nil ?_
      intro w9 hb9
      have HB9 := Lib.hid (HB8.out.trans (hb9.mono HB8.out.size))
      have HB59 := Lib.hid (HB58.out.trans (hb9.mono HB58.out.size))
      have HB89 := Lib.hid hb9
      clear hb9
      go_wp2_with (fail)
      have hcs : Cells (w9.alloc (.cells #[.int .i64 r1, .int .i64 r2] 3)) w9.heap.size 0 ([r1, r2].map (Value.int .i64)) := Cells.new w9 #[.int .i64 r1, .int .i64 r2] 3 (0, 0) _ rfl
      refine (or_any [r1, r2] 2 2 w9.heap.size _ rfl (by omega) hcs).mono ?_
      rintro e w' ⟨rfl, rfl⟩
      rw [HRR.out]
      have hb10 : Below w9.heap.size w9 (w9.alloc (.cells #[.int .i64 r1, .int .i64 r2] 3)) := (Below.refl _ _).alloc (Nat.le_refl _) _
      obtain ⟨w10, e10⟩ : ∃ V, V = w9.alloc (.cells #[.int .i64 r1, .int .i64 r2] 3) := ⟨_, rfl⟩
      clear hcs
      rw [← e10] at hb10 ⊢
      have HB10 := Lib.hid (HB9.out.trans (hb10.mono HB9.out.size))
      obtain ⟨q0, q1, q2, q3⟩ := HQ.out w10 (HB59.out.trans (hb10.mono HB59.out.size))
      obtain ⟨d0, d1, d2, d3⟩ := HQH.out w10 (HB89.out.trans (hb10.mono HB89.out.size))
      have hg10 : g < w10.heap.size := by have := HB59.out.size; have := hb10.size; omega
      have hh10 : h < w10.heap.size := by have := HB89.out.size; have := hb10.size; omega
      clear e10 hb10
      obtain ⟨r, er⟩ : ∃ r, r = sfCmp q x := ⟨_, rfl⟩
      rw [← er]
      have HLT := Lib.hid (show r < 0 → (tmO q.t < tmO x.t ∨ tmO q.t = tmO x.t ∧ q.f < x.f) from fun h => (sfCmp_lt q x HQT.out HXR.out.t).1 (er ▸ h))
      clear er
      by_cases hr0 : 0 ≤ r
      case pos =>
        go_wp2_with (fail)
        go_ret
        exact SfFP.no (by decide) HB10.out
      have HL1 := Lib.hid (HLT.out (by omega))
      by_cases hte : tmO q.t = tmO x.t
      case neg =>
        have hst : ((tmT q.t).toList == (tmT x.t).toList) = false := by rw [tm_eq]; exact decide_eq_false hte
        have HNX := Lib.hid (show UpTo SfR SfL L (i + 1) from HOK.out.step HP.out HXR.out (fun a h0 ha => by
          obtain rfl : q = a := Option.some.inj (HPQ.out.symm.trans ha)
          have := HL1.out
          unfold SfL
          omega))
        clear hte
        go_wp2_with (fail)
        go_roundw
        case rel => exact ⟨i + 1, by omega, by go_num, HB10.out, HNX⟩
        case measure => simp [intOf]; omega
      have hst : ((tmT q.t).toList == (tmT x.t).toList) = true := by rw [tm_eq]; exact decide_eq_true hte
      by_cases hov : x.f < q.u
      case pos =>
        have hov2 : decide (x.f < q.u) = true := decide_eq_true hov
        clear hte
        go_wp2_with (fail)
        go_ret
        exact SfFP.no (by decide) HB10.out
      have hov2 : decide (x.f < q.u) = false := decide_eq_false hov
      have HNX := Lib.hid (show UpTo SfR SfL L (i + 1) from HOK.out.step HP.out HXR.out (fun a h0 ha => by
          obtain rfl : q = a := Option.some.inj (HPQ.out.symm.trans ha)
          have := HL1.out
          unfold SfL
          omega))
      clear hte
      go_wp2_with (fail)
      go_roundw
      case rel => exact ⟨i + 1, by omega, by go_num, HB10.out, HNX⟩
      case measure => simp [intOf]; omega
    · have hltI : ¬ (i : Int) < n := by omega
      have hin' : i = n := by omega
      subst hin'
      go_wp2_with (fail)
      go_ret
      exact ⟨0, rfl, fun _ => by unfold SfsOk; rw [HN.out]; exact HOK.out, HB.out⟩
end Go.Proofs.YtldohjamiofkpaaGreatDoor

/- alarm.CheckShifts of right shifts: nothing is wrong. Printed by gen_SfX.py. -/
namespace Go.Proofs.YtldohjamiofkpaaGreatDoor
open Go.RowKit Go.Shelf Go.Sort

set_option maxRecDepth 100000 in
set_option maxHeartbeats 4000000 in
theorem checkShifts_any (L : List Sf) (n c : Nat) (A : Option Addr) (w : World) (hn : L.length = n) (hn2 : n ≤ 1000) (hr : Row w w.heap.size A (recs sfC L)) (hg : SfsOk L) :
    Calls Tryz.prog 46 #[.slice A n c] w fun e w' => e = .returned (.int .i64 0) ∧ Below w.heap.size w w' := by
  have HR := Lib.hid hr
  have HN := Lib.hid hn
  have HG := Lib.hid hg
  clear hg
  have hnI2 : ¬ (1000 : Int) < n := by omega
  clear hr hn
  go_enter Tryz.func46, Tryz.ntmps46
  go_wp2_with (fail)
  go_loopw [11] (fun s wr => ∃ (i : Nat), i ≤ n ∧ s = .int .i64 (i : Int) ∧ Below w.heap.size w wr) (fun s _ => n - (intOf s).toNat)
  case atStart => exact ⟨0, by omega, rfl, Below.refl _ _⟩
  case round =>
    obtain ⟨i, hin, rfl, hbr⟩ := hrel
    have hbs := hbr.size
    have HB := Lib.hid hbr
    clear hbr
    by_cases hlt : i < n
    · have hltI : (i : Int) < n := by omega
      obtain ⟨x, hx⟩ : ∃ x, L[i]? = some x := ⟨_, List.getElem?_eq_getElem (by have := HN.out; omega)⟩
      obtain ⟨b, o, rfl, hb, hC⟩ := (HR.out.below HB.out).posR sfC_len (by omega) (by have := HN.out; omega)
      obtain ⟨c0, c1, c2, c3⟩ := sf_cells hC i x hx
      have HP := Lib.hid hx
      have HX := Lib.hid (HG.out.1 i x (by have := HN.out; omega) hx)
      have hb' : b < wr.heap.size := by omega
      clear hx hC
      go_upto_region 6 with (fail)
      obtain ⟨g, eg⟩ : ∃ g, g = wr.heap.size := ⟨_, rfl⟩
      obtain ⟨w5, e5⟩ : ∃ w5, w5 = wr.alloc (.cells #[.string (tmT x.t), .string (alwT x.b), .int .i64 x.f, .int .i64 x.u] 94) := ⟨_, rfl⟩
      rw [← eg, ← e5]
      have hg5 : w5.heap[g]? = some (sfBk x) := by rw [e5, eg]; exact heap_new wr _
      have HB5 := Lib.hid (show Below w.heap.size w w5 from by rw [e5]; exact HB.out.alloc hbs _)
      have hlt5 : g < w5.heap.size := by rw [e5, eg]; simp
      have hbs5 := HB5.out.size
      have HQ := Lib.hid (fun (V : World) (hV : Below w5.heap.size w5 V) => show SfB V g x from sf_blk ((hV.block g hlt5).trans hg5))
      obtain ⟨q0, q1, q2, q3⟩ := sf_blk hg5
      clear eg e5 hg5 c0 c1 c2 c3
      go_wp2_with (fail)
      refine (key_tm x.t HX.out.t _).mono ?_
      rintro e w6 ⟨rfl, h6⟩
      rw [← h6]
      clear h6 w6
      go_wp2_with (fail)
      refine (key_who x.b HX.out.b _).mono ?_
      rintro e w6 ⟨rfl, h6⟩
      rw [← h6]
      clear h6 w6
      have hd0 : ¬ x.f < 0 := by have := HX.out.f; omega
      have hd : decide (x.f < 0) = false := decide_eq_false hd0
      have he0 : ¬ x.u ≤ x.f := by have := HX.out.f; omega
      have he : decide (x.u ≤ x.f) = false := decide_eq_false he0
      have hh0 : ¬ 345686400000 < x.u := by have := HX.out.u; omega
      have hh : decide (345686400000 < x.u) = false := decide_eq_false hh0
      have HB7 := Lib.hid HB5.out
      have HB57 := Lib.hid (Below.refl w5.heap.size w5)
      have HXR := Lib.hid HX.out
      by_cases hi0 : i = 0
      case pos =>
        subst hi0
        go_wp2_with (fail)
        go_roundw
        case rel => exact ⟨1, by omega, by simp, HB7.out⟩
        case measure => simp [intOf]; omega
      have hi1I : (0 : Int) < i := by omega
      have hi1N : ¬ (i : Int) = 0 := by omega
      have hd3 : 0 < i := by omega
      obtain ⟨q, hq⟩ : ∃ q, L[i - 1]? = some q := ⟨_, List.getElem?_eq_getElem (by have := HN.out; omega)⟩
      obtain ⟨b2, o2, e2, hb2, hC2⟩ := (HR.out.below HB7.out).posR sfC_len (by omega) (by have := HN.out; omega)
      cases e2
      obtain ⟨d0, d1, d2, d3⟩ := sf_cells hC2 (i - 1) q hq
      have hwrap : (i : Int) - 1 = ((i - 1 : Nat) : Int) := by omega
      have hwr : IntKind.i64.wrap ((i - 1 : Nat) : Int) = ((i - 1 : Nat) : Int) := by rw [IntKind.wrap_i64]; omega
      have hxI : ((i - 1 : Nat) : Int) < (n : Int) := by omega
      have hxN : i - 1 < n := by omega
      have hb7' : b < w5.heap.size := by have := HB7.out.size; omega
      have HQT := Lib.hid (show q.t ≠ 2 from (HG.out.1 (i - 1) q (by have := HN.out; omega) hq).t)
      have HPQ := Lib.hid hq
      clear hq hC2
      go_upto_region 12 with (fail)
      obtain ⟨h, eh⟩ : ∃ g, g = w5.heap.size := ⟨_, rfl⟩
      obtain ⟨w8, e8⟩ : ∃ V : World, V = w5.alloc (.cells #[.string (tmT q.t), .string (alwT q.b), .int .i64 q.f, .int .i64 q.u] 94) := ⟨_, rfl⟩
      rw [← eh, ← e8]
      have hh8 : w8.heap[h]? = some (sfBk q) := by rw [e8, eh]; exact heap_new w5 _
      have hb8 : Below w5.heap.size w5 w8 := by rw [e8]; exact (Below.refl _ _).alloc (Nat.le_refl _) _
      have HB8 := Lib.hid (HB7.out.trans (hb8.mono HB7.out.size))
      have HB58 := Lib.hid (HB57.out.trans (hb8.mono HB57.out.size))
      have hh8l : h < w8.heap.size := by rw [e8, eh]; simp
      have HQH := Lib.hid (fun (V : World) (hV : Below w8.heap.size w8 V) => show SfB V h q from sf_blk ((hV.block h hh8l).trans hh8))
      have hg8 : g < w8.heap.size := by have := HB58.out.size; omega
      have HQ8 := Lib.hid (fun (V : World) (hV : Below w8.heap.size w8 V) => show SfB2 V g x h q from by
        obtain ⟨a0, a1, a2, a3⟩ := HQ.out V (HB58.out.trans (hV.mono HB58.out.size))
        obtain ⟨e0, e1, e2, e3⟩ := HQH.out V hV
        exact ⟨a0, a2, e0, e2⟩)
      clear eh e8 hh8 hb8 q0 q1 q2 q3 d0 d1 d2 d3
      have HC1 := Lib.hid (fun V => (scompare_any (tmT x.t) (tmT q.t) V).mono (fun e w' h => show _ ∧ Below V.heap.size V w' from ⟨h.1, h.2 ▸ Below.refl _ _⟩))
      have HC2 := Lib.hid (fun V => (compare_any x.f q.f V).mono (fun e w' h => show _ ∧ Below V.heap.size V w' from ⟨h.1, h.2 ▸ Below.refl _ _⟩))
      obtain ⟨r1, er1⟩ : ∃ r, r = Lib.compareBytes (tmT x.t).data.toList (tmT q.t).data.toList := ⟨_, rfl⟩
      obtain ⟨r2, er2⟩ : ∃ r, r = cmpI x.f q.f := ⟨_, rfl⟩
      rw [← er1] at HC1
      rw [← er2] at HC2
      have HRR := Lib.hid (show orI [r1, r2] = sfCmp x q from by rw [er1, er2]; rfl)
      clear er1 er2
      go_upto_region 12 with (fail)
      refine qRegionTail 12 (by kernel_rfl) (by kernel_rfl) ?_
      simp only [List.take_succ_cons, List.take_zero, List.drop_succ_cons, List.drop_zero]
      repeat (first
        | (go_big_quiet_want; refine qVal (fun V hV => (by (obtain ⟨a0, a1, a2, a3⟩ := HQ8.out V hV; go_simp; try rfl))) ?_; simp only [Act.put, List.setIfInBounds_toArray, List.set_cons_zero, List.set_cons_succ]; go_big_quiet_on)
        | (go_big_quiet_want
           refine qCall (fun V hV => (by (obtain ⟨a0, a1, a2, a3⟩ := HQ8.out V hV; go_simp; exact ⟨rfl, rfl⟩))) (fun V hV => (by first
             | with_reducible exact (HC1.out V).mono (fun e w' h => ⟨h.1, hV.trans (h.2.mono hV.size)⟩)
             | with_reducible exact (HC2.out V).mono (fun e w' h => ⟨h.1, hV.trans (h.2.mono hV.size)⟩))) ?_
           simp only [Act.put, List.setIfInBounds_toArray, List.set_cons_zero, List.set_cons_succ]; go_big_quiet_on)
        | go_big_quiet_skip)
      refine wpQuiet_nil ?_
      intro w9 hb9
      have HB9 := Lib.hid (HB8.out.trans (hb9.mono HB8.out.size))
      have HB59 := Lib.hid (HB58.out.trans (hb9.mono HB58.out.size))
      have HB89 := Lib.hid hb9
      clear hb9
      go_wp2_with (fail)
      have hcs : Cells (w9.alloc (.cells #[.int .i64 r1, .int .i64 r2] 3)) w9.heap.size 0 ([r1, r2].map (Value.int .i64)) := Cells.new w9 #[.int .i64 r1, .int .i64 r2] 3 (0, 0) _ rfl
      refine (or_any [r1, r2] 2 2 w9.heap.size _ rfl (by omega) hcs).mono ?_
      rintro e w' ⟨rfl, rfl⟩
      rw [HRR.out]
      have hb10 : Below w9.heap.size w9 (w9.alloc (.cells #[.int .i64 r1, .int .i64 r2] 3)) := (Below.refl _ _).alloc (Nat.le_refl _) _
      obtain ⟨w10, e10⟩ : ∃ V, V = w9.alloc (.cells #[.int .i64 r1, .int .i64 r2] 3) := ⟨_, rfl⟩
      clear hcs
      rw [← e10] at hb10 ⊢
      have HB10 := Lib.hid (HB9.out.trans (hb10.mono HB9.out.size))
      obtain ⟨q0, q1, q2, q3⟩ := HQ.out w10 (HB59.out.trans (hb10.mono HB59.out.size))
      obtain ⟨d0, d1, d2, d3⟩ := HQH.out w10 (HB89.out.trans (hb10.mono HB89.out.size))
      have hg10 : g < w10.heap.size := by have := HB59.out.size; have := hb10.size; omega
      have hh10 : h < w10.heap.size := by have := HB89.out.size; have := hb10.size; omega
      clear e10 hb10
      have hlx : SfL q x := HG.out.2 (i - 1) q x (by have := HN.out; omega) HPQ.out (by rw [show i - 1 + 1 = i by omega]; exact HP.out)
      have hr0 : 0 < sfCmp x q := (sfCmp_gt x q HXR.out.t HQT.out).2 (by unfold SfL at hlx; omega)
      obtain ⟨r, er⟩ : ∃ r, r = sfCmp x q := ⟨_, rfl⟩
      rw [← er] at hr0 ⊢
      clear er
      have hr1 : ¬ r ≤ 0 := by omega
      obtain ⟨t5, et5⟩ : ∃ t : Bool, t = ((tmT x.t).toList == (tmT q.t).toList) := ⟨_, rfl⟩
      have hov : t5 = true → ¬ x.f < q.u := fun h => by
        rw [tm_eq] at et5
        have := of_decide_eq_true (et5.symm.trans h)
        unfold SfL at hlx
        omega
      clear hlx
      cases t5
      case false =>
        have et5' := et5.symm
        clear et5 hov
        go_wp2_with (fail)
        go_roundw
        case rel => exact ⟨i + 1, by omega, by go_num, HB10.out⟩
        case measure => simp [intOf]; omega
      have et5' := et5.symm
      have hov1 := hov rfl
      have hov2 : decide (x.f < q.u) = false := decide_eq_false hov1
      clear et5 hov
      go_wp2_with (fail)
      go_roundw
      case rel => exact ⟨i + 1, by omega, by go_num, HB10.out⟩
      case measure => simp [intOf]; omega
    · have hltI : ¬ (i : Int) < n := by omega
      have hin' : i = n := by omega
      subst hin'
      go_wp2_with (fail)
      go_ret
      exact ⟨rfl, HB.out⟩
end Go.Proofs.YtldohjamiofkpaaGreatDoor

/- fleetref1.LaddersFault: where it answers 0, the ladders are right. Printed by gen_LdX.py. -/
namespace Go.Proofs.YtldohjamiofkpaaGreatDoor
open Go.RowKit Go.Shelf Go.Sort

def LdFP (w : World) (L : List Ld) (e : Ending) (w' : World) : Prop := ∃ z : Int, e = .returned (.int .i64 z) ∧ (z = 0 → LdsOk L) ∧ Below w.heap.size w w'
theorem LdFP.no {w w' : World} {L : List Ld} {z : Int} (hz : z ≠ 0) (hb : Below w.heap.size w w') : LdFP w L (.returned (.int .i64 z)) w' := ⟨z, rfl, fun h => absurd h hz, hb⟩
set_option maxRecDepth 100000 in
set_option maxHeartbeats 4000000 in
theorem ladFault_any (L : List Ld) (n c : Nat) (A : Option Addr) (w : World) (hn : L.length = n) (hn2 : n ≤ 100) (hr : Row w w.heap.size A (recs ldC L)) (hr2 : ∀ x ∈ L, Row w w.heap.size x.A (recs rgC x.g)) (hg : ∀ x ∈ L, LdG x) :
    Calls Tryz.prog 10 #[.slice A n c] w fun e w' => LdFP w L e w' := by
  have HR := Lib.hid hr
  have HR2 := Lib.hid hr2
  have HN := Lib.hid hn
  have HG := Lib.hid hg
  have hnI2 : ¬ (100 : Int) < n := by omega
  clear hr hr2 hn hg
  go_enter Tryz.func10, Tryz.ntmps10
  go_wp2_with (fail)
  go_loopw [12] (fun s wr => ∃ (i : Nat), i ≤ n ∧ s = .int .i64 (i : Int) ∧ Below w.heap.size w wr ∧ Hid (UpTo LdR LdL L i)) (fun s _ => n - (intOf s).toNat)
  case atStart => exact ⟨0, by omega, rfl, Below.refl _ _, Lib.hid UpTo.nil⟩
  case round =>
    obtain ⟨i, hin, rfl, hbr, HOK⟩ := hrel
    have hbs := hbr.size
    have HB := Lib.hid hbr
    clear hbr
    by_cases hlt : i < n
    · have hltI : (i : Int) < n := by omega
      obtain ⟨x, hx⟩ : ∃ x, L[i]? = some x := ⟨_, List.getElem?_eq_getElem (by have := HN.out; omega)⟩
      obtain ⟨b, o, rfl, hb, hC⟩ := (HR.out.below HB.out).posR ldC_len (by omega) (by have := HN.out; omega)
      have HX := Lib.hid (HG.out x (List.mem_of_getElem? hx))
      have HRX := Lib.hid (HR2.out x (List.mem_of_getElem? hx))
      have c0 : wr.cell? ⟨b, o + i * 3, none⟩ = some (.string (ruT x.r)) := rec_cell ldC_len hC i x hx 0 _ rfl
      have c1 := rec_cell ldC_len hC i x hx 1 _ rfl
      have c2 := rec_cell ldC_len hC i x hx 2 _ rfl
      have HP := Lib.hid hx
      have hb' : b < wr.heap.size := by omega
      obtain ⟨xa, exa⟩ : ∃ a, a = x.A := ⟨_, rfl⟩
      obtain ⟨m, em⟩ : ∃ m, m = x.g.length := ⟨_, rfl⟩
      obtain ⟨xc, exc⟩ : ∃ a, a = x.c := ⟨_, rfl⟩
      obtain ⟨xe, exe⟩ : ∃ a, a = x.ev := ⟨_, rfl⟩
      rw [← exa, ← em, ← exc] at c1
      rw [← exe] at c2
      have HEM := Lib.hid em.symm
      have HEV := Lib.hid exe.symm
      rw [← exa] at HRX
      have hm4 : m ≤ 4 := by have := HX.out.n; omega
      clear hx hC exa em exc exe
      go_upto_region 6 with (fail)
      obtain ⟨g, eg⟩ : ∃ g, g = wr.heap.size := ⟨_, rfl⟩
      obtain ⟨w5, e5⟩ : ∃ w5, w5 = wr.alloc (.cells #[.string (ruT x.r), .slice xa m xc, .int .i64 xe] 89) := ⟨_, rfl⟩
      rw [← eg, ← e5]
      have hg5 : w5.heap[g]? = some (.cells #[.string (ruT x.r), .slice xa m xc, .int .i64 xe] 89 (0, 0)) := by rw [e5, eg]; exact heap_new wr _
      have HB5 := Lib.hid (show Below w.heap.size w w5 from by rw [e5]; exact HB.out.alloc hbs _)
      have hlt5 : g < w5.heap.size := by rw [e5, eg]; simp
      have hbs5 := HB5.out.size
      have HQ := Lib.hid (fun (V : World) (hV : Below w5.heap.size w5 V) => show V.cell? ⟨g, 0, none⟩ = some (.string (ruT x.r)) ∧ V.cell? ⟨g, 1, none⟩ = some (.slice xa m xc) ∧ V.cell? ⟨g, 2, none⟩ = some (.int .i64 xe) from
        ⟨cell_of_blk (j := 0) ((hV.block g hlt5).trans hg5) rfl, cell_of_blk (j := 1) ((hV.block g hlt5).trans hg5) rfl, cell_of_blk (j := 2) ((hV.block g hlt5).trans hg5) rfl⟩)
      obtain ⟨q0, q1, q2⟩ := HQ.out w5 (Below.refl _ _)
      clear eg e5 hg5 c0 c1 c2
      go_wp2_with (fail)
      refine (rkey_ru x.r _).mono ?_
      rintro e w6 ⟨t1, rfl, ht1, hb6⟩
      have HB6 := Lib.hid (HB5.out.trans (hb6.mono hbs5))
      have HB56 := Lib.hid hb6
      have hs6 := hb6.size
      clear hb6 q0 q1 q2
      obtain ⟨q0, q1, q2⟩ := HQ.out w6 HB56.out
      cases t1
      case false =>
        go_wp2_with (fail)
        go_ret
        exact LdFP.no (by decide) HB6.out
      have HRU := Lib.hid (ht1 rfl)
      clear ht1
      have hg6 : g < w6.heap.size := by omega
      go_upto_region 8 with (fail)
      have HREST : ∀ (fr : Act) (V : World), Below w6.heap.size w6 V → True := fun _ _ _ => trivial
      clear HREST
      obtain ⟨bad, ebad⟩ : ∃ bad : Bool, bad = (decide (0 < i) && match L[i - 1]? with | some q => (Op.bytesLess (ruT x.r).toList (ruT q.r).toList || (ruT x.r).toList == (ruT q.r).toList) | none => false) := ⟨_, rfl⟩
      go_cut [22] (fun s wx => s = .bool bad ∧ Below w6.heap.size w6 wx)
      case first =>
        by_cases hi0 : i = 0
        · subst hi0
          have hd : decide ((0 : Int) < 0) = false := by decide
          have hbad : bad = false := by rw [ebad]; rfl
          clear ebad
          subst hbad
          go_quiet (fail)
          go_wp2_with (fail)
          go_meet
          exact ⟨rfl, below_drewN (Below.refl _ _) _⟩
        · have hi1I : (0 : Int) < i := by omega
          have hd : decide ((0 : Int) < i) = true := by simpa using hi1I
          have hd2 : decide (0 < i) = true := by simp; omega
          have hd3 : 0 < i := by omega
          obtain ⟨q, hq⟩ : ∃ q, L[i - 1]? = some q := ⟨_, List.getElem?_eq_getElem (by have := HN.out; omega)⟩
          obtain ⟨b2, o2, e2, hb2, hC2⟩ := (HR.out.below HB6.out).posR ldC_len (by omega) (by have := HN.out; omega)
          cases e2
          have p0 : w6.cell? ⟨b, o + (i - 1) * 3, none⟩ = some (.string (ruT q.r)) := rec_cell ldC_len hC2 (i - 1) q hq 0 _ rfl
          have hwrap : (i : Int) - 1 = ((i - 1 : Nat) : Int) := by omega
          have hwr : IntKind.i64.wrap ((i - 1 : Nat) : Int) = ((i - 1 : Nat) : Int) := by rw [IntKind.wrap_i64]; omega
          have hxI : ((i - 1 : Nat) : Int) < (n : Int) := by omega
          have hxN : i - 1 < n := by omega
          rw [hq, hd2, Bool.true_and] at ebad
          simp only at ebad
          have hb6' : b < w6.heap.size := by omega
          clear hq hC2
          go_quiet (fail)
          simp only [← ebad]
          go_wp2_with (fail)
          go_meet
          exact ⟨rfl, below_drewN (Below.refl _ _) _⟩
      case rest =>
      obtain ⟨rfl, hbc⟩ := hcut
      obtain ⟨w7, ew7⟩ : ∃ w7 : World, w7 = wc := ⟨_, rfl⟩
      rw [← ew7] at hbc ⊢
      clear ew7
      have HB7 := Lib.hid (HB6.out.trans (hbc.mono HB6.out.size))
      have HB57 := Lib.hid (HB56.out.trans (hbc.mono hs6))
      have hs7 := hbc.size
      clear hbc q0 q1 q2
      obtain ⟨q0, q1, q2⟩ := HQ.out w7 HB57.out
      have hg7 : g < w7.heap.size := by omega
      have HBAD := Lib.hid (show bad = false → ∀ a, 0 < i → L[i - 1]? = some a → a.r < 2 → LdL a x from fun h a h0 ha ha2 => by
        rw [h, ha, decide_eq_true h0, Bool.true_and] at ebad
        exact ru_not_le HRU.out ha2 ebad.symm)
      clear ebad
      cases bad
      case true =>
        go_wp2_with (fail)
        go_ret
        exact LdFP.no (by decide) HB7.out
      have HLD := Lib.hid (HBAD.out rfl)
      clear HBAD
      by_cases hm0 : m = 0
      case pos =>
        have hm0I : (m : Int) = 0 := by omega
        go_wp2_with (fail)
        go_ret
        exact LdFP.no (by decide) HB7.out
      have hm0I : ¬ (m : Int) = 0 := by omega
      have hm10 : ¬ (10 : Int) < m := by omega
      go_wp2_with (fail)
      go_loopw [49] (fun s wx => ∃ (k : Nat), k ≤ m ∧ s = .int .i64 (k : Int) ∧ Below w.heap.size w wx ∧ Below w5.heap.size w5 wx ∧ Hid (UpTo RgR RgL x.g k)) (fun s _ => m - (intOf s).toNat)
      case atStart => exact ⟨0, by omega, rfl, HB7.out, HB57.out, Lib.hid UpTo.nil⟩
      case round =>
        obtain ⟨k, hkm, rfl, hbk, hbk5, HRK⟩ := hrel
        have hsk := hbk5.size
        have HBK := Lib.hid hbk
        have HB5K := Lib.hid hbk5
        clear hbk hbk5 q0 q1 q2
        by_cases hkl : k < m
        · have hklI : (k : Int) < m := by omega
          obtain ⟨y, hy⟩ : ∃ y, x.g[k]? = some y := ⟨_, List.getElem?_eq_getElem (by have := HEM.out; omega)⟩
          obtain ⟨gb, go, exa, hgb, hD⟩ := (HRX.out.below HBK.out).posR rgC_len (by omega) (by have := HEM.out; omega)
          subst exa
          have d0 : wr.cell? ⟨gb, go + k * 2, none⟩ = some (.int .i64 y.1) := rec_cell rgC_len hD k y hy 0 _ rfl
          have d1 := rec_cell rgC_len hD k y hy 1 _ rfl
          have HPY := Lib.hid hy
          have hgb' : gb < wr.heap.size := by have := HBK.out.size; omega
          clear hy hD
          obtain ⟨y1, ey1⟩ : ∃ a, a = y.1 := ⟨_, rfl⟩
          rw [← ey1] at d0
          have HY1 := Lib.hid ey1.symm
          clear ey1
          go_upto_region 17 with (fail)
          obtain ⟨h, eh⟩ : ∃ g, g = wr.heap.size := ⟨_, rfl⟩
          obtain ⟨w8, e8⟩ : ∃ w5, w5 = wr.alloc (.cells #[.int .i64 y1, .string (tmT y.2)] 91) := ⟨_, rfl⟩
          rw [← eh, ← e8]
          have hh8 : w8.heap[h]? = some (.cells #[.int .i64 y1, .string (tmT y.2)] 91 (0, 0)) := by rw [e8, eh]; exact heap_new wr _
          have hb8 : Below wr.heap.size wr w8 := by rw [e8]; exact (Below.refl _ _).alloc (Nat.le_refl _) _
          have HB8 := Lib.hid (HBK.out.trans (hb8.mono HBK.out.size))
          have HB58 := Lib.hid (HB5K.out.trans (hb8.mono HB5K.out.size))
          have hh8l : h < w8.heap.size := by rw [e8, eh]; simp
          have hs8 := hb8.size
          have r0 : w8.cell? ⟨h, 0, none⟩ = some (.int .i64 y1) := cell_of_blk (j := 0) hh8 rfl
          have HH8 := Lib.hid hh8
          clear eh e8 hh8 hb8 d0 d1
          obtain ⟨q0, q1, q2⟩ := HQ.out w8 HB58.out
          have hg8 : g < w8.heap.size := by omega
          go_wp2_with (fail)
          refine (inR_any _ _ _ _).mono ?_
          rintro e w' ⟨rfl, rfl⟩
          by_cases hk : 0 ≤ y1 ∧ y1 ≤ 2592000000
          case neg =>
            rw [decide_eq_false hk]
            clear hk
            go_wp2_with (fail)
            go_ret
            exact LdFP.no (by decide) HB8.out
          rw [decide_eq_true hk]
          have HK := Lib.hid hk
          clear hk
          go_upto_region 19 with (fail)
          obtain ⟨bad, ebad⟩ : ∃ bad : Bool, bad = (decide (0 < k) && match x.g[k - 1]? with | some q => decide (y1 ≤ q.1) | none => false) := ⟨_, rfl⟩
          go_cut [59] (fun s wx => s = .bool bad ∧ Below w8.heap.size w8 wx)
          case first =>
            by_cases hi0 : k = 0
            · subst hi0
              have hd : decide ((0 : Int) < 0) = false := by decide
              have hbad : bad = false := by rw [ebad]; rfl
              clear ebad
              subst hbad
              go_quiet (fail)
              go_wp2_with (fail)
              go_meet
              exact ⟨rfl, below_drewN (Below.refl _ _) _⟩
            · have hi1I : (0 : Int) < k := by omega
              have hd : decide ((0 : Int) < k) = true := by simpa using hi1I
              have hd2 : decide (0 < k) = true := by simp; omega
              have hd3 : 0 < k := by omega
              obtain ⟨q, hq⟩ : ∃ q, x.g[k - 1]? = some q := ⟨_, List.getElem?_eq_getElem (by have := HEM.out; omega)⟩
              obtain ⟨b2, o2, e2, hb2, hC2⟩ := (HRX.out.below HB8.out).posR rgC_len (by omega) (by have := HEM.out; omega)
              cases e2
              have p0 : w8.cell? ⟨gb, go + (k - 1) * 2, none⟩ = some (.int .i64 q.1) := rec_cell rgC_len hC2 (k - 1) q hq 0 _ rfl
              have hwrap : (k : Int) - 1 = ((k - 1 : Nat) : Int) := by omega
              have hwr : IntKind.i64.wrap ((k - 1 : Nat) : Int) = ((k - 1 : Nat) : Int) := by rw [IntKind.wrap_i64]; omega
              have hxI : ((k - 1 : Nat) : Int) < (m : Int) := by omega
              have hxN : k - 1 < m := by omega
              rw [hq, hd2, Bool.true_and] at ebad
              simp only at ebad
              have hgb8 : gb < w8.heap.size := by omega
              clear hq hC2
              go_quiet (fail)
              simp only [← ebad]
              go_wp2_with (fail)
              go_meet
              exact ⟨rfl, below_drewN (Below.refl _ _) _⟩
          case rest =>
          obtain ⟨rfl, hbc⟩ := hcut
          obtain ⟨w9, ew9⟩ : ∃ w9 : World, w9 = wc := ⟨_, rfl⟩
          rw [← ew9] at hbc ⊢
          clear ew9
          have HB9 := Lib.hid (HB8.out.trans (hbc.mono HB8.out.size))
          have HB59 := Lib.hid (HB58.out.trans (hbc.mono HB58.out.size))
          have hs9 := hbc.size
          have r1 : w9.cell? ⟨h, 1, none⟩ = some (.string (tmT y.2)) := cell_of_blk (j := 1) ((hbc.block h hh8l).trans HH8.out) rfl
          have hh9l : h < w9.heap.size := by omega
          clear hbc q0 q1 q2
          have HBAD := Lib.hid (show bad = false → ∀ a, 0 < k → x.g[k - 1]? = some a → RgL a y from fun h a h0 ha => by
            rw [h, ha, decide_eq_true h0, Bool.true_and] at ebad
            have := HY1.out
            have h2 := of_decide_eq_false ebad.symm
            unfold RgL
            omega)
          clear ebad
          cases bad
          case true =>
            go_wp2_with (fail)
            go_ret
            exact LdFP.no (by decide) HB9.out
          have HRG := Lib.hid (HBAD.out rfl)
          clear HBAD
          go_wp2_with (fail)
          refine (rkey_tm y.2 _).mono ?_
          rintro e w10 ⟨t2, rfl, ht2, hb10⟩
          have HB10 := Lib.hid (HB9.out.trans (hb10.mono HB9.out.size))
          have HB510 := Lib.hid (HB59.out.trans (hb10.mono HB59.out.size))
          clear hb10
          cases t2
          case false =>
            go_wp2_with (fail)
            go_ret
            exact LdFP.no (by decide) HB10.out
          have HNX := Lib.hid (show UpTo RgR RgL x.g (k + 1) from HRK.out.step HPY.out ⟨by have := HY1.out; have := HK.out; omega, ht2 rfl⟩ HRG.out)
          clear ht2
          go_wp2_with (fail)
          go_roundw
          case rel => exact ⟨k + 1, by omega, by go_num, HB10.out, HB510.out, HNX⟩
          case measure => simp [intOf]; omega
        · have hklI : ¬ (k : Int) < m := by omega
          obtain rfl : k = m := by omega
          obtain ⟨q0, q1, q2⟩ := HQ.out wr HB5K.out
          have hgr : g < wr.heap.size := by omega
          have HGG := Lib.hid (show UpTo RgR RgL x.g x.g.length from by rw [HEM.out]; exact HRK.out)
          by_cases hev : xe = 0
          · have hevb : (xe != 0) = false := by simpa using hev
            have HNX := Lib.hid (show UpTo LdR LdL L (i + 1) from HOK.out.step HP.out ⟨HRU.out, ⟨by have := HEM.out; omega, by have := HEM.out; omega⟩, HGG.out, .inl (by have := HEV.out; omega)⟩ (fun a h0 ha => HLD.out a h0 ha (HOK.out.1 (i - 1) a (by omega) ha).r))
            clear hev
            go_wp2_with (fail)
            go_roundw
            case rel => exact ⟨i + 1, by omega, by go_num, HBK.out, HNX⟩
            case measure => simp [intOf]; omega
          · have hevb : (xe != 0) = true := by simpa using hev
            clear hev
            go_wp2_with (fail)
            refine (inR_any _ _ _ _).mono ?_
            rintro e w' ⟨rfl, rfl⟩
            by_cases hk : 1000 ≤ xe ∧ xe ≤ 2592000000
            case neg =>
              rw [decide_eq_false hk]
              clear hk
              go_wp2_with (fail)
              go_ret
              exact LdFP.no (by decide) HBK.out
            rw [decide_eq_true hk]
            have HNX := Lib.hid (show UpTo LdR LdL L (i + 1) from HOK.out.step HP.out ⟨HRU.out, ⟨by have := HEM.out; omega, by have := HEM.out; omega⟩, HGG.out, .inr (by have := HEV.out; omega)⟩ (fun a h0 ha => HLD.out a h0 ha (HOK.out.1 (i - 1) a (by omega) ha).r))
            clear hk
            go_wp2_with (fail)
            go_roundw
            case rel => exact ⟨i + 1, by omega, by go_num, HBK.out, HNX⟩
            case measure => simp [intOf]; omega
    · have hltI : ¬ (i : Int) < n := by omega
      have hin' : i = n := by omega
      subst hin'
      go_wp2_with (fail)
      go_ret
      exact ⟨0, rfl, fun _ => by unfold LdsOk; rw [HN.out]; exact HOK.out, HB.out⟩
end Go.Proofs.YtldohjamiofkpaaGreatDoor

/- alarm.CheckLadders of right ladders: nothing is wrong. Printed by gen_LdX.py. -/
namespace Go.Proofs.YtldohjamiofkpaaGreatDoor
open Go.RowKit Go.Shelf Go.Sort

set_option maxRecDepth 100000 in
set_option maxHeartbeats 4000000 in
theorem checkLadders_any (L : List Ld) (n c : Nat) (A : Option Addr) (w : World) (hn : L.length = n) (hn2 : n ≤ 100) (hr : Row w w.heap.size A (recs ldC L)) (hr2 : ∀ x ∈ L, Row w w.heap.size x.A (recs rgC x.g)) (hg : LdsOk L) :
    Calls Tryz.prog 45 #[.slice A n c] w fun e w' => e = .returned (.int .i64 0) ∧ Below w.heap.size w w' := by
  have HR := Lib.hid hr
  have HR2 := Lib.hid hr2
  have HN := Lib.hid hn
  have HG := Lib.hid hg
  have hnI2 : ¬ (100 : Int) < n := by omega
  clear hr hr2 hn hg
  go_enter Tryz.func45, Tryz.ntmps45
  go_wp2_with (fail)
  go_loopw [12] (fun s wr => ∃ (i : Nat), i ≤ n ∧ s = .int .i64 (i : Int) ∧ Below w.heap.size w wr) (fun s _ => n - (intOf s).toNat)
  case atStart => exact ⟨0, by omega, rfl, Below.refl _ _⟩
  case round =>
    obtain ⟨i, hin, rfl, hbr⟩ := hrel
    have hbs := hbr.size
    have HB := Lib.hid hbr
    clear hbr
    by_cases hlt : i < n
    · have hltI : (i : Int) < n := by omega
      obtain ⟨x, hx⟩ : ∃ x, L[i]? = some x := ⟨_, List.getElem?_eq_getElem (by have := HN.out; omega)⟩
      obtain ⟨b, o, rfl, hb, hC⟩ := (HR.out.below HB.out).posR ldC_len (by omega) (by have := HN.out; omega)
      have HX := Lib.hid (HG.out.1 i x (by have := HN.out; omega) hx)
      have HRX := Lib.hid (HR2.out x (List.mem_of_getElem? hx))
      have c0 : wr.cell? ⟨b, o + i * 3, none⟩ = some (.string (ruT x.r)) := rec_cell ldC_len hC i x hx 0 _ rfl
      have c1 := rec_cell ldC_len hC i x hx 1 _ rfl
      have c2 := rec_cell ldC_len hC i x hx 2 _ rfl
      have HP := Lib.hid hx
      have hb' : b < wr.heap.size := by omega
      obtain ⟨xa, exa⟩ : ∃ a, a = x.A := ⟨_, rfl⟩
      obtain ⟨m, em⟩ : ∃ m, m = x.g.length := ⟨_, rfl⟩
      obtain ⟨xc, exc⟩ : ∃ a, a = x.c := ⟨_, rfl⟩
      obtain ⟨xe, exe⟩ : ∃ a, a = x.ev := ⟨_, rfl⟩
      rw [← exa, ← em, ← exc] at c1
      rw [← exe] at c2
      have HEM := Lib.hid em.symm
      have HEV := Lib.hid exe.symm
      rw [← exa] at HRX
      have hm4 : m ≤ 10 := by have := HX.out.n; omega
      clear hx hC exa em exc exe
      go_upto_region 6 with (fail)
      obtain ⟨g, eg⟩ : ∃ g, g = wr.heap.size := ⟨_, rfl⟩
      obtain ⟨w5, e5⟩ : ∃ w5, w5 = wr.alloc (.cells #[.string (ruT x.r), .slice xa m xc, .int .i64 xe] 89) := ⟨_, rfl⟩
      rw [← eg, ← e5]
      have hg5 : w5.heap[g]? = some (.cells #[.string (ruT x.r), .slice xa m xc, .int .i64 xe] 89 (0, 0)) := by rw [e5, eg]; exact heap_new wr _
      have HB5 := Lib.hid (show Below w.heap.size w w5 from by rw [e5]; exact HB.out.alloc hbs _)
      have hlt5 : g < w5.heap.size := by rw [e5, eg]; simp
      have hbs5 := HB5.out.size
      have HQ := Lib.hid (fun (V : World) (hV : Below w5.heap.size w5 V) => show V.cell? ⟨g, 0, none⟩ = some (.string (ruT x.r)) ∧ V.cell? ⟨g, 1, none⟩ = some (.slice xa m xc) ∧ V.cell? ⟨g, 2, none⟩ = some (.int .i64 xe) from
        ⟨cell_of_blk (j := 0) ((hV.block g hlt5).trans hg5) rfl, cell_of_blk (j := 1) ((hV.block g hlt5).trans hg5) rfl, cell_of_blk (j := 2) ((hV.block g hlt5).trans hg5) rfl⟩)
      obtain ⟨q0, q1, q2⟩ := HQ.out w5 (Below.refl _ _)
      clear eg e5 hg5 c0 c1 c2
      go_wp2_with (fail)
      refine (key_ru x.r HX.out.r _).mono ?_
      rintro e w6 ⟨rfl, rfl⟩
      have hb6 := Below.refl w5.heap.size w5
      obtain ⟨w6, ew6⟩ : ∃ w6, w6 = w5 := ⟨_, rfl⟩
      rw [← ew6] at hb6 ⊢
      replace hb6 : Below w5.heap.size w5 w6 := by rw [ew6]; exact Below.refl _ _
      clear ew6
      have HB6 := Lib.hid (HB5.out.trans (hb6.mono hbs5))
      have HB56 := Lib.hid hb6
      have hs6 := hb6.size
      clear hb6 q0 q1 q2
      obtain ⟨q0, q1, q2⟩ := HQ.out w6 HB56.out
      have hg6 : g < w6.heap.size := by omega
      go_upto_region 8 with (fail)
      have HREST : ∀ (fr : Act) (V : World), Below w6.heap.size w6 V → True := fun _ _ _ => trivial
      clear HREST
      obtain ⟨bad, ebad⟩ : ∃ bad : Bool, bad = (decide (0 < i) && match L[i - 1]? with | some q => (Op.bytesLess (ruT x.r).toList (ruT q.r).toList || (ruT x.r).toList == (ruT q.r).toList) | none => false) := ⟨_, rfl⟩
      go_cut [22] (fun s wx => s = .bool bad ∧ Below w6.heap.size w6 wx)
      case first =>
        by_cases hi0 : i = 0
        · subst hi0
          have hd : decide ((0 : Int) < 0) = false := by decide
          have hbad : bad = false := by rw [ebad]; rfl
          clear ebad
          subst hbad
          go_quiet (fail)
          go_wp2_with (fail)
          go_meet
          exact ⟨rfl, below_drewN (Below.refl _ _) _⟩
        · have hi1I : (0 : Int) < i := by omega
          have hd : decide ((0 : Int) < i) = true := by simpa using hi1I
          have hd2 : decide (0 < i) = true := by simp; omega
          have hd3 : 0 < i := by omega
          obtain ⟨q, hq⟩ : ∃ q, L[i - 1]? = some q := ⟨_, List.getElem?_eq_getElem (by have := HN.out; omega)⟩
          obtain ⟨b2, o2, e2, hb2, hC2⟩ := (HR.out.below HB6.out).posR ldC_len (by omega) (by have := HN.out; omega)
          cases e2
          have p0 : w6.cell? ⟨b, o + (i - 1) * 3, none⟩ = some (.string (ruT q.r)) := rec_cell ldC_len hC2 (i - 1) q hq 0 _ rfl
          have hwrap : (i : Int) - 1 = ((i - 1 : Nat) : Int) := by omega
          have hwr : IntKind.i64.wrap ((i - 1 : Nat) : Int) = ((i - 1 : Nat) : Int) := by rw [IntKind.wrap_i64]; omega
          have hxI : ((i - 1 : Nat) : Int) < (n : Int) := by omega
          have hxN : i - 1 < n := by omega
          rw [hq, hd2, Bool.true_and] at ebad
          simp only at ebad
          have hb6' : b < w6.heap.size := by omega
          clear hq hC2
          go_quiet (fail)
          simp only [← ebad]
          go_wp2_with (fail)
          go_meet
          exact ⟨rfl, below_drewN (Below.refl _ _) _⟩
      case rest =>
      obtain ⟨rfl, hbc⟩ := hcut
      obtain ⟨w7, ew7⟩ : ∃ w7 : World, w7 = wc := ⟨_, rfl⟩
      rw [← ew7] at hbc ⊢
      clear ew7
      have HB7 := Lib.hid (HB6.out.trans (hbc.mono HB6.out.size))
      have HB57 := Lib.hid (HB56.out.trans (hbc.mono hs6))
      have hs7 := hbc.size
      clear hbc q0 q1 q2
      obtain ⟨q0, q1, q2⟩ := HQ.out w7 HB57.out
      have hg7 : g < w7.heap.size := by omega
      have hbad : bad = false := by
        by_cases hi0 : i = 0
        · subst hi0; rw [ebad]; rfl
        · obtain ⟨q, hq⟩ : ∃ q, L[i - 1]? = some q := ⟨_, List.getElem?_eq_getElem (by have := HN.out; omega)⟩
          rw [ebad, hq]
          have h1 := HG.out.2 (i - 1) q x (by have := HN.out; omega) hq (by rw [show i - 1 + 1 = i by omega]; exact HP.out)
          simp only
          rw [ru_le_no HX.out.r h1, Bool.and_false]
      subst hbad
      clear ebad
      have hm0 : ¬ m = 0 := by have := HX.out.n; have := HEM.out; omega
      have hm0I : ¬ (m : Int) = 0 := by omega
      have hm10 : ¬ (10 : Int) < m := by omega
      go_wp2_with (fail)
      go_loopw [49] (fun s wx => ∃ (k : Nat), k ≤ m ∧ s = .int .i64 (k : Int) ∧ Below w.heap.size w wx ∧ Below w5.heap.size w5 wx) (fun s _ => m - (intOf s).toNat)
      case atStart => exact ⟨0, by omega, rfl, HB7.out, HB57.out⟩
      case round =>
        obtain ⟨k, hkm, rfl, hbk, hbk5⟩ := hrel
        have hsk := hbk5.size
        have HBK := Lib.hid hbk
        have HB5K := Lib.hid hbk5
        clear hbk hbk5 q0 q1 q2
        by_cases hkl : k < m
        · have hklI : (k : Int) < m := by omega
          obtain ⟨y, hy⟩ : ∃ y, x.g[k]? = some y := ⟨_, List.getElem?_eq_getElem (by have := HEM.out; omega)⟩
          obtain ⟨gb, go, exa, hgb, hD⟩ := (HRX.out.below HBK.out).posR rgC_len (by omega) (by have := HEM.out; omega)
          subst exa
          have d0 : wr.cell? ⟨gb, go + k * 2, none⟩ = some (.int .i64 y.1) := rec_cell rgC_len hD k y hy 0 _ rfl
          have d1 := rec_cell rgC_len hD k y hy 1 _ rfl
          have HY := Lib.hid (HX.out.g.1 k y (by have := HEM.out; omega) hy)
          have HPY := Lib.hid hy
          have hgb' : gb < wr.heap.size := by have := HBK.out.size; omega
          clear hy hD
          obtain ⟨y1, ey1⟩ : ∃ a, a = y.1 := ⟨_, rfl⟩
          rw [← ey1] at d0
          have HY1 := Lib.hid ey1.symm
          clear ey1
          go_upto_region 17 with (fail)
          obtain ⟨h, eh⟩ : ∃ g, g = wr.heap.size := ⟨_, rfl⟩
          obtain ⟨w8, e8⟩ : ∃ w5, w5 = wr.alloc (.cells #[.int .i64 y1, .string (tmT y.2)] 91) := ⟨_, rfl⟩
          rw [← eh, ← e8]
          have hh8 : w8.heap[h]? = some (.cells #[.int .i64 y1, .string (tmT y.2)] 91 (0, 0)) := by rw [e8, eh]; exact heap_new wr _
          have hb8 : Below wr.heap.size wr w8 := by rw [e8]; exact (Below.refl _ _).alloc (Nat.le_refl _) _
          have HB8 := Lib.hid (HBK.out.trans (hb8.mono HBK.out.size))
          have HB58 := Lib.hid (HB5K.out.trans (hb8.mono HB5K.out.size))
          have hh8l : h < w8.heap.size := by rw [e8, eh]; simp
          have hs8 := hb8.size
          have r0 : w8.cell? ⟨h, 0, none⟩ = some (.int .i64 y1) := cell_of_blk (j := 0) hh8 rfl
          have HH8 := Lib.hid hh8
          clear eh e8 hh8 hb8 d0 d1
          obtain ⟨q0, q1, q2⟩ := HQ.out w8 HB58.out
          have hg8 : g < w8.heap.size := by omega
          have HK := Lib.hid (show 0 ≤ y1 ∧ y1 ≤ 2592000000 from by rw [← HY1.out]; exact HY.out.a)
          go_upto_region 19 with (go_at_call 79; refine (out_no _ _ _ _ HK.out.1 HK.out.2).mono ?_; rintro e w' ⟨rfl, rfl⟩)
          obtain ⟨bad, ebad⟩ : ∃ bad : Bool, bad = (decide (0 < k) && match x.g[k - 1]? with | some q => decide (y1 ≤ q.1) | none => false) := ⟨_, rfl⟩
          go_cut [58] (fun s wx => s = .bool bad ∧ Below w8.heap.size w8 wx)
          case first =>
            by_cases hi0 : k = 0
            · subst hi0
              have hd : decide ((0 : Int) < 0) = false := by decide
              have hbad : bad = false := by rw [ebad]; rfl
              clear ebad
              subst hbad
              go_quiet (fail)
              go_wp2_with (fail)
              go_meet
              exact ⟨rfl, below_drewN (Below.refl _ _) _⟩
            · have hi1I : (0 : Int) < k := by omega
              have hd : decide ((0 : Int) < k) = true := by simpa using hi1I
              have hd2 : decide (0 < k) = true := by simp; omega
              have hd3 : 0 < k := by omega
              obtain ⟨q, hq⟩ : ∃ q, x.g[k - 1]? = some q := ⟨_, List.getElem?_eq_getElem (by have := HEM.out; omega)⟩
              obtain ⟨b2, o2, e2, hb2, hC2⟩ := (HRX.out.below HB8.out).posR rgC_len (by omega) (by have := HEM.out; omega)
              cases e2
              have p0 : w8.cell? ⟨gb, go + (k - 1) * 2, none⟩ = some (.int .i64 q.1) := rec_cell rgC_len hC2 (k - 1) q hq 0 _ rfl
              have hwrap : (k : Int) - 1 = ((k - 1 : Nat) : Int) := by omega
              have hwr : IntKind.i64.wrap ((k - 1 : Nat) : Int) = ((k - 1 : Nat) : Int) := by rw [IntKind.wrap_i64]; omega
              have hxI : ((k - 1 : Nat) : Int) < (m : Int) := by omega
              have hxN : k - 1 < m := by omega
              rw [hq, hd2, Bool.true_and] at ebad
              simp only at ebad
              have hgb8 : gb < w8.heap.size := by omega
              clear hq hC2
              go_quiet (fail)
              simp only [← ebad]
              go_wp2_with (fail)
              go_meet
              exact ⟨rfl, below_drewN (Below.refl _ _) _⟩
          case rest =>
          obtain ⟨rfl, hbc⟩ := hcut
          obtain ⟨w9, ew9⟩ : ∃ w9 : World, w9 = wc := ⟨_, rfl⟩
          rw [← ew9] at hbc ⊢
          clear ew9
          have HB9 := Lib.hid (HB8.out.trans (hbc.mono HB8.out.size))
          have HB59 := Lib.hid (HB58.out.trans (hbc.mono HB58.out.size))
          have hs9 := hbc.size
          have r1 : w9.cell? ⟨h, 1, none⟩ = some (.string (tmT y.2)) := cell_of_blk (j := 1) ((hbc.block h hh8l).trans HH8.out) rfl
          have hh9l : h < w9.heap.size := by omega
          clear hbc q0 q1 q2
          have hbad : bad = false := by
            by_cases hi0 : k = 0
            · subst hi0; rw [ebad]; rfl
            · obtain ⟨q, hq⟩ : ∃ q, x.g[k - 1]? = some q := ⟨_, List.getElem?_eq_getElem (by have := HEM.out; omega)⟩
              rw [ebad, hq]
              have h1 := HX.out.g.2 (k - 1) q y (by have := HEM.out; omega) hq (by rw [show k - 1 + 1 = k by omega]; exact HPY.out)
              have h2 := HY1.out
              unfold RgL at h1
              simp only
              rw [decide_eq_false (show ¬ y1 ≤ q.1 by omega), Bool.and_false]
          subst hbad
          clear ebad
          go_wp2_with (fail)
          refine (key_tm y.2 HY.out.t _).mono ?_
          rintro e w10 ⟨rfl, rfl⟩
          go_wp2_with (fail)
          go_roundw
          case rel => exact ⟨k + 1, by omega, by go_num, HB9.out, HB59.out⟩
          case measure => simp [intOf]; omega
        · have hklI : ¬ (k : Int) < m := by omega
          obtain rfl : k = m := by omega
          obtain ⟨q0, q1, q2⟩ := HQ.out wr HB5K.out
          have hgr : g < wr.heap.size := by omega
          by_cases hev : xe = 0
          · have hevb : (xe != 0) = false := by simpa using hev
            clear hev
            go_wp2_with (fail)
            go_roundw
            case rel => exact ⟨i + 1, by omega, by go_num, HBK.out⟩
            case measure => simp [intOf]; omega
          · have hevb : (xe != 0) = true := by simpa using hev
            have hev2 : 1000 ≤ xe ∧ xe ≤ 2592000000 := by have := HX.out.ev; have := HEV.out; omega
            clear hev
            go_wp2_with (go_at_call 79; refine (out_no _ _ _ _ hev2.1 hev2.2).mono ?_; rintro e w' ⟨rfl, rfl⟩)
            go_roundw
            case rel => exact ⟨i + 1, by omega, by go_num, HBK.out⟩
            case measure => simp [intOf]; omega
    · have hltI : ¬ (i : Int) < n := by omega
      have hin' : i = n := by omega
      subst hin'
      go_wp2_with (fail)
      go_ret
      exact ⟨rfl, HB.out⟩
end Go.Proofs.YtldohjamiofkpaaGreatDoor

/- alarm.AlarmOf by its contract. -/
namespace Go.Proofs.YtldohjamiofkpaaGreatDoor
open Go.RowKit Go.Shelf

theorem SgR.v {s : Sg} (h : SgR s) : SgV s := ⟨⟨h.d, h.r⟩, h.kd, h.at0, h.at1⟩
theorem lifeAt_none {l : List Sg} {t : Int} {n : Nm2} (h : n ∉ namesOf l) : lifeAt l t n = newL n.1 n.2 := by
  have h' : ∀ s ∈ l, (s.d, s.r) ≠ n := fun s hs e => h ((mem_namesOf l n).2 ⟨s, hs, e⟩)
  clear h
  have key : ∀ (l : List Sg) (L : Lf), (∀ s ∈ l, (s.d, s.r) ≠ n) → l.foldl (lifeStep t n) L = L := by
    intro l
    induction l with
    | nil => intro L _; rfl
    | cons s l ih =>
      intro L hl
      rw [List.foldl_cons]
      have : lifeStep t n L s = L := by unfold lifeStep; rw [if_neg (fun e => hl s List.mem_cons_self e.1)]
      rw [this]
      exact ih L fun q hq => hl q (List.mem_cons_of_mem _ hq)
  exact key l _ h'
theorem lifeAt_name (l : List Sg) (t : Int) (n : Nm2) : (lifeAt l t n).d = n.1 ∧ (lifeAt l t n).r = n.2 := by
  have key : ∀ (l : List Sg) (L : Lf), (l.foldl (lifeStep t n) L).d = L.d ∧ (l.foldl (lifeStep t n) L).r = L.r := by
    intro l
    induction l with
    | nil => intro L; exact ⟨rfl, rfl⟩
    | cons s l ih =>
      intro L
      rw [List.foldl_cons]
      obtain ⟨h1, h2⟩ := ih (lifeStep t n L s)
      have : (lifeStep t n L s).d = L.d ∧ (lifeStep t n L s).r = L.r := by
        unfold lifeStep
        split
        · exact follow_name L s
        · exact ⟨rfl, rfl⟩
      exact ⟨h1.trans this.1, h2.trans this.2⟩
  exact key l _
/-- What a house says of a name. -/
theorem house_look {w' : World} {B hs m : Nat} {o : List Nat} {M : List Mb} {l : List Sg} {F : Nm2 → Lf} (hI : HsI w' B hs m o M) (hnm : M.map (·.n) = namesOf l) (hL : ∀ y ∈ M, y.L = F y.n) (d r : Nat) (hn : NmOk (d, r)) :
    w'.cell? ⟨hs, 0, none⟩ = some (.map (some m)) ∧
    ((∃ x v, (Instr.lookup 117 (.map (some m)) (.agg #[.string (aldT d), .string (alrT r)]) false).run Tryz.prog w' = .ok (.pointer (some ⟨x, 0, none⟩)) w' ∧ LfI w' x (F (d, r)) v) ∨
      ((Instr.lookup 117 (.map (some m)) (.agg #[.string (aldT d), .string (alrT r)]) false).run Tryz.prog w' = .ok (.pointer none) w' ∧ (d, r) ∉ namesOf l)) := by
  obtain ⟨A, c, hb, _⟩ := hI.blk
  refine ⟨cell_of_blk (j := 0) hb rfl, ?_⟩
  have hlk := lookup_names hn (w := w') (m := m) (l := mbE M) (fun p hp => by
    simp only [mbE, List.mem_map] at hp
    obtain ⟨z, hz, rfl⟩ := hp
    exact (hI.each z hz).2.1) (by have := hI.map; simpa [mbE] using this)
  cases h : lkN (mbE M) (d, r) with
  | some x =>
    left
    obtain ⟨P, y, S, hM, h1, h2, h3⟩ := lkN_split h
    have hy : y ∈ M := by rw [hM]; simp
    rw [h] at hlk
    refine ⟨x, y.v, hlk, ?_⟩
    have := (hI.each y hy).1
    rw [hL y hy, h1, h2] at this
    exact this
  | none =>
    right
    rw [h] at hlk
    exact ⟨hlk, by rw [← hnm]; exact lkN_none.1 h⟩
def AlOfP (w : World) (a : Am) (e : Ending) (w' : World) : Prop := e = .returned (.tuple #[.agg #[.string (aldT a.d), .string (alrT a.r), .int .i64 a.st, .int .i64 a.si, .int .i64 a.n, .int .i64 a.sh], .int .i64 0]) ∧ Below w.heap.size w w'
set_option maxRecDepth 100000 in
set_option maxHeartbeats 2000000 in
theorem alarmOf_any (l : List Sg) (n c d r : Nat) (t : Int) (A : Option Addr) (w : World) (hl : SgsOk l) (hn : l.length = n) (hn2 : n ≤ 1000) (hr : Row w w.heap.size A (recs sgC l)) (hd : NmOk (d, r)) (ht0 : 0 ≤ t) (ht1 : t < 345686400000) :
    Calls Tryz.prog 14 #[.slice A n c, .string (aldT d), .string (alrT r), .int .i64 t] w fun e w' => AlOfP w (viewL (lifeAt l t (d, r)) t) e w' := by
  have hba : Below w.heap.size w (w.alloc (.cells #[.string ⟨#[]⟩, .string ⟨#[]⟩, .int .i64 0, .int .i64 0, .int .i64 0, .int .i64 0] 46)) := (Below.refl _ _).alloc (Nat.le_refl _) _
  have hnw := heap_new w (.cells #[.string ⟨#[]⟩, .string ⟨#[]⟩, .int .i64 0, .int .i64 0, .int .i64 0, .int .i64 0] 46)
  have hz : w.heap.size < (w.alloc (.cells #[.string ⟨#[]⟩, .string ⟨#[]⟩, .int .i64 0, .int .i64 0, .int .i64 0, .int .i64 0] 46)).heap.size := by simp
  have HRW := Lib.hid (fun (V : World) (hV : Below w.heap.size w V) => show Row V V.heap.size A (recs sgC l) from (hr.below hV).mono hV.size)
  have HN := Lib.hid (nameFault_any l n c d r A _ hl hn hn2 (HRW.out _ hba))
  have HA := Lib.hid (fun V hV => at_any l n c t A V hn (by omega) (HRW.out V hV) (fun s hs => (hl.1 s hs).v))
  have HK := Lib.hid (And.intro hba (And.intro hnw hz))
  have HNM := Lib.hid hd
  have HT := Lib.hid (And.intro ht0 ht1)
  obtain ⟨⟨ad, ar, a1, a2, a3, a4⟩, ha⟩ : ∃ a, a = viewL (lifeAt l t (d, r)) t := ⟨_, rfl⟩
  rw [← ha]
  have HAV := Lib.hid ha
  unfold AlOfP
  simp only
  clear ha
  clear hba hnw hz hl hn hr hd ht0 ht1
  go_enter Tryz.func14, Tryz.ntmps14
  go_wp2_with (fail)
  refine HN.out.mono ?_
  rintro e w1 ⟨rfl, hB1⟩
  have HB1 := Lib.hid (HK.out.1.trans (hB1.mono HK.out.1.size))
  have HN1 := Lib.hid ((hB1.block w.heap.size HK.out.2.2).trans HK.out.2.1)
  have hs1 := hB1.size
  have hlt1 : w.heap.size < w1.heap.size := Nat.lt_of_lt_of_le HK.out.2.2 hs1
  clear hB1 hs1
  go_wp2_with (go_at_call 56; refine (moment_yes _ _ HT.out.1 HT.out.2).mono ?_; rintro e w' ⟨rfl, rfl⟩)
  refine (HA.out w1 HB1.out).mono ?_
  rintro e w2 ⟨hs, m, o, M, rfl, hI, hord, hnm, hL, hB2⟩
  have hlook := house_look hI hnm hL d r HNM.out
  obtain ⟨hc, hlook⟩ := hlook
  have hs2 := hB2.size
  have HB2 := Lib.hid (HB1.out.trans (hB2.mono HB1.out.size))
  have HN2 := Lib.hid ((hB2.block w.heap.size hlt1).trans HN1.out)
  have hlt2 : w.heap.size < w2.heap.size := by omega
  clear hI hord hnm hL hB2
  generalize hgg : w.heap.size = g at hlt2 hlt1 ⊢
  have HGG := Lib.hid hgg
  rcases hlook with ⟨x, v, hl, hX⟩ | ⟨hl, hno⟩
  · have HV := Lib.hid (view_any x t _ v w2 hX)
    unfold ViewPost at HV
    rw [← HAV.out] at HV
    unfold amC at HV
    simp only at HV
    clear hX hgg
    go_wp2_with (fail)
    refine HV.out.mono ?_
    rintro e w3 ⟨rfl, hB3⟩
    have hn3 := (hB3.block g hlt2).trans (HGG.out ▸ HN2.out)
    have hs3 := hB3.size
    have HB3 := Lib.hid (show Below w.heap.size w w3 from HB2.out.trans (hB3.mono HB2.out.size))
    have hlt3 : g < w3.heap.size := by omega
    have HN3 := Lib.hid hn3
    clear hB3 hn3 hl hc
    go_upto_region 10 with (fail)
    have hbv : Below w3.heap.size w3 (w3.alloc (.cells #[.string (aldT ad), .string (alrT ar), .int .i64 a1, .int .i64 a2, .int .i64 a3, .int .i64 a4] 46)) := (Below.refl _ _).alloc (Nat.le_refl _) _
    have hnv := heap_new w3 (.cells #[.string (aldT ad), .string (alrT ar), .int .i64 a1, .int .i64 a2, .int .i64 a3, .int .i64 a4] 46)
    generalize w3.alloc (.cells #[.string (aldT ad), .string (alrT ar), .int .i64 a1, .int .i64 a2, .int .i64 a3, .int .i64 a4] 46) = V at hbv hnv ⊢
    have hgv := (hbv.block g hlt3).trans HN3.out
    have HWV := Lib.hid (show Below w.heap.size w V from HB3.out.trans (hbv.mono HB3.out.size))
    have hne : g ≠ w3.heap.size := by omega
    generalize w3.heap.size = k at hnv hne ⊢
    obtain ⟨p0, p1, p2, p3, p4, p5⟩ := box6 hnv
    obtain ⟨q0, q1, q2, q3, q4, q5⟩ := box6 hgv
    have z0 := frz hgv 0
    have z1 := frz hgv 1
    have z2 := frz hgv 2
    have z3 := frz hgv 3
    have z4 := frz hgv 4
    have z5 := frz hgv 5
    have HV3 := Lib.hid hgv
    clear hbv hgv hnv hlt3
    go_wp2_with (fail)
    have HX := six_set (.string (aldT ad)) (.string (alrT ar)) (.int .i64 a1) (.int .i64 a2) (.int .i64 a3) (.int .i64 a4) HWV.out (Nat.le_of_eq HGG.out) HV3.out
    obtain ⟨HBX, HX⟩ := HX
    generalize ((((((V.setCell ⟨g, 0, none⟩ (.string (aldT ad))).setCell ⟨g, 1, none⟩ (.string (alrT ar))).setCell ⟨g, 2, none⟩ (.int .i64 a1)).setCell ⟨g, 3, none⟩ (.int .i64 a2)).setCell ⟨g, 4, none⟩ (.int .i64 a3)).setCell ⟨g, 5, none⟩ (.int .i64 a4)) = U at HX HBX ⊢
    clear q0 q1 q2 q3 q4 q5 p0 p1 p2 p3 p4 p5
    obtain ⟨q0, q1, q2, q3, q4, q5⟩ := box6 HX
    exact bodyPost_ret (v := .tuple #[.agg #[.string (aldT ad), .string (alrT ar), .int .i64 a1, .int .i64 a2, .int .i64 a3, .int .i64 a4], .int .i64 0]) (by simp [results, Tryz.results14, go_sem, q0, q1, q2, q3, q4, q5]) rfl ⟨rfl, HBX⟩
  · have hav : (⟨ad, ar, a1, a2, a3, a4⟩ : Am) = ⟨d, r, 0, 0, 0, 0⟩ := by
      rw [HAV.out, lifeAt_none hno]
      unfold viewL newL
      simp only [List.length_nil]
      rw [if_neg (by have := HT.out.1; omega)]
      rfl
    have HAV2 := Lib.hid (Am.mk.inj hav)
    have hgv := HGG.out ▸ HN2.out
    obtain ⟨q0, q1, q2, q3, q4, q5⟩ := box6 hgv
    have z0 := frz hgv 0
    have z1 := frz hgv 1
    have z2 := frz hgv 2
    have z3 := frz hgv 3
    have z4 := frz hgv 4
    have z5 := frz hgv 5
    have HV3 := Lib.hid hgv
    clear hav hno hgv hgg
    go_wp2_with (fail)
    have HX := six_set (.string (aldT d)) (.string (alrT r)) (.int .i64 0) (.int .i64 0) (.int .i64 0) (.int .i64 0) HB2.out (Nat.le_of_eq HGG.out) HV3.out
    obtain ⟨HBX, HX⟩ := HX
    generalize ((((((w2.setCell ⟨g, 0, none⟩ (.string (aldT d))).setCell ⟨g, 1, none⟩ (.string (alrT r))).setCell ⟨g, 2, none⟩ (.int .i64 0)).setCell ⟨g, 3, none⟩ (.int .i64 0)).setCell ⟨g, 4, none⟩ (.int .i64 0)).setCell ⟨g, 5, none⟩ (.int .i64 0)) = U at HX HBX ⊢
    clear q0 q1 q2 q3 q4 q5
    obtain ⟨q0, q1, q2, q3, q4, q5⟩ := box6 HX
    exact bodyPost_ret (v := .tuple #[.agg #[.string (aldT d), .string (alrT r), .int .i64 0, .int .i64 0, .int .i64 0, .int .i64 0], .int .i64 0]) (by simp [results, Tryz.results14, go_sem, q0, q1, q2, q3, q4, q5]) rfl ⟨by obtain ⟨e1, e2, e3, e4, e5, e6⟩ := HAV2.out; rw [e1, e2, e3, e4, e5, e6], HBX⟩
end Go.Proofs.YtldohjamiofkpaaGreatDoor

/- Windows that have a moment. No program in sight. -/
namespace Go.Proofs.YtldohjamiofkpaaGreatDoor

def lsts (x : Int × Int) : Bool := decide (x.1 < x.2)
end Go.Proofs.YtldohjamiofkpaaGreatDoor

/- AlarmsTakeTurns: the plain law; no program in sight. -/
namespace Go.Proofs.YtldohjamiofkpaaGreatDoor

def isUp (L : Lf) : Prop := L.st = 1 ∨ L.st = 2
theorem follow_kind (L : Lf) (s : Sg) :
    ((followL L s).1.up = L.up ∧ (isUp (followL L s).1 ↔ isUp L)) ∨ (¬ isUp L ∧ isUp (followL L s).1 ∧ (followL L s).1.up = L.up ++ [(s.at_, alEnd)] ∧ s.kd = 1) ∨ (isUp L ∧ ¬ isUp (followL L s).1 ∧ (followL L s).1.up = setLast L.up s.at_) := by
  unfold followL isUp
  split
  · rename_i hk
    split
    · exact .inl ⟨rfl, Iff.rfl⟩
    · rename_i h
      exact .inr (.inl ⟨h, .inl rfl, rfl, hk⟩)
  · split
    · split
      · rename_i h
        refine .inr (.inr ⟨.inl h, ?_, rfl⟩)
        simp [clA]
      · split
        · rename_i h
          refine .inr (.inr ⟨.inr h, ?_, rfl⟩)
          simp [clK]
        · exact .inl ⟨rfl, Iff.rfl⟩
    · split
      · split
        · rename_i h
          refine .inl ⟨rfl, ?_⟩
          simp [akd, akR, h]
        · split
          · rename_i h
            refine .inl ⟨rfl, ?_⟩
            simp [akd, akA, h]
          · exact .inl ⟨rfl, Iff.rfl⟩
      · split
        · split
          · exact .inl ⟨rfl, Iff.rfl⟩
          · exact .inl ⟨rfl, Iff.rfl⟩
        · split
          · exact .inl ⟨rfl, Iff.rfl⟩
          · exact .inl ⟨rfl, Iff.rfl⟩
theorem lifeAt_all {l : List Sg} {m : Int} {n : Nm2} (hm : ∀ s ∈ l, s.at_ ≤ m) (he : ∀ s ∈ l, s.at_ ≤ alEnd) : lifeAt l m n = lifeAt l alEnd n := by
  have key : ∀ (l : List Sg) (L : Lf), (∀ s ∈ l, s.at_ ≤ m) → (∀ s ∈ l, s.at_ ≤ alEnd) → l.foldl (lifeStep m n) L = l.foldl (lifeStep alEnd n) L := by
    intro l
    induction l with
    | nil => intro L _ _; rfl
    | cons s l ih =>
      intro L h1 h2
      rw [List.foldl_cons, List.foldl_cons]
      have : lifeStep m n L s = lifeStep alEnd n L s := by
        unfold lifeStep
        have := h1 s List.mem_cons_self
        have := h2 s List.mem_cons_self
        by_cases hn : (s.d, s.r) = n
        · rw [if_pos ⟨hn, by assumption⟩, if_pos ⟨hn, by assumption⟩]
        · rw [if_neg (fun e => hn e.1), if_neg (fun e => hn e.1)]
      rw [this]
      exact ih _ (fun q hq => h1 q (List.mem_cons_of_mem _ hq)) (fun q hq => h2 q (List.mem_cons_of_mem _ hq))
  exact key l _ hm he
/-- What holds of the windows behind some signals. -/
structure UpI (l : List Sg) (n : Nm2) (cl op : List (Int × Int)) : Prop where
  up : (lifeAt l alEnd n).up = cl ++ op
  pw : (cl ++ op).Pairwise (fun a b => a.2 ≤ b.1)
  rng : ∀ w ∈ cl ++ op, 0 ≤ w.1 ∧ w.1 ≤ w.2 ∧ w.2 ≤ alEnd ∧ ∃ s ∈ l, s.at_ = w.1 ∧ s.kd = 1 ∧ (s.d, s.r) = n
  cl_ : ∀ w ∈ cl, ∃ s ∈ l, w.2 = s.at_
  opn : (isUp (lifeAt l alEnd n) ∧ ∃ f, op = [(f, alEnd)]) ∨ (¬ isUp (lifeAt l alEnd n) ∧ op = [])
  st : ∀ w ∈ cl ++ op, ∀ m, w.1 ≤ m → m < w.2 → isUp (lifeAt l m n)
theorem upI_nil (n : Nm2) : UpI [] n [] [] := by
  refine ⟨rfl, List.Pairwise.nil, by simp, by simp, .inr ⟨?_, rfl⟩, by simp⟩
  unfold isUp
  simp [lifeAt, newL]
theorem upI_snoc {l : List Sg} {s : Sg} {n : Nm2} {cl op : List (Int × Int)} (h : UpI l n cl op) (hs : ∀ q ∈ l, q.at_ ≤ s.at_) (h0 : 0 ≤ s.at_) (h1 : s.at_ < alEnd) : ∃ cl' op', UpI (l ++ [s]) n cl' op' := by
  have hle : ∀ q ∈ l, q.at_ ≤ alEnd := fun q hq => by have := hs q hq; omega
  have hmem : ∀ q ∈ l, q ∈ l ++ [s] := fun q hq => List.mem_append_left _ hq
  by_cases hn : (s.d, s.r) = n
  · have hF : lifeAt (l ++ [s]) alEnd n = (followL (lifeAt l alEnd n) s).1 := by
      rw [lifeAt_snoc]; unfold lifeStep; rw [if_pos ⟨hn, by omega⟩]
    have hlow : ∀ m, m < s.at_ → lifeAt (l ++ [s]) m n = lifeAt l m n := fun m hm => by
      rw [lifeAt_snoc]; unfold lifeStep; rw [if_neg (fun e => by have := e.2; omega)]
    have hhigh : ∀ m, s.at_ ≤ m → lifeAt (l ++ [s]) m n = lifeAt (l ++ [s]) alEnd n := fun m hm =>
      lifeAt_all (fun q hq => by
        rw [List.mem_append, List.mem_singleton] at hq
        rcases hq with hq | rfl
        · have := hs q hq; omega
        · exact hm) (fun q hq => by
        rw [List.mem_append, List.mem_singleton] at hq
        rcases hq with hq | rfl
        · exact hle q hq
        · omega)
    have hclm : ∀ w ∈ cl, ∀ m, m < w.2 → m < s.at_ := fun w hw m hm => by
      obtain ⟨q, hq, e⟩ := h.cl_ w hw
      have := hs q hq
      omega
    have hrng : ∀ w ∈ cl ++ op, 0 ≤ w.1 ∧ w.1 ≤ w.2 ∧ w.2 ≤ alEnd ∧ ∃ q ∈ l ++ [s], q.at_ = w.1 ∧ q.kd = 1 ∧ (q.d, q.r) = n := fun w hw => by
      obtain ⟨a, b, c, q, hq, d⟩ := h.rng w hw
      exact ⟨a, b, c, q, hmem q hq, d⟩
    rcases follow_kind (lifeAt l alEnd n) s with ⟨k1, k2⟩ | ⟨k1, k2, k3, k4⟩ | ⟨k1, k2, k3⟩
    · refine ⟨cl, op, by rw [hF, k1]; exact h.up, h.pw, hrng, fun w hw => by obtain ⟨q, hq, e⟩ := h.cl_ w hw; exact ⟨q, hmem q hq, e⟩, by rw [hF, k2]; exact h.opn, fun w hw m h2 h3 => ?_⟩
      rcases Int.lt_or_le m s.at_ with hm | hm
      · rw [hlow m hm]; exact h.st w hw m h2 h3
      · rw [hhigh m hm, hF, k2]
        rcases List.mem_append.1 hw with hw | hw
        · have := hclm w hw m h3; omega
        · rcases h.opn with ⟨g, _⟩ | ⟨_, g⟩
          · exact g
          · rw [g] at hw; cases hw
    · have hop : op = [] := by
        rcases h.opn with ⟨g, _⟩ | ⟨_, g⟩
        · exact absurd g k1
        · exact g
      subst hop
      have hup := h.up
      rw [List.append_nil] at hup
      refine ⟨cl, [(s.at_, alEnd)], by rw [hF, k3, hup], ?_, ?_, fun w hw => by obtain ⟨q, hq, e⟩ := h.cl_ w hw; exact ⟨q, hmem q hq, e⟩, by rw [hF]; exact .inl ⟨k2, _, rfl⟩, ?_⟩
      · have hpw := h.pw
        rw [List.append_nil] at hpw
        refine List.pairwise_append.2 ⟨hpw, List.pairwise_singleton _ _, fun a ha b hb => ?_⟩
        rw [List.mem_singleton] at hb
        subst hb
        obtain ⟨q, hq, e⟩ := h.cl_ a ha
        have := hs q hq
        show a.2 ≤ s.at_
        omega
      · intro w hw
        rcases List.mem_append.1 hw with hw | hw
        · exact hrng w (List.mem_append_left _ hw)
        · rw [List.mem_singleton] at hw
          subst hw
          exact ⟨h0, by show s.at_ ≤ alEnd; omega, Int.le_refl _, s, by simp, rfl, k4, hn⟩
      · intro w hw m h2 h3
        rcases List.mem_append.1 hw with hw | hw
        · rw [hlow m (hclm w hw m h3)]
          exact h.st w (List.mem_append_left _ hw) m h2 h3
        · rw [List.mem_singleton] at hw
          subst hw
          rw [hhigh m h2, hF]
          exact k2
    · obtain ⟨f, hop⟩ : ∃ f, op = [(f, alEnd)] := by
        rcases h.opn with ⟨_, g⟩ | ⟨g, _⟩
        · exact g
        · exact absurd k1 g
      subst hop
      have hf := h.rng (f, alEnd) (by simp)
      obtain ⟨f1, f2, f3, q0, hq0, f4, f5⟩ := hf
      simp only at f1 f2 f3 f4
      have hfs : f ≤ s.at_ := by have := hs q0 hq0; omega
      refine ⟨cl ++ [(f, s.at_)], [], by rw [hF, k3, h.up, setLast_snoc, List.append_nil], ?_, ?_, ?_, by rw [hF]; exact .inr ⟨k2, rfl⟩, ?_⟩
      · rw [List.append_nil]
        have hpw := List.pairwise_append.1 h.pw
        refine List.pairwise_append.2 ⟨hpw.1, List.pairwise_singleton _ _, fun a ha b hb => ?_⟩
        rw [List.mem_singleton] at hb
        subst hb
        exact hpw.2.2 a ha (f, alEnd) (by simp)
      · intro w hw
        rw [List.append_nil] at hw
        rcases List.mem_append.1 hw with hw | hw
        · exact hrng w (List.mem_append_left _ hw)
        · rw [List.mem_singleton] at hw
          subst hw
          exact ⟨f1, hfs, by show s.at_ ≤ alEnd; omega, q0, hmem q0 hq0, f4, f5⟩
      · intro w hw
        rcases List.mem_append.1 hw with hw | hw
        · obtain ⟨q, hq, e⟩ := h.cl_ w hw
          exact ⟨q, hmem q hq, e⟩
        · rw [List.mem_singleton] at hw
          subst hw
          exact ⟨s, by simp, rfl⟩
      · intro w hw m h2 h3
        rw [List.append_nil] at hw
        rcases List.mem_append.1 hw with hw | hw
        · rw [hlow m (hclm w hw m h3)]
          exact h.st w (List.mem_append_left _ hw) m h2 h3
        · rw [List.mem_singleton] at hw
          subst hw
          simp only at h2 h3
          rw [hlow m h3]
          exact h.st (f, alEnd) (by simp) m h2 (by show m < alEnd; omega)
  · have hF : ∀ m, lifeAt (l ++ [s]) m n = lifeAt l m n := fun m => by
      rw [lifeAt_snoc]; unfold lifeStep; rw [if_neg (fun e => hn e.1)]
    refine ⟨cl, op, by rw [hF]; exact h.up, h.pw, fun w hw => ?_, fun w hw => ?_, by rw [hF]; exact h.opn, fun w hw m h2 h3 => by rw [hF]; exact h.st w hw m h2 h3⟩
    · obtain ⟨a, b, c, q, hq, d⟩ := h.rng w hw
      exact ⟨a, b, c, q, hmem q hq, d⟩
    · obtain ⟨q, hq, e⟩ := h.cl_ w hw
      exact ⟨q, hmem q hq, e⟩
theorem upI_any {l : List Sg} (n : Nm2) (h : SgsOk l) : ∃ cl op, UpI l n cl op := by
  have key : ∀ k, k ≤ l.length → ∃ cl op, UpI (l.take k) n cl op := by
    intro k
    induction k with
    | zero => intro _; exact ⟨[], [], by simpa using upI_nil n⟩
    | succ k ih =>
      intro hk
      obtain ⟨cl, op, hi⟩ := ih (by omega)
      have hx : l[k]? = some l[k] := List.getElem?_eq_getElem (by omega)
      have he : l.take (k + 1) = l.take k ++ [l[k]] := by rw [List.take_add_one, hx]; rfl
      rw [he]
      have hr := h.1 l[k] (List.getElem_mem (by omega))
      refine upI_snoc hi (fun q hq => ?_) hr.at0 hr.at1
      obtain ⟨i, hi', rfl⟩ := List.getElem_of_mem hq
      rw [List.length_take] at hi'
      rw [List.getElem_take]
      have := (List.pairwise_iff_getElem.1 h.2) i k (by omega) (by omega) (by omega)
      unfold SgL at this
      omega
  have := key l.length (Nat.le_refl _)
  rwa [List.take_length] at this
structure TurnW (l : List Sg) (n : Nm2) (w : Int × Int) : Prop where
  lo : 0 ≤ w.1
  lt : w.1 < w.2
  hi : w.2 ≤ 345686400000
  sig : ∃ s ∈ l, s.at_ = w.1 ∧ s.kd = 1 ∧ (s.d, s.r) = n
  at1 : isUp (lifeAt l w.1 n)
  at2 : isUp (lifeAt l (w.2 - 1) n)
theorem turns_any {l : List Sg} (n : Nm2) (h : SgsOk l) : ((lifeAt l 345686400000 n).up.filter lsts).Pairwise (fun a b => a.2 ≤ b.1) ∧ ∀ w ∈ (lifeAt l 345686400000 n).up.filter lsts, TurnW l n w := by
  obtain ⟨cl, op, hi⟩ := upI_any n h
  have hup : (lifeAt l 345686400000 n).up = cl ++ op := hi.up
  rw [hup]
  refine ⟨hi.pw.sublist List.filter_sublist, fun w hw => ?_⟩
  obtain ⟨hw1, hw2⟩ := List.mem_filter.1 hw
  have hlt : w.1 < w.2 := by unfold lsts at hw2; simpa using hw2
  obtain ⟨a, b, c, d⟩ := hi.rng w hw1
  exact ⟨a, hlt, c, d, hi.st w hw1 w.1 (Int.le_refl _) hlt, hi.st w hw1 (w.2 - 1) (by omega) (by omega)⟩
end Go.Proofs.YtldohjamiofkpaaGreatDoor

/- NoticesAreDue: the plain law of lives: the times in which an alarm is active, and in which it is shelved; no program in sight. -/
namespace Go.Proofs.YtldohjamiofkpaaGreatDoor

theorem follow_fresh (L : Lf) (s : Sg) :
    ((followL L s).1.fr = L.fr ∧ ((followL L s).1.st = 1 ↔ L.st = 1)) ∨ (¬ L.st = 1 ∧ (followL L s).1.st = 1 ∧ (followL L s).1.fr = L.fr ++ [(s.at_, alEnd)]) ∨ (L.st = 1 ∧ ¬ (followL L s).1.st = 1 ∧ (followL L s).1.fr = setLast L.fr s.at_) := by
  unfold followL
  split
  · split
    · exact .inl ⟨rfl, Iff.rfl⟩
    · rename_i h
      exact .inr (.inl ⟨by omega, rfl, rfl⟩)
  · split
    · split
      · rename_i h
        exact .inr (.inr ⟨h, by simp [clA], rfl⟩)
      · split
        · rename_i h1 h2
          exact .inl ⟨rfl, by simp [clK, h2]⟩
        · exact .inl ⟨rfl, Iff.rfl⟩
    · split
      · split
        · rename_i h
          exact .inl ⟨rfl, by simp [akd, akR, h]⟩
        · split
          · rename_i h
            exact .inr (.inr ⟨h, by simp [akd, akA], rfl⟩)
          · exact .inl ⟨rfl, Iff.rfl⟩
      · split
        · split
          · exact .inl ⟨rfl, Iff.rfl⟩
          · exact .inl ⟨rfl, Iff.rfl⟩
        · split
          · exact .inl ⟨rfl, Iff.rfl⟩
          · exact .inl ⟨rfl, Iff.rfl⟩
/-- What holds of the windows in which an alarm is active. -/
structure FrI (l : List Sg) (n : Nm2) (cl op : List (Int × Int)) : Prop where
  fr : (lifeAt l alEnd n).fr = cl ++ op
  rng : ∀ w ∈ cl ++ op, 0 ≤ w.1 ∧ w.1 ≤ w.2 ∧ w.2 ≤ alEnd
  cl_ : ∀ w ∈ cl, ∃ s ∈ l, w.2 = s.at_
  op_ : ∀ w ∈ op, ∃ s ∈ l, w.1 = s.at_
  opn : ((lifeAt l alEnd n).st = 1 ∧ ∃ f, op = [(f, alEnd)]) ∨ (¬ (lifeAt l alEnd n).st = 1 ∧ op = [])
  st : ∀ w ∈ cl ++ op, ∀ m, w.1 ≤ m → m < w.2 → (lifeAt l m n).st = 1
theorem frI_nil (n : Nm2) : FrI [] n [] [] := by
  refine ⟨rfl, by simp, by simp, by simp, .inr ⟨?_, rfl⟩, by simp⟩
  simp [lifeAt, newL]
theorem life_low {l : List Sg} {s : Sg} {n : Nm2} {m : Int} (hm : m < s.at_) : lifeAt (l ++ [s]) m n = lifeAt l m n := by
  rw [lifeAt_snoc]; unfold lifeStep; rw [if_neg (fun e => by have := e.2; omega)]
theorem life_high {l : List Sg} {s : Sg} {n : Nm2} {m : Int} (hs : ∀ q ∈ l, q.at_ ≤ s.at_) (h1 : s.at_ < alEnd) (hm : s.at_ ≤ m) : lifeAt (l ++ [s]) m n = lifeAt (l ++ [s]) alEnd n :=
  lifeAt_all (fun q hq => by
    rw [List.mem_append, List.mem_singleton] at hq
    rcases hq with hq | rfl
    · have := hs q hq; omega
    · exact hm) (fun q hq => by
    rw [List.mem_append, List.mem_singleton] at hq
    rcases hq with hq | rfl
    · have := hs q hq; omega
    · omega)
theorem life_other {l : List Sg} {s : Sg} {n : Nm2} (hn : (s.d, s.r) ≠ n) (m : Int) : lifeAt (l ++ [s]) m n = lifeAt l m n := by
  rw [lifeAt_snoc]; unfold lifeStep; rw [if_neg (fun e => hn e.1)]
theorem life_same {l : List Sg} {s : Sg} {n : Nm2} (hn : (s.d, s.r) = n) (h1 : s.at_ < alEnd) : lifeAt (l ++ [s]) alEnd n = (followL (lifeAt l alEnd n) s).1 := by
  rw [lifeAt_snoc]; unfold lifeStep; rw [if_pos ⟨hn, by omega⟩]
theorem frI_snoc {l : List Sg} {s : Sg} {n : Nm2} {cl op : List (Int × Int)} (h : FrI l n cl op) (hs : ∀ q ∈ l, q.at_ ≤ s.at_) (h0 : 0 ≤ s.at_) (h1 : s.at_ < alEnd) : ∃ cl' op', FrI (l ++ [s]) n cl' op' := by
  have hmem : ∀ q ∈ l, q ∈ l ++ [s] := fun q hq => List.mem_append_left _ hq
  by_cases hn : (s.d, s.r) = n
  · have hF := life_same (l := l) hn h1
    have hlow : ∀ m, m < s.at_ → lifeAt (l ++ [s]) m n = lifeAt l m n := fun m hm => life_low hm
    have hhigh : ∀ m, s.at_ ≤ m → lifeAt (l ++ [s]) m n = lifeAt (l ++ [s]) alEnd n := fun m hm => life_high hs h1 hm
    have hclm : ∀ w ∈ cl, ∀ m, m < w.2 → m < s.at_ := fun w hw m hm => by
      obtain ⟨q, hq, e⟩ := h.cl_ w hw
      have := hs q hq
      omega
    rcases follow_fresh (lifeAt l alEnd n) s with ⟨k1, k2⟩ | ⟨k1, k2, k3⟩ | ⟨k1, k2, k3⟩
    · refine ⟨cl, op, by rw [hF, k1]; exact h.fr, h.rng, fun w hw => by obtain ⟨q, hq, e⟩ := h.cl_ w hw; exact ⟨q, hmem q hq, e⟩, fun w hw => by obtain ⟨q, hq, e⟩ := h.op_ w hw; exact ⟨q, hmem q hq, e⟩, by rw [hF, k2]; exact h.opn, fun w hw m h2 h3 => ?_⟩
      rcases Int.lt_or_le m s.at_ with hm | hm
      · rw [hlow m hm]; exact h.st w hw m h2 h3
      · rw [hhigh m hm, hF, k2]
        rcases List.mem_append.1 hw with hw | hw
        · have := hclm w hw m h3; omega
        · rcases h.opn with ⟨g, _⟩ | ⟨_, g⟩
          · exact g
          · rw [g] at hw; cases hw
    · have hop : op = [] := by
        rcases h.opn with ⟨g, _⟩ | ⟨_, g⟩
        · exact absurd g k1
        · exact g
      subst hop
      have hfr := h.fr
      rw [List.append_nil] at hfr
      refine ⟨cl, [(s.at_, alEnd)], by rw [hF, k3, hfr], ?_, fun w hw => by obtain ⟨q, hq, e⟩ := h.cl_ w hw; exact ⟨q, hmem q hq, e⟩, fun w hw => ⟨s, by simp, by rw [List.mem_singleton] at hw; subst hw; rfl⟩, by rw [hF]; exact .inl ⟨k2, _, rfl⟩, ?_⟩
      · intro w hw
        rcases List.mem_append.1 hw with hw | hw
        · exact h.rng w (List.mem_append_left _ hw)
        · rw [List.mem_singleton] at hw
          subst hw
          exact ⟨h0, by show s.at_ ≤ alEnd; omega, Int.le_refl _⟩
      · intro w hw m h2 h3
        rcases List.mem_append.1 hw with hw | hw
        · rw [hlow m (hclm w hw m h3)]
          exact h.st w (List.mem_append_left _ hw) m h2 h3
        · rw [List.mem_singleton] at hw
          subst hw
          rw [hhigh m h2, hF]
          exact k2
    · obtain ⟨f, hop⟩ : ∃ f, op = [(f, alEnd)] := by
        rcases h.opn with ⟨_, g⟩ | ⟨g, _⟩
        · exact g
        · exact absurd k1 g
      subst hop
      obtain ⟨f1, f2, f3⟩ := h.rng (f, alEnd) (by simp)
      simp only at f1 f2 f3
      have hfs : f ≤ s.at_ := by
        obtain ⟨q, hq, e⟩ := h.op_ (f, alEnd) (by simp)
        have := hs q hq
        simp only at e
        omega
      refine ⟨cl ++ [(f, s.at_)], [], by rw [hF, k3, h.fr, setLast_snoc, List.append_nil], ?_, ?_, by simp, by rw [hF]; exact .inr ⟨k2, rfl⟩, ?_⟩
      · intro w hw
        rw [List.append_nil] at hw
        rcases List.mem_append.1 hw with hw | hw
        · exact h.rng w (List.mem_append_left _ hw)
        · rw [List.mem_singleton] at hw
          subst hw
          exact ⟨f1, hfs, by show s.at_ ≤ alEnd; omega⟩
      · intro w hw
        rcases List.mem_append.1 hw with hw | hw
        · obtain ⟨q, hq, e⟩ := h.cl_ w hw
          exact ⟨q, hmem q hq, e⟩
        · rw [List.mem_singleton] at hw
          subst hw
          exact ⟨s, by simp, rfl⟩
      · intro w hw m h2 h3
        rw [List.append_nil] at hw
        rcases List.mem_append.1 hw with hw | hw
        · rw [hlow m (hclm w hw m h3)]
          exact h.st w (List.mem_append_left _ hw) m h2 h3
        · rw [List.mem_singleton] at hw
          subst hw
          simp only at h2 h3
          rw [hlow m h3]
          exact h.st (f, alEnd) (by simp) m h2 (by show m < alEnd; omega)
  · have hF : ∀ m, lifeAt (l ++ [s]) m n = lifeAt l m n := life_other hn
    refine ⟨cl, op, by rw [hF]; exact h.fr, h.rng, fun w hw => ?_, fun w hw => ?_, by rw [hF]; exact h.opn, fun w hw m h2 h3 => by rw [hF]; exact h.st w hw m h2 h3⟩
    · obtain ⟨q, hq, e⟩ := h.cl_ w hw
      exact ⟨q, hmem q hq, e⟩
    · obtain ⟨q, hq, e⟩ := h.op_ w hw
      exact ⟨q, hmem q hq, e⟩
theorem setLast_mem {l : List (Int × Int)} {w : Int × Int} {t m : Int} (hw : w ∈ l) (h1 : w.1 ≤ m) (h2 : m < w.2) (ht : m < t) : ∃ u ∈ setLast l t, u.1 ≤ m ∧ m < u.2 := by
  have hne : l ≠ [] := by intro e; subst e; cases hw
  obtain ⟨a, x, rfl⟩ := snoc_of_ne hne
  rw [setLast_snoc]
  rcases List.mem_append.1 hw with hw | hw
  · exact ⟨w, List.mem_append_left _ hw, h1, h2⟩
  · rw [List.mem_singleton] at hw
    subst hw
    exact ⟨_, List.mem_append_right _ (List.mem_singleton.2 rfl), h1, ht⟩
/-- How the times in which an alarm is shelved go on. -/
theorem follow_aside (L : Lf) (s : Sg) :
    ((followL L s).1.as_ = L.as_ ∧ (followL L s).1.sh = L.sh) ∨ ((followL L s).1.as_ = L.as_ ++ [(s.at_, s.un)] ∧ (followL L s).1.sh = s.un) ∨ ((followL L s).1.as_ = setLast L.as_ s.at_ ∧ (followL L s).1.sh = s.at_) := by
  unfold followL
  split
  · split
    · exact .inl ⟨rfl, rfl⟩
    · exact .inl ⟨rfl, rfl⟩
  · split
    · split
      · exact .inl ⟨rfl, rfl⟩
      · split
        · exact .inl ⟨rfl, rfl⟩
        · exact .inl ⟨rfl, rfl⟩
    · split
      · split
        · exact .inl ⟨rfl, rfl⟩
        · split
          · exact .inl ⟨rfl, rfl⟩
          · exact .inl ⟨rfl, rfl⟩
      · split
        · split
          · exact .inl ⟨rfl, rfl⟩
          · exact .inr (.inl ⟨rfl, rfl⟩)
        · split
          · exact .inl ⟨rfl, rfl⟩
          · exact .inr (.inr ⟨rfl, rfl⟩)
structure AsI (l : List Sg) (n : Nm2) : Prop where
  last : (lifeAt l alEnd n).sh ≤ 0 ∨ (∃ q ∈ l, (lifeAt l alEnd n).sh ≤ q.at_) ∨ ∃ a, (a, (lifeAt l alEnd n).sh) ∈ (lifeAt l alEnd n).as_ ∧ ∃ q ∈ l, a ≤ q.at_
  at_ : ∀ m, 0 ≤ m → m < (lifeAt l m n).sh → ∃ w ∈ (lifeAt l alEnd n).as_, w.1 ≤ m ∧ m < w.2
theorem asI_snoc {l : List Sg} {s : Sg} {n : Nm2} (h : AsI l n) (hs : ∀ q ∈ l, q.at_ ≤ s.at_) (h1 : s.at_ < alEnd) : AsI (l ++ [s]) n := by
  have hmem : ∀ q ∈ l, q ∈ l ++ [s] := fun q hq => List.mem_append_left _ hq
  by_cases hn : (s.d, s.r) = n
  · have hF := life_same (l := l) hn h1
    rcases follow_aside (lifeAt l alEnd n) s with ⟨k1, k2⟩ | ⟨k1, k2⟩ | ⟨k1, k2⟩
    · refine ⟨?_, fun m h0 hm => ?_⟩
      · rw [hF, k1, k2]
        rcases h.last with g | ⟨q, hq, g⟩ | ⟨a, ha, q, hq, g⟩
        · exact .inl g
        · exact .inr (.inl ⟨q, hmem q hq, g⟩)
        · exact .inr (.inr ⟨a, ha, q, hmem q hq, g⟩)
      · rcases Int.lt_or_le m s.at_ with hlt | hle
        · rw [life_low hlt] at hm
          rw [hF, k1]
          exact h.at_ m h0 hm
        · rw [life_high hs h1 hle, hF, k2] at hm
          rw [hF, k1]
          rcases h.last with g | ⟨q, hq, g⟩ | ⟨a, ha, q, hq, g⟩
          · omega
          · have := hs q hq; omega
          · have := hs q hq
            exact ⟨_, ha, by show a ≤ m; omega, hm⟩
    · refine ⟨?_, fun m h0 hm => ?_⟩
      · rw [hF, k1, k2]
        exact .inr (.inr ⟨s.at_, by simp, s, by simp, Int.le_refl _⟩)
      · rcases Int.lt_or_le m s.at_ with hlt | hle
        · rw [life_low hlt] at hm
          rw [hF, k1]
          obtain ⟨w, hw, g⟩ := h.at_ m h0 hm
          exact ⟨w, List.mem_append_left _ hw, g⟩
        · rw [life_high hs h1 hle, hF, k2] at hm
          rw [hF, k1]
          exact ⟨(s.at_, s.un), by simp, hle, hm⟩
    · refine ⟨?_, fun m h0 hm => ?_⟩
      · rw [hF, k2]
        exact .inr (.inl ⟨s, by simp, Int.le_refl _⟩)
      · rcases Int.lt_or_le m s.at_ with hlt | hle
        · rw [life_low hlt] at hm
          rw [hF, k1]
          obtain ⟨w, hw, g1, g2⟩ := h.at_ m h0 hm
          exact setLast_mem hw g1 g2 hlt
        · rw [life_high hs h1 hle, hF, k2] at hm
          omega
  · have hF : ∀ m, lifeAt (l ++ [s]) m n = lifeAt l m n := life_other hn
    refine ⟨?_, fun m h0 hm => ?_⟩
    · rw [hF]
      rcases h.last with g | ⟨q, hq, g⟩ | ⟨a, ha, q, hq, g⟩
      · exact .inl g
      · exact .inr (.inl ⟨q, hmem q hq, g⟩)
      · exact .inr (.inr ⟨a, ha, q, hmem q hq, g⟩)
    · rw [hF] at hm ⊢
      exact h.at_ m h0 hm
theorem fresh_aside {l : List Sg} (n : Nm2) (h : SgsOk l) : (∃ cl op, FrI l n cl op) ∧ AsI l n := by
  have key : ∀ k, k ≤ l.length → (∃ cl op, FrI (l.take k) n cl op) ∧ AsI (l.take k) n := by
    intro k
    induction k with
    | zero => intro _; exact ⟨⟨[], [], by simpa using frI_nil n⟩, ⟨.inl (by simp [lifeAt, newL]), fun m h0 hm => by simp [lifeAt, newL] at hm; omega⟩⟩
    | succ k ih =>
      intro hk
      obtain ⟨⟨cl, op, hi⟩, hj⟩ := ih (by omega)
      have hx : l[k]? = some l[k] := List.getElem?_eq_getElem (by omega)
      have he : l.take (k + 1) = l.take k ++ [l[k]] := by rw [List.take_add_one, hx]; rfl
      rw [he]
      have hr := h.1 l[k] (List.getElem_mem (by omega))
      have hs : ∀ q ∈ l.take k, q.at_ ≤ l[k].at_ := fun q hq => by
        obtain ⟨i, hi', rfl⟩ := List.getElem_of_mem hq
        rw [List.length_take] at hi'
        rw [List.getElem_take]
        have := (List.pairwise_iff_getElem.1 h.2) i k (by omega) (by omega) (by omega)
        unfold SgL at this
        omega
      exact ⟨frI_snoc hi hs hr.at0 hr.at1, asI_snoc hj hs hr.at1⟩
  have := key l.length (Nat.le_refl _)
  rwa [List.take_length] at this
/-- Who is told in a fresh time, and not while the alarm is shelved, is told of an active alarm that is not shelved. -/
theorem told_right {l : List Sg} {n : Nm2} (h : SgsOk l) {w : Int × Int} (hw : w ∈ (lifeAt l 345686400000 n).fr) {m : Int} (h1 : w.1 ≤ m) (h2 : m < w.2) (h3 : ∀ u ∈ (lifeAt l 345686400000 n).as_, ¬ (u.1 ≤ m ∧ m < u.2)) :
    0 ≤ m ∧ m < 345686400000 ∧ (viewL (lifeAt l m n) m).st = 1 ∧ (viewL (lifeAt l m n) m).sh = 0 := by
  obtain ⟨⟨cl, op, hi⟩, hj⟩ := fresh_aside n h
  have hw' : w ∈ cl ++ op := by rw [← hi.fr]; exact hw
  obtain ⟨a, b, c⟩ := hi.rng w hw'
  unfold alEnd at c
  have h0 : 0 ≤ m := by omega
  refine ⟨h0, by omega, hi.st w hw' m h1 h2, ?_⟩
  show (if m < (lifeAt l m n).sh then (lifeAt l m n).sh else 0) = 0
  rw [if_neg (fun hm => ?_)]
  obtain ⟨u, hu, g⟩ := hj.at_ m h0 hm
  exact h3 u hu g
end Go.Proofs.YtldohjamiofkpaaGreatDoor

/- alarm.onCall, OnCall, (*life).free; IndexFunc of ladders; base.Window of a window: by their contracts. -/
namespace Go.Proofs.YtldohjamiofkpaaGreatDoor
open Go.RowKit Go.Shelf Go.Sort

theorem windowN_yes (a b : Int) (w : World) (h1 : 0 ≤ a) (h2 : a ≤ b) (h3 : b ≤ 345686400000) : Calls Tryz.prog 47 #[.agg #[.int .i64 a, .int .i64 b]] w fun e w' => e = .returned (.bool true) ∧ Below w.heap.size w w' := by
  go_enter Tryz.func47, Tryz.ntmps47
  go_wp2_with (go_at_call 79; refine (out_no _ _ _ _ (by omega) (by omega)).mono ?_; rintro e w' ⟨rfl, rfl⟩)
  go_ret
  exact ⟨rfl, (Below.refl _ _).alloc (Nat.le_refl _) _⟩
set_option maxRecDepth 100000 in
set_option maxHeartbeats 2000000 in
theorem onC_any (L : List Sf) (n c t : Nat) (m : Int) (A : Option Addr) (w : World) (hn : L.length = n) (hn2 : n ≤ 1000) (hr : Row w w.heap.size A (recs sfC L)) :
    Calls Tryz.prog 59 #[.slice A n c, .string (tmT t), .int .i64 m] w fun e w' => e = .returned (.string (alwT (ocP L t m))) ∧ Below w.heap.size w w' := by
  have HR := Lib.hid hr
  have HN := Lib.hid hn
  clear hr hn
  go_enter Tryz.func59, Tryz.ntmps59
  go_wp2_with (fail)
  go_loopw [11] (fun s wr => ∃ (i : Nat), i ≤ n ∧ s = .int .i64 (i : Int) ∧ Below w.heap.size w wr ∧ Hid (ocP L t m = ocP (L.drop i) t m)) (fun s _ => n - (intOf s).toNat)
  case atStart => exact ⟨0, by omega, rfl, Below.refl _ _, Lib.hid rfl⟩
  case round =>
    obtain ⟨i, hin, rfl, hbr, HK⟩ := hrel
    have hbs := hbr.size
    have HB := Lib.hid hbr
    clear hbr
    by_cases hlt : i < n
    · have hltI : (i : Int) < n := by omega
      obtain ⟨x, hx⟩ : ∃ x, L[i]? = some x := ⟨_, List.getElem?_eq_getElem (by have := HN.out; omega)⟩
      obtain ⟨b, o, rfl, hb, hC⟩ := (HR.out.below HB.out).posR sfC_len (by omega) (by have := HN.out; omega)
      obtain ⟨c0, c1, c2, c3⟩ := sf_cells hC i x hx
      have hD : L.drop i = x :: L.drop (i + 1) := by
        obtain ⟨h1, rfl⟩ := List.getElem?_eq_some_iff.1 hx
        exact List.drop_eq_getElem_cons h1
      have HHIT := Lib.hid (show (tmO x.t = tmO t ∧ x.f ≤ m ∧ m < x.u) → ocP L t m = x.b from fun h => by rw [HK.out, hD]; unfold ocP; rw [if_pos h])
      have HMISS := Lib.hid (show ¬ (tmO x.t = tmO t ∧ x.f ≤ m ∧ m < x.u) → ocP L t m = ocP (L.drop (i + 1)) t m from fun h => by rw [HK.out, hD]; conv => lhs; unfold ocP; rw [if_neg h])
      have hb' : b < wr.heap.size := by omega
      clear hx hC hD
      go_upto_region 4 with (fail)
      obtain ⟨g, eg⟩ : ∃ g, g = wr.heap.size := ⟨_, rfl⟩
      obtain ⟨w5, e5⟩ : ∃ V : World, V = wr.alloc (.cells #[.string (tmT x.t), .string (alwT x.b), .int .i64 x.f, .int .i64 x.u] 94) := ⟨_, rfl⟩
      rw [← eg, ← e5]
      have hg5 : w5.heap[g]? = some (sfBk x) := by rw [e5, eg]; exact heap_new wr _
      have HB5 := Lib.hid (show Below w.heap.size w w5 from by rw [e5]; exact HB.out.alloc hbs _)
      have hlt5 : g < w5.heap.size := by rw [e5, eg]; simp
      obtain ⟨q0, q1, q2, q3⟩ := sf_blk hg5
      clear eg e5 hg5 c0 c1 c2 c3
      by_cases hte : tmO x.t = tmO t
      case neg =>
        have hst : ((tmT x.t).toList == (tmT t).toList) = false := by rw [tm_eq]; exact decide_eq_false hte
        have HK2 := Lib.hid (HMISS.out (fun h => hte h.1))
        clear hte
        go_wp2_with (fail)
        go_roundw
        case rel => exact ⟨i + 1, by omega, by go_num, HB5.out, HK2⟩
        case measure => simp [intOf]; omega
      have hst : ((tmT x.t).toList == (tmT t).toList) = true := by rw [tm_eq]; exact decide_eq_true hte
      by_cases hf : x.f ≤ m
      case neg =>
        have hf2 : decide (x.f ≤ m) = false := decide_eq_false hf
        have HK2 := Lib.hid (HMISS.out (fun h => hf h.2.1))
        clear hte
        go_wp2_with (fail)
        go_roundw
        case rel => exact ⟨i + 1, by omega, by go_num, HB5.out, HK2⟩
        case measure => simp [intOf]; omega
      have hf2 : decide (x.f ≤ m) = true := decide_eq_true hf
      by_cases hu : m < x.u
      case neg =>
        have hu2 : decide (m < x.u) = false := decide_eq_false hu
        have HK2 := Lib.hid (HMISS.out (fun h => hu h.2.2))
        clear hte
        go_wp2_with (fail)
        go_roundw
        case rel => exact ⟨i + 1, by omega, by go_num, HB5.out, HK2⟩
        case measure => simp [intOf]; omega
      have hu2 : decide (m < x.u) = true := decide_eq_true hu
      have HK2 := Lib.hid (HHIT.out ⟨hte, hf, hu⟩)
      clear hte
      go_wp2_with (fail)
      go_ret
      exact ⟨by rw [HK2.out]; rfl, HB5.out⟩
    · have hltI : ¬ (i : Int) < n := by omega
      have hin' : i = n := by omega
      subst hin'
      have HE := Lib.hid (show ocP L t m = 0 from by rw [HK.out, ← HN.out, List.drop_length]; rfl)
      go_wp2_with (fail)
      go_ret
      exact ⟨by rw [HE.out]; rfl, HB.out⟩
set_option maxRecDepth 100000 in
theorem onCall_any (L : List Sf) (n c t : Nat) (m : Int) (A : Option Addr) (w : World) (hn : L.length = n) (hn2 : n ≤ 1000) (hr : Row w w.heap.size A (recs sfC L)) (hok : SfsOk L) (ht : t ≠ 2) (h0 : 0 ≤ m) (h1 : m < 345686400000) :
    Calls Tryz.prog 15 #[.slice A n c, .string (tmT t), .int .i64 m] w fun e w' => ∃ q : Bool, e = .returned (.tuple #[.string (alwT (ocP L t m)), .bool q, .int .i64 0]) ∧ q = (!(alwT (ocP L t m)).toList.isEmpty) ∧ Below w.heap.size w w' := by
  have HC := Lib.hid (fun V (hV : Below w.heap.size w V) => checkShifts_any L n c A V hn hn2 ((hr.below hV).mono hV.size) hok)
  have HO := Lib.hid (fun V (hV : Below w.heap.size w V) => onC_any L n c t m A V hn hn2 ((hr.below hV).mono hV.size))
  have HK := Lib.hid (fun V => key_tm t ht V)
  have HM := Lib.hid (And.intro h0 h1)
  clear hn hr hok ht h0 h1
  go_enter Tryz.func15, Tryz.ntmps15
  go_wp2_with (fail)
  go_enter Tryz.func58, Tryz.ntmps58
  go_wp2_with (fail)
  refine (HC.out w (Below.refl _ _)).mono ?_
  rintro e w1 ⟨rfl, hb1⟩
  have HB1 := Lib.hid hb1
  clear hb1
  go_wp2_with (fail)
  refine (HK.out w1).mono ?_
  rintro e w2 ⟨rfl, rfl⟩
  go_wp2_with (go_at_call 56; refine (moment_yes _ _ HM.out.1 HM.out.2).mono ?_; rintro e w' ⟨rfl, rfl⟩)
  refine (HO.out _ HB1.out).mono ?_
  obtain ⟨s, es⟩ : ∃ s, s = alwT (ocP L t m) := ⟨_, rfl⟩
  rw [← es]
  rintro e w3 ⟨rfl, hb3⟩
  have HB3 := Lib.hid (HB1.out.trans (hb3.mono HB1.out.size))
  have HES := Lib.hid es
  clear hb3 es
  go_wp2_with (fail)
  go_ret3
  exact ⟨!s.toList.isEmpty, by rw [← HES.out]; rfl, by rw [HES.out], HB3.out⟩
/-- The end of the time in which an alarm is shelved. -/
def freP : List (Int × Int) → Int → Int
  | [], m => m
  | w :: l, m => if w.1 ≤ m ∧ m < w.2 then w.2 else freP l m
theorem freP_ge : ∀ (l : List (Int × Int)) (m : Int), m ≤ freP l m
  | [], m => Int.le_refl _
  | w :: l, m => by
    unfold freP
    split
    · rename_i h; omega
    · exact freP_ge l m
theorem freP_out : ∀ (l : List (Int × Int)) (m : Int), freP l m = m → ∀ a ∈ l, ¬ (a.1 ≤ m ∧ m < a.2)
  | [], m, _, a, h => by cases h
  | w :: l, m, e, a, h => by
    unfold freP at e
    split at e
    · rename_i hw; omega
    · rename_i hw
      rcases List.mem_cons.1 h with rfl | h
      · exact hw
      · exact freP_out l m e a h
theorem freP_bound : ∀ (l : List (Int × Int)) (m q : Int), (∀ a ∈ l, a.2 ≤ q) → m ≤ q → freP l m ≤ q
  | [], m, q, _, h => h
  | w :: l, m, q, hl, h => by
    unfold freP
    split
    · exact hl w List.mem_cons_self
    · exact freP_bound l m q (fun a ha => hl a (List.mem_cons_of_mem _ ha)) h
set_option maxRecDepth 100000 in
set_option maxHeartbeats 2000000 in
theorem free_any (x : Nat) (L : Lf) (v : Nat → Value) (m : Int) (w : World) (h : LfI w x L v) (hn2 : L.as_.length ≤ 1000) :
    Calls Tryz.prog 95 #[.pointer (some ⟨x, 0, none⟩), .int .i64 m] w fun e w' => e = .returned (.int .i64 (freP L.as_ m)) ∧ Below w.heap.size w w' := by
  have hx := h.lt
  obtain ⟨A, c, hv⟩ := own_slice (h.row 3 (by omega))
  have c8 : w.cell? ⟨x, 8, none⟩ = some (v 3) := cell_of_blk (j := 8) h.blk rfl
  rw [hv] at c8
  have hr : Row w w.heap.size A (recs alW L.as_) := own_row (hv ▸ h.row 3 (by omega))
  replace c8 : w.cell? ⟨x, 8, none⟩ = some (.slice A L.as_.length c) := c8
  obtain ⟨n, en⟩ : ∃ n, n = L.as_.length := ⟨_, rfl⟩
  obtain ⟨K, eK⟩ : ∃ K, K = L.as_ := ⟨_, rfl⟩
  rw [← eK] at en hr ⊢
  rw [← eK, ← en] at hn2 c8
  have HR := Lib.hid hr
  have HN := Lib.hid en.symm
  clear hv hr en eK h
  go_enter Tryz.func95, Tryz.ntmps95
  go_wp2_with (fail)
  go_loopw [12] (fun s wr => ∃ (i : Nat), i ≤ n ∧ s = .int .i64 (i : Int) ∧ Below w.heap.size w wr ∧ Hid (freP K m = freP (K.drop i) m)) (fun s _ => n - (intOf s).toNat)
  case atStart => exact ⟨0, by omega, rfl, Below.refl _ _, Lib.hid rfl⟩
  case round =>
    obtain ⟨i, hin, rfl, hbr, HK⟩ := hrel
    have hbs := hbr.size
    have HB := Lib.hid hbr
    clear hbr
    by_cases hlt : i < n
    · have hltI : (i : Int) < n := by omega
      obtain ⟨u, hu⟩ : ∃ u, K[i]? = some u := ⟨_, List.getElem?_eq_getElem (by have := HN.out; omega)⟩
      obtain ⟨b, o, rfl, hb, hC⟩ := (HR.out.below HB.out).posR alW_len (by omega) (by have := HN.out; omega)
      have d0 : wr.cell? ⟨b, o + i * 2, none⟩ = some (.int .i64 u.1) := rec_cell alW_len hC i u hu 0 _ rfl
      have d1 : wr.cell? ⟨b, o + i * 2 + 1, none⟩ = some (.int .i64 u.2) := rec_cell alW_len hC i u hu 1 _ rfl
      have hD : K.drop i = u :: K.drop (i + 1) := by
        obtain ⟨h1, rfl⟩ := List.getElem?_eq_some_iff.1 hu
        exact List.drop_eq_getElem_cons h1
      have HHIT := Lib.hid (show (u.1 ≤ m ∧ m < u.2) → freP K m = u.2 from fun h => by rw [HK.out, hD]; unfold freP; rw [if_pos h])
      have HMISS := Lib.hid (show ¬ (u.1 ≤ m ∧ m < u.2) → freP K m = freP (K.drop (i + 1)) m from fun h => by rw [HK.out, hD]; conv => lhs; unfold freP; rw [if_neg h])
      have hb' : b < wr.heap.size := by omega
      clear hu hC hD
      obtain ⟨u1, u2⟩ := u
      simp only at d0 d1 HHIT HMISS
      go_upto_region 4 with (fail)
      obtain ⟨g, eg⟩ : ∃ g, g = wr.heap.size := ⟨_, rfl⟩
      obtain ⟨w5, e5⟩ : ∃ V : World, V = wr.alloc (.cells #[.int .i64 u1, .int .i64 u2] 42) := ⟨_, rfl⟩
      rw [← eg, ← e5]
      have hg5 : w5.heap[g]? = some (.cells #[.int .i64 u1, .int .i64 u2] 42 (0, 0)) := by rw [e5, eg]; exact heap_new wr _
      have HB5 := Lib.hid (show Below w.heap.size w w5 from by rw [e5]; exact HB.out.alloc hbs _)
      have hlt5 : g < w5.heap.size := by rw [e5, eg]; simp
      have q0 := cell_of_blk (j := 0) hg5 rfl
      have q1 := cell_of_blk (j := 1) hg5 rfl
      clear eg e5 hg5 d0 d1
      by_cases hf : u1 ≤ m
      case neg =>
        have hf2 : decide (u1 ≤ m) = false := decide_eq_false hf
        have HK2 := Lib.hid (HMISS.out (fun h => hf h.1))
        go_wp2_with (fail)
        go_roundw
        case rel => exact ⟨i + 1, by omega, by go_num, HB5.out, HK2⟩
        case measure => simp [intOf]; omega
      have hf2 : decide (u1 ≤ m) = true := decide_eq_true hf
      by_cases hu : m < u2
      case neg =>
        have hu2 : decide (m < u2) = false := decide_eq_false hu
        have HK2 := Lib.hid (HMISS.out (fun h => hu h.2))
        go_wp2_with (fail)
        go_roundw
        case rel => exact ⟨i + 1, by omega, by go_num, HB5.out, HK2⟩
        case measure => simp [intOf]; omega
      have hu2 : decide (m < u2) = true := decide_eq_true hu
      have HK2 := Lib.hid (HHIT.out ⟨hf, hu⟩)
      go_wp2_with (fail)
      go_ret
      exact ⟨by rw [HK2.out]; rfl, HB5.out⟩
    · have hltI : ¬ (i : Int) < n := by omega
      have hin' : i = n := by omega
      subst hin'
      have HE := Lib.hid (show freP K m = m from by rw [HK.out, ← HN.out, List.drop_length]; rfl)
      go_wp2_with (fail)
      go_ret
      exact ⟨by rw [HE.out]; rfl, HB.out⟩
theorem closeN_any (y : Ld) (g x : Nat) (s : ByteArray) (w : World) (h0 : w.cell? ⟨g, 0, none⟩ = some (.pointer (some ⟨x, 0, none⟩))) (h1 : w.cell? ⟨x, 1, none⟩ = some (.string s)) (hg : g < w.heap.size) (hx : x < w.heap.size) :
    Calls Tryz.prog 50 #[.agg #[.string (ruT y.r), .slice y.A y.g.length y.c, .int .i64 y.ev], .pointer (some ⟨g, 0, none⟩)] w fun e w' => ∃ t : Bool, e = .returned (.bool t) ∧ Below w.heap.size w w' := by
  obtain ⟨n, en⟩ : ∃ n, n = y.g.length := ⟨_, rfl⟩
  rw [← en]
  clear en
  go_enter Tryz.func50, Tryz.ntmps50
  go_upto_region 1 with (fail)
  obtain ⟨w5, e5⟩ : ∃ V : World, V = w.alloc (.cells #[.string (ruT y.r), .slice y.A n y.c, .int .i64 y.ev] 89) := ⟨_, rfl⟩
  have hb5 : Below w.heap.size w w5 := by rw [e5]; exact (Below.refl _ _).alloc (Nat.le_refl _) _
  have hg5 : w5.heap[w.heap.size]? = some (.cells #[.string (ruT y.r), .slice y.A n y.c, .int .i64 y.ev] 89 (0, 0)) := by rw [e5]; exact heap_new w _
  have q0 := cell_of_blk (j := 0) hg5 rfl
  have hs5 := (Array.getElem?_eq_some_iff.1 hg5).1
  have k0 := (hb5.cell (p := ⟨g, 0, none⟩) hg).trans h0
  have k1 := (hb5.cell (p := ⟨x, 1, none⟩) hx).trans h1
  have hgl : g < w5.heap.size := by omega
  have hxl : x < w5.heap.size := by omega
  have HB := Lib.hid hb5
  rw [← e5]
  clear e5 hg5 hb5 h0 h1
  go_quiet (fail)
  go_wp2_with (fail)
  go_ret
  exact ⟨_, rfl, below_drewN HB.out _⟩
set_option maxRecDepth 100000 in
set_option maxHeartbeats 1000000 in
theorem indexL_any (L : List Ld) (n c g x : Nat) (s : ByteArray) (A : Option Addr) (w : World) (hn : L.length = n) (hn2 : n ≤ 100) (hr : Row w w.heap.size A (recs ldC L)) (h0 : w.cell? ⟨g, 0, none⟩ = some (.pointer (some ⟨x, 0, none⟩))) (h1 : w.cell? ⟨x, 1, none⟩ = some (.string s)) (hg : g < w.heap.size) (hx : x < w.heap.size) :
    Calls Tryz.prog 49 #[.slice A n c, .func (.func 50) #[] #[.pointer (some ⟨g, 0, none⟩)]] w fun e w' => ∃ z : Int, e = .returned (.int .i64 z) ∧ (z = -1 ∨ ∃ k : Nat, k < n ∧ z = (k : Int)) ∧ Below w.heap.size w w' := by
  have HR := Lib.hid hr
  have HN := Lib.hid hn
  have HF := Lib.hid (fun (y : Ld) (V : World) (hV : Below w.heap.size w V) => closeN_any y g x s V ((hV.cell (p := ⟨g, 0, none⟩) hg).trans h0) ((hV.cell (p := ⟨x, 1, none⟩) hx).trans h1) (Nat.lt_of_lt_of_le hg hV.size) (Nat.lt_of_lt_of_le hx hV.size))
  clear hr hn h0 h1
  go_enter Tryz.func49, Tryz.ntmps49
  go_wp2_with (fail)
  go_loopw [8] (fun s wr => ∃ (i : Nat), i ≤ n ∧ s = .int .i64 (i : Int) ∧ Below w.heap.size w wr) (fun s _ => n - (intOf s).toNat)
  case atStart => exact ⟨0, by omega, rfl, Below.refl _ _⟩
  case round =>
    obtain ⟨i, hin, rfl, hbr⟩ := hrel
    have hbs := hbr.size
    have HB := Lib.hid hbr
    clear hbr
    by_cases hlt : i < n
    · have hltI : (i : Int) < n := by omega
      obtain ⟨y, hy⟩ : ∃ y, L[i]? = some y := ⟨_, List.getElem?_eq_getElem (by have := HN.out; omega)⟩
      obtain ⟨b, o, rfl, hb, hC⟩ := (HR.out.below HB.out).posR ldC_len (by omega) (by have := HN.out; omega)
      have c0 : wr.cell? ⟨b, o + i * 3, none⟩ = some (.string (ruT y.r)) := rec_cell ldC_len hC i y hy 0 _ rfl
      have c1 : wr.cell? ⟨b, o + i * 3 + 1, none⟩ = some (.slice y.A y.g.length y.c) := rec_cell ldC_len hC i y hy 1 _ rfl
      have c2 : wr.cell? ⟨b, o + i * 3 + 2, none⟩ = some (.int .i64 y.ev) := rec_cell ldC_len hC i y hy 2 _ rfl
      have hb' : b < wr.heap.size := by omega
      have HCL := Lib.hid (HF.out y wr HB.out)
      obtain ⟨m, em⟩ : ∃ m, m = y.g.length := ⟨_, rfl⟩
      rw [← em] at c1 HCL
      clear hy hC em
      go_wp2_with (fail)
      refine HCL.out.mono ?_
      rintro e w2 ⟨t, rfl, hb2⟩
      have HB2 := Lib.hid (HB.out.trans (hb2.mono hbs))
      clear hb2
      cases t
      case false =>
        go_wp2_with (fail)
        go_roundw
        case rel => exact ⟨i + 1, by omega, by go_num, HB2.out⟩
        case measure => simp [intOf]; omega
      case true =>
        go_wp2_with (fail)
        go_ret
        exact ⟨(i : Int), rfl, .inr ⟨i, hlt, rfl⟩, HB2.out⟩
    · have hltI : ¬ (i : Int) < n := by omega
      have hin' : i = n := by omega
      subst hin'
      go_wp2_with (fail)
      go_ret
      exact ⟨-1, rfl, .inl rfl, HB.out⟩
end Go.Proofs.YtldohjamiofkpaaGreatDoor

/- (*alarm.teller).tell and full by their contracts. Printed by gen_NtT.py. -/
namespace Go.Proofs.YtldohjamiofkpaaGreatDoor
open Go.RowKit Go.Shelf Go.Sort

theorem Tryz.infoNt : (Tryz.prog.info? 44).map (fun i => (i.zero, i.size, i.bytes)) = some (some (.agg #[.int .i64 0, .string ⟨#[]⟩, .string ⟨#[]⟩, .string ⟨#[]⟩, .string ⟨#[]⟩, .int .i64 0]), 6, 80) := by kernel_rfl
/-- A teller in memory. -/
structure TlI (w : World) (B tb : Nat) (S : Option Addr) (sn sc : Nat) (v : Value) (N : List Nt) : Prop where
  blk : w.heap[tb]? = some (.cells #[.slice S sn sc, .int .i64 0, .int .i64 3000, v] 116 (0, 0))
  row : w.ownsRow B 44 6 v N.length (recs ntC N)
/-- How a teller's memory goes on. -/
structure TlGo (tb : Nat) (W w : World) (v v' : Value) : Prop where
  gr : GrF W w (fun b => b = tb ∨ v.ownBlock = some b)
  mv : Moved W v v'
theorem TlGo.refl (tb : Nat) (w : World) (v : Value) : TlGo tb w w v v := ⟨.refl _ _, .refl _ _⟩
theorem TlGo.trans {tb : Nat} {a b c : World} {u v t : Value} (h : TlGo tb a b u v) (k : TlGo tb b c v t) : TlGo tb a c u t := by
  refine ⟨⟨k.gr.os.trans h.gr.os, k.gr.tape.trans h.gr.tape, k.gr.output.trans h.gr.output, Nat.le_trans h.gr.size k.gr.size, fun q hq hn => ?_⟩, h.mv.trans k.mv h.gr.size⟩
  refine (k.gr.block q (Nat.lt_of_lt_of_le hq h.gr.size) (fun e => ?_)).trans (h.gr.block q hq hn)
  rcases e with e | e
  · exact hn (.inl e)
  · rcases h.mv with h1 | ⟨g, h1, h2⟩
    · exact hn (.inr (h1 ▸ e))
    · rw [h1] at e
      have := Option.some.inj e
      omega
theorem TlGo.below {tb : Nat} {a b c : World} {u v : Value} (h : TlGo tb a b u v) (hb : Below b.heap.size b c) : TlGo tb a c u v :=
  ⟨h.gr.trans ⟨hb.os, hb.tape, hb.output, hb.size, fun q hq _ => hb.block q hq⟩, h.mv⟩
/-- The stages of tell's region. -/
structure KTm (W : World) (B tb : Nat) (S : Option Addr) (sn sc : Nat) (v vb vr : Value) (n : Nat) (G : List Nt) (w : World) : Prop where
  blk : w.heap[tb]? = some (.cells #[.slice S sn sc, .int .i64 0, .int .i64 3000, vb] 116 (0, 0))
  row : w.ownsRow B 44 6 vr n (recs ntC G)
  gr : GrF W w (fun b => b = tb ∨ v.ownBlock = some b)
  mv : Moved W v vr
section
variable {W w w' : World} {B tb : Nat} {S : Option Addr} {sn sc : Nat} {v vb vr : Value} {n : Nat} {G : List Nt}
theorem KTm.cell3 (h : KTm W B tb S sn sc v vb vr n G w) : w.cell? ⟨tb, 3, none⟩ = some vb := cell_of_blk (j := 3) h.blk rfl
theorem KTm.cell0 (h : KTm W B tb S sn sc v vb vr n G w) : w.cell? ⟨tb, 0, none⟩ = some (.slice S sn sc) := cell_of_blk (j := 0) h.blk rfl
theorem KTm.lt (h : KTm W B tb S sn sc v vb vr n G w) : tb < w.heap.size := (Array.getElem?_eq_some_iff.1 h.blk).1
theorem KTm.fro (h : KTm W B tb S sn sc v vb vr n G w) : w.frozen? ⟨tb, 3, none⟩ = false := by simp [World.frozen?, h.blk]
theorem KTm.alloc (h : KTm W B tb S sn sc v vb vr n G w) (o : Obj) : KTm W B tb S sn sc v vb vr n G (w.alloc o) :=
  ⟨(Below.heap_alloc _ _ _ h.lt).trans h.blk, own_belowP h.row ((Below.refl _ _).alloc (Nat.le_refl _) _), h.gr.trans ⟨rfl, rfl, rfl, by simp, fun b hb _ => Below.heap_alloc _ _ _ hb⟩, h.mv⟩
theorem KTm.call (h : KTm W B tb S sn sc v vb vr n G w) (hb : Below w.heap.size w w') : KTm W B tb S sn sc v vb vr n G w' ∧ GrN W w w' :=
  ⟨⟨(hb.block tb h.lt).trans h.blk, own_belowP h.row hb, h.gr.trans ⟨hb.os, hb.tape, hb.output, hb.size, fun b hq _ => hb.block b hq⟩, h.mv⟩, hb.size, fun b _ hlt => hb.block b hlt⟩
theorem KTm.app {G' : List Nt} {u : Value} {k : Nat} (h : KTm W B tb S sn sc v vb v n G w) (ho : w'.ownsRow B 44 6 u k (recs ntC G')) (hg : w.grownBy w' v.ownBlock) (hm : Moved w v u) (hvW : ∀ b, v.ownBlock = some b → b < W.heap.size) : KTm W B tb S sn sc v vb u k G' w' ∧ GrN W w w' := by
  have hne := own_ne h.row h.blk (by decide)
  refine ⟨⟨(hg.block tb h.lt hne).trans h.blk, ho, h.gr.trans (GrF.of_grown hg _ (fun b e => .inr e)), ?_⟩, hg.size, fun b hb hlt => hg.block b hlt (fun e => by have := hvW b e.symm; omega)⟩
  rcases hm with hm | ⟨q, h1, h2⟩
  · exact .inl hm
  · exact .inr ⟨q, h1, Nat.le_trans h.gr.size h2⟩
theorem KTm.store (h : KTm W B tb S sn sc v vb vr n G w) (htW : tb < W.heap.size) : KTm W B tb S sn sc v vr vr n G (w.setCell ⟨tb, 3, none⟩ vr) ∧ GrN W w (w.setCell ⟨tb, 3, none⟩ vr) := by
  have hne := own_ne h.row h.blk (by decide)
  have hset : ∀ b, b ≠ tb → (w.setCell ⟨tb, 3, none⟩ vr).heap[b]? = w.heap[b]? := fun b hb => Below.heap_setCell _ _ _ _ hb
  have hsz : (w.setCell ⟨tb, 3, none⟩ vr).heap.size = w.heap.size := by simp [World.setCell]
  refine ⟨⟨?_, own_keptB h.row (fun b hb => hset b (fun e => hne (by rw [← e]; exact hb.symm))), h.gr.set (.inl rfl) vr, h.mv⟩, by rw [hsz]; exact Nat.le_refl _, fun b hb _ => hset b (by omega)⟩
  rw [heap_setCell_blk vr h.blk]
  rfl
end
def KT (W : World) (B tb : Nat) (S : Option Addr) (sn sc : Nat) (v : Value) (n : Nat) (G : List Nt) (y : Nt) (u : Value) : Nat → World → Prop
  | 0, w => KTm W B tb S sn sc v v v n G w
  | 1, w => KTm W B tb S sn sc v v v n G w
  | 2, w => KTm W B tb S sn sc v v u (n + 1) (G ++ [y]) w
  | _, w => KTm W B tb S sn sc v u u (n + 1) (G ++ [y]) w
section
variable {W w : World} {B tb : Nat} {S : Option Addr} {sn sc : Nat} {v : Value} {n : Nat} {G : List Nt} {y : Nt} {u : Value} {s : Nat}
theorem KT_any (h : KT W B tb S sn sc v n G y u s w) : ∃ vb vr n' G', KTm W B tb S sn sc v vb vr n' G' w := by
  match s, h with
  | 0, h => exact ⟨_, _, _, _, h⟩
  | 1, h => exact ⟨_, _, _, _, h⟩
  | 2, h => exact ⟨_, _, _, _, h⟩
  | _ + 3, h => exact ⟨_, _, _, _, h⟩
theorem KT_alloc (h : KT W B tb S sn sc v n G y u s w) (o : Obj) : KT W B tb S sn sc v n G y u s (w.alloc o) := by
  match s, h with
  | 0, h => exact KTm.alloc h o
  | 1, h => exact KTm.alloc h o
  | 2, h => exact KTm.alloc h o
  | _ + 3, h => exact KTm.alloc h o
theorem KT_low (h : KT W B tb S sn sc v n G y u s w) (hs : s ≤ 1) : KTm W B tb S sn sc v v v n G w := by
  match s, h, hs with
  | 0, h, _ => exact h
  | 1, h, _ => exact h
theorem KT_cell0 (h : KT W B tb S sn sc v n G y u s w) : w.cell? ⟨tb, 0, none⟩ = some (.slice S sn sc) := by
  obtain ⟨_, _, _, _, h⟩ := KT_any h
  exact h.cell0
theorem KT_lt (h : KT W B tb S sn sc v n G y u s w) {b : Nat} (hb : b < W.heap.size) : b < w.heap.size := by
  obtain ⟨_, _, _, _, h⟩ := KT_any h
  exact Nat.lt_of_lt_of_le hb h.gr.size
theorem KT_old (h : KT W B tb S sn sc v n G y u s w) {b j : Nat} {z : Value} (hc : W.cell? ⟨b, j, none⟩ = some z) (hb : b < W.heap.size) (ht : b ≠ tb) (hv : v.ownBlock ≠ some b) : w.cell? ⟨b, j, none⟩ = some z := by
  obtain ⟨_, _, _, _, h⟩ := KT_any h
  have := h.gr.block b hb (fun e => e.elim ht hv)
  rw [← hc]
  simp [World.cell?, this]
end
/-- Row of shifts behind a teller's steps. -/
theorem row_gr {W V : World} {tb : Nat} {v : Value} {A : Option Addr} {xs : List Value} {B : Nat} (h : Row W tb A xs) (hg : GrF W V (fun b => b = tb ∨ v.ownBlock = some b)) (htl : tb < W.heap.size) (htB : tb < B) (hv : ∀ b, v.ownBlock = some b → B ≤ b) : Row V V.heap.size A xs := by
  have := hg.size
  rcases h with h | ⟨b, o, h1, h2, h3⟩
  · exact .inl h
  · exact .inr ⟨b, o, h1, by omega, h3.keep (hg.block b (by omega) (fun e => by
      rcases e with e | e
      · omega
      · have := hv b e; omega))⟩
def TellP (B tb : Nat) (S : Option Addr) (sn sc : Nat) (v : Value) (N : List Nt) (z : Nt) (w : World) (e : Ending) (w' : World) : Prop :=
  ∃ v' N', e = .returned (.tuple #[]) ∧ TlI w' B tb S sn sc v' (N ++ N') ∧ (N' = [] ∨ N' = [z]) ∧ TlGo tb w w' v v'
set_option maxRecDepth 100000 in
set_option maxHeartbeats 4000000 in
theorem tell_any (L : List Sf) (B tb sn sc x d r t : Nat) (m k : Int) (S : Option Addr) (v : Value) (N : List Nt) (w : World) (h : TlI w B tb S sn sc v N) (hN : N.length ≤ 100000) (hL : L.length = sn) (hL2 : sn ≤ 1000) (hS : Row w tb S (recs sfC L)) (htB : tb < B) (hBw : B ≤ w.heap.size)
    (hx0 : w.cell? ⟨x, 0, none⟩ = some (.string (aldT d))) (hx1 : w.cell? ⟨x, 1, none⟩ = some (.string (alrT r))) (hxB : x < B) (hxt : x ≠ tb) (hm : 0 ≤ m) :
    Calls Tryz.prog 96 #[.pointer (some ⟨tb, 0, none⟩), .pointer (some ⟨x, 0, none⟩), .int .i64 m, .int .i64 k, .string (tmT t)] w fun e w' => TellP B tb S sn sc v N ⟨m, d, r, t, ocP L t m, k⟩ w e w' := by
  obtain ⟨i0, hi0, hz0, hz1, hz2⟩ := info_parts Tryz.infoNt
  have HI := Lib.hid h
  have c1 : w.cell? ⟨tb, 1, none⟩ = some (.int .i64 0) := cell_of_blk (j := 1) h.blk rfl
  have c2 : w.cell? ⟨tb, 2, none⟩ = some (.int .i64 3000) := cell_of_blk (j := 2) h.blk rfl
  have htl : tb < w.heap.size := (Array.getElem?_eq_some_iff.1 h.blk).1
  have hxl : x < w.heap.size := by omega
  have hlo : ∀ b, v.ownBlock = some b → B ≤ b := fun b hb => (h.row.lt b hb).1
  have hxv : v.ownBlock ≠ some x := fun e => by have := hlo x e; omega
  have HOC := Lib.hid (fun (V : World) (hV : GrF w V (fun b => b = tb ∨ v.ownBlock = some b)) => onC_any L sn sc t m S V hL hL2 (row_gr hS hV htl htB hlo))
  have HVW := Lib.hid (fun b (hb : v.ownBlock = some b) => (h.row.lt b hb).2)
  obtain ⟨VA, vc, rfl⟩ := own_slice h.row
  have hx0' := Lib.hid hx0
  have hx1' := Lib.hid hx1
  have hd1 : (0 : Int) ≤ m := hm
  clear h hS hL hx0 hx1
  by_cases hm3 : m < 3000
  case neg =>
    have hd2 : decide (m < 3000) = false := decide_eq_false hm3
    go_enter Tryz.func96, Tryz.ntmps96
    go_wp2_with (fail)
    go_end0
    exact ⟨_, [], rfl, by rw [List.append_nil]; exact HI.out, .inl rfl, TlGo.refl _ _ _⟩
  have hd2 : decide (m < 3000) = true := decide_eq_true hm3
  obtain ⟨n, en⟩ : ∃ n, n = N.length := ⟨_, rfl⟩
  rw [← en] at hN HOC HVW hlo hxv
  have HKI := Lib.hid (show KTm w B tb S sn sc (.slice VA n vc) (.slice VA n vc) (.slice VA n vc) n N w.drew from by rw [en]; exact ⟨HI.out.blk, HI.out.row, ⟨rfl, rfl, rfl, Nat.le_refl _, fun _ _ _ => rfl⟩, Moved.refl _ _⟩)
  rw [← en]
  have HEN := Lib.hid en
  clear HI en
  go_enter Tryz.func96, Tryz.ntmps96
  go_upto_region 1 with (fail)
  have hx0 := hx0'.out
  have hx1 := hx1'.out
  have HK0 := Lib.hid HKI.out
  refine qRegionSa (KT w B tb S sn sc (.slice VA n vc) n N ⟨m, d, r, t, ocP L t m, k⟩) 27 1 53 _
    [.pointer (some ⟨tb, 0, none⟩), .pointer (some ⟨tb, 0, none⟩), .pointer (some ⟨tb, 0, none⟩), .pointer (some ⟨tb, 3, none⟩), .slice VA n vc, .int .i64 m, .pointer (some ⟨x, 0, none⟩), .pointer (some ⟨x, 0, none⟩), .pointer (some ⟨x, 0, none⟩), .pointer (some ⟨x, 0, none⟩), .string (aldT d), .pointer (some ⟨x, 0, none⟩), .pointer (some ⟨x, 0, none⟩), .pointer (some ⟨x, 0, none⟩), .pointer (some ⟨x, 1, none⟩), .string (alrT r), .string (tmT t), .pointer (some ⟨tb, 0, none⟩), .pointer (some ⟨tb, 0, none⟩), .pointer (some ⟨tb, 0, none⟩), .slice S sn sc, .string (tmT t), .int .i64 m, .string (alwT (ocP L t m)), .int .i64 k, .agg #[.int .i64 m, .string (aldT d), .string (alrT r), .string (tmT t), .string (alwT (ocP L t m)), .int .i64 k], undef, undef, .pointer (some ⟨tb, 0, none⟩), .pointer (some ⟨tb, 3, none⟩), .tuple #[]]
    [none, none, none, none, none, none, none, none, none, none, none, none, none, none, none, none, none, none, none, none, none, none, none, none, none, none, some (.cells #[.int .i64 m, .string (aldT d), .string (alrT r), .string (tmT t), .string (alwT (ocP L t m)), .int .i64 k] 44, fun b => .slice (some ⟨b, 0, none⟩) 1 1), none, none, none, none]
    [0, 0, 0, 0, 0, 0, 0, 0, 0, 0, 0, 0, 0, 0, 0, 0, 0, 0, 0, 0, 0, 0, 0, 1, 0, 0, 0, 2, 0, 0, 3]
    [3, 3, 3, 3, 1, 3, 3, 3, 3, 3, 3, 3, 3, 3, 3, 3, 3, 3, 3, 3, 3, 3, 3, 3, 3, 3, 3, 3, 3, 3, 3] 3 (by kernel_rfl) (by kernel_rfl) rfl rfl (by rfl) rfl rfl rfl rfl HK0.out (fun u s w o h => KT_alloc h o) ?_ ?_ ?_
  · intro u; simp only [putL, Act.put, List.setIfInBounds_toArray, List.set_cons_zero, List.set_cons_succ]
    refine ⟨?_, ?_, ?_, ?_, ?_, ?_, ?_, ?_, ?_, ?_, ?_, ?_, ?_, ?_, ?_, ?_, ?_, ?_, ?_, ?_, ?_, ?_, ?_, ?_, ?_, ?_, ?_, ?_, ?_, ?_, ?_, trivial⟩
    · exact fun _ => OneSt.pure (fun G V => by simp only [putH, Act.put, List.setIfInBounds_toArray, List.set_cons_zero, List.set_cons_succ]; go_simp)
    · exact fun _ => OneSt.pure (fun G V => by simp only [putH, Act.put, List.setIfInBounds_toArray, List.set_cons_zero, List.set_cons_succ]; go_simp)
    · exact fun _ => OneSt.pure (fun G V => by simp only [putH, Act.put, List.setIfInBounds_toArray, List.set_cons_zero, List.set_cons_succ]; go_simp)
    · exact fun _ => OneSt.pure (fun G V => by simp only [putH, Act.put, List.setIfInBounds_toArray, List.set_cons_zero, List.set_cons_succ]; go_simp)
    · exact fun _ => OneSt.load (fun G s V hK hs => by have c0 := (KT_low hK hs).cell3; have hgl := (KT_low hK hs).lt; simp only [putH, Act.put, List.setIfInBounds_toArray, List.set_cons_zero, List.set_cons_succ]; go_simp)
    · exact fun _ => OneSt.pure (fun G V => by simp only [putH, Act.put, List.setIfInBounds_toArray, List.set_cons_zero, List.set_cons_succ]; go_simp)
    · exact fun _ => OneSt.pure (fun G V => by simp only [putH, Act.put, List.setIfInBounds_toArray, List.set_cons_zero, List.set_cons_succ]; go_simp)
    · exact fun _ => OneSt.pure (fun G V => by simp only [putH, Act.put, List.setIfInBounds_toArray, List.set_cons_zero, List.set_cons_succ]; go_simp)
    · exact fun _ => OneSt.pure (fun G V => by simp only [putH, Act.put, List.setIfInBounds_toArray, List.set_cons_zero, List.set_cons_succ]; go_simp)
    · exact fun _ => OneSt.pure (fun G V => by simp only [putH, Act.put, List.setIfInBounds_toArray, List.set_cons_zero, List.set_cons_succ]; go_simp)
    · exact fun _ => OneSt.load (fun G s V hK hs => by have c0 := KT_old hK hx0 hxl hxt hxv; have hgl := KT_lt hK hxl; simp only [putH, Act.put, List.setIfInBounds_toArray, List.set_cons_zero, List.set_cons_succ]; go_simp)
    · exact fun _ => OneSt.pure (fun G V => by simp only [putH, Act.put, List.setIfInBounds_toArray, List.set_cons_zero, List.set_cons_succ]; go_simp)
    · exact fun _ => OneSt.pure (fun G V => by simp only [putH, Act.put, List.setIfInBounds_toArray, List.set_cons_zero, List.set_cons_succ]; go_simp)
    · exact fun _ => OneSt.pure (fun G V => by simp only [putH, Act.put, List.setIfInBounds_toArray, List.set_cons_zero, List.set_cons_succ]; go_simp)
    · exact fun _ => OneSt.pure (fun G V => by simp only [putH, Act.put, List.setIfInBounds_toArray, List.set_cons_zero, List.set_cons_succ]; go_simp)
    · exact fun _ => OneSt.load (fun G s V hK hs => by have c0 := KT_old hK hx1 hxl hxt hxv; have hgl := KT_lt hK hxl; simp only [putH, Act.put, List.setIfInBounds_toArray, List.set_cons_zero, List.set_cons_succ]; go_simp)
    · exact fun _ => OneSt.pure (fun G V => by simp only [putH, Act.put, List.setIfInBounds_toArray, List.set_cons_zero, List.set_cons_succ]; go_simp)
    · exact fun _ => OneSt.pure (fun G V => by simp only [putH, Act.put, List.setIfInBounds_toArray, List.set_cons_zero, List.set_cons_succ]; go_simp)
    · exact fun _ => OneSt.pure (fun G V => by simp only [putH, Act.put, List.setIfInBounds_toArray, List.set_cons_zero, List.set_cons_succ]; go_simp)
    · exact fun _ => OneSt.pure (fun G V => by simp only [putH, Act.put, List.setIfInBounds_toArray, List.set_cons_zero, List.set_cons_succ]; go_simp)
    · exact fun _ => OneSt.load (fun G s V hK hs => by have c0 := KT_cell0 hK; have hgl := KT_lt hK htl; simp only [putH, Act.put, List.setIfInBounds_toArray, List.set_cons_zero, List.set_cons_succ]; go_simp)
    · exact fun _ => OneSt.pure (fun G V => by simp only [putH, Act.put, List.setIfInBounds_toArray, List.set_cons_zero, List.set_cons_succ]; go_simp)
    · exact fun _ => OneSt.pure (fun G V => by simp only [putH, Act.put, List.setIfInBounds_toArray, List.set_cons_zero, List.set_cons_succ]; go_simp)
    · exact fun _ => OneSt.call (fun G V hK hL => ⟨_, _, by simp only [putH, Act.put, List.setIfInBounds_toArray, List.set_cons_zero, List.set_cons_succ]; go_simp <;> exact ⟨rfl, rfl⟩, by exact (HOC.out V (KTm.gr hK)).mono (fun e w' h => ⟨h.1, KTm.call hK h.2⟩)⟩)
    · exact fun _ => OneSt.pure (fun G V => by simp only [putH, Act.put, List.setIfInBounds_toArray, List.set_cons_zero, List.set_cons_succ]; go_simp)
    · exact fun _ => OneSt.pure (fun G V => by simp only [putH, Act.put, List.setIfInBounds_toArray, List.set_cons_zero, List.set_cons_succ]; go_simp)
    · exact fun _ => OneSt.lay (fun G V => by simp only [putH, Act.put, List.setIfInBounds_toArray, List.set_cons_zero, List.set_cons_succ]; go_simp)
    · exact fun h => absurd rfl h
    · exact fun _ => OneSt.pure (fun G V => by simp only [putH, Act.put, List.setIfInBounds_toArray, List.set_cons_zero, List.set_cons_succ]; go_simp)
    · exact fun _ => OneSt.pure (fun G V => by simp only [putH, Act.put, List.setIfInBounds_toArray, List.set_cons_zero, List.set_cons_succ]; go_simp)
    · exact fun _ => OneSt.store (fun G V hK hL => by obtain ⟨UA, uc, rfl⟩ := own_slice (KTm.row hK); have c0 := KTm.cell3 hK; have f0 := KTm.fro hK; have hgl := KTm.lt hK; have hs := KTm.store hK htl; refine ⟨_, ?_, rfl, hs.1, hs.2⟩; simp only [putH, Act.put, List.setIfInBounds_toArray, List.set_cons_zero, List.set_cons_succ]; go_simp)
  · intro u G V hK hL
    obtain ⟨hg1, hg2⟩ := hL 26 _ _ rfl (by kernel_rfl)
    refine app_st (.tmp 30) (.tmp 52) 38 rfl B 44 i0 _ 6 80 Tryz.underlying38 hi0 hz0 hz1 hz2 rfl (by decide) (.slice VA n vc) n (recs ntC N) ?_ (KTm.row hK) ⟨G 26, 0, none⟩ 1 1 (ntC ⟨m, d, r, t, ocP L t m, k⟩) ?_ rfl (cells_add (cells_blk hg2 rfl)) (ntC_one _) (by unfold maxLen; omega) (by omega) (by have := (KTm.gr hK).size; omega) ?_
    · simp only [putL, putH, Act.put, List.setIfInBounds_toArray, List.set_cons_zero, List.set_cons_succ]; rfl
    · simp only [putL, putH, Act.put, List.setIfInBounds_toArray, List.set_cons_zero, List.set_cons_succ]; rfl
    · intro v' w2 ho hg hm
      rw [← recs_snoc] at ho
      exact KTm.app hK ho hg hm HVW.out
  · intro u G W7 hK hsz hG
    clear hG
    have HKu := Lib.hid (show KTm w B tb S sn sc (.slice VA n vc) u u (n + 1) (N ++ [⟨m, d, r, t, ocP L t m, k⟩]) W7 from hK)
    clear hK hx0 hx1
    simp only [putL, putH, Act.put, List.setIfInBounds_toArray, List.set_cons_zero, List.set_cons_succ]
    go_wp2_with (fail)
    go_end0
    exact ⟨u, [⟨m, d, r, t, ocP L t m, k⟩], rfl, ⟨HKu.out.blk, by rw [List.length_append, ← HEN.out]; exact HKu.out.row⟩, .inr rfl, ⟨HKu.out.gr, HKu.out.mv⟩⟩
theorem full_any (B tb sn sc : Nat) (S : Option Addr) (v : Value) (N : List Nt) (w : World) (h : TlI w B tb S sn sc v N) (hN : N.length ≤ 5000) :
    Calls Tryz.prog 52 #[.pointer (some ⟨tb, 0, none⟩)] w fun e w' => e = .returned (.bool false) ∧ w = w' := by
  obtain ⟨VA, vc, rfl⟩ := own_slice h.row
  have c3 : w.cell? ⟨tb, 3, none⟩ = some (.slice VA N.length vc) := cell_of_blk (j := 3) h.blk rfl
  have htl : tb < w.heap.size := (Array.getElem?_eq_some_iff.1 h.blk).1
  obtain ⟨n, en⟩ : ∃ n, n = N.length := ⟨_, rfl⟩
  rw [← en] at c3 hN
  have hn : ¬ (5000 : Int) < n := by omega
  clear h en
  go_enter Tryz.func52, Tryz.ntmps52
  go_wp2_with (fail)
  go_ret
  exact ⟨rfl, rfl⟩
end Go.Proofs.YtldohjamiofkpaaGreatDoor

/- (*alarm.teller).climb by its contract. -/
namespace Go.Proofs.YtldohjamiofkpaaGreatDoor
open Go.RowKit Go.Shelf Go.Sort

/-- Who is told in one time in which an alarm is active. -/
structure TdOk (L : Lf) (f u : Int) (S : List Sf) (z : Nt) : Prop where
  d : z.d = L.d
  r : z.r = L.r
  f : f ≤ z.at_
  u : z.at_ < u
  as_ : ∀ a ∈ L.as_, ¬ (a.1 ≤ z.at_ ∧ z.at_ < a.2)
  t : z.t ≠ 2
  b : z.b = ocP S z.t z.at_
theorem skip_next {d ev kk : Int} (he : 0 < ev) (h : kk * ev < d) : kk + 1 ≤ (d + ev - 1) / ev ∧ ((d + ev - 1) / ev) * ev ≤ d + ev - 1 := by
  refine ⟨(Int.le_ediv_iff_mul_le he).2 ?_, Int.ediv_mul_le _ (by omega)⟩
  rw [Int.add_mul]
  omega
theorem quo_low {fi ev : Int} (h0 : 0 ≤ fi) (h1 : fi ≤ 400000000000) (he : 1000 ≤ ev ∧ ev ≤ 2592000000) : (-fi + ev - 1).tdiv ev ≤ 0 ∧ -400000000000 ≤ (-fi + ev - 1).tdiv ev := by
  rcases Int.lt_or_le (-fi + ev - 1) 0 with h | h
  · have e : (-fi + ev - 1).tdiv ev = -((fi - ev + 1) / ev) := by
      rw [show -fi + ev - 1 = -(fi - ev + 1) by omega, Int.neg_tdiv, Int.tdiv_eq_ediv_of_nonneg (by omega)]
    rw [e]
    have h2 := Int.ediv_nonneg (a := fi - ev + 1) (b := ev) (by omega) (by omega)
    have h3 := Int.ediv_le_self (a := fi - ev + 1) ev (by omega)
    omega
  · rw [Int.tdiv_eq_ediv_of_nonneg h, Int.ediv_eq_zero_of_lt h (by omega)]
    omega
def ClimbP (B tb : Nat) (A : Option Addr) (sn sc : Nat) (v : Value) (N : List Nt) (L : Lf) (f u : Int) (S : List Sf) (m : Nat) (w : World) (e : Ending) (w' : World) : Prop :=
  ∃ v' N', e = .returned (.tuple #[]) ∧ TlI w' B tb A sn sc v' (N ++ N') ∧ N'.length ≤ m + 2 ∧ (∀ z ∈ N', TdOk L f u S z) ∧ TlGo tb w w' v v'
/-- Between two rounds. -/
structure ClR (B tb : Nat) (A : Option Addr) (sn sc : Nat) (v : Value) (N : List Nt) (L : Lf) (f u : Int) (S : List Sf) (q : Int) (W w : World) (v' : Value) (N' : List Nt) : Prop where
  tl : TlI w B tb A sn sc v' (N ++ N')
  n : (N'.length : Int) ≤ q
  ok : ∀ z ∈ N', TdOk L f u S z
  go : TlGo tb W w v v'
theorem ClR.tell {B tb : Nat} {A : Option Addr} {sn sc : Nat} {v : Value} {N : List Nt} {L : Lf} {f u : Int} {S : List Sf} {q q' : Int} {W w w2 w' : World} {v' : Value} {N' : List Nt} {z : Nt} {e : Ending} (h : ClR B tb A sn sc v N L f u S q W w v' N') (hb : Below w.heap.size w w2) (hT : TellP B tb A sn sc v' (N ++ N') z w2 e w') (hz : TdOk L f u S z) (hq : q + 1 ≤ q') :
    e = .returned (.tuple #[]) ∧ ∃ v2 N2, ClR B tb A sn sc v N L f u S q' W w' v2 N2 := by
  obtain ⟨v2, M, he, h1, h2, h3⟩ := hT
  refine ⟨he, v2, N' ++ M, by rw [← List.append_assoc]; exact h1, ?_, fun y hy => ?_, ?_⟩
  · have := h.n
    rcases h2 with rfl | rfl
    · rw [List.append_nil]; omega
    · rw [List.length_append]; simp; omega
  · rcases List.mem_append.1 hy with hy | hy
    · exact h.ok y hy
    · rcases h2 with rfl | rfl
      · cases hy
      · rw [List.mem_singleton] at hy
        rw [hy]
        exact hz
  · exact (h.go.below hb).trans h3
theorem ClR.below {B tb : Nat} {A : Option Addr} {sn sc : Nat} {v : Value} {N : List Nt} {L : Lf} {f u : Int} {S : List Sf} {q q' : Int} {W w w' : World} {v' : Value} {N' : List Nt} (h : ClR B tb A sn sc v N L f u S q W w v' N') (hb : Below w.heap.size w w') (hq : q ≤ q') : ClR B tb A sn sc v N L f u S q' W w' v' N' :=
  ⟨⟨(hb.block tb (Array.getElem?_eq_some_iff.1 h.tl.blk).1).trans h.tl.blk, own_belowP h.tl.row hb⟩, by have := h.n; omega, h.ok, h.go.below hb⟩
set_option maxRecDepth 100000 in
set_option maxHeartbeats 4000000 in
theorem climb_any (S : List Sf) (B tb sn sc x : Nat) (A : Option Addr) (v : Value) (N : List Nt) (L : Lf) (vl : Nat → Value) (y : Ld) (f u : Int) (w : World)
    (h : TlI w B tb A sn sc v N) (hN : N.length ≤ 4900) (hL : S.length = sn) (hL2 : sn ≤ 1000) (hS : Row w tb A (recs sfC S)) (htB : tb < B) (hBw : B ≤ w.heap.size)
    (hx : LfI w x L vl) (hft : ∀ b, lfFoot x vl b → b < B ∧ b ≠ tb) (has : L.as_.length ≤ 1000) (hab : ∀ a ∈ L.as_, a.2 ≤ 345686400000)
    (hy : LdR y) (hyr : Row w tb y.A (recs rgC y.g)) (hf : 0 ≤ f) (hfu : f ≤ u) (hu : u ≤ 345686400000) :
    Calls Tryz.prog 51 #[.pointer (some ⟨tb, 0, none⟩), .pointer (some ⟨x, 0, none⟩), .agg #[.string (ruT y.r), .slice y.A y.g.length y.c, .int .i64 y.ev], .agg #[.int .i64 f, .int .i64 u]] w fun e w' => ClimbP B tb A sn sc v N L f u S y.g.length w e w' := by
  have htl : tb < w.heap.size := (Array.getElem?_eq_some_iff.1 h.blk).1
  obtain ⟨m, em⟩ : ∃ m, m = y.g.length := ⟨_, rfl⟩
  obtain ⟨ya, eya⟩ : ∃ a, a = y.A := ⟨_, rfl⟩
  obtain ⟨yc, eyc⟩ : ∃ a, a = y.c := ⟨_, rfl⟩
  obtain ⟨ev, eev⟩ : ∃ a, a = y.ev := ⟨_, rfl⟩
  have hmr : 1 ≤ m ∧ m ≤ 10 := by rw [em]; exact hy.n
  have hevr : ev = 0 ∨ (1000 ≤ ev ∧ ev ≤ 2592000000) := by rw [eev]; exact hy.ev
  rw [← em, ← eya, ← eyc, ← eev]
  rw [← eya] at hyr
  have HG := Lib.hid (show (∀ q (z : Int × Nat), q < m → y.g[q]? = some z → RgR z) ∧ y.g.length = m from ⟨fun q z hq hz => hy.g.1 q z (by omega) hz, em.symm⟩)
  have HFT := Lib.hid hft
  have HAB := Lib.hid hab
  -- the two boxes
  obtain ⟨gl, egl⟩ : ∃ g, g = w.heap.size := ⟨_, rfl⟩
  obtain ⟨gw, egw⟩ : ∃ g, g = w.heap.size + 1 := ⟨_, rfl⟩
  obtain ⟨W, eW⟩ : ∃ V : World, V = (w.alloc (.cells #[.string (ruT y.r), .slice ya m yc, .int .i64 ev] 89)).alloc (.cells #[.int .i64 f, .int .i64 u] 42) := ⟨_, rfl⟩
  have hbW : Below w.heap.size w W := by rw [eW]; exact ((Below.refl _ _).alloc (Nat.le_refl _) _).alloc (by simp) _
  have hgl : W.heap[gl]? = some (.cells #[.string (ruT y.r), .slice ya m yc, .int .i64 ev] 89 (0, 0)) := by rw [eW, egl, Below.heap_alloc _ _ _ (by simp)]; exact heap_new w _
  have hgw : W.heap[gw]? = some (.cells #[.int .i64 f, .int .i64 u] 42 (0, 0)) := by
    rw [eW, egw]
    have := heap_new (w.alloc (.cells #[.string (ruT y.r), .slice ya m yc, .int .i64 ev] 89)) (.cells #[.int .i64 f, .int .i64 u] 42)
    simpa using this
  have hglW := (Array.getElem?_eq_some_iff.1 hgl).1
  have hgwW := (Array.getElem?_eq_some_iff.1 hgw).1
  have hTW : TlI W B tb A sn sc v N := ⟨(hbW.block tb htl).trans h.blk, own_belowP h.row hbW⟩
  have hlo : ∀ b, v.ownBlock = some b → B ≤ b := fun b hb => (h.row.lt b hb).1
  have hvl : v.ownBlock ≠ some gl := fun e => own_ne hTW.row hgl (by decide) e.symm
  have hvw : v.ownBlock ≠ some gw := fun e => own_ne hTW.row hgw (by decide) e.symm
  have hglt : gl ≠ tb := by omega
  have hgwt : gw ≠ tb := by omega
  -- what a world behind a teller's steps keeps
  have HKL := Lib.hid (fun (V : World) (v' : Value) (hV : TlGo tb W V v v') => show V.cell? ⟨gl, 1, none⟩ = some (.slice ya m yc) ∧ V.cell? ⟨gl, 2, none⟩ = some (.int .i64 ev) ∧ V.cell? ⟨gw, 0, none⟩ = some (.int .i64 f) ∧ V.cell? ⟨gw, 1, none⟩ = some (.int .i64 u) ∧ gl < V.heap.size ∧ gw < V.heap.size from
    have h1 := (hV.gr.block gl hglW (fun e => e.elim hglt hvl)).trans hgl
    have h2 := (hV.gr.block gw hgwW (fun e => e.elim hgwt hvw)).trans hgw
    ⟨cell_of_blk (j := 1) h1 rfl, cell_of_blk (j := 2) h1 rfl, cell_of_blk (j := 0) h2 rfl, cell_of_blk (j := 1) h2 rfl, Nat.lt_of_lt_of_le hglW hV.gr.size, Nat.lt_of_lt_of_le hgwW hV.gr.size⟩)
  have HKX := Lib.hid (fun (V : World) (v' : Value) (hV : TlGo tb W V v v') => show LfI V x L vl from hx.keep fun b hb => (hV.gr.block b (Nat.lt_of_lt_of_le (hx.foot_lt hb) hbW.size) (fun e => e.elim (hft b hb).2 (fun e => by have := hlo b e; have := (hft b hb).1; omega))).trans (hbW.block b (hx.foot_lt hb)))
  have HKS := Lib.hid (fun (V : World) (v' : Value) (hV : TlGo tb W V v v') => show Row V tb A (recs sfC S) from ((hS.below (hbW.mono (Nat.le_of_lt htl))).keep fun b hb => hV.gr.block b (by have := hbW.size; omega) (fun e => e.elim (by omega) (fun e => by have := hlo b e; omega))))
  have HKR := Lib.hid (fun (V : World) (v' : Value) (hV : TlGo tb W V v v') => show Row V tb ya (recs rgC y.g) from ((hyr.below (hbW.mono (Nat.le_of_lt htl))).keep fun b hb => hV.gr.block b (by have := hbW.size; omega) (fun e => e.elim (by omega) (fun e => by have := hlo b e; omega))))
  have HGO := Lib.hid (fun (V : World) (v' : Value) (hV : TlGo tb W V v v') => show TlGo tb w V v v' from ⟨GrF.trans (GrF.of_below hbW _ (fun b h1 h2 => by omega)) ⟨hV.gr.os, hV.gr.tape, hV.gr.output, hV.gr.size, fun b hb hn => hV.gr.block b hb hn⟩, by
    rcases hV.mv with h1 | ⟨g, h1, h2⟩
    · exact .inl h1
    · exact .inr ⟨g, h1, Nat.le_trans hbW.size h2⟩⟩)
  have HX01 := Lib.hid (fun (V : World) (hV : LfI V x L vl) => show V.cell? ⟨x, 0, none⟩ = some (.string (aldT L.d)) ∧ V.cell? ⟨x, 1, none⟩ = some (.string (alrT L.r)) from ⟨cell_of_blk (j := 0) hV.blk rfl, cell_of_blk (j := 1) hV.blk rfl⟩)
  have hxB := hft x (.inl rfl)
  have HBS := Lib.hid hbW.size
  have HW0 := Lib.hid (show ClR B tb A sn sc v N L f u S 0 W W v [] from ⟨by rw [List.append_nil]; exact hTW, by simp, by simp, TlGo.refl _ _ _⟩)
  have HFU := Lib.hid (And.intro hf (And.intro hfu hu))
  clear h hS hx hft hab hy hyr hTW hgl hgw hvl hvw hlo em eya eyc eev
  go_enter Tryz.func51, Tryz.ntmps51
  go_upto_region 1 with (fail)
  rw [← egw, ← egl, ← eW]
  clear egl egw eW hbW
  obtain ⟨d1, d2, d3, d4, hgl', hgw'⟩ := HKL.out W v HW0.out.go
  have hwm1 : (m : Int) - 1 = ((m - 1 : Nat) : Int) := by omega
  have hwm2 : IntKind.i64.wrap ((m - 1 : Nat) : Int) = ((m - 1 : Nat) : Int) := by rw [IntKind.wrap_i64]; omega
  go_wp2_with (fail)
  go_loopw [24] (fun s wr => ∃ (q : Nat) (v' : Value) (N' : List Nt), q ≤ m ∧ s = .int .i64 (q : Int) ∧ ClR B tb A sn sc v N L f u S (q : Int) W wr v' N') (fun s _ => m - (intOf s).toNat)
  case atStart => exact ⟨0, v, [], by omega, rfl, HW0.out⟩
  case round =>
    obtain ⟨q, v', N', hq, rfl, hR⟩ := hrel
    have HR := Lib.hid hR
    have hRs := hR.go.gr.size
    clear hR d1 d2 d3 d4 hgl' hgw'
    obtain ⟨d1, d2, d3, d4, hgl', hgw'⟩ := HKL.out wr v' HR.out.go
    by_cases hqm : q < m
    · have hqmI : (q : Int) < m := by omega
      obtain ⟨z, hz⟩ : ∃ z, y.g[q]? = some z := ⟨_, List.getElem?_eq_getElem (by have := HG.out.2; omega)⟩
      obtain ⟨rb, ro, rfl, hrb, hD⟩ := (HKR.out wr v' HR.out.go).posR rgC_len (by omega) (by have := HG.out.2; omega)
      have e0 : wr.cell? ⟨rb, ro + q * 2, none⟩ = some (.int .i64 z.1) := rec_cell rgC_len hD q z hz 0 _ rfl
      have e1 : wr.cell? ⟨rb, ro + q * 2 + 1, none⟩ = some (.string (tmT z.2)) := rec_cell rgC_len hD q z hz 1 _ rfl
      have HZ := Lib.hid (HG.out.1 q z hqm hz)
      have hza := (HG.out.1 q z hqm hz).a
      have hrb' : rb < wr.heap.size := by have := HBS.out; omega
      clear hz hD
      obtain ⟨z1, z2⟩ := z
      simp only at e0 e1 hza
      go_upto_region 5 with (fail)
      obtain ⟨gr, egr⟩ : ∃ g, g = wr.heap.size := ⟨_, rfl⟩
      obtain ⟨w5, e5⟩ : ∃ V : World, V = wr.alloc (.cells #[.int .i64 z1, .string (tmT z2)] 91) := ⟨_, rfl⟩
      have hb5 : Below wr.heap.size wr w5 := by rw [e5]; exact (Below.refl _ _).alloc (Nat.le_refl _) _
      have hg5 : w5.heap[gr]? = some (.cells #[.int .i64 z1, .string (tmT z2)] 91 (0, 0)) := by rw [e5, egr]; exact heap_new wr _
      rw [← egr, ← e5]
      have HR5 := Lib.hid (HR.out.below hb5 (Int.le_refl _))
      have hs5 := hb5.size
      have r0 := cell_of_blk (j := 0) hg5 rfl
      have hgr5 := (Array.getElem?_eq_some_iff.1 hg5).1
      have HG5 := Lib.hid hg5
      clear d1 d2 d3 d4 hgl' hgw' e0 e1 e5 hb5 hg5 egr
      obtain ⟨d1, d2, d3, d4, hgl', hgw'⟩ := HKL.out w5 v' HR5.out.go
      have hwa : IntKind.i64.wrap (f + z1) = f + z1 := by have := HFU.out; rw [IntKind.wrap_i64]; omega
      by_cases hmu : f + z1 < u
      case neg =>
        have hmu2 : decide (f + z1 < u) = false := decide_eq_false hmu
        have HRn := Lib.hid (HR5.out.below (Below.refl _ _) (show (q : Int) ≤ ((q + 1 : Nat) : Int) by omega))
        go_wp2_with (fail)
        go_roundw
        case rel => exact ⟨q + 1, v', N', by omega, by go_num, HRn.out⟩
        case measure => simp [intOf]; omega
      have hmu2 : decide (f + z1 < u) = true := decide_eq_true hmu
      have HFR := Lib.hid (free_any x L vl (f + z1) w5 (HKX.out w5 v' HR5.out.go) has)
      obtain ⟨fz, efz⟩ : ∃ fz, fz = freP L.as_ (f + z1) := ⟨_, rfl⟩
      rw [← efz] at HFR
      have HFZ := Lib.hid (show fz = f + z1 → ∀ a ∈ L.as_, ¬ (a.1 ≤ f + z1 ∧ f + z1 < a.2) from fun h => freP_out _ _ (efz ▸ h))
      clear efz
      go_wp2_with (fail)
      refine HFR.out.mono ?_
      rintro e w6 ⟨rfl, hb6⟩
      have HR6 := Lib.hid (HR5.out.below hb6 (Int.le_refl _))
      have hs6 := hb6.size
      have HG6 := Lib.hid ((hb6.block gr hgr5).trans HG5.out)
      clear hb6 d1 d2 d3 d4 hgl' hgw' r0
      obtain ⟨d1, d2, d3, d4, hgl', hgw'⟩ := HKL.out w6 v' HR6.out.go
      by_cases hfz : fz = f + z1
      case neg =>
        have hfz2 : (fz == f + z1) = false := by simpa using hfz
        have HRn := Lib.hid (HR6.out.below (Below.refl _ _) (show (q : Int) ≤ ((q + 1 : Nat) : Int) by omega))
        go_wp2_with (fail)
        go_roundw
        case rel => exact ⟨q + 1, v', N', by omega, by go_num, HRn.out⟩
        case measure => simp [intOf]; omega
      have HAS := Lib.hid (HFZ.out hfz)
      subst hfz
      have r1 : w6.cell? ⟨gr, 1, none⟩ = some (.string (tmT z2)) := cell_of_blk (j := 1) HG6.out rfl
      have hgr6 : gr < w6.heap.size := by omega
      have HTE := Lib.hid (tell_any S B tb sn sc x L.d L.r z2 (f + z1) (q : Int) A v' (N ++ N') w6 HR6.out.tl (by rw [List.length_append]; have := HR6.out.n; omega) hL hL2 (HKS.out w6 v' HR6.out.go) htB (by have := HBS.out; have := HR6.out.go.gr.size; omega) (HX01.out w6 (HKX.out w6 v' HR6.out.go)).1 (HX01.out w6 (HKX.out w6 v' HR6.out.go)).2 hxB.1 hxB.2 (by have := HFU.out; omega))
      go_wp2_with (fail)
      refine HTE.out.mono ?_
      intro e w7 hT
      obtain ⟨rfl, v7, N7, h7⟩ := HR6.out.tell (q' := ((q + 1 : Nat) : Int)) (Below.refl _ _) hT ⟨rfl, rfl, by show f ≤ f + z1; omega, hmu, HAS.out, HZ.out.t, rfl⟩ (by omega)
      have HR7 := Lib.hid h7
      clear hT h7 d1 d2 d3 d4 hgl' hgw' r1
      go_wp2_with (fail)
      go_roundw
      case rel => exact ⟨q + 1, v7, N7, by omega, by go_num, HR7.out⟩
      case measure => simp [intOf]; omega
    · have hqmI : ¬ (q : Int) < m := by omega
      obtain rfl : q = m := by omega
      by_cases hev0 : ev = 0
      · subst hev0
        have HF := Lib.hid (show ClimbP B tb A sn sc v N L f u S q w (.returned (.tuple #[])) wr from ⟨v', N', rfl, HR.out.tl, by have := HR.out.n; omega, HR.out.ok, HGO.out wr v' HR.out.go⟩)
        go_wp2_with (fail)
        go_end0
        exact HF.out
      have hev1 : ¬ ev = 0 := hev0
      have hev2 : 1000 ≤ ev ∧ ev ≤ 2592000000 := by omega
      obtain ⟨z, hz⟩ : ∃ z, y.g[q - 1]? = some z := ⟨_, List.getElem?_eq_getElem (by have := HG.out.2; omega)⟩
      obtain ⟨rb, ro, rfl, hrb, hD⟩ := (HKR.out wr v' HR.out.go).posR rgC_len (by omega) (by have := HG.out.2; omega)
      have e0 : wr.cell? ⟨rb, ro + (q - 1) * 2, none⟩ = some (.int .i64 z.1) := rec_cell rgC_len hD (q - 1) z hz 0 _ rfl
      have HZ := Lib.hid (HG.out.1 (q - 1) z (by omega) hz)
      have HZ2 := Lib.hid hz
      have hza := (HG.out.1 (q - 1) z (by omega) hz).a
      have hrb' : rb < wr.heap.size := by have := HBS.out; omega
      have hq1 : ((q - 1 : Nat) : Int) < q := by omega
      have hq2 : q - 1 < q := by omega
      clear hz hD
      obtain ⟨z1, z2⟩ := z
      simp only at e0 hza
      obtain ⟨fi, efi⟩ : ∃ fi, fi = f + z1 := ⟨_, rfl⟩
      have hwf : IntKind.i64.wrap (f + z1) = fi := by have := HFU.out; rw [efi, IntKind.wrap_i64]; omega
      have hfi : 0 ≤ fi ∧ f ≤ fi ∧ fi ≤ 400000000000 := by have := HFU.out; omega
      clear efi
      go_upto_region 10 with (fail)
      go_cut [12] (fun s wx => s = .int .i64 fi ∧ Below wr.heap.size wr wx)
      case first =>
        go_quiet (fail)
        go_wp2_with (fail)
        go_meet
        exact ⟨rfl, below_drewN (Below.refl _ _) _⟩
      case rest =>
      obtain ⟨rfl, hbc⟩ := hcut
      obtain ⟨w8, ew8⟩ : ∃ V : World, V = wc := ⟨_, rfl⟩
      rw [← ew8] at hbc ⊢
      have HR8 := Lib.hid (HR.out.below hbc (Int.le_refl _))
      clear ew8 hbc d1 d2 d3 d4 hgl' hgw' e0
      obtain ⟨d1, d2, d3, d4, hgl', hgw'⟩ := HKL.out w8 v' HR8.out.go
      obtain ⟨t0, t1, t2, t3, htt⟩ : w8.cell? ⟨tb, 1, none⟩ = some (.int .i64 0) ∧ w8.cell? ⟨tb, 2, none⟩ = some (.int .i64 3000) ∧ True ∧ True ∧ tb < w8.heap.size := ⟨cell_of_blk (j := 1) HR8.out.tl.blk rfl, cell_of_blk (j := 2) HR8.out.tl.blk rfl, trivial, trivial, (Array.getElem?_eq_some_iff.1 HR8.out.tl.blk).1⟩
      clear t2 t3
      obtain ⟨en, een⟩ : ∃ en : Int, en = min u 3000 := ⟨_, rfl⟩
      have HEN := Lib.hid (show en ≤ u ∧ en ≤ 3000 from by omega)
      go_upto_region 11 with (fail)
      go_cut [13] (fun s wx => s = .int .i64 en ∧ Below w8.heap.size w8 wx)
      case first =>
        go_quiet (fail)
        go_wp2_with (fail)
        go_meet
        exact ⟨by rw [een], below_drewN (Below.refl _ _) _⟩
      case rest =>
      obtain ⟨rfl, hbc⟩ := hcut
      obtain ⟨w9, ew9⟩ : ∃ V : World, V = wc := ⟨_, rfl⟩
      rw [← ew9] at hbc ⊢
      have HR9 := Lib.hid (HR8.out.below hbc (Int.le_refl _))
      clear ew9 hbc d1 d2 d3 d4 hgl' hgw' t0 t1 htt een
      obtain ⟨d1, d2, d3, d4, hgl', hgw'⟩ := HKL.out w9 v' HR9.out.go
      have t0 : w9.cell? ⟨tb, 1, none⟩ = some (.int .i64 0) := cell_of_blk (j := 1) HR9.out.tl.blk rfl
      have htt : tb < w9.heap.size := (Array.getElem?_eq_some_iff.1 HR9.out.tl.blk).1
      have hwn1 : IntKind.i64.wrap (-fi) = -fi := by rw [IntKind.wrap_i64]; omega
      have hwn2 : IntKind.i64.wrap (-fi + ev) = -fi + ev := by rw [IntKind.wrap_i64]; omega
      have hwn3 : IntKind.i64.wrap (-fi + ev - 1) = -fi + ev - 1 := by rw [IntKind.wrap_i64]; omega
      obtain ⟨qu, equ⟩ : ∃ qu, qu = (-fi + ev - 1).tdiv ev := ⟨_, rfl⟩
      have hqu : qu ≤ 0 ∧ -400000000000 ≤ qu := by
        rw [equ]
        exact quo_low (by omega) (by omega) (by omega)
      have hwq : IntKind.i64.wrap qu = qu := by rw [IntKind.wrap_i64]; omega
      have hmx : max 1 qu = 1 := by omega
      go_upto_region 12 with (fail)
      go_cut [14] (fun s wx => s = .int .i64 1 ∧ Below w9.heap.size w9 wx)
      case first =>
        go_quiet (fail)
        go_wp2_with (fail)
        go_meet
        exact ⟨by rw [← equ, hmx], below_drewN (Below.refl _ _) _⟩
      case rest =>
      obtain ⟨rfl, hbc⟩ := hcut
      obtain ⟨wA, ewA⟩ : ∃ V : World, V = wc := ⟨_, rfl⟩
      rw [← ewA] at hbc ⊢
      have HRA := Lib.hid (HR9.out.below hbc (Int.le_refl _))
      clear ewA hbc d1 d2 d3 d4 hgl' hgw' t0 htt equ hwq hmx hqu hwn1 hwn2 hwn3
      obtain ⟨Q, eQ⟩ : ∃ Q : Int, Q = (q : Int) := ⟨_, rfl⟩
      rw [← eQ] at HRA
      have HQE := Lib.hid eQ
      clear eQ
      go_wp2_with (fail)
      go_loopw [14] (fun s wr => ∃ (kk : Int) (v' : Value) (N' : List Nt), s = .int .i64 kk ∧ 1 ≤ kk ∧ kk ≤ 1000000000 ∧ kk * ev ≤ 1000000000000 ∧ ClR B tb A sn sc v N L f u S (Q + min (kk - 1) 2) W wr v' N') (fun s _ => (3 - intOf s).toNat)
      case atStart => exact ⟨1, v', N', rfl, by omega, by omega, by omega, HRA.out.below (Below.refl _ _) (by omega)⟩
      case round =>
        obtain ⟨kk, v', N', rfl, hk1, hk2, hk3, hR⟩ := hrel
        have HR := Lib.hid hR
        have hRs := hR.go.gr.size
        clear hR
        obtain ⟨d1, d2, d3, d4, hgl', hgw'⟩ := HKL.out wr v' HR.out.go
        obtain ⟨pr, epr⟩ : ∃ pr, pr = kk * ev := ⟨_, rfl⟩
        have hpr0 : kk ≤ pr := by rw [epr]; have := Int.mul_le_mul_of_nonneg_left (show (1 : Int) ≤ ev by omega) (show 0 ≤ kk by omega); omega
        have hpr3 : 3 ≤ kk → 3000 ≤ pr := fun h => by rw [epr]; exact Int.le_trans (by omega) (Int.mul_le_mul h hev2.1 (by omega) (by omega))
        have hpr1 : (kk + 1) * ev = pr + ev := by rw [epr, Int.add_mul]; omega
        rw [← epr] at hk3
        have hwp : IntKind.i64.wrap (kk * ev) = pr := by rw [← epr, IntKind.wrap_i64]; omega
        have hwp2 : IntKind.i64.wrap (fi + pr) = fi + pr := by rw [IntKind.wrap_i64]; omega
        have HPR := Lib.hid epr
        clear epr
        by_cases hlt : fi + pr < en
        case neg =>
          have hlt2 : decide (fi + pr < en) = false := decide_eq_false hlt
          have HF := Lib.hid (show ClimbP B tb A sn sc v N L f u S q w (.returned (.tuple #[])) wr from ⟨v', N', rfl, HR.out.tl, by have := HR.out.n; have := HQE.out; omega, HR.out.ok, HGO.out wr v' HR.out.go⟩)
          go_wp2_with (fail)
          go_end0
          exact HF.out
        have hlt2 : decide (fi + pr < en) = true := decide_eq_true hlt
        have hkk2 : kk ≤ 2 := by have := HEN.out; omega
        have HFL := Lib.hid (full_any B tb sn sc A v' (N ++ N') wr HR.out.tl (by rw [List.length_append]; have := HR.out.n; have := HQE.out; omega))
        go_wp2_with (fail)
        refine HFL.out.mono ?_
        rintro e w1 ⟨rfl, hw1⟩
        rw [← hw1]
        clear hw1 w1
        have HFR := Lib.hid (free_any x L vl (fi + pr) wr (HKX.out wr v' HR.out.go) has)
        obtain ⟨tw, eto⟩ : ∃ fz, fz = freP L.as_ (fi + pr) := ⟨_, rfl⟩
        have hto1 : fi + pr ≤ tw := by rw [eto]; exact freP_ge _ _
        have hto2 : tw ≤ 400000000000 := by rw [eto]; exact freP_bound _ _ _ (fun a ha => by have := HAB.out a ha; omega) (by have := HEN.out; omega)
        rw [← eto] at HFR
        have HFZ := Lib.hid (show tw = fi + pr → ∀ a ∈ L.as_, ¬ (a.1 ≤ fi + pr ∧ fi + pr < a.2) from fun h => freP_out _ _ (eto ▸ h))
        clear eto
        go_wp2_with (fail)
        refine HFR.out.mono ?_
        rintro e w6 ⟨rfl, hb6⟩
        have HR6 := Lib.hid (HR.out.below hb6 (Int.le_refl _))
        have hs6 := hb6.size
        clear hb6 d1 d2 d3 d4 hgl' hgw'
        obtain ⟨d1, d2, d3, d4, hgl', hgw'⟩ := HKL.out w6 v' HR6.out.go
        by_cases hgt : fi + pr < tw
        case pos =>
          obtain ⟨k2, ek2⟩ : ∃ k2, k2 = (tw - fi + ev - 1) / ev := ⟨_, rfl⟩
          have hsk := skip_next (d := tw - fi) (ev := ev) (kk := kk) (by omega) (by have := HPR.out; omega)
          rw [← ek2] at hsk
          have hk2u : k2 ≤ 1000000000 := by
            have h1 : k2 * 1000 ≤ k2 * ev := Int.mul_le_mul_of_nonneg_left hev2.1 (by omega)
            omega
          have hz1 : IntKind.i64.wrap (tw - fi) = tw - fi := by rw [IntKind.wrap_i64]; omega
          have hz2 : IntKind.i64.wrap (tw - fi + ev) = tw - fi + ev := by rw [IntKind.wrap_i64]; omega
          have hz3 : IntKind.i64.wrap (tw - fi + ev - 1) = tw - fi + ev - 1 := by rw [IntKind.wrap_i64]; omega
          have hz4 : (tw - fi + ev - 1).tdiv ev = k2 := by rw [ek2]; exact Int.tdiv_eq_ediv_of_nonneg (by omega)
          have hz5 : (tw - fi + ev - 1) / ev = k2 := ek2.symm
          have hz6 : IntKind.i64.wrap k2 = k2 := by rw [IntKind.wrap_i64]; omega
          have HK2 := Lib.hid (show 1 ≤ k2 ∧ k2 ≤ 1000000000 ∧ k2 * ev ≤ 1000000000000 ∧ kk + 1 ≤ k2 from ⟨by omega, hk2u, by omega, hsk.1⟩)
          have HRn := Lib.hid (HR6.out.below (Below.refl _ _) (show Q + min (kk - 1) 2 ≤ Q + min (k2 - 1) 2 by omega))
          clear ek2 hsk hk2u
          go_wp2_with (fail)
          go_roundw
          case rel => exact ⟨k2, v', N', rfl, HK2.out.1, HK2.out.2.1, HK2.out.2.2.1, HRn.out⟩
          case measure => have := HK2.out; simp [intOf]; omega
        have htw : tw = fi + pr := by omega
        have HAS := Lib.hid (HFZ.out htw)
        subst htw
        obtain ⟨rb, ro, era, hrb, hD⟩ := (HKR.out w6 v' HR6.out.go).posR rgC_len (by omega) (by have := HG.out.2; omega)
        cases era
        have e1 : w6.cell? ⟨rb, ro + (q - 1) * 2 + 1, none⟩ = some (.string (tmT z2)) := rec_cell rgC_len hD (q - 1) _ HZ2.out 1 _ rfl
        have hrb6 : rb < w6.heap.size := by have := HBS.out; omega
        clear hD
        have HTE := Lib.hid (tell_any S B tb sn sc x L.d L.r z2 (fi + pr) ((q - 1 : Nat) : Int) A v' (N ++ N') w6 HR6.out.tl (by rw [List.length_append]; have := HR6.out.n; have := HQE.out; omega) hL hL2 (HKS.out w6 v' HR6.out.go) htB (by have := HBS.out; have := HR6.out.go.gr.size; omega) (HX01.out w6 (HKX.out w6 v' HR6.out.go)).1 (HX01.out w6 (HKX.out w6 v' HR6.out.go)).2 hxB.1 hxB.2 (by omega))
        go_wp2_with (fail)
        refine HTE.out.mono ?_
        intro e w7 hT
        obtain ⟨rfl, v7, N7, h7⟩ := HR6.out.tell (q' := Q + min (kk + 1 - 1) 2) (Below.refl _ _) hT ⟨rfl, rfl, by show f ≤ fi + pr; omega, by have := HEN.out; show fi + pr < u; omega, HAS.out, HZ.out.t, rfl⟩ (by omega)
        have HR7 := Lib.hid h7
        have hwk : IntKind.i64.wrap (kk + 1) = kk + 1 := by rw [IntKind.wrap_i64]; omega
        have HKE := Lib.hid (show (kk + 1) * ev ≤ 1000000000000 from by rw [hpr1]; have := HEN.out; omega)
        clear hT h7 d1 d2 d3 d4 hgl' hgw' e1
        go_wp2_with (fail)
        go_roundw
        case rel => exact ⟨kk + 1, v7, N7, rfl, by omega, by omega, HKE.out, HR7.out⟩
        case measure => simp [intOf]; omega
end Go.Proofs.YtldohjamiofkpaaGreatDoor

/- The shelf's SlLaysF0.n6 at this program. -/
namespace Go.Proofs.YtldohjamiofkpaaGreatDoor
open Go.RowKit Go.Shelf

def layNt_ren : Go.Shelf.Ren := ⟨fun | 6 => 53 | 15 => 98 | 14 => 97 | 28 => 149 | 29 => 150 | 20 => 141 | 21 => 142 | 22 => 143 | 23 => 144 | 24 => 145 | 25 => 146 | 26 => 147 | 27 => 148 | 46 => 182 | 47 => 183 | 48 => 184 | 49 => 185 | 50 => 186 | 57 => 212 | n => n, fun | 22 => 38 | 24 => 44 | 25 => 132 | 3 => 3 | 39 => 181 | 0 => 0 | 53 => 239 | 55 => 241 | 4 => 4 | 46 => 233 | 45 => 232 | 50 => 223 | 5 => 5 | 9 => 9 | 66 => 269 | 70 => 273 | 76 => 293 | 77 => 294 | n => n, fun  | n => n⟩
theorem layNt : SlLaysF0.n6 Tryz.prog layNt_ren := {
  mixed := by kernel_rfl,
  f6 := ⟨Tryz.f53.name, by kernel_rfl, Tryz.func53.trans (congrArg some (by kernel_rfl))⟩,
  f14 := ⟨Tryz.f97.name, by kernel_rfl, Tryz.func97.trans (congrArg some (by kernel_rfl))⟩,
  f15 := Tryz.func98.trans (congrArg some (by kernel_rfl)),
  f20 := ⟨Tryz.f141.name, by kernel_rfl, Tryz.func141.trans (congrArg some (by kernel_rfl))⟩,
  f21 := ⟨Tryz.f142.name, by kernel_rfl, Tryz.func142.trans (congrArg some (by kernel_rfl))⟩,
  f22 := ⟨Tryz.f143.name, by kernel_rfl, Tryz.func143.trans (congrArg some (by kernel_rfl))⟩,
  f23 := ⟨Tryz.f144.name, by kernel_rfl, Tryz.func144.trans (congrArg some (by kernel_rfl))⟩,
  f24 := ⟨Tryz.f145.name, by kernel_rfl, Tryz.func145.trans (congrArg some (by kernel_rfl))⟩,
  f25 := ⟨Tryz.f146.name, by kernel_rfl, Tryz.func146.trans (congrArg some (by kernel_rfl))⟩,
  f26 := ⟨Tryz.f147.name, by kernel_rfl, Tryz.func147.trans (congrArg some (by kernel_rfl))⟩,
  f27 := ⟨Tryz.f148.name, by kernel_rfl, Tryz.func148.trans (congrArg some (by kernel_rfl))⟩,
  f28 := Tryz.func149.trans (congrArg some (by kernel_rfl)),
  f29 := Tryz.func150.trans (congrArg some (by kernel_rfl)),
  f46 := ⟨Tryz.f182.name, by kernel_rfl, Tryz.func182.trans (congrArg some (by kernel_rfl))⟩,
  f47 := Tryz.func183.trans (congrArg some (by kernel_rfl)),
  f48 := Tryz.func184.trans (congrArg some (by kernel_rfl)),
  f49 := ⟨Tryz.f185.name, by kernel_rfl, Tryz.func185.trans (congrArg some (by kernel_rfl))⟩,
  f50 := ⟨Tryz.f186.name, by kernel_rfl, Tryz.func186.trans (congrArg some (by kernel_rfl))⟩,
  f57 := ⟨Tryz.f212.name, by kernel_rfl, Tryz.func212.trans (congrArg some (by kernel_rfl))⟩,
  t0 := Tryz.underlying0,
  a0 := Tryz.isAgg0,
  z0 := Tryz.sizeOf0,
  v0 := Tryz.zeroValue0,
  t3 := Tryz.underlying3,
  a3 := Tryz.isAgg3,
  z3 := Tryz.sizeOf3,
  v3 := Tryz.zeroValue3,
  t4 := Tryz.underlying4,
  a4 := Tryz.isAgg4,
  z4 := Tryz.sizeOf4,
  v4 := Tryz.zeroValue4,
  t5 := Tryz.underlying5,
  a5 := Tryz.isAgg5,
  z5 := Tryz.sizeOf5,
  v5 := Tryz.zeroValue5,
  t9 := Tryz.underlying9,
  a9 := Tryz.isAgg9,
  z9 := Tryz.sizeOf9,
  v9 := Tryz.zeroValue9,
  t22 := Tryz.underlying38,
  a22 := Tryz.isAgg38,
  z22 := Tryz.sizeOf38,
  v22 := Tryz.zeroValue38,
  t25 := Tryz.underlying132,
  a25 := Tryz.isAgg132,
  z25 := Tryz.sizeOf132,
  v25 := Tryz.zeroValue132,
  t39 := Tryz.underlying181,
  a39 := Tryz.isAgg181,
  z39 := Tryz.sizeOf181,
  v39 := Tryz.zeroValue181,
  t45 := Tryz.underlying232,
  a45 := Tryz.isAgg232,
  z45 := Tryz.sizeOf232,
  v45 := Tryz.zeroValue232,
  t46 := Tryz.underlying233,
  a46 := Tryz.isAgg233,
  z46 := Tryz.sizeOf233,
  v46 := Tryz.zeroValue233,
  t50 := Tryz.underlying223,
  a50 := Tryz.isAgg223,
  z50 := Tryz.sizeOf223,
  v50 := Tryz.zeroValue223,
  t53 := Tryz.underlying239,
  a53 := Tryz.isAgg239,
  z53 := Tryz.sizeOf239,
  v53 := Tryz.zeroValue239,
  t55 := Tryz.underlying241,
  a55 := Tryz.isAgg241,
  z55 := Tryz.sizeOf241,
  v55 := Tryz.zeroValue241,
  t66 := Tryz.underlying269,
  a66 := Tryz.isAgg269,
  z66 := Tryz.sizeOf269,
  v66 := Tryz.zeroValue269,
  t70 := Tryz.underlying273,
  a70 := Tryz.isAgg273,
  z70 := Tryz.sizeOf273,
  v70 := Tryz.zeroValue273,
  t76 := Tryz.underlying293,
  a76 := Tryz.isAgg293,
  z76 := Tryz.sizeOf293,
  v76 := Tryz.zeroValue293,
  t77 := Tryz.underlying294,
  a77 := Tryz.isAgg294,
  z77 := Tryz.sizeOf294,
  v77 := Tryz.zeroValue294 }
end Go.Proofs.YtldohjamiofkpaaGreatDoor

/- slices.SortFunc of notices, however many: what the row holds is the same in another order. -/
namespace Go.Proofs.YtldohjamiofkpaaGreatDoor
open Go.RowKit Go.Shelf Go.Sort

def cfN (x y : Nt) : Int := orI [cmpI x.at_ y.at_, cbT (aldT x.d) (aldT y.d), cbT (alrT x.r) (alrT y.r)]
def NtL (x y : Nt) : Prop := x.at_ < y.at_ ∨ x.at_ = y.at_ ∧ (min x.d 2 < min y.d 2 ∨ min x.d 2 = min y.d 2 ∧ min x.r 1 < min y.r 1)
theorem cfN_lt (x y : Nt) : cfN x y < 0 ↔ NtL x y := by
  unfold cfN NtL
  rw [ald_cmpM, alr_cmpM]
  simp only [orI, cmpI]
  repeat' split
  all_goals omega
theorem swoN : SWO (ltOf cfN) where
  irrefl x := by
    unfold ltOf
    have := cfN_lt x x
    unfold NtL at this
    simp
    omega
  trans x y z h1 h2 := by
    unfold ltOf at *
    have e1 := cfN_lt x y
    have e2 := cfN_lt y z
    have e3 := cfN_lt x z
    unfold NtL at *
    simp at *
    omega
  ntrans x y z h1 h2 := by
    unfold ltOf at *
    have e1 := cfN_lt x y
    have e2 := cfN_lt y z
    have e3 := cfN_lt x z
    unfold NtL at *
    simp at *
    omega
set_option maxRecDepth 100000 in
set_option maxHeartbeats 1000000 in
theorem orderN_grow (x y : Nt) (w : World) : Calls Tryz.prog 54 #[.agg (ntC x).toArray, .agg (ntC y).toArray] w fun e w' => e = .returned (.int .i64 (cfN x y)) ∧ ∃ q os', w' = grow (w.drewN q) os' := by
  have HD := Lib.hid (fun V => scompare_any (aldT x.d) (aldT y.d) V)
  have HR := Lib.hid (fun V => scompare_any (alrT x.r) (alrT y.r) V)
  have HC := Lib.hid (fun V => compare_any x.at_ y.at_ V)
  show Calls Tryz.prog 54 #[.agg #[.int .i64 x.at_, .string (aldT x.d), .string (alrT x.r), .string (tmT x.t), .string (alwT x.b), .int .i64 x.k], .agg #[.int .i64 y.at_, .string (aldT y.d), .string (alrT y.r), .string (tmT y.t), .string (alwT y.b), .int .i64 y.k]] w _
  unfold cfN cbT
  generalize Lib.compareBytes (aldT x.d).data.toList (aldT y.d).data.toList = r1 at HD ⊢
  generalize Lib.compareBytes (alrT x.r).data.toList (alrT y.r).data.toList = r2 at HR ⊢
  generalize cmpI x.at_ y.at_ = r0 at HC ⊢
  obtain ⟨x0, xd, xr, xt, xb, x5⟩ := x
  obtain ⟨y0, yd, yr, yt, yb, y5⟩ := y
  simp only at HC HD HR ⊢
  generalize aldT xd = x1 at HD ⊢
  generalize aldT yd = y1 at HD ⊢
  generalize alrT xr = x2 at HR ⊢
  generalize alrT yr = y2 at HR ⊢
  generalize tmT xt = x3
  generalize tmT yt = y3
  generalize alwT xb = x4
  generalize alwT yb = y4
  go_enter Tryz.func54, Tryz.ntmps54
  go_wp2_with (fail)
  generalize hW : ((w.alloc (.cells #[.int .i64 x0, .string x1, .string x2, .string x3, .string x4, .int .i64 x5] 44)).alloc (.cells #[.int .i64 y0, .string y1, .string y2, .string y3, .string y4, .int .i64 y5] 44)) = W
  have hG : W = grow (w.drewN 0) #[.cells #[.int .i64 x0, .string x1, .string x2, .string x3, .string x4, .int .i64 x5] 44, .cells #[.int .i64 y0, .string y1, .string y2, .string y3, .string y4, .int .i64 y5] 44] := by rw [← hW, alloc_eq_grow, alloc_eq_grow, grow_grow]; rfl
  have hx : W.heap[w.heap.size]? = some (.cells #[.int .i64 x0, .string x1, .string x2, .string x3, .string x4, .int .i64 x5] 44) := by
    rw [← hW, Below.heap_alloc _ _ _ (by simp)]; exact heap_new w _
  have hy : W.heap[w.heap.size + 1]? = some (.cells #[.int .i64 y0, .string y1, .string y2, .string y3, .string y4, .int .i64 y5] 44) := by
    rw [← hW]; have := heap_new (w.alloc (.cells #[.int .i64 x0, .string x1, .string x2, .string x3, .string x4, .int .i64 x5] 44)) (.cells #[.int .i64 y0, .string y1, .string y2, .string y3, .string y4, .int .i64 y5] 44); simpa using this
  have p0 : W.cell? ⟨w.heap.size, 0, none⟩ = some (.int .i64 x0) := cell_of_blk hx rfl
  have p1 : W.cell? ⟨w.heap.size, 1, none⟩ = some (.string x1) := cell_of_blk hx rfl
  have p2 : W.cell? ⟨w.heap.size, 2, none⟩ = some (.string x2) := cell_of_blk hx rfl
  have q0 : W.cell? ⟨w.heap.size + 1, 0, none⟩ = some (.int .i64 y0) := cell_of_blk hy rfl
  have q1 : W.cell? ⟨w.heap.size + 1, 1, none⟩ = some (.string y1) := cell_of_blk hy rfl
  have q2 : W.cell? ⟨w.heap.size + 1, 2, none⟩ = some (.string y2) := cell_of_blk hy rfl
  have HG := Lib.hid hG
  clear hW hx hy hG
  refine wp_region_still_tail 15 (by kernel_rfl) (by kernel_rfl) ?_
  simp only [List.take_succ_cons, List.take_zero, List.drop_succ_cons, List.drop_zero]
  change wpStill _ _ W.drew _ _ _
  repeat still_step
  still_call (flip_ (HC.out _))
  repeat still_step
  still_call (flip_ (HD.out _))
  repeat still_step
  still_call (flip_ (HR.out _))
  try refine wpStill_nil ?_
  have hsz' : W.drew.heap.size = W.heap.size := rfl
  go_wp2_with (fail)
  have hcs : Cells (W.alloc (.cells #[.int .i64 r0, .int .i64 r1, .int .i64 r2] 3)).drew W.heap.size 0 ([r0, r1, r2].map (Value.int .i64)) := Cells.new W #[.int .i64 r0, .int .i64 r1, .int .i64 r2] 3 (0, 0) _ rfl
  refine (or_any [r0, r1, r2] 3 3 W.heap.size _ rfl (by omega) hcs).mono ?_
  rintro e w' ⟨rfl, rfl⟩
  go_wp2_with (fail)
  go_ret
  refine ⟨rfl, 1, #[.cells #[.int .i64 x0, .string x1, .string x2, .string x3, .string x4, .int .i64 x5] 44, .cells #[.int .i64 y0, .string y1, .string y2, .string y3, .string y4, .int .i64 y5] 44] ++ #[.cells #[.int .i64 r0, .int .i64 r1, .int .i64 r2] 3], ?_⟩
  rw [HG.out, alloc_eq_grow, grow_grow]
  rfl
theorem bitsLenN (n : Nat) (W : World) (h : n ≤ 12) : Calls Tryz.prog (layNt_ren.f 15) #[.int .u64 n] W fun e w' => (∃ l : Int, e = .returned (.int .i64 l)) ∧ w' = W :=
  (Any.bits_Len (SlLaysF0.n15.bits (P := Tryz.prog) (ρ := layNt_ren) { layNt with }) n W (by omega) (by omega)).mono fun _ _ ⟨he, hw⟩ => ⟨⟨_, he⟩, hw⟩
theorem insN_none (p : Option Addr) (cap : Nat) (fv : Value) (w : World) : Calls Tryz.prog 141 #[.slice p 0 cap, .int .i64 0, .int .i64 0, fv] w fun e w' => e = .returned (.tuple #[]) ∧ w' = w := by
  go_enter Tryz.func141, Tryz.ntmps141
  go_wp2_with (fail)
  refine wp_loop_rounds 1 ?_
  rw [rounds_succ]
  go_wp2_with (fail)
  go_end0
  exact ⟨rfl, rfl⟩
theorem pdqN_none (p : Option Addr) (cap : Nat) (lim : Int) (fv : Value) (w : World) : Calls Tryz.prog 97 #[.slice p 0 cap, .int .i64 0, .int .i64 0, .int .i64 lim, fv] w fun e w' => e = .returned (.tuple #[]) ∧ w' = w := by
  go_enter Tryz.func97, Tryz.ntmps97
  go_wp2_with (fail)
  refine wp_loop_rounds 1 ?_
  rw [rounds_succ]
  go_wp2_with (go_at_call 141; refine (insN_none _ _ _ _).mono ?_; rintro e w' ⟨rfl, rfl⟩)
  (try simp only [Exit.inBlock, Exit.then]); refine bodyPost_ret (results_none rfl _ _ _) rfl ?_
  exact ⟨rfl, rfl⟩
theorem sortN_none (p : Option Addr) (cap : Nat) (fv : Value) (w : World) : Calls Tryz.prog 53 #[.slice p 0 cap, fv] w fun e w' => e = .returned (.tuple #[]) ∧ w' = w := by
  have hl := fun W => bitsLenN 0 W (by omega)
  change ∀ W, Calls Tryz.prog 98 _ W _ at hl
  go_enter Tryz.func53, Tryz.ntmps53
  go_wp2_with (first | (go_at_call 98; refine (hl _).mono ?_; rintro e w' ⟨⟨l, rfl⟩, rfl⟩) | (go_at_call 97; refine (pdqN_none _ _ _ _ _).mono ?_; rintro e w' ⟨rfl, rfl⟩))
  go_end0
  exact ⟨rfl, rfl⟩
def SortNPost (l : List Nt) (n base : Nat) (v : Value) (w : World) (e : Ending) (w' : World) : Prop :=
  e = .returned (.tuple #[]) ∧ ∃ m : List Nt, m.Perm l ∧ m.length = n ∧ w'.ownsRow base 44 6 v n (recs ntC m) ∧ w.grownBy w' v.ownBlock
theorem sortN_any (l : List Nt) (n c base : Nat) (A : Option Addr) (w : World) (hn : l.length = n) (h12 : n ≤ 100000) (ho : w.ownsRow base 44 6 (.slice A n c) n (recs ntC l)) :
    Calls Tryz.prog 53 #[.slice A n c, .func (.func 54) #[] #[]] w fun e w' => SortNPost l n base (.slice A n c) w e w' := by
  rcases own_two ho with ⟨rfl, rfl, rfl⟩ | ⟨b, rfl, hb, hlt⟩
  · refine (sortN_none none 0 _ w).mono ?_
    rintro e w' ⟨rfl, rfl⟩
    have hl := List.eq_nil_of_length_eq_zero hn
    subst hl
    exact ⟨rfl, [], List.Perm.refl _, rfl, ho, grown_refl _ _⟩
  · have eg : ∀ args w, (callFunc 54 args).run Tryz.prog w = .ok (.enter 54 args) w := enters_of Tryz.func54 (by kernel_rfl) rfl
    have hcmp : CmpLays Tryz.prog 54 #[] ntC 6 cfN b 0 l.toArray.size w := fun m os dk _ x y => orderN_grow x y _
    have h := AnyQ.slices_SortFunc layNt 6 Tryz.isAgg44 Tryz.sizeOf44 ntC ntC_len ntC_one cfN swoN 54 #[] b 0 c l.toArray w eg hcmp (holdsK_of_own ntC_len ho hn) hlt (by simp [hn]; omega)
    have hsz : l.toArray.size = n := by simpa using hn
    rw [hsz] at h
    refine h.mono ?_
    rintro e w' ⟨rfl, d', q, os, hp, hs, rfl⟩
    rw [← hsz] at hp hs
    obtain ⟨h1, h2, h3⟩ := sorted_list hp hs
    obtain ⟨m, rfl⟩ : ∃ m : List Nt, d' = m.toArray := ⟨d'.toList, by simp⟩
    exact ⟨rfl, m, by simpa using h1, by simpa [hn] using h2, own_sortedK ntC_len ho (by simpa [hn] using h2) q os, grown_sortedK _⟩
end Go.Proofs.YtldohjamiofkpaaGreatDoor

/- RefusedCanGo: the plain law; no program in sight. -/
namespace Go.Proofs.YtldohjamiofkpaaGreatDoor

/-- Why the signal at a place is refused; 0: it is followed. -/
def whyAt (l : List Sg) (i : Nat) (s : Sg) : Int := (followL (lifeAt (l.take i) alEnd (s.d, s.r)) s).2
def refU (l : List Sg) : Nat → List (Nat × Int)
  | 0 => []
  | k + 1 => refU l k ++ (match l[k]? with | some s => if whyAt l k s = 0 then [] else [(k, whyAt l k s)] | none => [])
def keepU (l : List Sg) : Nat → List Sg
  | 0 => []
  | k + 1 => keepU l k ++ (match l[k]? with | some s => if whyAt l k s = 0 then [s] else [] | none => [])
theorem refU_some {l : List Sg} {k : Nat} {s : Sg} (h : l[k]? = some s) : refU l (k + 1) = refU l k ++ (if whyAt l k s = 0 then [] else [(k, whyAt l k s)]) := by
  simp only [refU, h]
theorem keepU_some {l : List Sg} {k : Nat} {s : Sg} (h : l[k]? = some s) : keepU l (k + 1) = keepU l k ++ (if whyAt l k s = 0 then [s] else []) := by
  simp only [keepU, h]
theorem refU_lt {l : List Sg} {k : Nat} {z : Nat × Int} (h : z ∈ refU l k) : z.1 < k := by
  induction k with
  | zero => cases h
  | succ k ih =>
    simp only [refU, List.mem_append] at h
    rcases h with h | h
    · have := ih h; omega
    · split at h
      · split at h
        · cases h
        · rw [List.mem_singleton] at h; subst h; exact Nat.lt_succ_self _
      · cases h
theorem mem_refU {l : List Sg} {k i : Nat} {s : Sg} (hs : l[i]? = some s) (hi : i < k) : (∃ z ∈ refU l k, z.1 = i) ↔ whyAt l i s ≠ 0 := by
  induction k with
  | zero => omega
  | succ k ih =>
    simp only [refU]
    by_cases hk : i = k
    · subst hk
      rw [hs]
      constructor
      · rintro ⟨z, hz, e⟩
        rcases List.mem_append.1 hz with hz | hz
        · have := refU_lt hz; omega
        · simp only at hz
          split at hz
          · cases hz
          · assumption
      · intro h
        exact ⟨(i, whyAt l i s), List.mem_append_right _ (by simp only; rw [if_neg h]; simp), rfl⟩
    · rw [← ih (by omega)]
      constructor
      · rintro ⟨z, hz, e⟩
        rcases List.mem_append.1 hz with hz | hz
        · exact ⟨z, hz, e⟩
        · exfalso
          split at hz
          · split at hz
            · cases hz
            · rw [List.mem_singleton] at hz; subst hz; exact hk e.symm
          · cases hz
      · rintro ⟨z, hz, e⟩
        exact ⟨z, List.mem_append_left _ hz, e⟩
theorem refused_same {L : Lf} {s : Sg} (h : (followL L s).2 ≠ 0) : (followL L s).1 = L := by
  unfold followL at h ⊢
  split
  · split
    · rfl
    · rename_i h1 h2; rw [if_pos h1, if_neg h2] at h; exact absurd rfl h
  · rename_i h1
    rw [if_neg h1] at h
    split
    · rename_i h2
      rw [if_pos h2] at h
      split
      · rename_i h3; rw [if_pos h3] at h; exact absurd rfl h
      · rename_i h3
        rw [if_neg h3] at h
        split
        · rename_i h4; rw [if_pos h4] at h; exact absurd rfl h
        · rfl
    · rename_i h2
      rw [if_neg h2] at h
      split
      · rename_i h3
        rw [if_pos h3] at h
        split
        · rename_i h4; rw [if_pos h4] at h; exact absurd rfl h
        · rename_i h4
          rw [if_neg h4] at h
          split
          · rename_i h5; rw [if_pos h5] at h; exact absurd rfl h
          · rfl
      · rename_i h3
        rw [if_neg h3] at h
        split
        · rename_i h4
          rw [if_pos h4] at h
          split
          · rfl
          · rename_i h5; rw [if_neg h5] at h; exact absurd rfl h
        · rename_i h4
          rw [if_neg h4] at h
          split
          · rfl
          · rename_i h5; rw [if_neg h5] at h; exact absurd rfl h
theorem SgsOk.le_at {l : List Sg} (h : SgsOk l) {k : Nat} {s : Sg} (hs : l[k]? = some s) : ∀ q ∈ l.take k, q.at_ ≤ s.at_ := by
  intro q hq
  obtain ⟨i, hi, rfl⟩ := List.getElem_of_mem hq
  obtain ⟨hk, rfl⟩ := List.getElem?_eq_some_iff.1 hs
  rw [List.length_take] at hi
  rw [List.getElem_take]
  have := (List.pairwise_iff_getElem.1 h.2) i k (by omega) (by omega) (by omega)
  unfold SgL at this
  omega
theorem lifeAt_keep {l : List Sg} (h : SgsOk l) (t : Int) (n : Nm2) : ∀ k, k ≤ l.length → lifeAt (keepU l k) t n = lifeAt (l.take k) t n := by
  intro k
  induction k with
  | zero => intro _; rfl
  | succ k ih =>
    intro hk
    have hx : l[k]? = some l[k] := List.getElem?_eq_getElem (by omega)
    obtain ⟨s, es⟩ : ∃ s, s = l[k] := ⟨_, rfl⟩
    rw [← es] at hx
    have he : l.take (k + 1) = l.take k ++ [s] := by rw [List.take_add_one, hx]; rfl
    rw [keepU_some hx, he, lifeAt_snoc]
    by_cases hw : whyAt l k s = 0
    · rw [if_pos hw, lifeAt_snoc, ih (by omega)]
    · rw [if_neg hw, List.append_nil, ih (by omega)]
      unfold lifeStep
      split
      · rename_i hn
        obtain ⟨hn, hat⟩ := hn
        have hle := h.le_at hx
        have hr := h.1 s (List.mem_of_getElem? hx)
        have e : lifeAt (l.take k) t n = lifeAt (l.take k) alEnd n := lifeAt_all (fun q hq => by have := hle q hq; omega) (fun q hq => by have := hle q hq; have := hr.at1; unfold alEnd; omega)
        rw [e]
        unfold whyAt at hw
        rw [hn] at hw
        exact (refused_same hw).symm
      · rfl
theorem keepU_sub (l : List Sg) : ∀ k, (keepU l k).Sublist (l.take k) := by
  intro k
  induction k with
  | zero => exact List.Sublist.refl _
  | succ k ih =>
    cases hx : l[k]? with
    | none =>
      have : keepU l (k + 1) = keepU l k := by simp [keepU, hx]
      rw [this, List.take_add_one, hx]
      simpa using ih
    | some s =>
      rw [keepU_some hx, List.take_add_one, hx]
      refine List.Sublist.append ih ?_
      split
      · exact List.Sublist.refl _
      · exact List.nil_sublist _
theorem keepU_ok {l : List Sg} (h : SgsOk l) (k : Nat) : SgsOk (keepU l k) :=
  have hs := (keepU_sub l k).trans (List.take_sublist k l)
  ⟨fun s hm => h.1 s (hs.subset hm), h.2.sublist hs⟩
theorem why_keep {l : List Sg} (h : SgsOk l) : ∀ k, k ≤ l.length → ∀ j s, (keepU l k)[j]? = some s → whyAt (keepU l k) j s = 0 := by
  intro k
  induction k with
  | zero => intro _ j s hs; simp [keepU] at hs
  | succ k ih =>
    intro hk j s hs
    have hx : l[k]? = some l[k] := List.getElem?_eq_getElem (by omega)
    obtain ⟨u, eu⟩ : ∃ u, u = l[k] := ⟨_, rfl⟩
    rw [← eu] at hx
    rw [keepU_some hx] at hs ⊢
    by_cases hw : whyAt l k u = 0
    · rw [if_pos hw] at hs ⊢
      rcases Nat.lt_or_ge j (keepU l k).length with hj | hj
      · rw [List.getElem?_append_left hj] at hs
        have := ih (by omega) j s hs
        unfold whyAt at this ⊢
        rw [List.take_append_of_le_length (by omega)]
        exact this
      · rw [List.getElem?_append_right hj] at hs
        have hj0 : j - (keepU l k).length = 0 := by
          have := (List.getElem?_eq_some_iff.1 hs).1
          simp at this; omega
        rw [hj0] at hs
        obtain rfl : u = s := by simpa using hs
        have hjl : j = (keepU l k).length := by omega
        unfold whyAt at hw ⊢
        rw [hjl, List.take_left, lifeAt_keep h _ _ k (by omega)]
        exact hw
    · rw [if_neg hw, List.append_nil] at hs ⊢
      exact ih (by omega) j s hs
theorem refU_keep {l : List Sg} (h : SgsOk l) : ∀ m, refU (keepU l l.length) m = [] := by
  intro m
  induction m with
  | zero => rfl
  | succ m ih =>
    cases hx : (keepU l l.length)[m]? with
    | none => simp [refU, hx, ih]
    | some s => rw [refU_some hx, ih, if_pos (why_keep h _ (Nat.le_refl _) m s hx)]; rfl
/-- The names in order. -/
def al6 : List Nm2 := [(0, 0), (0, 1), (1, 0), (1, 1), (2, 0), (2, 1)]
def amsL (l : List Sg) (t : Int) : List Am := (al6.map fun n => viewL (lifeAt l t n) t).filter shownA
theorem amsL_keep {l : List Sg} (h : SgsOk l) (t : Int) : amsL (keepU l l.length) t = amsL l t := by
  unfold amsL
  have : (fun n => viewL (lifeAt (keepU l l.length) t n) t) = fun n => viewL (lifeAt l t n) t := by
    funext n
    rw [lifeAt_keep h t n _ (Nat.le_refl _), List.take_length]
  rw [this]
theorem strict_eq {α : Type} (f : α → Nat) : ∀ (a b : List α), a.Pairwise (fun x y => f x < f y) → b.Pairwise (fun x y => f x < f y) → (∀ x, x ∈ a ↔ x ∈ b) → a = b
  | [], [], _, _, _ => rfl
  | [], y :: b, _, _, h => by have := (h y).2 List.mem_cons_self; cases this
  | x :: a, [], _, _, h => by have := (h x).1 List.mem_cons_self; cases this
  | x :: a, y :: b, ha, hb, h => by
    obtain ⟨ha1, ha2⟩ := List.pairwise_cons.1 ha
    obtain ⟨hb1, hb2⟩ := List.pairwise_cons.1 hb
    have hxy : x = y := by
      rcases List.mem_cons.1 ((h x).1 List.mem_cons_self) with e | e
      · exact e
      · rcases List.mem_cons.1 ((h y).2 List.mem_cons_self) with e' | e'
        · exact e'.symm
        · have := ha1 y e'
          have := hb1 x e
          omega
    subst hxy
    congr 1
    refine strict_eq f a b ha2 hb2 fun z => ⟨fun hz => ?_, fun hz => ?_⟩
    · rcases List.mem_cons.1 ((h z).1 (List.mem_cons_of_mem _ hz)) with e | e
      · subst e; have := ha1 z hz; omega
      · exact e
    · rcases List.mem_cons.1 ((h z).2 (List.mem_cons_of_mem _ hz)) with e | e
      · subst e; have := hb1 z hz; omega
      · exact e
theorem mem_al6 {n : Nm2} (h : NmOk n) : n ∈ al6 := by
  obtain ⟨a, b⟩ := n
  obtain ⟨h1, h2⟩ := h
  simp only at h1 h2
  have ha : a = 0 ∨ a = 1 ∨ a = 2 := by omega
  have hb : b = 0 ∨ b = 1 := by omega
  rcases ha with h | h | h <;> subst h <;> rcases hb with h | h <;> subst h <;> decide
theorem shown_new (d r : Nat) (t : Int) (ht : 0 ≤ t) : shownA (viewL (newL d r) t) = false := by
  have h0 : ¬ t < (newL d r).sh := by show ¬ t < 0; omega
  unfold shownA viewL
  rw [if_neg h0]
  rfl
/-- A house's names in their order are all that may be shown. -/
theorem order_shown {l : List Sg} {t : Int} (ht : 0 ≤ t) {K : List Nm2} (hp : ∀ n, n ∈ K ↔ n ∈ namesOf l) (hok : ∀ n ∈ K, NmOk n) (hs : K.Pairwise (fun a b => rkN a ≤ rkN b)) (hn : K.Pairwise (fun a b => a ≠ b)) :
    (K.map fun n => viewL (lifeAt l t n) t).filter shownA = amsL l t := by
  have hst : K.Pairwise (fun a b => rkN a < rkN b) := by
    rw [List.pairwise_iff_getElem] at hs hn ⊢
    intro i j hi hj hij
    have h1 := hs i j hi hj hij
    have h2 := hn i j hi hj hij
    have o1 := hok _ (List.getElem_mem hi)
    have o2 := hok _ (List.getElem_mem hj)
    rcases Nat.lt_or_eq_of_le h1 with h | h
    · exact h
    · exfalso
      apply h2
      unfold rkN at h
      unfold NmOk at o1 o2
      exact Prod.ext (by omega) (by omega)
  have hK : K = al6.filter (fun n => decide (n ∈ namesOf l)) := by
    refine strict_eq rkN _ _ hst (List.Pairwise.sublist List.filter_sublist (by decide)) fun n => ?_
    rw [List.mem_filter, hp]
    refine ⟨fun h => ⟨mem_al6 (hok n ((hp n).2 h)), by simpa using h⟩, fun h => by simpa using h.2⟩
  rw [hK]
  unfold amsL
  generalize al6 = L6
  induction L6 with
  | nil => rfl
  | cons n L ih =>
    by_cases hm : n ∈ namesOf l
    · rw [List.filter_cons_of_pos (by simpa using hm), List.map_cons, List.map_cons, List.filter_cons, List.filter_cons, ih]
    · rw [List.filter_cons_of_neg (by simpa using hm), List.map_cons, List.filter_cons, lifeAt_none hm, shown_new _ _ _ ht, ih]
      rfl
end Go.Proofs.YtldohjamiofkpaaGreatDoor

/- alarm.Alarms by its contract. -/
namespace Go.Proofs.YtldohjamiofkpaaGreatDoor
open Go.RowKit Go.Shelf

theorem Tryz.infoAm : (Tryz.prog.info? 46).map (fun i => (i.zero, i.size, i.bytes)) = some (some (.agg #[.string ⟨#[]⟩, .string ⟨#[]⟩, .int .i64 0, .int .i64 0, .int .i64 0, .int .i64 0]), 6, 64) := by kernel_rfl
theorem amC_len (a : Am) : (amC a).length = 6 := rfl
theorem amC_one (a : Am) : ∀ u ∈ amC a, u.oneCell' = true := by
  intro u hu
  simp only [amC, List.mem_cons, List.not_mem_nil, or_false] at hu
  rcases hu with rfl | rfl | rfl | rfl | rfl | rfl <;> rfl
theorem namesOf_len (l : List Sg) : (namesOf l).length ≤ l.length := by
  have key : ∀ (l : List Sg) (ns : List Nm2), (l.foldl (fun ns s => addN ns (s.d, s.r)) ns).length ≤ ns.length + l.length := by
    intro l
    induction l with
    | nil => intro ns; exact Nat.le_refl _
    | cons s l ih =>
      intro ns
      rw [List.foldl_cons, List.length_cons]
      have h1 := ih (addN ns (s.d, s.r))
      have h2 : (addN ns (s.d, s.r)).length ≤ ns.length + 1 := by
        unfold addN
        split
        · omega
        · simp
      omega
  have := key l []
  simpa [namesOf] using this
/-- What a house says of its order. -/
theorem house_order {w' : World} {B hs m : Nat} {o : List Nat} {M : List Mb} {l : List Sg} {F : Nm2 → Lf} (hI : HsI w' B hs m o M) (ho : OrdE (mbE M) o) (hnm : M.map (·.n) = namesOf l) (hL : ∀ y ∈ M, y.L = F y.n) :
    ∃ E : List (Nm2 × Nat), o = E.map (·.2) ∧ (∀ n, n ∈ E.map (·.1) ↔ n ∈ namesOf l) ∧ (∀ n ∈ E.map (·.1), NmOk n) ∧ (E.map (·.1)).Pairwise (fun a b => rkN a ≤ rkN b) ∧ (E.map (·.1)).Pairwise (fun a b => a ≠ b) ∧ ∀ p ∈ E, ∃ v, LfI w' p.2 (F p.1) v := by
  obtain ⟨E, h1, h2, h3⟩ := ho
  have hk : (E.map (·.1)).Perm (M.map (·.n)) := by
    have := h1.map (·.1)
    rwa [show (mbE M).map (·.1) = M.map (·.n) from by simp [mbE, Function.comp_def]] at this
  refine ⟨E, h3, fun n => by rw [hk.mem_iff, hnm], fun n hn => ?_, List.pairwise_map.2 h2, ?_, fun p hp => ?_⟩
  · obtain ⟨y, hy, rfl⟩ := List.mem_map.1 (hk.mem_iff.1 hn)
    exact (hI.each y hy).2.1
  · exact hk.symm.pairwise (List.pairwise_map.2 hI.names) (fun h => Ne.symm h)
  · have := h1.mem_iff.1 hp
    simp only [mbE, List.mem_map] at this
    obtain ⟨y, hy, rfl⟩ := this
    exact ⟨y.v, by have := (hI.each y hy).1; rw [hL y hy] at this; exact this⟩
theorem own_base9 {w : World} {b b' : Nat} {e : TypeId} {size n : Nat} {v : Value} {xs : List Value} (h : w.ownsRow b e size v n xs) (hb : b' ≤ b) : w.ownsRow b' e size v n xs := by
  refine ⟨h.1, ?_⟩
  rcases h.2 with h | ⟨g, cap, cur, hv, hg, r⟩
  · exact .inl h
  · exact .inr ⟨g, cap, cur, hv, Nat.le_trans hb hg, r⟩
def AmsP (w : World) (L : List Am) (e : Ending) (w' : World) : Prop := ∃ A c, e = .returned (.tuple #[.slice A L.length c, .int .i64 0]) ∧ w'.ownsRow w.heap.size 46 6 (.slice A L.length c) L.length (recs amC L) ∧ Below w.heap.size w w'
theorem filter_snocA (E : List (Nm2 × Nat)) (V : Nm2 → Am) {i : Nat} {p : Nm2 × Nat} (h : E[i]? = some p) : ((E.take (i + 1)).map (fun q => V q.1)).filter shownA = ((E.take i).map (fun q => V q.1)).filter shownA ++ (if shownA (V p.1) then [V p.1] else []) := by
  rw [List.take_add_one, h, List.map_append, List.filter_append]
  simp only [Option.toList, List.map_cons, List.map_nil]
  cases hs : shownA (V p.1) <;> simp [hs]
set_option maxRecDepth 100000 in
set_option maxHeartbeats 4000000 in
theorem alarms_any (l : List Sg) (n c : Nat) (t : Int) (A : Option Addr) (w : World) (hl : SgsOk l) (hn : l.length = n) (hn2 : n ≤ 1000) (hr : Row w w.heap.size A (recs sgC l)) (ht0 : 0 ≤ t) (ht1 : t < 345686400000) :
    Calls Tryz.prog 19 #[.slice A n c, .int .i64 t] w fun e w' => AmsP w (amsL l t) e w' := by
  obtain ⟨i0, hi0, hz0, hz1, hz2⟩ := info_parts Tryz.infoAm
  have HC := Lib.hid (checkSignals_any l n c A w hl hn hn2 hr)
  have HA := Lib.hid (fun (V : World) (hV : Below w.heap.size w V) => at_any l n c t A V hn (by omega) ((hr.below hV).mono hV.size) (fun s hs => (hl.1 s hs).v))
  have HT := Lib.hid (And.intro ht0 ht1)
  have HLN := Lib.hid hn
  clear hl hn hr ht0 ht1
  go_enter Tryz.func19, Tryz.ntmps19
  go_wp2_with (fail)
  refine HC.out.mono ?_
  rintro e w1 ⟨rfl, hB1⟩
  have HB1 := Lib.hid hB1
  clear hB1
  go_wp2_with (go_at_call 56; refine (moment_yes _ _ HT.out.1 HT.out.2).mono ?_; rintro e w' ⟨rfl, rfl⟩)
  refine (HA.out w1 HB1.out).mono ?_
  rintro e w2 ⟨hs, m, o, M, rfl, hI, hord, hnm, hL, hB2⟩
  obtain ⟨E, eo, hE1, hE2, hE3, hE4, hE5⟩ := house_order hI hord hnm hL
  have HFIN := Lib.hid (show ((E.map fun p => viewL (lifeAt l t p.1) t).filter shownA) = amsL l t from by
    rw [← order_shown HT.out.1 hE1 hE2 hE3 hE4, List.map_map]; rfl)
  obtain ⟨Ao, co, hbo, hoo⟩ := hI.blk
  have hMl : M.length = E.length := by
    have h1 := hI.perm.length_eq
    rw [eo, List.length_map, List.length_map] at h1
    exact h1.symm
  have hcap : E.length ≤ 1000 := by
    have h1 : M.length = (namesOf l).length := by rw [← hnm, List.length_map]
    have h2 := namesOf_len l
    have := HLN.out
    omega
  obtain ⟨q, eq⟩ : ∃ q, q = E.length := ⟨_, rfl⟩
  rw [hMl, ← eq] at hbo hoo
  rw [eo] at hoo
  rw [← eq] at hcap
  have hc1 := cell_of_blk (j := 1) hbo rfl
  have hhl := (Array.getElem?_eq_some_iff.1 hbo).1
  have HB2 := Lib.hid (HB1.out.trans (hB2.mono HB1.out.size))
  have HE5 := Lib.hid hE5
  have HQ := Lib.hid eq.symm
  have HOO := Lib.hid hoo
  clear hI hord hnm hL hB2 eo hE1 hE2 hE3 hE4 hE5 hbo hoo hMl eq
  go_wp2_with (fail)
  go_loopw [7, 27] (fun v s wr => ∃ (i : Nat), i ≤ q ∧ s = .int .i64 (i : Int) ∧ w2.grownBy wr none ∧ wr.ownsRow w2.heap.size 46 6 v (((E.take i).map fun p => viewL (lifeAt l t p.1) t).filter shownA).length (recs amC (((E.take i).map fun p => viewL (lifeAt l t p.1) t).filter shownA))) (fun _ s _ => q - (intOf s).toNat)
  case atStart => exact ⟨0, by omega, rfl, grown_refl _ _, World.ownsRow_nil _ _ _ _⟩
  case round =>
    obtain ⟨i, hin, rfl, hgr, hown⟩ := hrel
    have HG := Lib.hid hgr
    have hbs := hgr.size
    have hbr : Below w2.heap.size w2 wr := ⟨hgr.os, hgr.tape, hgr.output, hgr.size, fun b hb => hgr.block b hb (by simp)⟩
    have HB := Lib.hid hbr
    obtain ⟨R, eR⟩ : ∃ R, R = ((E.take i).map fun p => viewL (lifeAt l t p.1) t).filter shownA := ⟨_, rfl⟩
    rw [← eR] at hown
    obtain ⟨r, er⟩ : ∃ r, r = R.length := ⟨_, rfl⟩
    rw [← er] at hown
    have hrl : r ≤ 1000 := by
      rw [er, eR]
      refine Nat.le_trans (List.length_filter_le _ _) ?_
      rw [List.length_map, List.length_take]
      omega
    have HO := Lib.hid hown
    have HR := Lib.hid (And.intro eR er)
    clear hgr hbr hown eR er
    by_cases hlt : i < q
    · have hltI : (i : Int) < q := by omega
      obtain ⟨p, hp⟩ : ∃ p, E[i]? = some p := ⟨_, List.getElem?_eq_getElem (by have := HQ.out; omega)⟩
      obtain ⟨v, hv⟩ := HE5.out p (List.mem_of_getElem? hp)
      obtain ⟨g, rfl, hgb, hglt⟩ : ∃ g, Ao = some ⟨g, 0, none⟩ ∧ w1.heap.size ≤ g ∧ g < w2.heap.size := by
        rcases own_two HOO.out with ⟨_, h0, _⟩ | ⟨g, h1, h2, h3⟩
        · omega
        · exact ⟨g, h1, h2, h3⟩
      have hci := own_cells0 HOO.out i (lfP p.2) (by rw [List.getElem?_map, List.getElem?_map, hp]; rfl)
      rw [Nat.zero_add] at hci
      have d0 := (HB.out.cell (p := ⟨g, i, none⟩) hglt).trans hci
      have HV := Lib.hid (view_any p.2 t _ v wr (hv.below HB.out))
      have HSN := Lib.hid (filter_snocA E (fun n => viewL (lifeAt l t n) t) hp)
      have hgl : g < wr.heap.size := by omega
      unfold lfP at d0
      obtain ⟨x, ex⟩ : ∃ x, x = p.2 := ⟨_, rfl⟩
      obtain ⟨a, ea⟩ : ∃ a, a = viewL (lifeAt l t p.1) t := ⟨_, rfl⟩
      rw [← ex] at d0 HV
      unfold ViewPost at HV
      rw [← ea] at HV HSN
      obtain ⟨sh, esh⟩ : ∃ sh, sh = shownA a := ⟨_, rfl⟩
      rw [← esh] at HV HSN
      clear hci hv hp ex ea esh
      go_wp2_with (fail)
      refine HV.out.mono ?_
      rintro e w3 ⟨rfl, hb3⟩
      have HB3 := Lib.hid hb3
      have HO3 := Lib.hid (own_belowP HO.out hb3)
      have HG3 := Lib.hid (grown_more HG.out (grown_belowP (r := none) hb3) (by simp))
      have hs3 := hb3.size
      clear hb3 d0
      unfold amC
      go_upto_region 11 with (fail)
      obtain ⟨g7, eg⟩ : ∃ g, g = w3.heap.size := ⟨_, rfl⟩
      obtain ⟨w4, e4⟩ : ∃ w4, w4 = w3.alloc (.cells #[.string (aldT a.d), .string (alrT a.r), .int .i64 a.st, .int .i64 a.si, .int .i64 a.n, .int .i64 a.sh] 46) := ⟨_, rfl⟩
      rw [← eg, ← e4]
      have hg4 : w4.heap[g7]? = some (.cells #[.string (aldT a.d), .string (alrT a.r), .int .i64 a.st, .int .i64 a.si, .int .i64 a.n, .int .i64 a.sh] 46 (0, 0)) := by rw [e4, eg]; exact heap_new w3 _
      have hB4 : Below w3.heap.size w3 w4 := by rw [e4]; exact (Below.refl _ _).alloc (Nat.le_refl _) _
      have hlt4 : g7 < w4.heap.size := by rw [e4, eg]; simp
      have hs4 := hB4.size
      have HO4 := Lib.hid (own_belowP HO3.out hB4)
      have HG4 := Lib.hid (grown_more HG3.out (grown_belowP (r := none) hB4) (by simp))
      obtain ⟨q0, q1, q2, q3, q4, q5⟩ := box6 hg4
      clear eg e4 hg4 hB4
      cases sh
      case false =>
        have HN := Lib.hid (show ((E.take (i + 1)).map fun p => viewL (lifeAt l t p.1) t).filter shownA = R from by rw [HSN.out, ← HR.out.1]; simp)
        go_wp2_with (fail)
        go_roundw
        case rel => exact ⟨i + 1, by omega, by simp, HG4.out, by rw [HN.out, ← HR.out.2]; exact HO4.out⟩
        case measure => simp [intOf]; omega
      case true =>
        have HN := Lib.hid (show ((E.take (i + 1)).map fun p => viewL (lifeAt l t p.1) t).filter shownA = R ++ [a] from by rw [HSN.out, ← HR.out.1]; simp)
        go_wp2_with (at_builtin; refine wpList_append_own2 _ rfl _ _ 63 rfl w2.heap.size 46 i0 _ 6 64 Tryz.underlying63 hi0 hz0 hz1 hz2 rfl (by decide) _ _ _ rfl (HO4.out.alloc _) ⟨_, 0, none⟩ 1 1 (amC a) rfl rfl ?c1 ?c2 ?c3 ?c4 ?c5 ?_)
        case c1 => first | exact cells_add (cells_atF (by rfl) (by first | rfl | simp)) | exact fun j u h => h
        case c2 => exact amC_one _
        case c3 => unfold maxLen; omega
        case c4 => omega
        case c5 => first | omega | (simp; omega)
        intro v9 w9 ho9 hg9 hm9
        have hlo : ∀ k, u7.ownBlock = some k → w2.heap.size ≤ k := fun k hk => (HO4.out.lt k hk).1
        have HG9 := Lib.hid (grown_more (grown_more HG4.out (World.grownBy_alloc _ _ none) (by simp)) hg9 hlo)
        have HO9 := Lib.hid ho9
        clear ho9 hg9 hm9 hlo
        go_wp2_with (fail)
        go_roundw
        case rel => exact ⟨i + 1, by omega, by simp, HG9.out, by rw [HN.out, recs_snoc, List.length_append, ← HR.out.2]; exact HO9.out⟩
        case measure => simp [intOf]; omega
    · have hltI : ¬ (i : Int) < q := by omega
      have hin' : i = q := by omega
      obtain ⟨A9, c9, rfl⟩ := own_slice HO.out
      have HF := Lib.hid (show AmsP w (amsL l t) (.returned (.tuple #[.slice A9 r c9, .int .i64 0])) wr from by
        have e1 : R = amsL l t := by rw [HR.out.1, ← HFIN.out, hin', ← HQ.out, List.take_length]
        have ho := HO.out
        rw [HR.out.2, e1] at ho ⊢
        exact ⟨A9, c9, rfl, own_base9 ho HB2.out.size, HB2.out.trans (HB.out.mono HB2.out.size)⟩)
      go_wp2_with (fail)
      exact bodyPost_ret (v := .tuple #[.slice A9 r c9, .int .i64 0]) (by simp [results, Tryz.results19, go_sem]) rfl HF.out
theorem am_cells {w : World} {b o : Nat} {l : List Am} (h : Cells w b o (recs amC l)) (i : Nat) (x : Am) (hx : l[i]? = some x) : w.cell? ⟨b, o + i * 6, none⟩ = some (.string (aldT x.d)) ∧ w.cell? ⟨b, o + i * 6 + 1, none⟩ = some (.string (alrT x.r)) ∧ w.cell? ⟨b, o + i * 6 + 2, none⟩ = some (.int .i64 x.st) ∧ w.cell? ⟨b, o + i * 6 + 3, none⟩ = some (.int .i64 x.si) ∧ w.cell? ⟨b, o + i * 6 + 4, none⟩ = some (.int .i64 x.n) ∧ w.cell? ⟨b, o + i * 6 + 5, none⟩ = some (.int .i64 x.sh) :=
  ⟨rec_cell amC_len h i x hx 0 _ rfl, rec_cell amC_len h i x hx 1 _ rfl, rec_cell amC_len h i x hx 2 _ rfl, rec_cell amC_len h i x hx 3 _ rfl, rec_cell amC_len h i x hx 4 _ rfl, rec_cell amC_len h i x hx 5 _ rfl⟩
end Go.Proofs.YtldohjamiofkpaaGreatDoor

/- AccountsAdd: the plain law; no program in sight. -/
namespace Go.Proofs.YtldohjamiofkpaaGreatDoor

def sumI : List Int → Int
  | [] => 0
  | x :: l => x + sumI l
theorem sumI_append (a b : List Int) : sumI (a ++ b) = sumI a + sumI b := by
  induction a with
  | nil => simp [sumI]
  | cons x a ih => simp only [List.cons_append, sumI, ih]; omega
theorem sumI_bound {α : Type} (g : α → Int) (M : Int) (hM : 0 ≤ M) : ∀ (l : List α), (∀ x ∈ l, -M ≤ g x ∧ g x ≤ M) → -((l.length : Int) * M) ≤ sumI (l.map g) ∧ sumI (l.map g) ≤ (l.length : Int) * M
  | [], _ => by simp [sumI]
  | x :: l, h => by
    have h1 := h x List.mem_cons_self
    have h2 := sumI_bound g M hM l fun y hy => h y (List.mem_cons_of_mem _ hy)
    have e : ((x :: l).length : Int) * M = (l.length : Int) * M + M := by
      rw [List.length_cons]
      push_cast
      rw [Int.add_mul, Int.one_mul]
    simp only [List.map_cons, sumI]
    rw [e]
    omega
theorem sumI_add {α : Type} (g h k : α → Int) : ∀ (l : List α), (∀ x ∈ l, g x + h x = k x) → sumI (l.map g) + sumI (l.map h) = sumI (l.map k)
  | [], _ => rfl
  | x :: l, e => by
    have e1 := e x List.mem_cons_self
    have e2 := sumI_add g h k l fun y hy => e y (List.mem_cons_of_mem _ hy)
    simp only [List.map_cons, sumI]
    omega
/-- Is a moment in a window? -/
def inW (f t x : Int) : Bool := decide (f ≤ x) && decide (x < t)
def gN (f t x : Int) : Int := if inW f t x = true then 1 else 0
def gZ (f t : Int) (p : Int × Int) : Int := if inW f t p.1 = true then p.2 else 0
def gT (f t : Int) (u : Int × Int) : Int := max 0 (min u.2 t - max u.1 f)
theorem gN_add {m : Int} (h0 : 0 ≤ m) (h1 : m ≤ 500) (x : Int) : gN 0 m x + gN m 500 x = gN 0 500 x := by
  unfold gN inW
  simp only [Bool.and_eq_true, decide_eq_true_eq]
  repeat' split
  all_goals omega
theorem gZ_add {m : Int} (h0 : 0 ≤ m) (h1 : m ≤ 500) (p : Int × Int) : gZ 0 m p + gZ m 500 p = gZ 0 500 p := by
  unfold gZ inW
  simp only [Bool.and_eq_true, decide_eq_true_eq]
  repeat' split
  all_goals omega
theorem gT_add {m : Int} (h0 : 0 ≤ m) (h1 : m ≤ 500) (u : Int × Int) : gT 0 m u + gT m 500 u = gT 0 500 u := by
  unfold gT
  omega
theorem gN_bound (f t x : Int) : -1 ≤ gN f t x ∧ gN f t x ≤ 1 := by
  unfold gN
  split <;> omega
theorem gZ_bound {f t : Int} {p : Int × Int} (h : -alEnd ≤ p.2 ∧ p.2 ≤ alEnd) : -alEnd ≤ gZ f t p ∧ gZ f t p ≤ alEnd := by
  unfold gZ
  unfold alEnd at *
  split <;> omega
theorem gT_bound {f t : Int} {u : Int × Int} (h0 : 0 ≤ f) (h1 : t ≤ 500) : -500 ≤ gT f t u ∧ gT f t u ≤ 500 := by
  unfold gT
  omega
/-- An account. -/
structure Ac where
  r : Nat
  n : Int
  k : Int
  w : Int
  t : Int
def addA (f t : Int) (L : Lf) (a : Ac) : Ac := ⟨a.r, a.n + sumI (L.ra.map (gN f t)), a.k + sumI (L.ak.map (gN f t)), a.w + sumI ((L.ak.zip L.wt).map (gZ f t)), a.t + sumI (L.up.map (gT f t))⟩
def acStep (F : Nm2 → Lf) (f t : Int) (r : Nat) (a : Ac) (n : Nm2) : Ac := if n.2 = r then addA f t (F n) a else a
/-- A rule's account over some lives. -/
def acN (F : Nm2 → Lf) (f t : Int) (r : Nat) (K : List Nm2) : Ac := K.foldl (acStep F f t r) ⟨r, 0, 0, 0, 0⟩
theorem acN_snoc (F : Nm2 → Lf) (f t : Int) (r : Nat) (K : List Nm2) (n : Nm2) : acN F f t r (K ++ [n]) = acStep F f t r (acN F f t r K) n := by simp [acN]
theorem acN_r (F : Nm2 → Lf) (f t : Int) (r : Nat) (K : List Nm2) : (acN F f t r K).r = r := by
  have key : ∀ (K : List Nm2) (a : Ac), (K.foldl (acStep F f t r) a).r = a.r := by
    intro K
    induction K with
    | nil => intro a; rfl
    | cons n K ih =>
      intro a
      rw [List.foldl_cons, ih]
      unfold acStep
      split <;> rfl
  exact key K _
theorem acN_none {F : Nm2 → Lf} {f t : Int} {r : Nat} {K : List Nm2} (h : ∀ n ∈ K, n.2 ≠ r) : acN F f t r K = ⟨r, 0, 0, 0, 0⟩ := by
  have key : ∀ (K : List Nm2) (a : Ac), (∀ n ∈ K, n.2 ≠ r) → K.foldl (acStep F f t r) a = a := by
    intro K
    induction K with
    | nil => intro a _; rfl
    | cons n K ih =>
      intro a h
      rw [List.foldl_cons]
      have : acStep F f t r a n = a := by unfold acStep; rw [if_neg (h n List.mem_cons_self)]
      rw [this]
      exact ih a fun q hq => h q (List.mem_cons_of_mem _ hq)
  exact key K _ h
structure AcSum (a b c : Ac) : Prop where
  n : a.n + b.n = c.n
  k : a.k + b.k = c.k
  w : a.w + b.w = c.w
  t : a.t + b.t = c.t
theorem addA_sum {m : Int} (h0 : 0 ≤ m) (h1 : m ≤ 500) {a b c : Ac} (h : AcSum a b c) (L : Lf) : AcSum (addA 0 m L a) (addA m 500 L b) (addA 0 500 L c) := by
  obtain ⟨e1, e2, e3, e4⟩ := h
  have f1 := sumI_add (gN 0 m) (gN m 500) (gN 0 500) L.ra fun x _ => gN_add h0 h1 x
  have f2 := sumI_add (gN 0 m) (gN m 500) (gN 0 500) L.ak fun x _ => gN_add h0 h1 x
  have f3 := sumI_add (gZ 0 m) (gZ m 500) (gZ 0 500) (L.ak.zip L.wt) fun x _ => gZ_add h0 h1 x
  have f4 := sumI_add (gT 0 m) (gT m 500) (gT 0 500) L.up fun x _ => gT_add h0 h1 x
  unfold addA
  exact ⟨by simp only; omega, by simp only; omega, by simp only; omega, by simp only; omega⟩
theorem acN_sum {m : Int} (h0 : 0 ≤ m) (h1 : m ≤ 500) (F : Nm2 → Lf) (r : Nat) (K : List Nm2) : AcSum (acN F 0 m r K) (acN F m 500 r K) (acN F 0 500 r K) := by
  have key : ∀ (K : List Nm2) (a b c : Ac), AcSum a b c → AcSum (K.foldl (acStep F 0 m r) a) (K.foldl (acStep F m 500 r) b) (K.foldl (acStep F 0 500 r) c) := by
    intro K
    induction K with
    | nil => intro a b c h; exact h
    | cons n K ih =>
      intro a b c h
      simp only [List.foldl_cons]
      refine ih _ _ _ ?_
      unfold acStep
      split
      · exact addA_sum h0 h1 h _
      · exact h
  exact key K _ _ _ ⟨rfl, rfl, rfl, rfl⟩
/-- What holds of a life's acks. -/
structure LfW (L : Lf) : Prop where
  len : L.wt.length = L.ak.length
  rng : ∀ w ∈ L.wt, -alEnd ≤ w ∧ w ≤ alEnd
theorem follow_w {L : Lf} {k : Nat} {s : Sg} (h : LfW L) (hk : LfOk L k) (h1 : 0 ≤ s.at_) (h2 : s.at_ < alEnd) : LfW (followL L s).1 := by
  have hz : -alEnd ≤ s.at_ - L.ra.getLastD 0 ∧ s.at_ - L.ra.getLastD 0 ≤ alEnd := by
    have : 0 ≤ L.ra.getLastD 0 ∧ L.ra.getLastD 0 < alEnd := by
      cases hr : L.ra with
      | nil => simp [alEnd]
      | cons x l =>
        have hm : (x :: l).getLastD 0 ∈ L.ra := by
          rw [hr, List.getLastD_eq_getLast?, List.getLast?_eq_some_getLast (by simp)]
          exact List.getLast_mem _
        exact hk.rng _ hm
    omega
  have hadd : ∀ (M : Lf), M.wt = L.wt → M.ak = L.ak → LfW (akd L s.at_ M) := fun M _ _ => ⟨by simp [akd, h.len], fun w hw => by
    simp only [akd, List.mem_append, List.mem_singleton] at hw
    rcases hw with hw | rfl
    · exact h.rng w hw
    · exact hz⟩
  unfold followL
  split
  · split
    · exact h
    · exact ⟨h.len, h.rng⟩
  · split
    · split
      · exact ⟨h.len, h.rng⟩
      · split
        · exact ⟨h.len, h.rng⟩
        · exact h
    · split
      · split
        · exact hadd _ rfl rfl
        · split
          · exact hadd _ rfl rfl
          · exact h
      · split
        · split
          · exact h
          · exact ⟨h.len, h.rng⟩
        · split
          · exact h
          · exact ⟨h.len, h.rng⟩
theorem lifeAt_w (t : Int) (n : Nm2) (l : List Sg) (h : ∀ s ∈ l, SgV s) : LfW (lifeAt l t n) := by
  have key : ∀ k, k ≤ l.length → LfW (lifeAt (l.take k) t n) := by
    intro k
    induction k with
    | zero => intro _; exact ⟨rfl, by intro w hw; cases hw⟩
    | succ k ih =>
      intro hk
      have hx : l[k]? = some l[k] := List.getElem?_eq_getElem (by omega)
      have he : l.take (k + 1) = l.take k ++ [l[k]] := by rw [List.take_add_one, hx]; rfl
      have hs := h l[k] (List.getElem_mem (by omega))
      rw [he, lifeAt_snoc]
      unfold lifeStep
      split
      · exact follow_w (ih (by omega)) (lifeAt_ok t n _ (fun s hs => h s (List.mem_of_mem_take hs))) hs.at0 hs.at1
      · exact ih (by omega)
  have := key l.length (Nat.le_refl _)
  rwa [List.take_length] at this
/-- The names of signals, in order. -/
def namK (l : List Sg) : List Nm2 := al6.filter (fun n => decide (n ∈ namesOf l))
theorem order_names {l : List Sg} {K : List Nm2} (hp : ∀ n, n ∈ K ↔ n ∈ namesOf l) (hok : ∀ n ∈ K, NmOk n) (hs : K.Pairwise (fun a b => rkN a ≤ rkN b)) (hn : K.Pairwise (fun a b => a ≠ b)) : K = namK l := by
  have hst : K.Pairwise (fun a b => rkN a < rkN b) := by
    rw [List.pairwise_iff_getElem] at hs hn ⊢
    intro i j hi hj hij
    have h1 := hs i j hi hj hij
    have h2 := hn i j hi hj hij
    have o1 := hok _ (List.getElem_mem hi)
    have o2 := hok _ (List.getElem_mem hj)
    rcases Nat.lt_or_eq_of_le h1 with h | h
    · exact h
    · exfalso
      apply h2
      unfold rkN at h
      unfold NmOk at o1 o2
      exact Prod.ext (by omega) (by omega)
  refine strict_eq rkN _ _ hst (List.Pairwise.sublist List.filter_sublist (by decide)) fun n => ?_
  unfold namK
  rw [List.mem_filter, hp]
  exact ⟨fun h => ⟨mem_al6 (hok n ((hp n).2 h)), by simpa using h⟩, fun h => by simpa using h.2⟩
/-- The rules of some names. -/
def hasR (K : List Nm2) (r : Nat) : Bool := K.any (fun n => n.2 == r)
def acL (l : List Sg) (f t : Int) : List Ac := ([0, 1].filter (hasR (namK l))).map fun r => acN (lifeAt l alEnd) f t r (namK l)
theorem acL_len (l : List Sg) (f t f' t' : Int) : (acL l f t).length = (acL l f' t').length := by simp [acL]
theorem acL_sum {m : Int} (h0 : 0 ≤ m) (h1 : m ≤ 500) (l : List Sg) {i : Nat} {a b c : Ac} (ha : (acL l 0 m)[i]? = some a) (hb : (acL l m 500)[i]? = some b) (hc : (acL l 0 500)[i]? = some c) : AcSum a b c := by
  unfold acL at ha hb hc
  rw [List.getElem?_map] at ha hb hc
  cases hr : ([0, 1].filter (hasR (namK l)))[i]? with
  | none => rw [hr] at ha; cases ha
  | some r =>
    rw [hr] at ha hb hc
    simp only [Option.map_some, Option.some.injEq] at ha hb hc
    rw [← ha, ← hb, ← hc]
    exact acN_sum h0 h1 _ r _
end Go.Proofs.YtldohjamiofkpaaGreatDoor

/- What a house says of its order, with where the lives lie. -/
namespace Go.Proofs.YtldohjamiofkpaaGreatDoor
open Go.RowKit Go.Shelf

/-- A house's order, with where the lives lie. -/
theorem house_order2 {w' : World} {B hs m : Nat} {o : List Nat} {M : List Mb} {l : List Sg} {F : Nm2 → Lf} (hI : HsI w' B hs m o M) (ho : OrdE (mbE M) o) (hnm : M.map (·.n) = namesOf l) (hL : ∀ y ∈ M, y.L = F y.n) :
    ∃ E : List (Nm2 × Nat), o = E.map (·.2) ∧ E.map (·.1) = namK l ∧ ∀ p ∈ E, NmOk p.1 ∧ ∃ v, LfI w' p.2 (F p.1) v ∧ ∀ b, lfFoot p.2 v b → B ≤ b := by
  obtain ⟨E, h1, h2, h3⟩ := ho
  have hk : (E.map (·.1)).Perm (M.map (·.n)) := by
    have := h1.map (·.1)
    rwa [show (mbE M).map (·.1) = M.map (·.n) from by simp [mbE, Function.comp_def]] at this
  have hok : ∀ n ∈ E.map (·.1), NmOk n := fun n hn => by
    obtain ⟨y, hy, rfl⟩ := List.mem_map.1 (hk.mem_iff.1 hn)
    exact (hI.each y hy).2.1
  refine ⟨E, h3, order_names (fun n => by rw [hk.mem_iff, hnm]) hok (List.pairwise_map.2 h2) (hk.symm.pairwise (List.pairwise_map.2 hI.names) (fun h => Ne.symm h)), fun p hp => ?_⟩
  refine ⟨hok p.1 (List.mem_map.2 ⟨p, hp, rfl⟩), ?_⟩
  have := h1.mem_iff.1 hp
  simp only [mbE, List.mem_map] at this
  obtain ⟨y, hy, rfl⟩ := this
  exact ⟨y.v, by have := (hI.each y hy).1; rw [hL y hy] at this; exact this, hI.low y hy⟩
end Go.Proofs.YtldohjamiofkpaaGreatDoor

/- base.First by its contract. -/
namespace Go.Proofs.YtldohjamiofkpaaGreatDoor
open Go.RowKit

theorem first_ok (n c g : Nat) (w : World) (hn : n ≤ 1000) (hc : Cells w g 0 (List.replicate n (.int .i64 0))) :
    Calls Tryz.prog 43 #[.slice (some ⟨g, 0, none⟩) n c] w fun e w' => e = .returned (.int .i64 0) ∧ w = w' := by
  have HC := Lib.hid hc
  clear hc
  go_enter Tryz.func43, Tryz.ntmps43
  go_wp2
  go_loop [7] (fun i => ∃ k : Nat, k ≤ n ∧ i = .int .i64 k) (fun i => n - (intOf i).toNat)
  case atStart => exact ⟨0, Nat.zero_le _, rfl⟩
  case round =>
    obtain ⟨k, hk, rfl⟩ := hrel
    by_cases hlt : k < n
    · have hcell := HC.out k (.int .i64 0) (by simp [hlt])
      simp only [Nat.zero_add] at hcell
      go_wp2
      go_round
      case rel => exact ⟨k + 1, by omega, by go_num⟩
      case measure => simp [intOf]; omega
    · go_wp2
      go_ret
      exact ⟨rfl, rfl⟩
end Go.Proofs.YtldohjamiofkpaaGreatDoor

/- alarm.Notices by its contract: who is told, when, and who is on call then. -/
namespace Go.Proofs.YtldohjamiofkpaaGreatDoor
open Go.RowKit Go.Shelf Go.Sort

theorem setLast_le {l : List (Int × Int)} {t q : Int} (h : ∀ a ∈ l, a.2 ≤ q) (ht : t ≤ q) : ∀ a ∈ setLast l t, a.2 ≤ q := by
  by_cases hne : l = []
  · subst hne
    intro a ha
    have e : a = (0, t) := by simpa [setLast] using ha
    rw [e]
    exact ht
  · obtain ⟨a, x, rfl⟩ := snoc_of_ne hne
    rw [setLast_snoc]
    intro y hy
    rcases List.mem_append.1 hy with hy | hy
    · exact h y (List.mem_append_left _ hy)
    · rw [List.mem_singleton] at hy
      rw [hy]
      exact ht
theorem as_bound (t : Int) (n : Nm2) : ∀ (l : List Sg) (L : Lf), (∀ s ∈ l, SgR s) → (∀ a ∈ L.as_, a.2 ≤ 345686400000) → ∀ a ∈ (l.foldl (lifeStep t n) L).as_, a.2 ≤ 345686400000
  | [], L, _, h => h
  | s :: l, L, hs, h => by
    rw [List.foldl_cons]
    refine as_bound t n l _ (fun q hq => hs q (List.mem_cons_of_mem _ hq)) ?_
    unfold lifeStep
    split
    · have hr := hs s (by simp)
      have hun : s.un ≤ 345686400000 := by
        by_cases hk : s.kd = 4
        · exact (hr.shelf hk).2.2
        · rw [hr.plain hk]; decide
      rcases follow_aside L s with ⟨k, _⟩ | ⟨k, _⟩ | ⟨k, _⟩ <;> rw [k]
      · exact h
      · intro a ha
        rcases List.mem_append.1 ha with ha | ha
        · exact h a ha
        · rw [List.mem_singleton] at ha
          rw [ha]
          exact hun
      · exact setLast_le h (by have := hr.at1; omega)
    · exact h
/-- Who is told. -/
def TdN (l : List Sg) (S : List Sf) (z : Nt) : Prop := NmOk (z.d, z.r) ∧ ∃ u ∈ (lifeAt l 345686400000 (z.d, z.r)).fr, TdOk (lifeAt l 345686400000 (z.d, z.r)) u.1 u.2 S z
theorem TdN.of {l : List Sg} {S : List Sf} {n : Nm2} {u : Int × Int} {z : Nt} (hn : NmOk n) (hu : u ∈ (lifeAt l 345686400000 n).fr) (hz : TdOk (lifeAt l 345686400000 n) u.1 u.2 S z) : TdN l S z := by
  have h1 := lifeAt_name l 345686400000 n
  have h2 := hz.d
  have h3 := hz.r
  have e : (z.d, z.r) = n := by rw [h2, h3, h1.1, h1.2]
  unfold TdN
  rw [e]
  exact ⟨hn, u, hu, hz⟩
def NoticesP (w : World) (l : List Sg) (S : List Sf) (e : Ending) (w' : World) : Prop :=
  ∃ (N : List Nt) (A : Option Addr) (c n : Nat), e = .returned (.tuple #[.slice A n c, .int .i64 0]) ∧ N.length = n ∧ w'.ownsRow w.heap.size 44 6 (.slice A n c) n (recs ntC N) ∧ (∀ z ∈ N, TdN l S z) ∧ n ≤ 4900 ∧ Below w.heap.size w w'
/-- What a life says that the walk reads. -/
structure FrB (L : Lf) : Prop where
  fr : ∀ u ∈ L.fr, 0 ≤ u.1 ∧ u.1 ≤ u.2 ∧ u.2 ≤ 345686400000
  as_ : ∀ a ∈ L.as_, a.2 ≤ 345686400000
  n1 : L.fr.length ≤ 20
  n2 : L.as_.length ≤ 20
theorem frB_any {l : List Sg} (h : SgsOk l) (hn : l.length ≤ 20) (n : Nm2) : FrB (lifeAt l 345686400000 n) := by
  have hv := fun s hs => (h.1 s hs).v
  have hk := lifeAt_ok 345686400000 n l hv
  obtain ⟨⟨cl, op, hi⟩, _⟩ := fresh_aside n h
  refine ⟨fun u hu => ?_, ?_, Nat.le_trans (hk.len 2 (by omega)) hn, Nat.le_trans (hk.len 3 (by omega)) hn⟩
  · have hu' : u ∈ cl ++ op := by rw [← hi.fr]; exact hu
    exact hi.rng u hu'
  · exact as_bound _ _ l _ h.1 (by simp [newL])
/-- Between two rounds. -/
structure NtR (l : List Sg) (S : List Sf) (w4 : World) (tb : Nat) (SA : Option Addr) (sn sc : Nat) (k : Nat) (wr : World) (v : Value) (N : List Nt) : Prop where
  tl : TlI wr w4.heap.size tb SA sn sc v N
  go : TlGo tb w4 wr (.slice none 0 0) v
  n : N.length ≤ k
  ok : ∀ z ∈ N, TdN l S z
theorem NtR.below {l : List Sg} {S : List Sf} {w4 : World} {tb : Nat} {SA : Option Addr} {sn sc k k' : Nat} {wr w' : World} {v : Value} {N : List Nt} (h : NtR l S w4 tb SA sn sc k wr v N) (hb : Below wr.heap.size wr w') (hk : k ≤ k') : NtR l S w4 tb SA sn sc k' w' v N :=
  ⟨⟨(hb.block tb (Array.getElem?_eq_some_iff.1 h.tl.blk).1).trans h.tl.blk, own_belowP h.tl.row hb⟩, h.go.below hb, Nat.le_trans h.n hk, h.ok⟩
theorem NtR.old {l : List Sg} {S : List Sf} {w4 : World} {tb : Nat} {SA : Option Addr} {sn sc k : Nat} {wr : World} {v : Value} {N : List Nt} (h : NtR l S w4 tb SA sn sc k wr v N) {b : Nat} (hb : b < w4.heap.size) (ht : b ≠ tb) : wr.heap[b]? = w4.heap[b]? :=
  h.go.gr.block b hb (fun e => e.elim ht (fun e => by cases e))
theorem NtR.climb {l : List Sg} {S : List Sf} {w4 : World} {tb : Nat} {SA : Option Addr} {sn sc k k' m : Nat} {wr w' : World} {v : Value} {N : List Nt} {e : Ending} {n : Nm2} {u : Int × Int} (h : NtR l S w4 tb SA sn sc k wr v N) (hn : NmOk n) (hu : u ∈ (lifeAt l 345686400000 n).fr)
    (hc : ClimbP w4.heap.size tb SA sn sc v N (lifeAt l 345686400000 n) u.1 u.2 S m wr e w') (hk : k + (m + 2) ≤ k') : e = .returned (.tuple #[]) ∧ ∃ v' N', NtR l S w4 tb SA sn sc k' w' v' N' ∧ TlGo tb wr w' v v' := by
  obtain ⟨v', N', he, h1, h2, h3, h4⟩ := hc
  refine ⟨he, v', N ++ N', ⟨h1, h.go.trans h4, by have := h.n; rw [List.length_append]; omega, fun z hz => ?_⟩, h4⟩
  rcases List.mem_append.1 hz with hz | hz
  · exact h.ok z hz
  · exact TdN.of hn hu (h3 z hz)
set_option maxRecDepth 100000 in
set_option maxHeartbeats 8000000 in
theorem notices_any (l : List Sg) (n c : Nat) (A : Option Addr) (D : List Ld) (dn dc : Nat) (DA : Option Addr) (S : List Sf) (sn sc : Nat) (SA : Option Addr) (w : World)
    (hl : SgsOk l) (hn : l.length = n) (hn2 : n ≤ 20) (hr : Row w w.heap.size A (recs sgC l))
    (hD : D.length = dn) (hD2 : dn ≤ 100) (hDr : Row w w.heap.size DA (recs ldC D)) (hDr2 : ∀ x ∈ D, Row w w.heap.size x.A (recs rgC x.g)) (hDg : LdsOk D)
    (hS : S.length = sn) (hS2 : sn ≤ 1000) (hSr : Row w w.heap.size SA (recs sfC S)) (hSg : SfsOk S) :
    Calls Tryz.prog 13 #[.slice A n c, .slice DA dn dc, .slice SA sn sc, .agg #[.int .i64 0, .int .i64 3000]] w fun e w' => NoticesP w l S e w' := by
  obtain ⟨gw, egw⟩ : ∃ g, g = w.heap.size := ⟨_, rfl⟩
  obtain ⟨w0, e0⟩ : ∃ V : World, V = w.alloc (.cells #[.int .i64 0, .int .i64 3000] 42) := ⟨_, rfl⟩
  have hb0 : Below w.heap.size w w0 := by rw [e0]; exact (Below.refl _ _).alloc (Nat.le_refl _) _
  have hg0 : w0.heap[gw]? = some (.cells #[.int .i64 0, .int .i64 3000] 42 (0, 0)) := by rw [e0, egw]; exact heap_new w _
  have hgw0 : gw < w0.heap.size := (Array.getElem?_eq_some_iff.1 hg0).1
  have HB0 := Lib.hid hb0
  have HG0 := Lib.hid hg0
  have HC := Lib.hid (fun (V : World) (hV : Below w.heap.size w V) => checkSignals_any l n c A V hl hn (by omega) ((hr.below hV).mono hV.size))
  have HCL := Lib.hid (fun (V : World) (hV : Below w.heap.size w V) => checkLadders_any D dn dc DA V hD hD2 ((hDr.below hV).mono hV.size) (fun x hx => ((hDr2 x hx).below hV).mono hV.size) hDg)
  have HCS := Lib.hid (fun (V : World) (hV : Below w.heap.size w V) => checkShifts_any S sn sc SA V hS hS2 ((hSr.below hV).mono hV.size) hSg)
  have HFI := Lib.hid (fun (V : World) => first_ok 3 3 V.heap.size (V.alloc (.cells #[.int .i64 0, .int .i64 0, .int .i64 0] 33)) (by omega) (Cells.new V _ _ _ _ rfl))
  have HA := Lib.hid (fun (V : World) (hV : Below w.heap.size w V) => at_any l n c 345686400000 A V hn (by omega) ((hr.below hV).mono hV.size) (fun s hs => (hl.1 s hs).v))
  have HFB := Lib.hid (fun m => frB_any hl (by omega) m)
  have HLD := Lib.hid (show D.length = dn ∧ (∀ x ∈ D, LdR x) from ⟨hD, fun x hx => hDg.mem hx⟩)
  have HDR := Lib.hid hDr
  have HDR2 := Lib.hid hDr2
  have HSR := Lib.hid (And.intro hS (And.intro hS2 hSr))
  clear hl hn hr hD hDr hDr2 hDg hS hS2 hSr hSg hb0 hg0
  go_enter Tryz.func13, Tryz.ntmps13
  go_upto_region 1 with (fail)
  rw [← egw, ← e0]
  clear e0
  have HWS := Lib.hid egw
  clear egw
  go_wp2_with (fail)
  refine (HC.out w0 HB0.out).mono ?_
  rintro e w1 ⟨rfl, hB1⟩
  have HB1 := Lib.hid (HB0.out.trans (hB1.mono HB0.out.size))
  have HG1 := Lib.hid ((hB1.block gw hgw0).trans HG0.out)
  have hgw1 : gw < w1.heap.size := (Array.getElem?_eq_some_iff.1 HG1.out).1
  clear hB1
  go_wp2_with (fail)
  refine (HCL.out w1 HB1.out).mono ?_
  rintro e w2 ⟨rfl, hB2⟩
  have HB2 := Lib.hid (HB1.out.trans (hB2.mono HB1.out.size))
  have HG2 := Lib.hid ((hB2.block gw hgw1).trans HG1.out)
  have hgw2 : gw < w2.heap.size := (Array.getElem?_eq_some_iff.1 HG2.out).1
  clear hB2
  go_wp2_with (fail)
  refine (HCS.out w2 HB2.out).mono ?_
  rintro e w3 ⟨rfl, hB3⟩
  have HB3 := Lib.hid (HB2.out.trans (hB3.mono HB2.out.size))
  have HG3 := Lib.hid ((hB3.block gw hgw2).trans HG2.out)
  have hgw3 : gw < w3.heap.size := (Array.getElem?_eq_some_iff.1 HG3.out).1
  clear hB3
  go_wp2_with (fail)
  refine (HFI.out w3).mono ?_
  rintro e w5 ⟨rfl, hw5⟩
  have hb5 : Below w3.heap.size w3 w5 := by rw [← hw5]; exact (Below.refl _ _).alloc (Nat.le_refl _) _
  have HB5 := Lib.hid (HB3.out.trans (hb5.mono HB3.out.size))
  have hg5 := (hb5.block gw hgw3).trans HG3.out
  have HG5 := Lib.hid hg5
  have hgw5 : gw < w5.heap.size := (Array.getElem?_eq_some_iff.1 hg5).1
  clear hw5 hb5 hg5
  have q0 := cell_of_blk (j := 0) HG5.out rfl
  have q1 := cell_of_blk (j := 1) HG5.out rfl
  go_wp2_with (fail)
  refine (windowN_yes 0 3000 w5 (by omega) (by omega) (by omega)).mono ?_
  rintro e w6 ⟨rfl, hB6⟩
  have HB6 := Lib.hid (HB5.out.trans (hB6.mono HB5.out.size))
  have hg6 := (hB6.block gw hgw5).trans HG5.out
  have HG6 := Lib.hid hg6
  have hgw6 : gw < w6.heap.size := (Array.getElem?_eq_some_iff.1 hg6).1
  clear hB6 hg6 q0 q1
  have q0 := cell_of_blk (j := 0) HG6.out rfl
  have q1 := cell_of_blk (j := 1) HG6.out rfl
  go_upto_region 7 with (fail)
  obtain ⟨tb, etb⟩ : ∃ m, m = w6.heap.size := ⟨_, rfl⟩
  obtain ⟨w7, e7⟩ : ∃ V : World, V = w6.alloc (.cells #[.slice SA sn sc, .int .i64 0, .int .i64 3000, .slice none 0 0] 116) := ⟨_, rfl⟩
  rw [← etb, ← e7]
  have hb7 : Below w6.heap.size w6 w7 := by rw [e7]; exact (Below.refl _ _).alloc (Nat.le_refl _) _
  have ht7 : w7.heap[tb]? = some (.cells #[.slice SA sn sc, .int .i64 0, .int .i64 3000, .slice none 0 0] 116 (0, 0)) := by rw [e7, etb]; exact heap_new w6 _
  have htl7 : tb < w7.heap.size := (Array.getElem?_eq_some_iff.1 ht7).1
  have HB7 := Lib.hid (HB6.out.trans (hb7.mono HB6.out.size))
  have hwt : w.heap.size ≤ tb := by have := HB6.out.size; omega
  have HT7 := Lib.hid ht7
  clear hb7 e7 etb ht7 q0 q1
  go_wp2_with (fail)
  refine (HA.out w7 HB7.out).mono ?_
  rintro e w4 ⟨hs, mh, o, M, rfl, hI, hord, hnm, hL, hB4⟩
  obtain ⟨E, eo, hE1, hE2⟩ := house_order2 hI hord hnm hL
  obtain ⟨Ao, co, hbo, hoo⟩ := hI.blk
  have hMl : M.length = E.length := by
    have h1 := hI.perm.length_eq
    rw [eo, List.length_map, List.length_map] at h1
    exact h1.symm
  obtain ⟨q, eq⟩ : ∃ q, q = E.length := ⟨_, rfl⟩
  have hq6 : q ≤ 6 := by
    have h1 : (E.map (·.1)).length ≤ 6 := by rw [hE1]; exact List.length_filter_le _ _
    rw [List.length_map] at h1
    omega
  rw [hMl, ← eq] at hbo hoo
  rw [eo] at hoo
  have hc1 := cell_of_blk (j := 1) hbo rfl
  have hhl := (Array.getElem?_eq_some_iff.1 hbo).1
  have HB4 := Lib.hid (HB7.out.trans (hB4.mono HB7.out.size))
  have HT4 := Lib.hid ((hB4.block tb htl7).trans HT7.out)
  have htl4 : tb < w4.heap.size := (Array.getElem?_eq_some_iff.1 HT4.out).1
  have hs4 := hB4.size
  have HE2 := Lib.hid hE2
  have HQ := Lib.hid eq.symm
  have HOO := Lib.hid hoo
  -- the rows stay
  have HOLD := Lib.hid (fun (V : World) (v' : Value) (N' : List Nt) (k : Nat) (hV : NtR l S w4 tb SA sn sc k V v' N') (b : Nat) (hb : b < w.heap.size) => show V.heap[b]? = w.heap[b]? from (hV.old (by omega) (by omega)).trans (HB4.out.block b hb))
  have HKD := Lib.hid (fun (V : World) (v' : Value) (N' : List Nt) (k : Nat) (hV : NtR l S w4 tb SA sn sc k V v' N') => show Row V tb DA (recs ldC D) from (HDR.out.keep (fun b hb => HOLD.out V v' N' k hV b hb)).mono hwt)
  have HKS := Lib.hid (fun (V : World) (v' : Value) (N' : List Nt) (k : Nat) (hV : NtR l S w4 tb SA sn sc k V v' N') => show Row V tb SA (recs sfC S) from (HSR.out.2.2.keep (fun b hb => HOLD.out V v' N' k hV b hb)).mono hwt)
  have HKG := Lib.hid (fun (V : World) (v' : Value) (N' : List Nt) (k : Nat) (hV : NtR l S w4 tb SA sn sc k V v' N') (y : Ld) (hy : y ∈ D) => show Row V tb y.A (recs rgC y.g) from ((HDR2.out y hy).keep (fun b hb => HOLD.out V v' N' k hV b hb)).mono hwt)
  clear hI hord hnm hL hB4 eo hE1 hE2 hbo hoo hMl eq
  go_wp2_with (fail)
  go_loopw [41] (fun s wr => ∃ (i : Nat) (v : Value) (N : List Nt), i ≤ q ∧ s = .int .i64 (i : Int) ∧ NtR l S w4 tb SA sn sc (i * 300) wr v N) (fun s _ => q - (intOf s).toNat)
  case atStart => exact ⟨0, .slice none 0 0, [], by omega, rfl, ⟨⟨HT4.out, World.ownsRow_nil _ _ _ _⟩, TlGo.refl _ _ _, by simp, by simp⟩⟩
  case round =>
    obtain ⟨i, v, N, hin, rfl, hR⟩ := hrel
    have HR := Lib.hid hR
    have hbs := hR.go.gr.size
    clear hR
    by_cases hlt : i < q
    · have hltI : (i : Int) < q := by omega
      obtain ⟨p, hp⟩ : ∃ p, E[i]? = some p := ⟨_, List.getElem?_eq_getElem (by have := HQ.out; omega)⟩
      obtain ⟨hnm, vl, hv, hvB⟩ := HE2.out p (List.mem_of_getElem? hp)
      obtain ⟨g, rfl, hgb, hglt⟩ : ∃ g, Ao = some ⟨g, 0, none⟩ ∧ w7.heap.size ≤ g ∧ g < w4.heap.size := by
        rcases own_two HOO.out with ⟨_, h0, _⟩ | ⟨g, h1, h2, h3⟩
        · omega
        · exact ⟨g, h1, h2, h3⟩
      have hci := own_cells0 HOO.out i (lfP p.2) (by rw [List.getElem?_map, List.getElem?_map, hp]; rfl)
      rw [Nat.zero_add] at hci
      have hciW : wr.cell? ⟨g, i, none⟩ = some (lfP p.2) := by
        rw [← hci]
        show World.cell? _ _ = _
        simp only [World.cell?, HR.out.old hglt (by omega)]
      unfold lfP at hciW
      have hgwr : g < wr.heap.size := by omega
      obtain ⟨L, eL⟩ : ∃ L, L = lifeAt l 345686400000 p.1 := ⟨_, rfl⟩
      rw [← eL] at hv
      have HFB1 := Lib.hid (show FrB L from by rw [eL]; exact HFB.out p.1)
      have HNM := Lib.hid (And.intro hnm eL)
      have HV := Lib.hid hv
      have HVB := Lib.hid hvB
      obtain ⟨x, ex⟩ : ∃ x, x = p.2 := ⟨_, rfl⟩
      rw [← ex] at hciW HV HVB
      have hxB : w7.heap.size ≤ x ∧ x < w4.heap.size := ⟨HVB.out x (.inl rfl), HV.out.lt⟩
      -- the life stays
      have HKX := Lib.hid (fun (V : World) (v' : Value) (N' : List Nt) (k : Nat) (hV : NtR l S w4 tb SA sn sc k V v' N') => show LfI V x L vl from HV.out.keep fun b hb => hV.old (HV.out.foot_lt hb) (by have := HVB.out b hb; omega))
      clear hci hnm hv hvB eL ex hp
      go_upto_region 10 with (fail)
      obtain ⟨gx, egx⟩ : ∃ g, g = wr.heap.size := ⟨_, rfl⟩
      obtain ⟨w8, e8⟩ : ∃ V : World, V = wr.alloc (.cells #[.pointer (some ⟨x, 0, none⟩)] 123) := ⟨_, rfl⟩
      rw [← egx, ← e8]
      have hb8 : Below wr.heap.size wr w8 := by rw [e8]; exact (Below.refl _ _).alloc (Nat.le_refl _) _
      have hg8 : w8.heap[gx]? = some (.cells #[.pointer (some ⟨x, 0, none⟩)] 123 (0, 0)) := by rw [e8, egx]; exact heap_new wr _
      have hlt8 := (Array.getElem?_eq_some_iff.1 hg8).1
      have hs8 := hb8.size
      have hgxB : w4.heap.size ≤ gx := by omega
      have hR8 := HR.out.below hb8 (Nat.le_refl _)
      have hX8 := HKX.out w8 v N _ hR8
      have HR8 := Lib.hid hR8
      have HG8 := Lib.hid hg8
      have HIX := Lib.hid (indexL_any D dn dc gx x (alrT L.r) DA w8 HLD.out.1 hD2 ((HKD.out w8 v N _ hR8).mono (by omega)) (cell_of_blk (j := 0) hg8 rfl) (cell_of_blk (j := 1) hX8.blk rfl) hlt8 (by omega))
      clear e8 egx hb8 hg8 hR8 hX8 hciW
      go_wp2_with (fail)
      refine HIX.out.mono ?_
      rintro e w9 ⟨z, rfl, hz, hb9⟩
      have hs9 := hb9.size
      have HR9 := Lib.hid (HR8.out.below hb9 (Nat.le_refl _))
      have HG9 := Lib.hid ((hb9.block gx hlt8).trans HG8.out)
      have hlt9 : gx < w9.heap.size := by omega
      clear hb9
      rcases hz with rfl | ⟨k, hk, rfl⟩
      · have HRn := Lib.hid (HR9.out.below (Below.refl _ _) (show i * 300 ≤ (i + 1) * 300 by omega))
        go_wp2_with (fail)
        go_roundw
        case rel => exact ⟨i + 1, v, N, by omega, by go_num, HRn.out⟩
        case measure => simp [intOf]; omega
      have hk0 : ¬ (k : Int) < 0 := by omega
      have hX9 := HKX.out w9 v N _ HR9.out
      obtain ⟨Au, cu, hvu⟩ := own_slice (hX9.row 2 (by omega))
      replace hvu : vl 2 = .slice Au L.fr.length cu := hvu
      have c7 : w9.cell? ⟨x, 7, none⟩ = some (.slice Au L.fr.length cu) := by rw [← hvu]; exact cell_of_blk (j := 7) hX9.blk rfl
      have HVU := Lib.hid hvu
      obtain ⟨nf, enf⟩ : ∃ nf, nf = L.fr.length := ⟨_, rfl⟩
      have hnf : nf ≤ 20 := by rw [enf]; exact HFB1.out.n1
      rw [← enf] at c7
      have HNF := Lib.hid enf.symm
      have hxl9 : x < w9.heap.size := by omega
      have b9 := cell_of_blk (j := 0) HG9.out rfl
      -- the ladder
      obtain ⟨y, hy⟩ : ∃ y, D[k]? = some y := ⟨_, List.getElem?_eq_getElem (by have := HLD.out.1; omega)⟩
      have HY := Lib.hid (show LdR y ∧ y ∈ D from ⟨HLD.out.2 y (List.mem_of_getElem? hy), List.mem_of_getElem? hy⟩)
      have HYK := Lib.hid hy
      have hvx : v.ownBlock ≠ some gx := fun e => own_ne HR9.out.tl.row HG9.out (by decide) e.symm
      have hgxt : gx ≠ tb := by omega
      -- the box of the life stays
      have HBX := Lib.hid (fun (V : World) (v' : Value) (hV : TlGo tb w9 V v v') => show V.heap[gx]? = some (.cells #[.pointer (some ⟨x, 0, none⟩)] 123 (0, 0)) from (hV.gr.block gx hlt9 (fun e => e.elim hgxt hvx)).trans HG9.out)
      clear hX9 hvu enf hy
      go_wp2_with (fail)
      clear c7 b9
      go_loopw [55] (fun s wx => ∃ (j : Nat) (v' : Value) (N' : List Nt), j ≤ nf ∧ s = .int .i64 (j : Int) ∧ NtR l S w4 tb SA sn sc (i * 300 + j * 12) wx v' N' ∧ TlGo tb w9 wx v v') (fun s _ => nf - (intOf s).toNat)
      case atStart => exact ⟨0, v, N, by omega, rfl, HR9.out, TlGo.refl _ _ _⟩
      case round =>
        obtain ⟨j, v', N', hjn, rfl, hR, hgo⟩ := hrel
        have HRx := Lib.hid (And.intro hR hgo)
        have hsx := hgo.gr.size
        clear hR hgo
        by_cases hj : j < nf
        · have hjI : (j : Int) < nf := by omega
          obtain ⟨u, hu⟩ : ∃ u, L.fr[j]? = some u := ⟨_, List.getElem?_eq_getElem (by have := HNF.out; omega)⟩
          have hXx := HKX.out wr v' N' _ HRx.out.1
          have hrow := hXx.row 2 (by omega)
          rw [HVU.out] at hrow
          obtain ⟨gu, rfl, hgul⟩ : ∃ g, Au = some ⟨g, 0, none⟩ ∧ g < wr.heap.size := by
            rcases own_two hrow with ⟨_, h0, _⟩ | ⟨g, h1, _, h3⟩
            · have h1 : L.fr.length = 0 := h0
              have := HNF.out; omega
            · exact ⟨g, h1, h3⟩
          have hcu := own_cells0 hrow
          have d0 := rec_cell alW_len hcu j u hu 0 _ rfl
          have d1 := rec_cell alW_len hcu j u hu 1 _ rfl
          simp only [Nat.zero_add, Nat.add_zero] at d0 d1
          have HU := Lib.hid (List.mem_of_getElem? hu)
          obtain ⟨w10, e10⟩ : ∃ V : World, V = wr.alloc (.cells #[.int .i64 u.1, .int .i64 u.2] 42) := ⟨_, rfl⟩
          obtain ⟨g10, eg10⟩ : ∃ g, g = wr.heap.size := ⟨_, rfl⟩
          have hb10 : Below wr.heap.size wr w10 := by rw [e10]; exact (Below.refl _ _).alloc (Nat.le_refl _) _
          have hg10 : w10.heap[g10]? = some (.cells #[.int .i64 u.1, .int .i64 u.2] 42 (0, 0)) := by rw [e10, eg10]; exact heap_new wr _
          have hlt10 := (Array.getElem?_eq_some_iff.1 hg10).1
          have hs10 := hb10.size
          have HR10 := Lib.hid (show NtR l S w4 tb SA sn sc (i * 300 + j * 12) w10 v' N' ∧ TlGo tb w9 w10 v v' from ⟨HRx.out.1.below hb10 (Nat.le_refl _), HRx.out.2.below hb10⟩)
          obtain ⟨rb, ro, era, hrb, hD⟩ := (HKD.out w10 v' N' _ HR10.out.1).posR ldC_len (by omega) (by have := HLD.out.1; omega)
          cases era
          have hk3 : (⟨rb, ro + k * 3, none⟩ : Addr).block < w10.heap.size := by show rb < _; omega
          have l0 : w10.cell? ⟨rb, ro + k * 3, none⟩ = some (.string (ruT y.r)) := rec_cell ldC_len hD k y HYK.out 0 _ rfl
          have l1 : w10.cell? ⟨rb, ro + k * 3 + 1, none⟩ = some (.slice y.A y.g.length y.c) := rec_cell ldC_len hD k y HYK.out 1 _ rfl
          have l2 : w10.cell? ⟨rb, ro + k * 3 + 2, none⟩ = some (.int .i64 y.ev) := rec_cell ldC_len hD k y HYK.out 2 _ rfl
          have b10 := cell_of_blk (j := 0) (HBX.out w10 v' HR10.out.2) rfl
          have hgx10 : gx < w10.heap.size := by omega
          have hrb10 : rb < w10.heap.size := by omega
          have hkD : k < dn := hk
          have HQ := Lib.hid (fun (V : World) (hV : Below w10.heap.size w10 V) => show V.cell? ⟨rb, ro + k * 3, none⟩ = some (.string (ruT y.r)) ∧ V.cell? ⟨rb, ro + k * 3 + 1, none⟩ = some (.slice y.A y.g.length y.c) ∧ V.cell? ⟨rb, ro + k * 3 + 2, none⟩ = some (.int .i64 y.ev) ∧ V.cell? ⟨gx, 0, none⟩ = some (.pointer (some ⟨x, 0, none⟩)) ∧ V.cell? ⟨g10, 0, none⟩ = some (.int .i64 u.1) ∧ V.cell? ⟨g10, 1, none⟩ = some (.int .i64 u.2) from
            ⟨(hV.cell (p := ⟨rb, ro + k * 3, none⟩) hrb10).trans l0, (hV.cell (p := ⟨rb, ro + k * 3 + 1, none⟩) hrb10).trans l1, (hV.cell (p := ⟨rb, ro + k * 3 + 2, none⟩) hrb10).trans l2, (hV.cell (p := ⟨gx, 0, none⟩) hgx10).trans b10, (hV.cell (p := ⟨g10, 0, none⟩) hlt10).trans (cell_of_blk (j := 0) hg10 rfl), (hV.cell (p := ⟨g10, 1, none⟩) hlt10).trans (cell_of_blk (j := 1) hg10 rfl)⟩)
          have hHF := HFB1.out.fr u HU.out
          have HCB := Lib.hid (fun (V : World) (hV : NtR l S w4 tb SA sn sc (i * 300 + j * 12) V v' N') => climb_any S w4.heap.size tb sn sc x SA v' N' L vl y u.1 u.2 V hV.tl (by have := hV.n; omega) HSR.out.1 HSR.out.2.1 (HKS.out V v' N' _ hV) htl4 hV.go.gr.size (HKX.out V v' N' _ hV) (fun b hb => ⟨HV.out.foot_lt hb, by have := HVB.out b hb; omega⟩) (by have := HFB1.out.n2; omega) HFB1.out.as_ HY.out.1 (HKG.out V v' N' _ hV y HY.out.2) hHF.1 hHF.2.1 hHF.2.2)
          clear hXx hrow hcu hu hb10 hD hg10 l0 l1 l2 b10
          obtain ⟨yn, eyn⟩ : ∃ m, m = y.g.length := ⟨_, rfl⟩
          rw [← eyn] at HQ HCB
          have hyn : yn ≤ 10 := by rw [eyn]; exact HY.out.1.n.2
          clear eyn
          go_upto_region 15 with (fail)
          rw [← eg10, ← e10]
          clear eg10 e10 d0 d1
          go_upto_region 15 with (fail)
          refine qRegionTail 7 (by kernel_rfl) (by kernel_rfl) ?_
          simp only [List.take_succ_cons, List.take_zero, List.drop_succ_cons, List.drop_zero]
          repeat (first
            | (go_big_quiet_want; refine qVal (fun V hV => (by (obtain ⟨q0, q1, q2, q3, q4, q5⟩ := HQ.out V hV; go_simp; try rfl))) ?_; simp only [Act.put, List.setIfInBounds_toArray, List.set_cons_zero, List.set_cons_succ]; go_big_quiet_on)
            | go_big_quiet_skip)
          refine wpQuiet_nil ?_
          intro T hT
          have hTs := hT.size
          have HRT := Lib.hid (show NtR l S w4 tb SA sn sc (i * 300 + j * 12) T v' N' ∧ TlGo tb w9 T v v' from ⟨HR10.out.1.below hT (Nat.le_refl _), HR10.out.2.below hT⟩)
          clear hT
          go_wp2_with (fail)
          refine (HCB.out T HRT.out.1).mono ?_
          intro e w11 hc
          have HU' := HU.out
          rw [HNM.out.2] at hc HU'
          obtain ⟨rfl, v2, N2, h2, h3⟩ := HRT.out.1.climb (k' := i * 300 + (j + 1) * 12) HNM.out.1 HU' hc (by omega)
          have HR11 := Lib.hid (And.intro h2 (HRT.out.2.trans h3))
          clear hc h2 h3 HU'
          have HFL := Lib.hid (full_any w4.heap.size tb sn sc SA v2 N2 w11 HR11.out.1.tl (by have := HR11.out.1.n; omega))
          go_wp2_with (fail)
          refine HFL.out.mono ?_
          rintro e w12 ⟨rfl, hw12⟩
          subst hw12
          go_wp2_with (fail)
          go_roundw
          case rel => exact ⟨j + 1, v2, N2, by omega, by go_num, HR11.out⟩
          case measure => simp [intOf]; omega
        · have hjI : ¬ (j : Int) < nf := by omega
          have HRn := Lib.hid (HRx.out.1.below (Below.refl _ _) (show i * 300 + j * 12 ≤ (i + 1) * 300 by omega))
          go_wp2_with (fail)
          go_roundw
          case rel => exact ⟨i + 1, v', N', by omega, by go_num, HRn.out⟩
          case measure => simp [intOf]; omega
    · have hltI : ¬ (i : Int) < q := by omega
      obtain ⟨vA, vc, hv⟩ := own_slice HR.out.tl.row
      subst hv
      obtain ⟨m, em⟩ : ∃ m, m = N.length := ⟨_, rfl⟩
      have c3 : wr.cell? ⟨tb, 3, none⟩ = some (.slice vA m vc) := by rw [em]; exact cell_of_blk (j := 3) HR.out.tl.blk rfl
      have hm : m ≤ 4900 := by have := HR.out.n; omega
      have HSO := Lib.hid (sortN_any N m vc w4.heap.size vA wr em.symm (by omega) (by rw [em]; exact HR.out.tl.row))
      have HM := Lib.hid em
      have htr : tb < wr.heap.size := by omega
      clear em
      go_wp2_with (fail)
      refine HSO.out.mono ?_
      rintro e w13 ⟨rfl, N', hp, hl', ho, hg⟩
      have hne := own_ne HR.out.tl.row HR.out.tl.blk (by decide)
      rw [← HM.out] at hne
      have c3' : w13.cell? ⟨tb, 3, none⟩ = some (.slice vA m vc) := cell_of_blk (j := 3) ((hg.block tb htr hne).trans HR.out.tl.blk) (by rw [HM.out]; rfl)
      have htr' : tb < w13.heap.size := Nat.lt_of_lt_of_le htr hg.size
      have HFIN := Lib.hid (show NoticesP w l S (.returned (.tuple #[.slice vA m vc, .int .i64 0])) w13 from by
        refine ⟨N', vA, vc, m, rfl, hl', own_mono ho (by omega), fun z hz => HR.out.ok z (hp.mem_iff.1 hz), hm, ?_⟩
        have h1 : GrF w w4 (fun b => w.heap.size ≤ b) := GrF.of_below HB4.out _ (fun b h _ => h)
        have h2 : GrF w4 wr (fun b => w.heap.size ≤ b) := HR.out.go.gr.mono (fun b _ h => h.elim (fun e => by omega) (fun e => by cases e))
        have h3 : GrF wr w13 (fun b => w.heap.size ≤ b) := GrF.of_grown hg _ (fun b e => by have := (HR.out.tl.row.lt b (by rw [← HM.out]; exact e)).1; omega)
        exact ((h1.trans h2).trans h3).below (fun b _ h => h) (Nat.le_refl _))
      clear c3 hp hl' ho hg hne
      go_wp2_with (fail)
      exact bodyPost_ret (v := .tuple #[.slice vA m vc, .int .i64 0]) (by simp [results, Tryz.results13, go_sem]) rfl HFIN.out
end Go.Proofs.YtldohjamiofkpaaGreatDoor
