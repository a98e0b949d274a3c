/- TopCellsAndFences: slices.Contains and slices.ContainsFunc of keys by their contracts. -/
import Derived.Test.YtdkldbfhbpmjgaaGreatDoorClC
import Derived.Test.YtdkldbfhbpmjgaaGreatDoorTcP
namespace Go.Proofs.YtdkldbfhbpmjgaaGreatDoor
open Go.RowKit

theorem kyT_cell {w : World} {b o : Nat} {F : List (List Nat)} (h : Cells w b o (recs kyC F)) (k : Nat) (x : List Nat) (hx : F[k]? = some x) : w.cell? ⟨b, o + k, none⟩ = some (.string (kyB x)) := by
  have := rec_cell kyC_len h k x hx 0 _ rfl
  simpa using this
/-- Some number that is from 0 on if something holds; some bool that is true if something holds. -/
def IfPost (C : Prop) (w : World) (e : Ending) (w' : World) : Prop := ∃ r : Int, e = .returned (.int .i64 r) ∧ (C → 0 ≤ r) ∧ Below w.heap.size w w'
def IfBool (C : Prop) (w : World) (e : Ending) (w' : World) : Prop := ∃ t : Bool, e = .returned (.bool t) ∧ (C → t = true) ∧ Below w.heap.size w w'

set_option maxRecDepth 100000 in
set_option maxHeartbeats 2000000 in
theorem indexT_any (F : List (List Nat)) (x : List Nat) (n c : Nat) (A : Option Addr) (w : World) (hn : F.length = n) (hn5 : n ≤ 5000) (hr : Row w w.heap.size A (recs kyC F)) :
    Calls Tryz.prog 40 #[.slice A n c, .string (kyB x)] w fun e w' => IfPost (x ∈ F) w e w' := by
  have HR := Lib.hid hr
  have HN := Lib.hid hn
  obtain ⟨s, es⟩ : ∃ s, s = kyB x := ⟨_, rfl⟩
  have HS := Lib.hid es
  rw [← es]
  clear hr hn es
  go_enter Tryz.func40, Tryz.ntmps40
  go_wp2_with (fail)
  go_loopw [8] (fun i wr => ∃ k : Nat, k ≤ n ∧ i = .int .i64 k ∧ (∀ (j : Nat) (y : List Nat), j < k → F[j]? = some y → kyB y ≠ s) ∧ Below w.heap.size w wr) (fun i _ => n - (intOf i).toNat)
  case atStart => exact ⟨0, Nat.zero_le _, rfl, fun j y hj => by omega, Below.refl _ _⟩
  case round =>
    obtain ⟨k, hk, rfl, hno, hbl⟩ := hrel
    have hsz := hbl.size
    have HBL := Lib.hid hbl
    have HNO := Lib.hid hno
    by_cases hlt : k < n
    · obtain ⟨b, o, rfl, hb, hc⟩ := Row.posR kyC_len (by omega) HR.out (by have := HN.out; omega)
      obtain ⟨y, hy⟩ : ∃ y, F[k]? = some y := ⟨_, List.getElem?_eq_getElem (by have := HN.out; omega)⟩
      have c0 := kyT_cell (hc.keep (hbl.block b hb)) k y hy
      have HY := Lib.hid hy
      obtain ⟨t, et⟩ : ∃ t, t = kyB y := ⟨_, rfl⟩
      rw [← et] at c0
      have HT := Lib.hid et
      have hlt' : (k : Int) < (n : Int) := by omega
      have hk0 : (0 : Int) ≤ (k : Int) := by omega
      clear hbl hno hy et hc
      by_cases hst : s = t
      · have hb1 : (s.toList == t.toList) = true := by rw [hst]; simp
        clear hst
        go_wp2_with (fail)
        go_ret
        exact ⟨k, rfl, fun _ => by omega, HBL.out⟩
      · have hb1 : (s.toList == t.toList) = false := by
          rw [Bool.eq_false_iff]
          intro h
          have h2 : s.toList = t.toList := by simpa using h
          rw [ByteArray.toList_eq, ByteArray.toList_eq] at h2
          refine hst ?_
          obtain ⟨⟨l1⟩⟩ := s
          obtain ⟨⟨l2⟩⟩ := t
          simp only at h2
          rw [h2]
        have HST := Lib.hid hst
        clear hst
        go_wp2_with (fail)
        go_roundw
        case rel =>
          refine ⟨k + 1, by omega, by go_num, ?_, HBL.out⟩
          intro j z hj hz
          rcases Nat.lt_or_ge j k with h | h
          · exact HNO.out j z h hz
          · obtain rfl : j = k := by omega
            rw [HY.out] at hz
            injection hz with hz
            rw [← hz, ← HT.out]
            exact fun e => HST.out e.symm
        case measure => simp [intOf]; omega
    · have HNI := Lib.hid (show ¬ x ∈ F from fun hx => by
        obtain ⟨j, hj⟩ := List.mem_iff_getElem?.1 hx
        have hjl := (List.getElem?_eq_some_iff.1 hj).1
        exact HNO.out j x (by have := HN.out; omega) hj HS.out.symm)
      clear hbl hno
      go_wp2_with (fail)
      go_ret
      exact ⟨-1, rfl, fun h => absurd h HNI.out, HBL.out⟩
theorem containsT_any (F : List (List Nat)) (x : List Nat) (n c : Nat) (A : Option Addr) (w : World) (hn : F.length = n) (hn5 : n ≤ 5000) (hr : Row w w.heap.size A (recs kyC F)) :
    Calls Tryz.prog 16 #[.slice A n c, .string (kyB x)] w fun e w' => IfBool (x ∈ F) w e w' := by
  have HIX := Lib.hid (indexT_any F x n c A w hn hn5 hr)
  obtain ⟨s, es⟩ : ∃ s, s = kyB x := ⟨_, rfl⟩
  rw [← es] at HIX ⊢
  clear es hr
  go_enter Tryz.func16, Tryz.ntmps16
  go_wp2_with (fail)
  refine HIX.out.mono ?_
  rintro e w1 ⟨r, rfl, hr0, hb1⟩
  have HB1 := Lib.hid hb1
  have HR0 := Lib.hid hr0
  clear hb1 hr0
  go_wp2_with (fail)
  go_ret
  exact ⟨_, rfl, fun h => by have := HR0.out h; simp; exact this, HB1.out⟩
/-- The law's own function: is a key among those of the other fence? -/
theorem tc1_any (G : List (List Nat)) (x : List Nat) (m c q : Nat) (A : Option Addr) (w : World) (hm : G.length = m) (hm5 : m ≤ 5000) (hr : Row w w.heap.size A (recs kyC G)) (h0 : w.cell? ⟨q, 0, none⟩ = some (.slice A m c)) :
    Calls Tryz.prog 15 #[.string (kyB x), .pointer (some ⟨q, 0, none⟩)] w fun e w' => IfBool (x ∈ G) w e w' := by
  have HCT := Lib.hid (containsT_any G x m c A w hm hm5 hr)
  obtain ⟨s, es⟩ : ∃ s, s = kyB x := ⟨_, rfl⟩
  rw [← es] at HCT ⊢
  clear es hr
  go_enter Tryz.func15, Tryz.ntmps15
  go_wp2_with (fail)
  refine HCT.out.mono ?_
  rintro e w1 ⟨t, rfl, ht, hb1⟩
  have HB1 := Lib.hid hb1
  have HT := Lib.hid ht
  clear hb1 ht
  go_wp2_with (fail)
  go_ret
  exact ⟨t, rfl, HT.out, HB1.out⟩

set_option maxRecDepth 100000 in
set_option maxHeartbeats 2000000 in
theorem indexFT_any (F G : List (List Nat)) (N n c : Nat) (cap : Value) (A : Option Addr) (w : World) (hn : F.length = n) (hn5 : n ≤ 5000) (hr : Row w w.heap.size A (recs kyC F))
    (hrun : ∀ (args : Array Value) (V : World), (callFunc N args).run Tryz.prog V = .ok (.enter N args) V)
    (hf : ∀ (V : World) (x : List Nat), Below w.heap.size w V → Calls Tryz.prog N #[.string (kyB x), cap] V fun e w' => IfBool (x ∈ G) V e w') :
    Calls Tryz.prog 39 #[.slice A n c, .func (.func N) #[] #[cap]] w fun e w' => IfPost (∃ x, x ∈ F ∧ x ∈ G) w e w' := by
  have HR := Lib.hid hr
  have HN := Lib.hid hn
  have HF := Lib.hid hf
  clear hr hn hf
  go_enter Tryz.func39, Tryz.ntmps39
  go_wp2_with (fail)
  go_loopw [8] (fun i wr => ∃ k : Nat, k ≤ n ∧ i = .int .i64 k ∧ (∀ (j : Nat) (y : List Nat), j < k → F[j]? = some y → ¬ y ∈ G) ∧ Below w.heap.size w wr) (fun i _ => n - (intOf i).toNat)
  case atStart => exact ⟨0, Nat.zero_le _, rfl, fun j y hj => by omega, Below.refl _ _⟩
  case round =>
    obtain ⟨k, hk, rfl, hno, hbl⟩ := hrel
    have hsz := hbl.size
    have HBL := Lib.hid hbl
    have HNO := Lib.hid hno
    by_cases hlt : k < n
    · obtain ⟨b, o, rfl, hb, hc⟩ := Row.posR kyC_len (by omega) HR.out (by have := HN.out; omega)
      obtain ⟨y, hy⟩ : ∃ y, F[k]? = some y := ⟨_, List.getElem?_eq_getElem (by have := HN.out; omega)⟩
      have c0 := kyT_cell (hc.keep (hbl.block b hb)) k y hy
      have HY := Lib.hid hy
      have HCALL := Lib.hid (HF.out wr y hbl)
      obtain ⟨t, et⟩ : ∃ t, t = kyB y := ⟨_, rfl⟩
      rw [← et] at c0 HCALL
      have hlt' : (k : Int) < (n : Int) := by omega
      have hk0 : (0 : Int) ≤ (k : Int) := by omega
      clear hbl hno hy et hc
      go_wp2_with (fail)
      refine HCALL.out.mono ?_
      rintro e w1 ⟨v, rfl, hv, hb1⟩
      have HV := Lib.hid hv
      have HB1 := Lib.hid (HBL.out.trans (hb1.mono hsz))
      clear hv hb1
      cases v with
      | true =>
        go_wp2_with (fail)
        go_ret
        exact ⟨k, rfl, fun _ => by omega, HB1.out⟩
      | false =>
        go_wp2_with (fail)
        go_roundw
        case rel =>
          refine ⟨k + 1, by omega, by go_num, ?_, HB1.out⟩
          intro j z hj hz
          rcases Nat.lt_or_ge j k with h | h
          · exact HNO.out j z h hz
          · obtain rfl : j = k := by omega
            rw [HY.out] at hz
            injection hz with hz
            rw [← hz]
            exact fun h => by cases HV.out h
        case measure => simp [intOf]; omega
    · have HNI := Lib.hid (show ¬ ∃ x, x ∈ F ∧ x ∈ G from fun ⟨x, hx, hg⟩ => by
        obtain ⟨j, hj⟩ := List.mem_iff_getElem?.1 hx
        have hjl := (List.getElem?_eq_some_iff.1 hj).1
        exact HNO.out j x (by have := HN.out; omega) hj hg)
      clear hbl hno
      go_wp2_with (fail)
      go_ret
      exact ⟨-1, rfl, fun h => absurd h HNI.out, HBL.out⟩
theorem containsFT_any (F G : List (List Nat)) (N n c : Nat) (cap : Value) (A : Option Addr) (w : World) (hn : F.length = n) (hn5 : n ≤ 5000) (hr : Row w w.heap.size A (recs kyC F))
    (hrun : ∀ (args : Array Value) (V : World), (callFunc N args).run Tryz.prog V = .ok (.enter N args) V)
    (hf : ∀ (V : World) (x : List Nat), Below w.heap.size w V → Calls Tryz.prog N #[.string (kyB x), cap] V fun e w' => IfBool (x ∈ G) V e w') :
    Calls Tryz.prog 14 #[.slice A n c, .func (.func N) #[] #[cap]] w fun e w' => IfBool (∃ x, x ∈ F ∧ x ∈ G) w e w' := by
  have HIX := Lib.hid (indexFT_any F G N n c cap A w hn hn5 hr hrun hf)
  clear hf hr
  go_enter Tryz.func14, Tryz.ntmps14
  go_wp2_with (fail)
  refine HIX.out.mono ?_
  rintro e w1 ⟨r, rfl, hr0, hb1⟩
  have HB1 := Lib.hid hb1
  have HR0 := Lib.hid hr0
  clear hb1 hr0
  go_wp2_with (fail)
  go_ret
  exact ⟨_, rfl, fun h => by have := HR0.out h; simp; exact this, HB1.out⟩
/-- What a fence's cells are. -/
structure CfT (l : List Pt) (lev : Nat) (F : List (List Nat)) : Prop where
  has : F.length ≤ 1000 → ∀ p : Pt, (∀ n, n ≤ 15 → tcB l (bxL (cellD p n)) = true) → cellD p lev ∈ F
theorem cfT_ok (l : List Pt) (lev : Nat) (hlev : lev ≤ 12) : CfT l lev (clF l lev [] []) := by
  obtain ⟨N, e, h⟩ := clF_ok l lev [] []
  rw [e]
  simp only [List.nil_append]
  refine ⟨fun hl p hp => ?_⟩
  have := h.all (by simpa using hl) (cellD p lev) (cellD_length p lev) (cellD_ds p lev) (by
    intro j hj
    rw [List.nil_append, cellD_take p lev j hj]
    exact hp j (by omega))
  simpa using this
end Go.Proofs.YtdkldbfhbpmjgaaGreatDoor
