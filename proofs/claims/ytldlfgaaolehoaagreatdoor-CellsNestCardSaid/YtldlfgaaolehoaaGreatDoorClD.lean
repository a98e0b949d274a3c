/- Keys in a row: slices.Contains, slices.IsSorted of strings by their contracts. -/
import Derived.Test.YtldlfgaaolehoaaGreatDoorClC
import Derived.Deep.RegionHeld3
namespace Go.Proofs.YtldlfgaaolehoaaGreatDoor
open Go.RowKit

theorem dg_lt (a b : Nat) (ha : a < 4) (hb : b < 4) (h : a < b) : decide (UInt8.ofNat (48 + b) < UInt8.ofNat (48 + a)) = false ∧ (UInt8.ofNat (48 + b) == UInt8.ofNat (48 + a)) = false := by
  have h1 : a = 0 ∨ a = 1 ∨ a = 2 ∨ a = 3 := by omega
  have h2 : b = 0 ∨ b = 1 ∨ b = 2 ∨ b = 3 := by omega
  rcases h1 with rfl | rfl | rfl | rfl <;> rcases h2 with rfl | rfl | rfl | rfl <;> first | omega | (constructor <;> decide)
theorem lt_bytes {a b : List Nat} (h : ltD a b) (ha : isDs a) (hb : isDs b) : Op.bytesLess (b.map (fun d => UInt8.ofNat (48 + d))) (a.map (fun d => UInt8.ofNat (48 + d))) = false := by
  induction h with
  | nil => rfl
  | rel h =>
    rename_i x _ y _
    obtain ⟨h1, h2⟩ := dg_lt x y (ha x (by simp)) (hb y (by simp)) h
    simp only [List.map_cons, Op.bytesLess]
    rw [h2, h1]
    rfl
  | cons h ih =>
    rename_i x _ _
    simp only [List.map_cons, Op.bytesLess]
    rw [ih (fun z hz => ha z (by simp [hz])) (fun z hz => hb z (by simp [hz]))]
    simp
theorem kyB_list (ds : List Nat) : (kyB ds).toList = ds.map (fun d => UInt8.ofNat (48 + d)) := by unfold kyB; simp
theorem ky_cell {w : World} {b o : Nat} {F : List (List Nat)} (h : Cells w b o (recs kyC F)) (k : Nat) (x : List Nat) (hx : F[k]? = some x) : w.cell? ⟨b, o + k, none⟩ = some (.string (kyB x)) := by
  have := rec_cell kyC_len h k x hx 0 _ rfl
  simpa using this
theorem isNaNS_any (s : ByteArray) (w : World) : Calls Tryz.prog 173 #[.string s] w fun e w' => e = .returned (.bool false) ∧ w = w' := by
  go_enter Tryz.func173, Tryz.ntmps173
  go_wp2_with (fail)
  go_ret
  exact ⟨by simp, rfl⟩
theorem lessS_any (s t : ByteArray) (w : World) (h : Op.bytesLess s.toList t.toList = false) : Calls Tryz.prog 113 #[.string s, .string t] w fun e w' => e = .returned (.bool false) ∧ w = w' := by
  go_enter Tryz.func113, Tryz.ntmps113
  go_wp2_with (go_at_call 173; refine (isNaNS_any _ _).mono ?_; rintro e w' ⟨rfl, rfl⟩)
  go_ret
  exact ⟨by simp, rfl⟩

set_option maxRecDepth 100000 in
set_option maxHeartbeats 2000000 in
theorem indexS_yes (F : List (List Nat)) (x : List Nat) (n c b o : Nat) (w : World) (hn : F.length = n) (hn5 : n ≤ 5000) (hx : x ∈ F) (hc : Cells w b o (recs kyC F)) (hb : b < w.heap.size) :
    Calls Tryz.prog 83 #[.slice (some ⟨b, o, none⟩) n c, .string (kyB x)] w fun e w' => (∃ r : Nat, e = .returned (.int .i64 (r : Int))) ∧ Below w.heap.size w w' := by
  have HC := Lib.hid hc
  have HX := Lib.hid hx
  have HN := Lib.hid hn
  obtain ⟨s, es⟩ : ∃ s, s = kyB x := ⟨_, rfl⟩
  have HS := Lib.hid es
  rw [← es]
  clear hc hx hn es
  go_enter Tryz.func83, Tryz.ntmps83
  go_wp2_with (fail)
  go_loopw [8] (fun i wr => ∃ k : Nat, k ≤ n ∧ i = .int .i64 k ∧ (∀ (j : Nat) (y : List Nat), j < k → F[j]? = some y → kyB y ≠ s) ∧ Below w.heap.size w wr) (fun i _ => n - (intOf i).toNat)
  case atStart => exact ⟨0, Nat.zero_le _, rfl, fun j y hj => by omega, Below.refl _ _⟩
  case round =>
    obtain ⟨k, hk, rfl, hno, hbl⟩ := hrel
    have hsz := hbl.size
    have HBL := Lib.hid hbl
    have HNO := Lib.hid hno
    by_cases hlt : k < n
    · obtain ⟨y, hy⟩ : ∃ y, F[k]? = some y := ⟨_, List.getElem?_eq_getElem (by have := HN.out; omega)⟩
      have c0 := ky_cell (HC.out.keep (hbl.block b hb)) k y hy
      have HY := Lib.hid hy
      obtain ⟨t, et⟩ : ∃ t, t = kyB y := ⟨_, rfl⟩
      rw [← et] at c0
      have HT := Lib.hid et
      have hlt' : (k : Int) < (n : Int) := by omega
      have hk0 : (0 : Int) ≤ (k : Int) := by omega
      clear hbl hno hy et
      by_cases hst : s = t
      · have hb1 : (s.toList == t.toList) = true := by rw [hst]; simp
        clear hst
        go_wp2_with (fail)
        go_ret
        exact ⟨⟨k, rfl⟩, HBL.out⟩
      · have hb1 : (s.toList == t.toList) = false := by
          rw [Bool.eq_false_iff]
          intro h
          have h2 : s.toList = t.toList := by simpa using h
          rw [ByteArray.toList_eq, ByteArray.toList_eq] at h2
          refine hst ?_
          obtain ⟨⟨l1⟩⟩ := s
          obtain ⟨⟨l2⟩⟩ := t
          simp only at h2
          rw [h2]
        have HST := Lib.hid hst
        clear hst
        go_wp2_with (fail)
        go_roundw
        case rel =>
          refine ⟨k + 1, by omega, by go_num, ?_, HBL.out⟩
          intro j z hj hz
          rcases Nat.lt_or_ge j k with h | h
          · exact HNO.out j z h hz
          · obtain rfl : j = k := by omega
            rw [HY.out] at hz
            injection hz with hz
            rw [← hz, ← HT.out]
            exact fun e => HST.out e.symm
        case measure => simp [intOf]; omega
    · exfalso
      obtain ⟨j, hj⟩ := List.mem_iff_getElem?.1 HX.out
      have hjl := (List.getElem?_eq_some_iff.1 hj).1
      exact HNO.out j x (by have := HN.out; omega) hj HS.out.symm
theorem containsS_yes (F : List (List Nat)) (x : List Nat) (n c b o : Nat) (w : World) (hn : F.length = n) (hn5 : n ≤ 5000) (hx : x ∈ F) (hc : Cells w b o (recs kyC F)) (hb : b < w.heap.size) :
    Calls Tryz.prog 28 #[.slice (some ⟨b, o, none⟩) n c, .string (kyB x)] w fun e w' => e = .returned (.bool true) ∧ Below w.heap.size w w' := by
  have HIX := Lib.hid (indexS_yes F x n c b o w hn hn5 hx hc hb)
  obtain ⟨s, es⟩ : ∃ s, s = kyB x := ⟨_, rfl⟩
  rw [← es] at HIX ⊢
  clear es hc hx
  go_enter Tryz.func28, Tryz.ntmps28
  go_wp2_with (fail)
  refine HIX.out.mono ?_
  rintro e w1 ⟨⟨r, rfl⟩, hb1⟩
  have HB1 := Lib.hid hb1
  have hr0 : (0 : Int) ≤ (r : Int) := by omega
  clear hb1
  go_wp2_with (fail)
  go_ret
  exact ⟨ret_boolB (by simp), HB1.out⟩

set_option maxRecDepth 100000 in
set_option maxHeartbeats 4000000 in
theorem sortedS_yes (F : List (List Nat)) (m c : Nat) (A : Option Addr) (w : World) (hm : F.length = m) (hm2 : m ≤ 2000) (hr : Row w w.heap.size A (recs kyC F)) (hd : ∀ x ∈ F, isDs x) (hs : F.Pairwise ltD) :
    Calls Tryz.prog 54 #[.slice A m c] w fun e w' => e = .returned (.bool true) ∧ Below w.heap.size w w' := by
  have HR := Lib.hid hr
  have HS := Lib.hid (fun (r : Nat) (x y : List Nat) (hx : F[r]? = some x) (hy : F[r + 1]? = some y) => show Op.bytesLess (kyB y).toList (kyB x).toList = false from by
    rw [kyB_list, kyB_list]
    refine lt_bytes ?_ (hd x (List.mem_of_getElem? hx)) (hd y (List.mem_of_getElem? hy))
    rw [List.pairwise_iff_getElem] at hs
    obtain ⟨a1, a2⟩ := List.getElem?_eq_some_iff.1 hx
    obtain ⟨b1, b2⟩ := List.getElem?_eq_some_iff.1 hy
    have := hs r (r + 1) a1 b1 (by omega)
    rwa [a2, b2] at this)
  clear hr hs hd
  rcases Nat.eq_zero_or_pos m with h0 | h0
  · rw [h0]
    go_enter Tryz.func54, Tryz.ntmps54
    go_wp2_with (fail)
    refine wp_loop_rounds 1 ?_
    rw [rounds_succ]
    go_wp2_with (fail)
    go_ret
    exact ⟨rfl, Below.refl _ _⟩
  · obtain ⟨b, o, rfl, hb, hc⟩ := Row.posR kyC_len (by omega) HR.out (by omega)
    have HC := Lib.hid hc
    clear hc
    have w0 : IntKind.i64.wrap ((m : Int) - 1) = ((m - 1 : Nat) : Int) := by rw [IntKind.wrap_i64]; omega
    go_enter Tryz.func54, Tryz.ntmps54
    go_wp2_with (fail)
    go_loopw [3] (fun s wr => ∃ k : Nat, k < m ∧ s = .int .i64 (k : Int) ∧ Below w.heap.size w wr) (fun s _ => (intOf s).toNat)
    case atStart => exact ⟨m - 1, by omega, rfl, Below.refl _ _⟩
    case round =>
      obtain ⟨k, hk, rfl, hbl⟩ := hrel
      have HBL := Lib.hid hbl
      rcases Nat.eq_zero_or_pos k with hk0 | hk0
      · subst hk0
        clear hbl
        go_wp2_with (fail)
        go_ret
        exact ⟨rfl, HBL.out⟩
      · obtain ⟨r, rfl⟩ : ∃ r, k = r + 1 := ⟨k - 1, by omega⟩
        obtain ⟨x, hx⟩ : ∃ x, F[r]? = some x := ⟨_, List.getElem?_eq_getElem (by omega)⟩
        obtain ⟨y, hy⟩ : ∃ y, F[r + 1]? = some y := ⟨_, List.getElem?_eq_getElem (by omega)⟩
        have hcr := HC.out.keep (hbl.block b hb)
        have c0 := ky_cell hcr r x hx
        have c1 := ky_cell hcr (r + 1) y hy
        have hxy := HS.out r x y hx hy
        have HL := Lib.hid (fun V => lessS_any (kyB y) (kyB x) V hxy)
        obtain ⟨s, es⟩ : ∃ s, s = kyB x := ⟨_, rfl⟩
        obtain ⟨t, et⟩ : ∃ s, s = kyB y := ⟨_, rfl⟩
        rw [← es] at c0 HL
        rw [← et] at c1 HL
        have wr1 : IntKind.i64.wrap (((r + 1 : Nat) : Int) - 1) = (r : Int) := by rw [IntKind.wrap_i64]; omega
        have hp : (0 : Int) < ((r + 1 : Nat) : Int) := by omega
        have hkm : ((r + 1 : Nat) : Int) < (m : Int) := by omega
        have hkm1 : (r : Int) + 1 < (m : Int) := by omega
        have hkm2 : (0 : Int) ≤ (r : Int) + 1 := by omega
        have hkm3 : ((r : Int) + 1).toNat = r + 1 := by omega
        have wr2 : IntKind.i64.wrap (r : Int) = (r : Int) := by rw [IntKind.wrap_i64]; omega
        have hr0 : (0 : Int) ≤ (r : Int) := by omega
        have hrm : (r : Int) < (m : Int) := by omega
        have hbw : b < wr.heap.size := by have := hbl.size; omega
        have e1 : ((r + 1 : Nat) : Int).toNat = r + 1 := by omega
        have hp0 : (0 : Int) ≤ ((r + 1 : Nat) : Int) := by omega
        have HKEEP := Lib.hid (fun (V : World) (hV : Below wr.heap.size wr V) => show V.cell? ⟨b, o + r, none⟩ = some (.string s) ∧ V.cell? ⟨b, o + (r + 1), none⟩ = some (.string t) from ⟨(hV.cell (p := ⟨b, o + r, none⟩) hbw).trans c0, (hV.cell (p := ⟨b, o + (r + 1), none⟩) hbw).trans c1⟩)
        clear hbl hcr hx hy hxy es et
        go_wp2_with (fail)
        go_region_held3 (fun V => V.cell? ⟨b, o + r, none⟩ = some (.string s) ∧ V.cell? ⟨b, o + (r + 1), none⟩ = some (.string t))
          (first | go_keep | (exact hS))
          (first | (go_at_call 113; refine (HL.out _).mono ?_; rintro e wA ⟨rfl, rfl⟩; have hS := HKEEP.out wr.drew ((Below.refl _ _).drew)))
        all_goals
          go_wp2_with (fail)
          go_roundw
          case rel => exact ⟨r, by omega, by go_num, below_drewN HBL.out _⟩
          case measure => simp [intOf]
end Go.Proofs.YtldlfgaaolehoaaGreatDoor
