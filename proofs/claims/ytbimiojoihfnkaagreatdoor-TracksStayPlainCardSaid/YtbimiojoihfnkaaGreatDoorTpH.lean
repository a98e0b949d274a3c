/- Numbers that rise: slices.IsSorted, slices.IndexFunc with the law's own function. -/
import Derived.Test.YtbimiojoihfnkaaGreatDoorTpG
import Derived.Deep.RegionHeld3
namespace Go.Proofs.YtbimiojoihfnkaaGreatDoor
open Go.RowKit

theorem lessI_no (a b : Int) (w : World) (h : b ≤ a) : Calls Tryz.prog 103 #[.int .i64 a, .int .i64 b] w fun e w' => e = .returned (.bool false) ∧ w = w' := by
  go_enter Tryz.func103, Tryz.ntmps103
  go_wp2_with (go_at_call 179; refine (isNaN_any _ _).mono ?_; rintro e w' ⟨rfl, rfl⟩)
  go_ret
  exact ⟨by simp; exact h, rfl⟩
theorem tp1_any (j i : Int) (g : Nat) (w : World) (h : w.cell? ⟨g, 0, none⟩ = some (.int .i64 i)) :
    Calls Tryz.prog 39 #[.int .i64 j, .pointer (some ⟨g, 0, none⟩)] w fun e w' => e = .returned (.bool (decide (i ≤ j))) ∧ w = w' := by
  by_cases hij : i ≤ j
  · rw [decide_eq_true hij]
    go_enter Tryz.func39, Tryz.ntmps39
    go_wp2_with (fail)
    go_ret
    exact ⟨rfl, rfl⟩
  · rw [decide_eq_false hij]
    go_enter Tryz.func39, Tryz.ntmps39
    go_wp2_with (fail)
    go_ret
    exact ⟨rfl, rfl⟩
theorem nat_cell {w : World} {b o : Nat} {is : List Nat} (h : Cells w b o (recs natC is)) (k x : Nat) (hx : is[k]? = some x) : w.cell? ⟨b, o + k, none⟩ = some (.int .i64 (x : Int)) := by
  have := rec_cell natC_len h k x hx 0 _ rfl
  simpa using this

set_option maxRecDepth 100000 in
set_option maxHeartbeats 4000000 in
theorem idxI_any (is : List Nat) (m c i K g b o : Nat) (w : World) (hm : is.length = m) (hm2 : m ≤ 1000) (hc : Cells w b o (recs natC is)) (h0 : w.cell? ⟨g, 0, none⟩ = some (.int .i64 (i : Int))) (hK : K < m)
    (hlo : ∀ k x, k < K → is[k]? = some x → x < i) (hhi : ∀ x, is[K]? = some x → i ≤ x) :
    Calls Tryz.prog 38 #[.slice (some ⟨b, o, none⟩) m c, .func (.func 39) #[] #[.pointer (some ⟨g, 0, none⟩)]] w fun e w' => e = .returned (.int .i64 (K : Int)) ∧ w = w' := by
  have HLO := Lib.hid hlo
  have HHI := Lib.hid hhi
  have HC := Lib.hid hc
  clear hlo hhi hc
  go_enter Tryz.func38, Tryz.ntmps38
  go_wp2_with (fail)
  go_loopw [8] (fun s wr => ∃ k : Nat, k ≤ K ∧ s = .int .i64 (k : Int) ∧ w = wr) (fun s _ => m - (intOf s).toNat)
  case atStart => exact ⟨0, Nat.zero_le _, rfl, rfl⟩
  case round =>
    obtain ⟨k, hk, rfl, rfl⟩ := hrel
    obtain ⟨x, hx⟩ : ∃ x, is[k]? = some x := ⟨_, List.getElem?_eq_getElem (by omega)⟩
    have c0 := nat_cell HC.out k x hx
    have HX := Lib.hid hx
    have hkm : (k : Int) < (m : Int) := by omega
    have hk0 : (0 : Int) ≤ (k : Int) := by omega
    clear hx
    rcases Nat.lt_or_ge k K with hkK | hkK
    · have hlt := HLO.out k x hkK HX.out
      have hd : decide ((i : Int) ≤ (x : Int)) = false := by simp; omega
      have HT := Lib.hid ((tp1_any (x : Int) (i : Int) g w h0).mono (fun e w' h => by rw [hd] at h; exact h))
      clear hd
      go_wp2_with (fail)
      refine HT.out.mono ?_
      rintro e w' ⟨rfl, rfl⟩
      go_wp2_with (fail)
      go_roundw
      case rel => exact ⟨k + 1, by omega, by go_num, trivial⟩
      case measure => simp [intOf]; omega
    · obtain rfl : k = K := by omega
      have hge := HHI.out x HX.out
      have hd : decide ((i : Int) ≤ (x : Int)) = true := by simp; omega
      have HT := Lib.hid ((tp1_any (x : Int) (i : Int) g w h0).mono (fun e w' h => by rw [hd] at h; exact h))
      clear hd
      go_wp2_with (fail)
      refine HT.out.mono ?_
      rintro e w' ⟨rfl, rfl⟩
      go_wp2_with (fail)
      go_ret
      exact ⟨rfl, rfl⟩

set_option maxRecDepth 100000 in
set_option maxHeartbeats 4000000 in
theorem sortedI_yes (is : List Nat) (m c : Nat) (A : Option Addr) (w : World) (hm : is.length = m) (hm2 : m ≤ 1000) (hr : Row w w.heap.size A (recs natC is)) (hs : is.Pairwise (· < ·)) :
    Calls Tryz.prog 37 #[.slice A m c] w fun e w' => e = .returned (.bool true) ∧ Below w.heap.size w w' := by
  have HR := Lib.hid hr
  have HS := Lib.hid (fun (a b p q : Nat) (hab : a < b) (hp : is[a]? = some p) (hq : is[b]? = some q) => sorted_get hs hab hp hq)
  clear hr hs
  rcases Nat.eq_zero_or_pos m with h0 | h0
  · rw [h0]
    go_enter Tryz.func37, Tryz.ntmps37
    go_wp2_with (fail)
    refine wp_loop_rounds 1 ?_
    rw [rounds_succ]
    go_wp2_with (fail)
    go_ret
    exact ⟨rfl, Below.refl _ _⟩
  · obtain ⟨b, o, rfl, hb, hc⟩ := Row.posR natC_len (by omega) HR.out (by omega)
    have HC := Lib.hid hc
    clear hc
    have w0 : IntKind.i64.wrap ((m : Int) - 1) = ((m - 1 : Nat) : Int) := by rw [IntKind.wrap_i64]; omega
    go_enter Tryz.func37, Tryz.ntmps37
    go_wp2_with (fail)
    go_loopw [3] (fun s wr => ∃ k : Nat, k < m ∧ s = .int .i64 (k : Int) ∧ Below w.heap.size w wr) (fun s _ => (intOf s).toNat)
    case atStart => exact ⟨m - 1, by omega, rfl, Below.refl _ _⟩
    case round =>
      obtain ⟨k, hk, rfl, hbl⟩ := hrel
      have HBL := Lib.hid hbl
      rcases Nat.eq_zero_or_pos k with hk0 | hk0
      · subst hk0
        clear hbl
        go_wp2_with (fail)
        go_ret
        exact ⟨rfl, HBL.out⟩
      · obtain ⟨r, rfl⟩ : ∃ r, k = r + 1 := ⟨k - 1, by omega⟩
        obtain ⟨x, hx⟩ : ∃ x, is[r]? = some x := ⟨_, List.getElem?_eq_getElem (by omega)⟩
        obtain ⟨y, hy⟩ : ∃ y, is[r + 1]? = some y := ⟨_, List.getElem?_eq_getElem (by omega)⟩
        have hcr := HC.out.keep (hbl.block b hb)
        have c0 := nat_cell hcr r x hx
        have c1 := nat_cell hcr (r + 1) y hy
        have hxy := HS.out r (r + 1) x y (by omega) hx hy
        have HL := Lib.hid (fun V => lessI_no (y : Int) (x : Int) V (by omega))
        have wr1 : IntKind.i64.wrap (((r + 1 : Nat) : Int) - 1) = (r : Int) := by rw [IntKind.wrap_i64]; omega
        have hp : (0 : Int) < ((r + 1 : Nat) : Int) := by omega
        have hkm : ((r + 1 : Nat) : Int) < (m : Int) := by omega
        have hkm1 : (r : Int) + 1 < (m : Int) := by omega
        have hkm2 : (0 : Int) ≤ (r : Int) + 1 := by omega
        have hkm3 : ((r : Int) + 1).toNat = r + 1 := by omega
        have wr2 : IntKind.i64.wrap (r : Int) = (r : Int) := by rw [IntKind.wrap_i64]; omega
        have hr0 : (0 : Int) ≤ (r : Int) := by omega
        have hrm : (r : Int) < (m : Int) := by omega
        have hbw : b < wr.heap.size := by have := hbl.size; omega
        have e1 : ((r + 1 : Nat) : Int).toNat = r + 1 := by omega
        have hp0 : (0 : Int) ≤ ((r + 1 : Nat) : Int) := by omega
        have HKEEP := Lib.hid (fun (V : World) (hV : Below wr.heap.size wr V) => show V.cell? ⟨b, o + r, none⟩ = some (.int .i64 (x : Int)) ∧ V.cell? ⟨b, o + (r + 1), none⟩ = some (.int .i64 (y : Int)) from ⟨(hV.cell (p := ⟨b, o + r, none⟩) hbw).trans c0, (hV.cell (p := ⟨b, o + (r + 1), none⟩) hbw).trans c1⟩)
        clear hbl hcr hx hy hxy
        go_wp2_with (fail)
        go_region_held3 (fun V => V.cell? ⟨b, o + r, none⟩ = some (.int .i64 (x : Int)) ∧ V.cell? ⟨b, o + (r + 1), none⟩ = some (.int .i64 (y : Int)))
          (first | go_keep | (exact hS))
          (first | (go_at_call 103; refine (HL.out _).mono ?_; rintro e wA ⟨rfl, rfl⟩; have hS := HKEEP.out wr.drew ((Below.refl _ _).drew)))
        all_goals
          go_wp2_with (fail)
          go_roundw
          case rel => exact ⟨r, by omega, by go_num, below_drewN HBL.out _⟩
          case measure => simp [intOf]
end Go.Proofs.YtbimiojoihfnkaaGreatDoor
