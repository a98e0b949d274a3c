/- Fences: slices.Index and slices.Contains of spots, fleetref2.SpotFault, fleetref2.edge by their contracts. -/
import Derived.Test.YthplhibdapjjgaaGreatDoorFeC
import Derived.Test.YthplhibdapjjgaaGreatDoorQt
import Derived.Deep.RegionLawGrows
namespace Go.Proofs.YthplhibdapjjgaaGreatDoor
open Go.RowKit

theorem inF_yes (x lo hi : Int) (w : World) (h1 : lo ≤ x) (h2 : x ≤ hi) : Calls Tryz.prog 97 #[.int .i64 x, .int .i64 lo, .int .i64 hi] w fun e w' => e = .returned (.bool true) ∧ w = w' := by
  go_enter Tryz.func97, Tryz.ntmps97
  go_wp2_with (fail)
  go_ret
  exact ⟨by simp, rfl⟩
theorem spotFault_ok (s : Pt) (w : World) (hs : SpN s) : Calls Tryz.prog 56 #[ptV s] w fun e w' => e = .returned (.int .i64 0) ∧ Below w.heap.size w w' := by
  obtain ⟨sx, sy⟩ := s
  have h1 := hs.x0; have h2 := hs.x1; have h3 := hs.y0; have h4 := hs.y1
  unfold ptV
  simp only at h1 h2 h3 h4 ⊢
  clear hs
  go_enter Tryz.func56, Tryz.ntmps56
  go_wp2_with (go_at_call 97; refine (inF_yes _ _ _ _ (by omega) (by omega)).mono ?_; rintro e w' ⟨rfl, rfl⟩)
  go_ret
  exact ⟨rfl, (Below.refl _ _).alloc (Nat.le_refl _) _⟩

set_option maxRecDepth 100000 in
set_option maxHeartbeats 2000000 in
theorem indexP_any (l : List Pt) (n c : Nat) (A : Option Addr) (s : Pt) (w : World) (hn : l.length = n) (hn5 : n ≤ 5000) (hr : Row w w.heap.size A (recs ptC l)) :
    Calls Tryz.prog 98 #[.slice A n c, ptV s] w fun e w' => (∃ r : Int, e = .returned (.int .i64 r) ∧ (0 ≤ r ↔ s ∈ l)) ∧ Below w.heap.size w w' := by
  have HR := Lib.hid hr
  clear hr
  obtain ⟨sx, sy⟩ := s
  unfold ptV
  simp only
  have hnew := heap_new w (.cells #[.int .i64 sx, .int .i64 sy] 37)
  have HNEW := Lib.hid hnew
  clear hnew
  go_enter Tryz.func98, Tryz.ntmps98
  go_wp2_with (fail)
  go_loopw [8] (fun i wr => ∃ k : Nat, k ≤ n ∧ i = .int .i64 k ∧ (sx, sy) ∉ l.take k ∧ wr.heap[w.heap.size]? = some (.cells #[.int .i64 sx, .int .i64 sy] 37 (0, 0)) ∧ Below w.heap.size w wr) (fun i _ => n - (intOf i).toNat)
  case atStart => exact ⟨0, Nat.zero_le _, rfl, by simp, HNEW.out, (Below.refl _ _).alloc (Nat.le_refl _) _⟩
  case round =>
    obtain ⟨k, hk, rfl, hno, hq, hbl⟩ := hrel
    by_cases hlt : k < n
    · obtain ⟨b, o, rfl, hb, hc⟩ := Row.posR ptC_len (by omega) HR.out (by omega)
      obtain ⟨y, hy⟩ : ∃ y, l[k]? = some y := ⟨_, List.getElem?_eq_getElem (by omega)⟩
      obtain ⟨c0, c1⟩ := pt_cells (hc.keep (hbl.block b hb)) k y hy
      have q0 := cell_of_blk (j := 0) hq rfl
      have q1 := cell_of_blk (j := 1) hq rfl
      have HTK := Lib.hid (show l.take (k + 1) = l.take k ++ [y] by rw [List.take_add_one, hy]; rfl)
      have HNO := Lib.hid hno
      have HBL := Lib.hid hbl
      have HQ := Lib.hid hq
      have HY := Lib.hid (List.mem_of_getElem? hy)
      obtain ⟨yx, yy⟩ := y
      simp only at c0 c1
      have hlt' : (k : Int) < (n : Int) := by omega
      have hk0 : (0 : Int) ≤ (k : Int) := by omega
      clear hbl hy hno hq hc
      by_cases h1 : sx = yx
      · subst h1
        by_cases h2 : sy = yy
        · subst h2
          go_wp2_with (fail)
          go_quiet (fail)
          go_wp2_with (fail)
          go_ret
          exact ⟨⟨k, rfl, fun _ => HY.out, fun _ => by omega⟩, below_drewN HBL.out _⟩
        · have h2b : (sy == yy) = false := by simpa using h2
          go_wp2_with (fail)
          go_quiet (fail)
          go_wp2_with (fail)
          go_roundw
          case rel =>
            refine ⟨k + 1, by omega, by go_num, ?_, HQ.out, below_drewN HBL.out _⟩
            rw [HTK.out]
            intro hz
            rcases List.mem_append.1 hz with hz | hz
            · exact HNO.out hz
            · rw [List.mem_singleton] at hz; injection hz with _ e; exact h2 e
          case measure => simp [intOf]; omega
      · have h1b : (sx == yx) = false := by simpa using h1
        go_wp2_with (fail)
        go_quiet (fail)
        go_wp2_with (fail)
        go_roundw
        case rel =>
          refine ⟨k + 1, by omega, by go_num, ?_, HQ.out, below_drewN HBL.out _⟩
          rw [HTK.out]
          intro hz
          rcases List.mem_append.1 hz with hz | hz
          · exact HNO.out hz
          · rw [List.mem_singleton] at hz; injection hz with e _; exact h1 e
        case measure => simp [intOf]; omega
    · have HNO := Lib.hid hno
      have HTA := Lib.hid (show l.take k = l from List.take_of_length_le (by omega))
      clear hq hno
      have HBL := Lib.hid hbl
      clear hbl
      go_wp2_with (fail)
      go_ret
      exact ⟨⟨-1, rfl, fun h => by omega, fun h => absurd h (by rw [← HTA.out]; exact HNO.out)⟩, HBL.out⟩
theorem containsP_any (l : List Pt) (n c : Nat) (A : Option Addr) (s : Pt) (w : World) (hn : l.length = n) (hn5 : n ≤ 5000) (hr : Row w w.heap.size A (recs ptC l)) :
    Calls Tryz.prog 57 #[.slice A n c, ptV s] w fun e w' => e = .returned (.bool (decide (s ∈ l))) ∧ Below w.heap.size w w' := by
  have HIX := Lib.hid (fun (V : World) (hV : Below w.heap.size w V) => indexP_any l n c A s V hn hn5 ((hr.below hV).mono hV.size))
  obtain ⟨q, hq⟩ : ∃ q : Bool, q = decide (s ∈ l) := ⟨_, rfl⟩
  have HQ := Lib.hid hq
  rw [← hq]
  obtain ⟨sx, sy⟩ := s
  unfold ptV at HIX ⊢
  simp only at HIX ⊢
  have HBW := Lib.hid ((Below.refl w.heap.size w).alloc (Nat.le_refl _) (.cells #[.int .i64 sx, .int .i64 sy] 37))
  clear hq hr
  go_enter Tryz.func57, Tryz.ntmps57
  go_wp2_with (fail)
  refine (HIX.out _ HBW.out).mono ?_
  rintro e w1 ⟨⟨r, rfl, hiff⟩, hb1⟩
  have HB1 := Lib.hid (HBW.out.trans (hb1.mono HBW.out.size))
  have HI := Lib.hid hiff
  clear hb1 hiff
  go_wp2_with (fail)
  go_ret
  exact ⟨ret_boolB (by rw [HQ.out, decide_eq_decide]; exact HI.out), HB1.out⟩

set_option maxRecDepth 100000 in
set_option maxHeartbeats 2000000 in
theorem edge_any (l : List Pt) (n c b o i : Nat) (w : World) (hn : l.length = n) (hn2 : n ≤ 1000) (hi : i < n) (hc : Cells w b o (recs ptC l)) (hb : b < w.heap.size) :
    Calls Tryz.prog 58 #[.slice (some ⟨b, o, none⟩) n c, .int .i64 (i : Int)] w fun e w' => e = .returned (.tuple #[ptV (ed1 l i), ptV (ed2 l i)]) ∧ Below w.heap.size w w' := by
  have hx := gp_lt (l := l) (i := i) (by omega)
  have hmod : (i + 1) % l.length < l.length := Nat.mod_lt _ (by omega)
  have hy := gp_lt (l := l) (i := (i + 1) % l.length) hmod
  have hmd : ((i : Int) + 1).tmod (n : Int) = (((i + 1) % l.length : Nat) : Int) := by rw [hn, Int.tmod_eq_emod_of_nonneg (by omega)]; simp
  unfold ed1 ed2
  obtain ⟨x, ex⟩ : ∃ x, x = gp l i := ⟨_, rfl⟩
  obtain ⟨y, ey⟩ : ∃ y, y = gp l ((i + 1) % l.length) := ⟨_, rfl⟩
  obtain ⟨m, em⟩ : ∃ m, m = (i + 1) % l.length := ⟨_, rfl⟩
  rw [← ex] at hx ⊢
  rw [← ey, ← em] at hy
  rw [← ey]
  rw [← em] at hmod hmd
  obtain ⟨s0, s1⟩ := pt_cells hc i x hx
  obtain ⟨t0, t1⟩ := pt_cells hc m y hy
  have wk : IntKind.i64.wrap ((i : Int) + 1) = (i : Int) + 1 := by rw [IntKind.wrap_i64]; omega
  have wm : IntKind.i64.wrap (((i : Int) + 1).tmod (n : Int)) = (m : Int) := by rw [hmd, IntKind.wrap_i64]; omega
  have hkI : (i : Int) < (n : Int) := by omega
  have hk0 : (0 : Int) ≤ (i : Int) := by omega
  have hm0 : (0 : Int) ≤ (m : Int) := by omega
  have hmI : (m : Int) < (n : Int) := by omega
  have hn0 : ¬ (n : Int) = 0 := by omega
  have hn0n : ¬ n = 0 := by omega
  obtain ⟨xx, xy⟩ := x
  obtain ⟨yx, yy⟩ := y
  unfold ptV
  simp only at s0 s1 t0 t1 ⊢
  clear hx hy em ex ey hc
  go_enter Tryz.func58, Tryz.ntmps58
  go_upto_region 1 with (fail)
  generalize hW : (w.alloc (.cells #[.int .i64 0, .int .i64 0] 37)).alloc (.cells #[.int .i64 0, .int .i64 0] 37) = W
  have hWs : W.heap.size = w.heap.size + 1 + 1 := by rw [← hW]; simp
  have hBW : Below w.heap.size w W := by rw [← hW]; exact ((Below.refl _ _).alloc (Nat.le_refl _) _).alloc (by simp) _
  have ha0 : W.heap[w.heap.size]? = some (.cells #[.int .i64 0, .int .i64 0] 37 (0, 0)) := by rw [← hW, Below.heap_alloc _ _ _ (by simp)]; exact heap_new w _
  have hb0 : W.heap[w.heap.size + 1]? = some (.cells #[.int .i64 0, .int .i64 0] 37 (0, 0)) := by rw [← hW]; have := heap_new (w.alloc (.cells #[.int .i64 0, .int .i64 0] 37)) (.cells #[.int .i64 0, .int .i64 0] 37); simpa using this
  have c0 := cell_of_blk (j := 0) ha0 rfl
  have c1 := cell_of_blk (j := 1) ha0 rfl
  have c2 := cell_of_blk (j := 0) hb0 rfl
  have c3 := cell_of_blk (j := 1) hb0 rfl
  have f0 : ∀ j, W.frozen? ⟨w.heap.size, j, none⟩ = false := by intro j; simp [World.frozen?, ha0]
  have f1 : ∀ j, W.frozen? ⟨w.heap.size + 1, j, none⟩ = false := by intro j; simp [World.frozen?, hb0]
  have u0 := (hBW.cell (p := ⟨b, o + i * 2, none⟩) hb).trans s0
  have u1 := (hBW.cell (p := ⟨b, o + i * 2 + 1, none⟩) hb).trans s1
  have u2 := (hBW.cell (p := ⟨b, o + m * 2, none⟩) hb).trans t0
  have u3 := (hBW.cell (p := ⟨b, o + m * 2 + 1, none⟩) hb).trans t1
  have e0 := f0 0
  have e1 := f0 1
  have e2 := f1 0
  have e3 := f1 1
  have hne0 : b ≠ w.heap.size := by omega
  have hne1 : b ≠ w.heap.size + 1 := by omega
  have HA0 := Lib.hid ha0
  have HB0 := Lib.hid hb0
  have HBW := Lib.hid hBW
  clear hW hBW ha0 hb0 s0 s1 t0 t1 f0 f1
  go_region
  all_goals
    go_wp2_with (fail)
    have htw := two_set W w.heap.size (0, 0) (0, 0) (xx, xy) (yx, yy) HA0.out HB0.out
    have hBU : Below w.heap.size w ((((W.setCell ⟨w.heap.size, 0, none⟩ (.int .i64 xx)).setCell ⟨w.heap.size, 1, none⟩ (.int .i64 xy)).setCell ⟨w.heap.size + 1, 0, none⟩ (.int .i64 yx)).setCell ⟨w.heap.size + 1, 1, none⟩ (.int .i64 yy)).drew :=
      ((((HBW.out.setCell (p := ⟨w.heap.size, 0, none⟩) (by show w.heap.size ≤ w.heap.size; omega) _).setCell (p := ⟨w.heap.size, 1, none⟩) (by show w.heap.size ≤ w.heap.size; omega) _).setCell (p := ⟨w.heap.size + 1, 0, none⟩) (by show w.heap.size ≤ w.heap.size + 1; omega) _).setCell (p := ⟨w.heap.size + 1, 1, none⟩) (by show w.heap.size ≤ w.heap.size + 1; omega) _).drew
    simp only at htw
    have HBU := Lib.hid hBU
    generalize hU : ((((W.setCell ⟨w.heap.size, 0, none⟩ (.int .i64 xx)).setCell ⟨w.heap.size, 1, none⟩ (.int .i64 xy)).setCell ⟨w.heap.size + 1, 0, none⟩ (.int .i64 yx)).setCell ⟨w.heap.size + 1, 1, none⟩ (.int .i64 yy)) = U at htw HBU ⊢
    have r0 : U.drew.cell? ⟨w.heap.size, 0, none⟩ = some (.int .i64 xx) := cell_of_blk (w := U.drew) (j := 0) htw.1 rfl
    have r1 : U.drew.cell? ⟨w.heap.size, 1, none⟩ = some (.int .i64 xy) := cell_of_blk (w := U.drew) (j := 1) htw.1 rfl
    have r2 : U.drew.cell? ⟨w.heap.size + 1, 0, none⟩ = some (.int .i64 yx) := cell_of_blk (w := U.drew) (j := 0) htw.2 rfl
    have r3 : U.drew.cell? ⟨w.heap.size + 1, 1, none⟩ = some (.int .i64 yy) := cell_of_blk (w := U.drew) (j := 1) htw.2 rfl
    exact bodyPost_ret (v := .tuple #[.agg #[.int .i64 xx, .int .i64 xy], .agg #[.int .i64 yx, .int .i64 yy]]) (by simp [results, Tryz.results58, go_sem, r0, r1, r2, r3]) rfl ⟨rfl, HBU.out⟩
end Go.Proofs.YthplhibdapjjgaaGreatDoor
