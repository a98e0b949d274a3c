/- series.Beyond by its contract. -/
import Derived.Test.YtbimiojoihfnkaaGreatDoorVmD
namespace Go.Proofs.YtbimiojoihfnkaaGreatDoor
open Go.RowKit

theorem cells_newE {w : World} {cs : Array Value} {t : TypeId} {f : Nat × Nat} {xs : List Value} {n : Nat} (h : cs.toList = xs) (hn : n = w.heap.size) : Cells (w.alloc (.cells cs t f)) n 0 xs := by
  subst hn; exact Cells.new _ _ _ _ _ h
theorem wCells_last (ws : List (Int × Int)) (p : Int × Int) (t : Int) : (wCells (ws ++ [p])).set (ws.length * 2 + 1) (.int .i64 t) = wCells (ws ++ [(p.1, t)]) := by
  rw [wCells_snoc, wCells_snoc, List.set_append_right _ _ (by rw [wCells_length]; omega), wCells_length, show ws.length * 2 + 1 - ws.length * 2 = 1 by omega]
  rfl
theorem bStep_in {lo hi : Int} {ws : List (Int × Int)} {s : Spn} (h : lo ≤ s.2.2 ∧ s.2.2 ≤ hi) : bStep lo hi ws s = ws := by unfold bStep; rw [if_pos h]
theorem bStep_nil {lo hi : Int} {s : Spn} (h : ¬ (lo ≤ s.2.2 ∧ s.2.2 ≤ hi)) : bStep lo hi [] s = [(s.1, s.2.1)] := by unfold bStep; rw [if_neg h]; rfl
theorem bStep_join {lo hi : Int} {ws : List (Int × Int)} {p : Int × Int} {s : Spn} (h : ¬ (lo ≤ s.2.2 ∧ s.2.2 ≤ hi)) (hp : p.2 = s.1) : bStep lo hi (ws ++ [p]) s = ws ++ [(p.1, s.2.1)] := by
  unfold bStep; rw [if_neg h]; simp [hp]
theorem bStep_add {lo hi : Int} {ws : List (Int × Int)} {p : Int × Int} {s : Spn} (h : ¬ (lo ≤ s.2.2 ∧ s.2.2 ≤ hi)) (hp : ¬ p.2 = s.1) : bStep lo hi (ws ++ [p]) s = ws ++ [p] ++ [(s.1, s.2.1)] := by
  unfold bStep; rw [if_neg h]; simp [hp]
theorem bey_length (lo hi : Int) (S : List Spn) (k : Nat) : (bey lo hi (S.take k)).length ≤ k := by
  have h : ∀ T : List Spn, (bey lo hi T).length ≤ T.length := by
    intro T
    refine snocS (P := fun T => (bey lo hi T).length ≤ T.length) (Nat.zero_le _) ?_ T
    intro T s ih
    rw [bey_snoc]
    rcases List.eq_nil_or_concat (bey lo hi T) with e | ⟨ws, p, e⟩
    · rw [e]
      by_cases h : lo ≤ s.2.2 ∧ s.2.2 ≤ hi
      · rw [bStep_in h]; simp
      · rw [bStep_nil h]; simp
    · rw [List.concat_eq_append] at e
      rw [e] at ih ⊢
      simp only [List.length_append, List.length_cons, List.length_nil] at ih ⊢
      by_cases h : lo ≤ s.2.2 ∧ s.2.2 ≤ hi
      · rw [bStep_in h]; simp; omega
      · by_cases hp : p.2 = s.1
        · rw [bStep_join h hp]; simp; omega
        · rw [bStep_add h hp]; simp; omega
  have := h (S.take k)
  simp only [List.length_take] at this
  omega

set_option maxRecDepth 100000 in
set_option maxHeartbeats 8000000 in
theorem beyond_any (l : List Smp) (n c : Nat) (A : Option Addr) (a T lo hi : Int) (w : World) (hn : l.length = n) (hn2 : n ≤ 1000) (hg : GoodS l) (hr : Row w w.heap.size A (cellsOf l)) (hal : ∀ s ∈ l, a ≤ s.1 ∧ s.1 < T) (ha : 0 ≤ a) (haT : a ≤ T) (hT1 : T ≤ 345686400000) (hlh : lo ≤ hi) :
    Calls Tryz.prog 22 #[.slice A n c, winV a T, .int .i64 lo, .int .i64 hi] w fun e w' => ∃ v, e = .returned (.tuple #[v, .int .i64 0]) ∧ w'.ownsRow w.heap.size 58 2 v (bey lo hi (spL l T n)).length (wCells (bey lo hi (spL l T n))) ∧ Below w.heap.size w w' := by
  obtain ⟨i0, hi0, hz0, hz1, hz2⟩ := info_parts Tryz.infoWin
  have HR := Lib.hid hr
  have HG := Lib.hid hg
  have HN := Lib.hid hn
  have HA := Lib.hid hal
  have hSL := spL_length l T n
  obtain ⟨S, eS⟩ : ∃ S, S = spL l T n := ⟨_, rfl⟩
  rw [← eS] at hSL ⊢
  have HES := Lib.hid eS
  have hnl : ¬ hi < lo := by omega
  clear hr hg hn hal eS
  unfold winV
  go_enter Tryz.func22, Tryz.ntmps22
  go_wp2_with (fail)
  generalize hX : w.alloc (.cells #[.int .i64 a, .int .i64 T] 58) = X
  have hXs : X.heap.size = w.heap.size + 1 := by rw [← hX]; simp
  have hBX : Below w.heap.size w X := hX ▸ (Below.refl _ _).alloc (Nat.le_refl _) _
  have hx0 : X.heap[w.heap.size]? = some (.cells #[.int .i64 a, .int .i64 T] 58) := by rw [← hX]; exact heap_new w _
  have HX := Lib.hid hx0
  have x0 := cell_of_blk (j := 0) hx0 rfl
  have x1 := cell_of_blk (j := 1) hx0 rfl
  have HRX := Lib.hid ((HR.out.below hBX).mono (show w.heap.size ≤ X.heap.size by omega))
  have HBX := Lib.hid hBX
  clear hX hBX hx0
  refine (fault_any l n c A a T X HN.out HG.out HRX.out ha haT hT1).mono ?_
  rintro e w1 ⟨rfl, hb1⟩
  have hs1 := hb1.size
  have HR1 := Lib.hid ((HRX.out.below hb1).mono hs1)
  have hx1 := (hb1.block w.heap.size (by omega)).trans HX.out
  have y0 := cell_of_blk (j := 0) hx1 rfl
  have y1 := cell_of_blk (j := 1) hx1 rfl
  have HB1 := Lib.hid (HBX.out.trans (hb1.mono (by omega)))
  have hww : w.heap.size < w1.heap.size := by omega
  clear hb1 x0 x1 HX HRX HBX hx1
  go_wp2_with (fail)
  refine (spans_any l n c A a T w1 HN.out (by omega) HG.out HR1.out HA.out).mono ?_
  rintro e w2 ⟨v2, rfl, hown2, hb2⟩
  have hs2 := hb2.size
  obtain ⟨A2, c2, rfl⟩ := own_slice hown2
  rw [← HES.out] at hown2
  have HR2 := Lib.hid (own_row hown2)
  have HB2 := Lib.hid (HB1.out.trans (hb2.mono (by omega)))
  clear hb2 hown2 y0 y1 HR1 HB1
  go_wp2_with (fail)
  go_loopw [11, 28] (fun v i wr => ∃ k : Nat, k ≤ n ∧ i = .int .i64 k ∧ wr.ownsRow w2.heap.size 58 2 v (bey lo hi (S.take k)).length (wCells (bey lo hi (S.take k))) ∧ Below w2.heap.size w2 wr) (fun _ i _ => n - (intOf i).toNat)
  case atStart => exact ⟨0, Nat.zero_le _, rfl, by simpa [bey, wCells] using World.ownsRow_nil _ _ _ _, Below.refl _ _⟩
  case round =>
    obtain ⟨k, hk, rfl, hown, hbl⟩ := hrel
    have hsz := hbl.size
    have HBL := Lib.hid hbl
    have hwl := bey_length lo hi S k
    obtain ⟨ws, ews⟩ : ∃ ws, ws = bey lo hi (S.take k) := ⟨_, rfl⟩
    rw [← ews] at hown hwl
    by_cases hlt : k < n
    · obtain ⟨b, o, rfl, hb, hcs⟩ := Row.posS HR2.out (by omega)
      obtain ⟨x, hx⟩ : ∃ x, S[k]? = some x := ⟨_, List.getElem?_eq_getElem (by omega)⟩
      obtain ⟨c0, c1, c2'⟩ := spn_cells (hcs.keep (hbl.block b hb)) k x hx
      have HST := Lib.hid (show bey lo hi (S.take (k + 1)) = bStep lo hi ws x by rw [List.take_add_one, hx, ews]; exact bey_snoc _ _ _ _)
      have hlt' : (k : Int) < (n : Int) := by omega
      have hbw : b < wr.heap.size := by omega
      obtain ⟨xf, xt, xv⟩ := x
      simp only at c0 c1 c2' HST
      have HB3 := Lib.hid (HBL.out.alloc hsz (.cells #[.int .i64 xf, .int .i64 xt, .int .i64 xv] 157))
      have HOWN := Lib.hid (hown.alloc (.cells #[.int .i64 xf, .int .i64 xt, .int .i64 xv] 157))
      clear hbl hcs hx ews
      by_cases hin : lo ≤ xv ∧ xv ≤ hi
      · obtain ⟨A3, c3, rfl⟩ := own_slice hown
        have HST2 := Lib.hid (HST.out.trans (bStep_in hin))
        clear hown
        go_wp2_with (go_at_call 65; refine (out_no _ _ _ _ hin.1 hin.2).mono ?_; rintro e w' ⟨rfl, rfl⟩)
        go_roundw
        case rel => exact ⟨k + 1, by omega, by go_num, by rw [HST2.out]; exact HOWN.out, HB3.out⟩
        case measure => simp [intOf]; omega
      · have hout : xv < lo ∨ hi < xv := by omega
        have HAPP : Hid (∀ ws', bStep lo hi ws (xf, xt, xv) = ws' → bey lo hi (S.take (k + 1)) = ws') := fun ws' h => HST.out.trans h
        rcases List.eq_nil_or_concat ws with rfl | ⟨ws0, p, rfl⟩
        · have HST2 := Lib.hid (HST.out.trans (bStep_nil hin))
          simp only [List.length_nil] at hown HOWN hwl
          obtain ⟨A3, c3, rfl⟩ := own_slice hown
          clear hown
          go_wp2_with (go_at_call 65; refine (out_yes _ _ _ _ hout).mono ?_; rintro e w' ⟨rfl, rfl⟩)
          go_quiet (fail)
          go_wp2_with (at_builtin; refine wpList_append_own _ rfl _ _ 63 rfl w2.heap.size 58 i0 _ 2 16 Tryz.underlying63 hi0 hz0 hz1 hz2 rfl (by decide) _ _ _ rfl ((own_drewN HOWN.out _).alloc _) ⟨wr.heap.size + 1, 0, none⟩ 1 1 (winC (xf, xt)) rfl rfl ?c1 ?c2 ?c3 ?c4 ?c5 ?_)
          case c1 => exact cells_add (cells_newE rfl (by simp))
          case c2 => exact winC_one _
          case c3 => unfold maxLen; omega
          case c4 => omega
          case c5 => first | omega | (simp; omega)
          intro v7 w7 ho7 hg7 _
          have HO7 := Lib.hid ho7
          have HB7 := Lib.hid (HB3.out.grown (grown_of_drewN (grown_of_alloc hg7)) (by simp; omega) (fun g hg => (HOWN.out.lt g hg).1))
          clear ho7 hg7
          go_wp2_with (fail)
          go_roundw
          case rel => exact ⟨k + 1, by omega, by go_num, by rw [HST2.out]; simpa [wCells] using HO7.out, HB7.out⟩
          case measure => simp [intOf]; omega
        · rw [List.concat_eq_append] at *
          obtain ⟨m, em⟩ : ∃ m, m = ws0.length := ⟨_, rfl⟩
          have hwm : (ws0 ++ [p]).length = m + 1 := by simp [em]
          rw [hwm] at hown HOWN hwl
          obtain ⟨g3, c3, rfl⟩ : ∃ g3 c3, u11 = .slice (some ⟨g3, 0, none⟩) (m + 1) c3 := by
            rcases hown.2 with ⟨_, h⟩ | ⟨g, cap, cur, hv, _⟩
            · omega
            · exact ⟨g, cap, hv⟩
          have q0 := hown.cellAt (m * 2) (by omega)
          have q1 := hown.cellAt (m * 2 + 1) (by omega)
          have hpm : (ws0 ++ [p])[m]? = some p := by rw [List.getElem?_append_right (by omega)]; simp [em]
          rw [show m * 2 = m * 2 + 0 from rfl, wCells_get _ m p hpm 0 (by omega)] at q0
          rw [wCells_get _ m p hpm 1 (by omega)] at q1
          simp only [Nat.add_zero] at q0
          have hfz := hown.frozenAt (m * 2 + 1)
          have hg3lt : g3 < wr.heap.size := World.block_lt_of_cell? wr ⟨g3, m * 2, none⟩ (q0.trans rfl)
          have hg3lo := (hown.lt g3 rfl).1
          obtain ⟨pf, pt⟩ := p
          have q0' : wr.cell? ⟨g3, m * 2, none⟩ = some (.int .i64 pf) := q0
          have q1' : wr.cell? ⟨g3, m * 2 + 1, none⟩ = some (.int .i64 pt) := q1
          have hwk : IntKind.i64.wrap (((m : Int) + 1) - 1) = (m : Int) := by rw [IntKind.wrap_i64]; omega
          have hmi : (m : Int) < (m : Int) + 1 := by omega
          have hm0 : (0 : Int) ≤ (m : Int) := by omega
          have hcast : ((m + 1 : Nat) : Int) = (m : Int) + 1 := by omega
          have hm1 : m < m + 1 := by omega
          have HM := Lib.hid em
          clear q0 q1 hpm hwm em hown
          by_cases hj : pt = xf
          · subst hj
            have HST2 := Lib.hid (HST.out.trans (bStep_join (p := (pf, pt)) hin rfl))
            have HST3 := Lib.hid (show (wCells (ws0 ++ [(pf, pt)])).set (m * 2 + 1) (.int .i64 xt) = wCells (ws0 ++ [(pf, xt)]) by rw [HM.out]; exact wCells_last ws0 (pf, pt) xt)
            go_wp2_with (go_at_call 65; refine (out_yes _ _ _ _ hout).mono ?_; rintro e w' ⟨rfl, rfl⟩)
            go_quiet (fail)
            go_wp2_with (fail)
            go_roundw
            case rel =>
              refine ⟨k + 1, by omega, by go_num, ?_, ?_⟩
              · rw [HST2.out, List.length_append, List.length_cons, List.length_nil, ← HM.out, ← HST3.out]
                exact ((own_drewN HOWN.out _).stored (m * 2 + 1) (.int .i64 xt)).1
              · exact (below_drewN HB3.out _).setCell (p := ⟨g3, m * 2 + 1, none⟩) hg3lo _
            case measure => simp [intOf]; omega
          · have HST2 := Lib.hid (HST.out.trans (bStep_add (p := (pf, pt)) hin hj))
            go_wp2_with (go_at_call 65; refine (out_yes _ _ _ _ hout).mono ?_; rintro e w' ⟨rfl, rfl⟩)
            go_quiet (fail)
            go_wp2_with (at_builtin; refine wpList_append_own _ rfl _ _ 63 rfl w2.heap.size 58 i0 _ 2 16 Tryz.underlying63 hi0 hz0 hz1 hz2 rfl (by decide) _ _ _ rfl ((own_drewN HOWN.out _).alloc _) ⟨wr.heap.size + 1, 0, none⟩ 1 1 (winC (xf, xt)) rfl rfl ?c1 ?c2 ?c3 ?c4 ?c5 ?_)
            case c1 => exact cells_add (cells_newE rfl (by simp))
            case c2 => exact winC_one _
            case c3 => unfold maxLen; omega
            case c4 => omega
            case c5 => first | omega | (simp; omega)
            intro v7 w7 ho7 hg7 _
            have HO7 := Lib.hid ho7
            have HB7 := Lib.hid (HB3.out.grown (grown_of_drewN (grown_of_alloc hg7)) (by simp; omega) (fun g hg => (HOWN.out.lt g hg).1))
            clear ho7 hg7
            go_wp2_with (fail)
            go_roundw
            case rel => exact ⟨k + 1, by omega, by go_num, by rw [HST2.out, wCells_snoc, List.length_append, List.length_append, List.length_cons, List.length_nil, ← HM.out]; exact HO7.out, HB7.out⟩
            case measure => simp [intOf]; omega
    · have hkn : k = n := by omega
      subst hkn
      have hall : S.take k = S := List.take_of_length_le (by omega)
      rw [hall] at ews
      obtain ⟨A3, c3, rfl⟩ := own_slice hown
      have HO := Lib.hid (own_mono hown (show w.heap.size ≤ w2.heap.size by omega))
      have HE := Lib.hid ews
      clear hown hbl ews hall
      go_wp2_with (fail)
      go_ret2
      exact ⟨_, rfl, by rw [← HE.out]; exact HO.out, HB2.out.trans (HBL.out.mono (by omega))⟩
end Go.Proofs.YtbimiojoihfnkaaGreatDoor
