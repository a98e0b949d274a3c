/- Unpack of any bytes: it answers, and lays new memory only. -/
import Derived.Test.YtnmgfnnkcenfeaaGreatDoorUnB
import Derived.Test.YtnmgfnnkcenfeaaGreatDoorSer1
namespace Go.Proofs.YtnmgfnnkcenfeaaGreatDoor
open Go.RowKit

theorem moment_no (n : Int) (w : World) (h : n < 0 ∨ 345686400000 ≤ n) : Calls Tryz.prog 49 #[.int .i64 n] w fun e w' => e = .returned (.bool false) ∧ w = w' := by
  have HO := Lib.hid (out_yes n 0 345686399999 w (by omega))
  go_enter Tryz.func49, Tryz.ntmps49
  go_wp2_with (fail)
  refine HO.out.mono ?_
  rintro e w' ⟨rfl, rfl⟩
  go_wp2_with (fail)
  go_ret
  exact ⟨rfl, rfl⟩
def UpPost (w : World) (e : Ending) (w' : World) : Prop := (∃ (v : Value) (z : Int), e = .returned (.tuple #[v, .int .i64 z])) ∧ Below w.heap.size w w'
theorem GoodV.snoc {l : List Smp} {k : Nat} (h : GoodV l) (hk : l.length = k) (hk5 : k < 5000) (a v : Int) (h1 : 0 ≤ a ∧ a < 345686400000) (h2 : -1000000000 ≤ v ∧ v ≤ 1000000000) : GoodV (l ++ [(a, v)]) := by
  refine ⟨by rw [List.length_append, List.length_singleton]; omega, fun i x hx => ?_, fun i x hx => ?_⟩
  · rcases Nat.lt_or_ge i l.length with h3 | h3
    · rw [List.getElem?_append_left h3] at hx; exact h.at_ i x hx
    · rw [List.getElem?_append_right h3] at hx
      have := List.mem_of_getElem? hx
      rw [List.mem_singleton] at this
      subst this
      exact h1
  · rcases Nat.lt_or_ge i l.length with h3 | h3
    · rw [List.getElem?_append_left h3] at hx; exact h.val i x hx
    · rw [List.getElem?_append_right h3] at hx
      have := List.mem_of_getElem? hx
      rw [List.mem_singleton] at this
      subst this
      exact h2
set_option maxRecDepth 100000 in
set_option maxHeartbeats 8000000 in
theorem unpack_b (w : World) (len c : Nat) (A : Option Addr) (L : List Int) (hL : L.length = len) (hl : len ≤ 100) (hcap : len ≤ c) (hb : BytesOk L) (hr : Row w w.heap.size A (bytesV L)) :
    Calls Tryz.prog 15 #[.slice A len c, .string ⟨#[100]⟩, .string ⟨#[109]⟩] w fun e w' => UpPost w e w' := by
  obtain ⟨i0, hi, hz0, hz1, hz2⟩ := info_parts Tryz.infoS
  have HR := Lib.hid hr
  have HL := Lib.hid hL
  have HB := Lib.hid hb
  have HNO := Lib.hid (fun (V : World) (v : Value) (z : Int) (hV : Below w.heap.size w V) => show UpPost w (.returned (.tuple #[v, .int .i64 z])) V from ⟨⟨v, z, rfl⟩, hV⟩)
  clear hr hL hb
  have hl5 : ¬ (100000 : Int) < (len : Int) := by omega
  go_enter Tryz.func15, Tryz.ntmps15
  go_wp2_with (go_at_call 39; refine (key_yes _ _ (by kernel_rfl)).mono ?_; rintro e w' ⟨rfl, rfl⟩)
  refine (unseven_b w w.heap.size len c A L HL.out (by omega) hcap HB.out HR.out).mono ?_
  rintro e w1 ⟨many, A1, k1, c1, ok, L1, rfl, hmany, hk1, hkc1, hL1, hb1, hr1, q1, rfl⟩
  have HR1 := Lib.hid hr1
  have HL1 := Lib.hid hL1
  have HB1 := Lib.hid hb1
  clear hr1 hL1 hb1
  cases ok with
  | false =>
    go_wp2_with (fail)
    go_ret2
    exact HNO.out _ _ _ (below_drewN (Below.refl _ _) _)
  | true =>
  by_cases hm5 : 5000 < many
  · have hm5I : (5000 : Int) < (many : Int) := by omega
    go_wp2_with (fail)
    go_ret2
    exact HNO.out _ _ _ (below_drewN (Below.refl _ _) _)
  have hm5I : ¬ (5000 : Int) < (many : Int) := by omega
  have hm5' : many ≤ 5000 := by omega
  clear hmany hm5
  go_wp2_with (fail)
  go_loopw [9, 11, 12, 13, 14, 46] (fun r v a d q i wr => ∃ (k : Nat) (at_ by_ val : Int) (rest : List Int) (A' : Option Addr) (m c' : Nat) (l : List Smp), k ≤ many ∧ i = .int .i64 (k : Int) ∧ a = .int .i64 at_ ∧ d = .int .i64 by_ ∧ q = .int .i64 val ∧
      r = .slice A' m c' ∧ m ≤ c' ∧ m ≤ 100 ∧ l.length = k ∧ Hid (wr.ownsRow w.heap.size 37 4 v k (cellsOf l) ∧ GoodV l ∧ Row wr w.heap.size A' (bytesV rest) ∧ rest.length = m ∧ BytesOk rest ∧ Below w.heap.size w wr)) (fun _ _ _ _ _ i _ => many - (intOf i).toNat)
  case atStart =>
    exact ⟨0, 0, 0, 0, L1, A1, k1, c1, [], Nat.zero_le _, rfl, rfl, rfl, rfl, rfl, hkc1, by omega, rfl, Lib.hid ⟨by simpa [cellsOf] using World.ownsRow_nil _ _ _ _, ⟨by simp, by simp, by simp⟩, HR1.out, HL1.out, HB1.out, below_drewN (Below.refl _ _) _⟩⟩
  case round =>
    obtain ⟨k, at_, by_, val, rest, A', m, c', l, hk, rfl, rfl, rfl, rfl, rfl, hmc, hm100, hlk, HX⟩ := hrel
    obtain ⟨wa, rfl⟩ : ∃ wy : World, wy = wr := ⟨_, rfl⟩
    have hsz := HX.out.2.2.2.2.2.size
    by_cases hlt : k < many
    · have hltI : (k : Int) < (many : Int) := by omega
      have HU1 := Lib.hid (unseven_b wa w.heap.size m c' A' rest HX.out.2.2.2.1 (by omega) hmc HX.out.2.2.2.2.1 HX.out.2.2.1)
      go_wp2_with (fail)
      refine HU1.out.mono ?_
      rintro e w2 ⟨x, A2, m2, c2, ok, L2, rfl, hx, hm2, hmc2, hL2, hb2, hr2, q2, rfl⟩
      have HBL := Lib.hid (below_drewN HX.out.2.2.2.2.2 q2)
      have HU2 := Lib.hid (unseven_b (wa.drewN q2) w.heap.size m2 c2 A2 L2 hL2 (by omega) hmc2 hb2 (show Row (wa.drewN q2) _ _ _ from hr2))
      clear hL2 hb2 hr2 HU1
      cases ok with
      | false =>
        go_wp2_with (fail)
        go_ret2
        exact HNO.out _ _ _ HBL.out
      | true =>
      go_wp2_with (fail)
      refine HU2.out.mono ?_
      rintro e w3 ⟨y, A3, m3, c3, ok, L3, rfl, hy, hm3, hmc3, hL3, hb3, hr3, q3, rfl⟩
      have HBL3 := Lib.hid (below_drewN HX.out.2.2.2.2.2 (q2 + q3))
      have HR3 := Lib.hid (And.intro hL3 (And.intro hb3 hr3))
      clear hL3 hb3 hr3 HU2
      cases ok with
      | false =>
        go_wp2_with (fail)
        go_ret2
        exact HNO.out _ _ _ HBL3.out
      | true =>
      go_wp2_with (fail)
      refine (halved_b x _ hx).mono ?_
      rintro e w' ⟨⟨h1, rfl, h1a, h1b⟩, rfl⟩
      obtain ⟨d, hd⟩ : ∃ d, IntKind.i64.wrap (by_ + h1) = d := ⟨_, rfl⟩
      obtain ⟨a2, ha2⟩ : ∃ a2, IntKind.i64.wrap (at_ + d) = a2 := ⟨_, rfl⟩
      go_wp2_with (fail)
      refine (halved_b y _ hy).mono ?_
      rintro e w' ⟨⟨h2, rfl, h2a, h2b⟩, rfl⟩
      obtain ⟨v2, hv2⟩ : ∃ v2, IntKind.i64.wrap (val + h2) = v2 := ⟨_, rfl⟩
      go_wp2_with (fail)
      have HBLO := Lib.hid (HNO.out (wa.drewN (q2 + q3)) (.slice none 0 0) 9 HBL3.out)
      by_cases hv : -1000000000 ≤ v2 ∧ v2 ≤ 1000000000
      case neg =>
        refine (out_yes _ _ _ _ (by omega)).mono ?_
        rintro e w' ⟨rfl, rfl⟩
        go_wp2_with (fail)
        go_ret2
        exact HBLO.out
      obtain ⟨hv2a, hv2b⟩ := hv
      refine (out_no _ _ _ _ hv2a hv2b).mono ?_
      rintro e w' ⟨rfl, rfl⟩
      go_wp2_with (fail)
      by_cases hat : 0 ≤ a2 ∧ a2 < 345686400000
      case neg =>
        refine (moment_no _ _ (by omega)).mono ?_
        rintro e w' ⟨rfl, rfl⟩
        go_wp2_with (fail)
        go_ret2
        exact HBLO.out
      obtain ⟨hata, hatb⟩ := hat
      refine (moment_yes _ _ hata hatb).mono ?_
      rintro e w' ⟨rfl, rfl⟩
      have HGV := Lib.hid (HX.out.2.1.snoc hlk (by omega) a2 v2 ⟨hata, hatb⟩ ⟨hv2a, hv2b⟩)
      obtain ⟨wb, ewb⟩ : ∃ wb, wb = wa.drewN (q2 + q3) := ⟨_, rfl⟩
      have HOB := Lib.hid (show wb.ownsRow w.heap.size 37 4 u11 k (cellsOf l) from by rw [ewb]; exact own_drewN HX.out.1 _)
      have HBB := Lib.hid (show Below w.heap.size w wb from by rw [ewb]; exact HBL3.out)
      have HRB := Lib.hid (show Row wb w.heap.size A3 (bytesV L3) from by rw [ewb]; exact HR3.out.2.2)
      rw [← ewb]
      have hszb := HBB.out.size
      clear ewb HBL HBL3 HBLO hd ha2 hv2
      rcases Nat.eq_zero_or_pos k with hk0 | hk0
      · have hk0I : ¬ (0 : Int) < (k : Int) := by omega
        clear hk0
        go_wp2_with (at_builtin; refine wpList_append_own2 _ rfl _ _ 26 rfl w.heap.size 37 i0 _ 4 48 Tryz.underlying26 hi hz0 hz1 hz2 rfl (by decide) _ _ _ rfl (HOB.out.alloc _) ⟨wb.heap.size, 0, none⟩ 1 1 (smpC (a2, v2)) rfl rfl ?pc1 ?pc2 ?pc3 ?pc4 ?pc5 ?_)
        case pc1 => first | exact fun j u h => h | exact cells_add (Cells.new _ _ _ _ _ rfl)
        case pc2 => exact smpC_one _
        case pc3 => unfold maxLen; omega
        case pc4 => omega
        case pc5 => first | omega | (simp; omega)
        intro v' w4 hown4 hgr4 _
        have hg4 := grown_of_alloc hgr4
        have HN4 := Lib.hid (show w4.ownsRow w.heap.size 37 4 v' (k + 1) (cellsOf (l ++ [(a2, v2)])) ∧ GoodV (l ++ [(a2, v2)]) ∧ Row w4 w.heap.size A3 (bytesV L3) ∧ L3.length = m3 ∧ BytesOk L3 ∧ Below w.heap.size w w4 from by
          have hB4 := HBB.out.grown hg4 hszb (fun g hg => (HOB.out.lt g hg).1)
          exact ⟨by rw [cellsOf_snoc]; exact hown4, HGV.out, HRB.out.keep (fun b hb => (hB4.block b hb).trans (HBB.out.block b hb).symm), HR3.out.1, HR3.out.2.1, hB4⟩)
        clear hown4 hgr4 hg4
        go_wp2_with (fail)
        go_roundw
        case rel => exact ⟨k + 1, a2, by_, v2, L3, A3, m3, c3, _, by omega, by go_num, rfl, rfl, rfl, rfl, hmc3, by omega, by rw [List.length_append, hlk]; rfl, HN4⟩
        case measure => simp [intOf]; omega
      · have hk0I : (0 : Int) < (k : Int) := by omega
        go_wp2_with (at_builtin; refine wpList_append_own2 _ rfl _ _ 26 rfl w.heap.size 37 i0 _ 4 48 Tryz.underlying26 hi hz0 hz1 hz2 rfl (by decide) _ _ _ rfl (HOB.out.alloc _) ⟨wb.heap.size, 0, none⟩ 1 1 (smpC (a2, v2)) rfl rfl ?pc1 ?pc2 ?pc3 ?pc4 ?pc5 ?_)
        case pc1 => first | exact fun j u h => h | exact cells_add (Cells.new _ _ _ _ _ rfl)
        case pc2 => exact smpC_one _
        case pc3 => unfold maxLen; omega
        case pc4 => omega
        case pc5 => first | omega | (simp; omega)
        intro v' w4 hown4 hgr4 _
        have hg4 := grown_of_alloc hgr4
        have HN4 := Lib.hid (show w4.ownsRow w.heap.size 37 4 v' (k + 1) (cellsOf (l ++ [(a2, v2)])) ∧ GoodV (l ++ [(a2, v2)]) ∧ Row w4 w.heap.size A3 (bytesV L3) ∧ L3.length = m3 ∧ BytesOk L3 ∧ Below w.heap.size w w4 from by
          have hB4 := HBB.out.grown hg4 hszb (fun g hg => (HOB.out.lt g hg).1)
          exact ⟨by rw [cellsOf_snoc]; exact hown4, HGV.out, HRB.out.keep (fun b hb => (hB4.block b hb).trans (HBB.out.block b hb).symm), HR3.out.1, HR3.out.2.1, hB4⟩)
        clear hown4 hgr4 hg4
        go_wp2_with (fail)
        go_roundw
        case rel => exact ⟨k + 1, a2, d, v2, L3, A3, m3, c3, _, by omega, by go_num, rfl, rfl, rfl, rfl, hmc3, by omega, by rw [List.length_append, hlk]; rfl, HN4⟩
        case measure => simp [intOf]; omega
    · have hltI : ¬ (k : Int) < (many : Int) := by omega
      obtain ⟨Ao, co, e11⟩ := own_slice HX.out.1
      subst e11
      have HRA := Lib.hid (HR.out.below HX.out.2.2.2.2.2)
      go_wp2_with (fail)
      refine (checkSeries_b l k co Ao wa hlk HX.out.2.1 (own_row HX.out.1)).mono ?_
      rintro e w5 ⟨⟨z, rfl⟩, hb5⟩
      have hs5 := hb5.size
      have HB5 := Lib.hid (HX.out.2.2.2.2.2.trans (hb5.mono hsz))
      have HO5 := Lib.hid (own_below HX.out.1 hb5)
      clear hb5
      by_cases hz : z = 0
      case neg =>
        go_wp2_with (fail)
        go_ret2
        exact HNO.out _ _ _ HB5.out
      subst hz
      go_wp2_with (fail)
      refine (pack_b l k co Ao w5 hlk HX.out.2.1 (own_row HO5.out)).mono ?_
      rintro e w6 ⟨v6, zs, rfl, hzl, ho6, hb6⟩
      have hs6 := hb6.size
      obtain ⟨Ap, cp, rfl⟩ := own_slice ho6
      have HB6 := Lib.hid (HB5.out.trans (hb6.mono (by omega)))
      have HROW6 := Lib.hid (own_row ho6)
      clear ho6 hb6
      go_wp2_with (fail)
      refine (eqBytes_b zs L zs.length len cp c Ap A w6 rfl HL.out (by omega) HROW6.out ((HR.out.below HB6.out).mono (by omega))).mono ?_
      rintro e w7 ⟨⟨t, rfl⟩, hb7⟩
      have HB7 := Lib.hid (HB6.out.trans (hb7.mono (by omega)))
      clear hb7
      cases t with
      | true =>
        go_wp2_with (fail)
        go_ret2
        exact HNO.out _ _ _ HB7.out
      | false =>
        go_wp2_with (fail)
        go_ret2
        exact HNO.out _ _ _ HB7.out
end Go.Proofs.YtnmgfnnkcenfeaaGreatDoor
