/- slices.Compact of signals: some of them, in the same memory. Printed by gen_MsC.py out of XSgF. -/
import Derived.Test.YtgdnedhcbjonkaaGreatDoorMgD
import Derived.Test.YtgdnedhcbjonkaaGreatDoorMgA
import Derived.Test.YtgdnedhcbjonkaaGreatDoorMgB
namespace Go.Proofs.YtgdnedhcbjonkaaGreatDoor
open Go.RowKit Go.Shelf Go.Sort

def sgEq (x y : Sg) : Bool := x.at_ == y.at_ && (x.kd == y.kd && ((aldT x.d).toList == (aldT y.d).toList && ((alrT x.r).toList == (alrT y.r).toList && ((alwT x.b).toList == (alwT y.b).toList && x.un == y.un))))
def CsPost3 (l : List Sg) (n c base : Nat) (A : Option Addr) (w : World) (e : Ending) (w' : World) : Prop :=
  ∃ (m : List Sg) (k : Nat), e = .returned (.slice A k c) ∧ m.length = k ∧ k ≤ n ∧ (∀ x ∈ m, x ∈ l) ∧ w'.ownsRow base 47 6 (.slice A k c) k (recs sgC m) ∧ w.grownBy w' (Value.slice A n c).ownBlock ∧ m = csN sgEq l n
set_option maxRecDepth 100000 in
set_option maxHeartbeats 4000000 in
theorem compactE_any (l : List Sg) (n c base : Nat) (A : Option Addr) (w : World) (hn : l.length = n) (hn20 : n ≤ 100) (ho : w.ownsRow base 47 6 (.slice A n c) n (recs sgC l)) :
    Calls Tryz.prog 48 #[.slice A n c] w fun e w' => CsPost3 l n c base A w e w' := by
  have hcap := own_cap ho
  have HL := Lib.hid hn
  have HO := Lib.hid ho
  by_cases h2 : n < 2
  · have h2I : (n : Int) < 2 := by omega
    have HF := Lib.hid (show CsPost3 l n c base A w (.returned (.slice A n c)) w from ⟨l, n, rfl, hn, Nat.le_refl _, fun x hx => hx, ho, grown_refl _ _, by rw [← hn]; exact csN_few sgEq (by omega)⟩)
    clear ho hn
    go_enter Tryz.func48, Tryz.ntmps48
    go_wp2_with (fail)
    go_ret
    exact HF.out
  · have h2I : ¬ (n : Int) < 2 := by omega
    rcases own_two ho with ⟨_, hn0, _⟩ | ⟨g, rfl, hbg, hlt⟩
    · omega
    have HCl := Lib.hid (own_cells0 ho)
    have HST := Lib.hid (CsJ.one sgEq l)
    clear ho hn
    go_enter Tryz.func48, Tryz.ntmps48
    go_wp2_with (fail)
    go_loopw [3] (fun s wr => ∃ k : Nat, 1 ≤ k ∧ k ≤ n ∧ s = .int .i64 (k : Int) ∧ Below w.heap.size w wr ∧ Hid (CsJ sgEq l (l.take k) k)) (fun s _ => n - (intOf s).toNat)
    case atStart => exact ⟨1, Nat.le_refl _, by omega, rfl, Below.refl _ _, HST⟩
    case round =>
      obtain ⟨k, hk1, hkn, rfl, hbr, HK⟩ := hrel
      have hbs := hbr.size
      have HB := Lib.hid hbr
      clear hbr
      by_cases hlt2 : k < n
      · have hltI : (k : Int) < n := by omega
        obtain ⟨x, hx⟩ : ∃ x, l[k]? = some x := ⟨_, List.getElem?_eq_getElem (by have := HL.out; omega)⟩
        obtain ⟨y, hy⟩ : ∃ y, l[k - 1]? = some y := ⟨_, List.getElem?_eq_getElem (by have := HL.out; omega)⟩
        have HQ := Lib.hid (fun (V : World) (hV : Below wr.heap.size wr V) => show SgAt2 V g (k * 6) x ((k - 1) * 6) y from by
          have h1 := sg_cells HCl.out k x hx
          have h2 := sg_cells HCl.out (k - 1) y hy
          rw [Nat.zero_add] at h1 h2
          have hb := HB.out.trans (hV.mono hbs)
          exact sgAt2 (h1.below hb hlt) (h2.below hb hlt))
        have HX := Lib.hid hx
        have HY := Lib.hid hy
        have hwrap : (k : Int) - 1 = ((k - 1 : Nat) : Int) := by omega
        have hwr : IntKind.i64.wrap ((k - 1 : Nat) : Int) = ((k - 1 : Nat) : Int) := by rw [IntKind.wrap_i64]; omega
        have hxI : ((k - 1 : Nat) : Int) < (n : Int) := by omega
        have hxN : k - 1 < n := by omega
        clear hx hy
        go_upto_region 6 with (fail)
        go_cut [25] (fun s wx => s = .bool (sgEq x y) ∧ Below wr.heap.size wr wx)
        case first =>
          refine qRegionTail 9 (by kernel_rfl) (by kernel_rfl) ?_
          simp only [List.take_succ_cons, List.take_zero, List.drop_succ_cons, List.drop_zero]
          repeat (first
            | (go_big_quiet_want; refine qVal (fun V hV => (by (obtain ⟨q0, q1, q2, q3, q4, q5, p0, p1, p2, p3, p4, p5⟩ := HQ.out V hV; go_simp; try rfl))) ?_; simp only [Act.put, List.setIfInBounds_toArray, List.set_cons_zero, List.set_cons_succ]; go_big_quiet_on)
            | go_big_quiet_skip)
          refine wpQuiet_nil ?_
          intro w1 hb1
          obtain ⟨b0, e0⟩ : ∃ b, (x.at_ == y.at_) = b := ⟨_, rfl⟩
          obtain ⟨b1, e1⟩ : ∃ b, (x.kd == y.kd) = b := ⟨_, rfl⟩
          obtain ⟨b2, e2⟩ : ∃ b, ((aldT x.d).toList == (aldT y.d).toList) = b := ⟨_, rfl⟩
          obtain ⟨b3, e3⟩ : ∃ b, ((alrT x.r).toList == (alrT y.r).toList) = b := ⟨_, rfl⟩
          obtain ⟨b4, e4⟩ : ∃ b, ((alwT x.b).toList == (alwT y.b).toList) = b := ⟨_, rfl⟩
          obtain ⟨b5, e5⟩ : ∃ b, (x.un == y.un) = b := ⟨_, rfl⟩
          have HSE := Lib.hid (show sgEq x y = (b0 && (b1 && (b2 && (b3 && (b4 && b5))))) from by unfold sgEq; rw [e0, e1, e2, e3, e4, e5])
          go_wp2_with (fail)
          all_goals go_meet
          all_goals exact ⟨by rw [HSE.out]; simp [*], hb1⟩
        case rest =>
        obtain ⟨hbv, hb2⟩ := hcut
        subst hbv
        obtain ⟨w2, ew2⟩ : ∃ V : World, V = wc := ⟨_, rfl⟩
        rw [← ew2] at hb2 ⊢
        obtain ⟨bb, hbb⟩ : ∃ b, b = sgEq x y := ⟨_, rfl⟩
        rw [← hbb]
        have HBB := Lib.hid hbb
        clear ew2 hbb
        have hs2 := hb2.size
        have HB2 := Lib.hid (HB.out.trans (hb2.mono hbs))
        clear hb2 hwr hwrap
        cases bb
        case true =>
          have HK2 := Lib.hid (HK.out.same hk1 HX.out HY.out HBB.out)
          have hck : ¬ c = k := by omega
          have hgb : w.heap.size ≤ w2.heap.size := by omega
          have HO2 := Lib.hid (show w2.ownsRow base 47 6 (.slice (some ⟨g, 0, none⟩) n c) n (recs sgC (csR l (l.take k))) from by
            rw [csR_take l k (by have := HL.out; omega)]
            exact own_belowP HO.out HB2.out)
          have htk : (l.take k).length = k := by rw [List.length_take]; have := HL.out; omega
          have HG2 := Lib.hid (show w.grownBy w2 (some g) from grown_belowP HB2.out)
          go_wp2_with (fail)
          go_loopw [3, 5] (fun s t wx => ∃ (j : Nat) (P : List Sg), 1 ≤ j ∧ j ≤ n - k ∧ t = .int .i64 (j : Int) ∧ s = .int .i64 (P.length : Int) ∧ 1 ≤ P.length ∧ P.length + 1 ≤ k + j ∧ Hid (CsJ sgEq l P (k + j)) ∧ wx.ownsRow base 47 6 (.slice (some ⟨g, 0, none⟩) n c) n (recs sgC (csR l P)) ∧ w.grownBy wx (some g)) (fun _ t _ => n - k - (intOf t).toNat)
          case atStart => exact ⟨1, l.take k, Nat.le_refl _, by omega, rfl, by rw [htk], by omega, by omega, HK2, HO2.out, HG2.out⟩
          case round =>
            obtain ⟨j, P, hj1, hjn, rfl, rfl, hP1, hPk, HKP, hown, hgr⟩ := hrel
            have HOW := Lib.hid hown
            have HGR := Lib.hid hgr
            have hgs := hgr.size
            obtain ⟨pl, epl⟩ : ∃ pl, pl = P.length := ⟨_, rfl⟩
            rw [← epl] at hP1 hPk ⊢
            have HPL := Lib.hid epl.symm
            clear hown hgr epl
            by_cases hltj : j < n - k
            · have hltI2 : (j : Int) < ((n - k : Nat) : Int) := by omega
              obtain ⟨x2, hx2⟩ : ∃ x, l[k + j]? = some x := ⟨_, List.getElem?_eq_getElem (by have := HL.out; omega)⟩
              obtain ⟨y2, hy2⟩ : ∃ y, l[k + j - 1]? = some y := ⟨_, List.getElem?_eq_getElem (by have := HL.out; omega)⟩
              have HCw := Lib.hid (own_cells0 HOW.out)
              have HQ2 := Lib.hid (fun (V : World) (hV : Below wr.heap.size wr V) => show SgAt2 V g (k * 6 + j * 6) x2 (k * 6 + (j - 1) * 6) y2 from by
                have h1 := sg_cells HCw.out (k + j) x2 (by rw [csR_get (by have := HPL.out; omega)]; exact hx2)
                have h2 := sg_cells HCw.out (k + j - 1) y2 (by rw [csR_get (by have := HPL.out; omega)]; exact hy2)
                rw [Nat.zero_add, Nat.add_mul] at h1
                rw [Nat.zero_add, show (k + j - 1) * 6 = k * 6 + (j - 1) * 6 by omega] at h2
                exact sgAt2 (h1.below hV (by omega)) (h2.below hV (by omega)))
              have HX2 := Lib.hid hx2
              have HY2 := Lib.hid hy2
              have hwrap : (j : Int) - 1 = ((j - 1 : Nat) : Int) := by omega
              have hwr : IntKind.i64.wrap ((j - 1 : Nat) : Int) = ((j - 1 : Nat) : Int) := by rw [IntKind.wrap_i64]; omega
              have hxI : ((j - 1 : Nat) : Int) < ((n - k : Nat) : Int) := by omega
              have hxN : j - 1 < n - k := by omega
              clear hx2 hy2
              go_upto_region 11 with (fail)
              go_cut [44] (fun s wx => s = .bool (!sgEq x2 y2) ∧ Below wr.heap.size wr wx)
              case first =>
                refine qRegionTail 9 (by kernel_rfl) (by kernel_rfl) ?_
                simp only [List.take_succ_cons, List.take_zero, List.drop_succ_cons, List.drop_zero]
                repeat (first
                  | (go_big_quiet_want; refine qVal (fun V hV => (by (obtain ⟨q0, q1, q2, q3, q4, q5, p0, p1, p2, p3, p4, p5⟩ := HQ2.out V hV; go_simp; try rfl))) ?_; simp only [Act.put, List.setIfInBounds_toArray, List.set_cons_zero, List.set_cons_succ]; go_big_quiet_on)
                  | go_big_quiet_skip)
                refine wpQuiet_nil ?_
                intro w1 hb1
                obtain ⟨b0, e0⟩ : ∃ b, (x2.at_ == y2.at_) = b := ⟨_, rfl⟩
                obtain ⟨b1, e1⟩ : ∃ b, (x2.kd == y2.kd) = b := ⟨_, rfl⟩
                obtain ⟨b2, e2⟩ : ∃ b, ((aldT x2.d).toList == (aldT y2.d).toList) = b := ⟨_, rfl⟩
                obtain ⟨b3, e3⟩ : ∃ b, ((alrT x2.r).toList == (alrT y2.r).toList) = b := ⟨_, rfl⟩
                obtain ⟨b4, e4⟩ : ∃ b, ((alwT x2.b).toList == (alwT y2.b).toList) = b := ⟨_, rfl⟩
                obtain ⟨b5, e5⟩ : ∃ b, (x2.un == y2.un) = b := ⟨_, rfl⟩
                have HSE := Lib.hid (show sgEq x2 y2 = (b0 && (b1 && (b2 && (b3 && (b4 && b5))))) from by unfold sgEq; rw [e0, e1, e2, e3, e4, e5])
                go_wp2_with (fail)
                all_goals go_meet
                all_goals exact ⟨by rw [HSE.out]; simp [*], hb1⟩
              case rest =>
              obtain ⟨hbv, hb4⟩ := hcut
              subst hbv
              obtain ⟨w4, ew2⟩ : ∃ V : World, V = wc := ⟨_, rfl⟩
              rw [← ew2] at hb4 ⊢
              obtain ⟨bb, hbb⟩ : ∃ b, b = sgEq x2 y2 := ⟨_, rfl⟩
              rw [← hbb]
              have HBB2 := Lib.hid hbb
              clear ew2 hbb
              have hs4 := hb4.size
              have HB4 := Lib.hid hb4
              clear hb4 hwr hwrap
              have HG4 := Lib.hid (grown_more HGR.out (grown_belowP (r := none) HB4.out) (by simp))
              have HO4 := Lib.hid (own_belowP HOW.out HB4.out)
              cases bb
              case true =>
                have HK4 := Lib.hid (HKP.out.same (by omega) HX2.out HY2.out HBB2.out)
                go_wp2_with (fail)
                go_roundw
                case rel => exact ⟨j + 1, P, by omega, by omega, by simp, by rw [HPL.out], by have := HPL.out; omega, by have := HPL.out; omega, HK4, HO4.out, HG4.out⟩
                case measure => simp [intOf]; omega
              case false =>
                have HK4 := Lib.hid (HKP.out.new HX2.out HY2.out HBB2.out)
                obtain ⟨z, hz⟩ : ∃ z, (csR l P)[pl]? = some z := ⟨_, List.getElem?_eq_getElem (by rw [csR_len (by have := HPL.out; have := HL.out; omega)]; have := HL.out; omega)⟩
                have hzc := sg_cells (own_cells0 HO4.out) pl z hz
                rw [Nat.zero_add] at hzc
                obtain ⟨z0, z1, z2, z3, z4, z5⟩ := hzc
                obtain ⟨q0, q1, q2, q3, q4, q5, _⟩ := HQ2.out w4 HB4.out
                obtain ⟨cs, hcs⟩ := own_blk HO4.out
                have fr : ∀ j, w4.frozen? ⟨g, j, none⟩ = false := by intro j; simp [World.frozen?, hcs]
                have fr0 := fr (pl * 6)
                have fr1 := fr (pl * 6 + 1)
                have fr2 := fr (pl * 6 + 2)
                have fr3 := fr (pl * 6 + 3)
                have fr4 := fr (pl * 6 + 4)
                have fr5 := fr (pl * 6 + 5)
                have hpn : pl < n := by omega
                have hpI : (pl : Int) < (n : Int) := by omega
                clear fr hcs hz
                have HSET := Lib.hid (sg_store HO4.out (by rw [csR_len (by have := HPL.out; have := HL.out; omega)]; exact HL.out) pl hpn x2)
                go_upto_region 13 with (fail)
                generalize hW5 : (((((w4.setCell ⟨g, pl * 6, none⟩ (.int .i64 x2.at_)).setCell ⟨g, pl * 6 + 1, none⟩ (.int .i64 x2.kd)).setCell ⟨g, pl * 6 + 2, none⟩ (.string (aldT x2.d))).setCell ⟨g, pl * 6 + 3, none⟩ (.string (alrT x2.r))).setCell ⟨g, pl * 6 + 4, none⟩ (.string (alwT x2.b))).setCell ⟨g, pl * 6 + 5, none⟩ (.int .i64 x2.un) = w5 at HSET ⊢
                have HO5 := Lib.hid (show w5.ownsRow base 47 6 (.slice (some ⟨g, 0, none⟩) n c) n (recs sgC (csR l (P ++ [x2]))) from by
                  have h := HSET.out.1
                  rw [← HPL.out, csR_set (by have := HPL.out; have := HL.out; omega)] at h
                  exact h)
                have HG5 := Lib.hid (grown_trans HG4.out HSET.out.2)
                have HPL5 := Lib.hid (show (P ++ [x2]).length = pl + 1 from by rw [List.length_append, HPL.out]; rfl)
                clear hW5 HSET z0 z1 z2 z3 z4 z5 q0 q1 q2 q3 q4 q5 fr0 fr1 fr2 fr3 fr4 fr5
                go_wp2_with (fail)
                go_roundw
                case rel => exact ⟨j + 1, P ++ [x2], by omega, by omega, by simp, by rw [HPL5.out]; simp, by rw [HPL5.out]; omega, by rw [HPL5.out]; omega, HK4, HO5.out, HG5.out⟩
                case measure => simp [intOf]; omega
            · have hltI2 : ¬ (j : Int) < ((n - k : Nat) : Int) := by omega
              have hjn2 : j = n - k := by omega
              have hcp : ¬ c = pl := by omega
              have hpn : pl ≤ n := by omega
              have hpI : (pl : Int) ≤ (n : Int) := by omega
              obtain ⟨cs, hcs⟩ := own_blk HOW.out
              obtain ⟨vs, hvl, hcl⟩ := run_clear_n (P := Tryz.prog) wr 26 47 _ [.int .i64 0, .int .i64 0, .string ⟨#[]⟩, .string ⟨#[]⟩, .string ⟨#[]⟩, .int .i64 0] (n - pl) Tryz.underlying26 Tryz.zeroValue47 rfl (by simp) (by intro u hu; simp at hu; rcases hu with rfl | rfl | rfl | rfl | rfl | rfl <;> rfl) g (pl * 6)
                (fun i hi => by
                  simp at hi
                  rw [HOW.out.cellAt _ (by omega), List.getElem?_eq_getElem (by rw [recs_length sgC_len, csR_len (by have := HPL.out; have := HL.out; omega), HL.out]; omega)]
                  rfl)
                (fun i _ => HOW.out.frozenAt _)
              have hvl6 : vs.length = (n - pl) * 6 := by rw [hvl]; rfl
              have HSET := Lib.hid (own_setCells vs (pl * 6) wr (recs sgC (csR l P)) HOW.out (by rw [recs_length sgC_len, csR_len (by have := HPL.out; have := HL.out; omega), hvl6, HL.out]; omega))
              have HF := Lib.hid (show CsPost3 l n c base (some ⟨g, 0, none⟩) w (.returned (.slice (some ⟨g, 0, none⟩) pl c)) (wr.setCells g (pl * 6) vs) from by
                refine ⟨P, pl, rfl, HPL.out, hpn, HKP.out.1, ?_, grown_trans HGR.out HSET.out.2, by have h := HKP.out.2; rw [show k + j = n by omega] at h; exact h⟩
                have h := own_shrink HSET.out.1 pl hpn
                rw [List.append_assoc, List.take_append_of_le_length (by rw [List.length_take, recs_length sgC_len, csR_len (by have := HPL.out; have := HL.out; omega), HL.out]; omega), List.take_take, Nat.min_self] at h
                have h3 : (recs sgC (csR l P)).take (pl * 6) = recs sgC P := by
                  have h4 := recs_append sgC P (l.drop P.length)
                  unfold csR
                  rw [h4, List.take_append_of_le_length (by rw [recs_length sgC_len, HPL.out]; exact Nat.le_refl _), List.take_of_length_le (by rw [recs_length sgC_len, HPL.out]; exact Nat.le_refl _)]
                rw [h3] at h
                exact h)
              have hsl : ∀ ty, (Builtin.clear_ #[26] ty #[.slice (some ⟨g, pl * 6, none⟩) (n - pl) (c - pl)]).run Tryz.prog wr = .ok (.tuple #[]) (wr.setCells g (pl * 6) vs) := fun ty => hcl ty (c - pl)
              clear hcl HSET hcs hvl hvl6
              obtain ⟨W6, e6⟩ : ∃ W6, W6 = wr.setCells g (pl * 6) vs := ⟨_, rfl⟩
              rw [← e6] at hsl HF
              clear e6
              go_wp2_with (fail)
              go_ret
              exact HF.out
        case false =>
          have HK2 := Lib.hid (HK.out.newT HX.out HY.out HBB.out)
          go_wp2_with (fail)
          go_roundw
          case rel => exact ⟨k + 1, by omega, by omega, by simp, HB2.out, HK2⟩
          case measure => simp [intOf]; omega
      · have hltI : ¬ (k : Int) < n := by omega
        have hkn' : k = n := by omega
        subst hkn'
        have HF := Lib.hid (show CsPost3 l k c base (some ⟨g, 0, none⟩) w (.returned (.slice (some ⟨g, 0, none⟩) k c)) wr from by
          exact ⟨l, k, rfl, HL.out, Nat.le_refl _, fun x hx => hx, own_belowP HO.out HB.out, grown_belowP HB.out, by have h := HK.out.2; rw [List.take_of_length_le (by rw [HL.out]; exact Nat.le_refl _)] at h; exact h⟩)
        go_wp2_with (fail)
        go_ret
        exact HF.out
end Go.Proofs.YtgdnedhcbjonkaaGreatDoor
