/- twin.joined of right cells by its contract. Printed by gen_CeJ.py. -/
import Derived.Test.YtkcpfppjdjkjeaaGreatDoorCeK
import Derived.Test.YtkcpfppjdjkjeaaGreatDoorMgD
import Derived.Test.YtkcpfppjdjkjeaaGreatDoorCeM
import Derived.Deep.RegionLawGrows
import Derived.Deep.CutRange
namespace Go.Proofs.YtkcpfppjdjkjeaaGreatDoor
open Go.RowKit

def slLn : Value → Nat
  | .slice _ n _ => n
  | _ => 0
theorem ly_next {w : World} {b o na ca : Nat} {x : Ce} {a2 : List Ce} (hC : Cells w b o (recs ceC (x :: a2))) (hb : b < w.heap.size) (hl : a2.length + 1 = na) (hc : na ≤ ca) : ∃ An, (if ca = 1 then (some (⟨b, o, none⟩ : Addr)) else some ⟨b, o + 8, none⟩) = An ∧ Ly w An (na - 1) (ca - 1) (recs ceC a2) := by
  by_cases h : ca = 1
  · refine ⟨_, rfl, .inr ⟨b, o, if_pos h, hb, ?_⟩⟩
    have : a2 = [] := List.eq_nil_of_length_eq_zero (by omega)
    rw [this]
    intro j v hv
    simp [recs] at hv
  · refine ⟨_, rfl, .inr ⟨b, o + 8, if_neg h, hb, ?_⟩⟩
    have := hC.drop (1 * 8)
    rw [recs_drop ceC_len] at this
    simpa using this
theorem Ly.pos {w : World} {A : Option Addr} {n c : Nat} {x : Ce} {l : List Ce} (h : Ly w A n c (recs ceC (x :: l))) : ∃ b o, A = some ⟨b, o, none⟩ ∧ b < w.heap.size ∧ Cells w b o (recs ceC (x :: l)) := by
  rcases h with ⟨_, _, _, h⟩ | h
  · have := recs_length ceC_len (x :: l)
    rw [h] at this
    simp at this
  · exact h
theorem CsOk.tail {x : Ce} {l : List Ce} (h : CsOk (x :: l)) : CsOk l := ⟨(List.pairwise_cons.1 h.1).2, fun y hy => h.2 y (List.mem_cons_of_mem _ hy)⟩
theorem jn_map {a b : List Ce} {out : List Ce} {x : Ce} {r : Option (List Ce)} (h : jn a b = (r.map (x :: ·)).map (out ++ ·)) : jn a b = r.map ((out ++ [x]) ++ ·) := by
  rw [h]
  cases r with
  | none => rfl
  | some l => simp
theorem jn_left {x y : Ce} {a b : List Ce} (h : x.1 < y.1) : jn (x :: a) (y :: b) = (jn a (y :: b)).map (x :: ·) := by rw [jn, if_pos h]
theorem jn_right {x y : Ce} {a b : List Ce} (h1 : ¬ x.1 < y.1) (h : y.1 < x.1) : jn (x :: a) (y :: b) = (jn (x :: a) b).map (y :: ·) := by rw [jn, if_neg h1, if_pos h]
theorem jn_none {x y : Ce} {a b : List Ce} (h1 : ¬ x.1 < y.1) (h2 : ¬ y.1 < x.1) (h : cfl (some x.2) (some y.2) = true) : jn (x :: a) (y :: b) = none := by rw [jn, if_neg h1, if_neg h2, if_pos h]
theorem jn_both {x y : Ce} {a b : List Ce} (h1 : ¬ x.1 < y.1) (h2 : ¬ y.1 < x.1) (h : cfl (some x.2) (some y.2) = false) : jn (x :: a) (y :: b) = (jn a b).map ((if sk x.2.2 < sk y.2.2 then y else x) :: ·) := by rw [jn, if_neg h1, if_neg h2, if_neg (by rw [h]; simp)]
theorem pv_iff {v u : Pv} : v = u ↔ v.k = u.k ∧ v.f = u.f ∧ v.n = u.n ∧ v.s.toList = u.s.toList := by
  obtain ⟨k, f, n, s⟩ := v
  obtain ⟨k', f', n', s'⟩ := u
  simp only [Pv.mk.injEq, toList_same]
def JnPost (a b : List Ce) (w : World) (e : Ending) (w' : World) : Prop :=
  ((jn a b = none ∧ e = .returned (.tuple #[.slice none 0 0, .int .i64 13])) ∨ (∃ l A c n, jn a b = some l ∧ l.length = n ∧ e = .returned (.tuple #[.slice A n c, .int .i64 0]) ∧ w'.ownsRow w.heap.size 41 8 (.slice A n c) n (recs ceC l))) ∧ Below w.heap.size w w'
set_option maxRecDepth 100000 in
set_option maxHeartbeats 8000000 in
theorem joined_any (a b : List Ce) (na nb ca cb : Nat) (A B : Option Addr) (w : World) (ha : CsOk a) (hb : CsOk b) (hna : a.length = na) (hnb : b.length = nb) (hna7 : na ≤ 40) (hnb7 : nb ≤ 40) (hca : na ≤ ca) (hcb : nb ≤ cb)
    (hra : Ly w A na ca (recs ceC a)) (hrb : Ly w B nb cb (recs ceC b)) :
    Calls Tryz.prog 68 #[.slice A na ca, .slice B nb cb] w fun e w' => JnPost a b w e w' := by
  obtain ⟨i0, hi0, hz0, hz1, hz2⟩ := info_parts Tryz.infoCe
  have HRA := Lib.hid hra
  have HRB := Lib.hid hrb
  have HA := Lib.hid ha
  have HBo := Lib.hid hb
  have HNA := Lib.hid hna
  have HNB := Lib.hid hnb
  clear hra hrb ha hb hna hnb
  go_enter Tryz.func68, Tryz.ntmps68
  go_wp2_with (fail)
  go_loopw [0, 1, 6] (fun va vb vo wr => ∃ (a' b' out : List Ce) (A' B' : Option Addr) (na' nb' ca' cb' no : Nat), va = .slice A' na' ca' ∧ vb = .slice B' nb' cb' ∧ a'.length = na' ∧ b'.length = nb' ∧ out.length = no ∧ na' ≤ ca' ∧ nb' ≤ cb' ∧ no + na' + nb' ≤ 80 ∧ CsOk a' ∧ CsOk b' ∧ Ly w A' na' ca' (recs ceC a') ∧ Ly w B' nb' cb' (recs ceC b') ∧ wr.ownsRow w.heap.size 41 8 vo no (recs ceC out) ∧ Below w.heap.size w wr ∧ Hid (jn a b = (jn a' b').map (out ++ ·))) (fun va vb _ _ => slLn va + slLn vb)
  case atStart => exact ⟨a, b, [], A, B, na, nb, ca, cb, 0, rfl, rfl, HNA.out, HNB.out, rfl, hca, hcb, by omega, HA.out, HBo.out, HRA.out, HRB.out, World.ownsRow_nil _ _ _ _, Below.refl _ _, Lib.hid (by simp)⟩
  case round =>
    obtain ⟨a', b', out, A', B', na', nb', ca', cb', no, rfl, rfl, hla, hlb, hlo, hcA, hcB, h80, hoa, hob, hrA, hrB, hown, hbr, HJ⟩ := hrel
    have hbs := hbr.size
    have HB := Lib.hid hbr
    have HO := Lib.hid hown
    have HLA := Lib.hid hla
    have HLB := Lib.hid hlb
    have HLO := Lib.hid hlo
    have HOA := Lib.hid hoa
    have HOB := Lib.hid hob
    have HRa := Lib.hid hrA
    have HRb := Lib.hid hrB
    clear hla hlb hlo hoa hob hrA hrB hown hbr
    by_cases hnz : 0 < na' ∧ 0 < nb'
    · obtain ⟨ha0, hb0⟩ := hnz
      have ha0I : (0 : Int) < na' := by omega
      have hb0I : (0 : Int) < nb' := by omega
      obtain ⟨x, a2, rfl⟩ : ∃ x a2, a' = x :: a2 := by
        cases a' with
        | nil => have := HLA.out; simp at this; omega
        | cons x a2 => exact ⟨x, a2, rfl⟩
      obtain ⟨y, b2, rfl⟩ : ∃ y b2, b' = y :: b2 := by
        cases b' with
        | nil => have := HLB.out; simp at this; omega
        | cons y b2 => exact ⟨y, b2, rfl⟩
      obtain ⟨ba, oa, rfl, hba, hCa⟩ := HRa.out.pos
      obtain ⟨bb, ob, rfl, hbb, hCb⟩ := HRb.out.pos
      obtain ⟨An, hAn, hRAn⟩ := ly_next hCa hba (by have := HLA.out; simpa using this) hcA
      obtain ⟨Bn, hBn, hRBn⟩ := ly_next hCb hbb (by have := HLB.out; simpa using this) hcB
      obtain ⟨hx7, hxv, hxs⟩ := HOA.out.2 x (by simp)
      obtain ⟨hy7, hyv, hys⟩ := HOB.out.2 y (by simp)
      have HXS := Lib.hid hxs
      have HYS := Lib.hid hys
      have HRAn := Lib.hid hRAn
      have HRBn := Lib.hid hRBn
      have HLA2 := Lib.hid (show a2.length = na' - 1 from by have := HLA.out; simp at this; omega)
      have HLB2 := Lib.hid (show b2.length = nb' - 1 from by have := HLB.out; simp at this; omega)
      have HAT := Lib.hid HOA.out.tail
      have HBT := Lib.hid HOB.out.tail
      have HQ := Lib.hid (fun (V : World) (hV : Below wr.heap.size wr V) => show CeAt3 V ba oa x bb ob y from by
        have h1 := ce_cells hCa 0 x rfl
        have h2 := ce_cells hCb 0 y rfl
        simp only [Nat.zero_mul, Nat.add_zero] at h1 h2
        have hb := HB.out.trans (hV.mono hbs)
        exact ceAt3 (h1.below hb hba) (h2.below hb hbb))
      have HC1 := Lib.hid (fun (V : World) => show Calls Tryz.prog 44 #[.string (nm x.1), .string (nm y.1)] V fun e w' => e = .returned (.int .i64 (cmpN x.1 y.1)) ∧ Below V.heap.size V w' from (scompare_nm x.1 y.1 hx7 hy7 V).mono (fun e w' h => ⟨h.1, h.2 ▸ Below.refl _ _⟩))
      clear hCa hCb hxv hyv hxs hys hRAn hRBn
      have ha1 : ¬ (1 : Int) > na' := by omega
      have hb1 : ¬ (1 : Int) > nb' := by omega
      have ha1N : 1 ≤ na' := ha0
      have hb1N : 1 ≤ nb' := hb0
      have ha1c : 1 ≤ ca' := by omega
      have hb1c : 1 ≤ cb' := by omega
      go_upto_region 3 with (fail)
      refine qRegionTail 10 (by kernel_rfl) (by kernel_rfl) ?_
      simp only [List.take_succ_cons, List.take_zero, List.drop_succ_cons, List.drop_zero]
      repeat (first
        | (go_big_quiet_want; refine qVal (fun V hV => (by (obtain ⟨x0, x1, x2, x3, x4, x5, x6, x7, y0, y1, y2, y3, y4, y5, y6, y7⟩ := HQ.out V hV; go_simp; try rfl))) ?_; simp only [Act.put, List.setIfInBounds_toArray, List.set_cons_zero, List.set_cons_succ]; go_big_quiet_on)
        | go_big_quiet_skip)
      refine wpQuiet_nil ?_
      intro w1 hb1'
      have HB1 := Lib.hid hb1'
      have hs1 := hb1'.size
      clear hb1'
      by_cases h1 : x.1 < y.1
      · have HJ2 := Lib.hid (jn_map (HJ.out.trans (by rw [jn_left h1])))
        have hcmp : cmpN x.1 y.1 = -1 := by unfold cmpN; rw [if_pos h1]
        go_upto_region 5 with (go_at_call 44; refine (HC1.out _).mono ?_; rw [hcmp]; rintro e w2 ⟨rfl, hb2⟩; have HB2 := Lib.hid (HB1.out.trans (hb2.mono HB1.out.size)); have hs2 := hb2.size; clear hb2)
        obtain ⟨x0, x1, x2, x3, x4, x5, x6, x7, y0, y1, y2, y3, y4, y5, y6, y7⟩ := HQ.out w2 HB2.out
        have HOw := Lib.hid (own_belowP HO.out HB2.out)
        have HBw := Lib.hid (HB.out.trans (HB2.out.mono hbs))
        go_region_law (first | (refine step_append_row rfl (.tmp 31) (.tmp 35) 26 rfl w.heap.size 41 i0 _ 8 88 Tryz.underlying26 hi0 hz0 hz1 hz2 rfl (by decide) u6 no (recs ceC out) (by simp [Act.eval]) (HOw.out.alloc _) ⟨w2.heap.size, 0, none⟩ 1 1 (ceC x) (by simp [Act.eval]) rfl (cells_add (Cells.new _ _ _ _ _ rfl)) (ceC_one _) (by unfold maxLen; omega) (by omega) (by have := HBw.out.size; simp; omega) ?_; intro v9 w9 ho9 hg9))
        have hlo : ∀ q, u6.ownBlock = some q → w.heap.size ≤ q := fun q hq => (HOw.out.lt q hq).1
        have HB9 := Lib.hid ((HBw.out.alloc HBw.out.size _).drew.grown hg9 (by have := HBw.out.size; first | omega | (simp; omega)) hlo)
        have HO9 := Lib.hid (show w9.ownsRow w.heap.size 41 8 v9 (no + 1) (recs ceC (out ++ [x])) from by rw [recs_snoc]; exact ho9)
        have HLO9 := Lib.hid (show (out ++ [x]).length = no + 1 from by rw [List.length_append, HLO.out]; rfl)
        clear ho9 hg9 hlo x0 x1 x2 x3 x4 x5 x6 x7 y0 y1 y2 y3 y4 y5 y6 y7
        go_wp2_with (fail)
        simp only [Act.put, List.getElem_toArray, List.getElem_cons_zero, List.getElem_cons_succ, List.setIfInBounds_toArray, List.set_cons_zero, List.set_cons_succ]
        go_roundw
        case rel => exact ⟨a2, y :: b2, out ++ [x], An, some ⟨bb, ob, none⟩, na' - 1, nb', ca' - 1, cb', no + 1, rfl, rfl, HLA2.out, HLB.out, HLO9.out, by omega, by omega, by omega, HAT.out, HOB.out, HRAn.out, HRb.out, HO9.out, HB9.out, HJ2⟩
        case measure => simp [slLn]; omega
      · by_cases h2 : y.1 < x.1
        · have HJ2 := Lib.hid (jn_map (HJ.out.trans (by rw [jn_right h1 h2])))
          have hcmp : cmpN x.1 y.1 = 1 := by unfold cmpN; rw [if_neg h1, if_neg (by omega)]
          go_upto_region 7 with (go_at_call 44; refine (HC1.out _).mono ?_; rw [hcmp]; rintro e w2 ⟨rfl, hb2⟩; have HB2 := Lib.hid (HB1.out.trans (hb2.mono HB1.out.size)); have hs2 := hb2.size; clear hb2)
          obtain ⟨x0, x1, x2, x3, x4, x5, x6, x7, y0, y1, y2, y3, y4, y5, y6, y7⟩ := HQ.out w2 HB2.out
          have HOw := Lib.hid (own_belowP HO.out HB2.out)
          have HBw := Lib.hid (HB.out.trans (HB2.out.mono hbs))
          go_region_law (first | (refine step_append_row rfl (.tmp 42) (.tmp 46) 26 rfl w.heap.size 41 i0 _ 8 88 Tryz.underlying26 hi0 hz0 hz1 hz2 rfl (by decide) u6 no (recs ceC out) (by simp [Act.eval]) (HOw.out.alloc _) ⟨w2.heap.size, 0, none⟩ 1 1 (ceC y) (by simp [Act.eval]) rfl (cells_add (Cells.new _ _ _ _ _ rfl)) (ceC_one _) (by unfold maxLen; omega) (by omega) (by have := HBw.out.size; simp; omega) ?_; intro v9 w9 ho9 hg9))
          have hlo : ∀ q, u6.ownBlock = some q → w.heap.size ≤ q := fun q hq => (HOw.out.lt q hq).1
          have HB9 := Lib.hid ((HBw.out.alloc HBw.out.size _).drew.grown hg9 (by have := HBw.out.size; first | omega | (simp; omega)) hlo)
          have HO9 := Lib.hid (show w9.ownsRow w.heap.size 41 8 v9 (no + 1) (recs ceC (out ++ [y])) from by rw [recs_snoc]; exact ho9)
          have HLO9 := Lib.hid (show (out ++ [y]).length = no + 1 from by rw [List.length_append, HLO.out]; rfl)
          clear ho9 hg9 hlo x0 x1 x2 x3 x4 x5 x6 x7 y0 y1 y2 y3 y4 y5 y6 y7
          go_wp2_with (fail)
          simp only [Act.put, List.getElem_toArray, List.getElem_cons_zero, List.getElem_cons_succ, List.setIfInBounds_toArray, List.set_cons_zero, List.set_cons_succ]
          go_roundw
          case rel => exact ⟨x :: a2, b2, out ++ [y], some ⟨ba, oa, none⟩, Bn, na', nb' - 1, ca', cb' - 1, no + 1, rfl, rfl, HLA.out, HLB2.out, HLO9.out, by omega, by omega, by omega, HOA.out, HBT.out, HRa.out, HRBn.out, HO9.out, HB9.out, HJ2⟩
          case measure => simp [slLn]; omega
        · have hcmp : cmpN x.1 y.1 = 0 := by unfold cmpN; rw [if_neg h1, if_pos (by omega)]
          go_upto_region 8 with (go_at_call 44; refine (HC1.out _).mono ?_; rw [hcmp]; rintro e w2 ⟨rfl, hb2⟩; have HB2 := Lib.hid (HB1.out.trans (hb2.mono HB1.out.size)); have hs2 := hb2.size; clear hb2)
          have HQ2 := Lib.hid (fun (V : World) (hV : Below w2.heap.size w2 V) => HQ.out V (HB2.out.trans (hV.mono (by omega))))
          refine qRegionTail 8 (by kernel_rfl) (by kernel_rfl) ?_
          simp only [List.take_succ_cons, List.take_zero, List.drop_succ_cons, List.drop_zero]
          repeat (first
            | (go_big_quiet_want; refine qVal (fun V hV => (by (obtain ⟨x0, x1, x2, x3, x4, x5, x6, x7, y0, y1, y2, y3, y4, y5, y6, y7⟩ := HQ2.out V hV; go_simp; try rfl))) ?_; simp only [Act.put, List.setIfInBounds_toArray, List.set_cons_zero, List.set_cons_succ]; go_big_quiet_on)
            | go_big_quiet_skip)
          refine wpQuiet_nil ?_
          intro w3 hb3
          have hs3 := hb3.size
          have HB3 := Lib.hid (HB2.out.trans (hb3.mono (by omega)))
          clear hb3
          have HBS := Lib.hid (fun V => byStamp_any x.2.2 y.2.2 HXS.out HYS.out V)
          by_cases s1 : sk x.2.2 < sk y.2.2
          · have HJ2 := Lib.hid (jn_map (HJ.out.trans (by rw [jn_both h1 h2 (by cases hc : cfl (some x.2) (some y.2) with | false => rfl | true => rw [cfl_iff] at hc; omega), if_pos s1])))
            have hcs : cmpI (sk x.2.2) (sk y.2.2) = -1 := by unfold cmpI; rw [if_pos s1]
            go_upto_region 10 with (go_at_call 48; refine (HBS.out _).mono ?_; rw [hcs]; rintro e w4 ⟨rfl, hb4⟩; have HB4 := Lib.hid (HB3.out.trans (hb4.mono (by omega))); have hs4 := hb4.size; clear hb4)
            have HQ4 := Lib.hid (fun (V : World) (hV : Below w4.heap.size w4 V) => HQ.out V (HB4.out.trans (hV.mono (by omega))))
            refine qRegion (by kernel_rfl) (by kernel_rfl) ?_
            repeat (first
              | (go_big_quiet_want; refine qVal (fun V hV => (by (obtain ⟨x0, x1, x2, x3, x4, x5, x6, x7, y0, y1, y2, y3, y4, y5, y6, y7⟩ := HQ4.out V hV; go_simp; try rfl))) ?_; simp only [Act.put, List.setIfInBounds_toArray, List.set_cons_zero, List.set_cons_succ]; go_big_quiet_on)
              | go_big_quiet_skip)
            refine wpQuiet_nil ?_
            intro w5 hb5
            have hs5 := hb5.size
            have HB5 := Lib.hid (HB4.out.trans (hb5.mono (by omega)))
            clear hb5
            obtain ⟨x0, x1, x2, x3, x4, x5, x6, x7, y0, y1, y2, y3, y4, y5, y6, y7⟩ := HQ.out w5 HB5.out
            have HOw := Lib.hid (own_belowP HO.out HB5.out)
            have HBw := Lib.hid (HB.out.trans (HB5.out.mono hbs))
            go_wp2_with (at_builtin; refine wpList_append_own2 _ rfl _ _ 26 rfl w.heap.size 41 i0 _ 8 88 Tryz.underlying26 hi0 hz0 hz1 hz2 rfl (by decide) _ _ _ rfl (HOw.out.alloc _) ⟨_, 0, none⟩ 1 1 (ceC y) rfl rfl ?c1 ?c2 ?c3 ?c4 ?c5 ?_)
            case c1 => exact cells_add (cells_atF (by rfl) (by first | rfl | simp))
            case c2 => exact ceC_one _
            case c3 => unfold maxLen; omega
            case c4 => omega
            case c5 => have := HBw.out.size; first | omega | (simp; omega)
            intro v9 w9 ho9 hg9 hm9
            have hlo : ∀ q, u6.ownBlock = some q → w.heap.size ≤ q := fun q hq => (HOw.out.lt q hq).1
            have HB9 := Lib.hid ((HBw.out.alloc HBw.out.size _).grown hg9 (by have := HBw.out.size; first | omega | (simp; omega)) hlo)
            have HO9 := Lib.hid (show w9.ownsRow w.heap.size 41 8 v9 (no + 1) (recs ceC (out ++ [y])) from by rw [recs_snoc]; exact ho9)
            have HLO9 := Lib.hid (show (out ++ [y]).length = no + 1 from by rw [List.length_append, HLO.out]; rfl)
            clear ho9 hg9 hlo x0 x1 x2 x3 x4 x5 x6 x7 y0 y1 y2 y3 y4 y5 y6 y7
            go_wp2_with (fail)
            go_quiet (fail)
            go_wp2_with (fail)
            go_roundw
            case rel => exact ⟨a2, b2, out ++ [y], An, Bn, na' - 1, nb' - 1, ca' - 1, cb' - 1, no + 1, rfl, rfl, HLA2.out, HLB2.out, HLO9.out, by omega, by omega, by omega, HAT.out, HBT.out, HRAn.out, HRBn.out, own_drewN HO9.out _, below_drewN HB9.out _, HJ2⟩
            case measure => simp [slLn]; omega
          · by_cases s2 : sk y.2.2 < sk x.2.2
            · have HJ2 := Lib.hid (jn_map (HJ.out.trans (by rw [jn_both h1 h2 (by cases hc : cfl (some x.2) (some y.2) with | false => rfl | true => rw [cfl_iff] at hc; omega), if_neg s1])))
              have hcs : cmpI (sk x.2.2) (sk y.2.2) = 1 := by unfold cmpI; rw [if_neg s1, if_pos s2]
              go_upto_region 10 with (go_at_call 48; refine (HBS.out _).mono ?_; rw [hcs]; rintro e w4 ⟨rfl, hb4⟩; have HB4 := Lib.hid (HB3.out.trans (hb4.mono (by omega))); have hs4 := hb4.size; clear hb4)
              have HQ4 := Lib.hid (fun (V : World) (hV : Below w4.heap.size w4 V) => HQ.out V (HB4.out.trans (hV.mono (by omega))))
              refine qRegion (by kernel_rfl) (by kernel_rfl) ?_
              repeat (first
                | (go_big_quiet_want; refine qVal (fun V hV => (by (obtain ⟨x0, x1, x2, x3, x4, x5, x6, x7, y0, y1, y2, y3, y4, y5, y6, y7⟩ := HQ4.out V hV; go_simp; try rfl))) ?_; simp only [Act.put, List.setIfInBounds_toArray, List.set_cons_zero, List.set_cons_succ]; go_big_quiet_on)
                | go_big_quiet_skip)
              refine wpQuiet_nil ?_
              intro w5 hb5
              have hs5 := hb5.size
              have HB5 := Lib.hid (HB4.out.trans (hb5.mono (by omega)))
              clear hb5
              obtain ⟨x0, x1, x2, x3, x4, x5, x6, x7, y0, y1, y2, y3, y4, y5, y6, y7⟩ := HQ.out w5 HB5.out
              have HOw := Lib.hid (own_belowP HO.out HB5.out)
              have HBw := Lib.hid (HB.out.trans (HB5.out.mono hbs))
              go_wp2_with (at_builtin; refine wpList_append_own2 _ rfl _ _ 26 rfl w.heap.size 41 i0 _ 8 88 Tryz.underlying26 hi0 hz0 hz1 hz2 rfl (by decide) _ _ _ rfl (HOw.out.alloc _) ⟨_, 0, none⟩ 1 1 (ceC x) rfl rfl ?c1 ?c2 ?c3 ?c4 ?c5 ?_)
              case c1 => exact cells_add (cells_atF (by rfl) (by first | rfl | simp))
              case c2 => exact ceC_one _
              case c3 => unfold maxLen; omega
              case c4 => omega
              case c5 => have := HBw.out.size; first | omega | (simp; omega)
              intro v9 w9 ho9 hg9 hm9
              have hlo : ∀ q, u6.ownBlock = some q → w.heap.size ≤ q := fun q hq => (HOw.out.lt q hq).1
              have HB9 := Lib.hid ((HBw.out.alloc HBw.out.size _).grown hg9 (by have := HBw.out.size; first | omega | (simp; omega)) hlo)
              have HO9 := Lib.hid (show w9.ownsRow w.heap.size 41 8 v9 (no + 1) (recs ceC (out ++ [x])) from by rw [recs_snoc]; exact ho9)
              have HLO9 := Lib.hid (show (out ++ [x]).length = no + 1 from by rw [List.length_append, HLO.out]; rfl)
              clear ho9 hg9 hlo x0 x1 x2 x3 x4 x5 x6 x7 y0 y1 y2 y3 y4 y5 y6 y7
              go_wp2_with (fail)
              go_quiet (fail)
              go_wp2_with (fail)
              go_roundw
              case rel => exact ⟨a2, b2, out ++ [x], An, Bn, na' - 1, nb' - 1, ca' - 1, cb' - 1, no + 1, rfl, rfl, HLA2.out, HLB2.out, HLO9.out, by omega, by omega, by omega, HAT.out, HBT.out, HRAn.out, HRBn.out, own_drewN HO9.out _, below_drewN HB9.out _, HJ2⟩
              case measure => simp [slLn]; omega
            · have hse : sk x.2.2 = sk y.2.2 := by omega
              have hcs : cmpI (sk x.2.2) (sk y.2.2) = 0 := by unfold cmpI; rw [if_neg s1, if_neg s2]
              go_upto_region 10 with (go_at_call 48; refine (HBS.out _).mono ?_; rw [hcs]; rintro e w4 ⟨rfl, hb4⟩; have HB4 := Lib.hid (HB3.out.trans (hb4.mono (by omega))); have hs4 := hb4.size; clear hb4)
              obtain ⟨x0, x1, x2, x3, x4, x5, x6, x7, y0, y1, y2, y3, y4, y5, y6, y7⟩ := HQ.out w4 HB4.out
              go_cut [65] from 9 to 93 (fun s wx => ∃ t : Bool, s = .bool t ∧ (t = true ↔ ¬ x.2.1 = y.2.1) ∧ Below w4.heap.size w4 wx)
              case first =>
                by_cases e0 : x.2.1.k = y.2.1.k
                rotate_left
                · go_quiet (fail)
                  go_wp2_with (fail)
                  go_meet
                  exact ⟨true, rfl, iff_of_true rfl (fun h => e0 (by rw [h])), below_drewN (Below.refl _ _) _⟩
                by_cases e1 : x.2.1.f = y.2.1.f
                rotate_left
                · go_quiet (fail)
                  go_wp2_with (fail)
                  go_meet
                  exact ⟨true, rfl, iff_of_true rfl (fun h => e1 (by rw [h])), below_drewN (Below.refl _ _) _⟩
                by_cases e2 : x.2.1.n = y.2.1.n
                rotate_left
                · go_quiet (fail)
                  go_wp2_with (fail)
                  go_meet
                  exact ⟨true, rfl, iff_of_true rfl (fun h => e2 (by rw [h])), below_drewN (Below.refl _ _) _⟩
                by_cases e3 : x.2.1.s.toList = y.2.1.s.toList
                rotate_left
                · go_quiet (fail)
                  go_wp2_with (fail)
                  go_meet
                  exact ⟨true, rfl, iff_of_true rfl (fun h => e3 (by rw [h])), below_drewN (Below.refl _ _) _⟩
                go_quiet (fail)
                go_wp2_with (fail)
                go_meet
                exact ⟨false, rfl, iff_of_false (by decide) (fun h => h (pv_iff.2 ⟨e0, e1, e2, e3⟩)), below_drewN (Below.refl _ _) _⟩
              case rest =>
                obtain ⟨t, rfl, ht, hbt⟩ := hcut
                have hs5 := hbt.size
                have HB5 := Lib.hid (HB4.out.trans (hbt.mono (by omega)))
                clear hbt x0 x1 x2 x3 x4 x5 x6 x7 y0 y1 y2 y3 y4 y5 y6 y7
                cases t
                · have hve : x.2.1 = y.2.1 := by simpa using ht
                  have HJ2 := Lib.hid (jn_map (HJ.out.trans (by rw [jn_both h1 h2 (by cases hc : cfl (some x.2) (some y.2) with | false => rfl | true => rw [cfl_iff] at hc; exact absurd hve hc.2), if_neg (by omega)])))
                  clear ht hve
                  obtain ⟨x0, x1, x2, x3, x4, x5, x6, x7, y0, y1, y2, y3, y4, y5, y6, y7⟩ := HQ.out wc HB5.out
                  have HOw := Lib.hid (own_belowP HO.out HB5.out)
                  have HBw := Lib.hid (HB.out.trans (HB5.out.mono hbs))
                  go_wp2_with (at_builtin; refine wpList_append_own2 _ rfl _ _ 26 rfl w.heap.size 41 i0 _ 8 88 Tryz.underlying26 hi0 hz0 hz1 hz2 rfl (by decide) _ _ _ rfl (HOw.out.alloc _) ⟨_, 0, none⟩ 1 1 (ceC x) rfl rfl ?c1 ?c2 ?c3 ?c4 ?c5 ?_)
                  case c1 => exact cells_add (cells_atF (by rfl) (by first | rfl | simp))
                  case c2 => exact ceC_one _
                  case c3 => unfold maxLen; omega
                  case c4 => omega
                  case c5 => have := HBw.out.size; first | omega | (simp; omega)
                  intro v9 w9 ho9 hg9 hm9
                  have hlo : ∀ q, u6.ownBlock = some q → w.heap.size ≤ q := fun q hq => (HOw.out.lt q hq).1
                  have HB9 := Lib.hid ((HBw.out.alloc HBw.out.size _).grown hg9 (by have := HBw.out.size; first | omega | (simp; omega)) hlo)
                  have HO9 := Lib.hid (show w9.ownsRow w.heap.size 41 8 v9 (no + 1) (recs ceC (out ++ [x])) from by rw [recs_snoc]; exact ho9)
                  have HLO9 := Lib.hid (show (out ++ [x]).length = no + 1 from by rw [List.length_append, HLO.out]; rfl)
                  clear ho9 hg9 hlo x0 x1 x2 x3 x4 x5 x6 x7 y0 y1 y2 y3 y4 y5 y6 y7
                  go_wp2_with (fail)
                  go_quiet (fail)
                  go_wp2_with (fail)
                  go_roundw
                  case rel => exact ⟨a2, b2, out ++ [x], An, Bn, na' - 1, nb' - 1, ca' - 1, cb' - 1, no + 1, rfl, rfl, HLA2.out, HLB2.out, HLO9.out, by omega, by omega, by omega, HAT.out, HBT.out, HRAn.out, HRBn.out, own_drewN HO9.out _, below_drewN HB9.out _, HJ2⟩
                  case measure => simp [slLn]; omega
                · have HF := Lib.hid (show JnPost a b w (.returned (.tuple #[.slice none 0 0, .int .i64 13])) wc from by
                    refine ⟨.inl ⟨?_, rfl⟩, HB.out.trans (HB5.out.mono hbs)⟩
                    rw [HJ.out, jn_none h1 h2 ((cfl_iff _ _).2 ⟨hse, by simpa using ht⟩)]
                    rfl)
                  clear ht
                  go_wp2_with (fail)
                  refine bodyPost_ret (v := .tuple #[.slice none 0 0, .int .i64 13]) (by simp [results, Tryz.results68, go_sem]) rfl HF.out
    · have HJO := HJ
      have HF := Lib.hid (show ∀ (v : Value) (W : World), W.ownsRow wr.heap.size 41 8 v (no + na' + nb') (recs ceC (out ++ a' ++ b')) → Below wr.heap.size wr W → ∃ A c, v = .slice A (no + na' + nb') c ∧ JnPost a b w (.returned (.tuple #[.slice A (no + na' + nb') c, .int .i64 0])) W from by
        intro v W ho hb
        obtain ⟨A2, c2, rfl⟩ := own_slice ho
        refine ⟨A2, c2, rfl, .inr ⟨out ++ a' ++ b', A2, c2, no + na' + nb', ?_, ?_, rfl, own_mono ho hbs⟩, HB.out.trans (hb.mono hbs)⟩
        · rw [HJO.out]
          have hj : jn a' b' = some (a' ++ b') := by
            by_cases h0 : na' = 0
            · have : a' = [] := List.eq_nil_of_length_eq_zero (by have := HLA.out; omega)
              rw [this, jn]; rfl
            · have hb0 : b' = [] := List.eq_nil_of_length_eq_zero (by have := HLB.out; omega)
              rw [hb0]
              cases a' with
              | nil => rw [jn]; rfl
              | cons x l => rw [jn, List.append_nil]
          rw [hj]
          simp
        · rw [List.length_append, List.length_append, HLO.out, HLA.out, HLB.out])
      have HLy := Lib.hid (And.intro (HRa.out.below HB.out) (HRb.out.below HB.out))
      obtain ⟨A0, c0, rfl⟩ := own_slice HO.out
      have HLo := Lib.hid (own_ly HO.out)
      clear HJO
      by_cases h0 : na' = 0
      · subst h0
        go_wp2_with (fail)
        have hcells : Cells (wr.alloc (.cells #[.slice A0 no c0, .slice A' 0 ca', .slice B' nb' cb'] 26)) wr.heap.size 0 [.slice A0 no c0, .slice A' 0 ca', .slice B' nb' cb'] := Cells.new _ _ _ _ _ rfl
        have hba : Below wr.heap.size wr (wr.alloc (.cells #[.slice A0 no c0, .slice A' 0 ca', .slice B' nb' cb'] 26)) := (Below.refl _ _).alloc (Nat.le_refl _) _
        refine (catC_any out a' b' no 0 nb' c0 ca' cb' wr.heap.size A0 A' B' _ HLO.out HLA.out HLB.out (by omega) (by omega) (by omega) (by simp) (by simp) (by simp) (HLo.out.below hba) (HLy.out.1.below hba) (HLy.out.2.below hba)).mono ?_
        rintro e w5 ⟨v5, rfl, ho5, hb5⟩
        obtain ⟨A5, c5, rfl, hpost⟩ := HF.out v5 w5 (own_mono ho5 (by simp)) (hba.trans (hb5.mono (by simp)))
        have HPOST := Lib.hid hpost
        clear hpost ho5 hb5 hba hcells
        go_wp2_with (fail)
        refine bodyPost_ret (v := .tuple #[.slice A5 (no + 0 + nb') c5, .int .i64 0]) (by simp [results, Tryz.results68, go_sem]) rfl HPOST.out
      · have hb0 : nb' = 0 := by omega
        have ha0I : (0 : Int) < na' := by omega
        subst hb0
        go_wp2_with (fail)
        have hcells : Cells (wr.alloc (.cells #[.slice A0 no c0, .slice A' na' ca', .slice B' 0 cb'] 26)) wr.heap.size 0 [.slice A0 no c0, .slice A' na' ca', .slice B' 0 cb'] := Cells.new _ _ _ _ _ rfl
        have hba : Below wr.heap.size wr (wr.alloc (.cells #[.slice A0 no c0, .slice A' na' ca', .slice B' 0 cb'] 26)) := (Below.refl _ _).alloc (Nat.le_refl _) _
        refine (catC_any out a' b' no na' 0 c0 ca' cb' wr.heap.size A0 A' B' _ HLO.out HLA.out HLB.out (by omega) (by omega) (by omega) (by simp) (by simp) (by simp) (HLo.out.below hba) (HLy.out.1.below hba) (HLy.out.2.below hba)).mono ?_
        rintro e w5 ⟨v5, rfl, ho5, hb5⟩
        obtain ⟨A5, c5, rfl, hpost⟩ := HF.out v5 w5 (own_mono ho5 (by simp)) (hba.trans (hb5.mono (by simp)))
        have HPOST := Lib.hid hpost
        clear hpost ho5 hb5 hba hcells
        go_wp2_with (fail)
        refine bodyPost_ret (v := .tuple #[.slice A5 (no + na' + 0) c5, .int .i64 0]) (by simp [results, Tryz.results68, go_sem]) rfl HPOST.out
end Go.Proofs.YtkcpfppjdjkjeaaGreatDoor
