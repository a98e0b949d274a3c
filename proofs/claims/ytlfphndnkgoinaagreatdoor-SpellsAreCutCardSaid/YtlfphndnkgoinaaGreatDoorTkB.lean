/- (*rule.track).now, update by their contracts. -/
import Derived.Test.YtlfphndnkgoinaaGreatDoorTkA
import Derived.Deep.CutBlock
namespace Go.Proofs.YtlfphndnkgoinaaGreatDoor
open Go.RowKit

theorem last_mem {w : List (Int × Int)} (h : 0 < w.length) : w.getLast?.getD (0, 0) ∈ w := by
  cases hl : w.getLast? with
  | none => have := List.getLast?_eq_none_iff.1 hl; subst this; simp at h
  | some x => exact List.mem_of_getLast? hl
theorem head_mem {w : List (Int × Int)} (h : 0 < w.length) : w.headD (0, 0) ∈ w := by
  cases w with
  | nil => simp at h
  | cons x w => simp
theorem tkVal_bound {t : Tk} {r : Ru} {n : Nat} {a : Int} (hk : TkOk t n a) (hn : n ≤ 5000) (hw : 0 < t.win.length ∨ r.agg = 5) :
    -5000000000000 ≤ (tkVal r t).1 ∧ (tkVal r t).1 ≤ 5000000000000 ∧ 0 ≤ (tkVal r t).2 ∧ (tkVal r t).2 ≤ 5000 := by
  have hle := hk.le
  have hs := hk.sum
  have hall : ∀ s ∈ t.win, -1000000000 ≤ s.2 ∧ s.2 ≤ 1000000000 := hk.va
  unfold tkVal
  rcases hw with hw | hw
  · have hne := hk.w3.ne hw
    have h1 := hall _ (last_mem hw)
    have h2 := hall _ (hk.w3.ls.subset (head_mem hne.1))
    have h3 := hall _ (hk.w3.ms.subset (head_mem hne.2))
    have h4 := hall _ (head_mem hw)
    split
    · exact ⟨by omega, by omega, by omega, by omega⟩
    · split
      · exact ⟨by omega, by omega, by omega, by omega⟩
      · split
        · exact ⟨by omega, by omega, by omega, by omega⟩
        · split
          · exact ⟨by omega, by omega, by omega, by omega⟩
          · split
            · exact ⟨by omega, by omega, by omega, by omega⟩
            · split
              · exact ⟨by omega, by omega, by omega, by omega⟩
              · exact ⟨by omega, by omega, by omega, by omega⟩
  · rw [if_neg (by omega), if_neg (by omega), if_neg (by omega), if_neg (by omega), if_pos hw]
    exact ⟨by omega, by omega, by omega, by omega⟩
theorem mul_bound (o b : Int) (h1 : -1000000000 ≤ o) (h2 : o ≤ 1000000000) (h3 : 0 ≤ b) (h4 : b ≤ 5000) : -5000000000000 ≤ o * b ∧ o * b ≤ 5000000000000 := by
  have g1 := Int.mul_le_mul_of_nonneg_right h1 h3
  have g2 := Int.mul_le_mul_of_nonneg_right h2 h3
  omega
theorem TkI.rowPos {B : Nat} {w : World} {x : Nat} {t : Tk} {rp fv : Value} {v : Nat → Value} (h : TkI B w x t rp fv v) {m : Nat} (hm : m < 3) (hn : 0 < (tkRow t m).length) : ∃ g o c, v m = .slice (some ⟨g, o, none⟩) (tkRow t m).length c ∧ (tkRow t m).length ≤ c ∧ g < w.heap.size ∧ Cells w g o (recs sqC (tkRow t m)) := by
  obtain ⟨g, o, c, e, hc, h3⟩ := (h.row m hm).pos hn
  exact ⟨g, o, c, e, hc, ((h.row m hm).lt (b := g) (by rw [e]; rfl)).2, h3⟩
theorem sq_at {w V : World} {g o : Nat} {l : List (Int × Int)} (h : Cells w g o (recs sqC l)) (hb : Below w.heap.size w V) (hg : g < w.heap.size) (i : Nat) (s : Int × Int) (hs : l[i]? = some s) : V.cell? ⟨g, o + i * 2, none⟩ = some (.int .i64 s.1) ∧ V.cell? ⟨g, o + i * 2 + 1, none⟩ = some (.int .i64 s.2) := by
  have h1 := rec_cell sqC_len h i s hs 0 _ rfl
  have h2 := rec_cell sqC_len h i s hs 1 _ rfl
  exact ⟨(hb.cell (p := ⟨g, o + i * 2, none⟩) hg).trans h1, (hb.cell (p := ⟨g, o + i * 2 + 1, none⟩) hg).trans h2⟩
theorem get_last {w : List (Int × Int)} {m : Nat} (h : w.length = m + 1) : w[m]? = some (w.getLast?.getD (0, 0)) := by
  rw [List.getLast?_eq_getElem?, h, Nat.add_sub_cancel, List.getElem?_eq_getElem (by omega)]
  rfl
theorem get_head {w : List (Int × Int)} (h : 0 < w.length) : w[0]? = some (w.headD (0, 0)) := by
  cases w with
  | nil => simp at h
  | cons x w => rfl
set_option maxRecDepth 100000 in
set_option maxHeartbeats 4000000 in
theorem now_any {B x rb n : Nat} {a : Int} {t : Tk} {r : Ru} {fv : Value} {v : Nat → Value} {w : World} (h : TkI B w x t (rpV rb) fv v) (hm : RuM w rb r) (hR : RuR r) (hk : TkOk t n a) (hn : n ≤ 5000) :
    Calls Tryz.prog 125 #[.pointer (some ⟨x, 0, none⟩)] w fun e w' => e = .returned (.int .i64 (tkNow r t)) ∧ Below w.heap.size w w' := by
  have hlt := h.lt
  have hrl := hm.lt
  have HH := Lib.hid h
  have HK := Lib.hid hk
  have hle := hk.le
  obtain ⟨A, c, hv, hc, hA⟩ := tkWin_head h
  have HQ := Lib.hid (fun (V : World) (hV : Below w.heap.size w V) => show V.cell? ⟨x, 0, none⟩ = some (.pointer (some ⟨rb, 0, none⟩)) ∧ V.cell? ⟨x, 1, none⟩ = some (.slice A t.win.length c) ∧ V.cell? ⟨x, 4, none⟩ = some (.int .i64 t.sum) ∧ V.cell? ⟨rb, 2, none⟩ = some (.int .i64 r.agg) ∧ V.cell? ⟨rb, 4, none⟩ = some (.bool r.above) ∧ V.cell? ⟨rb, 5, none⟩ = some (.int .i64 r.on) ∧ V.cell? ⟨rb, 6, none⟩ = some (.int .i64 r.off) ∧ V.cell? ⟨rb, 9, none⟩ = some (.int .i64 r.empty) from
    ⟨(h.below hV).cell 0 _ rfl, hv ▸ (h.below hV).cell 1 _ rfl, (h.below hV).cell 4 _ rfl, (hm.below hV hrl).cell 2 _ rfl, (hm.below hV hrl).cell 4 _ rfl, (hm.below hV hrl).cell 5 _ rfl, (hm.below hV hrl).cell 6 _ rfl, (hm.below hV hrl).cell 9 _ rfl⟩)
  have HV := Lib.hid hv
  clear hv hA h hm hk
  obtain ⟨q0, q1, q2, q3, q4, q5, q6, q7⟩ := HQ.out w (Below.refl _ _)
  obtain ⟨N, eN⟩ : ∃ z, z = tkNow r t := ⟨_, rfl⟩
  rw [← eN]
  have hR2 := hR.agg
  by_cases he : t.win = [] ∧ r.agg ≠ 5
  · have HN := Lib.hid (show N = tkEmp r from by rw [eN]; unfold tkNow; rw [if_pos he])
    have hz : t.win.length = 0 := by rw [he.1]; rfl
    rw [hz] at q1
    have ha : (r.agg != 5) = true := by simpa using he.2
    have hem := hR.empty
    clear HQ hz eN HH HK he hR
    generalize r.agg = agg at *
    have hem3 : r.empty = 0 ∨ r.empty = 1 ∨ r.empty = 2 := by omega
    go_enter Tryz.func125, Tryz.ntmps125
    rcases hem3 with h3 | h3 | h3
    · rw [h3] at q7
      have HN2 := Lib.hid (show N = 0 from by rw [HN.out]; unfold tkEmp; rw [if_pos h3])
      clear h3 hem HN
      go_wp2_with (fail)
      go_ret
      exact ⟨by rw [HN2.out]; rfl, (Below.refl _ _).alloc (Nat.le_refl _) _⟩
    · rw [h3] at q7
      have HN2 := Lib.hid (show N = 2 from by rw [HN.out]; unfold tkEmp; rw [if_neg (by omega), if_pos h3])
      clear h3 hem HN
      go_wp2_with (fail)
      go_ret
      exact ⟨by rw [HN2.out]; rfl, (Below.refl _ _).alloc (Nat.le_refl _) _⟩
    · rw [h3] at q7
      have HN2 := Lib.hid (show N = 1 from by rw [HN.out]; unfold tkEmp; rw [if_neg (by omega), if_neg (by omega)])
      clear h3 hem HN
      go_wp2_with (fail)
      go_ret
      exact ⟨by rw [HN2.out]; rfl, (Below.refl _ _).alloc (Nat.le_refl _) _⟩
  · have hpos : 0 < t.win.length ∨ r.agg = 5 := by
      by_cases h5 : r.agg = 5
      · exact .inr h5
      · exact .inl (List.length_pos_iff.2 fun e => he ⟨e, h5⟩)
    have HN := Lib.hid (show N = tkSide r.above (tkVal r t).1 (r.on * (tkVal r t).2) (r.off * (tkVal r t).2) from by rw [eN]; unfold tkNow; rw [if_neg he])
    have hvb := tkVal_bound HK.out hn hpos
    have hon := mul_bound r.on (tkVal r t).2 hR.on.1 hR.on.2 hvb.2.2.1 hvb.2.2.2
    have hoff := mul_bound r.off (tkVal r t).2 hR.off.1 hR.off.2 hvb.2.2.1 hvb.2.2.2
    clear eN he hR
    obtain ⟨ag, eag⟩ : ∃ z, z = r.agg := ⟨_, rfl⟩
    rw [← eag] at q3 hpos hR2
    have HAG := Lib.hid eag
    clear eag
    obtain ⟨va, eva⟩ : ∃ z, z = (tkVal r t).1 := ⟨_, rfl⟩
    obtain ⟨bz, eby⟩ : ∃ z, z = (tkVal r t).2 := ⟨_, rfl⟩
    rw [← eva, ← eby] at HN
    rw [← eva, ← eby] at hvb
    rw [← eby] at hon hoff
    have HVA := Lib.hid eva
    have HBY := Lib.hid eby
    clear eva eby
    go_enter Tryz.func125, Tryz.ntmps125
    go_upto_region 2 with (fail)
    go_cut [24] (fun s wx => s = .bool false ∧ wx = w)
    case first =>
      rcases Nat.eq_zero_or_pos t.win.length with hz | hz
      · have h5 : ag = 5 := hpos.resolve_left (by omega)
        have hz2 : ((t.win.length : Int) == 0) = true := by rw [hz]; rfl
        subst h5
        clear hz HQ HV HH HK HN
        go_wp2_with (fail)
        go_meet
        exact ⟨rfl, rfl⟩
      · have hz2 : ((t.win.length : Int) == 0) = false := beq_eq_false_iff_ne.2 (by omega)
        have hz3 : ¬ ((t.win.length : Int) = 0) := by omega
        clear hz HQ HV HH HK HN
        go_wp2_with (fail)
        go_meet
        exact ⟨rfl, rfl⟩
    case rest =>
    obtain ⟨rfl, ewc⟩ := hcut
    rw [ewc]
    clear ewc
    go_upto_block 0 with (fail)
    go_cut [4, 5] (fun a b wx => (a = .int .i64 va ∧ b = .int .i64 bz) ∧ Below w.heap.size w wx)
    case first =>
      have hag : ag = 1 ∨ ag = 2 ∨ ag = 3 ∨ ag = 4 ∨ ag = 5 ∨ ag = 6 := by omega
      by_cases h5 : ag = 5
      · have HE := Lib.hid (show va = (t.win.length : Int) ∧ bz = 1 from by rw [HVA.out, HBY.out]; unfold tkVal; rw [← HAG.out, if_neg (by omega), if_neg (by omega), if_neg (by omega), if_neg (by omega), if_pos h5]; exact ⟨rfl, rfl⟩)
        clear HVA HBY HN HAG hag hpos hvb hon hoff
        subst h5
        go_wp2_with (fail)
        go_meet
        exact ⟨⟨by rw [HE.out.1], by rw [HE.out.2]⟩, Below.refl _ _⟩
      have hz : 0 < t.win.length := hpos.resolve_right h5
      obtain ⟨m, em⟩ : ∃ m, t.win.length = m + 1 := ⟨t.win.length - 1, by omega⟩
      have hm1 : m ≤ 5000 := by omega
      have hne := HK.out.w3.ne hz
      obtain ⟨g, o, c0, e0, _, hg, hC⟩ := HH.out.rowPos (m := 0) (by omega) hz
      obtain ⟨g1, o1, c1, e1, _, hg1, hC1⟩ := HH.out.rowPos (m := 1) (by omega) hne.1
      obtain ⟨g2, o2, c2, e2, _, hg2, hC2⟩ := HH.out.rowPos (m := 2) (by omega) hne.2
      replace e1 : v 1 = .slice (some ⟨g1, o1, none⟩) t.lea.length c1 := e1
      replace e2 : v 2 = .slice (some ⟨g2, o2, none⟩) t.mos.length c2 := e2
      have hCA := e0.symm.trans HV.out
      injection hCA with hCA
      have hCAx := Lib.hid hCA
      rw [← hCA] at q1
      have HL := Lib.hid (fun (V : World) (hV : Below w.heap.size w V) => And.intro (sq_at hC hV hg m _ (show t.win[m]? = _ from get_last em)).2 (sq_at hC hV hg 0 _ (show t.win[0]? = _ from get_head hz)).2)
      have HL1 := Lib.hid (sq_at hC1 (Below.refl _ _) hg1 0 _ (show t.lea[0]? = _ from get_head hne.1)).2
      have HL2 := Lib.hid (sq_at hC2 (Below.refl _ _) hg2 0 _ (show t.mos[0]? = _ from get_head hne.2)).2
      have z2 : w.cell? ⟨x, 2, none⟩ = some (.slice (some ⟨g1, o1, none⟩) t.lea.length c1) := e1 ▸ HH.out.cell 2 _ rfl
      have z3 : w.cell? ⟨x, 3, none⟩ = some (.slice (some ⟨g2, o2, none⟩) t.mos.length c2) := e2 ▸ HH.out.cell 3 _ rfl
      have p1 : (0 : Int) < (t.lea.length : Int) := by omega
      have p2 : (0 : Int) < (t.mos.length : Int) := by omega
      have p1' := hne.1
      have p2' := hne.2
      clear hC hC1 hC2 e0 e1 e2 hCA hvb hon hoff hne
      have hb2 : IntKind.i64.wrap ((t.win.length : Int) - 1) = (m : Int) := by rw [em, show (((m + 1 : Nat) : Int) - 1) = (m : Int) by omega, IntKind.wrap_i64]; omega
      have hb3 : (m : Int) < (t.win.length : Int) := by omega
      have hb4 : m < t.win.length := by omega
      have HEM := Lib.hid em
      have hz' : (0 : Int) < (t.win.length : Int) := by omega
      clear em
      rcases hag with ha | ha | ha | ha | ha | ha
      · have HE := Lib.hid (show va = (t.win.getLast?.getD (0, 0)).2 ∧ bz = 1 from by rw [HVA.out, HBY.out]; unfold tkVal; rw [← HAG.out, if_pos ha]; exact ⟨rfl, rfl⟩)
        clear HVA HBY HN HAG hpos h5
        subst ha
        have l1 := (HL.out w (Below.refl _ _)).1
        go_wp2_with (fail)
        go_meet
        exact ⟨⟨by rw [HE.out.1], by rw [HE.out.2]⟩, Below.refl _ _⟩
      · have HE := Lib.hid (show va = (t.lea.headD (0, 0)).2 ∧ bz = 1 from by rw [HVA.out, HBY.out]; unfold tkVal; rw [← HAG.out, if_neg (by omega), if_pos ha]; exact ⟨rfl, rfl⟩)
        clear HVA HBY HN HAG hpos h5
        subst ha
        generalize (t.lea.headD (0, 0)).2 = y1 at HL1 HE
        have l1 := HL1.out
        simp only [Nat.zero_mul, Nat.add_zero] at l1
        go_wp2_with (fail)
        go_meet
        exact ⟨⟨by rw [HE.out.1], by rw [HE.out.2]⟩, Below.refl _ _⟩
      · have HE := Lib.hid (show va = (t.mos.headD (0, 0)).2 ∧ bz = 1 from by rw [HVA.out, HBY.out]; unfold tkVal; rw [← HAG.out, if_neg (by omega), if_neg (by omega), if_pos ha]; exact ⟨rfl, rfl⟩)
        clear HVA HBY HN HAG hpos h5
        subst ha
        generalize (t.mos.headD (0, 0)).2 = y1 at HL2 HE
        have l1 := HL2.out
        simp only [Nat.zero_mul, Nat.add_zero] at l1
        go_wp2_with (fail)
        go_meet
        exact ⟨⟨by rw [HE.out.1], by rw [HE.out.2]⟩, Below.refl _ _⟩
      · have HE := Lib.hid (show va = t.sum ∧ bz = (t.win.length : Int) from by rw [HVA.out, HBY.out]; unfold tkVal; rw [← HAG.out, if_neg (by omega), if_neg (by omega), if_neg (by omega), if_pos ha]; exact ⟨rfl, rfl⟩)
        clear HVA HBY HN HAG hpos h5
        subst ha
        go_wp2_with (fail)
        go_meet
        exact ⟨⟨by rw [HE.out.1], by rw [HE.out.2]⟩, Below.refl _ _⟩
      · exact absurd ha h5
      · have HE := Lib.hid (show va = (t.win.getLast?.getD (0, 0)).2 - (t.win.headD (0, 0)).2 ∧ bz = 1 from by rw [HVA.out, HBY.out]; unfold tkVal; rw [← HAG.out, if_neg (by omega), if_neg (by omega), if_neg (by omega), if_neg (by omega), if_neg (by omega), if_pos ha]; exact ⟨rfl, rfl⟩)
        have hla := HK.out.va _ (last_mem hz)
        have hhe := HK.out.va _ (head_mem hz)
        clear HVA HBY HN HAG hpos h5
        subst ha
        generalize (t.win.getLast?.getD (0, 0)).2 = y1 at HL HE hla
        generalize (t.win.headD (0, 0)).2 = y2 at HL HE hhe
        have hws : IntKind.i64.wrap (y1 - y2) = y1 - y2 := by rw [IntKind.wrap_i64]; omega
        have HQ3 := Lib.hid (fun (V : World) (hV : Below w.heap.size w V) => show V.cell? ⟨x, 1, none⟩ = some (.slice (some ⟨g, o, none⟩) t.win.length c) ∧ V.cell? ⟨g, o + m * 2 + 1, none⟩ = some (.int .i64 y1) ∧ V.cell? ⟨g, o + 1, none⟩ = some (.int .i64 y2) from
          ⟨by have := (HQ.out V hV).2.1; rw [← hCAx.out] at this; exact this, (HL.out V hV).1, by have := (HL.out V hV).2; simpa using this⟩)
        go_upto_region 17 with (fail)
        refine qRegion (by kernel_rfl) (by kernel_rfl) ?_
        repeat (first
          | (go_big_quiet_want; refine qVal (fun V hV => (by (obtain ⟨l1, l2, l3⟩ := HQ3.out V hV; go_simp; try rfl))) ?_; simp only [Act.put, List.setIfInBounds_toArray, List.set_cons_zero, List.set_cons_succ]; go_big_quiet_on)
          | go_big_quiet_skip)
        refine wpQuiet_nil ?_
        intro V hV
        have HF := Lib.hid hV
        clear hV
        go_wp2_with (fail)
        go_meet
        exact ⟨⟨by rw [HE.out.1], by rw [HE.out.2]⟩, HF.out⟩
    case rest =>
    obtain ⟨⟨rfl, rfl⟩, hb1⟩ := hcut
    obtain ⟨w1, ew1⟩ : ∃ V : World, V = wc := ⟨_, rfl⟩
    rw [← ew1] at hb1 ⊢
    clear ew1
    have HB1 := Lib.hid hb1
    have hs1 := hb1.size
    clear hb1 q0 q1 q2 q3 q4 q5 q6 q7 HVA HBY hpos
    generalize eon : r.on * bz = on2 at HN hon
    generalize eoff : r.off * bz = off2 at HN hoff
    have hw1 : IntKind.i64.wrap (r.on * bz) = on2 := by rw [eon, IntKind.wrap_i64]; omega
    have hw2 : IntKind.i64.wrap (r.off * bz) = off2 := by rw [eoff, IntKind.wrap_i64]; omega
    clear eon eoff
    have HQ4 := Lib.hid (fun (V : World) (hV : Below w1.heap.size w1 V) => show V.cell? ⟨x, 0, none⟩ = some (.pointer (some ⟨rb, 0, none⟩)) ∧ V.cell? ⟨rb, 4, none⟩ = some (.bool r.above) ∧ V.cell? ⟨rb, 5, none⟩ = some (.int .i64 r.on) ∧ V.cell? ⟨rb, 6, none⟩ = some (.int .i64 r.off) from
      ⟨(HQ.out V (below_step HB1.out hV)).1, (HQ.out V (below_step HB1.out hV)).2.2.2.2.1, (HQ.out V (below_step HB1.out hV)).2.2.2.2.2.1, (HQ.out V (below_step HB1.out hV)).2.2.2.2.2.2.1⟩)
    have hlt1 : x < w1.heap.size := by omega
    have hrl1 : rb < w1.heap.size := by omega
    clear HQ HH HK HV
    generalize r.on = on at *
    generalize r.off = off at *
    generalize r.above = above at *
    go_upto_region 18 with (fail)
    refine qRegion (by kernel_rfl) (by kernel_rfl) ?_
    repeat (first
      | (go_big_quiet_want; refine qVal (fun V hV => (by (obtain ⟨q0, q1, q2, q3⟩ := HQ4.out V hV; go_simp; try rfl))) ?_; simp only [Act.put, List.setIfInBounds_toArray, List.set_cons_zero, List.set_cons_succ]; go_big_quiet_on)
      | go_big_quiet_skip)
    refine wpQuiet_nil ?_
    intro V hV
    have HF := Lib.hid (below_step HB1.out hV)
    obtain ⟨q0, q1, q2, q3⟩ := HQ4.out V hV
    have hs2 := hV.size
    clear hV HQ4
    have hn1 : IntKind.i64.wrap (-va) = -va := by rw [IntKind.wrap_i64]; omega
    have hn2 : IntKind.i64.wrap (-on2) = -on2 := by rw [IntKind.wrap_i64]; omega
    have hn3 : IntKind.i64.wrap (-off2) = -off2 := by rw [IntKind.wrap_i64]; omega
    unfold tkSide at HN
    cases above with
    | true =>
      simp only [if_true] at HN
      by_cases h1 : on2 ≤ va
      · have HE := Lib.hid (show N = 1 from by rw [HN.out, if_pos h1])
        go_wp2_with (fail)
        go_ret
        exact ⟨by rw [HE.out]; rfl, HF.out⟩
      · by_cases h2 : va < off2
        · have HE := Lib.hid (show N = 2 from by rw [HN.out, if_neg h1, if_pos h2])
          go_wp2_with (fail)
          go_ret
          exact ⟨by rw [HE.out]; rfl, HF.out⟩
        · have HE := Lib.hid (show N = 0 from by rw [HN.out, if_neg h1, if_neg h2])
          go_wp2_with (fail)
          go_ret
          exact ⟨by rw [HE.out]; rfl, HF.out⟩
    | false =>
      simp only [Bool.false_eq_true, if_false] at HN
      by_cases h1 : -on2 ≤ -va
      · have HE := Lib.hid (show N = 1 from by rw [HN.out, if_pos h1])
        go_wp2_with (fail)
        go_ret
        exact ⟨by rw [HE.out]; rfl, HF.out⟩
      · by_cases h2 : -va < -off2
        · have HE := Lib.hid (show N = 2 from by rw [HN.out, if_neg h1, if_pos h2])
          go_wp2_with (fail)
          go_ret
          exact ⟨by rw [HE.out]; rfl, HF.out⟩
        · have HE := Lib.hid (show N = 0 from by rw [HN.out, if_neg h1, if_neg h2])
          go_wp2_with (fail)
          go_ret
          exact ⟨by rw [HE.out]; rfl, HF.out⟩
set_option maxRecDepth 100000 in
set_option maxHeartbeats 2000000 in
theorem update_any {B x rb n : Nat} {a : Int} {t : Tk} {r : Ru} {fv : Value} {v : Nat → Value} {w : World} (at_ : Int) (h : TkI B w x t (rpV rb) fv v) (hm : RuM w rb r) (hR : RuR r) (hk : TkOk t n a) (hn : n ≤ 5000) :
    Calls Tryz.prog 87 #[.pointer (some ⟨x, 0, none⟩), .int .i64 at_] w fun e w' => e = .returned (.tuple #[]) ∧ TkI B w' x (tkUpd r at_ t) (rpV rb) fv v ∧ TkGo w w' x v v := by
  have HN := Lib.hid (now_any h hm hR hk hn)
  have HH := Lib.hid h
  have hlt := h.lt
  clear hm hR hk h
  obtain ⟨N, eN⟩ : ∃ z, z = tkNow r t := ⟨_, rfl⟩
  rw [← eN] at HN
  have HE := Lib.hid (show tkUpd r at_ t = if N = t.st then t else { t with st := N, si := at_ } from by rw [eN]; rfl)
  clear eN
  go_enter Tryz.func87, Tryz.ntmps87
  go_wp2_with (fail)
  refine HN.out.mono ?_
  rintro e w1 ⟨rfl, hb1⟩
  have HB1 := Lib.hid hb1
  have HH1 := Lib.hid (HH.out.below hb1)
  have hs1 := hb1.size
  clear hb1 HN
  have hlt1 : x < w1.heap.size := by omega
  have c5 : w1.cell? ⟨x, 5, none⟩ = some (.int .i64 t.st) := HH1.out.cell 5 _ rfl
  have c6 : w1.cell? ⟨x, 6, none⟩ = some (.int .i64 t.si) := HH1.out.cell 6 _ rfl
  have z5 : w1.frozen? ⟨x, 5, none⟩ = false := by simp [World.frozen?, HH1.out.blk]
  have z6 : w1.frozen? ⟨x, 6, none⟩ = false := by simp [World.frozen?, HH1.out.blk]
  have hx56 : (⟨x, 5, none⟩ : Addr) ≠ ⟨x, 6, none⟩ := by simp
  by_cases he : N = t.st
  · have hne : (N != t.st) = false := by simpa using he
    have HE2 := Lib.hid (show tkUpd r at_ t = t from by rw [HE.out, if_pos he])
    clear he
    go_wp2_with (fail)
    go_end0
    exact ⟨rfl, by rw [HE2.out]; exact HH1.out, TkGo.of_below HB1.out (.refl _ _ _)⟩
  · have hne : (N != t.st) = true := by simpa using he
    have HE2 := Lib.hid (show tkUpd r at_ t = { t with st := N, si := at_ } from by rw [HE.out, if_neg he])
    clear he
    go_wp2_with (fail)
    obtain ⟨q1, q2⟩ := HH1.out.num (j := 5) (u := .int .i64 N) (t' := { t with st := N }) rfl (fun k _ => by match k with | 0 => rfl | 1 => rfl | _ + 2 => rfl)
    obtain ⟨q3, q4⟩ := q1.num (j := 6) (u := .int .i64 at_) (t' := { t with st := N, si := at_ }) rfl (fun k _ => by match k with | 0 => rfl | 1 => rfl | _ + 2 => rfl)
    go_end0
    exact ⟨rfl, by rw [HE2.out]; exact q3, TkGo.of_below HB1.out (q2.trans q4)⟩
end Go.Proofs.YtlfphndnkgoinaaGreatDoor
