/- (*rule.track).turn, due, now, update by their contracts. -/
import Derived.Test.YtlfphndnkgoinaaGreatDoorTkI
import Derived.Test.YtlfphndnkgoinaaGreatDoorMg0
namespace Go.Proofs.YtlfphndnkgoinaaGreatDoor
open Go.RowKit

def rpV (rb : Nat) : Value := .pointer (some ⟨rb, 0, none⟩)
theorem RuM.below {w V : World} {rb : Nat} {r : Ru} (h : RuM w rb r) (hb : Below w.heap.size w V) (hlt : rb < w.heap.size) : RuM V rb r := fun j u hu => by
  have e : V.cell? ⟨rb, 0 + j, none⟩ = w.cell? ⟨rb, 0 + j, none⟩ := hb.cell (p := ⟨rb, 0 + j, none⟩) hlt
  rw [e]; exact h j u hu
theorem RuM.lt {w : World} {rb : Nat} {r : Ru} (h : RuM w rb r) : rb < w.heap.size := World.block_lt_of_cell? w _ (h.cell 0 _ rfl)
set_option maxRecDepth 100000 in
set_option maxHeartbeats 2000000 in
theorem turn_any {B x rb : Nat} {t : Tk} {r : Ru} {fv : Value} {v : Nat → Value} {w : World} (h : TkI B w x t (rpV rb) fv v) (hm : RuM w rb r) (hR : RuR r) (s0 : 0 ≤ t.si) (s1 : t.si ≤ tEnd) :
    Calls Tryz.prog 127 #[.pointer (some ⟨x, 0, none⟩)] w fun e w' => e = .returned (.int .i64 (tkTurn r t)) ∧ Below w.heap.size w w' := by
  have hlt := h.lt
  have hrl := hm.lt
  have b1 := hR.hold
  have b2 := hR.rest
  have HQ := Lib.hid (fun (V : World) (hV : Below w.heap.size w V) => show V.cell? ⟨x, 0, none⟩ = some (.pointer (some ⟨rb, 0, none⟩)) ∧ V.cell? ⟨x, 5, none⟩ = some (.int .i64 t.st) ∧ V.cell? ⟨x, 6, none⟩ = some (.int .i64 t.si) ∧ V.cell? ⟨x, 7, none⟩ = some (.bool t.fi) ∧ V.cell? ⟨rb, 7, none⟩ = some (.int .i64 r.hold) ∧ V.cell? ⟨rb, 8, none⟩ = some (.int .i64 r.rest) from
    ⟨(h.below hV).cell 0 _ rfl, (h.below hV).cell 5 _ rfl, (h.below hV).cell 6 _ rfl, (h.below hV).cell 7 _ rfl, (hm.below hV hrl).cell 7 _ rfl, (hm.below hV hrl).cell 8 _ rfl⟩)
  clear h hm hR
  obtain ⟨win, lea, mos, sum, st, si, fi, bg⟩ := t
  unfold tkTurn tEnd at *
  simp only at HQ s0 s1 ⊢
  generalize r.hold = hold at HQ b1 ⊢
  generalize r.rest = rest at HQ b2 ⊢
  have hw1 : IntKind.i64.wrap (si + hold) = si + hold := by rw [IntKind.wrap_i64]; omega
  have hw2 : IntKind.i64.wrap (si + rest) = si + rest := by rw [IntKind.wrap_i64]; omega
  obtain ⟨q0, q1, q2, q3, q4, q5⟩ := HQ.out w (Below.refl _ _)
  go_enter Tryz.func127, Tryz.ntmps127
  cases fi with
  | false =>
    by_cases hst : st = 1
    · subst hst
      rw [if_pos ⟨rfl, rfl⟩]
      go_upto_region 2 with (fail)
      refine qRegion (by kernel_rfl) (by kernel_rfl) ?_
      repeat (first
        | (go_big_quiet_want; refine qVal (fun V hV => (by (obtain ⟨q0, q1, q2, q3, q4, q5⟩ := HQ.out V hV; go_simp; try rfl))) ?_; simp only [Act.put, List.setIfInBounds_toArray, List.set_cons_zero, List.set_cons_succ]; go_big_quiet_on)
        | go_big_quiet_skip)
      refine wpQuiet_nil ?_
      intro V hV
      have HF := Lib.hid hV
      clear hV
      go_wp2_with (fail)
      go_ret
      exact ⟨rfl, HF.out⟩
    · rw [if_neg (fun h => hst h.2), if_neg (fun h => absurd h.1 (by decide))]
      have hne : (st == 1) = false := by simpa using hst
      go_wp2_with (fail)
      go_ret
      exact ⟨rfl, Below.refl _ _⟩
  | true =>
    rw [if_neg (fun h => absurd h.1 (by decide))]
    by_cases hst : st = 2
    · subst hst
      rw [if_pos ⟨rfl, rfl⟩]
      go_upto_region 4 with (fail)
      refine qRegion (by kernel_rfl) (by kernel_rfl) ?_
      repeat (first
        | (go_big_quiet_want; refine qVal (fun V hV => (by (obtain ⟨q0, q1, q2, q3, q4, q5⟩ := HQ.out V hV; go_simp; try rfl))) ?_; simp only [Act.put, List.setIfInBounds_toArray, List.set_cons_zero, List.set_cons_succ]; go_big_quiet_on)
        | go_big_quiet_skip)
      refine wpQuiet_nil ?_
      intro V hV
      have HF := Lib.hid hV
      clear hV
      go_wp2_with (fail)
      go_ret
      exact ⟨rfl, HF.out⟩
    · rw [if_neg (fun h => hst h.2)]
      have hne : (st == 2) = false := by simpa using hst
      go_wp2_with (fail)
      go_ret
      exact ⟨rfl, Below.refl _ _⟩
theorem below_step {w V V' : World} (h : Below w.heap.size w V) (k : Below V.heap.size V V') : Below w.heap.size w V' := h.trans (k.mono h.size)
theorem tkWin_head {B : Nat} {w : World} {x : Nat} {t : Tk} {rp fv : Value} {v : Nat → Value} (h : TkI B w x t rp fv v) : ∃ A c, v 0 = .slice A t.win.length c ∧ t.win.length ≤ c ∧ (∀ s l, t.win = s :: l → ∃ g o, A = some ⟨g, o, none⟩ ∧ g < w.heap.size ∧ Cells w g o (recs sqC t.win)) := by
  obtain ⟨A, c, e, hc⟩ := (h.row 0 (by omega)).form
  have e' : v 0 = .slice A t.win.length c := e
  refine ⟨A, c, e', hc, fun s l hw => ?_⟩
  obtain ⟨g, o, c', e2, _, h3⟩ := (h.row 0 (by omega)).pos (by show 0 < t.win.length; rw [hw]; simp)
  have h4 := (h.row 0 (by omega)).lt (b := g) (by rw [e2]; rfl)
  rw [e] at e2
  injection e2 with e2
  exact ⟨g, o, e2, h4.2, h3⟩
set_option maxRecDepth 100000 in
set_option maxHeartbeats 2000000 in
theorem due_any {B x rb n : Nat} {a : Int} {t : Tk} {r : Ru} {fv : Value} {v : Nat → Value} {w : World} (h : TkI B w x t (rpV rb) fv v) (hm : RuM w rb r) (hR : RuR r) (hk : TkOk t n a) (ha : a ≤ tEnd) :
    Calls Tryz.prog 126 #[.pointer (some ⟨x, 0, none⟩)] w fun e w' => e = .returned (.int .i64 (tkDue r t)) ∧ Below w.heap.size w w' := by
  have HT := Lib.hid (turn_any h hm hR hk.si0 hk.si1)
  have hlt := h.lt
  have hrl := hm.lt
  have b1 := hR.long
  obtain ⟨A, c, hv, hc, hA⟩ := tkWin_head h
  have HK := Lib.hid (fun s l (e : t.win = s :: l) => And.intro (hk.ti s (by rw [e]; simp)) (show s.1 ≤ tEnd from Int.le_trans (hk.ti s (by rw [e]; simp)).2 ha))
  have HQ := Lib.hid (fun (V : World) (hV : Below w.heap.size w V) => show V.cell? ⟨x, 0, none⟩ = some (.pointer (some ⟨rb, 0, none⟩)) ∧ V.cell? ⟨x, 1, none⟩ = some (.slice A t.win.length c) ∧ V.cell? ⟨rb, 3, none⟩ = some (.int .i64 r.long) from
    ⟨(h.below hV).cell 0 _ rfl, hv ▸ (h.below hV).cell 1 _ rfl, (hm.below hV hrl).cell 3 _ rfl⟩)
  have HA := Lib.hid hA
  clear h hm hR hv hA
  obtain ⟨tu, etu⟩ : ∃ z, z = tkTurn r t := ⟨_, rfl⟩
  obtain ⟨d, ed⟩ : ∃ z, z = tkDue r t := ⟨_, rfl⟩
  rw [← ed]
  rw [← etu] at HT
  unfold tkDue at ed
  rw [← etu] at ed
  have HD := Lib.hid ed
  clear ed etu hk
  generalize r.long = long at HQ b1 HD
  generalize t.win = win at HQ HA HK HD hc
  go_enter Tryz.func126, Tryz.ntmps126
  go_upto_region 1 with (fail)
  go_cut [3] (fun s wx => s = .int .i64 (minI tu tEnd) ∧ Below w.heap.size w wx)
  case first =>
    go_wp2_with (fail)
    refine HT.out.mono ?_
    rintro e w1 ⟨rfl, hb1⟩
    have HB1 := Lib.hid hb1
    clear hb1
    rcases Int.lt_or_le 345686400000 tu with h1 | h1
    · have h2 : ¬ tu ≤ 345686400000 := by omega
      have HE := Lib.hid (show (345686400000 : Int) = minI tu tEnd from by unfold minI tEnd; rw [if_pos h1])
      go_wp2_with (fail)
      go_meet
      exact ⟨by rw [HE.out], HB1.out⟩
    · have h2 : ¬ 345686400000 < tu := by omega
      have HE := Lib.hid (show tu = minI tu tEnd from by unfold minI tEnd; rw [if_neg h2])
      go_wp2_with (fail)
      go_meet
      exact ⟨by rw [← HE.out], HB1.out⟩
  case rest =>
  obtain ⟨rfl, hb1⟩ := hcut
  obtain ⟨w1, ew1⟩ : ∃ V : World, V = wc := ⟨_, rfl⟩
  rw [← ew1] at hb1 ⊢
  clear ew1
  have HB1 := Lib.hid hb1
  obtain ⟨q0, q1, q2⟩ := HQ.out w1 hb1
  have hs1 := hb1.size
  clear hb1
  have hlt1 : x < w1.heap.size := by omega
  have hrl1 : rb < w1.heap.size := by omega
  clear HT
  obtain ⟨m1, em1⟩ : ∃ z, z = minI tu tEnd := ⟨_, rfl⟩
  rw [← em1] at HD ⊢
  clear em1
  cases win with
  | nil =>
    have hE := HD.out
    simp only at hE
    simp only [List.length_nil] at q1
    go_wp2_with (fail)
    go_ret
    exact ⟨rfl, HB1.out⟩
  | cons s l =>
    obtain ⟨g, o, rfl, hg, hC⟩ := HA.out s l rfl
    have hbd := HK.out s l rfl
    unfold tEnd at hbd
    have hE := HD.out
    simp only at hE
    have HC := Lib.hid (fun (V : World) (hV : Below w.heap.size w V) => (hV.cell (p := ⟨g, o, none⟩) hg).trans (show w.cell? ⟨g, o, none⟩ = some (.int .i64 s.1) from by have := rec_cell sqC_len hC 0 s rfl 0 _ rfl; simpa using this))
    clear hC
    have hw1 : IntKind.i64.wrap (s.1 + long) = s.1 + long := by rw [IntKind.wrap_i64]; omega
    have HE := Lib.hid hE
    clear hE
    clear HK HA HD
    generalize s.1 = s1 at HC HE hw1 hbd
    simp only [List.length_cons] at q1 HQ hc
    generalize l.length = m at q1 HQ hc
    have hpos : (0 : Int) < ((m + 1 : Nat) : Int) := by omega
    have HQ2 := Lib.hid (fun (V : World) (hV : Below w1.heap.size w1 V) => show V.cell? ⟨x, 0, none⟩ = some (.pointer (some ⟨rb, 0, none⟩)) ∧ V.cell? ⟨x, 1, none⟩ = some (.slice (some ⟨g, o, none⟩) (m + 1) c) ∧ V.cell? ⟨rb, 3, none⟩ = some (.int .i64 long) ∧ V.cell? ⟨g, o, none⟩ = some (.int .i64 s1) from
      ⟨(HQ.out V (below_step HB1.out hV)).1, (HQ.out V (below_step HB1.out hV)).2.1, (HQ.out V (below_step HB1.out hV)).2.2, HC.out V (below_step HB1.out hV)⟩)
    rcases Int.lt_or_le (s1 + long) m1 with h1 | h1
    · have h2 : ¬ m1 ≤ s1 + long := by omega
      have HE2 := Lib.hid (show d = s1 + long from by rw [HE.out]; unfold minI; rw [if_pos h1])
      go_upto_region 3 with (fail)
      refine qRegion (by kernel_rfl) (by kernel_rfl) ?_
      repeat (first
        | (go_big_quiet_want; refine qVal (fun V hV => (by (obtain ⟨q0, q1, q2, q3⟩ := HQ2.out V hV; go_simp; try rfl))) ?_; simp only [Act.put, List.setIfInBounds_toArray, List.set_cons_zero, List.set_cons_succ]; go_big_quiet_on)
        | go_big_quiet_skip)
      refine wpQuiet_nil ?_
      intro V hV
      have HF := Lib.hid (below_step HB1.out hV)
      clear hV
      go_wp2_with (fail)
      go_ret
      exact ⟨by rw [HE2.out]; rfl, HF.out⟩
    · have h2 : ¬ s1 + long < m1 := by omega
      have HE2 := Lib.hid (show d = m1 from by rw [HE.out]; unfold minI; rw [if_neg h2])
      go_upto_region 3 with (fail)
      refine qRegion (by kernel_rfl) (by kernel_rfl) ?_
      repeat (first
        | (go_big_quiet_want; refine qVal (fun V hV => (by (obtain ⟨q0, q1, q2, q3⟩ := HQ2.out V hV; go_simp; try rfl))) ?_; simp only [Act.put, List.setIfInBounds_toArray, List.set_cons_zero, List.set_cons_succ]; go_big_quiet_on)
        | go_big_quiet_skip)
      refine wpQuiet_nil ?_
      intro V hV
      have HF := Lib.hid (below_step HB1.out hV)
      clear hV
      go_wp2_with (fail)
      go_ret
      exact ⟨by rw [HE2.out]; rfl, HF.out⟩
end Go.Proofs.YtlfphndnkgoinaaGreatDoor
