/- alarm.Merge of right signals and the same: it says OK, and what it makes is new memory. -/
import Derived.Test.YtgdnedhcbjonkaaGreatDoorMsA
import Derived.Test.YtgdnedhcbjonkaaGreatDoorMsC
import Derived.Test.YtgdnedhcbjonkaaGreatDoorCatG
import Derived.Test.YtgdnedhcbjonkaaGreatDoorMgE
import Derived.Test.YtgdnedhcbjonkaaGreatDoorMgF
namespace Go.Proofs.YtgdnedhcbjonkaaGreatDoor
open Go.RowKit

theorem ald_eqM (i j : Nat) (hi : i < 3) (hj : j < 3) : ((aldT i).toList == (aldT j).toList) = decide (i = j) := by
  have h1 : i = 0 ∨ i = 1 ∨ i = 2 := by omega
  have h2 : j = 0 ∨ j = 1 ∨ j = 2 := by omega
  rcases h1 with h | h | h <;> subst h <;> rcases h2 with h | h | h <;> subst h <;> decide +kernel
theorem alr_eqM (i j : Nat) (hi : i < 2) (hj : j < 2) : ((alrT i).toList == (alrT j).toList) = decide (i = j) := by
  have h1 : i = 0 ∨ i = 1 := by omega
  have h2 : j = 0 ∨ j = 1 := by omega
  rcases h1 with h | h <;> subst h <;> rcases h2 with h | h <;> subst h <;> decide +kernel
theorem alw_eqM (i j : Nat) (hi : i < 4) (hj : j < 4) : ((alwT i).toList == (alwT j).toList) = decide (i = j) := by
  have h1 : i = 0 ∨ i = 1 ∨ i = 2 ∨ i = 3 := by omega
  have h2 : j = 0 ∨ j = 1 ∨ j = 2 ∨ j = 3 := by omega
  rcases h1 with h | h | h | h <;> subst h <;> rcases h2 with h | h | h | h <;> subst h <;> decide +kernel
def SgQ3 (x : Sg) : Prop := x.d < 3 ∧ x.r < 2 ∧ x.b < 4
theorem sgEq_iff {x y : Sg} (hx : SgQ3 x) (hy : SgQ3 y) : sgEq x y = true ↔ x = y := by
  unfold sgEq
  rw [ald_eqM _ _ hx.1 hy.1, alr_eqM _ _ hx.2.1 hy.2.1, alw_eqM _ _ hx.2.2 hy.2.2]
  obtain ⟨a, b, c, d, e, f⟩ := x
  obtain ⟨a', b', c', d', e', f'⟩ := y
  simp
/-- What is left when equal neighbours go: its last one is the last one seen, and no neighbours are equal. -/
theorem csN_left {m : List Sg} (hm : ∀ x ∈ m, SgQ3 x) : ∀ j, 1 ≤ j → j ≤ m.length → (csN sgEq m j).getLast? = m[j - 1]? ∧ (∀ x ∈ csN sgEq m j, x ∈ m) ∧ ∀ (i : Nat) a b, (csN sgEq m j)[i]? = some a → (csN sgEq m j)[i + 1]? = some b → a ≠ b
  | 0, h, _ => by omega
  | 1, _, h => by
    rw [csN_one]
    match m, h with
    | x :: l, _ => exact ⟨rfl, fun y hy => by simp at hy; subst hy; simp, fun i a b _ hb => by simp at hb⟩
  | j + 2, _, h => by
    obtain ⟨h1, h2, h3⟩ := csN_left hm (j + 1) (by omega) (by omega)
    obtain ⟨x, hx⟩ : ∃ x, m[j + 1]? = some x := ⟨_, List.getElem?_eq_getElem (by omega)⟩
    obtain ⟨y, hy⟩ : ∃ y, m[j]? = some y := ⟨_, List.getElem?_eq_getElem (by omega)⟩
    have hxm := List.mem_of_getElem? hx
    have hym := List.mem_of_getElem? hy
    have hiff := sgEq_iff (hm x hxm) (hm y hym)
    rw [show j + 1 - 1 = j by omega, hy] at h1
    cases hs : sgEq x y with
    | true =>
      rw [csN_same (by omega) hx hy hs]
      have e := hiff.1 hs
      subst e
      exact ⟨by rw [show j + 2 - 1 = j + 1 by omega, hx]; exact h1, h2, h3⟩
    | false =>
      rw [csN_new hx hy hs]
      refine ⟨by rw [show j + 2 - 1 = j + 1 by omega, hx]; simp, fun z hz => ?_, fun i a b ha hb e => ?_⟩
      · rcases List.mem_append.1 hz with hz | hz
        · exact h2 z hz
        · rw [List.mem_singleton] at hz; rw [hz]; exact hxm
      · subst e
        obtain ⟨P, hP⟩ : ∃ P, P = csN sgEq m (j + 1) := ⟨_, rfl⟩
        rw [← hP] at h1 h3 ha hb
        by_cases hi : i + 1 < P.length
        · rw [List.getElem?_append_left (by omega)] at ha
          rw [List.getElem?_append_left hi] at hb
          exact h3 i a a ha hb rfl
        · have hl : i + 1 = P.length := by
            have := (List.getElem?_eq_some_iff.1 hb).1
            rw [List.length_append, List.length_singleton] at this
            omega
          rw [List.getElem?_append_left (by omega)] at ha
          rw [List.getElem?_append_right (by omega), hl] at hb
          simp at hb
          rw [List.getLast?_eq_getElem?, show P.length - 1 = i by omega, ha] at h1
          injection h1 with h1
          exact absurd (hiff.2 (hb.trans h1)) (by rw [hs]; decide)
def MgsPost (w : World) (e : Ending) (w' : World) : Prop :=
  ∃ (v : Value) (n : Nat) (L : List Sg), e = .returned (.tuple #[v, .int .i64 0]) ∧ L.length = n ∧ n ≤ 5000 ∧ w'.ownsRow w.heap.size 47 6 v n (recs sgC L) ∧ Below w.heap.size w w'
set_option maxRecDepth 100000 in
set_option maxHeartbeats 8000000 in
theorem mergeS_any (l : List Sg) (n c base : Nat) (A : Option Addr) (w : World) (hn : l.length = n) (hn19 : n ≤ 19) (hg : SgsOk l) (ho : w.ownsRow base 47 6 (.slice A n c) n (recs sgC l)) :
    Calls Tryz.prog 12 #[.slice A n c, .slice A n c] w fun e w' => MgsPost w e w' := by
  have HC1 := Lib.hid (fun (V : World) (hV : Below w.heap.size w V) => checkSignals_any l n c A V hg hn (by omega) (own_row (own_below ho hV)))
  have HQ3 := Lib.hid (show ∀ x ∈ l, SgQ3 x from fun x hx => ⟨(hg.1 x hx).d, (hg.1 x hx).r, by
    by_cases h : 3 ≤ x.kd
    · rcases (hg.1 x hx).who h with e | e <;> omega
    · have := (hg.1 x hx).none_ (by omega); omega⟩)
  have HO := Lib.hid ho
  have HN := Lib.hid hn
  have HG := Lib.hid hg
  clear ho hn hg
  go_enter Tryz.func12, Tryz.ntmps12
  go_wp2_with (fail)
  refine (HC1.out w (Below.refl _ _)).mono ?_
  rintro e w1 ⟨rfl, hb1⟩
  have HB1 := Lib.hid hb1
  have hs1 := hb1.size
  clear hb1
  go_wp2_with (fail)
  refine (HC1.out w1 HB1.out).mono ?_
  rintro e w2 ⟨rfl, hb2⟩
  have hs2 := hb2.size
  have HB2 := Lib.hid (HB1.out.trans (hb2.mono hs1))
  clear hb2 HC1
  go_wp2_with (fail)
  have hla : Below w2.heap.size w2 (w2.alloc (.cells #[.int .i64 0, .int .i64 0] 39)) := (Below.refl _ _).alloc (Nat.le_refl _) _
  have HB3 := Lib.hid (HB2.out.trans (hla.mono HB2.out.size))
  obtain ⟨w3, e3⟩ : ∃ w3, w3 = (w2.alloc (.cells #[.int .i64 0, .int .i64 0] 39)) := ⟨_, rfl⟩
  have hcs : Cells w3 w2.heap.size 0 (List.replicate 2 (.int .i64 0)) := by rw [e3]; exact Cells.new w2 _ _ _ _ rfl
  rw [← e3] at HB3 ⊢
  clear hla e3
  refine (first_ok 2 2 w2.heap.size w3 (by omega) hcs).mono ?_
  rintro e w3' ⟨rfl, rfl⟩
  clear hcs
  go_wp2_with (fail)
  have hs3 := HB3.out.size
  obtain ⟨w4, e4⟩ : ∃ w4, w4 = w3.alloc (.cells #[.slice A n c, .slice A n c] 26) := ⟨_, rfl⟩
  have hb4 : Below w3.heap.size w3 w4 := by rw [e4]; exact (Below.refl _ _).alloc (Nat.le_refl _) _
  have hn4 : w4.heap[w3.heap.size]? = some (.cells #[.slice A n c, .slice A n c] 26 (0, 0)) := by rw [e4]; exact heap_new w3 _
  have HB4 := Lib.hid (HB3.out.trans (hb4.mono hs3))
  rw [← e4]
  clear e4 hb4
  refine (catCatG_any l l n n c c w3.heap.size A A w4 HN.out HN.out (by omega) (by omega) (cell_of_blk (j := 0) hn4 rfl) (cell_of_blk (j := 1) hn4 rfl) (own_ly (own_below HO.out HB4.out)) (own_ly (own_below HO.out HB4.out))).mono ?_
  rintro e w5 ⟨v5, rfl, ho5, hb5⟩
  obtain ⟨A5, c5, rfl⟩ := own_slice ho5
  have hs4 := HB4.out.size
  have HO5 := Lib.hid (own_mono ho5 hs4)
  have HB5 := Lib.hid (HB4.out.trans (hb5.mono hs4))
  clear ho5 hb5 hn4
  go_wp2_with (fail)
  refine (sort3_any (l ++ l) (n + n) c5 w.heap.size A5 w5 (by rw [List.length_append, HN.out]) (by omega) HO5.out).mono ?_
  rintro e w6 ⟨rfl, m, hpm, hm, _, ho6, hg6⟩
  have HO6 := Lib.hid ho6
  have HB6 := Lib.hid (HB5.out.grown hg6 HB5.out.size (fun q hq => (HO5.out.lt q hq).1))
  have HM := Lib.hid hm
  have HML := Lib.hid (show ∀ x ∈ m, x ∈ l from fun x hx => by
    have := hpm.mem_iff.1 hx
    rw [List.mem_append] at this
    exact this.elim id id)
  clear ho6 hg6 hpm hm
  go_wp2_with (fail)
  refine (compactE_any m (n + n) c5 w.heap.size A5 w6 HM.out (by omega) HO6.out).mono ?_
  rintro e w7 ⟨r, rn, rfl, hrn, hrn2, _, ho7, hg7, hcs⟩
  have hs6 := HB6.out.size
  have HO7 := Lib.hid ho7
  have HB7 := Lib.hid (HB6.out.grown hg7 hs6 (fun q hq => (HO6.out.lt q hq).1))
  have hs7 := hg7.size
  have HR := Lib.hid hrn
  have HTW := Lib.hid (show ∀ (i : Nat) a b, r[i]? = some a → r[i + 1]? = some b → sgCmp a b ≠ 0 from by
    intro i a b ha hb h0
    have hl0 : 1 ≤ m.length := by
      rcases Nat.eq_zero_or_pos m.length with h | h
      · have e : m = [] := List.eq_nil_of_length_eq_zero h
        have e2 : n + n = 0 := by rw [← HM.out, e]; rfl
        rw [hcs, e2] at ha
        simp [csN] at ha
      · exact h
    obtain ⟨h1, h2, h3⟩ := csN_left (fun x hx => HQ3.out x (HML.out x hx)) m.length hl0 (Nat.le_refl _)
    rw [HM.out, ← hcs] at h2 h3
    have hal := HML.out a (h2 a (List.mem_of_getElem? ha))
    have hbl := HML.out b (h2 b (List.mem_of_getElem? hb))
    refine h3 i a b ha hb ?_
    obtain ⟨p, hp⟩ := List.getElem?_of_mem hal
    obtain ⟨q, hq⟩ := List.getElem?_of_mem hbl
    have hlt := sgCmp_lt a b
    have hgt := sgCmp_gt a b
    obtain ⟨p1, p2⟩ := List.getElem?_eq_some_iff.1 hp
    obtain ⟨q1, q2⟩ := List.getElem?_eq_some_iff.1 hq
    have hpw := List.pairwise_iff_getElem.1 HG.out.2
    rcases Nat.lt_trichotomy p q with h | h | h
    · have := hpw p q p1 q1 h
      rw [p2, q2] at this
      have := hlt.2 this
      omega
    · subst h
      rw [hp] at hq
      exact Option.some.inj hq
    · have := hpw q p q1 p1 h
      rw [p2, q2] at this
      have := hgt.2 this
      omega)
  clear ho7 hg7 hcs hrn
  go_wp2_with (fail)
  go_loopw [8] (fun s wx => ∃ k : Nat, 1 ≤ k ∧ k ≤ rn + 1 ∧ s = .int .i64 (k : Int) ∧ Hid (Below w7.heap.size w7 wx)) (fun s _ => rn + 1 - (intOf s).toNat)
  case atStart => exact ⟨1, Nat.le_refl _, by omega, rfl, Lib.hid (Below.refl _ _)⟩
  case round =>
    obtain ⟨k, hk1, hk, rfl, HRB⟩ := hrel
    obtain ⟨wa, rfl⟩ : ∃ wy : World, wy = wr := ⟨_, rfl⟩
    by_cases hlt : k < rn
    · have hltI : (k : Int) < (rn : Int) := by omega
      obtain ⟨j, rfl⟩ : ∃ j, k = j + 1 := ⟨k - 1, by omega⟩
      obtain ⟨x, hx⟩ : ∃ x, r[j + 1]? = some x := ⟨_, List.getElem?_eq_getElem (by have := HR.out; omega)⟩
      obtain ⟨y, hy⟩ : ∃ y, r[j]? = some y := ⟨_, List.getElem?_eq_getElem (by have := HR.out; omega)⟩
      have hne := HTW.out j y x hy hx
      obtain ⟨h5, h6, h7⟩ | ⟨g, rfl, hg1, hg2⟩ := own_two HO7.out
      · omega
      have HQ := Lib.hid (fun (V : World) (hV : Below wa.heap.size wa V) => show SgAt2 V g (j * 6) y ((j + 1) * 6) x from by
        have hC := (own_cells0 HO7.out).keep ((hV.block g (by have := HRB.out.size; omega)).trans (HRB.out.block g hg2))
        have h1 := sg_cells hC j y hy
        have h2 := sg_cells hC (j + 1) x hx
        rw [Nat.zero_add] at h1 h2
        exact sgAt2 h1 h2)
      have HBD := Lib.hid (fun V => show Calls Tryz.prog 47 #[sgVm y, sgVm x] V fun e w' => e = .returned (.int .i64 (sgCmp y x)) ∧ Below V.heap.size V w' from (byMoment_grow y x V).mono (fun e w' h => ⟨h.1, by obtain ⟨q, os, rfl⟩ := h.2; exact below_grow V q os⟩))
      unfold sgVm at HBD
      obtain ⟨r0, er⟩ : ∃ r0, r0 = sgCmp y x := ⟨_, rfl⟩
      rw [← er] at HBD hne
      have hr0 : (r0 == 0) = false := by simpa using hne
      have hr1 : decide (r0 = 0) = false := by simpa using hne
      have hr2 : ¬ r0 = 0 := hne
      have hw : IntKind.i64.wrap (j : Int) = (j : Int) := by rw [IntKind.wrap_i64]; omega
      have hjn : (j : Int) < (rn : Int) := by omega
      have hjn' : j < rn := by omega
      clear hx hy hne er
      go_upto_region 10 with (fail)
      refine qRegion (by kernel_rfl) (by kernel_rfl) ?_
      repeat (first
        | (go_big_quiet_want; refine qVal (fun V hV => (by (obtain ⟨q0, q1, q2, q3, q4, q5, p0, p1, p2, p3, p4, p5⟩ := HQ.out V hV; go_simp; try rfl))) ?_; simp only [Act.put, List.setIfInBounds_toArray, List.set_cons_zero, List.set_cons_succ]; go_big_quiet_on)
        | (go_big_quiet_want
           refine qCall (fun V hV => (by (obtain ⟨q0, q1, q2, q3, q4, q5, p0, p1, p2, p3, p4, p5⟩ := HQ.out V hV; go_simp; exact ⟨rfl, rfl⟩))) (fun V hV => (by first
             | with_reducible exact (HBD.out V).mono (fun e w' h => ⟨h.1, hV.trans (h.2.mono hV.size)⟩))) ?_
           simp only [Act.put, List.setIfInBounds_toArray, List.set_cons_zero, List.set_cons_succ]; go_big_quiet_on)
        | go_big_quiet_skip)
      refine wpQuiet_nil ?_
      intro V hV
      obtain ⟨wv, ewv⟩ : ∃ wv, wv = V := ⟨_, rfl⟩
      rw [← ewv] at hV ⊢
      have HV := Lib.hid (HRB.out.trans (hV.mono HRB.out.size))
      clear ewv hV
      go_wp2_with (fail)
      go_roundw
      case rel => exact ⟨j + 1 + 1, by omega, by omega, by go_num, HV⟩
      case measure => simp [intOf]; omega
    · have hltI : ¬ (k : Int) < (rn : Int) := by omega
      have h2000 : ¬ (5000 : Int) < (rn : Int) := by omega
      have hs := HRB.out.size
      have HP := Lib.hid (show MgsPost w (.returned (.tuple #[.slice A5 rn c5, .int .i64 0])) wa from
        ⟨_, rn, r, rfl, HR.out, by omega, own_below HO7.out HRB.out, HB7.out.trans (HRB.out.mono HB7.out.size)⟩)
      go_wp2_with (fail)
      go_ret2
      exact HP.out
end Go.Proofs.YtgdnedhcbjonkaaGreatDoor
