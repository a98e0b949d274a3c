/- CornersFault answers 0 just if the corners are right. Printed by gen_GnC.py out of XFeF. -/
import Derived.Test.YthplhibdapjjgaaGreatDoorFeF
namespace Go.Proofs.YthplhibdapjjgaaGreatDoor
open Go.RowKit

def CxPost (l : List Pt) (w : World) (e : Ending) (w' : World) : Prop := ∃ r : Int, e = .returned (.int .i64 r) ∧ (r = 0 ↔ FOk l) ∧ Below w.heap.size w w'
theorem CxPost.bad {l : List Pt} {w w' : World} {r : Int} (hr : r ≠ 0) (hf : ¬ FOk l) (h : Below w.heap.size w w') : CxPost l w (.returned (.int .i64 r)) w' := ⟨r, rfl, iff_of_false hr hf, h⟩
theorem nodup_front {l : List Pt} {k : Nat} {x : Pt} (h : l.Nodup) (hx : l[k]? = some x) (hm : x ∈ l.take k) : False := by
  obtain ⟨i, hi⟩ := List.getElem?_of_mem hm
  have hik : i < k := by have := (List.getElem?_eq_some_iff.1 hi).1; rw [List.length_take] at this; omega
  rw [List.getElem?_take_of_lt hik] at hi
  obtain ⟨h1, h2⟩ := List.getElem?_eq_some_iff.1 hi
  obtain ⟨h3, h4⟩ := List.getElem?_eq_some_iff.1 hx
  have h5 := (List.pairwise_iff_getElem.1 h) i k h1 h3 hik
  exact h5 (h2.trans h4.symm)
set_option maxRecDepth 100000 in
set_option maxHeartbeats 4000000 in
theorem cornersX_any (l : List Pt) (n c b o : Nat) (w : World) (hn : l.length = n) (hn2 : n ≤ 200) (hn3 : 3 ≤ n) (hnc : n ≤ c) (hl : ∀ x ∈ l, SpN x) (hc : Cells w b o (recs ptC l)) (hb : b < w.heap.size) :
    Calls Tryz.prog 21 #[.slice (some ⟨b, o, none⟩) n c] w fun e w' => CxPost l w e w' := by
  have HL := Lib.hid hl
  have HC := Lib.hid (fun (V : World) (hV : Below w.heap.size w V) => hc.keep (hV.block b hb))
  have HN := Lib.hid hn
  clear hl hc
  have h3 : ¬ (n : Int) < 3 := by omega
  have h3n : ¬ n < 3 := by omega
  have h200 : ¬ (200 : Int) < (n : Int) := by omega
  have h200n : ¬ 200 < n := by omega
  go_enter Tryz.func21, Tryz.ntmps21
  go_wp2_with (fail)
  go_loopw [22] (fun i wr => ∃ k : Nat, k ≤ n ∧ i = .int .i64 (k : Int) ∧ (l.take k).Nodup ∧ Below w.heap.size w wr) (fun i _ => n - (intOf i).toNat)
  case atStart => exact ⟨0, Nat.zero_le _, rfl, by simp, Below.refl _ _⟩
  case round =>
    obtain ⟨k, hk, rfl, hnd, hbl⟩ := hrel
    have hsz := hbl.size
    have HND := Lib.hid hnd
    have HBL := Lib.hid hbl
    by_cases hlt : k < n
    · obtain ⟨x, hx⟩ : ∃ x, l[k]? = some x := ⟨_, List.getElem?_eq_getElem (by have := HN.out; omega)⟩
      obtain ⟨c0, c1⟩ := pt_cells (HC.out wr hbl) k x hx
      have HX := Lib.hid hx
      have hxb := HL.out x (List.mem_of_getElem? hx)
      have HSF := Lib.hid (fun V => spotFault_ok x V hxb)
      have HTK := Lib.hid (show l.take (k + 1) = l.take k ++ [x] by rw [List.take_add_one, hx]; rfl)
      have HCO := Lib.hid (fun (V : World) (hV : Below w.heap.size w V) => containsP_any (l.take k) k c (some ⟨b, o, none⟩) x V (by rw [List.length_take]; have := HN.out; omega) (by omega) (.inr ⟨b, o, rfl, by have := hV.size; omega, by
        have h := (HC.out V hV).take (k * 2)
        have e : (recs ptC l).take (k * 2) = recs ptC (l.take k) := by
          have h1 := recs_append ptC (l.take k) (l.drop k)
          rw [List.take_append_drop] at h1
          rw [h1, List.take_left' (by rw [recs_length ptC_len, List.length_take]; have := HN.out; rw [Nat.min_eq_left (by omega)])]
        rw [e] at h
        exact h⟩))
      obtain ⟨has, ehas⟩ : ∃ has, has = decide (x ∈ l.take k) := ⟨_, rfl⟩
      rw [← ehas] at HCO
      have HHAS := Lib.hid ehas
      obtain ⟨xx, xy⟩ := x
      unfold ptV at HSF HCO
      simp only at c0 c1 HSF HCO
      have hkI : (k : Int) < (n : Int) := by omega
      have hk0 : (0 : Int) ≤ (k : Int) := by omega
      have hkc : (k : Int) ≤ (c : Int) := by omega
      have hkcn : k ≤ c := by omega
      clear hbl hnd hx hxb ehas
      go_wp2_with (fail)
      generalize hV : wr.alloc (.cells #[.int .i64 xx, .int .i64 xy] 37) = V
      have hBV : Below wr.heap.size wr V := hV ▸ (Below.refl _ _).alloc (Nat.le_refl _) _
      have hVs : V.heap.size = wr.heap.size + 1 := by rw [← hV]; simp
      have hvb : V.heap[wr.heap.size]? = some (.cells #[.int .i64 xx, .int .i64 xy] 37 (0, 0)) := by rw [← hV]; exact heap_new wr _
      have HVB := Lib.hid hvb
      have HBV := Lib.hid (HBL.out.trans (hBV.mono hsz))
      clear hV hBV hvb c0 c1
      refine (HSF.out V).mono ?_
      rintro e w1 ⟨rfl, hb1⟩
      have hs1 := hb1.size
      have HB1 := Lib.hid (HBV.out.trans (hb1.mono HBV.out.size))
      have hv1 := (hb1.block wr.heap.size (by omega)).trans HVB.out
      have v0 := cell_of_blk (j := 0) hv1 rfl
      have v1 := cell_of_blk (j := 1) hv1 rfl
      have HQ := Lib.hid (fun (U : World) (hU : Below w1.heap.size w1 U) => show U.cell? ⟨wr.heap.size, 0, none⟩ = some (.int .i64 xx) ∧ U.cell? ⟨wr.heap.size, 1, none⟩ = some (.int .i64 xy) from
        ⟨(hU.cell (p := ⟨wr.heap.size, 0, none⟩) (by show wr.heap.size < _; omega)).trans v0, (hU.cell (p := ⟨wr.heap.size, 1, none⟩) (by show wr.heap.size < _; omega)).trans v1⟩)
      have HCV := Lib.hid (fun (U : World) (hU : Below w1.heap.size w1 U) => HCO.out U (HB1.out.trans (hU.mono HB1.out.size)))
      clear hb1 hv1
      go_upto_region 11 with (fail)
      refine qRegion (by kernel_rfl) (by kernel_rfl) ?_
      repeat (first
        | (go_big_quiet_want; refine qVal (fun V hV => (by (obtain ⟨q0, q1⟩ := HQ.out V hV; go_simp; try rfl))) ?_; simp only [Act.put, List.setIfInBounds_toArray, List.set_cons_zero, List.set_cons_succ]; go_big_quiet_on)
        | (go_big_quiet_want
           refine qCall (fun V hV => (by (go_simp; exact ⟨rfl, rfl⟩))) (fun V hV => (by first
             | with_reducible exact (HCV.out V hV).mono (fun e w' h => ⟨h.1, hV.trans (h.2.mono hV.size)⟩))) ?_
           simp only [Act.put, List.setIfInBounds_toArray, List.set_cons_zero, List.set_cons_succ]; go_big_quiet_on))
      refine wpQuiet_nil ?_
      intro w9 hb9
      have HB9 := Lib.hid (HB1.out.trans (hb9.mono HB1.out.size))
      clear hb9
      cases has with
      | true =>
        go_wp2_with (fail)
        go_ret
        exact CxPost.bad (by decide) (fun hf => nodup_front hf.nodup HX.out (of_decide_eq_true HHAS.out.symm)) HB9.out
      | false =>
        go_wp2_with (fail)
        go_roundw
        case rel => exact ⟨k + 1, by omega, by go_num, by rw [HTK.out]; exact nodup_snoc HND.out (fun h => by have := HHAS.out; rw [decide_eq_true h] at this; cases this), HB9.out⟩
        case measure => simp [intOf]; omega
    · have HNL := Lib.hid (show l.Nodup by have h := HND.out; rwa [List.take_of_length_le (by have := HN.out; omega)] at h)
      have HBW := Lib.hid hbl
      clear hbl hnd
      obtain ⟨w2, rfl⟩ : ∃ w2 : World, w2 = wr := ⟨_, rfl⟩
      go_wp2_with (fail)
      go_loopw [40] (fun s wr => ∃ i : Nat, i ≤ n ∧ s = .int .i64 (i : Int) ∧ (∀ i', i' < i → ∀ k, k < n → PrOk l i' k) ∧ Below w.heap.size w wr) (fun s _ => n - (intOf s).toNat)
      case atStart => exact ⟨0, Nat.zero_le _, rfl, fun i' h => by omega, HBW.out⟩
      case round =>
        obtain ⟨i, hi, rfl, hpr, hbl⟩ := hrel
        have HPR := Lib.hid hpr
        have HBL := Lib.hid hbl
        have hsz := hbl.size
        by_cases hin : i < n
        · have HED := Lib.hid (fun (U : World) (hU : Below w.heap.size w U) => edge_any l n c b o i U HN.out (by omega) hin (HC.out U hU) (by have := hU.size; omega))
          have hiI : (i : Int) < (n : Int) := by omega
          have hA := (HL.out _ (mem_ed1 (l := l) (k := i) (by have := HN.out; omega))).wide
          have hB := (HL.out _ (mem_ed2 (l := l) (k := i) (by have := HN.out; omega))).wide
          obtain ⟨pa, epa⟩ : ∃ p, p = ed1 l i := ⟨_, rfl⟩
          obtain ⟨pb, epb⟩ : ∃ p, p = ed2 l i := ⟨_, rfl⟩
          rw [← epa, ← epb] at HED
          rw [← epa] at hA
          rw [← epb] at hB
          have HPA := Lib.hid (And.intro epa epb)
          clear hpr hbl epa epb
          obtain ⟨ax, ay⟩ := pa
          obtain ⟨bx, by_⟩ := pb
          unfold ptV at HED
          simp only at HED
          go_wp2_with (fail)
          refine (HED.out wr HBL.out).mono ?_
          rintro e w3 ⟨rfl, hb3⟩
          have HB3 := Lib.hid (HBL.out.trans (hb3.mono hsz))
          have hs3 := hb3.size
          clear hb3
          go_upto_region 18 with (fail)
          generalize hV : (w3.alloc (.cells #[.int .i64 ax, .int .i64 ay] 37)).alloc (.cells #[.int .i64 bx, .int .i64 by_] 37) = V
          have hVs : V.heap.size = w3.heap.size + 1 + 1 := by rw [← hV]; simp
          have hBV : Below w3.heap.size w3 V := by rw [← hV]; exact ((Below.refl _ _).alloc (Nat.le_refl _) _).alloc (by simp) _
          have ha0 : V.heap[w3.heap.size]? = some (.cells #[.int .i64 ax, .int .i64 ay] 37 (0, 0)) := by rw [← hV, Below.heap_alloc _ _ _ (by simp)]; exact heap_new w3 _
          have hb0 : V.heap[w3.heap.size + 1]? = some (.cells #[.int .i64 bx, .int .i64 by_] 37 (0, 0)) := by rw [← hV]; have := heap_new (w3.alloc (.cells #[.int .i64 ax, .int .i64 ay] 37)) (.cells #[.int .i64 bx, .int .i64 by_] 37); simpa using this
          have HAB := Lib.hid (And.intro ha0 hb0)
          have HBV := Lib.hid (HB3.out.trans (hBV.mono HB3.out.size))
          clear hV hBV ha0 hb0
          go_wp2_with (fail)
          go_loopw [51] (fun s wr => ∃ k : Nat, k ≤ n ∧ s = .int .i64 (k : Int) ∧ (∀ k', k' < k → PrOk l i k') ∧ Below V.heap.size V wr) (fun s _ => n - (intOf s).toNat)
          case atStart => exact ⟨0, Nat.zero_le _, rfl, fun k' h => by omega, Below.refl _ _⟩
          case round =>
            obtain ⟨k, hk, rfl, hpk, hbk⟩ := hrel
            have HPK := Lib.hid hpk
            have hsk := hbk.size
            have HBK := Lib.hid (HBV.out.trans (hbk.mono HBV.out.size))
            have HBK0 := Lib.hid hbk
            by_cases hkn : k < n
            · have HED2 := Lib.hid (fun (U : World) (hU : Below w.heap.size w U) => edge_any l n c b o k U HN.out (by omega) hkn (HC.out U hU) (by have := hU.size; omega))
              have hkI : (k : Int) < (n : Int) := by omega
              have hC := (HL.out _ (mem_ed1 (l := l) (k := k) (by have := HN.out; omega))).wide
              have hD := (HL.out _ (mem_ed2 (l := l) (k := k) (by have := HN.out; omega))).wide
              obtain ⟨pc, epc⟩ : ∃ p, p = ed1 l k := ⟨_, rfl⟩
              obtain ⟨pd, epd⟩ : ∃ p, p = ed2 l k := ⟨_, rfl⟩
              rw [← epc, ← epd] at HED2
              rw [← epc] at hC
              rw [← epd] at hD
              obtain ⟨cx, cy⟩ := pc
              obtain ⟨dx, dy⟩ := pd
              have HW1 := Lib.hid (fun U => onWay_any (ax, ay) (bx, by_) (dx, dy) U hA hB hD)
              have HW2 := Lib.hid (fun U => onWay_any (cx, cy) (dx, dy) (ax, ay) U hC hD hA)
              have HTO := Lib.hid (fun U => touches_any (ax, ay) (bx, by_) (cx, cy) (dx, dy) U hA hB hC hD)
              have HP1 := Lib.hid (fun (h : k = i) => show PrOk l i k from .inl h)
              have HP2 := Lib.hid (fun (h : (bx, by_) = (cx, cy)) (h1 : owB (ax, ay) (bx, by_) (dx, dy) = false) (h2 : owB (cx, cy) (dx, dy) (ax, ay) = false) => show PrOk l i k from
                .inr (.inl ⟨by rw [← HPA.out.2, ← epc]; exact h, by rw [← HPA.out.1, ← HPA.out.2, ← epd]; exact h1, by rw [← HPA.out.1, ← epc, ← epd]; exact h2⟩))
              have HP3 := Lib.hid (fun (h : (bx, by_) ≠ (cx, cy)) (h1 : (dx, dy) = (ax, ay)) => show PrOk l i k from
                .inr (.inr ⟨by rw [← HPA.out.2, ← epc]; exact h, .inl (by rw [← HPA.out.1, ← epd]; exact h1)⟩))
              have HP4 := Lib.hid (fun (h : (bx, by_) ≠ (cx, cy)) (h1 : toB (ax, ay) (bx, by_) (cx, cy) (dx, dy) = false) => show PrOk l i k from
                .inr (.inr ⟨by rw [← HPA.out.2, ← epc]; exact h, .inr (by rw [← HPA.out.1, ← HPA.out.2, ← epc, ← epd]; exact h1)⟩))
              have HN1 := Lib.hid (fun (hki : ¬ k = i) (h : (bx, by_) = (cx, cy)) (h1 : owB (ax, ay) (bx, by_) (dx, dy) = true ∨ owB (cx, cy) (dx, dy) (ax, ay) = true) => show ¬ FOk l from fun hf => by
                have h2 := hf.pairs i (by rw [HN.out]; exact hin) k (by rw [HN.out]; exact hkn)
                unfold PrOk at h2
                rw [← HPA.out.1, ← HPA.out.2, ← epc, ← epd] at h2
                rcases h2 with h2 | ⟨_, h3, h4⟩ | ⟨h3, _⟩
                · exact hki h2
                · rcases h1 with h1 | h1
                  · rw [h1] at h3; cases h3
                  · rw [h1] at h4; cases h4
                · exact h3 h)
              have HN2 := Lib.hid (fun (hki : ¬ k = i) (h : (bx, by_) ≠ (cx, cy)) (h0 : (dx, dy) ≠ (ax, ay)) (h1 : toB (ax, ay) (bx, by_) (cx, cy) (dx, dy) = true) => show ¬ FOk l from fun hf => by
                have h2 := hf.pairs i (by rw [HN.out]; exact hin) k (by rw [HN.out]; exact hkn)
                unfold PrOk at h2
                rw [← HPA.out.1, ← HPA.out.2, ← epc, ← epd] at h2
                rcases h2 with h2 | ⟨h3, _⟩ | ⟨_, h3 | h3⟩
                · exact hki h2
                · exact h h3
                · exact h0 h3
                · rw [h1] at h3; cases h3)
              obtain ⟨r1, er1⟩ : ∃ r, r = owB (ax, ay) (bx, by_) (dx, dy) := ⟨_, rfl⟩
              obtain ⟨r2, er2⟩ : ∃ r, r = owB (cx, cy) (dx, dy) (ax, ay) := ⟨_, rfl⟩
              obtain ⟨r3, er3⟩ : ∃ r, r = toB (ax, ay) (bx, by_) (cx, cy) (dx, dy) := ⟨_, rfl⟩
              rw [← er1] at HW1 HP2 HN1
              rw [← er2] at HW2 HP2 HN1
              rw [← er3] at HTO HP4 HN2
              unfold ptV at HED2 HW1 HW2 HTO
              simp only at HED2 HW1 HW2 HTO
              have HNX := Lib.hid (fun (h : PrOk l i k) => show ∀ k', k' < k + 1 → PrOk l i k' from fun k' h' => by
                rcases Nat.lt_or_ge k' k with h2 | h2
                · exact HPK.out k' h2
                · obtain rfl : k' = k := by omega
                  exact h)
              clear epc epd er1 er2 er3 hpk hC hD
              go_wp2_with (fail)
              refine (HED2.out wr HBK.out).mono ?_
              rintro e w5 ⟨rfl, hb5⟩
              have HB5 := Lib.hid (HBK.out.trans (hb5.mono HBK.out.size))
              have hs5 := hb5.size
              have HB50 := Lib.hid (HBK0.out.trans (hb5.mono hsk))
              clear hb5 hbk
              go_upto_region 22 with (fail)
              generalize hU : (w5.alloc (.cells #[.int .i64 cx, .int .i64 cy] 37)).alloc (.cells #[.int .i64 dx, .int .i64 dy] 37) = U
              have hUs : U.heap.size = w5.heap.size + 1 + 1 := by rw [← hU]; simp
              have hBU : Below w5.heap.size w5 U := by rw [← hU]; exact ((Below.refl _ _).alloc (Nat.le_refl _) _).alloc (by simp) _
              have hc0 : U.heap[w5.heap.size]? = some (.cells #[.int .i64 cx, .int .i64 cy] 37 (0, 0)) := by rw [← hU, Below.heap_alloc _ _ _ (by simp)]; exact heap_new w5 _
              have hd0 : U.heap[w5.heap.size + 1]? = some (.cells #[.int .i64 dx, .int .i64 dy] 37 (0, 0)) := by rw [← hU]; have := heap_new (w5.alloc (.cells #[.int .i64 cx, .int .i64 cy] 37)) (.cells #[.int .i64 dx, .int .i64 dy] 37); simpa using this
              have HBU := Lib.hid (HB5.out.trans (hBU.mono HB5.out.size))
              have HBU0 := Lib.hid (HB50.out.trans (hBU.mono HB50.out.size))
              have HAU := Lib.hid (And.intro ((HBU0.out.block w3.heap.size (by omega)).trans HAB.out.1) ((HBU0.out.block (w3.heap.size + 1) (by omega)).trans HAB.out.2))
              have hwU : w3.heap.size + 1 < U.heap.size := by have := HBU0.out.size; omega
              have HQ := Lib.hid (fun (Z : World) (hZ : Below U.heap.size U Z) => show Z.cell? ⟨w3.heap.size, 0, none⟩ = some (.int .i64 ax) ∧ Z.cell? ⟨w3.heap.size, 1, none⟩ = some (.int .i64 ay) ∧ Z.cell? ⟨w3.heap.size + 1, 0, none⟩ = some (.int .i64 bx) ∧ Z.cell? ⟨w3.heap.size + 1, 1, none⟩ = some (.int .i64 by_) ∧ Z.cell? ⟨w5.heap.size, 0, none⟩ = some (.int .i64 cx) ∧ Z.cell? ⟨w5.heap.size, 1, none⟩ = some (.int .i64 cy) ∧ Z.cell? ⟨w5.heap.size + 1, 0, none⟩ = some (.int .i64 dx) ∧ Z.cell? ⟨w5.heap.size + 1, 1, none⟩ = some (.int .i64 dy) from by
                have h1 := (hZ.block w3.heap.size (by omega)).trans HAU.out.1
                have h2 := (hZ.block (w3.heap.size + 1) (by omega)).trans HAU.out.2
                have h3 := (hZ.block w5.heap.size (by omega)).trans hc0
                have h4 := (hZ.block (w5.heap.size + 1) (by omega)).trans hd0
                exact ⟨cell_of_blk (j := 0) h1 rfl, cell_of_blk (j := 1) h1 rfl, cell_of_blk (j := 0) h2 rfl, cell_of_blk (j := 1) h2 rfl, cell_of_blk (j := 0) h3 rfl, cell_of_blk (j := 1) h3 rfl, cell_of_blk (j := 0) h4 rfl, cell_of_blk (j := 1) h4 rfl⟩)
              clear hU hBU hc0 hd0
              obtain ⟨q0, q1, q2, q3, q4, q5, q6, q7⟩ := HQ.out U (Below.refl _ _)
              by_cases hki : k = i
              · subst hki
                go_wp2_with (fail)
                go_roundw
                case rel => exact ⟨k + 1, by omega, by go_num, HNX.out (HP1.out rfl), HBU0.out⟩
                case measure => simp [intOf]; omega
              · have hkiI : ¬ (k : Int) = (i : Int) := by omega
                have hkib : ((k : Int) == (i : Int)) = false := by simp; omega
                by_cases hbc : bx = cx ∧ by_ = cy
                · obtain ⟨h1, h2⟩ := hbc
                  subst h1
                  subst h2
                  go_wp2_with (fail)
                  refine (HW1.out U).mono ?_
                  rintro e w6 ⟨rfl, hb6⟩
                  clear q0 q1 q2 q3 q4 q5 q6 q7
                  obtain ⟨q0, q1, q2, q3, q4, q5, q6, q7⟩ := HQ.out w6 hb6
                  have HB6 := Lib.hid hb6
                  have hs6 := hb6.size
                  clear hb6
                  cases r1 with
                  | true =>
                    go_wp2_with (fail)
                    go_ret
                    exact CxPost.bad (by decide) (HN1.out hki (by first | exact rfl | exact trivial) (.inl (by first | exact rfl | exact trivial))) (HBU.out.trans (HB6.out.mono HBU.out.size))
                  | false =>
                    go_wp2_with (fail)
                    refine (HW2.out w6).mono ?_
                    rintro e w7 ⟨rfl, hb7⟩
                    have HB7 := Lib.hid (HB6.out.trans (hb7.mono hs6))
                    clear hb7 q0 q1 q2 q3 q4 q5 q6 q7
                    cases r2 with
                    | true =>
                      go_wp2_with (fail)
                      go_ret
                      exact CxPost.bad (by decide) (HN1.out hki (by first | exact rfl | exact trivial) (.inr (by first | exact rfl | exact trivial))) (HBU.out.trans (HB7.out.mono HBU.out.size))
                    | false =>
                      go_wp2_with (fail)
                      go_roundw
                      case rel => exact ⟨k + 1, by omega, by go_num, HNX.out (HP2.out (by first | exact trivial | rfl) (by first | exact trivial | rfl) (by first | exact trivial | rfl)), HBU0.out.trans (HB7.out.mono HBU0.out.size)⟩
                      case measure => simp [intOf]; omega
                · have hne : (bx, by_) ≠ (cx, cy) := fun h => hbc (by injection h with h1 h2; exact ⟨h1, h2⟩)
                  have HNE := Lib.hid hne
                  clear hne
                  rcases (show bx ≠ cx ∨ (bx = cx ∧ by_ ≠ cy) from by
                      by_cases h : bx = cx
                      · exact .inr ⟨h, fun h2 => hbc ⟨h, h2⟩⟩
                      · exact .inl h) with h1 | ⟨h1, h2⟩
                  · have h1b : (bx == cx) = false := by simpa using h1
                    clear hbc
                    by_cases g1 : dx = ax
                    · subst g1
                      by_cases g2 : dy = ay
                      · subst g2
                        go_wp2_with (fail)
                        go_roundw
                        case rel => exact ⟨k + 1, by omega, by go_num, HNX.out (HP3.out HNE.out (by first | exact rfl | exact trivial)), HBU0.out⟩
                        case measure => simp [intOf]; omega
                      · have g2b : (dy == ay) = false := by simpa using g2
                        go_wp2_with (fail)
                        refine (HTO.out U).mono ?_
                        rintro e w6 ⟨rfl, hb6⟩
                        have HB6 := Lib.hid hb6
                        clear hb6 q0 q1 q2 q3 q4 q5 q6 q7
                        cases r3 with
                        | true =>
                          go_wp2_with (fail)
                          go_ret
                          exact CxPost.bad (by decide) (HN2.out hki HNE.out (by intro h; injection h with h1 h2; first | exact g2 h2 | exact g1 h1) (by first | exact rfl | exact trivial)) (HBU.out.trans (HB6.out.mono HBU.out.size))
                        | false =>
                          go_wp2_with (fail)
                          go_roundw
                          case rel => exact ⟨k + 1, by omega, by go_num, HNX.out (HP4.out HNE.out (by first | exact rfl | exact trivial)), HBU0.out.trans (HB6.out.mono HBU0.out.size)⟩
                          case measure => simp [intOf]; omega
                    · have g1b : (dx == ax) = false := by simpa using g1
                      go_wp2_with (fail)
                      refine (HTO.out U).mono ?_
                      rintro e w6 ⟨rfl, hb6⟩
                      have HB6 := Lib.hid hb6
                      clear hb6 q0 q1 q2 q3 q4 q5 q6 q7
                      cases r3 with
                      | true =>
                        go_wp2_with (fail)
                        go_ret
                        exact CxPost.bad (by decide) (HN2.out hki HNE.out (by intro h; injection h with h1 h2; first | exact g2 h2 | exact g1 h1) (by first | exact rfl | exact trivial)) (HBU.out.trans (HB6.out.mono HBU.out.size))
                      | false =>
                        go_wp2_with (fail)
                        go_roundw
                        case rel => exact ⟨k + 1, by omega, by go_num, HNX.out (HP4.out HNE.out (by first | exact rfl | exact trivial)), HBU0.out.trans (HB6.out.mono HBU0.out.size)⟩
                        case measure => simp [intOf]; omega
                  · subst h1
                    have h2b : (by_ == cy) = false := by simpa using h2
                    clear hbc
                    by_cases g1 : dx = ax
                    · subst g1
                      by_cases g2 : dy = ay
                      · subst g2
                        go_wp2_with (fail)
                        go_roundw
                        case rel => exact ⟨k + 1, by omega, by go_num, HNX.out (HP3.out HNE.out (by first | exact rfl | exact trivial)), HBU0.out⟩
                        case measure => simp [intOf]; omega
                      · have g2b : (dy == ay) = false := by simpa using g2
                        go_wp2_with (fail)
                        refine (HTO.out U).mono ?_
                        rintro e w6 ⟨rfl, hb6⟩
                        have HB6 := Lib.hid hb6
                        clear hb6 q0 q1 q2 q3 q4 q5 q6 q7
                        cases r3 with
                        | true =>
                          go_wp2_with (fail)
                          go_ret
                          exact CxPost.bad (by decide) (HN2.out hki HNE.out (by intro h; injection h with h1 h2; first | exact g2 h2 | exact g1 h1) (by first | exact rfl | exact trivial)) (HBU.out.trans (HB6.out.mono HBU.out.size))
                        | false =>
                          go_wp2_with (fail)
                          go_roundw
                          case rel => exact ⟨k + 1, by omega, by go_num, HNX.out (HP4.out HNE.out (by first | exact rfl | exact trivial)), HBU0.out.trans (HB6.out.mono HBU0.out.size)⟩
                          case measure => simp [intOf]; omega
                    · have g1b : (dx == ax) = false := by simpa using g1
                      go_wp2_with (fail)
                      refine (HTO.out U).mono ?_
                      rintro e w6 ⟨rfl, hb6⟩
                      have HB6 := Lib.hid hb6
                      clear hb6 q0 q1 q2 q3 q4 q5 q6 q7
                      cases r3 with
                      | true =>
                        go_wp2_with (fail)
                        go_ret
                        exact CxPost.bad (by decide) (HN2.out hki HNE.out (by intro h; injection h with h1 h2; first | exact g2 h2 | exact g1 h1) (by first | exact rfl | exact trivial)) (HBU.out.trans (HB6.out.mono HBU.out.size))
                      | false =>
                        go_wp2_with (fail)
                        go_roundw
                        case rel => exact ⟨k + 1, by omega, by go_num, HNX.out (HP4.out HNE.out (by first | exact rfl | exact trivial)), HBU0.out.trans (HB6.out.mono HBU0.out.size)⟩
                        case measure => simp [intOf]; omega
            · obtain rfl : n = k := by omega
              have HBE := Lib.hid hbk
              clear hbk hpk
              go_wp2_with (fail)
              go_roundw
              case rel =>
                refine ⟨i + 1, by omega, by go_num, ?_, HBK.out⟩
                intro i' hi' k hk
                rcases Nat.lt_or_ge i' i with h2 | h2
                · exact HPR.out i' h2 k hk
                · obtain rfl : i' = i := by omega
                  exact HPK.out k hk
              case measure => simp [intOf]; omega
        · obtain rfl : n = i := by omega
          clear hpr hbl
          go_wp2_with (fail)
          go_ret
          exact ⟨0, rfl, iff_of_true rfl ⟨by rw [HN.out]; exact hn3, by rw [HN.out]; exact hn2, HL.out, HNL.out, fun i hi k hk => HPR.out i (by rw [← HN.out]; exact hi) k (by rw [← HN.out]; exact hk)⟩, HBL.out⟩
end Go.Proofs.YthplhibdapjjgaaGreatDoor
