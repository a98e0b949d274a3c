/- LaterChangesNothing: the law function. Printed by gen_LcL.py. -/
import Derived.Test.YtlfphndnkgoinaaGreatDoorTkT
import Derived.Test.YtlfphndnkgoinaaGreatDoorTeX
import Derived.Test.YtlfphndnkgoinaaGreatDoorLcD
import Derived.Test.YtlfphndnkgoinaaGreatDoorMgA
namespace Go.Proofs.YtlfphndnkgoinaaGreatDoor
open Go.RowKit

theorem seen_kp (l : List Te) (m d : Nat) (t : Int) : (seenL (l.filter (kpT t)) m d).filter (fun s => decide (s.1 ≤ t)) = (seenL l m d).filter (fun s => decide (s.1 ≤ t)) := by
  induction l with
  | nil => rfl
  | cons x l ih =>
    have e : ∀ (y : Te) (L : List Te), seenL (y :: L) m d = if y.m = m ∧ y.d = d then (y.at_, y.v) :: seenL L m d else seenL L m d := fun y L => by
      unfold seenL
      by_cases h : y.m = m ∧ y.d = d
      · rw [List.filter_cons_of_pos (by simpa using h), if_pos h]; rfl
      · rw [List.filter_cons_of_neg (by simpa using h), if_neg h]
    by_cases hx : x.at_ ≤ t
    · rw [List.filter_cons_of_pos (by unfold kpT; simpa using hx), e, e]
      split
      · rw [List.filter_cons_of_pos (by simpa using hx), List.filter_cons_of_pos (by simpa using hx), ih]
      · exact ih
    · rw [List.filter_cons_of_neg (by unfold kpT; simpa using hx), e]
      split
      · rw [List.filter_cons_of_neg (by simpa using hx), ih]
      · exact ih
theorem TesOk.filt {l : List Te} (h : TesOk l) (p : Te → Bool) : TesOk (l.filter p) := ⟨fun s hs => h.1 s (List.mem_filter.1 hs).1, h.2.sublist List.filter_sublist⟩
set_option maxRecDepth 100000 in
set_option maxHeartbeats 8000000 in
theorem lcL_yes (w : World) (xs : List Int) (n c : Nat) (A0 : Option Addr) (hs : ∀ (W : World), Below w.heap.size w W → W.heap[w.heap.size]? = some (.cells #[.slice A0 n c, .int .i64 0] 25) → Strm W w.heap.size xs 0) (hT : RkW w) :
    Calls Tryz.prog 4 #[.slice A0 n c] w fun e w' => e = .returned (.bool true) ∧ Below w.heap.size w w' := by
  have HS := Lib.hid hs
  have HT := Lib.hid (fun V (hV : Below w.heap.size w V) => hT.below hV)
  clear hs hT
  go_enter Tryz.func4, Tryz.ntmps4
  go_upto_region 2 with (fail)
  generalize hW : w.alloc (.cells #[.slice A0 n c, .int .i64 0] 25) = w0
  have hsz0 : w.heap.size < w0.heap.size := by rw [← hW]; simp
  have hB0 : Below w.heap.size w w0 := hW ▸ (Below.refl _ _).alloc (Nat.le_refl _) _
  have HST0 := Lib.hid (HS.out w0 hB0 (by rw [← hW]; exact heap_new w _))
  have HB0 := Lib.hid hB0
  clear hW hB0 HS
  obtain ⟨p, ep⟩ : ∃ p, p = w.heap.size := ⟨_, rfl⟩
  have hpw : w.heap.size ≤ p := by omega
  rw [← ep] at HST0 hsz0 ⊢
  clear ep
  have hrk : (⟨#[114, 97]⟩ : ByteArray) = rkT 0 := rfl
  go_wp2_with (fail)
  refine (rightRule_any 0 w0 p 0 xs (by omega) (by omega) HST0.out).mono ?_
  rintro e w1 ⟨r, k1, rfl, hR, hk0, hst1, hk1, hg1⟩
  unfold ruV
  have HR := Lib.hid hR
  have HST1 := Lib.hid hst1
  have HB1 := Lib.hid (HB0.out.grown hg1 HB0.out.size (fun q hq => by cases hq; exact hpw))
  have hsz1 : p < w1.heap.size := Nat.lt_of_lt_of_le hsz0 hg1.size
  clear hst1 hg1 hR hk0 hrk
  go_wp2_with (fail)
  refine (range_nat w1 p k1 7 xs (by omega) (by omega) HST1.out).mono ?_
  have hNl := nextN_lt xs k1 8 (by omega)
  obtain ⟨N, eN⟩ : ∃ N, N = nextN xs k1 8 := ⟨_, rfl⟩
  rw [← eN] at hNl ⊢
  clear eN
  rintro e w2 ⟨rfl, hst2, hg2⟩
  have HST2 := Lib.hid hst2
  have HB2 := Lib.hid (HB1.out.grown hg2 HB1.out.size (fun q hq => by cases hq; exact hpw))
  have hsz2 : p < w2.heap.size := Nat.lt_of_lt_of_le hsz1 hg2.size
  clear hst2 hg2
  go_wp2_with (fail)
  refine (readings_any w2 p (k1 + 1) N xs (by omega) (by omega) HST2.out).mono ?_
  rintro e w3 ⟨l, A, cl, k3, m, rfl, hG3, hlen, hmN, ho, hst3, hk3, hg3⟩
  have HB3 := Lib.hid (HB2.out.grown hg3 HB2.out.size (fun q hq => by cases hq; exact hpw))
  have HST3 := Lib.hid hst3
  have HLN := Lib.hid hlen
  have HGG := Lib.hid hG3
  have HO3 := Lib.hid ho
  have hsz3 : p < w3.heap.size := Nat.lt_of_lt_of_le hsz2 hg3.size
  clear ho hst3 hg3 hlen hG3
  go_wp2_with (fail)
  refine (next_any w3 p k3 xs 200 (by omega) (by omega) HST3.out).mono ?_
  have ht := nextV_range xs k3 200 (by omega)
  obtain ⟨t, et⟩ : ∃ t, t = nextV xs k3 200 := ⟨_, rfl⟩
  rw [← et] at ht ⊢
  clear et
  rintro e w4 ⟨rfl, hst4, hg4⟩
  have HB4 := Lib.hid (HB3.out.grown hg4 HB3.out.size (fun q hq => by cases hq; exact hpw))
  have HO4 := Lib.hid (own_kept HO3.out hg4 hsz2)
  have HW2 := Lib.hid (show w.heap.size ≤ w2.heap.size from HB2.out.size)
  clear hst4 hg4 HO3

  go_upto_region 3 with (fail)
  obtain ⟨b, eb⟩ : ∃ b, b = w4.heap.size := ⟨_, rfl⟩
  obtain ⟨gt, egt⟩ : ∃ b, b = w4.heap.size + 1 := ⟨_, rfl⟩
  obtain ⟨w5, e5⟩ : ∃ V : World, V = (w4.alloc (.cells #[.string (rkT r.k), .string (meT r.m), .int .i64 r.agg, .int .i64 r.long, .bool r.above, .int .i64 r.on, .int .i64 r.off, .int .i64 r.hold, .int .i64 r.rest, .int .i64 r.empty] 27)).alloc (.cells #[.int .i64 t] 3) := ⟨_, rfl⟩
  have hb45 : Below w4.heap.size w4 w5 := by rw [e5]; exact ((Below.refl _ _).alloc (Nat.le_refl _) _).alloc (by simp) _
  have hg5 : w5.heap[b]? = some (.cells #[.string (rkT r.k), .string (meT r.m), .int .i64 r.agg, .int .i64 r.long, .bool r.above, .int .i64 r.on, .int .i64 r.off, .int .i64 r.hold, .int .i64 r.rest, .int .i64 r.empty] 27 (0, 0)) := by rw [e5, eb, Below.heap_alloc _ _ _ (by simp)]; exact heap_new w4 _
  have ht5 : w5.heap[gt]? = some (.cells #[.int .i64 t] 3 (0, 0)) := by rw [e5, egt]; have := heap_new (w4.alloc (.cells #[.string (rkT r.k), .string (meT r.m), .int .i64 r.agg, .int .i64 r.long, .bool r.above, .int .i64 r.on, .int .i64 r.off, .int .i64 r.hold, .int .i64 r.rest, .int .i64 r.empty] 27)) (.cells #[.int .i64 t] 3); simpa using this
  have hlt5 : b < w5.heap.size := (Array.getElem?_eq_some_iff.1 hg5).1
  have hgt5 : gt < w5.heap.size := (Array.getElem?_eq_some_iff.1 ht5).1
  have HX5 := Lib.hid hg5
  have HT5 := Lib.hid ht5
  have HB5 := Lib.hid (HB4.out.trans (hb45.mono HB4.out.size))
  have HO5 := Lib.hid (own_keptB HO4.out fun q hq => hb45.block q (HO4.out.lt q hq).2)
  have hTl : gt < w5.heap.size := hgt5
  rw [← egt, ← eb]
  try rw [← egt]
  rw [← e5]
  clear eb egt e5 hb45 hg5 ht5 HO4
  -- the samples
  go_wp2_with (fail)
  refine (samplesFault_any l m cl A w5 HLN.out (by omega) (own_row HO5.out) HGG.out).mono ?_
  rintro e w7 ⟨z, rfl, hz, hb7⟩
  have HZ := Lib.hid hz
  have HB7 := Lib.hid (HB5.out.trans (hb7.mono HB5.out.size))
  have HX7 := Lib.hid ((hb7.block b hlt5).trans HX5.out)
  have HT7 := Lib.hid ((hb7.block gt hgt5).trans HT5.out)
  have HO7 := Lib.hid (own_keptB HO5.out fun q hq => hb7.block q (HO5.out.lt q hq).2)
  have hs7 := hb7.size
  have HAB := Lib.hid (fun q (hq : (Value.slice A m cl).ownBlock = some q) => show q < w7.heap.size from (HO7.out.lt q hq).2)
  clear hz hb7 HO5 HX5 HT5
  by_cases hz0 : z = 0
  case neg =>
    have hzb : (z != 0) = true := by simpa using hz0
    have HRD := Lib.hid (ready1_yes w7 (HT.out _ HB7.out))
    go_wp2_with (fail)
    refine HRD.out.mono ?_
    rintro e w8 ⟨rfl, hb8⟩
    have HF := Lib.hid (HB7.out.trans (hb8.mono HB7.out.size))
    clear hb8
    go_wp2_with (fail)
    go_ret
    exact ⟨rfl, HF.out⟩
  subst hz0
  have HOK := Lib.hid (HZ.out rfl)
  have hlt7 : b < w7.heap.size := by omega
  have hgt7 : gt < w7.heap.size := by omega
  have HCL := Lib.hid (cloneT_any l m w2.heap.size (.slice A m cl) w7 HLN.out (by omega) HO7.out)
  go_wp2_with (fail)
  refine HCL.out.mono ?_
  rintro e w8 ⟨v8, rfl, ho8, hb8⟩
  obtain ⟨A8, c8, rfl⟩ := own_slice ho8
  have HB8 := Lib.hid (HB7.out.trans (hb8.mono HB7.out.size))
  have HX8 := Lib.hid ((hb8.block b hlt7).trans HX7.out)
  have HT8 := Lib.hid ((hb8.block gt hgt7).trans HT7.out)
  have HO8 := Lib.hid (own_keptB HO7.out fun q hq => hb8.block q (HO7.out.lt q hq).2)
  have hs8 := hb8.size
  have HLO := Lib.hid (fun q (hq : (Value.slice A8 m c8).ownBlock = some q) => (ho8.lt q hq).1)
  have HDF := Lib.hid (deleteT_any t gt l m c8 w7.heap.size A8 w8 HT8.out HLN.out (by omega) ho8)
  have hlt8 : b < w8.heap.size := by omega
  have hgt8 : gt < w8.heap.size := by omega
  clear ho8 hb8 HCL HX7 HT7 HO7
  go_wp2_with (fail)
  refine HDF.out.mono ?_
  rintro e w9 ⟨rfl, ho9, hg9⟩
  rw [HLN.out] at hg9
  obtain ⟨l2, el2⟩ : ∃ z, z = l.filter (kpT t) := ⟨_, rfl⟩
  rw [← el2] at ho9 ⊢
  obtain ⟨m2, em2⟩ : ∃ z, z = l2.length := ⟨_, rfl⟩
  rw [← em2] at ho9 ⊢
  have HL2 := Lib.hid el2
  have HM2 := Lib.hid em2.symm
  have hm2 : m2 ≤ m := by rw [em2, el2, ← HLN.out]; exact List.length_filter_le _ _
  have HKE := Lib.hid (fun q (hq : q < w7.heap.size) => show w9.heap[q]? = w8.heap[q]? from hg9.block q (by omega) (fun e => by have := HLO.out q e.symm; omega))
  have hs9 := hg9.size
  have HB9 := Lib.hid (HB8.out.grown hg9 HB8.out.size (fun q hq => by have := HLO.out q hq; have := HB7.out.size; omega))
  have HX9 := Lib.hid ((HKE.out b hlt7).trans HX8.out)
  have HT9 := Lib.hid ((HKE.out gt hgt7).trans HT8.out)
  have HA9 := Lib.hid (show Row w9 w9.heap.size A (recs teC l) from own_row (own_keptB HO8.out fun q hq => by
    refine hg9.block q (HO8.out.lt q hq).2 (fun e => ?_)
    have h1 := HLO.out q e.symm
    have h2 := HAB.out q hq
    omega))
  have HA2 := Lib.hid (own_row ho9)
  have hlt9 : b < w9.heap.size := by omega
  have hgt9 : gt < w9.heap.size := by omega
  clear ho9 hg9 HDF HX8 HT8 HO8 HKE el2 em2
  have q0 : w9.cell? ⟨b, 0, none⟩ = some (.string (rkT r.k)) := cell_of_blk (j := 0) HX9.out rfl
  have q1 : w9.cell? ⟨b, 1, none⟩ = some (.string (meT r.m)) := cell_of_blk (j := 1) HX9.out rfl
  have q2 : w9.cell? ⟨b, 2, none⟩ = some (.int .i64 r.agg) := cell_of_blk (j := 2) HX9.out rfl
  have q3 : w9.cell? ⟨b, 3, none⟩ = some (.int .i64 r.long) := cell_of_blk (j := 3) HX9.out rfl
  have q4 : w9.cell? ⟨b, 4, none⟩ = some (.bool r.above) := cell_of_blk (j := 4) HX9.out rfl
  have q5 : w9.cell? ⟨b, 5, none⟩ = some (.int .i64 r.on) := cell_of_blk (j := 5) HX9.out rfl
  have q6 : w9.cell? ⟨b, 6, none⟩ = some (.int .i64 r.off) := cell_of_blk (j := 6) HX9.out rfl
  have q7 : w9.cell? ⟨b, 7, none⟩ = some (.int .i64 r.hold) := cell_of_blk (j := 7) HX9.out rfl
  have q8 : w9.cell? ⟨b, 8, none⟩ = some (.int .i64 r.rest) := cell_of_blk (j := 8) HX9.out rfl
  have q9 : w9.cell? ⟨b, 9, none⟩ = some (.int .i64 r.empty) := cell_of_blk (j := 9) HX9.out rfl
  have t9 : w9.cell? ⟨gt, 0, none⟩ = some (.int .i64 t) := cell_of_blk (j := 0) HT9.out rfl
  have HFI := Lib.hid (fires_any r l m cl 0 t A w9 HR.out HOK.out HLN.out (by omega) HA9.out (by omega) ⟨by omega, by omega⟩)
  have erv : ruV r = .agg #[.string (rkT r.k), .string (meT r.m), .int .i64 r.agg, .int .i64 r.long, .bool r.above, .int .i64 r.on, .int .i64 r.off, .int .i64 r.hold, .int .i64 r.rest, .int .i64 r.empty] := rfl
  have etd : teT 0 = ⟨#[100, 97]⟩ := rfl
  rw [erv, etd] at HFI
  clear erv etd
  go_wp2_with (fail)
  refine HFI.out.mono ?_
  rintro e w10 ⟨⟨sp, hsp, rfl⟩, hb10⟩
  have HSP := Lib.hid hsp
  obtain ⟨bb, ebb⟩ : ∃ z, z = firesP sp t := ⟨_, rfl⟩
  rw [← ebb]
  have HBB := Lib.hid ebb
  have HB10 := Lib.hid (HB9.out.trans (hb10.mono HB9.out.size))
  have HX10 := Lib.hid ((hb10.block b hlt9).trans HX9.out)
  have HT10 := Lib.hid ((hb10.block gt hgt9).trans HT9.out)
  have HA10 := Lib.hid ((HA2.out.below hb10).mono hb10.size)
  clear hsp hb10 ebb HFI q0 q1 q2 q3 q4 q5 q6 q7 q8 q9 t9
  have hlt10 : b < w10.heap.size := (Array.getElem?_eq_some_iff.1 HX10.out).1
  have hgt10 : gt < w10.heap.size := (Array.getElem?_eq_some_iff.1 HT10.out).1
  have q0 : w10.cell? ⟨b, 0, none⟩ = some (.string (rkT r.k)) := cell_of_blk (j := 0) HX10.out rfl
  have q1 : w10.cell? ⟨b, 1, none⟩ = some (.string (meT r.m)) := cell_of_blk (j := 1) HX10.out rfl
  have q2 : w10.cell? ⟨b, 2, none⟩ = some (.int .i64 r.agg) := cell_of_blk (j := 2) HX10.out rfl
  have q3 : w10.cell? ⟨b, 3, none⟩ = some (.int .i64 r.long) := cell_of_blk (j := 3) HX10.out rfl
  have q4 : w10.cell? ⟨b, 4, none⟩ = some (.bool r.above) := cell_of_blk (j := 4) HX10.out rfl
  have q5 : w10.cell? ⟨b, 5, none⟩ = some (.int .i64 r.on) := cell_of_blk (j := 5) HX10.out rfl
  have q6 : w10.cell? ⟨b, 6, none⟩ = some (.int .i64 r.off) := cell_of_blk (j := 6) HX10.out rfl
  have q7 : w10.cell? ⟨b, 7, none⟩ = some (.int .i64 r.hold) := cell_of_blk (j := 7) HX10.out rfl
  have q8 : w10.cell? ⟨b, 8, none⟩ = some (.int .i64 r.rest) := cell_of_blk (j := 8) HX10.out rfl
  have q9 : w10.cell? ⟨b, 9, none⟩ = some (.int .i64 r.empty) := cell_of_blk (j := 9) HX10.out rfl
  have t10 : w10.cell? ⟨gt, 0, none⟩ = some (.int .i64 t) := cell_of_blk (j := 0) HT10.out rfl
  have HFI := Lib.hid (fires_any r l2 m2 c8 0 t A8 w10 HR.out (by rw [HL2.out]; exact HOK.out.filt _) HM2.out (by omega) HA10.out (by omega) ⟨by omega, by omega⟩)
  have erv : ruV r = .agg #[.string (rkT r.k), .string (meT r.m), .int .i64 r.agg, .int .i64 r.long, .bool r.above, .int .i64 r.on, .int .i64 r.off, .int .i64 r.hold, .int .i64 r.rest, .int .i64 r.empty] := rfl
  have etd : teT 0 = ⟨#[100, 97]⟩ := rfl
  rw [erv, etd] at HFI
  clear erv etd
  go_wp2_with (fail)
  refine HFI.out.mono ?_
  rintro e w11 ⟨⟨sq, hsq, rfl⟩, hb11⟩
  have HEQ := Lib.hid (show bb = firesP sq t from by
    rw [HBB.out]
    refine fires_same HR.out.t (seenL_ok HOK.out r.m 0) (seenL_ok (HOK.out.filt (kpT t)) r.m 0) HSP.out (by rw [← HL2.out]; exact hsq) (by omega) (by unfold tEnd; omega) ?_
    exact (seen_kp l r.m 0 t).symm)
  rw [← HEQ.out]
  have HB11 := Lib.hid (HB10.out.trans (hb11.mono HB10.out.size))
  clear hsq hb11 HFI q0 q1 q2 q3 q4 q5 q6 q7 q8 q9 t10
  have HRD := Lib.hid (ready1_yes w11 (HT.out _ HB11.out))
  cases bb with
  | true =>
    go_wp2_with (fail)
    refine HRD.out.mono ?_
    rintro e w12 ⟨rfl, hb12⟩
    have HF := Lib.hid (HB11.out.trans (hb12.mono HB11.out.size))
    clear hb12
    go_wp2_with (fail)
    go_ret
    exact ⟨rfl, HF.out⟩
  | false =>
    go_wp2_with (fail)
    refine HRD.out.mono ?_
    rintro e w12 ⟨rfl, hb12⟩
    have HF := Lib.hid (HB11.out.trans (hb12.mono HB11.out.size))
    clear hb12
    go_wp2_with (fail)
    go_ret
    exact ⟨rfl, HF.out⟩
end Go.Proofs.YtlfphndnkgoinaaGreatDoor
