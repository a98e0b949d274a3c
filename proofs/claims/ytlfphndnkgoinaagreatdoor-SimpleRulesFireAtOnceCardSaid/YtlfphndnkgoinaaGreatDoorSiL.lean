/- SimpleRulesFireAtOnce: the law function. Printed by gen_SiL.py. -/
import Derived.Test.YtlfphndnkgoinaaGreatDoorTkU
import Derived.Test.YtlfphndnkgoinaaGreatDoorTeX
import Derived.Test.YtlfphndnkgoinaaGreatDoorTeH
import Derived.Test.YtlfphndnkgoinaaGreatDoorMgA
namespace Go.Proofs.YtlfphndnkgoinaaGreatDoor
open Go.RowKit

set_option maxRecDepth 100000 in
set_option maxHeartbeats 8000000 in
theorem siL_yes (w : World) (xs : List Int) (n c : Nat) (A0 : Option Addr) (hs : ∀ (W : World), Below w.heap.size w W → W.heap[w.heap.size]? = some (.cells #[.slice A0 n c, .int .i64 0] 25) → Strm W w.heap.size xs 0) (hT : RkW w) :
    Calls Tryz.prog 3 #[.slice A0 n c] w fun e w' => e = .returned (.bool true) ∧ Below w.heap.size w w' := by
  have HS := Lib.hid hs
  have HT := Lib.hid (fun V (hV : Below w.heap.size w V) => hT.below hV)
  clear hs hT
  go_enter Tryz.func3, Tryz.ntmps3
  go_upto_region 2 with (fail)
  generalize hW : w.alloc (.cells #[.slice A0 n c, .int .i64 0] 25) = w0
  have hsz0 : w.heap.size < w0.heap.size := by rw [← hW]; simp
  have hB0 : Below w.heap.size w w0 := hW ▸ (Below.refl _ _).alloc (Nat.le_refl _) _
  have HST0 := Lib.hid (HS.out w0 hB0 (by rw [← hW]; exact heap_new w _))
  have HB0 := Lib.hid hB0
  clear hW hB0 HS
  obtain ⟨p, ep⟩ : ∃ p, p = w.heap.size := ⟨_, rfl⟩
  have hpw : w.heap.size ≤ p := by omega
  rw [← ep] at HST0 hsz0 ⊢
  clear ep
  have hrk : (⟨#[114, 97]⟩ : ByteArray) = rkT 0 := rfl
  go_wp2_with (fail)
  refine (rightRule_any 0 w0 p 0 xs (by omega) (by omega) HST0.out).mono ?_
  rintro e w1 ⟨r, k1, rfl, hR, hk0, hst1, hk1, hg1⟩
  unfold ruV
  have HR := Lib.hid hR
  have HST1 := Lib.hid hst1
  have HB1 := Lib.hid (HB0.out.grown hg1 HB0.out.size (fun q hq => by cases hq; exact hpw))
  have hsz1 : p < w1.heap.size := Nat.lt_of_lt_of_le hsz0 hg1.size
  clear hst1 hg1 hR hk0 hrk
  go_wp2_with (fail)
  refine (range_nat w1 p k1 7 xs (by omega) (by omega) HST1.out).mono ?_
  have hNl := nextN_lt xs k1 8 (by omega)
  obtain ⟨N, eN⟩ : ∃ N, N = nextN xs k1 8 := ⟨_, rfl⟩
  rw [← eN] at hNl ⊢
  clear eN
  rintro e w2 ⟨rfl, hst2, hg2⟩
  have HST2 := Lib.hid hst2
  have HB2 := Lib.hid (HB1.out.grown hg2 HB1.out.size (fun q hq => by cases hq; exact hpw))
  have hsz2 : p < w2.heap.size := Nat.lt_of_lt_of_le hsz1 hg2.size
  clear hst2 hg2
  go_wp2_with (fail)
  refine (readings_any w2 p (k1 + 1) N xs (by omega) (by omega) HST2.out).mono ?_
  rintro e w3 ⟨l, A, cl, k3, m, rfl, hG3, hlen, hmN, ho, hst3, hk3, hg3⟩
  have HB3 := Lib.hid (HB2.out.grown hg3 HB2.out.size (fun q hq => by cases hq; exact hpw))
  have HST3 := Lib.hid hst3
  have HLN := Lib.hid hlen
  have HGG := Lib.hid hG3
  have HO3 := Lib.hid ho
  have hsz3 : p < w3.heap.size := Nat.lt_of_lt_of_le hsz2 hg3.size
  clear ho hst3 hg3 hlen hG3
  go_wp2_with (fail)
  refine (next_any w3 p k3 xs 200 (by omega) (by omega) HST3.out).mono ?_
  have ht := nextV_range xs k3 200 (by omega)
  obtain ⟨t, et⟩ : ∃ t, t = nextV xs k3 200 := ⟨_, rfl⟩
  rw [← et] at ht ⊢
  clear et
  rintro e w4 ⟨rfl, hst4, hg4⟩
  have HB4 := Lib.hid (HB3.out.grown hg4 HB3.out.size (fun q hq => by cases hq; exact hpw))
  have HRW4 := Lib.hid (own_row (own_kept HO3.out hg4 hsz2))
  clear hst4 hg4 HO3

  go_upto_region 3 with (fail)
  obtain ⟨b, eb⟩ : ∃ b, b = w4.heap.size := ⟨_, rfl⟩
  obtain ⟨w5, e5⟩ : ∃ V : World, V = w4.alloc (.cells #[.string (rkT r.k), .string (meT r.m), .int .i64 r.agg, .int .i64 r.long, .bool r.above, .int .i64 r.on, .int .i64 r.off, .int .i64 r.hold, .int .i64 r.rest, .int .i64 r.empty] 27) := ⟨_, rfl⟩
  have hb45 : Below w4.heap.size w4 w5 := by rw [e5]; exact (Below.refl _ _).alloc (Nat.le_refl _) _
  have hg5 : w5.heap[b]? = some (.cells #[.string (rkT r.k), .string (meT r.m), .int .i64 r.agg, .int .i64 r.long, .bool r.above, .int .i64 r.on, .int .i64 r.off, .int .i64 r.hold, .int .i64 r.rest, .int .i64 r.empty] 27 (0, 0)) := by rw [e5, eb]; exact heap_new w4 _
  have hlt5 : b < w5.heap.size := (Array.getElem?_eq_some_iff.1 hg5).1
  have HB45 := Lib.hid hb45
  have hwb : w4.heap.size ≤ b := by omega
  rw [← eb, ← e5]
  clear eb e5 hb45
  have p5 : w5.cell? ⟨b, 5, none⟩ = some (.int .i64 r.on) := cell_of_blk (j := 5) hg5 rfl
  have p6 : w5.cell? ⟨b, 6, none⟩ = some (.int .i64 r.off) := cell_of_blk (j := 6) hg5 rfl
  have p7 : w5.cell? ⟨b, 7, none⟩ = some (.int .i64 r.hold) := cell_of_blk (j := 7) hg5 rfl
  have p8 : w5.cell? ⟨b, 8, none⟩ = some (.int .i64 r.rest) := cell_of_blk (j := 8) hg5 rfl
  have p9 : w5.cell? ⟨b, 9, none⟩ = some (.int .i64 r.empty) := cell_of_blk (j := 9) hg5 rfl
  have f6 : w5.frozen? ⟨b, 6, none⟩ = false := by simp [World.frozen?, hg5]
  have f7 : w5.frozen? ⟨b, 7, none⟩ = false := by simp [World.frozen?, hg5]
  have f8 : w5.frozen? ⟨b, 8, none⟩ = false := by simp [World.frozen?, hg5]
  have f9 : w5.frozen? ⟨b, 9, none⟩ = false := by simp [World.frozen?, hg5]
  have h1 := heap_setCell_blk (j := 7) (.int .i64 0) hg5
  have h2 := heap_setCell_blk (j := 8) (.int .i64 0) h1
  have h3 := heap_setCell_blk (j := 6) (.int .i64 r.on) h2
  have h4 := heap_setCell_blk (j := 9) (.int .i64 1) h3
  have HX6 := Lib.hid h4
  have HSO := Lib.hid (fun (q : Nat) (hq : q ≠ b) => show ((((w5.setCell ⟨b, 7, none⟩ (.int .i64 0)).setCell ⟨b, 8, none⟩ (.int .i64 0)).setCell ⟨b, 6, none⟩ (.int .i64 r.on)).setCell ⟨b, 9, none⟩ (.int .i64 1)).heap[q]? = w5.heap[q]? from by rw [setc_o _ _ _ _ _ hq, setc_o _ _ _ _ _ hq, setc_o _ _ _ _ _ hq, setc_o _ _ _ _ _ hq])
  clear h1 h2 h3 h4 hg5
  go_upto_region 4 with (fail)
  obtain ⟨w6, e6⟩ : ∃ V : World, V = (((w5.setCell ⟨b, 7, none⟩ (.int .i64 0)).setCell ⟨b, 8, none⟩ (.int .i64 0)).setCell ⟨b, 6, none⟩ (.int .i64 r.on)).setCell ⟨b, 9, none⟩ (.int .i64 1) := ⟨_, rfl⟩
  have hs6 : w6.heap.size = w5.heap.size := by rw [e6]; simp [World.setCell]
  have ho6 : w6.os = w5.os ∧ w6.tape = w5.tape ∧ w6.output = w5.output := by rw [e6]; exact ⟨rfl, rfl, rfl⟩
  rw [← e6] at HX6 HSO ⊢
  obtain ⟨r2, er2⟩ : ∃ z, z = ({ r with hold := 0, rest := 0, off := r.on, empty := 1 } : Ru) := ⟨_, rfl⟩
  have HX := Lib.hid (show w6.heap[b]? = some (.cells #[.string (rkT r2.k), .string (meT r2.m), .int .i64 r2.agg, .int .i64 r2.long, .bool r2.above, .int .i64 r2.on, .int .i64 r2.off, .int .i64 r2.hold, .int .i64 r2.rest, .int .i64 r2.empty] 27 (0, 0)) from by rw [HX6.out, er2]; rfl)
  have HR2 := Lib.hid (show RuR r2 from by
    have h := HR.out
    rw [er2]
    exact ⟨h.k, h.m, h.agg, h.long, h.on, h.on, fun _ => Int.le_refl _, fun _ => Int.le_refl _, ⟨by show (0 : Int) ≤ 0; omega, by show (0 : Int) ≤ _; omega⟩, ⟨by show (0 : Int) ≤ 0; omega, by show (0 : Int) ≤ _; omega⟩, ⟨by show (0 : Int) ≤ 1; omega, by show (1 : Int) ≤ 2; omega⟩⟩)
  have HRS := Lib.hid (show RuS r2 from by rw [er2]; exact ⟨rfl, rfl, rfl, rfl⟩)
  have HB6 := Lib.hid (show Below w.heap.size w w6 from by
    have h := HB4.out.trans (HB45.out.mono HB4.out.size)
    have hs4 := HB4.out.size
    exact ⟨ho6.1.trans h.os, ho6.2.1.trans h.tape, ho6.2.2.trans h.output, by rw [hs6]; exact h.size, fun q hq => (HSO.out q (by omega)).trans (h.block q hq)⟩)
  have HRW6 := Lib.hid (show Row w6 w6.heap.size A (recs teC l) from by
    have h := (HRW4.out.below HB45.out)
    exact (Row.keep h (fun q hq => HSO.out q (by omega))).mono (by rw [hs6]; exact HB45.out.size))
  have hlt6 : b < w6.heap.size := by omega
  clear p5 p6 p7 p8 p9 f6 f7 f8 f9 e6 ho6 HX6 HSO HRW4 er2
  -- the samples
  go_wp2_with (fail)
  refine (samplesFault_any l m cl A w6 HLN.out (by omega) HRW6.out HGG.out).mono ?_
  rintro e w7 ⟨z, rfl, hz, hb7⟩
  have HZ := Lib.hid hz
  have HB7 := Lib.hid (HB6.out.trans (hb7.mono HB6.out.size))
  have HX7 := Lib.hid ((hb7.block b hlt6).trans HX.out)
  have HRW7 := Lib.hid ((HRW6.out.below hb7).mono hb7.size)
  clear hz hb7
  have hlt7 : b < w7.heap.size := (Array.getElem?_eq_some_iff.1 HX7.out).1
  have q2 : w7.cell? ⟨b, 2, none⟩ = some (.int .i64 r2.agg) := cell_of_blk (j := 2) HX7.out rfl
  by_cases hz0 : z = 0
  case neg =>
    have hzb : (z != 0) = true := by simpa using hz0
    have HRD := Lib.hid (ready1_yes w7 (HT.out _ HB7.out))
    go_wp2_with (fail)
    refine HRD.out.mono ?_
    rintro e w8 ⟨rfl, hb8⟩
    have HF := Lib.hid (HB7.out.trans (hb8.mono HB7.out.size))
    clear hb8
    go_wp2_with (fail)
    go_ret
    exact ⟨rfl, HF.out⟩
  subst hz0
  have HOK := Lib.hid (HZ.out rfl)
  by_cases hag : r2.agg = 4
  case pos =>
    have hagb : (r2.agg == 4) = true := by simpa using hag
    have HRD := Lib.hid (ready1_yes w7 (HT.out _ HB7.out))
    clear hag
    go_wp2_with (fail)
    refine HRD.out.mono ?_
    rintro e w8 ⟨rfl, hb8⟩
    have HF := Lib.hid (HB7.out.trans (hb8.mono HB7.out.size))
    clear hb8
    go_wp2_with (fail)
    go_ret
    exact ⟨rfl, HF.out⟩
  have hagb : (r2.agg == 4) = false := by simpa using hag
  clear hag
  clear q2
  have q0 : w7.cell? ⟨b, 0, none⟩ = some (.string (rkT r2.k)) := cell_of_blk (j := 0) HX7.out rfl
  have q1 : w7.cell? ⟨b, 1, none⟩ = some (.string (meT r2.m)) := cell_of_blk (j := 1) HX7.out rfl
  have q2 : w7.cell? ⟨b, 2, none⟩ = some (.int .i64 r2.agg) := cell_of_blk (j := 2) HX7.out rfl
  have q3 : w7.cell? ⟨b, 3, none⟩ = some (.int .i64 r2.long) := cell_of_blk (j := 3) HX7.out rfl
  have q4 : w7.cell? ⟨b, 4, none⟩ = some (.bool r2.above) := cell_of_blk (j := 4) HX7.out rfl
  have q5 : w7.cell? ⟨b, 5, none⟩ = some (.int .i64 r2.on) := cell_of_blk (j := 5) HX7.out rfl
  have q6 : w7.cell? ⟨b, 6, none⟩ = some (.int .i64 r2.off) := cell_of_blk (j := 6) HX7.out rfl
  have q7 : w7.cell? ⟨b, 7, none⟩ = some (.int .i64 r2.hold) := cell_of_blk (j := 7) HX7.out rfl
  have q8 : w7.cell? ⟨b, 8, none⟩ = some (.int .i64 r2.rest) := cell_of_blk (j := 8) HX7.out rfl
  have q9 : w7.cell? ⟨b, 9, none⟩ = some (.int .i64 r2.empty) := cell_of_blk (j := 9) HX7.out rfl
  have HFI := Lib.hid (fires_any r2 l m cl 0 t A w7 HR2.out HOK.out HLN.out (by omega) HRW7.out (by omega) ⟨by omega, by omega⟩)
  have erv : ruV r2 = .agg #[.string (rkT r2.k), .string (meT r2.m), .int .i64 r2.agg, .int .i64 r2.long, .bool r2.above, .int .i64 r2.on, .int .i64 r2.off, .int .i64 r2.hold, .int .i64 r2.rest, .int .i64 r2.empty] := rfl
  have etd : teT 0 = ⟨#[100, 97]⟩ := rfl
  rw [erv, etd] at HFI
  go_upto_region 6 with (fail)
  clear erv etd
  go_wp2_with (fail)
  refine HFI.out.mono ?_
  rintro e w8 ⟨⟨sp, hsp, rfl⟩, hb8⟩
  have HSP := Lib.hid hsp
  obtain ⟨bb, ebb⟩ : ∃ z, z = firesP sp t := ⟨_, rfl⟩
  rw [← ebb]
  have HBB := Lib.hid ebb
  have HB8 := Lib.hid (HB7.out.trans (hb8.mono HB7.out.size))
  have HX8 := Lib.hid ((hb8.block b hlt7).trans HX7.out)
  have HRW8 := Lib.hid ((HRW7.out.below hb8).mono hb8.size)
  clear hsp hb8 ebb HFI q0 q1 q2 q3 q4 q5 q6 q7 q8 q9
  have hlt8 : b < w8.heap.size := (Array.getElem?_eq_some_iff.1 HX8.out).1
  have q0 : w8.cell? ⟨b, 0, none⟩ = some (.string (rkT r2.k)) := cell_of_blk (j := 0) HX8.out rfl
  have q1 : w8.cell? ⟨b, 1, none⟩ = some (.string (meT r2.m)) := cell_of_blk (j := 1) HX8.out rfl
  have q2 : w8.cell? ⟨b, 2, none⟩ = some (.int .i64 r2.agg) := cell_of_blk (j := 2) HX8.out rfl
  have q3 : w8.cell? ⟨b, 3, none⟩ = some (.int .i64 r2.long) := cell_of_blk (j := 3) HX8.out rfl
  have q4 : w8.cell? ⟨b, 4, none⟩ = some (.bool r2.above) := cell_of_blk (j := 4) HX8.out rfl
  have q5 : w8.cell? ⟨b, 5, none⟩ = some (.int .i64 r2.on) := cell_of_blk (j := 5) HX8.out rfl
  have q6 : w8.cell? ⟨b, 6, none⟩ = some (.int .i64 r2.off) := cell_of_blk (j := 6) HX8.out rfl
  have q7 : w8.cell? ⟨b, 7, none⟩ = some (.int .i64 r2.hold) := cell_of_blk (j := 7) HX8.out rfl
  have q8 : w8.cell? ⟨b, 8, none⟩ = some (.int .i64 r2.rest) := cell_of_blk (j := 8) HX8.out rfl
  have q9 : w8.cell? ⟨b, 9, none⟩ = some (.int .i64 r2.empty) := cell_of_blk (j := 9) HX8.out rfl
  have HSI := Lib.hid (state_any r2 l m cl 0 t A w8 HR2.out HOK.out HLN.out (by omega) HRW8.out (by omega) ⟨by omega, by omega⟩)
  have erv : ruV r2 = .agg #[.string (rkT r2.k), .string (meT r2.m), .int .i64 r2.agg, .int .i64 r2.long, .bool r2.above, .int .i64 r2.on, .int .i64 r2.off, .int .i64 r2.hold, .int .i64 r2.rest, .int .i64 r2.empty] := rfl
  have etd : teT 0 = ⟨#[100, 97]⟩ := rfl
  rw [erv, etd] at HSI
  clear erv etd
  go_wp2_with (fail)
  refine HSI.out.mono ?_
  rintro e w9 ⟨⟨st, hst, rfl⟩, hb9⟩
  have HEQ := Lib.hid (show bb = true ↔ st = 1 from by
    rw [HBB.out]
    exact simple_fires HR2.out.t HRS.out (seenL_ok HOK.out r2.m 0) HSP.out (by omega) (by unfold tEnd; omega) hst)
  have HB9 := Lib.hid (HB8.out.trans (hb9.mono HB8.out.size))
  clear hst hb9 HSI q0 q1 q2 q3 q4 q5 q6 q7 q8 q9
  have HRD := Lib.hid (ready1_yes w9 (HT.out _ HB9.out))
  cases bb with
  | true =>
    have h1 : st = 1 := HEQ.out.1 rfl
    subst h1
    go_wp2_with (fail)
    refine HRD.out.mono ?_
    rintro e w10 ⟨rfl, hb10⟩
    have HF := Lib.hid (HB9.out.trans (hb10.mono HB9.out.size))
    clear hb10
    go_wp2_with (fail)
    go_ret
    exact ⟨rfl, HF.out⟩
  | false =>
    have h1 : (st == 1) = false := by
      rw [beq_eq_false_iff_ne]
      intro h
      have := HEQ.out.2 h
      cases this
    go_wp2_with (fail)
    refine HRD.out.mono ?_
    rintro e w10 ⟨rfl, hb10⟩
    have HF := Lib.hid (HB9.out.trans (hb10.mono HB9.out.size))
    clear hb10
    go_wp2_with (fail)
    go_ret
    exact ⟨rfl, HF.out⟩
end Go.Proofs.YtlfphndnkgoinaaGreatDoor
