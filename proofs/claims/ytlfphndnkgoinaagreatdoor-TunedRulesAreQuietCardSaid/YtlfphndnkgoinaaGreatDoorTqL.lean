/- TunedRulesAreQuiet: the law function. Printed by gen_TqL.py. -/
import Derived.Test.YtlfphndnkgoinaaGreatDoorTqB
import Derived.Test.YtlfphndnkgoinaaGreatDoorTeX
import Derived.Test.YtlfphndnkgoinaaGreatDoorTeH
import Derived.Test.YtlfphndnkgoinaaGreatDoorMgA
namespace Go.Proofs.YtlfphndnkgoinaaGreatDoor
open Go.RowKit

def tqPk : List Int := [0, 1, 2]
theorem tqPk_r (i : Nat) (h : i < 3) : ∃ m : Nat, m ≤ 2 ∧ tqPk.getD i 0 = (m : Int) := by
  have h1 : i = 0 ∨ i = 1 ∨ i = 2 := by omega
  rcases h1 with rfl | rfl | rfl
  · exact ⟨0, by omega, rfl⟩
  · exact ⟨1, by omega, rfl⟩
  · exact ⟨2, by omega, rfl⟩
theorem begun_bg (r : Ru) (l : List Te) (f t : Int) (N n c : Nat) (A : Option Addr) (w : World) (hR : RuR r) (hl : TesOk l) (hB : BgOf r l f t N) (hn : l.length = n) (hn2 : n ≤ 1000) (hr : Row w w.heap.size A (recs teC l)) (hf : 0 ≤ f ∧ f ≤ t ∧ t ≤ 345686400000) :
    Calls Tryz.prog 20 #[ruV r, .slice A n c, .agg #[.int .i64 f, .int .i64 t]] w fun e w' => e = .returned (.tuple #[.int .i64 N, .int .i64 0]) ∧ Below w.heap.size w w' := by
  obtain ⟨S, hS, rfl⟩ := hB
  exact begun_any r l S f t n c A w hR hl hS hn hn2 hr hf
set_option maxRecDepth 100000 in
set_option maxHeartbeats 8000000 in
theorem tqL_yes (w : World) (xs : List Int) (n c : Nat) (A0 : Option Addr) (hs : ∀ (W : World), Below w.heap.size w W → W.heap[w.heap.size]? = some (.cells #[.slice A0 n c, .int .i64 0] 25) → Strm W w.heap.size xs 0) (hT : RkW w) :
    Calls Tryz.prog 5 #[.slice A0 n c] w fun e w' => e = .returned (.bool true) ∧ Below w.heap.size w w' := by
  have HS := Lib.hid hs
  have HT := Lib.hid (fun V (hV : Below w.heap.size w V) => hT.below hV)
  clear hs hT
  go_enter Tryz.func5, Tryz.ntmps5
  go_upto_region 2 with (fail)
  generalize hW : w.alloc (.cells #[.slice A0 n c, .int .i64 0] 25) = w0
  have hsz0 : w.heap.size < w0.heap.size := by rw [← hW]; simp
  have hB0 : Below w.heap.size w w0 := hW ▸ (Below.refl _ _).alloc (Nat.le_refl _) _
  have HST0 := Lib.hid (HS.out w0 hB0 (by rw [← hW]; exact heap_new w _))
  have HB0 := Lib.hid hB0
  clear hW hB0 HS
  obtain ⟨p, ep⟩ : ∃ p, p = w.heap.size := ⟨_, rfl⟩
  have hpw : w.heap.size ≤ p := by omega
  rw [← ep] at HST0 hsz0 ⊢
  clear ep
  have hrk : (⟨#[114, 97]⟩ : ByteArray) = rkT 0 := rfl
  go_wp2_with (fail)
  refine (rightRule_near 0 w0 p 0 xs (by omega) (by omega) HST0.out).mono ?_
  rintro e w1 ⟨r, k1, rfl, ⟨hR, hRN⟩, hk0, hst1, hk1, hg1⟩
  unfold ruV
  have HR := Lib.hid hR
  have HRN := Lib.hid hRN
  have HST1 := Lib.hid hst1
  have HB1 := Lib.hid (HB0.out.grown hg1 HB0.out.size (fun q hq => by cases hq; exact hpw))
  have hsz1 : p < w1.heap.size := Nat.lt_of_lt_of_le hsz0 hg1.size
  clear hst1 hg1 hR hRN hk0 hrk
  go_wp2_with (fail)
  refine (range_nat w1 p k1 5 xs (by omega) (by omega) HST1.out).mono ?_
  have hNl := nextN_lt xs k1 6 (by omega)
  obtain ⟨N, eN⟩ : ∃ N, N = nextN xs k1 6 := ⟨_, rfl⟩
  rw [← eN] at hNl ⊢
  clear eN
  rintro e w2 ⟨rfl, hst2, hg2⟩
  have HST2 := Lib.hid hst2
  have HB2 := Lib.hid (HB1.out.grown hg2 HB1.out.size (fun q hq => by cases hq; exact hpw))
  have hsz2 : p < w2.heap.size := Nat.lt_of_lt_of_le hsz1 hg2.size
  clear hst2 hg2
  go_wp2_with (fail)
  refine (readings_any w2 p (k1 + 1) N xs (by omega) (by omega) HST2.out).mono ?_
  rintro e w3 ⟨l, A, cl, k3, m, rfl, hG3, hlen, hmN, ho, hst3, hk3, hg3⟩
  have HB3 := Lib.hid (HB2.out.grown hg3 HB2.out.size (fun q hq => by cases hq; exact hpw))
  have HST3 := Lib.hid hst3
  have HLN := Lib.hid hlen
  have HGG := Lib.hid hG3
  have HO3 := Lib.hid ho
  have hsz3 : p < w3.heap.size := Nat.lt_of_lt_of_le hsz2 hg3.size
  clear ho hst3 hg3 hlen hG3

  go_wp2_with (fail)
  refine (pick_any _ p k3 w3.heap.size 3 3 xs tqPk (by omega) rfl (by omega) (by omega) (HST3.out.alloc _) (by omega) (Cells.new _ _ _ _ _ rfl)).mono ?_
  obtain ⟨mo, hmo, emo⟩ := tqPk_r (nextN xs k3 3) (nextN_lt _ _ _ (by omega))
  rw [emo]
  clear emo
  rintro e w4 ⟨rfl, hst4, hg4⟩
  replace hg4 := grown_of_alloc hg4
  have HB4 := Lib.hid (HB3.out.grown hg4 HB3.out.size (fun q hq => by cases hq; exact hpw))
  have HRW4 := Lib.hid (own_row (own_kept HO3.out hg4 hsz2))
  clear hst4 hg4 HO3
  go_upto_region 3 with (fail)
  obtain ⟨b, eb⟩ : ∃ b, b = w4.heap.size := ⟨_, rfl⟩
  obtain ⟨w5, e5⟩ : ∃ V : World, V = w4.alloc (.cells #[.string (rkT r.k), .string (meT r.m), .int .i64 r.agg, .int .i64 r.long, .bool r.above, .int .i64 r.on, .int .i64 r.off, .int .i64 r.hold, .int .i64 r.rest, .int .i64 r.empty] 27) := ⟨_, rfl⟩
  have hb45 : Below w4.heap.size w4 w5 := by rw [e5]; exact (Below.refl _ _).alloc (Nat.le_refl _) _
  have hg5 : w5.heap[b]? = some (.cells #[.string (rkT r.k), .string (meT r.m), .int .i64 r.agg, .int .i64 r.long, .bool r.above, .int .i64 r.on, .int .i64 r.off, .int .i64 r.hold, .int .i64 r.rest, .int .i64 r.empty] 27 (0, 0)) := by rw [e5, eb]; exact heap_new w4 _
  have hlt5 : b < w5.heap.size := (Array.getElem?_eq_some_iff.1 hg5).1
  have HX5 := Lib.hid hg5
  have HB5 := Lib.hid (HB4.out.trans (hb45.mono HB4.out.size))
  have HRW5 := Lib.hid ((HRW4.out.below hb45).mono hb45.size)
  rw [← eb, ← e5]
  clear eb e5 hb45 hg5 HRW4
  go_wp2_with (fail)
  refine (samplesFault_any l m cl A w5 HLN.out (by omega) HRW5.out HGG.out).mono ?_
  rintro e w6 ⟨z, rfl, hz, hb6⟩
  have HZ := Lib.hid hz
  have HB6 := Lib.hid (HB5.out.trans (hb6.mono HB5.out.size))
  have HX6 := Lib.hid ((hb6.block b hlt5).trans HX5.out)
  have HRW6 := Lib.hid ((HRW5.out.below hb6).mono hb6.size)
  have hlt6 : b < w6.heap.size := by have := hb6.size; omega
  clear hz hb6
  by_cases hz0 : z = 0
  case neg =>
    have hzb : (z != 0) = true := by simpa using hz0
    have HRD := Lib.hid (ready1_yes w6 (HT.out _ HB6.out))
    go_wp2_with (fail)
    refine HRD.out.mono ?_
    rintro e w8 ⟨rfl, hb8⟩
    have HF := Lib.hid (HB6.out.trans (hb8.mono HB6.out.size))
    clear hb8
    go_wp2_with (fail)
    go_ret
    exact ⟨rfl, HF.out⟩
  subst hz0
  have HOK := Lib.hid (HZ.out rfl)
  go_upto_region 6 with (fail)
  obtain ⟨q, eq⟩ : ∃ b, b = w6.heap.size := ⟨_, rfl⟩
  obtain ⟨w7, e7⟩ : ∃ V : World, V = w6.alloc (.cells #[.int .i64 0, .int .i64 400] 48) := ⟨_, rfl⟩
  have hb67 : Below w6.heap.size w6 w7 := by rw [e7]; exact (Below.refl _ _).alloc (Nat.le_refl _) _
  have hq7 : w7.heap[q]? = some (.cells #[.int .i64 0, .int .i64 400] 48 (0, 0)) := by rw [e7, eq]; exact heap_new w6 _
  have hlq7 : q < w7.heap.size := (Array.getElem?_eq_some_iff.1 hq7).1
  have hbq : b ≠ q := by omega
  have HQ7 := Lib.hid hq7
  have HX7 := Lib.hid ((hb67.block b hlt6).trans HX6.out)
  have HB7 := Lib.hid (HB6.out.trans (hb67.mono HB6.out.size))
  have HRW7 := Lib.hid ((HRW6.out.below hb67).mono hb67.size)
  have hlt7 : b < w7.heap.size := by have := hb67.size; omega
  rw [← eq, ← e7]
  clear eq e7 hb67 hq7 HRW6 HX6
  have HTU := Lib.hid (tune_any r l 0 400 mo m cl A w7 HR.out HRN.out HOK.out HLN.out (by omega) HRW7.out (by omega) (by omega))
  have erv : ruV r = .agg #[.string (rkT r.k), .string (meT r.m), .int .i64 r.agg, .int .i64 r.long, .bool r.above, .int .i64 r.on, .int .i64 r.off, .int .i64 r.hold, .int .i64 r.rest, .int .i64 r.empty] := rfl
  rw [erv] at HTU

  have q0 : w7.cell? ⟨b, 0, none⟩ = some (.string (rkT r.k)) := cell_of_blk (j := 0) HX7.out rfl
  have q1 : w7.cell? ⟨b, 1, none⟩ = some (.string (meT r.m)) := cell_of_blk (j := 1) HX7.out rfl
  have q2 : w7.cell? ⟨b, 2, none⟩ = some (.int .i64 r.agg) := cell_of_blk (j := 2) HX7.out rfl
  have q3 : w7.cell? ⟨b, 3, none⟩ = some (.int .i64 r.long) := cell_of_blk (j := 3) HX7.out rfl
  have q4 : w7.cell? ⟨b, 4, none⟩ = some (.bool r.above) := cell_of_blk (j := 4) HX7.out rfl
  have q5 : w7.cell? ⟨b, 5, none⟩ = some (.int .i64 r.on) := cell_of_blk (j := 5) HX7.out rfl
  have q6 : w7.cell? ⟨b, 6, none⟩ = some (.int .i64 r.off) := cell_of_blk (j := 6) HX7.out rfl
  have q7 : w7.cell? ⟨b, 7, none⟩ = some (.int .i64 r.hold) := cell_of_blk (j := 7) HX7.out rfl
  have q8 : w7.cell? ⟨b, 8, none⟩ = some (.int .i64 r.rest) := cell_of_blk (j := 8) HX7.out rfl
  have q9 : w7.cell? ⟨b, 9, none⟩ = some (.int .i64 r.empty) := cell_of_blk (j := 9) HX7.out rfl

  have s0 : w7.cell? ⟨q, 0, none⟩ = some (.int .i64 0) := cell_of_blk (j := 0) HQ7.out rfl
  have s1 : w7.cell? ⟨q, 1, none⟩ = some (.int .i64 400) := cell_of_blk (j := 1) HQ7.out rfl
  have HERV := Lib.hid erv
  clear erv
  go_wp2_with (fail)
  refine HTU.out.mono ?_
  rintro e w8 ⟨hTP, hb8⟩
  obtain ⟨N0, hN0, hcase⟩ := hTP
  have HN0 := Lib.hid hN0
  have HX8 := Lib.hid ((hb8.block b hlt7).trans HX7.out)
  have HQ8 := Lib.hid ((hb8.block q hlq7).trans HQ7.out)
  have HB8 := Lib.hid (HB7.out.trans (hb8.mono HB7.out.size))
  have HRW8 := Lib.hid ((HRW7.out.below hb8).mono hb8.size)
  have hlt8 : b < w8.heap.size := (Array.getElem?_eq_some_iff.1 HX8.out).1
  have hlq8 : q < w8.heap.size := (Array.getElem?_eq_some_iff.1 HQ8.out).1
  clear hb8 HTU HRW7 hN0 s0 s1 q0 q1 q2 q3 q4 q5 q6 q7 q8 q9
  have HBE := Lib.hid (begun_bg r l 0 400 N0 m cl A w8 HR.out HOK.out HN0.out HLN.out (by omega) HRW8.out (by omega))
  rw [HERV.out] at HBE

  have q0 : w8.cell? ⟨b, 0, none⟩ = some (.string (rkT r.k)) := cell_of_blk (j := 0) HX8.out rfl
  have q1 : w8.cell? ⟨b, 1, none⟩ = some (.string (meT r.m)) := cell_of_blk (j := 1) HX8.out rfl
  have q2 : w8.cell? ⟨b, 2, none⟩ = some (.int .i64 r.agg) := cell_of_blk (j := 2) HX8.out rfl
  have q3 : w8.cell? ⟨b, 3, none⟩ = some (.int .i64 r.long) := cell_of_blk (j := 3) HX8.out rfl
  have q4 : w8.cell? ⟨b, 4, none⟩ = some (.bool r.above) := cell_of_blk (j := 4) HX8.out rfl
  have q5 : w8.cell? ⟨b, 5, none⟩ = some (.int .i64 r.on) := cell_of_blk (j := 5) HX8.out rfl
  have q6 : w8.cell? ⟨b, 6, none⟩ = some (.int .i64 r.off) := cell_of_blk (j := 6) HX8.out rfl
  have q7 : w8.cell? ⟨b, 7, none⟩ = some (.int .i64 r.hold) := cell_of_blk (j := 7) HX8.out rfl
  have q8 : w8.cell? ⟨b, 8, none⟩ = some (.int .i64 r.rest) := cell_of_blk (j := 8) HX8.out rfl
  have q9 : w8.cell? ⟨b, 9, none⟩ = some (.int .i64 r.empty) := cell_of_blk (j := 9) HX8.out rfl

  have s0 : w8.cell? ⟨q, 0, none⟩ = some (.int .i64 0) := cell_of_blk (j := 0) HQ8.out rfl
  have s1 : w8.cell? ⟨q, 1, none⟩ = some (.int .i64 400) := cell_of_blk (j := 1) HQ8.out rfl
  rcases hcase with ⟨rfl, hlt0⟩ | ⟨k, N, hk, rfl, hBN, hle, hor⟩
  · go_wp2_with (fail)
    refine HBE.out.mono ?_
    rintro e w9 ⟨rfl, hb9⟩
    have HB9 := Lib.hid (HB8.out.trans (hb9.mono HB8.out.size))
    have hltI : (mo : Int) < N0 := by omega
    have HRD := Lib.hid (ready1_yes w9 (HT.out _ HB9.out))
    clear hb9 HBE s0 s1 q0 q1 q2 q3 q4 q5 q6 q7 q8 q9
    go_wp2_with (fail)
    refine HRD.out.mono ?_
    rintro e w10 ⟨rfl, hb10⟩
    have HF := Lib.hid (HB9.out.trans (hb10.mono HB9.out.size))
    clear hb10
    go_wp2_with (fail)
    go_ret
    exact ⟨rfl, HF.out⟩
  have HBN := Lib.hid hBN
  have HOR := Lib.hid hor
  obtain ⟨on, eon⟩ : ∃ z, z = (shR r k).on := ⟨_, rfl⟩
  rw [← eon]
  have hst1 : -1000 ≤ stR r * (k : Int) ∧ stR r * (k : Int) ≤ 1000 := by unfold stR; split <;> omega
  have hon2 : on = r.on + stR r * (k : Int) := eon
  have hnr := HRN.out
  unfold RuNear at hnr
  have HON := Lib.hid eon
  have HOF := Lib.hid (show (shR r k).off = r.off + on - r.on from by rw [hon2]; show r.off + stR r * (k : Int) = _; omega)
  have hoff1 : IntKind.i64.wrap (r.off + on) = r.off + on := by rw [IntKind.wrap_i64]; omega
  have hoff2 : IntKind.i64.wrap (r.off + on - r.on) = r.off + on - r.on := by rw [IntKind.wrap_i64]; omega
  have HRK := Lib.hid (shR_ok HR.out HRN.out k (by omega))
  clear eon hon2 hst1 hnr hBN hor
  go_wp2_with (fail)
  refine HBE.out.mono ?_
  rintro e w9 ⟨rfl, hb9⟩
  have HX9 := Lib.hid ((hb9.block b hlt8).trans HX8.out)
  have HQ9 := Lib.hid ((hb9.block q hlq8).trans HQ8.out)
  have HB9 := Lib.hid (HB8.out.trans (hb9.mono HB8.out.size))
  have HRW9 := Lib.hid ((HRW8.out.below hb9).mono hb9.size)
  have hlt9 : b < w9.heap.size := (Array.getElem?_eq_some_iff.1 HX9.out).1
  have hlq9 : q < w9.heap.size := (Array.getElem?_eq_some_iff.1 HQ9.out).1
  clear hb9 HBE HRW8 s0 s1 q0 q1 q2 q3 q4 q5 q6 q7 q8 q9

  have q0 : w9.cell? ⟨b, 0, none⟩ = some (.string (rkT r.k)) := cell_of_blk (j := 0) HX9.out rfl
  have q1 : w9.cell? ⟨b, 1, none⟩ = some (.string (meT r.m)) := cell_of_blk (j := 1) HX9.out rfl
  have q2 : w9.cell? ⟨b, 2, none⟩ = some (.int .i64 r.agg) := cell_of_blk (j := 2) HX9.out rfl
  have q3 : w9.cell? ⟨b, 3, none⟩ = some (.int .i64 r.long) := cell_of_blk (j := 3) HX9.out rfl
  have q4 : w9.cell? ⟨b, 4, none⟩ = some (.bool r.above) := cell_of_blk (j := 4) HX9.out rfl
  have q5 : w9.cell? ⟨b, 5, none⟩ = some (.int .i64 r.on) := cell_of_blk (j := 5) HX9.out rfl
  have q6 : w9.cell? ⟨b, 6, none⟩ = some (.int .i64 r.off) := cell_of_blk (j := 6) HX9.out rfl
  have q7 : w9.cell? ⟨b, 7, none⟩ = some (.int .i64 r.hold) := cell_of_blk (j := 7) HX9.out rfl
  have q8 : w9.cell? ⟨b, 8, none⟩ = some (.int .i64 r.rest) := cell_of_blk (j := 8) HX9.out rfl
  have q9 : w9.cell? ⟨b, 9, none⟩ = some (.int .i64 r.empty) := cell_of_blk (j := 9) HX9.out rfl

  go_upto_region 13 with (fail)
  obtain ⟨g, eg⟩ : ∃ b, b = w9.heap.size := ⟨_, rfl⟩
  obtain ⟨w10, e10⟩ : ∃ V : World, V = w9.alloc (.cells #[.string (rkT r.k), .string (meT r.m), .int .i64 r.agg, .int .i64 r.long, .bool r.above, .int .i64 r.on, .int .i64 r.off, .int .i64 r.hold, .int .i64 r.rest, .int .i64 r.empty] 27) := ⟨_, rfl⟩
  have hb910 : Below w9.heap.size w9 w10 := by rw [e10]; exact (Below.refl _ _).alloc (Nat.le_refl _) _
  have hg10 : w10.heap[g]? = some (.cells #[.string (rkT r.k), .string (meT r.m), .int .i64 r.agg, .int .i64 r.long, .bool r.above, .int .i64 r.on, .int .i64 r.off, .int .i64 r.hold, .int .i64 r.rest, .int .i64 r.empty] 27 (0, 0)) := by rw [e10, eg]; exact heap_new w9 _
  have hlg10 : g < w10.heap.size := (Array.getElem?_eq_some_iff.1 hg10).1
  have hgb : g ≠ b := by omega
  have hgq : g ≠ q := by omega
  have hwg : w.heap.size ≤ g := by have := HB9.out.size; omega
  have hg9 : w9.heap.size ≤ g := by omega
  have HX10 := Lib.hid ((hb910.block b hlt9).trans HX9.out)
  have HQ10 := Lib.hid ((hb910.block q hlq9).trans HQ9.out)
  have HB10 := Lib.hid (HB9.out.trans (hb910.mono HB9.out.size))
  have HRW10 := Lib.hid (HRW9.out.below hb910)
  rw [← eg, ← e10]
  clear eg e10 q0 q1 q2 q3 q4 q5 q6 q7 q8 q9
  have hlt10 : b < w10.heap.size := (Array.getElem?_eq_some_iff.1 HX10.out).1
  have hs910 := hb910.size
  clear hb910
  have q5 : w10.cell? ⟨b, 5, none⟩ = some (.int .i64 r.on) := cell_of_blk (j := 5) HX10.out rfl
  have q6 : w10.cell? ⟨b, 6, none⟩ = some (.int .i64 r.off) := cell_of_blk (j := 6) HX10.out rfl
  have u5 : w10.cell? ⟨g, 5, none⟩ = some (.int .i64 r.on) := cell_of_blk (j := 5) hg10 rfl
  have u6 : w10.cell? ⟨g, 6, none⟩ = some (.int .i64 r.off) := cell_of_blk (j := 6) hg10 rfl
  have f5 : w10.frozen? ⟨g, 5, none⟩ = false := by simp [World.frozen?, hg10]
  have f6 : w10.frozen? ⟨g, 6, none⟩ = false := by simp [World.frozen?, hg10]
  have h1 := heap_setCell_blk (j := 6) (.int .i64 (r.off + on - r.on)) hg10
  have h2 := heap_setCell_blk (j := 5) (.int .i64 on) h1
  have HG11 := Lib.hid h2
  clear h1 h2 hg10
  go_upto_region 14 with (fail)
  obtain ⟨w11, e11⟩ : ∃ V : World, V = (w10.setCell ⟨g, 6, none⟩ (.int .i64 (r.off + on - r.on))).setCell ⟨g, 5, none⟩ (.int .i64 on) := ⟨_, rfl⟩
  have hs11 : w11.heap.size = w10.heap.size := by rw [e11]; simp [World.setCell]
  have hset : ∀ x, x ≠ g → w11.heap[x]? = w10.heap[x]? := fun x hx => by rw [e11, setc_o _ _ _ _ _ hx, setc_o _ _ _ _ _ hx]
  have ho11 : w11.os = w10.os ∧ w11.tape = w10.tape ∧ w11.output = w10.output := by rw [e11]; exact ⟨rfl, rfl, rfl⟩
  rw [← e11] at HG11 ⊢
  clear e11 u5 u6 f5 f6 q5 q6
  obtain ⟨t, et⟩ : ∃ z, z = shR r k := ⟨_, rfl⟩
  have HET := Lib.hid et
  have HGT := Lib.hid (show w11.heap[g]? = some (.cells #[.string (rkT t.k), .string (meT t.m), .int .i64 t.agg, .int .i64 t.long, .bool t.above, .int .i64 t.on, .int .i64 t.off, .int .i64 t.hold, .int .i64 t.rest, .int .i64 t.empty] 27 (0, 0)) from by
    rw [HG11.out, et, HOF.out, ← HON.out]; rfl)
  have HX11 := Lib.hid ((hset b (Ne.symm hgb)).trans HX10.out)
  have HQ11 := Lib.hid ((hset q (Ne.symm hgq)).trans HQ10.out)
  have HB11 := Lib.hid (show Below w.heap.size w w11 from ⟨ho11.1.trans HB10.out.os, ho11.2.1.trans HB10.out.tape, ho11.2.2.trans HB10.out.output, by rw [hs11]; exact HB10.out.size, fun x hx => (hset x (by omega)).trans (HB10.out.block x hx)⟩)
  have HRW11 := Lib.hid (show Row w11 w11.heap.size A (recs teC l) from (Row.keep HRW10.out (fun x hx => hset x (by omega))).mono (by omega))
  have hlt11 : b < w11.heap.size := by omega
  have hlq11 : q < w11.heap.size := (Array.getElem?_eq_some_iff.1 HQ11.out).1
  have hlg11 : g < w11.heap.size := by omega
  rw [← et] at HRK HBN
  clear et hset ho11 HRW10 HG11
  have HBE := Lib.hid (begun_bg t l 0 400 N m cl A w11 HRK.out HOK.out HBN.out HLN.out (by omega) HRW11.out (by omega))
  have erv2 : ruV t = .agg #[.string (rkT t.k), .string (meT t.m), .int .i64 t.agg, .int .i64 t.long, .bool t.above, .int .i64 t.on, .int .i64 t.off, .int .i64 t.hold, .int .i64 t.rest, .int .i64 t.empty] := rfl
  rw [erv2] at HBE
  clear erv2

  have q0 : w11.cell? ⟨g, 0, none⟩ = some (.string (rkT t.k)) := cell_of_blk (j := 0) HGT.out rfl
  have q1 : w11.cell? ⟨g, 1, none⟩ = some (.string (meT t.m)) := cell_of_blk (j := 1) HGT.out rfl
  have q2 : w11.cell? ⟨g, 2, none⟩ = some (.int .i64 t.agg) := cell_of_blk (j := 2) HGT.out rfl
  have q3 : w11.cell? ⟨g, 3, none⟩ = some (.int .i64 t.long) := cell_of_blk (j := 3) HGT.out rfl
  have q4 : w11.cell? ⟨g, 4, none⟩ = some (.bool t.above) := cell_of_blk (j := 4) HGT.out rfl
  have q5 : w11.cell? ⟨g, 5, none⟩ = some (.int .i64 t.on) := cell_of_blk (j := 5) HGT.out rfl
  have q6 : w11.cell? ⟨g, 6, none⟩ = some (.int .i64 t.off) := cell_of_blk (j := 6) HGT.out rfl
  have q7 : w11.cell? ⟨g, 7, none⟩ = some (.int .i64 t.hold) := cell_of_blk (j := 7) HGT.out rfl
  have q8 : w11.cell? ⟨g, 8, none⟩ = some (.int .i64 t.rest) := cell_of_blk (j := 8) HGT.out rfl
  have q9 : w11.cell? ⟨g, 9, none⟩ = some (.int .i64 t.empty) := cell_of_blk (j := 9) HGT.out rfl

  have s0 : w11.cell? ⟨q, 0, none⟩ = some (.int .i64 0) := cell_of_blk (j := 0) HQ11.out rfl
  have s1 : w11.cell? ⟨q, 1, none⟩ = some (.int .i64 400) := cell_of_blk (j := 1) HQ11.out rfl
  go_wp2_with (fail)
  refine HBE.out.mono ?_
  rintro e w12 ⟨rfl, hb12⟩
  have HX12 := Lib.hid ((hb12.block b hlt11).trans HX11.out)
  have HB12 := Lib.hid (HB11.out.trans (hb12.mono HB11.out.size))
  have hlt12 : b < w12.heap.size := (Array.getElem?_eq_some_iff.1 HX12.out).1
  clear hb12 HBE s0 s1 q0 q1 q2 q3 q4 q5 q6 q7 q8 q9
  have q5 : w12.cell? ⟨b, 5, none⟩ = some (.int .i64 r.on) := cell_of_blk (j := 5) HX12.out rfl
  have hleI : (N : Int) ≤ mo := by omega
  have HRD := Lib.hid (ready1_yes w12 (HT.out _ HB12.out))
  by_cases hmm : mo < N0
  · have hmmI : (mo : Int) < N0 := by omega
    go_wp2_with (fail)
    refine HRD.out.mono ?_
    rintro e w13 ⟨rfl, hb13⟩
    have HF := Lib.hid (HB12.out.trans (hb13.mono HB12.out.size))
    clear hb13
    go_wp2_with (fail)
    go_ret
    exact ⟨rfl, HF.out⟩
  · have hmmI : ¬ (mo : Int) < N0 := by omega
    have hk0 : k = 0 := HOR.out.resolve_left hmm
    have hono : on = r.on := by rw [HON.out, hk0, shR_zero]
    have honb : (on == r.on) = true := by simpa using hono
    clear hono hk0
    go_wp2_with (fail)
    refine HRD.out.mono ?_
    rintro e w13 ⟨rfl, hb13⟩
    have HF := Lib.hid (HB12.out.trans (hb13.mono HB12.out.size))
    clear hb13
    go_wp2_with (fail)
    go_ret
    exact ⟨rfl, HF.out⟩
end Go.Proofs.YtlfphndnkgoinaaGreatDoor
