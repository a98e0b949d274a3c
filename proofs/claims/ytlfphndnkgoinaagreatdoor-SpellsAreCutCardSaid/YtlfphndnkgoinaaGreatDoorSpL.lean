/- SpellsAreCut: the law function. Printed by gen_SpL.py. -/
import Derived.Test.YtlfphndnkgoinaaGreatDoorTqB
import Derived.Test.YtlfphndnkgoinaaGreatDoorTkU
import Derived.Test.YtlfphndnkgoinaaGreatDoorTeX
import Derived.Test.YtlfphndnkgoinaaGreatDoorTeH
import Derived.Test.YtlfphndnkgoinaaGreatDoorSpA
import Derived.Test.YtlfphndnkgoinaaGreatDoorSpD
import Derived.Test.YtlfphndnkgoinaaGreatDoorMgA
namespace Go.Proofs.YtlfphndnkgoinaaGreatDoor
open Go.RowKit

theorem whL_dev (S : Nat → List (Int × Int)) (ds : List Nat) (h : ∀ d ∈ ds, d < 2) : ∀ y ∈ whL S ds, y.1 < 2 := by
  intro y hy
  obtain ⟨d, hd, hy⟩ := List.mem_flatMap.1 hy
  obtain ⟨s, _, rfl⟩ := List.mem_map.1 hy
  exact h d hd
def spPk : List Int := [10, 40, 90]
theorem spPk_r (i : Nat) (h : i < 3) : ∃ m : Int, 0 < m ∧ m ≤ 90 ∧ spPk.getD i 0 = m := by
  have h1 : i = 0 ∨ i = 1 ∨ i = 2 := by omega
  rcases h1 with rfl | rfl | rfl
  · exact ⟨10, by omega, by omega, rfl⟩
  · exact ⟨40, by omega, by omega, rfl⟩
  · exact ⟨90, by omega, by omega, rfl⟩
set_option maxRecDepth 100000 in
set_option maxHeartbeats 8000000 in
theorem spL_yes (w : World) (xs : List Int) (n c : Nat) (A0 : Option Addr) (hs : ∀ (W : World), Below w.heap.size w W → W.heap[w.heap.size]? = some (.cells #[.slice A0 n c, .int .i64 0] 25) → Strm W w.heap.size xs 0) (hT : RkW w) :
    Calls Tryz.prog 6 #[.slice A0 n c] w fun e w' => e = .returned (.bool true) ∧ Below w.heap.size w w' := by
  have HS := Lib.hid hs
  have HT := Lib.hid (fun V (hV : Below w.heap.size w V) => hT.below hV)
  clear hs hT
  go_enter Tryz.func6, Tryz.ntmps6
  go_upto_region 2 with (fail)
  generalize hW : w.alloc (.cells #[.slice A0 n c, .int .i64 0] 25) = w0
  have hsz0 : w.heap.size < w0.heap.size := by rw [← hW]; simp
  have hB0 : Below w.heap.size w w0 := hW ▸ (Below.refl _ _).alloc (Nat.le_refl _) _
  have HST0 := Lib.hid (HS.out w0 hB0 (by rw [← hW]; exact heap_new w _))
  have HB0 := Lib.hid hB0
  clear hW hB0 HS
  obtain ⟨p, ep⟩ : ∃ p, p = w.heap.size := ⟨_, rfl⟩
  have hpw : w.heap.size ≤ p := by omega
  rw [← ep] at HST0 hsz0 ⊢
  clear ep
  have hrk : (⟨#[114, 97]⟩ : ByteArray) = rkT 0 := rfl
  go_wp2_with (fail)
  refine (rightRule_any 0 w0 p 0 xs (by omega) (by omega) HST0.out).mono ?_
  rintro e w1 ⟨r, k1, rfl, hR, hk0, hst1, hk1, hg1⟩
  unfold ruV
  have HR := Lib.hid hR
  have HST1 := Lib.hid hst1
  have HB1 := Lib.hid (HB0.out.grown hg1 HB0.out.size (fun q hq => by cases hq; exact hpw))
  have hsz1 : p < w1.heap.size := Nat.lt_of_lt_of_le hsz0 hg1.size
  clear hst1 hg1 hR hk0 hrk

  go_wp2_with (fail)
  obtain ⟨gR, egR⟩ : ∃ b, b = w1.heap.size := ⟨_, rfl⟩
  obtain ⟨w1a, e1a⟩ : ∃ V : World, V = w1.alloc (.cells #[.string (rkT r.k), .string (meT r.m), .int .i64 r.agg, .int .i64 r.long, .bool r.above, .int .i64 r.on, .int .i64 r.off, .int .i64 r.hold, .int .i64 r.rest, .int .i64 r.empty] 27) := ⟨_, rfl⟩
  have hb1a : Below w1.heap.size w1 w1a := by rw [e1a]; exact (Below.refl _ _).alloc (Nat.le_refl _) _
  have hgR1 : w1a.heap[gR]? = some (.cells (ruC r).toArray 27 (0, 0)) := by rw [e1a, egR]; exact heap_new w1 _
  have hlR1 : gR < w1a.heap.size := (Array.getElem?_eq_some_iff.1 hgR1).1
  have hpR : gR ≠ p := by omega
  have HST1a := Lib.hid (HST1.out.below hb1a)
  have HB1a := Lib.hid (HB1.out.trans (hb1a.mono HB1.out.size))
  have HR1 := Lib.hid hgR1
  have hsz1a : p < w1a.heap.size := Nat.lt_of_lt_of_le hsz1 hb1a.size
  rw [← egR, ← e1a]
  clear egR e1a hb1a hgR1
  refine (range_nat w1a p k1 6 xs (by omega) (by omega) HST1a.out).mono ?_
  have hNl := nextN_lt xs k1 7 (by omega)
  obtain ⟨N, eN⟩ : ∃ N, N = nextN xs k1 7 := ⟨_, rfl⟩
  rw [← eN] at hNl ⊢
  clear eN
  rintro e w2 ⟨rfl, hst2, hg2⟩
  have HST2 := Lib.hid hst2
  have HB2 := Lib.hid (HB1a.out.grown hg2 HB1a.out.size (fun q hq => by cases hq; exact hpw))
  have HR2 := Lib.hid ((hg2.block gR hlR1 (by intro h; exact hpR (Option.some.inj h))).trans HR1.out)
  have hlR2 : gR < w2.heap.size := Nat.lt_of_lt_of_le hlR1 hg2.size
  have hsz2 : p < w2.heap.size := Nat.lt_of_lt_of_le hsz1a hg2.size
  clear hst2 hg2
  go_wp2_with (fail)
  refine (readings_any w2 p (k1 + 1) N xs (by omega) (by omega) HST2.out).mono ?_
  rintro e w3 ⟨l, A, cl, k3, m, rfl, hG3, hlen, hmN, ho, hst3, hk3, hg3⟩
  have HB3 := Lib.hid (HB2.out.grown hg3 HB2.out.size (fun q hq => by cases hq; exact hpw))
  have HR3 := Lib.hid ((hg3.block gR hlR2 (by intro h; exact hpR (Option.some.inj h))).trans HR2.out)
  have hlR3 : gR < w3.heap.size := Nat.lt_of_lt_of_le hlR2 hg3.size
  have HST3 := Lib.hid hst3
  have HLN := Lib.hid hlen
  have HGG := Lib.hid hG3
  have HO3 := Lib.hid ho
  have hsz3 : p < w3.heap.size := Nat.lt_of_lt_of_le hsz2 hg3.size
  clear ho hst3 hg3 hlen hG3
  go_upto_region 3 with (fail)
  obtain ⟨gr, egr⟩ : ∃ b, b = w3.heap.size := ⟨_, rfl⟩
  obtain ⟨w4, e4⟩ : ∃ V : World, V = w3.alloc (.cells #[.slice (some ⟨gR, 0, none⟩) 1 1] 51) := ⟨_, rfl⟩
  have hb4 : Below w3.heap.size w3 w4 := by rw [e4]; exact (Below.refl _ _).alloc (Nat.le_refl _) _
  have hg4 : w4.heap[gr]? = some (.cells #[.slice (some ⟨gR, 0, none⟩) 1 1] 51 (0, 0)) := by rw [e4, egr]; exact heap_new w3 _
  have hlr4 : gr < w4.heap.size := (Array.getElem?_eq_some_iff.1 hg4).1
  have hpr : gr ≠ p := by omega
  have hwr : w.heap.size ≤ gr := by have := HB3.out.size; omega
  have HST4 := Lib.hid (HST3.out.below hb4)
  have HB4 := Lib.hid (HB3.out.trans (hb4.mono HB3.out.size))
  have HR4 := Lib.hid ((hb4.block gR hlR3).trans HR3.out)
  have HX4 := Lib.hid hg4
  have hsz4 : p < w4.heap.size := Nat.lt_of_lt_of_le hsz3 hb4.size
  have hlR4 : gR < w4.heap.size := Nat.lt_of_lt_of_le hlR3 hb4.size
  have HO4 := Lib.hid (own_below HO3.out hb4)
  rw [← egr, ← e4]
  clear egr e4 hb4 hg4 HO3 hsz3
  go_wp2_with (fail)
  refine (samplesFault_any l m cl A w4 HLN.out (by omega) (own_row HO4.out) HGG.out).mono ?_
  rintro e w5 ⟨z, rfl, hz, hb5⟩
  have HZ := Lib.hid hz
  have HB5 := Lib.hid (HB4.out.trans (hb5.mono HB4.out.size))
  have HO5 := Lib.hid (own_below HO4.out hb5)
  have HST5 := Lib.hid (HST4.out.below hb5)
  have HR5 := Lib.hid ((hb5.block gR hlR4).trans HR4.out)
  have HX5 := Lib.hid ((hb5.block gr hlr4).trans HX4.out)
  have hsz5 : p < w5.heap.size := Nat.lt_of_lt_of_le hsz4 hb5.size
  have hlR5 : gR < w5.heap.size := Nat.lt_of_lt_of_le hlR4 hb5.size
  have hlr5 : gr < w5.heap.size := Nat.lt_of_lt_of_le hlr4 hb5.size
  clear hz hb5
  by_cases hz0 : z = 0
  case neg =>
    have hzb : (z != 0) = true := by simpa using hz0
    have HRD := Lib.hid (ready1_yes w5 (HT.out _ HB5.out))
    go_wp2_with (fail)
    refine HRD.out.mono ?_
    rintro e w8 ⟨rfl, hb8⟩
    have HF := Lib.hid (HB5.out.trans (hb8.mono HB5.out.size))
    clear hb8
    go_wp2_with (fail)
    go_ret
    exact ⟨rfl, HF.out⟩
  subst hz0
  have HOK := Lib.hid (HZ.out rfl)
  obtain ⟨S, hS⟩ := spans_total HR.out.t l
  have HSS := Lib.hid hS
  have HLW := Lib.hid (show (whL S (dvs l r.m)).length ≤ 800000000000 from by
    have := whL_len S (dvs l r.m) 400000000000 (fun d hd => spOf_len HR.out (seenL_ok HOK.out r.m d) (hS d ((dvs_two l r.m).1 d hd)))
    have := (dvs_two l r.m).2
    omega)
  clear hS
  go_wp2_with (fail)
  refine (pick_any _ p k3 w5.heap.size 3 3 xs spPk (by omega) rfl (by omega) (by omega) (HST5.out.alloc _) (by omega) (Cells.new _ _ _ _ _ rfl)).mono ?_
  obtain ⟨mid, hmid0, hmid1, emid⟩ := spPk_r (nextN xs k3 3) (nextN_lt _ _ _ (by omega))
  rw [emid]
  clear emid
  rintro e w6 ⟨rfl, hst6, hg6⟩
  replace hg6 := grown_of_alloc hg6
  have HST6 := Lib.hid hst6
  have HB6 := Lib.hid (HB5.out.grown hg6 HB5.out.size (fun q hq => by cases hq; exact hpw))
  have HR6 := Lib.hid ((hg6.block gR hlR5 (by intro h; exact hpR (Option.some.inj h))).trans HR5.out)
  have HX6 := Lib.hid ((hg6.block gr hlr5 (by intro h; exact hpr (Option.some.inj h))).trans HX5.out)
  have HO6 := Lib.hid (own_kept HO5.out hg6 hsz2)
  have hsz6 : p < w6.heap.size := Nat.lt_of_lt_of_le hsz5 hg6.size
  have hlR6 : gR < w6.heap.size := Nat.lt_of_lt_of_le hlR5 hg6.size
  have hlr6 : gr < w6.heap.size := Nat.lt_of_lt_of_le hlr5 hg6.size
  clear hst6 hg6
  go_wp2_with (fail)
  refine (next_any w6 p (k3 + 1) xs 200 (by omega) (by omega) HST6.out).mono ?_
  have ht := nextV_range xs (k3 + 1) 200 (by omega)
  obtain ⟨t, et⟩ : ∃ t, t = nextV xs (k3 + 1) 200 := ⟨_, rfl⟩
  rw [← et] at ht ⊢
  clear et
  rintro e w7 ⟨rfl, hst7, hg7⟩
  have HB7 := Lib.hid (HB6.out.grown hg7 HB6.out.size (fun q hq => by cases hq; exact hpw))
  have HR7 := Lib.hid ((hg7.block gR hlR6 (by intro h; exact hpR (Option.some.inj h))).trans HR6.out)
  have HX7 := Lib.hid ((hg7.block gr hlr6 (by intro h; exact hpr (Option.some.inj h))).trans HX6.out)
  have HO7 := Lib.hid (own_kept HO6.out hg7 hsz2)
  have hlR7 : gR < w7.heap.size := Nat.lt_of_lt_of_le hlR6 hg7.size
  have hlr7 : gr < w7.heap.size := Nat.lt_of_lt_of_le hlr6 hg7.size
  clear hst7 hg7 HST6 HST5 HST4 HST3 HST2 HST1a HST1
  go_upto_region 6 with (fail)
  obtain ⟨gt, egt⟩ : ∃ b, b = w7.heap.size := ⟨_, rfl⟩
  obtain ⟨w8, e8⟩ : ∃ V : World, V = w7.alloc (.cells #[.int .i64 t] 3) := ⟨_, rfl⟩
  have hb8 : Below w7.heap.size w7 w8 := by rw [e8]; exact (Below.refl _ _).alloc (Nat.le_refl _) _
  have hg8 : w8.heap[gt]? = some (.cells #[.int .i64 t] 3 (0, 0)) := by rw [e8, egt]; exact heap_new w7 _
  have HBW := Lib.hid (HB7.out.trans (hb8.mono HB7.out.size))
  have HRW8 := Lib.hid (own_row (own_below HO7.out hb8))
  have HK := Lib.hid (fun (V : World) (hV : Below w8.heap.size w8 V) => show V.heap[gR]? = some (.cells (ruC r).toArray 27 (0, 0)) ∧ V.heap[gr]? = some (.cells #[.slice (some ⟨gR, 0, none⟩) 1 1] 51 (0, 0)) ∧ V.heap[gt]? = some (.cells #[.int .i64 t] 3 (0, 0)) ∧ Row V V.heap.size A (recs teC l) from
    ⟨(hV.block gR (Nat.lt_of_lt_of_le hlR7 hb8.size)).trans ((hb8.block gR hlR7).trans HR7.out), (hV.block gr (Nat.lt_of_lt_of_le hlr7 hb8.size)).trans ((hb8.block gr hlr7).trans HX7.out), (hV.block gt (Array.getElem?_eq_some_iff.1 hg8).1).trans hg8, (HRW8.out.below hV).mono hV.size⟩)
  have hlR8 : gR < w8.heap.size := Nat.lt_of_lt_of_le hlR7 hb8.size
  have hlr8 : gr < w8.heap.size := Nat.lt_of_lt_of_le hlr7 hb8.size
  have hlt8 : gt < w8.heap.size := (Array.getElem?_eq_some_iff.1 hg8).1
  rw [← egt, ← e8]
  clear egt e8 hb8 hg8 HR7 HX7 HO7 HR6 HX6 HO6 HR5 HX5 HO5 HR4 HX4 HO4 HR3 HR2 HR1 hlR1 hlR2 hlR3 hlR4 hlR5 hlR6 hlR7 hlr4 hlr5 hlr6 hlr7 hsz6 hsz5 hsz4 hsz2 hsz1 hsz1a hsz0
  obtain ⟨k1R, k1r, k1t, k1w⟩ := HK.out w8 (Below.refl _ _)
  have c0 : w8.cell? ⟨gr, 0, none⟩ = some (.slice (some ⟨gR, 0, none⟩) 1 1) := cell_of_blk (j := 0) k1r rfl
  have HSP := Lib.hid (spells_any r l S 0 mid gR m cl A w8 HR.out k1R HOK.out HSS.out HLN.out (by omega) k1w ⟨by omega, by omega, by omega⟩)
  clear k1R k1r k1t k1w
  go_wp2_with (fail)
  refine HSP.out.mono ?_
  rintro e w9 ⟨A1, n1, c1, L1, rfl, hn1, hp1, ho1, hb1⟩
  have HL1 := Lib.hid (And.intro hn1 hp1)
  have HO1 := Lib.hid ho1
  have HN1 := Lib.hid hb1
  clear hn1 hp1 ho1 hb1 HSP c0
  have HB9 := Lib.hid HN1.out
  obtain ⟨k2R, k2r, k2t, k2w⟩ := HK.out w9 HB9.out
  have c0 : w9.cell? ⟨gr, 0, none⟩ = some (.slice (some ⟨gR, 0, none⟩) 1 1) := cell_of_blk (j := 0) k2r rfl
  have HSP := Lib.hid (spells_any r l S mid 200 gR m cl A w9 HR.out k2R HOK.out HSS.out HLN.out (by omega) k2w ⟨by omega, by omega, by omega⟩)
  clear k2R k2r k2t k2w
  go_wp2_with (fail)
  refine HSP.out.mono ?_
  rintro e w10 ⟨A2, n2, c2, L2, rfl, hn2, hp2, ho2, hb2⟩
  have HL2 := Lib.hid (And.intro hn2 hp2)
  have HO2 := Lib.hid ho2
  have HN2 := Lib.hid hb2
  clear hn2 hp2 ho2 hb2 HSP c0
  have HB10 := Lib.hid (HB9.out.trans (HN2.out.mono HB9.out.size))
  obtain ⟨k3R, k3r, k3t, k3w⟩ := HK.out w10 HB10.out
  have c0 : w10.cell? ⟨gr, 0, none⟩ = some (.slice (some ⟨gR, 0, none⟩) 1 1) := cell_of_blk (j := 0) k3r rfl
  have HSP := Lib.hid (spells_any r l S 0 200 gR m cl A w10 HR.out k3R HOK.out HSS.out HLN.out (by omega) k3w ⟨by omega, by omega, by omega⟩)
  clear k3R k3r k3t k3w
  go_wp2_with (fail)
  refine HSP.out.mono ?_
  rintro e w11 ⟨A3, n3, c3, L3, rfl, hn3, hp3, ho3, hb3⟩
  have HL3 := Lib.hid (And.intro hn3 hp3)
  have HO3 := Lib.hid ho3
  have HN3 := Lib.hid hb3
  clear hn3 hp3 ho3 hb3 HSP c0
  have HB11 := Lib.hid (HB10.out.trans (HN3.out.mono HB10.out.size))
  have HRO1 := Lib.hid (own_row (own_below (own_below HO1.out HN2.out) HN3.out))
  have HRO2 := Lib.hid (own_row (own_below HO2.out HN3.out))
  have HRO3 := Lib.hid (own_row HO3.out)
  have hq1 : n1 ≤ 800000000000 := by rw [HL1.out.1, HL1.out.2.length_eq]; exact Nat.le_trans (cuL_len _ _ _) HLW.out
  have hq2 : n2 ≤ 800000000000 := by rw [HL2.out.1, HL2.out.2.length_eq]; exact Nat.le_trans (cuL_len _ _ _) HLW.out
  have hq3 : n3 ≤ 800000000000 := by rw [HL3.out.1, HL3.out.2.length_eq]; exact Nat.le_trans (cuL_len _ _ _) HLW.out
  have HI1 := Lib.hid (show ∀ x ∈ L1, 0 ≤ x.2.1 ∧ x.2.1 < x.2.2 ∧ x.2.2 ≤ 200 from fun x hx => by have := cuL_in 0 mid _ x (HL1.out.2.mem_iff.1 hx); omega)
  have HI2 := Lib.hid (show ∀ x ∈ L2, 0 ≤ x.2.1 ∧ x.2.1 < x.2.2 ∧ x.2.2 ≤ 200 from fun x hx => by have := cuL_in mid 200 _ x (HL2.out.2.mem_iff.1 hx); omega)
  have HI3 := Lib.hid (show ∀ x ∈ L3, 0 ≤ x.2.1 ∧ x.2.1 < x.2.2 ∧ x.2.2 ≤ 200 from fun x hx => by have := cuL_in 0 200 _ x (HL3.out.2.mem_iff.1 hx); omega)
  have hs1 := sumS_bound L1 HI1.out
  have hs2 := sumS_bound L2 HI2.out
  have hs3 : sumS L1 + sumS L2 = sumS L3 := by rw [sumS_perm HL1.out.2, sumS_perm HL2.out.2, sumS_perm HL3.out.2]; exact sumS_cut mid (by omega) (by omega) _
  rw [← HL1.out.1] at hs1
  rw [← HL2.out.1] at hs2
  have HSU1 := Lib.hid (sumCl_any r.k L1 n1 c1 A1 w11 HL1.out.1.symm hq1 HI1.out HRO1.out)
  have HSU2 := Lib.hid (fun (V : World) (hV : Below w11.heap.size w11 V) => sumCl_any r.k L2 n2 c2 A2 V HL2.out.1.symm hq2 HI2.out ((HRO2.out.below hV).mono hV.size))
  have HSU3 := Lib.hid (fun (V : World) (hV : Below w11.heap.size w11 V) => sumCl_any r.k L3 n3 c3 A3 V HL3.out.1.symm hq3 HI3.out ((HRO3.out.below hV).mono hV.size))
  obtain ⟨s1, es1⟩ : ∃ z, z = sumS L1 := ⟨_, rfl⟩
  obtain ⟨s2, es2⟩ : ∃ z, z = sumS L2 := ⟨_, rfl⟩
  obtain ⟨s3, es3⟩ : ∃ z, z = sumS L3 := ⟨_, rfl⟩
  rw [← es1] at hs1 hs3 HSU1
  rw [← es2] at hs2 hs3 HSU2
  rw [← es3] at hs3 HSU3
  have hwa : IntKind.i64.wrap (s1 + s2) = s3 := by rw [IntKind.wrap_i64]; omega
  have HWA := Lib.hid hs3
  clear es1 es2 es3 hs1 hs2 hs3 HI1 HI2 HI3 HN1 HN2 HN3 HO1 HO2 HO3
  go_wp2_with (fail)
  refine HSU1.out.mono ?_
  rintro e w12 ⟨rfl, hb12⟩
  have HB12 := Lib.hid hb12
  have HS2 := Lib.hid (HSU2.out w12 hb12)
  clear hb12
  go_wp2_with (fail)
  refine HS2.out.mono ?_
  rintro e w13 ⟨rfl, hb13⟩
  have HB13 := Lib.hid (HB12.out.trans (hb13.mono HB12.out.size))
  have HS3 := Lib.hid (HSU3.out w13 HB13.out)
  clear hb13
  go_wp2_with (fail)
  refine HS3.out.mono ?_
  rintro e w14 ⟨rfl, hb14⟩
  have HB14 := Lib.hid (HB13.out.trans (hb14.mono HB13.out.size))
  clear hb14 HSU1 HSU2 HSU3 HS2 HS3
  go_upto_region 14 with (fail)
  obtain ⟨gs, egs⟩ : ∃ b, b = w14.heap.size := ⟨_, rfl⟩
  go_wp2_with (fail)
  obtain ⟨w15, e15⟩ : ∃ V : World, V = w14.alloc (.cells #[.string ⟨#[100, 97]⟩, .string ⟨#[100, 98]⟩] 9) := ⟨_, rfl⟩
  have hb15 : Below w14.heap.size w14 w15 := by rw [e15]; exact (Below.refl _ _).alloc (Nat.le_refl _) _
  have HD15 := Lib.hid (show w15.heap[gs]? = some dvBk from by rw [e15, egs]; exact heap_new w14 _)
  have HB15 := Lib.hid (HB14.out.trans (hb15.mono HB14.out.size))
  rw [← egs, ← e15]
  clear egs e15 hb15
  go_loopw [84] (fun s wx => ∃ j : Nat, j ≤ 2 ∧ s = .int .i64 (j : Int) ∧ Hid (Below w11.heap.size w11 wx) ∧ Hid (wx.heap[gs]? = some dvBk)) (fun s _ => 2 - (intOf s).toNat)
  case atStart => exact ⟨0, by omega, rfl, HB15, HD15⟩
  case round =>
    obtain ⟨j, hj, rfl, HB, HD⟩ := hrel
    have HB8 := Lib.hid (HB11.out.trans (HB.out.mono HB11.out.size))
    by_cases hlj : j < 2
    · have hljI : (j : Int) < 2 := by omega
      have hgsl : gs < wr.heap.size := (Array.getElem?_eq_some_iff.1 HD.out).1
      have nj : wr.cell? ⟨gs, j, none⟩ = some (.string (teT j)) := by
        have : j = 0 ∨ j = 1 := by omega
        rcases this with rfl | rfl
        · exact cell_of_blk (j := 0) HD.out rfl
        · exact cell_of_blk (j := 1) HD.out rfl
      go_upto_region 17 with (fail)
      obtain ⟨gd, egd⟩ : ∃ b, b = wr.heap.size := ⟨_, rfl⟩
      obtain ⟨w16, e16⟩ : ∃ V : World, V = wr.alloc (.cells #[.string (teT j)] 9) := ⟨_, rfl⟩
      have hb16 : Below wr.heap.size wr w16 := by rw [e16]; exact (Below.refl _ _).alloc (Nat.le_refl _) _
      have hg16 : w16.heap[gd]? = some (.cells #[.string (teT j)] 9 (0, 0)) := by rw [e16, egd]; exact heap_new wr _
      have hld16 : gd < w16.heap.size := (Array.getElem?_eq_some_iff.1 hg16).1
      have HX16 := Lib.hid hg16
      have HB16 := Lib.hid (HB8.out.trans (hb16.mono HB8.out.size))
      have HC16 := Lib.hid (HB.out.trans (hb16.mono HB.out.size))
      have HD16 := Lib.hid ((hb16.block gs hgsl).trans HD.out)
      have hgs16 : gs < w16.heap.size := Nat.lt_of_lt_of_le hgsl hb16.size
      rw [← egd, ← e16]
      clear egd e16 hb16 hg16 nj
      obtain ⟨hkR, hkr, hkt, hkw⟩ := HK.out w16 HB16.out
      have HTE := Lib.hid (teAny l m cl gd gr gR j r.m A w16 HLN.out (by omega) hkw (fun x hx => ⟨(HOK.out.1 x hx).d, (HOK.out.1 x hx).m⟩) hlj HR.out.m ⟨cell_of_blk (j := 0) HX16.out rfl, cell_of_blk (j := 0) hkr rfl, cell_of_blk (j := 1) hkR rfl, hld16, (Array.getElem?_eq_some_iff.1 hkr).1, (Array.getElem?_eq_some_iff.1 hkR).1⟩)
      clear hkR hkr hkt hkw
      obtain ⟨b1, eb1⟩ : ∃ z, z = l.any (teQ j r.m) := ⟨_, rfl⟩
      have HE1 := Lib.hid eb1
      rw [← eb1] at HTE
      clear eb1
      go_wp2_with (fail)
      refine HTE.out.mono ?_
      rintro e w17 ⟨rfl, hb17⟩
      have HB17 := Lib.hid (HB16.out.trans (hb17.mono HB16.out.size))
      have HC17 := Lib.hid (HC16.out.trans (hb17.mono HC16.out.size))
      have HD17 := Lib.hid ((hb17.block gs hgs16).trans HD16.out)
      have HX17 := Lib.hid ((hb17.block gd hld16).trans HX16.out)
      have hgs17 : gs < w17.heap.size := Nat.lt_of_lt_of_le hgs16 hb17.size
      have hld17 : gd < w17.heap.size := Nat.lt_of_lt_of_le hld16 hb17.size
      clear hb17 HTE HD16 HB16 HC16 HX16
      cases b1 with
      | false =>
        clear HE1
        go_wp2_with (fail)
        go_roundw
        case rel => exact ⟨j + 1, by omega, by go_num, HC17, HD17⟩
        case measure => simp [intOf]; omega
      | true =>
        have HIN := Lib.hid (dvs_mem l j r.m hlj HE1.out.symm)
        have HBD := Lib.hid (show Below w8.heap.size w8 w17.drew from ⟨HB17.out.os, HB17.out.tape, HB17.out.output, HB17.out.size, HB17.out.block⟩)
        have HWD := Lib.hid (HK.out w17.drew HBD.out).2.2.2
        have HFI := Lib.hid (fires_any r l m cl j t A w17.drew HR.out HOK.out HLN.out (by omega) HWD.out hlj ⟨by omega, by omega⟩)
        have erv : ruV r = .agg #[.string (rkT r.k), .string (meT r.m), .int .i64 r.agg, .int .i64 r.long, .bool r.above, .int .i64 r.on, .int .i64 r.off, .int .i64 r.hold, .int .i64 r.rest, .int .i64 r.empty] := rfl
        rw [erv] at HFI
        obtain ⟨hkR, hkr, hkt, hkw⟩ := HK.out w17 HB17.out
        have q0 : w17.cell? ⟨gR, 0, none⟩ = some (.string (rkT r.k)) := cell_of_blk (j := 0) hkR rfl
        have q1 : w17.cell? ⟨gR, 1, none⟩ = some (.string (meT r.m)) := cell_of_blk (j := 1) hkR rfl
        have q2 : w17.cell? ⟨gR, 2, none⟩ = some (.int .i64 r.agg) := cell_of_blk (j := 2) hkR rfl
        have q3 : w17.cell? ⟨gR, 3, none⟩ = some (.int .i64 r.long) := cell_of_blk (j := 3) hkR rfl
        have q4 : w17.cell? ⟨gR, 4, none⟩ = some (.bool r.above) := cell_of_blk (j := 4) hkR rfl
        have q5 : w17.cell? ⟨gR, 5, none⟩ = some (.int .i64 r.on) := cell_of_blk (j := 5) hkR rfl
        have q6 : w17.cell? ⟨gR, 6, none⟩ = some (.int .i64 r.off) := cell_of_blk (j := 6) hkR rfl
        have q7 : w17.cell? ⟨gR, 7, none⟩ = some (.int .i64 r.hold) := cell_of_blk (j := 7) hkR rfl
        have q8 : w17.cell? ⟨gR, 8, none⟩ = some (.int .i64 r.rest) := cell_of_blk (j := 8) hkR rfl
        have q9 : w17.cell? ⟨gR, 9, none⟩ = some (.int .i64 r.empty) := cell_of_blk (j := 9) hkR rfl
        have c0 : w17.cell? ⟨gr, 0, none⟩ = some (.slice (some ⟨gR, 0, none⟩) 1 1) := cell_of_blk (j := 0) hkr rfl
        have d0 : w17.cell? ⟨gd, 0, none⟩ = some (.string (teT j)) := cell_of_blk (j := 0) HX17.out rfl
        have t0 : w17.cell? ⟨gt, 0, none⟩ = some (.int .i64 t) := cell_of_blk (j := 0) hkt rfl
        clear erv hkR hkr hkt hkw HE1
        go_upto_region 18 with (fail)
        go_cut [17, 18] (fun b17 b18 wx => ∃ sp, b17 = .bool (firesP sp t) ∧ b18 = .int .i64 0 ∧ SpOf r (seenL l r.m j) sp ∧ Below w17.drew.heap.size w17.drew wx)
        case first =>
          go_region_law (first
            | (go_simp
               go_at_call 13
               (with_reducible refine HFI.out.mono ?_)
               rintro e w18 ⟨⟨sp, hsp, rfl⟩, hb18⟩
               have HSQ := Lib.hid hsp
               have HB18 := Lib.hid hb18
               clear hsp hb18))
          all_goals
            go_wp2_with (fail)
            go_meet
            exact ⟨sp, rfl, rfl, HSQ.out, HB18.out⟩
        case rest =>
        obtain ⟨sp, rfl, rfl, hsq, hb18⟩ := hcut
        obtain ⟨w18, rfl⟩ : ∃ wy : World, wy = wc := ⟨_, rfl⟩
        have HSQ := Lib.hid hsq
        have HB18 := Lib.hid hb18
        clear hsq hb18
        have HB18b := Lib.hid (HBD.out.trans (HB18.out.mono HBD.out.size))
        have HC18 := Lib.hid (show Below w11.heap.size w11 w18 from by
          have h1 : Below w11.heap.size w11 w17.drew := ⟨HC17.out.os, HC17.out.tape, HC17.out.output, HC17.out.size, HC17.out.block⟩
          exact h1.trans (HB18.out.mono h1.size))
        have HD18 := Lib.hid ((HB18.out.block gs hgs17).trans HD17.out)
        have HX18 := Lib.hid ((HB18.out.block gd hld17).trans HX17.out)
        have hkt := (HK.out w18 HB18b.out).2.2.1
        have HQ := Lib.hid (show L3.any (slQ j t) = firesP sp t from by
          rw [any_perm HL3.out.2, any_cut j t (by omega) (by omega), any_whL S _ j t HIN.out, spOf_det HSQ.out (HSS.out j hlj)])
        have HSL := Lib.hid (slAny L3 r.k n3 c3 gd gt j t A3 w18 HL3.out.1.symm hq3 ((HRO3.out.below HC18.out).mono HC18.out.size) (fun x hx => cuL_dev 0 200 _ (fun y hy => whL_dev S (dvs l r.m) (fun d hd => (dvs_two l r.m).1 d hd) y hy) x (HL3.out.2.mem_iff.1 hx)) hlj ⟨cell_of_blk (j := 0) HX18.out rfl, cell_of_blk (j := 0) hkt rfl, (Array.getElem?_eq_some_iff.1 HX18.out).1, (Array.getElem?_eq_some_iff.1 hkt).1⟩)
        rw [HQ.out] at HSL
        obtain ⟨fi, efi⟩ : ∃ z, z = firesP sp t := ⟨_, rfl⟩
        rw [← efi] at HSL
        try rw [← efi]
        clear hkt HQ efi HSQ HFI q0 q1 q2 q3 q4 q5 q6 q7 q8 q9 c0 d0 t0
        go_wp2_with (fail)
        refine HSL.out.mono ?_
        rintro e w19 ⟨rfl, hb19⟩
        have HC19 := Lib.hid (HC18.out.trans (hb19.mono HC18.out.size))
        have HD19 := Lib.hid ((hb19.block gs (Array.getElem?_eq_some_iff.1 HD18.out).1).trans HD18.out)
        clear hb19 HSL
        cases fi <;> (
          go_wp2_with (fail)
          go_roundw
          case rel => exact ⟨j + 1, by omega, by go_num, HC19, HD19⟩
          case measure => simp [intOf]; omega)
    · have hljI : ¬ (j : Int) < 2 := by omega
      have HRD := Lib.hid (ready1_yes wr (HT.out _ (HBW.out.trans (HB8.out.mono HBW.out.size))))
      go_wp2_with (fail)
      refine HRD.out.mono ?_
      rintro e w20 ⟨rfl, hb20⟩
      have HF := Lib.hid ((HBW.out.trans (HB8.out.mono HBW.out.size)).trans (hb20.mono (HBW.out.trans (HB8.out.mono HBW.out.size)).size))
      clear hb20
      go_wp2_with (fail)
      go_ret
      exact ⟨rfl, HF.out⟩
end Go.Proofs.YtlfphndnkgoinaaGreatDoor
