/- CheckImages and modelFault of right images: nothing is wrong with them. Printed by mdl.py out of gen_WyC.py. -/
import Derived.Test.YtidgicbhgnbidaaGreatDoorMgC
import Derived.Test.YtidgicbhgnbidaaGreatDoorMgB
namespace Go.Proofs.YtidgicbhgnbidaaGreatDoor
open Go.RowKit

theorem cov_self {x : Im} (h : ImOk x) : cov x x.v = false := by
  cases hc : cov x x.v with
  | false => rfl
  | true => have := cov_lt h hc; omega
set_option maxRecDepth 100000 in
set_option maxHeartbeats 4000000 in
theorem rangesFault_any (x : Im) (w : World) (hI : ImI w w.heap.size x) (hx : ImOk x) : Calls Tryz.prog 104 #[imV x] w fun e w' => e = .returned (.int .i64 0) ∧ Below w.heap.size w w' := by
  obtain ⟨g, eg⟩ : ∃ g, g = w.heap.size := ⟨_, rfl⟩
  obtain ⟨w0, e0⟩ : ∃ V : World, V = w.alloc (imB x) := ⟨_, rfl⟩
  have hb0 : Below w.heap.size w w0 := by rw [e0]; exact (Below.refl _ _).alloc (Nat.le_refl _) _
  have hg0 : w0.heap[g]? = some (imB x) := by rw [e0, eg]; exact heap_new w _
  have HI := Lib.hid (hI.up hb0)
  have HB0 := Lib.hid hb0
  have HG0 := Lib.hid hg0
  have HX := Lib.hid hx
  have hrl := hx.rl
  have hl0 := (Array.getElem?_eq_some_iff.1 hg0).1
  have k4 : w0.cell? ⟨g, 4, none⟩ = some (.slice x.fa x.rs.length x.fc) := cell_of_blk hg0 rfl
  unfold imB at e0
  unfold imV
  clear hb0 hg0 hI hx
  go_enter Tryz.func104, Tryz.ntmps104
  go_upto_region 1 with (fail)
  rw [← eg, ← e0]
  clear e0 eg
  obtain ⟨R, eR⟩ : ∃ R, R = x.rs.length := ⟨_, rfl⟩
  rw [← eR] at k4 hrl ⊢
  have HRE := Lib.hid eR
  clear eR
  have hr20 : ¬ (20 : Int) < (R : Int) := by omega
  go_wp2_with (fail)
  go_loopw [12] (fun u wx => ∃ k : Nat, k ≤ R ∧ u = .int .i64 (k : Int) ∧ Hid (Below w0.heap.size w0 wx)) (fun u _ => R - (intOf u).toNat)
  case atStart => exact ⟨0, Nat.zero_le _, rfl, Lib.hid (Below.refl _ _)⟩
  case round =>
    obtain ⟨k, hk, rfl, HB⟩ := hrel
    have hgr := (HB.out.block g hl0).trans HG0.out
    have hgl := (Array.getElem?_eq_some_iff.1 hgr).1
    by_cases hlt : k < R
    · have hltI : (k : Int) < (R : Int) := by omega
      obtain ⟨r, hr⟩ : ∃ r, x.rs[k]? = some r := ⟨_, List.getElem?_eq_getElem (by have := HRE.out; omega)⟩
      have hrow := (HI.out.rs.below HB.out)
      obtain ⟨b, o, efa, hbw, hC⟩ := hrow.posR rgC_len (by omega) (by have := HRE.out; omega)
      have hbr : b < wr.heap.size := by have := HB.out.size; omega
      have c0 : wr.cell? ⟨b, o + k * 6, none⟩ = some (.int .i64 r.1.a) := rec_cell rgC_len hC k r hr 0 _ rfl
      have c1 := rec_cell rgC_len hC k r hr 1 _ rfl
      have c2 := rec_cell rgC_len hC k r hr 2 _ rfl
      have c3 := rec_cell rgC_len hC k r hr 3 _ rfl
      have c4 := rec_cell rgC_len hC k r hr 4 _ rfl
      have c5 := rec_cell rgC_len hC k r hr 5 _ rfl
      have HROK := Lib.hid (HX.out.rs r (List.mem_of_getElem? hr))
      have HRK := Lib.hid hr
      have HC := Lib.hid hC
      rw [efa]
      clear hrow hC hr
      go_upto_region 6 with (fail)
      obtain ⟨gr, egr⟩ : ∃ y, y = wr.heap.size := ⟨_, rfl⟩
      obtain ⟨w1, e1⟩ : ∃ V : World, V = wr.alloc (.cells #[.int .i64 r.1.a, .int .i64 r.1.b, .int .i64 r.1.c, .int .i64 r.2.a, .int .i64 r.2.b, .int .i64 r.2.c] 42) := ⟨_, rfl⟩
      have hb1 : Below wr.heap.size wr w1 := by rw [e1]; exact (Below.refl _ _).alloc (Nat.le_refl _) _
      have hg1 : w1.heap[gr]? = some (rgB r) := by rw [e1, egr]; exact heap_new wr _
      rw [← egr, ← e1]
      have HB1 := Lib.hid (HB.out.trans (hb1.mono HB.out.size))
      have HC1 := Lib.hid (fun j u hj => (hb1.cell (p := ⟨b, o + j, none⟩) hbr).trans (HC.out j u hj))
      have HG1 := Lib.hid hg1
      have hl1 := (Array.getElem?_eq_some_iff.1 hg1).1
      have hbr1 : b < w1.heap.size := by have := hb1.size; omega
      clear egr e1 hb1 c0 c1 c2 c3 c4 c5 hbr hgr hgl
      have p0 := cell_of_blk (j := 0) hg1 rfl
      have p1 := cell_of_blk (j := 1) hg1 rfl
      have p2 := cell_of_blk (j := 2) hg1 rfl
      have HV := Lib.hid (version_any r.1 w1 HROK.out.1.lo)
      have HV2 := Lib.hid (fun V => version_any r.2 V HROK.out.1.hi)
      have HCM := Lib.hid (fun V => compareV_any r.1 r.2 V)
      have hcm : ¬ 0 < cmpV r.1 r.2 := by
        have := (cmpV_le HROK.out.1.lo HROK.out.1.hi).2 HROK.out.1.le
        omega
      unfold veV at HV HV2 HCM
      clear hg1
      go_wp2_with (fail)
      refine HV.out.mono ?_
      rintro e w2 ⟨rfl, hb2⟩
      have hg2 := (hb2.block gr hl1).trans HG1.out
      have HB2 := Lib.hid (HB1.out.trans (hb2.mono HB1.out.size))
      have HC2 := Lib.hid (fun j u hj => (hb2.cell (p := ⟨b, o + j, none⟩) hbr1).trans (HC1.out j u hj))
      have HG2 := Lib.hid hg2
      have hl2 := (Array.getElem?_eq_some_iff.1 hg2).1
      have hbr2 : b < w2.heap.size := by have := hb2.size; omega
      clear hb2 p0 p1 p2 hl1 hbr1 HC1 HB1 HG1 HV
      have p3 := cell_of_blk (j := 3) hg2 rfl
      have p4 := cell_of_blk (j := 4) hg2 rfl
      have p5 := cell_of_blk (j := 5) hg2 rfl
      clear hg2
      go_wp2_with (fail)
      refine (HV2.out w2).mono ?_
      rintro e w3 ⟨rfl, hb3⟩
      have hg3 := (hb3.block gr hl2).trans HG2.out
      have HB3 := Lib.hid (HB2.out.trans (hb3.mono HB2.out.size))
      have HC3 := Lib.hid (fun j u hj => (hb3.cell (p := ⟨b, o + j, none⟩) hbr2).trans (HC2.out j u hj))
      have HG3 := Lib.hid hg3
      have hl3 := (Array.getElem?_eq_some_iff.1 hg3).1
      have hbr3 : b < w3.heap.size := by have := hb3.size; omega
      clear hb3 p3 p4 p5 hl2 hbr2 HC2 HB2 HG2 HV2
      have p0 := cell_of_blk (j := 0) hg3 rfl
      have p1 := cell_of_blk (j := 1) hg3 rfl
      have p2 := cell_of_blk (j := 2) hg3 rfl
      have p3 := cell_of_blk (j := 3) hg3 rfl
      have p4 := cell_of_blk (j := 4) hg3 rfl
      have p5 := cell_of_blk (j := 5) hg3 rfl
      clear hg3
      go_wp2_with (fail)
      refine (HCM.out w3).mono ?_
      rintro e w4 ⟨rfl, hb4⟩
      have hg4 := (hb4.block gr hl3).trans HG3.out
      have HB4 := Lib.hid (HB3.out.trans (hb4.mono HB3.out.size))
      have HC4 := Lib.hid (fun j u hj => (hb4.cell (p := ⟨b, o + j, none⟩) hbr3).trans (HC3.out j u hj))
      have HG4 := Lib.hid hg4
      have hl4 := (Array.getElem?_eq_some_iff.1 hg4).1
      have hbr4 : b < w4.heap.size := by have := hb4.size; omega
      clear hb4 p0 p1 p2 p3 p4 p5 hl3 hbr3 HC3 HB3 HG3 HCM hg4
      cases k with
      | zero =>
        go_wp2_with (fail)
        go_upto_region 8 with (fail)
        refine qRegion (by kernel_rfl) (by kernel_rfl) ?_
        repeat (first
          | (go_big_quiet_want; refine qVal (fun V hV => (by (go_simp; try rfl))) ?_; simp only [Act.put, List.setIfInBounds_toArray, List.set_cons_zero, List.set_cons_succ]; go_big_quiet_on)
          | go_big_quiet_skip)
        refine wpQuiet_nil ?_
        intro w5 hb5
        have HB5 := Lib.hid (HB4.out.trans (hb5.mono HB4.out.size))
        clear hb5
        go_wp2_with (fail)
        go_roundw
        case rel => exact ⟨1, by omega, by go_num, HB5⟩
        case measure => simp [intOf]; omega
      | succ i =>
        obtain ⟨r', hr'⟩ : ∃ r', x.rs[i]? = some r' := ⟨_, List.getElem?_eq_getElem (by have := HRE.out; omega)⟩
        have hcp : ¬ cmpV r.1 r'.2 ≤ 0 := by
          have h1 := (List.pairwise_iff_getElem.1 HX.out.ro) i (i + 1) (by have := HRE.out; omega) (by have := HRE.out; omega) (by omega)
          have h2 := (List.getElem?_eq_some_iff.1 hr').2
          have h3 := (List.getElem?_eq_some_iff.1 HRK.out).2
          rw [h2, h3] at h1
          have h4 := (HX.out.rs r' (List.mem_of_getElem? hr')).1
          have := cmpV_le HROK.out.1.lo h4.hi
          omega
        have HCP := Lib.hid (fun (V : World) => compareV_any r.1 r'.2 V)
        obtain ⟨z, ez⟩ : ∃ z, z = cmpV r.1 r'.2 := ⟨_, rfl⟩
        rw [← ez] at hcp HCP
        clear ez
        have hi1 : IntKind.i64.wrap ((i : Int) + 1 - 1) = (i : Int) := by rw [IntKind.wrap_i64]; omega
        have hi2 : IntKind.i64.wrap (i : Int) = (i : Int) := by rw [IntKind.wrap_i64]; omega
        have hiR : i < R := by omega
        have hiRI : (i : Int) < (R : Int) := by omega
        have hgk : w4.heap[g]? = some (imB x) := (HB4.out.block g hl0).trans HG0.out
        have hgkl := (Array.getElem?_eq_some_iff.1 hgk).1
        have HQ := Lib.hid (fun (V : World) (hV : Below w4.heap.size w4 V) => show V.cell? ⟨gr, 0, none⟩ = some (.int .i64 r.1.a) ∧ V.cell? ⟨gr, 1, none⟩ = some (.int .i64 r.1.b) ∧ V.cell? ⟨gr, 2, none⟩ = some (.int .i64 r.1.c) ∧ V.cell? ⟨g, 4, none⟩ = some (.slice (some ⟨b, o, none⟩) R x.fc) ∧ V.cell? ⟨b, o + i * 6 + 3, none⟩ = some (.int .i64 r'.2.a) ∧ V.cell? ⟨b, o + i * 6 + 4, none⟩ = some (.int .i64 r'.2.b) ∧ V.cell? ⟨b, o + i * 6 + 5, none⟩ = some (.int .i64 r'.2.c) from by
          have h1 := (hV.block gr hl4).trans HG4.out
          have h2 := (hV.block g hgkl).trans hgk
          have hq : ∀ j u, (recs rgC x.rs)[j]? = some u → V.cell? ⟨b, o + j, none⟩ = some u := fun j u hj => (hV.cell (p := ⟨b, o + j, none⟩) hbr4).trans (HC4.out j u hj)
          have e3 : imB x = .cells #[.int .i64 x.v.a, .int .i64 x.v.b, .int .i64 x.v.c, .slice x.ma x.mo.length x.mc, .slice (some ⟨b, o, none⟩) R x.fc, .int .i64 x.sz] 91 (0, 0) := by unfold imB; rw [← efa, HRE.out]
          rw [e3] at h2
          exact ⟨cell_of_blk (j := 0) h1 rfl, cell_of_blk (j := 1) h1 rfl, cell_of_blk (j := 2) h1 rfl, cell_of_blk (j := 4) h2 rfl, rec_cell rgC_len hq i r' hr' 3 _ rfl, rec_cell rgC_len hq i r' hr' 4 _ rfl, rec_cell rgC_len hq i r' hr' 5 _ rfl⟩)
        unfold veV at HCP
        clear hr' hgk
        go_wp2_with (fail)
        go_upto_region 8 with (fail)
        refine qRegion (by kernel_rfl) (by kernel_rfl) ?_
        repeat (first
          | (go_big_quiet_want; refine qVal (fun V hV => (by (obtain ⟨q0, q1, q2, q4, p3, p4, p5⟩ := HQ.out V hV; go_simp; try rfl))) ?_; simp only [Act.put, List.setIfInBounds_toArray, List.set_cons_zero, List.set_cons_succ]; go_big_quiet_on)
          | (go_big_quiet_want
             refine qCall (fun V hV => (by (obtain ⟨q0, q1, q2, q4, p3, p4, p5⟩ := HQ.out V hV; go_simp; exact ⟨rfl, rfl⟩))) (fun V hV => (by first
               | with_reducible exact (HCP.out V).mono (fun e w' h => ⟨h.1, hV.trans (h.2.mono hV.size)⟩))) ?_
             simp only [Act.put, List.setIfInBounds_toArray, List.set_cons_zero, List.set_cons_succ]; go_big_quiet_on)
          | go_big_quiet_skip)
        refine wpQuiet_nil ?_
        intro w5 hb5
        have HB5 := Lib.hid (HB4.out.trans (hb5.mono HB4.out.size))
        clear hb5 HQ HCP
        go_wp2_with (fail)
        go_roundw
        case rel => exact ⟨i + 2, by omega, by go_num, HB5⟩
        case measure => simp [intOf]; omega
    · have hltI : ¬ (k : Int) < (R : Int) := by omega
      have HCV := Lib.hid (covers_im x x.v wr ((HI.out.below HB.out).mono HB.out.size) HX.out HX.out.v)
      rw [cov_self HX.out] at HCV
      have hR2 := HRE.out
      unfold imV veV at HCV
      rw [← hR2] at HCV
      have e3 : imB x = .cells #[.int .i64 x.v.a, .int .i64 x.v.b, .int .i64 x.v.c, .slice x.ma x.mo.length x.mc, .slice x.fa R x.fc, .int .i64 x.sz] 91 (0, 0) := by unfold imB; rw [hR2]
      rw [e3] at hgr
      clear hR2 e3
      have q0 := cell_of_blk (j := 0) hgr rfl
      have q1 := cell_of_blk (j := 1) hgr rfl
      have q2 := cell_of_blk (j := 2) hgr rfl
      have q3 := cell_of_blk (j := 3) hgr rfl
      have q4 := cell_of_blk (j := 4) hgr rfl
      have q5 := cell_of_blk (j := 5) hgr rfl
      clear hgr
      go_wp2_with (fail)
      refine HCV.out.mono ?_
      rintro e w2 ⟨rfl, hb2⟩
      have HB2 := Lib.hid (HB0.out.trans ((HB.out.trans (hb2.mono HB.out.size)).mono HB0.out.size))
      clear hb2
      go_wp2_with (fail)
      go_ret
      exact ⟨rfl, HB2.out⟩
theorem md_key (i : Nat) : isKey (mdT i) = true := by
  match i with
  | 0 => decide +kernel
  | n + 1 => show isKey ⟨#[110]⟩ = true; decide +kernel
theorem mo_next {x : Im} (h : ImOk x) {i m m' : Nat} (h1 : x.mo[i]? = some m') (h2 : x.mo[i + 1]? = some m) : (Op.bytesLess (mdT m).toList (mdT m').toList || (mdT m).toList == (mdT m').toList) = false := by
  rcases h.mo with e | e | e <;> rw [e] at h1 h2
  · simp at h2
  · have hi : i = 0 := by
      rcases Nat.eq_zero_or_pos i with h | h
      · exact h
      · exact absurd (List.getElem?_eq_some_iff.1 h2).1 (by simp only [List.length_cons, List.length_nil]; omega)
    subst hi
    simp only [List.getElem?_cons_zero, List.getElem?_cons_succ, Option.some.injEq] at h1 h2
    subst h1 h2
    decide +kernel
  · simp at h2
set_option maxRecDepth 100000 in
set_option maxHeartbeats 8000000 in
theorem checkImages_any (L : List Im) (N C : Nat) (AL : Option Addr) (w : World) (hI : ImsI w w.heap.size AL L) (hN : L.length = N) (hL : ImsOk L) : Calls Tryz.prog 60 #[.slice AL N C] w fun e w' => e = .returned (.int .i64 0) ∧ Below w.heap.size w w' := by
  have HI := Lib.hid hI
  have HN := Lib.hid hN
  have HL := Lib.hid hL
  have hN8 : N ≤ 8 := by have := hL.len; omega
  have hN2 : ¬ (200 : Int) < (N : Int) := by omega
  clear hI hN hL
  go_enter Tryz.func60, Tryz.ntmps60
  go_wp2_with (fail)
  go_loopw [13] (fun u wx => ∃ k : Nat, k ≤ N ∧ u = .int .i64 (k : Int) ∧ Hid (Below w.heap.size w wx)) (fun u _ => N - (intOf u).toNat)
  case atStart => exact ⟨0, Nat.zero_le _, rfl, Lib.hid (Below.refl _ _)⟩
  case round =>
    obtain ⟨k, hk, rfl, HB⟩ := hrel
    by_cases hlt : k < N
    · have hltI : (k : Int) < (N : Int) := by omega
      obtain ⟨x, hx⟩ : ∃ x, L[k]? = some x := ⟨_, List.getElem?_eq_getElem (by have := HN.out; omega)⟩
      have hxm := List.mem_of_getElem? hx
      have HX := Lib.hid (HL.out.ok x hxm)
      have HXI := Lib.hid (((HI.out.all x hxm).below HB.out).mono HB.out.size)
      have hrow := (HI.out.row.below HB.out)
      obtain ⟨b, o, rfl, hbw, hC⟩ := hrow.posR imC_len (by omega) (by have := HN.out; omega)
      have hbr : b < wr.heap.size := by have := HB.out.size; omega
      have c0 : wr.cell? ⟨b, o + k * 6, none⟩ = some (.int .i64 x.v.a) := rec_cell imC_len hC k x hx 0 _ rfl
      have c1 := rec_cell imC_len hC k x hx 1 _ rfl
      have c2 := rec_cell imC_len hC k x hx 2 _ rfl
      have c3 := rec_cell imC_len hC k x hx 3 _ rfl
      have c4 := rec_cell imC_len hC k x hx 4 _ rfl
      have c5 := rec_cell imC_len hC k x hx 5 _ rfl
      have HXK := Lib.hid hx
      have HC := Lib.hid hC
      clear hrow hC hx
      go_upto_region 6 with (fail)
      obtain ⟨gx, egx⟩ : ∃ y, y = wr.heap.size := ⟨_, rfl⟩
      obtain ⟨w1, e1⟩ : ∃ V : World, V = wr.alloc (.cells #[.int .i64 x.v.a, .int .i64 x.v.b, .int .i64 x.v.c, .slice x.ma x.mo.length x.mc, .slice x.fa x.rs.length x.fc, .int .i64 x.sz] 91) := ⟨_, rfl⟩
      have hb1 : Below wr.heap.size wr w1 := by rw [e1]; exact (Below.refl _ _).alloc (Nat.le_refl _) _
      have hg1 : w1.heap[gx]? = some (imB x) := by rw [e1, egx]; exact heap_new wr _
      rw [← egx, ← e1]
      have HB1 := Lib.hid (HB.out.trans (hb1.mono HB.out.size))
      have HC1 := Lib.hid (fun j u hj => (hb1.cell (p := ⟨b, o + j, none⟩) hbr).trans (HC.out j u hj))
      have HXI1 := Lib.hid (HXI.out.up hb1)
      have HG1 := Lib.hid hg1
      have hl1 := (Array.getElem?_eq_some_iff.1 hg1).1
      have hbr1 : b < w1.heap.size := by have := hb1.size; omega
      clear egx e1 hb1 c0 c1 c2 c3 c4 c5 hbr HB HC HXI
      have p0 := cell_of_blk (j := 0) hg1 rfl
      have p1 := cell_of_blk (j := 1) hg1 rfl
      have p2 := cell_of_blk (j := 2) hg1 rfl
      have HV := Lib.hid (version_any x.v w1 HX.out.v)
      unfold veV at HV
      clear hg1
      obtain ⟨Rm, eRm⟩ : ∃ R, R = x.mo.length := ⟨_, rfl⟩
      have hRm : 1 ≤ Rm ∧ Rm ≤ 2 := by rw [eRm]; rcases HX.out.mo with e | e | e <;> rw [e] <;> exact ⟨by decide, by decide⟩
      have HRM := Lib.hid eRm
      have hRm1 : ¬ (Rm : Int) = 0 := by omega
      have hRm2 : ¬ (20 : Int) < (Rm : Int) := by omega
      have hRm3 : ((Rm : Int) == 0) = false := by simp; omega
      have hRm4 : decide ((20 : Int) < (Rm : Int)) = false := decide_eq_false hRm2
      clear eRm
      go_wp2_with (fail)
      refine HV.out.mono ?_
      rintro e w2 ⟨rfl, hb2⟩
      have hg2 := (hb2.block gx hl1).trans HG1.out
      have HB2 := Lib.hid (HB1.out.trans (hb2.mono HB1.out.size))
      have HC2 := Lib.hid (fun j u hj => (hb2.cell (p := ⟨b, o + j, none⟩) hbr1).trans (HC1.out j u hj))
      have HXI2 := Lib.hid (HXI1.out.up hb2)
      have HG2 := Lib.hid hg2
      have hl2 := (Array.getElem?_eq_some_iff.1 hg2).1
      have hbr2 : b < w2.heap.size := by have := hb2.size; omega
      clear hb2 p0 p1 p2 hl1 hbr1 HC1 HB1 HG1 HV HXI1 hg2
      go_upto_region 8 with (fail)
      go_cut [23] (fun s wx => s = .bool false ∧ Below w2.heap.size w2 wx)
      case first =>
        cases k with
        | zero =>
          go_upto_region 8 with (fail)
          refine qRegion (by kernel_rfl) (by kernel_rfl) ?_
          repeat (first
            | (go_big_quiet_want; refine qVal (fun V hV => (by (go_simp; try rfl))) ?_; simp only [Act.put, List.setIfInBounds_toArray, List.set_cons_zero, List.set_cons_succ]; go_big_quiet_on)
            | go_big_quiet_skip)
          refine wpQuiet_nil ?_
          intro w3 hb3
          go_wp2_with (fail)
          go_meet
          exact ⟨rfl, hb3⟩
        | succ i =>
          obtain ⟨y, hy⟩ : ∃ y, L[i]? = some y := ⟨_, List.getElem?_eq_getElem (by have := HN.out; omega)⟩
          have hcp : ¬ cmpV x.v y.v ≤ 0 := by
            have h1 := (List.pairwise_iff_getElem.1 HL.out.ord) i (i + 1) (by have := HN.out; omega) (by have := HN.out; omega) (by omega)
            have h2 := (List.getElem?_eq_some_iff.1 hy).2
            have h3 := (List.getElem?_eq_some_iff.1 HXK.out).2
            rw [h2, h3] at h1
            have := cmpV_le HX.out.v (HL.out.ok y (List.mem_of_getElem? hy)).v
            omega
          have HCP := Lib.hid (fun (V : World) => compareV_any x.v y.v V)
          obtain ⟨z, ez⟩ : ∃ z, z = cmpV x.v y.v := ⟨_, rfl⟩
          rw [← ez] at hcp HCP
          clear ez
          have hi1 : IntKind.i64.wrap ((i : Int) + 1 - 1) = (i : Int) := by rw [IntKind.wrap_i64]; omega
          have hi2 : IntKind.i64.wrap (i : Int) = (i : Int) := by rw [IntKind.wrap_i64]; omega
          have hiR : i < N := by omega
          have hiRI : (i : Int) < (N : Int) := by omega
          have HQ := Lib.hid (fun (V : World) (hV : Below w2.heap.size w2 V) => show V.cell? ⟨gx, 0, none⟩ = some (.int .i64 x.v.a) ∧ V.cell? ⟨gx, 1, none⟩ = some (.int .i64 x.v.b) ∧ V.cell? ⟨gx, 2, none⟩ = some (.int .i64 x.v.c) ∧ V.cell? ⟨b, o + i * 6, none⟩ = some (.int .i64 y.v.a) ∧ V.cell? ⟨b, o + i * 6 + 1, none⟩ = some (.int .i64 y.v.b) ∧ V.cell? ⟨b, o + i * 6 + 2, none⟩ = some (.int .i64 y.v.c) from by
            have h1 := (hV.block gx hl2).trans HG2.out
            have hq : ∀ j u, (recs imC L)[j]? = some u → V.cell? ⟨b, o + j, none⟩ = some u := fun j u hj => (hV.cell (p := ⟨b, o + j, none⟩) hbr2).trans (HC2.out j u hj)
            exact ⟨cell_of_blk (j := 0) h1 rfl, cell_of_blk (j := 1) h1 rfl, cell_of_blk (j := 2) h1 rfl, rec_cell imC_len hq i y hy 0 _ rfl, rec_cell imC_len hq i y hy 1 _ rfl, rec_cell imC_len hq i y hy 2 _ rfl⟩)
          unfold veV at HCP
          clear hy
          go_upto_region 8 with (fail)
          refine qRegion (by kernel_rfl) (by kernel_rfl) ?_
          repeat (first
            | (go_big_quiet_want; refine qVal (fun V hV => (by (obtain ⟨q0, q1, q2, p0, p1, p2⟩ := HQ.out V hV; go_simp; try rfl))) ?_; simp only [Act.put, List.setIfInBounds_toArray, List.set_cons_zero, List.set_cons_succ]; go_big_quiet_on)
            | (go_big_quiet_want
               refine qCall (fun V hV => (by (obtain ⟨q0, q1, q2, p0, p1, p2⟩ := HQ.out V hV; go_simp; exact ⟨rfl, rfl⟩))) (fun V hV => (by first
                 | with_reducible exact (HCP.out V).mono (fun e w' h => ⟨h.1, hV.trans (h.2.mono hV.size)⟩))) ?_
               simp only [Act.put, List.setIfInBounds_toArray, List.set_cons_zero, List.set_cons_succ]; go_big_quiet_on)
            | go_big_quiet_skip)
          refine wpQuiet_nil ?_
          intro w3 hb3
          clear HQ HCP
          go_wp2_with (fail)
          go_meet
          exact ⟨rfl, hb3⟩
      case rest =>
      obtain ⟨rfl, hb3⟩ := hcut
      obtain ⟨w3, rfl⟩ : ∃ wy : World, wy = wc := ⟨_, rfl⟩
      have hg3 := (hb3.block gx hl2).trans HG2.out
      have HB3 := Lib.hid (HB2.out.trans (hb3.mono HB2.out.size))
      have HXI3 := Lib.hid (HXI2.out.up hb3)
      have hl3 := (Array.getElem?_eq_some_iff.1 hg3).1
      have hRm5 := HRM.out
      unfold imB at hg3
      rw [← hRm5] at hg3
      have HG3 := Lib.hid hg3
      have p3 := cell_of_blk (j := 3) hg3 rfl
      clear hb3 hl2 hbr2 HC2 HB2 HG2 HXI2 hg3 hRm5
      go_wp2_with (fail)
      go_loopw [51] (fun u wx => ∃ j : Nat, j ≤ Rm ∧ u = .int .i64 (j : Int) ∧ Hid (wx = w3)) (fun u _ => Rm - (intOf u).toNat)
      case atStart => exact ⟨0, Nat.zero_le _, rfl, Lib.hid rfl⟩
      case round =>
        obtain ⟨j, hj, rfl, HWW⟩ := hrel
        have hww := HWW.out
        subst hww
        by_cases hjl : j < Rm
        · have hjI : (j : Int) < (Rm : Int) := by omega
          obtain ⟨m, hm⟩ : ∃ m, x.mo[j]? = some m := ⟨_, List.getElem?_eq_getElem (by have := HRM.out; omega)⟩
          obtain ⟨bm, om, ema, hbm, hCm⟩ := HXI3.out.mo.posR mdC_len (by omega) (by have := HRM.out; omega)
          have c0 := rec_cell mdC_len hCm j m hm 0 _ rfl
          simp only [Nat.mul_one, Nat.add_zero] at c0
          rw [ema] at p3
          have HK := Lib.hid (fun V => key_yes (mdT m) V (md_key m))
          rw [ema]
          cases j with
          | zero =>
            simp only [Nat.add_zero] at c0
            clear hCm hm
            go_wp2_with (fail)
            refine (HK.out _).mono ?_
            rintro e w4 ⟨rfl, rfl⟩
            go_wp2_with (fail)
            go_roundw
            case rel => exact ⟨1, by omega, by go_num, Lib.hid (by simp)⟩
            case measure => simp [intOf]; omega
          | succ i =>
            obtain ⟨m', hm'⟩ : ∃ m, x.mo[i]? = some m := ⟨_, List.getElem?_eq_getElem (by have := HRM.out; omega)⟩
            have c1 := rec_cell mdC_len hCm i m' hm' 0 _ rfl
            simp only [Nat.mul_one, Nat.add_zero] at c1
            have hle := mo_next HX.out hm' hm
            have hi1 : IntKind.i64.wrap ((i : Int) + 1 - 1) = (i : Int) := by rw [IntKind.wrap_i64]; omega
            have hi2 : IntKind.i64.wrap (i : Int) = (i : Int) := by rw [IntKind.wrap_i64]; omega
            have hiR : i < Rm := by omega
            have hiRI : (i : Int) < (Rm : Int) := by omega
            clear hCm hm hm'
            go_wp2_with (fail)
            refine (HK.out _).mono ?_
            rintro e w4 ⟨rfl, rfl⟩
            go_wp2_with (fail)
            go_roundw
            case rel => exact ⟨i + 2, by omega, by go_num, Lib.hid (by simp)⟩
            case measure => simp [intOf]; omega
        · have hjI : ¬ (j : Int) < (Rm : Int) := by omega
          have hg3 := HG3.out
          have HRF := Lib.hid (rangesFault_any x wr HXI3.out HX.out)
          have hRm5 := HRM.out
          unfold imV at HRF
          rw [← hRm5] at HRF
          clear hRm5
          have q0 := cell_of_blk (j := 0) hg3 rfl
          have q1 := cell_of_blk (j := 1) hg3 rfl
          have q2 := cell_of_blk (j := 2) hg3 rfl
          have q3 := cell_of_blk (j := 3) hg3 rfl
          have q4 := cell_of_blk (j := 4) hg3 rfl
          have q5 := cell_of_blk (j := 5) hg3 rfl
          have HO := Lib.hid (fun V => out_no x.sz 1 1000000000 V HX.out.sz.1 (by have := HX.out.sz.2; omega))
          clear hg3 p3
          go_wp2_with (fail)
          refine HRF.out.mono ?_
          rintro e w4 ⟨rfl, hb4⟩
          have hg4 := (hb4.block gx hl3).trans HG3.out
          have HB4 := Lib.hid (HB3.out.trans (hb4.mono HB3.out.size))
          have hl4 := (Array.getElem?_eq_some_iff.1 hg4).1
          have p5 := cell_of_blk (j := 5) hg4 rfl
          clear hb4 hg4 q0 q1 q2 q3 q4 q5 HRF
          go_wp2_with (fail)
          refine (HO.out w4).mono ?_
          rintro e w5 ⟨rfl, rfl⟩
          go_wp2_with (fail)
          go_roundw
          case rel => exact ⟨k + 1, by omega, by go_num, HB4⟩
          case measure => simp [intOf]; omega
    · have hltI : ¬ (k : Int) < (N : Int) := by omega
      go_wp2_with (fail)
      go_ret
      exact ⟨rfl, HB.out⟩
set_option maxRecDepth 100000 in
set_option maxHeartbeats 4000000 in
theorem modelFault_any [Mdl] (L : List Im) (N C : Nat) (AL : Option Addr) (l : List Ve) (M C2 : Nat) (A2 : Option Addr) (w : World) (hI : ImsI w w.heap.size AL L) (hN : L.length = N) (hL : ImsOk L) (hM : l.length = M) (hM9 : M ≤ 100) (hr : Row w w.heap.size A2 (recs veC l)) (hl : ∀ v ∈ l, VeOk v) :
    Calls Tryz.prog 37 #[.slice AL N C, .string (mdT Mdl.j), .slice A2 M C2] w fun e w' => e = .returned (.int .i64 0) ∧ Below w.heap.size w w' := by
  have HCI := Lib.hid (checkImages_any L N C AL w hI hN hL)
  have HK := Lib.hid (fun V => key_yes (mdT Mdl.j) V (md_key Mdl.j))
  have HM := Lib.hid hM
  have HR := Lib.hid hr
  have HV := Lib.hid hl
  clear hI hN hL hM hr hl
  go_enter Tryz.func37, Tryz.ntmps37
  go_wp2_with (fail)
  refine HCI.out.mono ?_
  rintro e w1 ⟨rfl, hb1⟩
  have HB1 := Lib.hid hb1
  clear hb1 HCI
  go_wp2_with (fail)
  refine (HK.out w1).mono ?_
  rintro e w2 ⟨rfl, rfl⟩
  clear HK
  go_wp2_with (fail)
  go_loopw [21] (fun u wx => ∃ j : Nat, j ≤ M ∧ u = .int .i64 (j : Int) ∧ Hid (Below w.heap.size w wx)) (fun u _ => M - (intOf u).toNat)
  case atStart => exact ⟨0, Nat.zero_le _, rfl, HB1⟩
  case round =>
    obtain ⟨j, hj, rfl, HB⟩ := hrel
    by_cases hjl : j < M
    · have hjI : (j : Int) < (M : Int) := by omega
      obtain ⟨v, hv⟩ : ∃ v, l[j]? = some v := ⟨_, List.getElem?_eq_getElem (by have := HM.out; omega)⟩
      obtain ⟨b, o, rfl, hbw, hC⟩ := (HR.out.below HB.out).posR veC_len (by omega) (by have := HM.out; omega)
      have hbr : b < wr.heap.size := by have := HB.out.size; omega
      have c0 : wr.cell? ⟨b, o + j * 3, none⟩ = some (.int .i64 v.a) := rec_cell veC_len hC j v hv 0 _ rfl
      have c1 := rec_cell veC_len hC j v hv 1 _ rfl
      have c2 := rec_cell veC_len hC j v hv 2 _ rfl
      have HVF := Lib.hid (fun V => versionFault_any v V (HV.out v (List.mem_of_getElem? hv)))
      unfold veV at HVF
      have hba : Below wr.heap.size wr (wr.alloc (.cells #[.int .i64 v.a, .int .i64 v.b, .int .i64 v.c] 29)) := (Below.refl _ _).alloc (Nat.le_refl _) _
      have HBA := Lib.hid (HB.out.trans (hba.mono HB.out.size))
      clear hC hv hba
      go_wp2_with (fail)
      refine (HVF.out _).mono ?_
      rintro e w3 ⟨rfl, hb3⟩
      have HB3 := Lib.hid (HBA.out.trans (hb3.mono HBA.out.size))
      clear hb3 HVF HBA
      go_wp2_with (fail)
      go_roundw
      case rel => exact ⟨j + 1, by omega, by go_num, HB3⟩
      case measure => simp [intOf]; omega
    · have hjI : ¬ (j : Int) < (M : Int) := by omega
      go_wp2_with (fail)
      go_ret
      exact ⟨rfl, HB.out⟩
end Go.Proofs.YtidgicbhgnbidaaGreatDoor
