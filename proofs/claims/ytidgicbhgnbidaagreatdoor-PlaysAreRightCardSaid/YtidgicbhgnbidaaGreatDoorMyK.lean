/- slices.Contains of versions; WaysLead's closure. Printed by mdl.py out of gen_WyK.py. -/
import Derived.Test.YtidgicbhgnbidaaGreatDoorMgC
namespace Go.Proofs.YtidgicbhgnbidaaGreatDoor
open Go.RowKit

set_option maxRecDepth 100000 in
theorem wl1_any (r : Rg) (v : Ve) (g : Nat) (w : World) (hr : RgOk r) (hv : VeOk v) (hg : w.heap[g]? = some (veB v)) : Calls Tryz.prog 13 #[rgV r, .pointer (some ⟨g, 0, none⟩)] w fun e w' => e = .returned (.bool (inR r v)) ∧ Below w.heap.size w w' := by
  rw [inR_dec hr hv]
  obtain ⟨w1, e1⟩ : ∃ V : World, V = w.alloc (rgB r) := ⟨_, rfl⟩
  have hb1 : Below w.heap.size w w1 := by rw [e1]; exact (Below.refl _ _).alloc (Nat.le_refl _) _
  have hgl := (Array.getElem?_eq_some_iff.1 hg).1
  have hg1 : w1.heap[g]? = some (veB v) := (hb1.block g hgl).trans hg
  have hn1 : w1.heap[w.heap.size]? = some (rgB r) := by rw [e1]; exact heap_new w _
  have HB1 := Lib.hid hb1
  have HG1 := Lib.hid hg1
  have HN1 := Lib.hid hn1
  have HC0 := Lib.hid (compareV_any r.1 v w1)
  have HC1 := Lib.hid (fun V => compareV_any v r.2 V)
  unfold rgB at e1
  unfold rgV
  unfold veV at HC0 HC1
  have hs1 : w.heap.size < w1.heap.size := (Array.getElem?_eq_some_iff.1 hn1).1
  have hs2 : g < w1.heap.size := (Array.getElem?_eq_some_iff.1 hg1).1
  have k0 := cell_of_blk (j := 0) hn1 rfl
  have k1 := cell_of_blk (j := 1) hn1 rfl
  have k2 := cell_of_blk (j := 2) hn1 rfl
  have v0 := cell_of_blk (j := 0) hg1 rfl
  have v1 := cell_of_blk (j := 1) hg1 rfl
  have v2 := cell_of_blk (j := 2) hg1 rfl
  clear hb1 hg hg1 hn1 hgl hr hv
  go_enter Tryz.func13, Tryz.ntmps13
  go_upto_region 1 with (fail)
  rw [← e1]
  clear e1
  go_wp2_with (fail)
  refine HC0.out.mono ?_
  rintro e w2 ⟨rfl, hb2⟩
  have hs3 := hb2.size
  have hg2 := (hb2.block g hs2).trans HG1.out
  have hn2 := (hb2.block w.heap.size hs1).trans HN1.out
  have HB2 := Lib.hid (HB1.out.trans (hb2.mono HB1.out.size))
  have hs4 : w.heap.size < w2.heap.size := by omega
  have hs5 : g < w2.heap.size := by omega
  have k3 := cell_of_blk (j := 3) hn2 rfl
  have k4 := cell_of_blk (j := 4) hn2 rfl
  have k5 := cell_of_blk (j := 5) hn2 rfl
  have u0 := cell_of_blk (j := 0) hg2 rfl
  have u1 := cell_of_blk (j := 1) hg2 rfl
  have u2 := cell_of_blk (j := 2) hg2 rfl
  clear hb2 hg2 hn2 k0 k1 k2 v0 v1 v2
  by_cases hle : cmpV r.1 v ≤ 0
  · have d1 := decide_eq_true hle
    go_wp2_with (fail)
    refine (HC1.out w2).mono ?_
    rintro e w3 ⟨rfl, hb3⟩
    have HB3 := Lib.hid (HB2.out.trans (hb3.mono HB2.out.size))
    clear hb3
    go_wp2_with (fail)
    go_ret
    exact ⟨by rw [d1, Bool.true_and]; rfl, HB3.out⟩
  · have d1 := decide_eq_false hle
    go_wp2_with (fail)
    go_ret
    exact ⟨by rw [d1, Bool.false_and]; rfl, HB2.out⟩
theorem below_drewK {B : Nat} {a w : World} (h : Below B a w) (n : Nat) : Below B a (w.drewN n) := ⟨h.os, h.tape, h.output, h.size, h.block⟩
def IvPost (l : List Ve) (x : Ve) (e : Ending) : Prop := ∃ z : Int, e = .returned (.int .i64 z) ∧ (0 ≤ z ↔ x ∈ l)
set_option maxRecDepth 100000 in
set_option maxHeartbeats 2000000 in
theorem indexV_any (l : List Ve) (x : Ve) (n c : Nat) (A : Option Addr) (w : World) (hn : l.length = n) (hn5 : n ≤ 5000) (hr : Row w w.heap.size A (recs veC l)) :
    Calls Tryz.prog 49 #[.slice A n c, veV x] w fun e w' => IvPost l x e ∧ Below w.heap.size w w' := by
  obtain ⟨g, eg⟩ : ∃ g, g = w.heap.size := ⟨_, rfl⟩
  obtain ⟨w0, e0⟩ : ∃ V : World, V = w.alloc (veB x) := ⟨_, rfl⟩
  have hb0 : Below w.heap.size w w0 := by rw [e0]; exact (Below.refl _ _).alloc (Nat.le_refl _) _
  have hg0 : w0.heap[g]? = some (veB x) := by rw [e0, eg]; exact heap_new w _
  have hl0 := (Array.getElem?_eq_some_iff.1 hg0).1
  have HR := Lib.hid ((hr.below hb0).mono hb0.size)
  have HN := Lib.hid hn
  have HB0 := Lib.hid hb0
  have HG0 := Lib.hid hg0
  clear hr hn hb0 hg0
  unfold veB at e0
  unfold veV
  go_enter Tryz.func49, Tryz.ntmps49
  go_upto_region 1 with (fail)
  rw [← eg, ← e0]
  clear e0 eg
  go_wp2_with (fail)
  go_loopw [8] (fun s wr => ∃ k : Nat, k ≤ n ∧ s = .int .i64 k ∧ Hid (∀ (j : Nat) (y : Ve), j < k → l[j]? = some y → x ≠ y) ∧ Hid (Below w0.heap.size w0 wr)) (fun s _ => n - (intOf s).toNat)
  case atStart => exact ⟨0, Nat.zero_le _, rfl, Lib.hid (fun j y hj => by omega), Lib.hid (Below.refl _ _)⟩
  case round =>
    obtain ⟨k, hk, rfl, HNO, HBL⟩ := hrel
    have hgr := (HBL.out.block g hl0).trans HG0.out
    have hlr := (Array.getElem?_eq_some_iff.1 hgr).1
    have q0 := cell_of_blk (j := 0) hgr rfl
    have q1 := cell_of_blk (j := 1) hgr rfl
    have q2 := cell_of_blk (j := 2) hgr rfl
    by_cases hlt : k < n
    · obtain ⟨y, hy⟩ : ∃ y, l[k]? = some y := ⟨_, List.getElem?_eq_getElem (by have := HN.out; omega)⟩
      obtain ⟨b, o, rfl, hbw, hC⟩ := (HR.out.below HBL.out).posR veC_len (by omega) (by have := HN.out; omega)
      have c0 : wr.cell? ⟨b, o + k * 3, none⟩ = some (.int .i64 y.a) := rec_cell veC_len hC k y hy 0 _ rfl
      have c1 := rec_cell veC_len hC k y hy 1 _ rfl
      have c2 := rec_cell veC_len hC k y hy 2 _ rfl
      have HX := Lib.hid hy
      have hlt' : (k : Int) < (n : Int) := by omega
      clear hC hy hgr
      by_cases hxy : x = y
      · have hq : ∀ W : World, (binOp .eql 29 (veV x) (veV y)).run Tryz.prog W = .ok (.bool true) W := fun W => by rw [ver_eql, decide_eq_true hxy]
        unfold veV at hq
        have HM := Lib.hid (show x ∈ l from by rw [hxy]; exact List.mem_of_getElem? HX.out)
        clear hxy
        go_wp2_with (fail)
        go_quiet (fail)
        go_wp2_with (fail)
        go_ret
        exact ⟨⟨_, rfl, iff_of_true (by omega) HM.out⟩, below_drewK (HB0.out.trans (HBL.out.mono HB0.out.size)) _⟩
      · have hq : ∀ W : World, (binOp .eql 29 (veV x) (veV y)).run Tryz.prog W = .ok (.bool false) W := fun W => by rw [ver_eql, decide_eq_false hxy]
        unfold veV at hq
        have HXY := Lib.hid hxy
        clear hxy
        go_wp2_with (fail)
        go_quiet (fail)
        go_wp2_with (fail)
        go_roundw
        case rel =>
          refine ⟨k + 1, by omega, by go_num, Lib.hid (fun j z hj hz => ?_), Lib.hid (below_drewK HBL.out _)⟩
          rcases Nat.lt_or_ge j k with h | h
          · exact HNO.out j z h hz
          · obtain rfl : j = k := by omega
            have hz2 := HX.out
            rw [hz] at hz2
            rw [Option.some.inj hz2]
            exact HXY.out
        case measure => simp [intOf]; omega
    · have hlt' : ¬ (k : Int) < (n : Int) := by omega
      have HM := Lib.hid (show x ∉ l from fun hm => by
        obtain ⟨m, hm⟩ := List.getElem?_of_mem hm
        exact HNO.out m x (by have := (List.getElem?_eq_some_iff.1 hm).1; have := HN.out; omega) hm rfl)
      go_wp2_with (fail)
      go_ret
      exact ⟨⟨_, rfl, iff_of_false (by omega) HM.out⟩, HB0.out.trans (HBL.out.mono HB0.out.size)⟩
set_option maxRecDepth 100000 in
theorem containsV_any (l : List Ve) (x : Ve) (n c : Nat) (A : Option Addr) (w : World) (hn : l.length = n) (hn5 : n ≤ 5000) (hr : Row w w.heap.size A (recs veC l)) :
    Calls Tryz.prog 16 #[.slice A n c, veV x] w fun e w' => e = .returned (.bool (decide (x ∈ l))) ∧ Below w.heap.size w w' := by
  obtain ⟨g, eg⟩ : ∃ g, g = w.heap.size := ⟨_, rfl⟩
  obtain ⟨w0, e0⟩ : ∃ V : World, V = w.alloc (veB x) := ⟨_, rfl⟩
  have hb0 : Below w.heap.size w w0 := by rw [e0]; exact (Below.refl _ _).alloc (Nat.le_refl _) _
  have hg0 : w0.heap[g]? = some (veB x) := by rw [e0, eg]; exact heap_new w _
  have hl0 := (Array.getElem?_eq_some_iff.1 hg0).1
  have HI := Lib.hid (indexV_any l x n c A w0 hn hn5 ((hr.below hb0).mono hb0.size))
  have HB0 := Lib.hid hb0
  have q0 := cell_of_blk (j := 0) hg0 rfl
  have q1 := cell_of_blk (j := 1) hg0 rfl
  have q2 := cell_of_blk (j := 2) hg0 rfl
  clear hr hn hb0 hg0
  unfold veB at e0
  unfold veV at HI ⊢
  go_enter Tryz.func16, Tryz.ntmps16
  go_upto_region 1 with (fail)
  rw [← eg, ← e0]
  clear e0 eg
  go_wp2_with (fail)
  refine HI.out.mono ?_
  rintro e w1 ⟨⟨z, rfl, hz⟩, hb⟩
  have HB := Lib.hid (HB0.out.trans (hb.mono HB0.out.size))
  have HZ := Lib.hid hz
  clear hb hz
  go_wp2_with (fail)
  go_ret
  exact ⟨by rw [decide_eq_decide.2 HZ.out] <;> rfl, HB.out⟩
end Go.Proofs.YtidgicbhgnbidaaGreatDoor
