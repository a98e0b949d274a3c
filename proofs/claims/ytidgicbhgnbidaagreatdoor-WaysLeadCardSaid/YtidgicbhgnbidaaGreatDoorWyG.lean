/- Way and Reach, by their contracts. Printed by gen_WyG.py. -/
import Derived.Test.YtidgicbhgnbidaaGreatDoorWyF
import Derived.Test.YtidgicbhgnbidaaGreatDoorWyM
import Derived.Test.YtidgicbhgnbidaaGreatDoorWyS
import Derived.Test.YtidgicbhgnbidaaGreatDoorQtt
namespace Go.Proofs.YtidgicbhgnbidaaGreatDoor
open Go.RowKit

/-- What a way is, and whether there is one. -/
def WyIn (L : List Im) (v t : Ve) (w : World) (A : Option Addr) (c n : Nat) (ok : Bool) (w' : World) : Prop :=
  (ok = false ∧ ¬ Rch L t v ∧ A = none ∧ n = 0 ∧ c = 0 ∨ ok = true ∧ ∃ l : List Ve, Rch L t v ∧ wayV L v l t ∧ n = l.length ∧ n ≤ 8 ∧ (∀ u ∈ l, VeOk u) ∧ w'.ownsRow w.heap.size 29 3 (.slice A n c) n (recs veC l)) ∧ Below w.heap.size w w'
theorem way1_form {L : List Im} {v t : Ve} {w w' : World} {e : Ending} (h : Way1Post L v t w e w') : ∃ (A : Option Addr) (c n : Nat) (ok : Bool), e = .returned (.tuple #[.slice A n c, .bool ok]) ∧ WyIn L v t w A c n ok w' := by
  rcases h with ⟨h1, rfl, h2⟩ | ⟨l, A, c, n, h1, h2, h3, h4, h5, rfl, h6, h7⟩
  · exact ⟨none, 0, 0, false, rfl, .inl ⟨rfl, h1, rfl, rfl, rfl⟩, h2⟩
  · exact ⟨A, c, n, true, rfl, .inr ⟨rfl, l, h1, h2, h3, h4, h5, h6⟩, h7⟩
def CutW (L : List Im) (v t : Ve) (w2 : World) (a b : Value) (wx : World) : Prop :=
  ∃ (A : Option Addr) (c n : Nat) (ok : Bool) (w3 : World), a = .slice A n c ∧ b = .bool ok ∧ WyIn L v t w3 A c n ok wx ∧ Below w2.heap.size w2 w3
def WayPost (L : List Im) (v t : Ve) (w : World) (e : Ending) (w' : World) : Prop :=
  (¬ Rch L t v ∧ e = .returned (.tuple #[.slice none 0 0, .int .i64 8]) ∧ Below w.heap.size w w') ∨
  ∃ (l : List Ve) (A : Option Addr) (c n : Nat), Rch L t v ∧ wayV L v l t ∧ n = l.length ∧ n ≤ 8 ∧ (∀ u ∈ l, VeOk u) ∧ e = .returned (.tuple #[.slice A n c, .int .i64 0]) ∧ w'.ownsRow w.heap.size 29 3 (.slice A n c) n (recs veC l) ∧ Below w.heap.size w w'
set_option maxRecDepth 100000 in
set_option maxHeartbeats 8000000 in
theorem way_any (L : List Im) (v t : Ve) (N C : Nat) (AL : Option Addr) (w : World) (hI : ImsI w w.heap.size AL L) (hN : L.length = N) (hL : ImsOk L) (hv : VeOk v) (ht : VeOk t) :
    Calls Tryz.prog 10 #[.slice AL N C, .string ⟨#[109]⟩, veV v, veV t] w fun e w' => WayPost L v t w e w' := by
  obtain ⟨g7, eg7⟩ : ∃ g, g = w.heap.size := ⟨_, rfl⟩
  obtain ⟨g8, eg8⟩ : ∃ g, g = w.heap.size + 1 := ⟨_, rfl⟩
  obtain ⟨w0, e0⟩ : ∃ V : World, V = (w.alloc (veB v)).alloc (veB t) := ⟨_, rfl⟩
  have hb0 : Below w.heap.size w w0 := by rw [e0]; exact ((Below.refl _ _).alloc (Nat.le_refl _) _).alloc (by simp) _
  have hg7 : w0.heap[g7]? = some (veB v) := by rw [e0, eg7, Below.heap_alloc _ _ _ (by simp)]; exact heap_new w _
  have hg8 : w0.heap[g8]? = some (veB t) := by
    have h := heap_new (w.alloc (veB v)) (veB t)
    rw [show (w.alloc (veB v)).heap.size = w.heap.size + 1 by simp] at h
    rw [e0, eg8]; exact h
  have hl7 := (Array.getElem?_eq_some_iff.1 hg7).1
  have hl8 := (Array.getElem?_eq_some_iff.1 hg8).1
  have HI := Lib.hid (hI.up hb0)
  have HB0 := Lib.hid hb0
  have HG7 := Lib.hid hg7
  have HG8 := Lib.hid hg8
  have HN := Lib.hid hN
  have HL := Lib.hid hL
  have HV := Lib.hid hv
  have HTV := Lib.hid ht
  obtain ⟨w1, e1⟩ : ∃ V : World, V = w0.alloc (.cells #[.int .i64 v.a, .int .i64 v.b, .int .i64 v.c, .int .i64 t.a, .int .i64 t.b, .int .i64 t.c] 29) := ⟨_, rfl⟩
  have hb1 : Below w0.heap.size w0 w1 := by rw [e1]; exact (Below.refl _ _).alloc (Nat.le_refl _) _
  have hr1 : Row w1 w1.heap.size (some ⟨w0.heap.size, 0, none⟩) (recs veC [v, t]) := .inr ⟨w0.heap.size, 0, rfl, by rw [e1]; simp, by
    rw [e1]
    exact Cells.new _ _ _ _ _ rfl⟩
  have HMF := Lib.hid (modelFault_any L N C AL [v, t] 2 2 (some ⟨w0.heap.size, 0, none⟩) w1 (HI.out.up hb1) hN hL rfl (by omega) hr1 (by
    intro u hu
    simp only [List.mem_cons, List.not_mem_nil, or_false] at hu
    rcases hu with h | h <;> rw [h]
    · exact hv
    · exact ht))
  have HB1 := Lib.hid hb1
  have q0 := cell_of_blk (j := 0) hg7 rfl
  have q1 := cell_of_blk (j := 1) hg7 rfl
  have q2 := cell_of_blk (j := 2) hg7 rfl
  have r0 := cell_of_blk (j := 0) hg8 rfl
  have r1 := cell_of_blk (j := 1) hg8 rfl
  have r2 := cell_of_blk (j := 2) hg8 rfl
  unfold veB at e0
  unfold veV
  clear hb0 hg7 hg8 hN hL hv ht hI hb1 hr1
  go_enter Tryz.func10, Tryz.ntmps10
  go_upto_region 1 with (fail)
  rw [← eg8, ← eg7, ← e0]
  clear e0 eg7 eg8
  go_wp2_with (fail)
  rw [← e1]
  clear e1
  refine HMF.out.mono ?_
  rintro e w2 ⟨rfl, hb2⟩
  have HB2 := Lib.hid (HB1.out.trans (hb2.mono HB1.out.size))
  have hbd : Below w2.heap.size w2 w2.drew := by
    have h1 : Below w2.heap.size w2 w2 := Below.refl _ _
    exact ⟨h1.os, h1.tape, h1.output, h1.size, h1.block⟩
  have HG2 := Lib.hid (show w2.heap[g7]? = some (veB v) ∧ w2.heap[g8]? = some (veB t) from ⟨(HB2.out.block g7 hl7).trans HG7.out, (HB2.out.block g8 hl8).trans HG8.out⟩)
  have hg7 := HG2.out.1
  have hg8 := HG2.out.2
  have hl27 := (Array.getElem?_eq_some_iff.1 hg7).1
  have hl28 := (Array.getElem?_eq_some_iff.1 hg8).1
  have HID := Lib.hid ((HI.out.up HB2.out).up hbd)
  have HBD := Lib.hid hbd
  have HCO := Lib.hid (costs_any L t N C AL w2.drew HID.out HN.out HL.out HTV.out)
  unfold CosPost veV at HCO
  clear q0 q1 q2 r0 r1 r2 hb2 HMF hbd
  have q0 := cell_of_blk (j := 0) hg7 rfl
  have q1 := cell_of_blk (j := 1) hg7 rfl
  have q2 := cell_of_blk (j := 2) hg7 rfl
  have r0 := cell_of_blk (j := 0) hg8 rfl
  have r1 := cell_of_blk (j := 1) hg8 rfl
  have r2 := cell_of_blk (j := 2) hg8 rfl
  clear hg7 hg8
  go_upto_region 4 with (fail)
  go_cut [11, 12] (fun a b wx => CutW L v t w2 a b wx)
  case first =>
    go_region_law (first
      | (go_simp
         go_at_call 39
         (with_reducible refine HCO.out.mono ?_)
         rintro e w3 ⟨m, T, rfl, hm, hmw, hT, hb3⟩
         have hg73 := (hb3.block g7 hl27).trans HG2.out.1
         have hg83 := (hb3.block g8 hl28).trans HG2.out.2
         have hl37 := (Array.getElem?_eq_some_iff.1 hg73).1
         have hl38 := (Array.getElem?_eq_some_iff.1 hg83).1
         have u0 := cell_of_blk (j := 0) hg73 rfl
         have u1 := cell_of_blk (j := 1) hg73 rfl
         have u2 := cell_of_blk (j := 2) hg73 rfl
         have x0 := cell_of_blk (j := 0) hg83 rfl
         have x1 := cell_of_blk (j := 1) hg83 rfl
         have x2 := cell_of_blk (j := 2) hg83 rfl
         have HWY := Lib.hid (way1_any L v t N C m T AL w3 (HID.out.up hb3) HN.out HL.out HV.out HTV.out hm hT)
         have HWZ := Lib.hid (HWY.out.mono (fun e w' h => way1_form h))
         unfold veV at HWZ)
      | (go_simp
         go_at_call 38
         (with_reducible refine HWZ.out.mono ?_)
         rintro e w4 ⟨A4, c4, n4, ok, rfl, hin⟩))
    all_goals
      have HF := Lib.hid (show CutW L v t w2 (.slice A4 n4 c4) (.bool ok) w4 from ⟨A4, c4, n4, ok, w3, rfl, rfl, hin, HBD.out.trans (hb3.mono HBD.out.size)⟩)
      go_wp2_with (fail)
      go_meet
      exact HF.out
  case rest =>
  obtain ⟨A4, c4, n4, ok, w3, rfl, rfl, hin, hb3⟩ := hcut
  obtain ⟨w4, rfl⟩ : ∃ wy : World, wy = wc := ⟨_, rfl⟩
  have hbw : Below w.heap.size w w3 := HB0.out.trans ((HB2.out.trans (hb3.mono HB2.out.size)).mono HB0.out.size)
  rcases hin with ⟨⟨rfl, h1, rfl, rfl, rfl⟩ | ⟨rfl, l, h1, h2, h3, h4, h5, h6⟩, h7⟩
  · have HF := Lib.hid (show WayPost L v t w (.returned (.tuple #[.slice none 0 0, .int .i64 8])) w4 from .inl ⟨h1, rfl, hbw.trans (h7.mono hbw.size)⟩)
    clear hb3 hbw h1 h7
    go_wp2_with (fail)
    refine bodyPost_ret (v := .tuple #[.slice none 0 0, .int .i64 8]) (by simp [results, Tryz.results10, go_sem]) rfl ?_
    exact HF.out
  · have HF := Lib.hid (show WayPost L v t w (.returned (.tuple #[.slice A4 n4 c4, .int .i64 0])) w4 from .inr ⟨l, A4, c4, n4, h1, h2, h3, h4, h5, rfl, own_mono h6 hbw.size, hbw.trans (h7.mono hbw.size)⟩)
    clear hb3 hbw h1 h2 h3 h4 h5 h6 h7
    go_wp2_with (fail)
    refine bodyPost_ret (v := .tuple #[.slice A4 n4 c4, .int .i64 0]) (by simp [results, Tryz.results10, go_sem]) rfl ?_
    exact HF.out
end Go.Proofs.YtidgicbhgnbidaaGreatDoor
