/- Begins and Wave by their contracts. -/
import Derived.Test.YtidgicbhgnbidaaGreatDoorCmG
namespace Go.Proofs.YtidgicbhgnbidaaGreatDoor
open Go.RowKit

/-- How a campaign stands at a moment. -/
def fiV (C : Cm) (F : List Dv) (t : Int) (l : List Mk) : St := unA (wvN C) C F t l (nwV (wvN C) C F)
set_option maxRecDepth 100000 in
set_option maxHeartbeats 4000000 in
theorem begins_any (C : Cm) (F : List Dv) (l : List Mk) (n c m c2 : Nat) (A A2 : Option Addr) (t : Int) (w : World) (hC : CmOk C) (hF : FlOk F) (hl : MksOk l) (hn : F.length = n) (hm : l.length = m) (ht : 0 ≤ t ∧ t ≤ 1000000)
    (hw : Row w w.heap.size C.wa (recs wvC C.ws)) (hr : Row w w.heap.size A (recs dvC F)) (hr2 : Row w w.heap.size A2 (recs mkC l)) :
    Calls Tryz.prog 28 #[cmV C, .slice A n c, .slice A2 m c2, .int .i64 t] w fun e w' => (∃ A' c' k, k = (fiV C F t l).be.length ∧ e = .returned (.tuple #[.slice A' k c', .int .i64 0])) ∧ Below w.heap.size w w' := by
  obtain ⟨gc, egc⟩ : ∃ g, g = w.heap.size := ⟨_, rfl⟩
  obtain ⟨w0, e0⟩ : ∃ V : World, V = w.alloc (cmB C) := ⟨_, rfl⟩
  have hb0 : Below w.heap.size w w0 := by rw [e0]; exact (Below.refl _ _).alloc (Nat.le_refl _) _
  have hc0 : w0.heap[gc]? = some (cmB C) := by rw [e0, egc]; exact heap_new w _
  have HFA := Lib.hid (fault_any C F l gc n c m c2 A A2 t w0 hC hF hl hn hm ht hc0 ((hw.below hb0).mono hb0.size) ((hr.below hb0).mono hb0.size) ((hr2.below hb0).mono hb0.size))
  have HC := Lib.hid hC
  have HF := Lib.hid hF
  have HL := Lib.hid hl
  have HN := Lib.hid (And.intro hn hm)
  have HW := Lib.hid hw
  have HR := Lib.hid hr
  have HR2 := Lib.hid hr2
  have HB0 := Lib.hid hb0
  have HC0 := Lib.hid hc0
  have hgl := (Array.getElem?_eq_some_iff.1 hc0).1
  have HGC := Lib.hid egc
  unfold cmB at e0
  unfold cmV
  clear hC hF hl hn hm hw hr hr2 hb0 hc0
  go_enter Tryz.func28, Tryz.ntmps28
  go_upto_region 1 with (fail)
  rw [← egc, ← e0]
  clear e0 egc
  go_wp2_with (fail)
  refine HFA.out.mono ?_
  rintro e w1 ⟨rfl, hb1⟩
  have HB1 := Lib.hid (HB0.out.trans (hb1.mono HB0.out.size))
  have HC1 := Lib.hid ((hb1.block gc hgl).trans HC0.out)
  clear hb1 HFA
  have HNS := Lib.hid (newState_any C F n c gc w.heap.size A w1 HC.out HF.out HN.out.1 HC1.out (by have := HGC.out; omega) (HW.out.below HB1.out) ((HR.out.below HB1.out).mono HB1.out.size))
  go_wp2_with (fail)
  refine HNS.out.mono ?_
  rintro e w2 ⟨a, rfl, ha, hi2, hb2⟩
  have HI2 := Lib.hid hi2
  have HB2 := Lib.hid (HB1.out.trans (hb2.mono HB1.out.size))
  clear hb2 hi2 HNS ha
  have HU := Lib.hid (until_any C F a _ l w.heap.size m c2 A2 t w2 HC.out HF.out HL.out HN.out.2 ht (nwV_ok HC.out HF.out) HI2.out (HR2.out.below HB2.out))
  go_wp2_with (fail)
  refine HU.out.mono ?_
  rintro e w3 ⟨rfl, hi3, hb3⟩
  have HB3 := Lib.hid (HB2.out.trans hb3)
  obtain ⟨A3, c3, h1, _, _⟩ := hi3.st
  obtain ⟨k, ek⟩ : ∃ k, k = (fiV C F t l).be.length := ⟨_, rfl⟩
  have HK := Lib.hid ek
  have p6 : w3.cell? ⟨a.s, 6, none⟩ = some (.slice A3 k c3) := by rw [ek]; exact cell_of_blk (j := 6) h1 rfl
  have hls := (Array.getElem?_eq_some_iff.1 h1).1
  clear hi3 hb3 h1 HU ek
  go_wp2_with (fail)
  refine bodyPost_ret (v := .tuple #[.slice A3 k c3, .int .i64 0]) (by simp [results, Tryz.results28, go_sem]) rfl ?_
  exact ⟨⟨A3, c3, k, HK.out, rfl⟩, HB3.out⟩
set_option maxRecDepth 100000 in
set_option maxHeartbeats 4000000 in
theorem wave_any (C : Cm) (d : Nat) (w : World) (hC : CmOk C) (hd : d < 6) (hw : Row w w.heap.size C.wa (recs wvC C.ws)) :
    Calls Tryz.prog 32 #[cmV C, .string (dvT d)] w fun e w' => e = .returned (.tuple #[.int .i64 (wvN C d : Int), .int .i64 0]) ∧ Below w.heap.size w w' := by
  obtain ⟨gc, egc⟩ : ∃ g, g = w.heap.size := ⟨_, rfl⟩
  obtain ⟨w0, e0⟩ : ∃ V : World, V = w.alloc (cmB C) := ⟨_, rfl⟩
  have hb0 : Below w.heap.size w w0 := by rw [e0]; exact (Below.refl _ _).alloc (Nat.le_refl _) _
  have hc0 : w0.heap[gc]? = some (cmB C) := by rw [e0, egc]; exact heap_new w _
  have hk := dvT_key hd
  have HW := Lib.hid hw
  have HC := Lib.hid hC
  have HCK := Lib.hid (checkCampaign_any C w0 hC ((hw.below hb0).mono hb0.size))
  have HB0 := Lib.hid hb0
  have HC0 := Lib.hid hc0
  have hgl := (Array.getElem?_eq_some_iff.1 hc0).1
  have c0 := cell_of_blk (j := 0) hc0 rfl
  have c1 := cell_of_blk (j := 1) hc0 rfl
  have c2 := cell_of_blk (j := 2) hc0 rfl
  have c3 := cell_of_blk (j := 3) hc0 rfl
  have c4 := cell_of_blk (j := 4) hc0 rfl
  have c5 := cell_of_blk (j := 5) hc0 rfl
  have c6 := cell_of_blk (j := 6) hc0 rfl
  have c7 := cell_of_blk (j := 7) hc0 rfl
  have c8 := cell_of_blk (j := 8) hc0 rfl
  unfold cmB at e0
  unfold cmV at HCK ⊢
  clear hC hw hb0 hc0
  go_enter Tryz.func32, Tryz.ntmps32
  go_upto_region 1 with (fail)
  rw [← egc, ← e0]
  clear e0 egc
  go_wp2_with (fail)
  refine HCK.out.mono ?_
  rintro e w1 ⟨rfl, hb1⟩
  have HB1 := Lib.hid (HB0.out.trans (hb1.mono HB0.out.size))
  have HC1 := Lib.hid ((hb1.block gc hgl).trans HC0.out)
  have HWO := Lib.hid (waveOf_any C d gc w1 HC.out HC1.out ((HW.out.below HB1.out).mono HB1.out.size))
  clear hb1 HCK c0 c1 c2 c3 c4 c5 c6 c7 c8
  go_wp2_with (go_at_call 69; refine (key_yes _ _ hk).mono ?_; rintro e w' ⟨rfl, rfl⟩)
  refine HWO.out.mono ?_
  rintro e w2 ⟨rfl, hb2⟩
  have HB2 := Lib.hid (HB1.out.trans (hb2.mono HB1.out.size))
  clear hb2 HWO
  go_wp2_with (fail)
  refine bodyPost_ret (v := .tuple #[.int .i64 (wvN C d : Int), .int .i64 0]) (by simp [results, Tryz.results32, go_sem]) rfl ?_
  exact ⟨rfl, HB2.out⟩
end Go.Proofs.YtidgicbhgnbidaaGreatDoor
