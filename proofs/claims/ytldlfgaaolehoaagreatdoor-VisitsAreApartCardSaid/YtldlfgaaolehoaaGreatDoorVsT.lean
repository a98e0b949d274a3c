/- place.Surely by its contract. -/
import Derived.Test.YtldlfgaaolehoaaGreatDoorVsS
namespace Go.Proofs.YtldlfgaaolehoaaGreatDoor
open Go.RowKit

theorem goodF_one {x : Fx} (h : OkF x) : GoodF [x] := ⟨by simp, fun y hy => by rw [List.mem_singleton] at hy; subst hy; exact h, by simp⟩
/-- A fence and where devices were: all within bounds. -/
structure FcN (l : List Pt) : Prop where
  nar : ∀ y ∈ l, NarF (ptF y)

set_option maxRecDepth 100000 in
set_option maxHeartbeats 4000000 in
theorem surelyF_any (l : List Pt) (x : Fx) (n c b o : Nat) (w : World) (hf : FcAt w l n c b o) (hl : FcN l) (hx : NarF x) (hxo : OkF x) :
    Calls Tryz.prog 45 #[fcV (some ⟨b, o, none⟩) n c, fxV x] w fun e w' => e = .returned (.tuple #[.int .i64 (sureW l x), .int .i64 0]) ∧ Below w.heap.size w w' := by
  have hlo := hf.ok.lo
  have hhi := hf.ok.hi
  have hln := hf.len
  have HSU := Lib.hid (fun (V : World) (hV : Below w.heap.size w V) => surely_any l x n c b o V hf.len (by omega) (by omega) hl.nar (fun y hy => (hf.ok.sp y hy).wide) hx hxo (hf.below hV).cells (hf.below hV).lt)
  have HCF := Lib.hid (fun (V : World) (hV : Below w.heap.size w V) => checkFence_any l n c b o V (hf.below hV))
  have HCX := Lib.hid (fun (V : World) (g : Nat) (hg : V.heap[g]? = some (.cells #[.string ⟨#[100]⟩, .int .i64 x.1, .int .i64 x.2.1, .int .i64 x.2.2.1, .int .i64 x.2.2.2] 97 (0, 0))) => checkFixes_any [x] 1 1 (some ⟨g, 0, none⟩) V rfl (goodF_one hxo) (.inr ⟨g, 0, rfl, (Array.getElem?_eq_some_iff.1 hg).1, by
    intro j v hv
    have h := (Array.getElem?_eq_some_iff.1 hg)
    rw [Nat.zero_add]
    exact cell_of_blk hg (by
      have : (recs fxC [x]) = [.string ⟨#[100]⟩, .int .i64 x.1, .int .i64 x.2.1, .int .i64 x.2.2.1, .int .i64 x.2.2.2] := by simp [recs, fxC]
      rw [this] at hv
      simpa using hv)⟩))
  have HFI := Lib.hid (fun (V : World) => first_ok 2 2 V.heap.size (V.alloc (.cells #[.int .i64 0, .int .i64 0] 29)) (by omega) (Cells.new V _ _ _ _ rfl))
  obtain ⟨r, er⟩ : ∃ r, r = sureW l x := ⟨_, rfl⟩
  rw [← er] at HSU ⊢
  clear hf hl hx hxo er hlo hhi hln
  obtain ⟨xa, xx, xy, xe⟩ := x
  unfold fxV at HSU ⊢
  unfold fcV at HCF ⊢
  simp only at HSU HCX ⊢
  go_enter Tryz.func45, Tryz.ntmps45
  go_upto_region 1 with (fail)
  generalize hW : (w.alloc (.cells #[.string ⟨#[102]⟩, .slice (some ⟨b, o, none⟩) n c] 80)).alloc (.cells #[.string ⟨#[100]⟩, .int .i64 xa, .int .i64 xx, .int .i64 xy, .int .i64 xe] 97) = W
  have hWs : W.heap.size = w.heap.size + 1 + 1 := by rw [← hW]; simp
  have hBW : Below w.heap.size w W := by rw [← hW]; exact ((Below.refl _ _).alloc (Nat.le_refl _) _).alloc (by simp) _
  have ha0 : W.heap[w.heap.size]? = some (.cells #[.string ⟨#[102]⟩, .slice (some ⟨b, o, none⟩) n c] 80 (0, 0)) := by rw [← hW, Below.heap_alloc _ _ _ (by simp)]; exact heap_new w _
  have hb0 : W.heap[w.heap.size + 1]? = some (.cells #[.string ⟨#[100]⟩, .int .i64 xa, .int .i64 xx, .int .i64 xy, .int .i64 xe] 97 (0, 0)) := by
    rw [← hW]
    have h := heap_new (w.alloc (.cells #[.string ⟨#[102]⟩, .slice (some ⟨b, o, none⟩) n c] 80)) (.cells #[.string ⟨#[100]⟩, .int .i64 xa, .int .i64 xx, .int .i64 xy, .int .i64 xe] 97)
    rwa [World.size_alloc] at h
  have HKEEP := Lib.hid (fun (V : World) (hV : Below W.heap.size W V) => show V.cell? ⟨w.heap.size, 0, none⟩ = some (.string ⟨#[102]⟩) ∧ V.cell? ⟨w.heap.size, 1, none⟩ = some (.slice (some ⟨b, o, none⟩) n c) ∧ V.cell? ⟨w.heap.size + 1, 0, none⟩ = some (.string ⟨#[100]⟩) ∧ V.cell? ⟨w.heap.size + 1, 1, none⟩ = some (.int .i64 xa) ∧ V.cell? ⟨w.heap.size + 1, 2, none⟩ = some (.int .i64 xx) ∧ V.cell? ⟨w.heap.size + 1, 3, none⟩ = some (.int .i64 xy) ∧ V.cell? ⟨w.heap.size + 1, 4, none⟩ = some (.int .i64 xe) from by
    have h0 := (hV.block w.heap.size (by omega)).trans ha0
    have h1 := (hV.block (w.heap.size + 1) (by omega)).trans hb0
    exact ⟨cell_of_blk (j := 0) h0 rfl, cell_of_blk (j := 1) h0 rfl, cell_of_blk (j := 0) h1 rfl, cell_of_blk (j := 1) h1 rfl, cell_of_blk (j := 2) h1 rfl, cell_of_blk (j := 3) h1 rfl, cell_of_blk (j := 4) h1 rfl⟩)
  have HBW := Lib.hid hBW
  obtain ⟨q0, q1, q2, q3, q4, q5, q6⟩ := HKEEP.out W (Below.refl _ _)
  have HAL := Lib.hid (show Below W.heap.size W (W.alloc (.cells #[.string ⟨#[100]⟩, .int .i64 xa, .int .i64 xx, .int .i64 xy, .int .i64 xe] 97)).drew from ((Below.refl _ _).alloc (Nat.le_refl _) _).drew)
  have HNW := Lib.hid (show (W.alloc (.cells #[.string ⟨#[100]⟩, .int .i64 xa, .int .i64 xx, .int .i64 xy, .int .i64 xe] 97)).drew.heap[W.heap.size]? = some (.cells #[.string ⟨#[100]⟩, .int .i64 xa, .int .i64 xx, .int .i64 xy, .int .i64 xe] 97 (0, 0)) from heap_new W _)
  have HA1 := Lib.hid (HCF.out (W.alloc (.cells #[.string ⟨#[100]⟩, .int .i64 xa, .int .i64 xx, .int .i64 xy, .int .i64 xe] 97)).drew (HBW.out.trans (HAL.out.mono HBW.out.size)))
  have HA2 := Lib.hid (HCF.out W.drew HBW.out.drew)
  have HA4 := Lib.hid (HCX.out (W.alloc (.cells #[.string ⟨#[100]⟩, .int .i64 xa, .int .i64 xx, .int .i64 xy, .int .i64 xe] 97)).drew W.heap.size HNW.out)
  have HA6 := Lib.hid (fun (V : World) => HCX.out (V.alloc (.cells #[.string ⟨#[100]⟩, .int .i64 xa, .int .i64 xx, .int .i64 xy, .int .i64 xe] 97)) V.heap.size (heap_new V _))
  have HA5 := Lib.hid (fun (V : World) (hV : Below W.heap.size W V) => HCF.out V (HBW.out.trans (hV.mono HBW.out.size)))
  clear hW hBW ha0 hb0 HCF hWs
  go_cut [6] (fun s6 wx => s6 = .int .i64 0 ∧ Below W.heap.size W wx)
  case first =>
    go_region_held3 (fun V => V.cell? ⟨w.heap.size, 0, none⟩ = some (.string ⟨#[102]⟩) ∧ V.cell? ⟨w.heap.size, 1, none⟩ = some (.slice (some ⟨b, o, none⟩) n c) ∧ V.cell? ⟨w.heap.size + 1, 0, none⟩ = some (.string ⟨#[100]⟩) ∧ V.cell? ⟨w.heap.size + 1, 1, none⟩ = some (.int .i64 xa) ∧ V.cell? ⟨w.heap.size + 1, 2, none⟩ = some (.int .i64 xx) ∧ V.cell? ⟨w.heap.size + 1, 3, none⟩ = some (.int .i64 xy) ∧ V.cell? ⟨w.heap.size + 1, 4, none⟩ = some (.int .i64 xe))
      (first | go_keep | (exact hS))
      (first
        | (go_at_call 60; have hq := hbC; (with_reducible refine (HFI.out _).mono ?_); rintro e wZ ⟨rfl, rfl⟩; have hbZ := hbC.alloc hbC.size (.cells #[.int .i64 0, .int .i64 0] 29); have hS := HKEEP.out _ hbZ)
        | (go_at_call 91; have hq := hbD; (with_reducible refine (HA5.out wD hbD).mono ?_); rintro e wC ⟨rfl, hb⟩; have hbC := hbD.trans (hb.mono hbD.size); clear hb; have hS := HKEEP.out wC hbC)
        | (go_at_call 97; have hq := hbA; (with_reducible refine (HCX.out wA W.heap.size hxA).mono ?_); rintro e wC ⟨rfl, hb⟩; have hbC := hbA.trans (hb.mono hbA.size); clear hb; have hS := HKEEP.out wC hbC)
        | (go_at_call 97; have hq := hbE; (with_reducible refine (HA6.out wE).mono ?_); rintro e wC ⟨rfl, hb⟩; have hbC := (hbE.alloc hbE.size (.cells #[.string ⟨#[100]⟩, .int .i64 xa, .int .i64 xx, .int .i64 xy, .int .i64 xe] 97)).trans (hb.mono (by have := hbE.size; simp; omega)); clear hb; have hS := HKEEP.out wC hbC)
        | (go_at_call 91; (with_reducible refine HA1.out.mono ?_); rintro e wA ⟨rfl, hb⟩; have hbA := HAL.out.trans (hb.mono HAL.out.size); have hxA := (hb.block W.heap.size (Array.getElem?_eq_some_iff.1 HNW.out).1).trans HNW.out; clear hb; have hS := HKEEP.out wA hbA)
        | (go_at_call 91; (with_reducible refine HA2.out.mono ?_); rintro e wE ⟨rfl, hb⟩; have hbE : Below W.heap.size W wE := ((Below.refl _ _).drew).trans hb; clear hb; have hS := HKEEP.out wE hbE)
        | (go_at_call 97; (with_reducible refine HA4.out.mono ?_); rintro e wD ⟨rfl, hb⟩; have hbD := HAL.out.trans (hb.mono HAL.out.size); clear hb; have hS := HKEEP.out wD hbD))
    all_goals
      go_wp2_with (fail)
      go_meet
      exact ⟨rfl, hbZ⟩
  case rest =>
    obtain ⟨rfl, hbx⟩ := hcut
    have HBX := Lib.hid (HBW.out.trans (hbx.mono HBW.out.size))
    clear q0 q1 q2 q3 q4 q5 q6
    obtain ⟨q0, q1, q2, q3, q4, q5, q6⟩ := HKEEP.out wc hbx
    clear hbx
    go_wp2_with (fail)
    refine (HSU.out wc HBX.out).mono ?_
    rintro e w9 ⟨rfl, hb9⟩
    have HB9 := Lib.hid (HBX.out.trans (hb9.mono HBX.out.size))
    clear hb9
    go_wp2_with (fail)
    go_ret2
    exact ⟨rfl, HB9.out⟩
end Go.Proofs.YtldlfgaaolehoaaGreatDoor
