/- Fences: place.Meet of right arguments by their contracts. -/
import Derived.Test.YthplhibdapjjgaaGreatDoorFeI
import Derived.Test.YthplhibdapjjgaaGreatDoorQtt
import Derived.Test.YthplhibdapjjgaaGreatDoorMgA
import Derived.Test.YthplhibdapjjgaaGreatDoorFeD
namespace Go.Proofs.YthplhibdapjjgaaGreatDoor
open Go.RowKit

set_option maxRecDepth 100000 in
set_option maxHeartbeats 2000000 in
theorem meetF_any (l m : List Pt) (n c b o n' c' b' o' : Nat) (w : World) (hf : FcAt w l n c b o) (hg : FcAt w m n' c' b' o') :
    Calls Tryz.prog 12 #[fcV (some ⟨b, o, none⟩) n c, fcV (some ⟨b', o', none⟩) n' c'] w fun e w' => e = .returned (.tuple #[.bool (tcB l m), .int .i64 0]) ∧ Below w.heap.size w w' := by
  have HC1 := Lib.hid (fun (V : World) (hV : Below w.heap.size w V) => checkFence_any l n c b o V (hf.below hV))
  have HC2 := Lib.hid (fun (V : World) (hV : Below w.heap.size w V) => checkFence_any m n' c' b' o' V (hg.below hV))
  have HTC := Lib.hid (fun (V : World) (hV : Below w.heap.size w V) => touch_any l m n n' c c' b o b' o' V hf.len hg.len (by rw [← hf.len]; have := hf.ok.lo; omega) (by rw [← hg.len]; have := hg.ok.lo; omega) (by rw [← hf.len]; have := hf.ok.hi; omega) (by rw [← hg.len]; have := hg.ok.hi; omega)
    (fun x hx => (hf.ok.sp x hx).wide) (fun x hx => (hg.ok.sp x hx).wide) (hf.below hV).cells (hg.below hV).cells (hf.below hV).lt (hg.below hV).lt)
  obtain ⟨r, er⟩ : ∃ r, r = tcB l m := ⟨_, rfl⟩
  rw [← er] at HTC ⊢
  clear hf hg er
  unfold fcV at HC1 HC2 ⊢
  go_enter Tryz.func12, Tryz.ntmps12
  go_upto_region 1 with (fail)
  generalize hW : (w.alloc (.cells #[.string ⟨#[102]⟩, .slice (some ⟨b, o, none⟩) n c] 28)).alloc (.cells #[.string ⟨#[102]⟩, .slice (some ⟨b', o', none⟩) n' c'] 28) = W
  have hBW : Below w.heap.size w W := by rw [← hW]; exact ((Below.refl _ _).alloc (Nat.le_refl _) _).alloc (by simp) _
  have ha0 : W.heap[w.heap.size]? = some (.cells #[.string ⟨#[102]⟩, .slice (some ⟨b, o, none⟩) n c] 28 (0, 0)) := by rw [← hW, Below.heap_alloc _ _ _ (by simp)]; exact heap_new w _
  have hb0 : W.heap[w.heap.size + 1]? = some (.cells #[.string ⟨#[102]⟩, .slice (some ⟨b', o', none⟩) n' c'] 28 (0, 0)) := by rw [← hW]; have := heap_new (w.alloc (.cells #[.string ⟨#[102]⟩, .slice (some ⟨b, o, none⟩) n c] 28)) (.cells #[.string ⟨#[102]⟩, .slice (some ⟨b', o', none⟩) n' c'] 28); simpa using this
  have hWs : W.heap.size = w.heap.size + 1 + 1 := by rw [← hW]; simp
  have HBW := Lib.hid hBW
  have HQ := Lib.hid (fun (V : World) (hV : Below W.heap.size W V) => show V.cell? ⟨w.heap.size, 0, none⟩ = some (.string ⟨#[102]⟩) ∧ V.cell? ⟨w.heap.size, 1, none⟩ = some (.slice (some ⟨b, o, none⟩) n c) ∧ V.cell? ⟨w.heap.size + 1, 0, none⟩ = some (.string ⟨#[102]⟩) ∧ V.cell? ⟨w.heap.size + 1, 1, none⟩ = some (.slice (some ⟨b', o', none⟩) n' c') from by
    have h1 := (hV.block w.heap.size (by omega)).trans ha0
    have h2 := (hV.block (w.heap.size + 1) (by omega)).trans hb0
    exact ⟨cell_of_blk (j := 0) h1 rfl, cell_of_blk (j := 1) h1 rfl, cell_of_blk (j := 0) h2 rfl, cell_of_blk (j := 1) h2 rfl⟩)
  have HV1 := Lib.hid (fun (V : World) (hV : Below W.heap.size W V) => HC1.out V (HBW.out.trans (hV.mono HBW.out.size)))
  have HV2 := Lib.hid (fun (V : World) (hV : Below W.heap.size W V) => HC2.out V (HBW.out.trans (hV.mono HBW.out.size)))
  clear hW hBW ha0 hb0
  go_upto_region 1 with (fail)
  refine qRegionTail 4 (by kernel_rfl) (by kernel_rfl) ?_
  simp only [List.take_succ_cons, List.take_zero, List.drop_succ_cons, List.drop_zero]
  repeat (first
    | (go_big_quiet_want; refine qVal (fun V hV => (by (obtain ⟨q0, q1, q2, q3⟩ := HQ.out V hV; go_simp; try rfl))) ?_; simp only [Act.put, List.setIfInBounds_toArray, List.set_cons_zero, List.set_cons_succ]; go_big_quiet_on)
    | (go_big_quiet_want
       refine qCall (fun V hV => (by (obtain ⟨q0, q1, q2, q3⟩ := HQ.out V hV; go_simp; exact ⟨rfl, rfl⟩))) (fun V hV => (by first
         | with_reducible exact (HV1.out V hV).mono (fun e w' h => ⟨h.1, hV.trans (h.2.mono hV.size)⟩)
         | with_reducible exact (HV2.out V hV).mono (fun e w' h => ⟨h.1, hV.trans (h.2.mono hV.size)⟩))) ?_
       simp only [Act.put, List.setIfInBounds_toArray, List.set_cons_zero, List.set_cons_succ]; go_big_quiet_on)
    | go_big_quiet_skip)
  refine wpQuiet_nil ?_
  intro w1 hb1
  have HB1 := Lib.hid hb1
  clear hb1
  have HF := Lib.hid (show Cells (w1.alloc (.cells #[.int .i64 0, .int .i64 0] 32)) w1.heap.size 0 (List.replicate 2 (.int .i64 0)) from Cells.new _ _ _ _ _ rfl)
  go_wp2_with (go_at_call 33; refine (first_ok 2 2 _ _ (by omega) HF.out).mono ?_; rintro e w' ⟨rfl, rfl⟩; generalize hV : w1.alloc (.cells #[.int .i64 0, .int .i64 0] 32) = V; have hBV : Below W.heap.size W V := (hV ▸ HB1.out.alloc HB1.out.size _); obtain ⟨q0, q1, q2, q3⟩ := HQ.out V hBV; have HBV := Lib.hid (HBW.out.trans (hBV.mono HBW.out.size)); clear hV hBV HF)
  refine (HTC.out V HBV.out).mono ?_
  rintro e w2 ⟨rfl, hb2⟩
  have HB2 := Lib.hid (HBV.out.trans (hb2.mono HBV.out.size))
  clear hb2
  go_wp2_with (fail)
  go_ret2
  exact ⟨rfl, HB2.out⟩
end Go.Proofs.YthplhibdapjjgaaGreatDoor
