/- Letters that are right: base.Unmarked at the three bodies, command.CheckLetter, CheckPost; a new office. -/
import Derived.Test.YtnnncddjcdjhoaaGreatDoorOfB
import Derived.Test.YtnnncddjcdjhoaaGreatDoorU8
namespace Go.Proofs.YtnnncddjcdjhoaaGreatDoor
open Go.RowKit

theorem unm_1 (w : World) (hT : U8T w) : Calls Tryz.prog 68 #[.string ⟨#[]⟩] w fun e w' => e = .returned (.bool true) ∧ Below w.heap.size w w' := by
  have HV := Lib.hid (valid_at ⟨#[]⟩ w (by decide) (by decide) hT)
  go_enter Tryz.func68, Tryz.ntmps68
  go_wp2_with (fail)
  refine wp_loop_rounds 1 ?_
  rw [rounds_succ]
  go_wp2_with (fail)
  refine HV.out.mono ?_
  rintro e w1 ⟨rfl, hb⟩
  have HB := Lib.hid hb
  clear hb
  go_wp2_with (fail)
  go_ret
  exact ⟨rfl, HB.out⟩
theorem unm_0 (w : World) (hT : U8T w) : Calls Tryz.prog 68 #[.string ⟨#[100, 111]⟩] w fun e w' => e = .returned (.bool true) ∧ Below w.heap.size w w' := by
  have HV := Lib.hid (valid_at ⟨#[100, 111]⟩ w (by decide) (by decide) hT)
  go_enter Tryz.func68, Tryz.ntmps68
  go_wp2_with (fail)
  refine wp_loop_rounds 3 ?_
  rw [rounds_succ]
  go_wp2_with (fail)
  rw [rounds_succ]
  go_wp2_with (fail)
  rw [rounds_succ]
  go_wp2_with (fail)
  refine HV.out.mono ?_
  rintro e w1 ⟨rfl, hb⟩
  have HB := Lib.hid hb
  clear hb
  go_wp2_with (fail)
  go_ret
  exact ⟨rfl, HB.out⟩
theorem unm_2 (w : World) (hT : U8T w) : Calls Tryz.prog 68 #[.string ⟨#[97, 32, 34, 98, 34]⟩] w fun e w' => e = .returned (.bool true) ∧ Below w.heap.size w w' := by
  have HV := Lib.hid (valid_at ⟨#[97, 32, 34, 98, 34]⟩ w (by decide) (by decide) hT)
  go_enter Tryz.func68, Tryz.ntmps68
  go_wp2_with (fail)
  refine wp_loop_rounds 6 ?_
  rw [rounds_succ]
  go_wp2_with (fail)
  rw [rounds_succ]
  go_wp2_with (fail)
  rw [rounds_succ]
  go_wp2_with (fail)
  rw [rounds_succ]
  go_wp2_with (fail)
  rw [rounds_succ]
  go_wp2_with (fail)
  rw [rounds_succ]
  go_wp2_with (fail)
  refine HV.out.mono ?_
  rintro e w1 ⟨rfl, hb⟩
  have HB := Lib.hid hb
  clear hb
  go_wp2_with (fail)
  go_ret
  exact ⟨rfl, HB.out⟩

theorem unm_bo (i : Nat) (w : World) (hT : U8T w) : Calls Tryz.prog 68 #[.string (boL i)] w fun e w' => e = .returned (.bool true) ∧ Below w.heap.size w w' := by
  match i with
  | 0 => exact unm_0 w hT
  | 1 => exact unm_1 w hT
  | n + 2 => exact unm_2 w hT
theorem bo_size (i : Nat) : (boL i).size ≤ 5 := by
  unfold boL
  split <;> decide
theorem idL_key (i : Nat) : isKey (idL i) = true := by
  unfold idL
  split <;> decide
theorem slL_key (i : Nat) (h : i ≠ 0) : isKey (slL i) = true := by
  match i with
  | 0 => exact absurd rfl h
  | 1 => decide
  | n + 2 => show isKey ⟨#[115, 98]⟩ = true; decide
theorem slL_case (i : Nat) : slL i = ⟨#[]⟩ ∨ isKey (slL i) = true ∧ (slL i).toList.isEmpty = false := by
  match i with
  | 0 => exact .inl rfl
  | 1 => exact .inr ⟨by decide, by rw [Lib.toList_data]; decide⟩
  | n + 2 => exact .inr (show isKey ⟨#[115, 98]⟩ = true ∧ ((⟨#[115, 98]⟩ : ByteArray)).toList.isEmpty = false from ⟨by decide, by rw [Lib.toList_data]; decide⟩)
set_option maxRecDepth 100000 in
set_option maxHeartbeats 2000000 in
theorem checkLetter_str (ix sx bx : ByteArray) (pr at_ un : Int) (w : World) (hi : isKey ix = true) (hs : sx = ⟨#[]⟩ ∨ isKey sx = true ∧ sx.toList.isEmpty = false) (hbx : bx.size ≤ 5) (hU : ∀ V, Below w.heap.size w V → Calls Tryz.prog 68 #[.string bx] V fun e w' => e = .returned (.bool true) ∧ Below V.heap.size V w') (hpr : 0 ≤ pr ∧ pr ≤ 9) (hat : 0 ≤ at_) (hun : at_ < un ∧ un ≤ 100000000) :
    Calls Tryz.prog 33 #[.agg #[.string ix, .string sx, .string bx, .int .i64 pr, .int .i64 at_, .int .i64 un]] w fun e w' => e = .returned (.int .i64 0) ∧ Below w.heap.size w w' := by
  have hu1 : ¬ un ≤ at_ := by omega
  have hu3 : ¬ 345686400000 < un := by omega
  have hbs : ¬ 1000 < (bx.size : Int) := by omega
  obtain ⟨g, eg⟩ : ∃ g, g = w.heap.size := ⟨_, rfl⟩
  obtain ⟨w1, e1⟩ : ∃ V : World, V = w.alloc (.cells #[.string ix, .string sx, .string bx, .int .i64 pr, .int .i64 at_, .int .i64 un] 35) := ⟨_, rfl⟩
  have hb1 : Below w.heap.size w w1 := by rw [e1]; exact (Below.refl _ _).alloc (Nat.le_refl _) _
  have hg1 : w1.heap[g]? = some (.cells #[.string ix, .string sx, .string bx, .int .i64 pr, .int .i64 at_, .int .i64 un] 35 (0, 0)) := by rw [e1, eg]; exact heap_new w _
  have hlg := (Array.getElem?_eq_some_iff.1 hg1).1
  have k0 := cell_of_blk (j := 0) hg1 rfl
  have k1 := cell_of_blk (j := 1) hg1 rfl
  have k2 := cell_of_blk (j := 2) hg1 rfl
  have HB1 := Lib.hid hb1
  have HU1 := Lib.hid (hU w1 hb1)
  have HG1 := Lib.hid hg1
  have HK := Lib.hid hi
  clear hU hi hb1 hg1
  go_enter Tryz.func33, Tryz.ntmps33
  go_upto_region 1 with (fail)
  rw [← eg, ← e1]
  clear eg e1
  rcases hs with hs | ⟨hs, hne⟩
  · subst hs
    go_wp2_with (go_at_call 67; refine (key_yes _ _ HK.out).mono ?_; rintro e w' ⟨rfl, rfl⟩)
    refine HU1.out.mono ?_
    rintro e w2 ⟨rfl, hb2⟩
    have hg2 := (hb2.block g hlg).trans HG1.out
    have hlg2 := (Array.getElem?_eq_some_iff.1 hg2).1
    clear k0 k1 k2
    have k3 := cell_of_blk (j := 3) hg2 rfl
    have k4 := cell_of_blk (j := 4) hg2 rfl
    have k5 := cell_of_blk (j := 5) hg2 rfl
    have HB2 := Lib.hid (HB1.out.trans (hb2.mono HB1.out.size))
    clear hb2 hg2
    go_wp2_with (first | (go_at_call 51; refine (moment_yes _ _ (by omega) (by omega)).mono ?_; rintro e w' ⟨rfl, rfl⟩) | (go_at_call 44; refine (out_no _ _ _ _ (by omega) (by omega)).mono ?_; rintro e w' ⟨rfl, rfl⟩))
    go_ret
    exact ⟨rfl, HB2.out⟩
  · have HKS := Lib.hid hs
    clear hs
    go_wp2_with (go_at_call 67; first | (with_reducible refine (key_yes _ _ HK.out).mono ?_; rintro e w' ⟨rfl, rfl⟩) | (with_reducible refine (key_yes _ _ HKS.out).mono ?_; rintro e w' ⟨rfl, rfl⟩))
    refine HU1.out.mono ?_
    rintro e w2 ⟨rfl, hb2⟩
    have hg2 := (hb2.block g hlg).trans HG1.out
    have hlg2 := (Array.getElem?_eq_some_iff.1 hg2).1
    clear k0 k1 k2
    have k3 := cell_of_blk (j := 3) hg2 rfl
    have k4 := cell_of_blk (j := 4) hg2 rfl
    have k5 := cell_of_blk (j := 5) hg2 rfl
    have HB2 := Lib.hid (HB1.out.trans (hb2.mono HB1.out.size))
    clear hb2 hg2
    go_wp2_with (first | (go_at_call 51; refine (moment_yes _ _ (by omega) (by omega)).mono ?_; rintro e w' ⟨rfl, rfl⟩) | (go_at_call 44; refine (out_no _ _ _ _ (by omega) (by omega)).mono ?_; rintro e w' ⟨rfl, rfl⟩))
    go_ret
    exact ⟨rfl, HB2.out⟩
theorem checkLetter_any (l : Ol) (w : World) (ok : OlOk l) (hT : U8T w) : Calls Tryz.prog 33 #[olV l] w fun e w' => e = .returned (.int .i64 0) ∧ Below w.heap.size w w' :=
  checkLetter_str _ _ _ _ _ _ w (idL_key l.id) (slL_case l.sl) (bo_size l.bo) (fun V hV => unm_bo l.bo V (hT.below hV)) ok.pr ok.at0 ok.un
set_option maxRecDepth 100000 in
theorem checkPost_any (p : Po) (w : World) (hp : PoOk p) : Calls Tryz.prog 43 #[.agg #[.int .i64 p.room, .int .i64 p.tmo, .int .i64 p.tri, .int .i64 p.kept]] w fun e w' => e = .returned (.int .i64 0) ∧ Below w.heap.size w w' := by
  have h1 := hp.room
  have h2 := hp.tmo
  have h3 := hp.tri
  have h4 := hp.kept
  have HB := Lib.hid (show Below w.heap.size w (w.alloc (.cells #[.int .i64 p.room, .int .i64 p.tmo, .int .i64 p.tri, .int .i64 p.kept] 45)) from (Below.refl _ _).alloc (Nat.le_refl _) _)
  go_enter Tryz.func43, Tryz.ntmps43
  go_wp2_with (go_at_call 44; refine (out_no _ _ _ _ (by omega) (by omega)).mono ?_; rintro e w' ⟨rfl, rfl⟩)
  go_ret
  exact ⟨rfl, HB.out⟩
set_option maxRecDepth 100000 in
theorem new_any (p : Po) (w : World) (hp : PoOk p) : Calls Tryz.prog 10 #[.agg #[.int .i64 p.room, .int .i64 p.tmo, .int .i64 p.tri, .int .i64 p.kept]] w fun e w' => ∃ o m, e = .returned (.tuple #[.pointer (some ⟨o, 0, none⟩), .int .i64 0]) ∧ OfI w' o m 0 [] p 0 ∧ Below w.heap.size w w' ∧ w.heap.size ≤ o ∧ w.heap.size ≤ m := by
  have hmk := @run_makeMap Tryz.prog
  obtain ⟨g, eg⟩ : ∃ g, g = w.heap.size := ⟨_, rfl⟩
  obtain ⟨w1, e1⟩ : ∃ V : World, V = w.alloc (.cells #[.int .i64 p.room, .int .i64 p.tmo, .int .i64 p.tri, .int .i64 p.kept] 45) := ⟨_, rfl⟩
  have hb1 : Below w.heap.size w w1 := by rw [e1]; exact (Below.refl _ _).alloc (Nat.le_refl _) _
  have hg1 : w1.heap[g]? = some (.cells #[.int .i64 p.room, .int .i64 p.tmo, .int .i64 p.tri, .int .i64 p.kept] 45 (0, 0)) := by rw [e1, eg]; exact heap_new w _
  have hlg := (Array.getElem?_eq_some_iff.1 hg1).1
  have k0 := cell_of_blk (j := 0) hg1 rfl
  have k1 := cell_of_blk (j := 1) hg1 rfl
  have k2 := cell_of_blk (j := 2) hg1 rfl
  have k3 := cell_of_blk (j := 3) hg1 rfl
  have HB1 := Lib.hid hb1
  have HG1 := Lib.hid hg1
  clear hb1 hg1
  go_enter Tryz.func10, Tryz.ntmps10
  go_upto_region 1 with (fail)
  rw [← eg, ← e1]
  clear eg e1
  go_wp2_with (fail)
  refine (checkPost_any p w1 hp).mono ?_
  rintro e w2 ⟨rfl, hb2⟩
  have hg2 := (hb2.block g hlg).trans HG1.out
  have hlg2 := (Array.getElem?_eq_some_iff.1 hg2).1
  clear k0 k1 k2 k3
  have k0 := cell_of_blk (j := 0) hg2 rfl
  have k1 := cell_of_blk (j := 1) hg2 rfl
  have k2 := cell_of_blk (j := 2) hg2 rfl
  have k3 := cell_of_blk (j := 3) hg2 rfl
  have HB2 := Lib.hid (HB1.out.trans (hb2.mono HB1.out.size))
  have HF := Lib.hid (show OfI ((w2.alloc (.map #[] 0)).alloc (.cells #[.int .i64 p.room, .int .i64 p.tmo, .int .i64 p.tri, .int .i64 p.kept, .map (some w2.heap.size), .int .i64 0] 82)) (w2.heap.size + 1) w2.heap.size 0 [] p 0 ∧ Below w.heap.size w ((w2.alloc (.map #[] 0)).alloc (.cells #[.int .i64 p.room, .int .i64 p.tmo, .int .i64 p.tri, .int .i64 p.kept, .map (some w2.heap.size), .int .i64 0] 82)) from by
    have hb3 : Below w.heap.size w (w2.alloc (.map #[] 0)) := HB2.out.alloc HB2.out.size _
    refine ⟨⟨?_, ?_, ⟨List.Pairwise.nil, by simp, by simp, List.Pairwise.nil⟩⟩, hb3.alloc hb3.size _⟩
    · have := heap_new (w2.alloc (.map #[] 0)) (.cells #[.int .i64 p.room, .int .i64 p.tmo, .int .i64 p.tri, .int .i64 p.kept, .map (some w2.heap.size), .int .i64 0] 82)
      simpa [ofB] using this
    · unfold MpI
      rw [Below.heap_alloc _ _ _ (by simp)]
      exact heap_new w2 _)
  have hsz := HB2.out.size
  clear hb2 hg2
  go_wp2_with (fail)
  refine bodyPost_ret (v := .tuple #[.pointer (some ⟨w2.heap.size + 1, 0, none⟩), .int .i64 0]) (by simp [results, Tryz.results10, go_sem]) rfl ?_
  exact ⟨_, _, rfl, HF.out.1, HF.out.2, by omega, hsz⟩
end Go.Proofs.YtnnncddjcdjhoaaGreatDoor
