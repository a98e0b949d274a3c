/- Raw cells; twin.isName and twin.CheckCells at the one cell of the name "zz". Printed by gen_TsA.py. -/
import Derived.Test.YtkcpfppjdjkjeaaGreatDoorCeK
namespace Go.Proofs.YtkcpfppjdjkjeaaGreatDoor
open Go.RowKit

/-- A cell as it lies, of any name. -/
structure Cr where
  a : ByteArray
  k : Int
  f : Bool
  n : Int
  s : ByteArray
  t : Int
  b : ByteArray
  o : Int
def crC (x : Cr) : List Value := [.string x.a, .int .i64 x.k, .bool x.f, .int .i64 x.n, .string x.s, .int .i64 x.t, .string x.b, .int .i64 x.o]
theorem crC_len (x : Cr) : (crC x).length = 8 := rfl
theorem crC_one (x : Cr) : ∀ u ∈ crC x, u.oneCell' = true := by
  intro u hu
  simp only [crC, List.mem_cons, List.not_mem_nil, or_false] at hu
  rcases hu with h | h | h | h | h | h | h | h <;> rw [h] <;> rfl
def crO (x : Ce) : Cr := ⟨nm x.1, x.2.1.k, x.2.1.f, x.2.1.n, x.2.1.s, x.2.2.at_, byT x.2.2.by_, x.2.2.no⟩
theorem recs_crO (l : List Ce) : recs crC (l.map crO) = recs ceC l := by
  induction l with
  | nil => rfl
  | cons x l ih => unfold recs at ih ⊢; simp only [List.map_cons, List.flatMap_cons]; rw [ih]; rfl
def zzR : Cr := ⟨⟨#[122, 122]⟩, 1, false, 0, ⟨#[]⟩, 9, ⟨#[122]⟩, 0⟩
theorem nm_zz (i : Nat) (h : i < 7) : Lib.compareBytes (nm i).data.toList (⟨#[122, 122]⟩ : ByteArray).data.toList = -1 := by
  have : i = 0 ∨ i = 1 ∨ i = 2 ∨ i = 3 ∨ i = 4 ∨ i = 5 ∨ i = 6 := by omega
  rcases this with h | h | h | h | h | h | h <;> subst h <;> rfl
theorem cutN_zz (w : World) : Calls Tryz.prog 118 #[.string ⟨#[122, 122]⟩, .string ⟨#[46]⟩] w fun e w' => e = .returned (.tuple #[.string ⟨#[122, 122]⟩, .string ⟨#[]⟩, .bool false]) ∧ Below w.heap.size w w' := by
  have H := lindex_dot ⟨#[122, 122]⟩ (-1) w (by rw [Lib.toList_data]; decide) (by decide)
  go_enter Tryz.func118, Tryz.ntmps118
  go_wp2_with (fail)
  go_enter Tryz.func145, Tryz.ntmps145
  go_wp2_with (go_at_call 167; refine H.mono ?_; rintro e w' ⟨rfl, rfl⟩)
  go_ret3
  exact ⟨rfl, Below.refl _ _⟩
theorem dottedN_zz (w : World) : Calls Tryz.prog 75 #[.string ⟨#[122, 122]⟩, .int .i64 8] w fun e w' => e = .returned (.bool true) ∧ Below w.heap.size w w' := by
  go_enter Tryz.func75, Tryz.ntmps75
  go_wp2_with (fail)
  refine wp_loop_rounds 1 ?_
  rw [rounds_succ]
  go_wp2_with (fail)
  refine (cutN_zz _).mono ?_
  rintro e w1 ⟨rfl, hb1⟩
  have HB1 := Lib.hid hb1
  clear hb1
  go_wp2_with (go_at_call 78; refine (key_yes _ _ (by kernel_rfl)).mono ?_; rintro e w' ⟨rfl, rfl⟩)
  go_ret
  exact ⟨rfl, HB1.out⟩
theorem isName_zz (w : World) : Calls Tryz.prog 40 #[.string ⟨#[122, 122]⟩] w fun e w' => e = .returned (.bool true) ∧ Below w.heap.size w w' := by
  go_enter Tryz.func40, Tryz.ntmps40
  go_wp2_with (fail)
  refine (dottedN_zz _).mono ?_
  rintro e w1 ⟨rfl, hb⟩
  have HB := Lib.hid hb
  clear hb
  go_wp2_with (fail)
  go_ret
  exact ⟨rfl, HB.out⟩
set_option maxRecDepth 100000 in
set_option maxHeartbeats 4000000 in
theorem checkOne_any (b o c : Nat) (w : World) (hb : b < w.heap.size) (hC : Cells w b o (crC zzR)) (hT : U8T w) :
    Calls Tryz.prog 31 #[.slice (some ⟨b, o, none⟩) 1 c] w fun e w' => e = .returned (.int .i64 0) ∧ Below w.heap.size w w' := by
  have HC := Lib.hid hC
  have HT := Lib.hid (fun V (hV : Below w.heap.size w V) => hT.below hV)
  clear hC hT
  go_enter Tryz.func31, Tryz.ntmps31
  go_wp2_with (fail)
  go_loopw [11] (fun s wr => ∃ (i : Nat), i ≤ 1 ∧ s = .int .i64 (i : Int) ∧ Below w.heap.size w wr) (fun s _ => 1 - (intOf s).toNat)
  case atStart => exact ⟨0, by omega, rfl, Below.refl _ _⟩
  case round =>
    obtain ⟨i, hin, rfl, hbr⟩ := hrel
    have hbs := hbr.size
    have HB := Lib.hid hbr
    clear hbr
    by_cases hlt : i < 1
    · obtain rfl : i = 0 := by omega
      have c0 := (HB.out.cell (p := ⟨b, o, none⟩) hb).trans (HC.out 0 _ rfl)
      have c1 := (HB.out.cell (p := ⟨b, o + 1, none⟩) hb).trans (HC.out 1 _ rfl)
      have c2 := (HB.out.cell (p := ⟨b, o + 2, none⟩) hb).trans (HC.out 2 _ rfl)
      have c3 := (HB.out.cell (p := ⟨b, o + 3, none⟩) hb).trans (HC.out 3 _ rfl)
      have c4 := (HB.out.cell (p := ⟨b, o + 4, none⟩) hb).trans (HC.out 4 _ rfl)
      have c5 := (HB.out.cell (p := ⟨b, o + 5, none⟩) hb).trans (HC.out 5 _ rfl)
      have c6 := (HB.out.cell (p := ⟨b, o + 6, none⟩) hb).trans (HC.out 6 _ rfl)
      have c7 := (HB.out.cell (p := ⟨b, o + 7, none⟩) hb).trans (HC.out 7 _ rfl)
      simp only [zzR] at c0 c1 c2 c3 c4 c5 c6 c7
      go_wp2_with (fail)
      refine (isName_zz _).mono ?_
      rintro e w1 ⟨rfl, hb1⟩
      have hg : w1.heap[wr.heap.size]? = some (.cells #[.string ⟨#[122, 122]⟩, .int .i64 1, .bool false, .int .i64 0, .string ⟨#[]⟩, .int .i64 9, .string ⟨#[122]⟩, .int .i64 0] 41 (0, 0)) := (hb1.block wr.heap.size (by simp)).trans (heap_new wr _)
      have hz1 := hb1.size
      simp only [World.size_alloc] at hz1
      have HB1 := Lib.hid ((HB.out.alloc hbs _).trans (hb1.mono (by simp; omega)))
      have HG1 := Lib.hid hg
      have hlt1 : wr.heap.size < w1.heap.size := by omega
      have HQ := Lib.hid (fun (V : World) (hV : Below w1.heap.size w1 V) => by
        have h := (hV.block wr.heap.size hlt1).trans HG1.out
        exact (⟨cell_of_blk (j := 0) h rfl, cell_of_blk (j := 1) h rfl, cell_of_blk (j := 2) h rfl, cell_of_blk (j := 3) h rfl, cell_of_blk (j := 4) h rfl, cell_of_blk (j := 5) h rfl, cell_of_blk (j := 6) h rfl, cell_of_blk (j := 7) h rfl⟩ : V.cell? ⟨wr.heap.size, 0, none⟩ = some (.string ⟨#[122, 122]⟩) ∧ V.cell? ⟨wr.heap.size, 1, none⟩ = some (.int .i64 1) ∧ V.cell? ⟨wr.heap.size, 2, none⟩ = some (.bool false) ∧ V.cell? ⟨wr.heap.size, 3, none⟩ = some (.int .i64 0) ∧ V.cell? ⟨wr.heap.size, 4, none⟩ = some (.string ⟨#[]⟩) ∧ V.cell? ⟨wr.heap.size, 5, none⟩ = some (.int .i64 9) ∧ V.cell? ⟨wr.heap.size, 6, none⟩ = some (.string ⟨#[122]⟩) ∧ V.cell? ⟨wr.heap.size, 7, none⟩ = some (.int .i64 0)))
      have HV1 := Lib.hid (fun (V : World) (hV : Below w1.heap.size w1 V) => valueFault_any ⟨1, false, 0, ⟨#[]⟩⟩ V (.inr (.inl ⟨rfl, rfl, rfl⟩)) (HT.out _ (HB1.out.trans (hV.mono (by omega)))))
      have HV2 := Lib.hid (fun (V : World) => stampFault_any ⟨9, 3, 0⟩ (by unfold SpOk; simp) V)
      simp only [byT] at HV2
      clear hb1 hg c0 c1 c2 c3 c4 c5 c6 c7
      go_upto_region 8 with (fail)
      refine qRegionTail 7 (by kernel_rfl) (by kernel_rfl) ?_
      simp only [List.take_succ_cons, List.take_zero, List.drop_succ_cons, List.drop_zero]
      repeat (first
        | (go_big_quiet_want; refine qVal (fun V hV => (by (obtain ⟨q0, q1, q2, q3, q4, q5, q6, q7⟩ := HQ.out V hV; go_simp; try rfl))) ?_; simp only [Act.put, List.setIfInBounds_toArray, List.set_cons_zero, List.set_cons_succ]; go_big_quiet_on)
        | (go_big_quiet_want
           refine qCall (fun V hV => (by (obtain ⟨q0, q1, q2, q3, q4, q5, q6, q7⟩ := HQ.out V hV; go_simp; exact ⟨rfl, rfl⟩))) (fun V hV => (by first
             | with_reducible exact (HV1.out V hV).mono (fun e w' h => ⟨h.1, hV.trans (h.2.mono hV.size)⟩)
             | with_reducible exact (HV2.out V).mono (fun e w' h => ⟨h.1, hV.trans (h.2.mono hV.size)⟩))) ?_
           simp only [Act.put, List.setIfInBounds_toArray, List.set_cons_zero, List.set_cons_succ]; go_big_quiet_on)
        | go_big_quiet_skip)
      refine wpQuiet_nil ?_
      intro w2 hb2
      have HB2 := Lib.hid hb2
      clear hb2
      have HF := Lib.hid (show Cells (w2.alloc (.cells #[.int .i64 0, .int .i64 0] 30)) w2.heap.size 0 (List.replicate 2 (.int .i64 0)) from Cells.new _ _ _ _ _ rfl)
      go_upto_region 11 with (go_at_call 30; refine (first_ok 2 2 _ _ (by omega) HF.out).mono ?_; rintro e w' ⟨rfl, rfl⟩)
      generalize hV : w2.alloc (.cells #[.int .i64 0, .int .i64 0] 30) = V
      have hBV : Below w1.heap.size w1 V := (hV ▸ HB2.out.alloc HB2.out.size _)
      have hzV := hBV.size
      obtain ⟨q0, q1, q2, q3, q4, q5, q6, q7⟩ := HQ.out V hBV
      have HBV := Lib.hid (HB1.out.trans (hBV.mono (by omega)))
      clear hV hBV HF HV1 HV2 q1 q2 q3 q4 q5 q6 q7
      have hd : decide ((0 : Int) < 0) = false := by decide
      go_wp2_with (fail)
      go_quiet (fail)
      go_wp2_with (fail)
      go_roundw
      case rel => exact ⟨1, by omega, by simp, below_drewN HBV.out _⟩
      case measure => simp [intOf]
    · obtain rfl : i = 1 := by omega
      go_wp2_with (fail)
      go_ret
      exact ⟨rfl, HB.out⟩
end Go.Proofs.YtkcpfppjdjkjeaaGreatDoor
