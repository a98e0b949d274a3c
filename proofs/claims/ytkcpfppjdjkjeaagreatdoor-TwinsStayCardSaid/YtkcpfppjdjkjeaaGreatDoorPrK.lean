/- twin.CheckChanges at right changes by its contract. -/
import Derived.Test.YtkcpfppjdjkjeaaGreatDoorPrJ
import Derived.Test.YtkcpfppjdjkjeaaGreatDoorQtt
import Derived.Deep.CutRange
namespace Go.Proofs.YtkcpfppjdjkjeaaGreatDoor
open Go.RowKit

def ChsOk (l : List Ch) : Prop := l.Pairwise (fun x y => x.1 < y.1) ∧ ∀ x ∈ l, x.1 < 7 ∧ (x.2.1 = pvNone ∨ PvOk x.2.1) ∧ (x.2.2 = pvNone ∨ PvOk x.2.2) ∧ x.2.1 ≠ x.2.2
theorem chs_ok {a b : List Pr} (ha : PrsOk a) (hb : PrsOk b) : ChsOk (chs (vo a) (vo b)) := by
  refine ⟨chs_rising _ _, fun x hx => ?_⟩
  rw [mem_chs] at hx
  obtain ⟨h1, h2, h3⟩ := hx
  rw [h3]
  exact ⟨h1, ha.vo x.1, hb.vo x.1, h2⟩
def ChAt (V : World) (b o : Nat) (x : Ch) : Prop :=
  V.cell? ⟨b, o, none⟩ = some (.string (nm x.1)) ∧ V.cell? ⟨b, o + 1, none⟩ = some (.int .i64 x.2.1.k) ∧ V.cell? ⟨b, o + 2, none⟩ = some (.bool x.2.1.f) ∧ V.cell? ⟨b, o + 3, none⟩ = some (.int .i64 x.2.1.n) ∧ V.cell? ⟨b, o + 4, none⟩ = some (.string x.2.1.s) ∧ V.cell? ⟨b, o + 5, none⟩ = some (.int .i64 x.2.2.k) ∧ V.cell? ⟨b, o + 6, none⟩ = some (.bool x.2.2.f) ∧ V.cell? ⟨b, o + 7, none⟩ = some (.int .i64 x.2.2.n) ∧ V.cell? ⟨b, o + 8, none⟩ = some (.string x.2.2.s)
theorem ch_cells {w : World} {b o : Nat} {l : List Ch} (h : Cells w b o (recs chC l)) (i : Nat) (x : Ch) (hx : l[i]? = some x) : ChAt w b (o + i * 9) x :=
  ⟨rec_cell chC_len h i x hx 0 _ rfl, rec_cell chC_len h i x hx 1 _ rfl, rec_cell chC_len h i x hx 2 _ rfl, rec_cell chC_len h i x hx 3 _ rfl, rec_cell chC_len h i x hx 4 _ rfl, rec_cell chC_len h i x hx 5 _ rfl, rec_cell chC_len h i x hx 6 _ rfl, rec_cell chC_len h i x hx 7 _ rfl, rec_cell chC_len h i x hx 8 _ rfl⟩
def ChB (V : World) (b : Nat) (x : Ch) : Prop :=
  V.cell? ⟨b, 0, none⟩ = some (.string (nm x.1)) ∧ V.cell? ⟨b, 1, none⟩ = some (.int .i64 x.2.1.k) ∧ V.cell? ⟨b, 2, none⟩ = some (.bool x.2.1.f) ∧ V.cell? ⟨b, 3, none⟩ = some (.int .i64 x.2.1.n) ∧ V.cell? ⟨b, 4, none⟩ = some (.string x.2.1.s) ∧ V.cell? ⟨b, 5, none⟩ = some (.int .i64 x.2.2.k) ∧ V.cell? ⟨b, 6, none⟩ = some (.bool x.2.2.f) ∧ V.cell? ⟨b, 7, none⟩ = some (.int .i64 x.2.2.n) ∧ V.cell? ⟨b, 8, none⟩ = some (.string x.2.2.s)
/-- The block that a change was copied into. -/
def chBlk (x : Ch) : Obj := .cells #[.string (nm x.1), .int .i64 x.2.1.k, .bool x.2.1.f, .int .i64 x.2.1.n, .string x.2.1.s, .int .i64 x.2.2.k, .bool x.2.2.f, .int .i64 x.2.2.n, .string x.2.2.s] 81 (0, 0)
theorem ch_blk {V : World} {b : Nat} {x : Ch} (h : V.heap[b]? = some (chBlk x)) : ChB V b x :=
  ⟨cell_of_blk (j := 0) h rfl, cell_of_blk (j := 1) h rfl, cell_of_blk (j := 2) h rfl, cell_of_blk (j := 3) h rfl, cell_of_blk (j := 4) h rfl, cell_of_blk (j := 5) h rfl, cell_of_blk (j := 6) h rfl, cell_of_blk (j := 7) h rfl, cell_of_blk (j := 8) h rfl⟩
theorem rising_getC {l : List Ch} (h : l.Pairwise (fun x y => x.1 < y.1)) {i k : Nat} {x y : Ch} (hi : l[i]? = some x) (hk : l[k]? = some y) (hik : i < k) : x.1 < y.1 := by
  obtain ⟨h1, rfl⟩ := List.getElem?_eq_some_iff.1 hi
  obtain ⟨h2, rfl⟩ := List.getElem?_eq_some_iff.1 hk
  exact (List.pairwise_iff_getElem.1 h) i k h1 h2 hik
set_option maxRecDepth 100000 in
set_option maxHeartbeats 4000000 in
theorem checkChanges_any (l : List Ch) (n c : Nat) (A : Option Addr) (w : World) (hl : ChsOk l) (hn : l.length = n) (hn7 : n ≤ 100) (hr : Row w w.heap.size A (recs chC l)) (hT : U8T w) :
    Calls Tryz.prog 41 #[.slice A n c] w fun e w' => e = .returned (.int .i64 0) ∧ Below w.heap.size w w' := by
  have HR := Lib.hid hr
  have HL := Lib.hid hl
  have HN := Lib.hid hn
  have HT := Lib.hid (fun V (hV : Below w.heap.size w V) => hT.below hV)
  have hnI : ¬ (n : Int) > 1000 := by omega
  have hnI2 : ¬ (1000 : Int) < n := by omega
  clear hr hl hn hT
  go_enter Tryz.func41, Tryz.ntmps41
  go_wp2_with (fail)
  go_loopw [11] (fun s wr => ∃ (i : Nat), i ≤ n ∧ s = .int .i64 (i : Int) ∧ Below w.heap.size w wr) (fun s _ => n - (intOf s).toNat)
  case atStart => exact ⟨0, by omega, rfl, Below.refl _ _⟩
  case round =>
    obtain ⟨i, hin, rfl, hbr⟩ := hrel
    have hbs := hbr.size
    have HB := Lib.hid hbr
    clear hbr
    by_cases hlt : i < n
    · have hltI : (i : Int) < n := by omega
      obtain ⟨x, hx⟩ : ∃ x, l[i]? = some x := ⟨_, List.getElem?_eq_getElem (by have := HN.out; omega)⟩
      obtain ⟨b, o, rfl, hb, hC⟩ := (HR.out.below HB.out).posR chC_len (by omega) (by have := HN.out; omega)
      obtain ⟨hx7, hxf, hxt, hxn⟩ := HL.out.2 x (List.mem_of_getElem? hx)
      have HXF := Lib.hid hxf
      have HXT := Lib.hid hxt
      have HXN := Lib.hid hxn
      obtain ⟨c0, c1, c2, c3, c4, c5, c6, c7, c8⟩ := ch_cells hC i x hx
      have HP := Lib.hid hx
      clear hx hC hxf hxt hxn
      go_wp2_with (fail)
      refine (isName_nm x.1 _).mono ?_
      rintro e w1 ⟨rfl, hb1⟩
      have hg : w1.heap[wr.heap.size]? = some (chBlk x) := (hb1.block wr.heap.size (by simp)).trans (heap_new wr _)
      have hz1 := hb1.size
      simp only [World.size_alloc] at hz1
      have HB1 := Lib.hid ((HB.out.alloc hbs _).trans (hb1.mono (by simp; omega)))
      have HG1 := Lib.hid hg
      have hlt1 : wr.heap.size < w1.heap.size := by omega
      have HQ := Lib.hid (fun (V : World) (hV : Below w1.heap.size w1 V) => show ChB V wr.heap.size x from ch_blk ((hV.block wr.heap.size hlt1).trans HG1.out))
      have HV1 := Lib.hid (fun (V : World) (hV : Below w1.heap.size w1 V) => valueFault_any x.2.1 V HXF.out (HT.out _ (HB1.out.trans (hV.mono (by omega)))))
      have HV2 := Lib.hid (fun (V : World) (hV : Below w1.heap.size w1 V) => valueFault_any x.2.2 V HXT.out (HT.out _ (HB1.out.trans (hV.mono (by omega)))))
      clear hb1 hg c0 c1 c2 c3 c4 c5 c6 c7 c8
      go_upto_region 8 with (fail)
      refine qRegionTail 6 (by kernel_rfl) (by kernel_rfl) ?_
      simp only [List.take_succ_cons, List.take_zero, List.drop_succ_cons, List.drop_zero]
      repeat (first
        | (go_big_quiet_want; refine qVal (fun V hV => (by (obtain ⟨q0, q1, q2, q3, q4, q5, q6, q7, q8⟩ := HQ.out V hV; go_simp; try rfl))) ?_; simp only [Act.put, List.setIfInBounds_toArray, List.set_cons_zero, List.set_cons_succ]; go_big_quiet_on)
        | (go_big_quiet_want
           refine qCall (fun V hV => (by (obtain ⟨q0, q1, q2, q3, q4, q5, q6, q7, q8⟩ := HQ.out V hV; go_simp; exact ⟨rfl, rfl⟩))) (fun V hV => (by first
             | with_reducible exact (HV1.out V hV).mono (fun e w' h => ⟨h.1, hV.trans (h.2.mono hV.size)⟩)
             | with_reducible exact (HV2.out V hV).mono (fun e w' h => ⟨h.1, hV.trans (h.2.mono hV.size)⟩))) ?_
           simp only [Act.put, List.setIfInBounds_toArray, List.set_cons_zero, List.set_cons_succ]; go_big_quiet_on)
        | go_big_quiet_skip)
      refine wpQuiet_nil ?_
      intro w2 hb2
      have HB2 := Lib.hid hb2
      clear hb2
      have HF := Lib.hid (show Cells (w2.alloc (.cells #[.int .i64 0, .int .i64 0] 30)) w2.heap.size 0 (List.replicate 2 (.int .i64 0)) from Cells.new _ _ _ _ _ rfl)
      go_upto_region 11 with (go_at_call 30; refine (first_ok 2 2 _ _ (by omega) HF.out).mono ?_; rintro e w' ⟨rfl, rfl⟩)
      generalize hV : w2.alloc (.cells #[.int .i64 0, .int .i64 0] 30) = V
      have hBV : Below w1.heap.size w1 V := (hV ▸ HB2.out.alloc HB2.out.size _)
      have hzV := hBV.size
      obtain ⟨q0, q1, q2, q3, q4, q5, q6, q7, q8⟩ := HQ.out V hBV
      have HBV := Lib.hid (HB1.out.trans (hBV.mono (by omega)))
      clear hV hBV HF HV1 HV2
      obtain ⟨r, ⟨k1, f1, n1, s1⟩, ⟨k2, f2, n2, s2⟩⟩ := x
      simp only at q0 q1 q2 q3 q4 q5 q6 q7 q8 hx7
      have hne := HXN.out
      simp only at hne
      go_cut [35] from 12 to 49 (fun s wx => s = .bool false ∧ wx = V)
      case first =>
        go_wp2_with (fail)
        all_goals go_meet
        all_goals first
          | exact ⟨by simp_all [toList_same], rfl⟩
          | exact absurd (by simp_all [toList_same]) hne
      case rest =>
        obtain ⟨rfl, rfl⟩ := hcut
        clear hne
        by_cases hi0 : i = 0
        · subst hi0
          have hd : decide ((0 : Int) < 0) = false := by decide
          go_wp2_with (fail)
          go_quiet (fail)
          go_wp2_with (fail)
          go_roundw
          case rel => exact ⟨1, by omega, by simp, below_drewN HBV.out _⟩
          case measure => simp [intOf]; omega
        · have hi1 : 1 ≤ i := by omega
          have hi1I : (0 : Int) < i := by omega
          have hd : decide ((0 : Int) < i) = true := by simpa using hi1I
          have hd2 : decide (0 < i) = true := by simp; omega
          have hd3 : 0 < i := hi1
          obtain ⟨q, hq⟩ : ∃ q, l[i - 1]? = some q := ⟨_, List.getElem?_eq_getElem (by have := HN.out; omega)⟩
          obtain ⟨b', o', e', hb', hC⟩ := (HR.out.below HBV.out).posR chC_len (by omega) (by have := HN.out; omega)
          cases e'
          have hq7 := (HL.out.2 q (List.mem_of_getElem? hq)).1
          have hqp := rising_getC HL.out.1 hq HP.out (by omega)
          obtain ⟨d0, _⟩ := ch_cells hC (i - 1) q hq
          have hwrap : (i : Int) - 1 = ((i - 1 : Nat) : Int) := by omega
          clear hC hq
          go_wp2_with (fail)
          go_quiet (fail)
          have hle : (Op.bytesLess (nm r).toList (nm q.1).toList || (nm r).toList == (nm q.1).toList) = false := by rw [nm_le _ _ hx7 hq7]; simp; omega
          rw [hle]
          clear hle
          go_wp2_with (fail)
          go_roundw
          case rel => exact ⟨i + 1, by omega, by simp, below_drewN HBV.out _⟩
          case measure => simp [intOf]; omega
    · have hltI : ¬ (i : Int) < n := by omega
      have hin' : i = n := by omega
      subst hin'
      go_wp2_with (fail)
      go_ret
      exact ⟨rfl, HB.out⟩
end Go.Proofs.YtkcpfppjdjkjeaaGreatDoor
