/- series.Buckets of a good series. -/
import Derived.Test.YtaglkaphlekmoaaGreatDoorBkt3
import Derived.Test.YtaglkaphlekmoaaGreatDoorSer3
namespace Go.Proofs.YtaglkaphlekmoaaGreatDoor
open Go.RowKit

set_option maxRecDepth 100000 in
set_option maxHeartbeats 4000000 in
theorem buckets_any (l : List Smp) (n c : Nat) (A : Option Addr) (T L : Int) (w : World) (hn : l.length = n) (hn2 : n ≤ 1000) (hg : GoodS l) (hr : Row w w.heap.size A (cellsOf l)) (hT0 : 0 ≤ T) (hT : T ≤ 345686400000) (hL : 1 ≤ L) (hL2 : L ≤ 345686400000) (ht : ∀ s ∈ l, s.1 < T) :
    Calls Tryz.prog 31 #[.slice A n c, winV 0 T, .int .i64 L] w fun e w' => ∃ v, e = .returned (.tuple #[v, .int .i64 0]) ∧ w'.ownsRow w.heap.size 84 8 v (bktsOf L l).length (bCells (bktsOf L l)) ∧ Below w.heap.size w w' := by
  have HR0 := Lib.hid hr
  have HG := Lib.hid hg
  have HN := Lib.hid hn
  have HT := Lib.hid ht
  clear hr hg hn ht
  unfold winV
  go_enter Tryz.func31, Tryz.ntmps31
  go_wp2_with (fail)
  generalize hW : w.alloc (.cells #[.int .i64 0, .int .i64 T] 47) = W
  have hWs : w.heap.size < W.heap.size := by rw [← hW]; simp
  have HBW := Lib.hid (show Below w.heap.size w W from hW ▸ (Below.refl _ _).alloc (Nat.le_refl _) _)
  have HR := Lib.hid ((HR0.out.below HBW.out).mono (Nat.le_of_lt hWs))
  have x0 : W.cell? ⟨w.heap.size, 0, none⟩ = some (.int .i64 0) := by rw [← hW]; exact cell_of_blk (heap_new w _) rfl
  have x1 : W.cell? ⟨w.heap.size, 1, none⟩ = some (.int .i64 T) := by rw [← hW]; exact cell_of_blk (heap_new w _) rfl
  clear hW
  refine (fault_any l n c A 0 T W HN.out HG.out HR.out (by omega) hT0 hT).mono ?_
  rintro e w1 ⟨rfl, hb1⟩
  have HB1 := Lib.hid hb1
  have hs1 := hb1.size
  clear hb1
  go_wp2_with (go_at_call 39; refine (out_no _ _ _ _ (by omega) (by omega)).mono ?_; rintro e w' ⟨rfl, rfl⟩)
  go_loopw [9, 23] (fun v i wr => ∃ (k m : Nat), k ≤ n ∧ i = .int .i64 k ∧ m = (bktsOf L (l.take k)).length ∧ wr.ownsRow W.heap.size 84 8 v m (bCells (bktsOf L (l.take k))) ∧ Below W.heap.size W wr) (fun _ i _ => n - (intOf i).toNat)
  case atStart => exact ⟨0, 0, Nat.zero_le _, rfl, rfl, by simpa [bktsOf, bCells] using World.ownsRow_nil _ _ _ _, HB1.out⟩
  case round =>
    obtain ⟨k, m, hk, rfl, hm, hown, hbl⟩ := hrel
    have hsz := hbl.size
    by_cases hlt : k < n
    · have hkl : k < l.length := by have := HN.out; omega
      obtain ⟨b, o, rfl, hbl2, hcs⟩ := Row.pos HR.out (by omega)
      obtain ⟨x, hx⟩ : ∃ x, l[k]? = some x := ⟨_, List.getElem?_eq_getElem hkl⟩
      obtain ⟨s0, s1, s2, s3⟩ := smp_cells (hcs.keep (hbl.block b hbl2)) k x hx
      have y0 := (hbl.cell (p := ⟨w.heap.size, 0, none⟩) hWs).trans x0
      have y1 := (hbl.cell (p := ⟨w.heap.size, 1, none⟩) hWs).trans x1
      have hat := HG.out.at_ k x hx
      have hval := HG.out.val k x hx
      have hxT := HT.out x (List.mem_of_getElem? hx)
      have HTK := Lib.hid (show bktsOf L (l.take (k + 1)) = addB (bktsOf L (l.take k)) (smpB L x) by rw [List.take_add_one, hx]; exact bktsOf_snoc _ _ _)
      obtain ⟨a, v⟩ := x
      simp only at hat hval hxT s2 s3
      have HBL := Lib.hid hbl
      have HOWN := Lib.hid hown
      have HM := Lib.hid hm
      have hlt' : (k : Int) < (n : Int) := by omega
      have hww : w.heap.size < wr.heap.size := by omega
      have hbw : b < wr.heap.size := by omega
      clear hbl hown hm hcs hx hkl
      go_wp2_with (fail)
      generalize hX : wr.alloc (.cells #[.string ⟨#[100]⟩, .string ⟨#[109]⟩, .int .i64 a, .int .i64 v] 53) = X
      have hXs : wr.heap.size < X.heap.size := by rw [← hX]; simp
      have HBX := Lib.hid (show Below wr.heap.size wr X from hX ▸ (Below.refl _ _).alloc (Nat.le_refl _) _)
      have hE : X.heap[wr.heap.size]? = some (.cells #[.string ⟨#[100]⟩, .string ⟨#[109]⟩, .int .i64 a, .int .i64 v] 53) := by rw [← hX]; exact heap_new wr _
      have e2 := cell_of_blk (j := 2) hE rfl
      have e3 := cell_of_blk (j := 3) hE rfl
      clear hX hE s0 s1 s2 s3
      refine (in_yes 0 T a X (by omega) hxT).mono ?_
      rintro e w3 ⟨rfl, hb3⟩
      rw [← hb3.cell (p := ⟨wr.heap.size, 2, none⟩) hXs] at e2
      rw [← hb3.cell (p := ⟨wr.heap.size, 3, none⟩) hXs] at e3
      have hs3 := hb3.size
      have HB3 := Lib.hid (HBX.out.trans (hb3.mono (by omega)))
      have HO3 := Lib.hid (own_below HOWN.out HB3.out)
      clear hb3 y0 y1
      obtain ⟨q, hq⟩ : ∃ q, q = a / L := ⟨_, rfl⟩
      obtain ⟨f, hf⟩ : ∃ f, f = q * L := ⟨_, rfl⟩
      have hf0 : 0 ≤ f := by rw [hf, hq]; exact Int.mul_nonneg (Int.ediv_nonneg (by omega) (by omega)) (by omega)
      have hf1 : f ≤ a := by rw [hf, hq]; exact Int.ediv_mul_le _ (by omega)
      have hqa : 0 ≤ q ∧ q ≤ a := by rw [hq]; exact ⟨Int.ediv_nonneg (by omega) (by omega), Int.ediv_le_self _ (by omega)⟩
      have ht1 : a.tdiv L = q := by rw [hq]; exact Int.tdiv_eq_ediv_of_nonneg (by omega)
      have hw1 : IntKind.i64.wrap (a.tdiv L) = q := by rw [ht1, IntKind.wrap_i64]; omega
      have hw2 : IntKind.i64.wrap (q * L) = f := by rw [← hf, IntKind.wrap_i64]; omega
      have hw3 : IntKind.i64.wrap (f + L) = f + L := by rw [IntKind.wrap_i64]; omega
      have hL0 : L ≠ 0 := by omega
      have HS := Lib.hid (show (⟨f, f + L, 1, v, v, v, v, v⟩ : Bkt) = smpB L (a, v) by rw [hf, hq]; rfl)
      clear hf hq
      go_wp2_with (fail)
      refine (added_any w3 W.heap.size m 1000 L (bktsOf L (l.take k)) ⟨f, f + L, 1, v, v, v, v, v⟩ _ HM.out.symm (by have := HM.out; have := bktsOf_length L (l.take k); simp only [List.length_take] at this; omega) (Nat.le_refl _) (by omega) HO3.out ?_ (by rw [HS.out]; exact (smpB_ok L (a, v) hval.1 hval.2).mono (by omega))).mono ?_
      · intro y hy
        refine (bktsOf_ok L (l.take k) (fun s hs => ?_) y hy).mono (by simp only [List.length_take]; omega)
        obtain ⟨i, hi⟩ := List.getElem?_of_mem (List.mem_of_mem_take hs)
        exact HG.out.val i s hi
      rintro e w4 ⟨v', rfl, h1, h2, h3⟩
      rw [HS.out, ← HTK.out] at h1
      have HO4 := Lib.hid h1
      have HB4 := Lib.hid ((HBL.out.trans (HB3.out.mono hsz)).grown h2 (by omega) (fun g hg => (HO3.out.lt g hg).1))
      clear h1 h2 h3
      go_wp2_with (fail)
      go_roundw
      case rel => exact ⟨k + 1, _, by omega, by go_num, rfl, HO4.out, HB4.out⟩
      case measure => simp [intOf]; omega
    · have hkn : k = n := by omega
      subst hkn
      have HBL := Lib.hid hbl
      have HT := Lib.hid (show l.take k = l by rw [List.take_of_length_le (by have := HN.out; omega)])
      rw [HT.out] at hown hm
      rw [hm] at hown
      have HOWN := Lib.hid hown
      clear hbl hown hm
      go_wp2_with (fail)
      go_ret2
      exact ⟨_, rfl, own_mono HOWN.out (Nat.le_of_lt hWs), HBW.out.trans (HBL.out.mono (Nat.le_of_lt hWs))⟩
end Go.Proofs.YtaglkaphlekmoaaGreatDoor
