/- series.Wider of good buckets. -/
import Derived.Test.YtaglkaphlekmoaaGreatDoorBkt3
import Derived.Test.YtaglkaphlekmoaaGreatDoorEqualB
namespace Go.Proofs.YtaglkaphlekmoaaGreatDoor
open Go.RowKit

def widB (M : Int) (x : Bkt) : Bkt := { x with fr := x.fr / M * M, to_ := x.fr / M * M + M }
def widOf (M : Int) (l : List Bkt) : List Bkt := l.foldl (fun bs x => addB bs (widB M x)) []
theorem widOf_snoc (M : Int) (l : List Bkt) (x : Bkt) : widOf M (l ++ [x]) = addB (widOf M l) (widB M x) := by simp [widOf]
theorem widB_ok {L M : Int} {k : Nat} {x : Bkt} (h : BOk L k x) : BOk M k (widB M x) := ⟨rfl, h.c0, h.c1, h.s0, h.s1⟩
theorem widOf_ok {L M : Int} {k : Nat} (l : List Bkt) (h : ∀ x ∈ l, BOk L k x) : ∀ x ∈ widOf M l, BOk M (l.length * k) x := by
  revert h
  refine snoc_ind (p := fun l => (∀ x ∈ l, BOk L k x) → ∀ x ∈ widOf M l, BOk M (l.length * k) x) ?_ ?_ l
  · intro _ x hx; simp [widOf] at hx
  · intro l s ih h
    rw [widOf_snoc, List.length_append, Nat.add_mul]
    have := addB_ok (ih fun y hy => h y (by simp [hy])) (widB_ok (M := M) (h s (by simp)))
    simpa using this
theorem widOf_length (M : Int) (l : List Bkt) : (widOf M l).length ≤ l.length := by
  refine snoc_ind (p := fun l => (widOf M l).length ≤ l.length) ?_ ?_ l
  · simp [widOf]
  · intro l s ih
    rw [widOf_snoc, List.length_append]
    have := addB_length (widOf M l) (widB M s)
    simp only [List.length_cons, List.length_nil]
    omega

set_option maxRecDepth 100000 in
set_option maxHeartbeats 4000000 in
theorem wider_some (l : List Bkt) (n c b o k : Nat) (L M : Int) (w : World) (hL : 1 ≤ L) (hL2 : L ≤ 345686400000) (hM : 1 ≤ M) (hM2 : M ≤ 345686400000) (hML : M.tmod L = 0) (hn : l.length = n) (hn0 : 0 < n) (hn2 : n ≤ 1000)
    (hg : GoodBs L l) (hk : ∀ x ∈ l, BOk L k x) (hnk : n * k ≤ 1000) (hr : Row w w.heap.size (some ⟨b, o, none⟩) (bCells l)) :
    Calls Tryz.prog 33 #[.slice (some ⟨b, o, none⟩) n c, .int .i64 M] w fun e w' => ∃ v, e = .returned (.tuple #[v, .int .i64 0]) ∧ w'.ownsRow w.heap.size 84 8 v (widOf M l).length (bCells (widOf M l)) ∧ Below w.heap.size w w' := by
  obtain ⟨b', o', he, hb, hcs⟩ := Row.posB hr (by omega)
  injection he with he
  injection he with e1 e2
  subst e1 e2
  obtain ⟨z, hz⟩ : ∃ z, l[0]? = some z := ⟨_, List.getElem?_eq_getElem (by omega)⟩
  have hz0 := (bkt_cells hcs 0 z hz 0 (by omega)).trans rfl
  have hz1 := (bkt_cells hcs 0 z hz 1 (by omega)).trans rfl
  have hzg := hg.each 0 z hz
  simp only [bktC, List.getElem?_cons_zero, List.getElem?_cons_succ, Nat.add_zero, Nat.zero_mul] at hz0 hz1
  have HR := Lib.hid hr
  have HG := Lib.hid hg
  have HN := Lib.hid hn
  have HK := Lib.hid hk
  have HCS := Lib.hid hcs
  have HNK := Lib.hid hnk
  have hZ := Lib.hid (And.intro hz0 hz1)
  have HZG := Lib.hid hzg
  clear hr hg hn hk hcs hz hnk hz0 hz1 hzg
  have hn0' : (0 : Int) < (n : Int) := by omega
  have hw3 : IntKind.i64.wrap (M.tmod L) = 0 := by rw [hML]; rfl
  have hL0 : L ≠ 0 := by omega
  go_enter Tryz.func33, Tryz.ntmps33
  go_wp2_with (fail)
  refine (checkB_any l n c _ L w hL hL2 HN.out HG.out HR.out).mono ?_
  rintro e w1 ⟨rfl, hb1⟩
  have y0 := (hb1.cell (p := ⟨b, o, none⟩) hb).trans hZ.out.1
  have y1 := (hb1.cell (p := ⟨b, o + 1, none⟩) hb).trans hZ.out.2
  have Y := Lib.hid (And.intro y0 y1)
  have HB1 := Lib.hid hb1
  have hs1 := hb1.size
  clear hb1 y0 y1
  go_wp2_with (go_at_call 39; refine (out_no _ _ _ _ (by omega) (by omega)).mono ?_; rintro e w' ⟨rfl, rfl⟩)
  refine (length_some z n c b o L w1 hn0 hL hL2 HZG.out.f0 HZG.out.f1 HZG.out.to_ Y.out.1 Y.out.2).mono ?_
  rintro e w2 ⟨rfl, hb2⟩
  have HB2 := Lib.hid (HB1.out.trans (hb2.mono hs1))
  have hs2 := hb2.size
  clear hb2
  go_wp2_with (fail)
  go_loopw [7, 31] (fun v i wr => ∃ (j m : Nat), j ≤ n ∧ i = .int .i64 j ∧ m = (widOf M (l.take j)).length ∧ wr.ownsRow w.heap.size 84 8 v m (bCells (widOf M (l.take j))) ∧ Below w.heap.size w wr) (fun _ i _ => n - (intOf i).toNat)
  case atStart => exact ⟨0, 0, Nat.zero_le _, rfl, rfl, by simpa [widOf, bCells] using World.ownsRow_nil _ _ _ _, HB2.out⟩
  case round =>
    obtain ⟨j, m, hj, rfl, hm, hown, hbl⟩ := hrel
    have hsz := hbl.size
    by_cases hlt : j < n
    · have hkl : j < l.length := by have := HN.out; omega
      obtain ⟨x, hx⟩ : ∃ x, l[j]? = some x := ⟨_, List.getElem?_eq_getElem hkl⟩
      have C := fun i hi => bkt_cells (HCS.out.keep (hbl.block b hb)) j x hx i hi
      have HTK := Lib.hid (show widOf M (l.take (j + 1)) = addB (widOf M (l.take j)) (widB M x) by rw [List.take_add_one, hx]; exact widOf_snoc _ _ _)
      have hxg := HG.out.each j x hx
      have hf0 := hxg.f0
      have hf1 := hxg.f1
      have HXK := Lib.hid (HK.out x (List.mem_of_getElem? hx))
      obtain ⟨fr, to_, cnt, sum, mn, mx, fi, la⟩ := x
      simp only at hf0 hf1
      have c0 := (C 0 (by omega)).trans rfl
      have c1 := (C 1 (by omega)).trans rfl
      have c2 := (C 2 (by omega)).trans rfl
      have c3 := (C 3 (by omega)).trans rfl
      have c4 := (C 4 (by omega)).trans rfl
      have c5 := (C 5 (by omega)).trans rfl
      have c6 := (C 6 (by omega)).trans rfl
      have c7 := (C 7 (by omega)).trans rfl
      simp only [bktC, List.getElem?_cons_zero, List.getElem?_cons_succ, Nat.add_zero] at c0 c1 c2 c3 c4 c5 c6 c7
      obtain ⟨q, hq⟩ : ∃ q, q = fr / M := ⟨_, rfl⟩
      obtain ⟨f, hf⟩ : ∃ f, f = q * M := ⟨_, rfl⟩
      have hff0 : 0 ≤ f := by rw [hf, hq]; exact Int.mul_nonneg (Int.ediv_nonneg (by omega) (by omega)) (by omega)
      have hff1 : f ≤ fr := by rw [hf, hq]; exact Int.ediv_mul_le _ (by omega)
      have hqa : 0 ≤ q ∧ q ≤ fr := by rw [hq]; exact ⟨Int.ediv_nonneg (by omega) (by omega), Int.ediv_le_self _ (by omega)⟩
      have ht1 : fr.tdiv M = q := by rw [hq]; exact Int.tdiv_eq_ediv_of_nonneg (by omega)
      have hw4 : IntKind.i64.wrap (fr.tdiv M) = q := by rw [ht1, IntKind.wrap_i64]; omega
      have hw5 : IntKind.i64.wrap (q * M) = f := by rw [← hf, IntKind.wrap_i64]; omega
      have hw6 : IntKind.i64.wrap (f + M) = f + M := by rw [IntKind.wrap_i64]; omega
      have hM0 : M ≠ 0 := by omega
      have HS := Lib.hid (show (⟨f, f + M, cnt, sum, mn, mx, fi, la⟩ : Bkt) = widB M ⟨fr, to_, cnt, sum, mn, mx, fi, la⟩ by rw [hf, hq]; rfl)
      have HBL := Lib.hid hbl
      have HOWN := Lib.hid hown
      have HM := Lib.hid hm
      have hlt' : (j : Int) < (n : Int) := by omega
      have hblt : b < wr.heap.size := by omega
      clear hbl hown hm hx hkl C hxg hf hq ht1
      go_wp2_with (fail)
      have HO3 := Lib.hid (HOWN.out.alloc (.cells #[.int .i64 f, .int .i64 (f + M), .int .i64 cnt, .int .i64 sum, .int .i64 mn, .int .i64 mx, .int .i64 fi, .int .i64 la] 84))
      have hjk : (l.take j).length * k ≤ 1000 := by
        have h1 : (l.take j).length ≤ n := by simp only [List.length_take]; omega
        exact Nat.le_trans (Nat.mul_le_mul_right k h1) HNK.out
      have hk1 : k ≤ 1000 := Nat.le_trans (by have := Nat.mul_le_mul_right k (show 1 ≤ n by omega); omega) HNK.out
      refine (added_any _ w.heap.size m 1000 M (widOf M (l.take j)) ⟨f, f + M, cnt, sum, mn, mx, fi, la⟩ _ HM.out.symm (by have := HM.out; have := widOf_length M (l.take j); simp only [List.length_take] at this; omega) (Nat.le_refl _) (by simp; omega) HO3.out ?_ (by rw [HS.out]; exact (widB_ok HXK.out).mono hk1)).mono ?_
      · intro y hy
        exact (widOf_ok (M := M) (l.take j) (fun s hs => HK.out s (List.mem_of_mem_take hs)) y hy).mono hjk
      rintro e w4 ⟨v', rfl, h1, h2, h3⟩
      rw [HS.out, ← HTK.out] at h1
      have HO4 := Lib.hid h1
      have HB4 := Lib.hid (HBL.out.grown (grown_of_alloc h2) (by omega) (fun g hg => (HOWN.out.lt g hg).1))
      clear h1 h2 h3
      go_wp2_with (fail)
      go_roundw
      case rel => exact ⟨j + 1, _, by omega, by go_num, rfl, HO4.out, HB4.out⟩
      case measure => simp [intOf]; omega
    · have hkn : j = n := by omega
      subst hkn
      have HBL := Lib.hid hbl
      have HT := Lib.hid (show l.take j = l by rw [List.take_of_length_le (by have := HN.out; omega)])
      rw [HT.out] at hown hm
      obtain ⟨Ao, co, rfl⟩ := own_slice hown
      have HOWN := Lib.hid hown
      have HM := Lib.hid hm
      have hm1 : m ≤ 1000 := by have := widOf_length M l; have := HN.out; omega
      clear hbl hown hm
      go_wp2_with (fail)
      refine (bounded_any (widOf M l) m co Ao wr HM.out.symm (by omega) ?_ (own_row HOWN.out)).mono ?_
      · intro i x hx
        have h := widOf_ok (M := M) l HK.out x (List.mem_of_getElem? hx)
        have h1 := h.c1
        have h2 : l.length * k ≤ 1000 := by rw [HN.out]; exact HNK.out
        omega
      rintro e w5 ⟨rfl, hb5⟩
      have HO5 := Lib.hid (own_below HOWN.out hb5)
      have HB5 := Lib.hid (HBL.out.trans (hb5.mono hsz))
      clear hb5
      go_wp2_with (fail)
      go_ret2
      refine ⟨_, rfl, ?_, HB5.out⟩
      rw [← HM.out]
      exact HO5.out

set_option maxHeartbeats 1000000 in
theorem wider_empty (A : Option Addr) (c : Nat) (M : Int) (w : World) (hM : 1 ≤ M) (hM2 : M ≤ 345686400000) :
    Calls Tryz.prog 33 #[.slice A 0 c, .int .i64 M] w fun e w' => e = .returned (.tuple #[.slice none 0 0, .int .i64 0]) ∧ Below w.heap.size w w' := by
  go_enter Tryz.func33, Tryz.ntmps33
  go_wp2_with (fail)
  refine (checkB_any [] 0 c _ 1 w (by omega) (by omega) rfl ⟨by simp, by simp, by simp⟩ (.inl rfl)).mono ?_
  rintro e w1 ⟨rfl, hb1⟩
  have HB1 := Lib.hid hb1
  have hs1 := hb1.size
  clear hb1
  go_wp2_with (go_at_call 39; refine (out_no _ _ _ _ (by omega) (by omega)).mono ?_; rintro e w' ⟨rfl, rfl⟩)
  refine wp_loop_rounds 1 ?_
  rw [rounds_succ]
  go_wp2_with (fail)
  refine (bounded_any [] 0 0 none w1 rfl (by omega) (by simp) (.inl rfl)).mono ?_
  rintro e w5 ⟨rfl, hb5⟩
  have HB5 := Lib.hid (HB1.out.trans (hb5.mono hs1))
  clear hb5
  go_wp2_with (fail)
  go_ret2
  exact ⟨rfl, HB5.out⟩
end Go.Proofs.YtaglkaphlekmoaaGreatDoor
