/- series.Held by its contract. -/
import Derived.Test.YtbimiojoihfnkaaGreatDoorVmB
import Derived.Test.YtbimiojoihfnkaaGreatDoorVmC
namespace Go.Proofs.YtbimiojoihfnkaaGreatDoor
open Go.RowKit

set_option maxRecDepth 100000 in
set_option maxHeartbeats 4000000 in
theorem held_any (l : List Smp) (n c : Nat) (A : Option Addr) (a T : Int) (w : World) (hn : l.length = n) (hn0 : 0 < n) (hn2 : n ≤ 1000) (hg : GoodS l) (hr : Row w w.heap.size A (cellsOf l)) (ha0 : (l.getD 0 (0, 0)).1 = a) (hal : ∀ s ∈ l, a ≤ s.1 ∧ s.1 < T) (ha : 0 ≤ a) (hT1 : T ≤ 345686400000) (hT2 : T - a ≤ 100000) (hv : ∀ s ∈ l, -1000 ≤ s.2 ∧ s.2 ≤ 1000) :
    Calls Tryz.prog 21 #[.slice A n c, winV a T] w fun e w' => (∃ p q g : Int, e = .returned (.tuple #[.agg #[.int .i64 p, .int .i64 q], .int .i64 0]) ∧ p * g = hS (spL l T n) ∧ q * g = hT (spL l T n) ∧ 1 ≤ g ∧ 1 ≤ q) ∧ Below w.heap.size w w' := by
  have HJ := Lib.hid (spL_full l T n hn hn0 hg (fun s hs => (hal s hs).2))
  rw [ha0] at HJ
  have HSV := Lib.hid (show ∀ s ∈ spL l T n, -1000 ≤ s.2.2 ∧ s.2.2 ≤ 1000 from fun s hs => by
    obtain ⟨x, hx, e⟩ := spL_val l T n (by omega) s hs
    rw [e]; exact hv x hx)
  have HR := Lib.hid hr
  have HG := Lib.hid hg
  have HN := Lib.hid hn
  have HA := Lib.hid hal
  obtain ⟨s0, hs0⟩ : ∃ s, l[0]? = some s := ⟨_, List.getElem?_eq_getElem (by omega)⟩
  have haT := hal s0 (List.mem_of_getElem? hs0)
  have hSL := spL_length l T n
  obtain ⟨S, eS⟩ : ∃ S, S = spL l T n := ⟨_, rfl⟩
  rw [← eS] at HJ HSV hSL ⊢
  have HES := Lib.hid eS
  clear hr hg hn hal hv ha0 hs0 eS
  unfold winV
  go_enter Tryz.func21, Tryz.ntmps21
  go_wp2_with (fail)
  generalize hX : (w.alloc (.cells #[.int .i64 a, .int .i64 T] 58)).alloc (.cells #[.int .i64 0, .int .i64 0] 60) = X
  have hXs : X.heap.size = w.heap.size + 1 + 1 := by rw [← hX]; simp
  have hBX : Below w.heap.size w X := by rw [← hX]; exact ((Below.refl _ _).alloc (Nat.le_refl _) _).alloc (by simp) _
  have hx0 : X.heap[w.heap.size]? = some (.cells #[.int .i64 a, .int .i64 T] 58) := by rw [← hX, Below.heap_alloc _ _ _ (by simp)]; exact heap_new w _
  have hx1 : X.heap[w.heap.size + 1]? = some (.cells #[.int .i64 0, .int .i64 0] 60) := by rw [← hX]; have := heap_new (w.alloc (.cells #[.int .i64 a, .int .i64 T] 58)) (.cells #[.int .i64 0, .int .i64 0] 60); simpa using this
  have HX := Lib.hid (And.intro hx0 hx1)
  have x0 := cell_of_blk (j := 0) hx0 rfl
  have x1 := cell_of_blk (j := 1) hx0 rfl
  have HRX := Lib.hid ((HR.out.below hBX).mono (show w.heap.size ≤ X.heap.size by omega))
  have HBX := Lib.hid hBX
  clear hX hBX hx0 hx1
  refine (fault_any l n c A a T X HN.out HG.out HRX.out ha (by omega) hT1).mono ?_
  rintro e w1 ⟨rfl, hb1⟩
  have hs1 := hb1.size
  have HR1 := Lib.hid ((HRX.out.below hb1).mono hs1)
  have HX1 := Lib.hid (And.intro ((hb1.block w.heap.size (by omega)).trans HX.out.1) ((hb1.block (w.heap.size + 1) (by omega)).trans HX.out.2))
  have y0 := cell_of_blk (j := 0) HX1.out.1 rfl
  have y1 := cell_of_blk (j := 1) HX1.out.1 rfl
  have HB1 := Lib.hid (HBX.out.trans (hb1.mono (by omega)))
  have hww : w.heap.size < w1.heap.size := by omega
  have hww1 : w.heap.size + 1 < w1.heap.size := by omega
  have hwT : IntKind.i64.wrap (T - a) = T - a := by rw [IntKind.wrap_i64]; omega
  have hlg : ¬ 7776000000 < T - a := by omega
  clear hb1 x0 x1 HX HRX HBX
  go_wp2_with (fail)
  refine (spans_any l n c A a T w1 HN.out (by omega) HG.out HR1.out HA.out).mono ?_
  rintro e w2 ⟨v2, rfl, hown2, hb2⟩
  have hs2 := hb2.size
  obtain ⟨A2, c2, rfl⟩ := own_slice hown2
  rw [← HES.out] at hown2
  have HR2 := Lib.hid (own_row hown2)
  have HX2 := Lib.hid (And.intro ((hb2.block w.heap.size (by omega)).trans HX1.out.1) ((hb2.block (w.heap.size + 1) (by omega)).trans HX1.out.2))
  have HB2 := Lib.hid (HB1.out.trans (hb2.mono (by omega)))
  clear hb2 hown2 y0 y1 HX1 HR1 HB1
  go_wp2_with (fail)
  go_loopw [7, 8, 29] (fun u t i wr => ∃ k : Nat, k ≤ n ∧ i = .int .i64 k ∧ u = .int .i64 (hS (S.take k)) ∧ t = .int .i64 (hT (S.take k)) ∧ Below w2.heap.size w2 wr) (fun _ _ i _ => n - (intOf i).toNat)
  case atStart => exact ⟨0, Nat.zero_le _, rfl, by simp [hS], by simp [hT], Below.refl _ _⟩
  case round =>
    obtain ⟨k, hk, rfl, rfl, rfl, hbl⟩ := hrel
    have hsz := hbl.size
    have HBL := Lib.hid hbl
    obtain ⟨u, eu⟩ : ∃ u, u = hS (S.take k) := ⟨_, rfl⟩
    obtain ⟨t, et⟩ : ∃ t, t = hT (S.take k) := ⟨_, rfl⟩
    rw [← eu, ← et]
    obtain ⟨d, hd1, hd2, hd3⟩ := HJ.out.take k
    have htd := hd1.time
    have hbt := hS_between hd1 (fun s hs => HSV.out s (List.mem_of_mem_take hs))
    rw [← et] at htd hbt
    rw [← eu] at hbt
    have HE := Lib.hid (And.intro eu et)
    have htr : 0 ≤ t ∧ t ≤ 100000 := by omega
    have hur : -100000000 ≤ u ∧ u ≤ 100000000 := by omega
    clear hd1 eu et htd hbt hd2 hd3
    by_cases hlt : k < n
    · obtain ⟨b, o, rfl, hb, hcs⟩ := Row.posS HR2.out (by omega)
      obtain ⟨x, hx⟩ : ∃ x, S[k]? = some x := ⟨_, List.getElem?_eq_getElem (by omega)⟩
      obtain ⟨c0, c1, c2'⟩ := spn_cells (hcs.keep (hbl.block b hb)) k x hx
      obtain ⟨j1, j2, j3, _⟩ := HJ.out.get k x hx
      have hxv := HSV.out x (List.mem_of_getElem? hx)
      have HTK := Lib.hid (show S.take (k + 1) = S.take k ++ [x] by rw [List.take_add_one, hx]; rfl)
      have HS1 := Lib.hid (show hS (S.take (k + 1)) = u + x.2.2 * (x.2.1 - x.1) by rw [HTK.out, hS_snoc, ← HE.out.1])
      have HT1 := Lib.hid (show hT (S.take (k + 1)) = t + (x.2.1 - x.1) by rw [HTK.out, hT_snoc, ← HE.out.2])
      obtain ⟨xf, xt, xv⟩ := x
      simp only at c0 c1 c2' j1 j2 j3 hxv HS1 HT1
      have hml := mul_between hxv.1 hxv.2 (show 0 ≤ xt - xf by omega)
      obtain ⟨m, em⟩ : ∃ m, m = xv * (xt - xf) := ⟨_, rfl⟩
      rw [← em] at HS1 hml
      have hw1 : IntKind.i64.wrap (xt - xf) = xt - xf := by rw [IntKind.wrap_i64]; omega
      have hw2 : IntKind.i64.wrap (xv * (xt - xf)) = m := by rw [← em, IntKind.wrap_i64]; omega
      have hw3 : IntKind.i64.wrap (u + m) = u + m := by rw [IntKind.wrap_i64]; omega
      have hw4 : IntKind.i64.wrap (t + (xt - xf)) = t + (xt - xf) := by rw [IntKind.wrap_i64]; omega
      have hlt' : (k : Int) < (n : Int) := by omega
      have hbw : b < wr.heap.size := by omega
      clear hbl hcs hx em
      go_wp2_with (fail)
      go_roundw
      case rel => exact ⟨k + 1, by omega, by go_num, by rw [HS1.out], by rw [HT1.out], HBL.out.alloc hsz _⟩
      case measure => simp [intOf]; omega
    · have hkn : k = n := by omega
      subst hkn
      have hall : S.take k = S := List.take_of_length_le (by omega)
      have HE2 := Lib.hid (show u = hS S ∧ t = hT S by rw [← hall]; exact HE.out)
      have htt := HJ.out.time
      rw [← HE2.out.2] at htt
      have ht0 : 0 < t := by omega
      clear htt
      obtain ⟨tn, rfl⟩ : ∃ tn : Nat, t = (tn : Int) := ⟨t.toNat, by omega⟩
      have hn1 := (hbl.block (w.heap.size + 1) (by omega)).trans HX2.out.2
      have HN1 := Lib.hid hn1
      clear hbl hall hn1
      go_wp2_with (fail)
      refine (fraction_any u tn wr (by omega) (by omega) (by omega) (by omega)).mono ?_
      rintro e w3 ⟨⟨p, q, g, rfl, hp, hq, hg1, hq1⟩, hb3⟩
      have hs3 := hb3.size
      have h3 := (hb3.block (w.heap.size + 1) (by omega)).trans HN1.out
      have c0 := cell_of_blk (j := 0) h3 rfl
      have c1 := cell_of_blk (j := 1) h3 rfl
      have fr : ∀ j, w3.frozen? ⟨w.heap.size + 1, j, none⟩ = false := by intro j; simp [World.frozen?, h3]
      have f0 := fr 0
      have f1 := fr 1
      have hlt3 : w.heap.size + 1 < w3.heap.size := by omega
      have HB3 := Lib.hid ((HB2.out.trans (HBL.out.mono (by omega))).trans (hb3.mono (by omega)))
      have HNEW := Lib.hid h3
      have HPQ := Lib.hid (And.intro hp hq)
      clear hb3 h3 fr hp hq
      go_wp2_with (fail)
      have r0 : ((w3.setCell ⟨w.heap.size + 1, 0, none⟩ (.int .i64 p)).setCell ⟨w.heap.size + 1, 1, none⟩ (.int .i64 q)).cell? ⟨w.heap.size + 1, 0, none⟩ = some (.int .i64 p) := by
        simp [World.setCell, World.cell?, Array.getElem?_modify, HNEW.out]
      have r1 : ((w3.setCell ⟨w.heap.size + 1, 0, none⟩ (.int .i64 p)).setCell ⟨w.heap.size + 1, 1, none⟩ (.int .i64 q)).cell? ⟨w.heap.size + 1, 1, none⟩ = some (.int .i64 q) := by
        simp [World.setCell, World.cell?, Array.getElem?_modify, HNEW.out]
      refine bodyPost_ret (v := .tuple #[.agg #[.int .i64 p, .int .i64 q], .int .i64 0]) (by simp [results, Tryz.results21, go_sem, r0, r1]) rfl ⟨⟨p, q, g, rfl, by rw [HPQ.out.1, HE2.out.1], by rw [HPQ.out.2, HE2.out.2], hg1, hq1⟩, ?_⟩
      exact (HB3.out.setCell (p := ⟨w.heap.size + 1, 0, none⟩) (Nat.le_succ _) _).setCell (p := ⟨w.heap.size + 1, 1, none⟩) (Nat.le_succ _) _
end Go.Proofs.YtbimiojoihfnkaaGreatDoor
