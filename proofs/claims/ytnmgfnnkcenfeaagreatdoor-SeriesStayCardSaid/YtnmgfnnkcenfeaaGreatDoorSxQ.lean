/- series.Quantile of a short series: it answers, and lays new memory only. -/
import Derived.Test.YtnmgfnnkcenfeaaGreatDoorSxM
import Derived.Test.YtnmgfnnkcenfeaaGreatDoorSer1
import Derived.Test.YtnmgfnnkcenfeaaGreatDoorLay189
import Derived.Lib.OwnBridge
import Derived.Sort.OwnSortedInts
namespace Go.Proofs.YtnmgfnnkcenfeaaGreatDoor
open Go.RowKit Go.Shelf Go.Sort

theorem Tryz.infoQu : (Tryz.prog.info? 3).map (fun i => (i.zero, i.size, i.bytes)) = some (some (.int .i64 0), 1, 8) := by kernel_rfl
def valV (l : List Smp) : List Value := (l.map (·.2)).map (Value.int .i64)
def QuPost (w : World) (e : Ending) (w' : World) : Prop := (∃ a b : Int, e = .returned (.tuple #[.int .i64 a, .int .i64 b])) ∧ Below w.heap.size w w'
theorem sortI_any (w : World) (base n c : Nat) (A : Option Addr) (zs : List Int) (hn : zs.length = n) (h0 : 0 < n) (h9 : n ≤ 1000) (ho : w.ownsRow base 3 1 (.slice A n c) n (zs.map (Value.int .i64))) :
    Calls Tryz.prog 46 #[.slice A n c] w fun e w' => e = .returned (.tuple #[]) ∧ ∃ ts : List Int, ts.length = n ∧ w'.ownsRow base 3 1 (.slice A n c) n (ts.map (Value.int .i64)) ∧ w.grownBy w' (Value.slice A n c).ownBlock := by
  have hv : (Value.slice A n c) ≠ .slice none 0 0 := by intro h; injection h with _ h _; omega
  obtain ⟨g, cap, e', hb, hg, h1, h2, hl, hH⟩ := Lib.holds_of_ownsRow ho hv
  cases e'
  subst hl
  refine (Any.slices_Sort_int lay189 g 0 c zs w hH hg (by omega)).mono ?_
  rintro e w' ⟨rfl, q, os, rfl⟩
  refine ⟨rfl, zs.mergeSort (fun x y => decide (x ≤ y)), List.length_mergeSort _, ?_, grownBy_sortedI _⟩
  rcases ho.2 with ⟨hv, _⟩ | ⟨g2, cap2, cur, hv, hb2, hh, hc, hcm, hcs, ht⟩
  · cases hv
  · cases hv
    exact ownsRow_sortedI (by simp [List.length_mergeSort]) hb hh h1 h2 hcs
set_option maxRecDepth 100000 in
set_option maxHeartbeats 8000000 in
theorem quantileX_any (l : List Smp) (n c : Nat) (A : Option Addr) (w : World) (hn : l.length = n) (hn9 : n ≤ 9) (hg : GoodS l) (hr : Row w w.heap.size A (recs smpC l)) :
    Calls Tryz.prog 14 #[.slice A n c, .int .i64 500] w fun e w' => QuPost w e w' := by
  obtain ⟨i0, hi, hz0, hz1, hz2⟩ := info_parts Tryz.infoQu
  have HC1 := Lib.hid (checkSeries_any l n c A w hn hg hr)
  have HR0 := Lib.hid hr
  have HN := Lib.hid hn
  clear hr hn hg
  go_enter Tryz.func14, Tryz.ntmps14
  go_wp2_with (fail)
  refine HC1.out.mono ?_
  rintro e w1 ⟨rfl, hb1⟩
  have hs1 := hb1.size
  have HB1 := Lib.hid hb1
  clear hb1 HC1
  go_wp2_with (fail)
  refine (out_no _ _ _ _ (by omega) (by omega)).mono ?_
  rintro e w' ⟨rfl, rfl⟩
  rcases Nat.eq_zero_or_pos n with h0 | h0
  · have h0I : ((n : Int) == 0) = true := by simp; omega
    have h0J : (n : Int) = 0 := by omega
    clear h0
    go_wp2_with (fail)
    go_ret2
    exact ⟨⟨_, _, rfl⟩, HB1.out⟩
  have h0I : ((n : Int) == 0) = false := by simp; omega
  have h0J : ¬ (n : Int) = 0 := by omega
  go_wp2_with (fail)
  go_loopw [7, 22] (fun s u wx => ∃ (k : Nat) (A2 : Option Addr) (c2 : Nat), k ≤ n ∧ u = .int .i64 (k : Int) ∧ s = .slice A2 k c2 ∧ Hid (wx.ownsRow w.heap.size 3 1 (.slice A2 k c2) k (valV (l.take k)) ∧ Below w.heap.size w wx)) (fun _ u _ => n - (intOf u).toNat)
  case atStart => exact ⟨0, none, 0, Nat.zero_le _, rfl, rfl, Lib.hid ⟨by simpa [valV] using World.ownsRow_nil _ _ _ _, HB1.out⟩⟩
  case round =>
    obtain ⟨k, A2, c2, hk, rfl, rfl, HR⟩ := hrel
    obtain ⟨wa, rfl⟩ : ∃ wy : World, wy = wr := ⟨_, rfl⟩
    by_cases hlt : k < n
    · have hltI : (k : Int) < (n : Int) := by omega
      obtain ⟨x, hx⟩ : ∃ x, l[k]? = some x := ⟨_, List.getElem?_eq_getElem (by have := HN.out; omega)⟩
      obtain ⟨b, o, rfl, hb, hC⟩ := HR0.out.posR smpC_len (by omega) (by have := HN.out; omega)
      have hsa := HR.out.2.size
      obtain ⟨s0, s1, s2, s3⟩ := smp_cells (hC.keep (HR.out.2.block b hb)) k x hx
      have hbw : b < wa.heap.size := by omega
      have HTK := Lib.hid (show valV (l.take (k + 1)) = valV (l.take k) ++ [.int .i64 x.2] by rw [List.take_add_one, hx]; simp [valV])
      obtain ⟨gx, egx⟩ : ∃ y, y = wa.heap.size := ⟨_, rfl⟩
      obtain ⟨w3, e3⟩ : ∃ V : World, V = wa.alloc (.cells #[.string ⟨#[100]⟩, .string ⟨#[109]⟩, .int .i64 x.1, .int .i64 x.2] 37) := ⟨_, rfl⟩
      have hb3 : Below wa.heap.size wa w3 := by rw [e3]; exact (Below.refl _ _).alloc (Nat.le_refl _) _
      have hg3 : w3.heap[gx]? = some (.cells #[.string ⟨#[100]⟩, .string ⟨#[109]⟩, .int .i64 x.1, .int .i64 x.2] 37 (0, 0)) := by rw [e3, egx]; exact heap_new wa _
      have HO3 := Lib.hid (own_below HR.out.1 hb3)
      have HB3 := Lib.hid (HR.out.2.trans (hb3.mono hsa))
      clear hC hx
      go_upto_region 12 with (fail)
      rw [← egx, ← e3]
      clear egx e3 hb3 s0 s1 s2 s3
      have k3 := cell_of_blk (j := 3) hg3 rfl
      have hl3 := (Array.getElem?_eq_some_iff.1 hg3).1
      have hs3 := HB3.out.size
      clear hg3
      go_wp2_with (at_builtin; refine wpList_append_own _ rfl _ _ 22 rfl w.heap.size 3 i0 _ 1 8 Tryz.underlying22 hi hz0 hz1 hz2 rfl (by decide) _ _ _ rfl (HO3.out.alloc _) ⟨w3.heap.size, 0, none⟩ 1 1 [.int .i64 x.2] rfl rfl ?c1 ?c2 ?c3 ?c4 ?c5 ?_)
      case c1 => first | exact fun j u h => h | exact cells_add (Cells.new w3 _ _ _ _ rfl)
      case c2 => intro u hu; simp only [List.mem_singleton] at hu; subst hu; rfl
      case c3 => unfold maxLen; omega
      case c4 => omega
      case c5 => first | omega | (simp; omega)
      intro v5 w5 ho5 hg5 _
      have hg45 := grown_of_alloc hg5
      obtain ⟨A3, c3, rfl⟩ := own_slice ho5
      have HN5 := Lib.hid (show w5.ownsRow w.heap.size 3 1 (.slice A3 (k + 1) c3) (k + 1) (valV (l.take (k + 1))) ∧ Below w.heap.size w w5 from
        ⟨by rw [HTK.out]; exact ho5, HB3.out.grown hg45 HB3.out.size (fun g hg => (HO3.out.lt g hg).1)⟩)
      clear ho5 hg5 hg45
      go_wp2_with (fail)
      go_roundw
      case rel => exact ⟨k + 1, A3, c3, by omega, by go_num, rfl, HN5⟩
      case measure => simp [intOf]; omega
    · have hltI : ¬ (k : Int) < (n : Int) := by omega
      have hkn : k = n := by omega
      subst hkn
      have HS := Lib.hid (sortI_any wa w.heap.size k c2 A2 ((l.take k).map (fun s : Smp => s.2)) (by rw [List.length_map, List.length_take, HN.out]; omega) h0 (by omega) HR.out.1)
      go_wp2_with (fail)
      refine HS.out.mono ?_
      rintro e w4 ⟨rfl, ts, hts, ho4, hg4⟩
      have HB4 := Lib.hid (HR.out.2.grown hg4 HR.out.2.size (fun g hg => (HR.out.1.lt g hg).1))
      obtain ⟨h5, h6, h7⟩ | ⟨g, rfl, hg1, hg2⟩ := own_two ho4
      · omega
      obtain ⟨j, hj⟩ : ∃ j : Nat, j = (500 * k + 999) / 1000 - 1 := ⟨_, rfl⟩
      have hjk : j < k := by omega
      have hcell : w4.cell? ⟨g, j, none⟩ = some (.int .i64 (ts.getD j 0)) := by
        have hC := own_cells0 ho4
        have := hC j (.int .i64 (ts.getD j 0)) (by rw [List.getElem?_map, List.getElem?_eq_getElem (by omega)]; simp [List.getD, List.getElem?_eq_getElem (show j < ts.length by omega)])
        simpa using this
      have e1 : IntKind.i64.wrap (500 * (k : Int)) = 500 * (k : Int) := by rw [IntKind.wrap_i64]; omega
      have e2 : IntKind.i64.wrap (500 * (k : Int) + 999) = 500 * (k : Int) + 999 := by rw [IntKind.wrap_i64]; omega
      have e3 : (500 * (k : Int) + 999) / 1000 - 1 = (j : Int) := by omega
      have e4 : (500 * (k : Int) + 999).tdiv 1000 - 1 = (j : Int) := by rw [Int.tdiv_eq_ediv_of_nonneg (by omega)]; omega
      have hjI : (j : Int) < (k : Int) := by omega
      clear ho4 hg4 hj
      go_wp2_with (fail)
      go_ret2
      exact ⟨⟨_, _, rfl⟩, HB4.out⟩
end Go.Proofs.YtnmgfnnkcenfeaaGreatDoor
