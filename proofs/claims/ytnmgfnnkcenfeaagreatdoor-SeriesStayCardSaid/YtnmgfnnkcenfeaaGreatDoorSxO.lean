/- series.Of a series of "d", "m" in the whole time: all of it, in new memory. -/
import Derived.Test.YtnmgfnnkcenfeaaGreatDoorSxM
import Derived.Test.YtnmgfnnkcenfeaaGreatDoorSerIn
import Derived.Test.YtnmgfnnkcenfeaaGreatDoorSer1
namespace Go.Proofs.YtnmgfnnkcenfeaaGreatDoor
open Go.RowKit

theorem window_yesX (a b : Int) (w : World) (h1 : 0 ≤ a) (h2 : a ≤ b) (h3 : b ≤ 345686400000) : Calls Tryz.prog 40 #[.agg #[.int .i64 a, .int .i64 b]] w fun e w' => e = .returned (.bool true) ∧ Below w.heap.size w w' := by
  go_enter Tryz.func40, Tryz.ntmps40
  go_wp2_with (go_at_call 34; refine (out_no _ _ _ _ (by omega) (by omega)).mono ?_; rintro e w' ⟨rfl, rfl⟩)
  go_ret
  exact ⟨rfl, (Below.refl _ _).alloc (Nat.le_refl _) _⟩
set_option maxRecDepth 100000 in
set_option maxHeartbeats 8000000 in
theorem ofX_any (l : List Smp) (n c : Nat) (A : Option Addr) (w : World) (hn : l.length = n) (hn9 : n ≤ 9) (hg : GoodS l) (hr : Row w w.heap.size A (recs smpC l)) :
    Calls Tryz.prog 10 #[.slice A n c, .string ⟨#[100]⟩, .string ⟨#[109]⟩, .agg #[.int .i64 0, .int .i64 345686400000]] w fun e w' => MxPost w e w' := by
  obtain ⟨i0, hi, hz0, hz1, hz2⟩ := info_parts Tryz.infoS
  obtain ⟨W, eW⟩ : ∃ W : World, W = w.alloc (.cells #[.int .i64 0, .int .i64 345686400000] 41) := ⟨_, rfl⟩
  have hbW : Below w.heap.size w W := by rw [eW]; exact (Below.refl _ _).alloc (Nat.le_refl _) _
  have hgW : W.heap[w.heap.size]? = some (.cells #[.int .i64 0, .int .i64 345686400000] 41 (0, 0)) := by rw [eW]; exact heap_new w _
  obtain ⟨gw, egw⟩ : ∃ g, g = w.heap.size := ⟨_, rfl⟩
  rw [← egw] at hgW
  have hsW := hbW.size
  have hlW := (Array.getElem?_eq_some_iff.1 hgW).1
  have HC1 := Lib.hid (check_any l n c A W hn hg ((hr.below hbW).mono hsW))
  have HR0 := Lib.hid hr
  have HN := Lib.hid hn
  have HG := Lib.hid hg
  have HBW := Lib.hid hbW
  have HGW := Lib.hid hgW
  have HK1 := Lib.hid (fun V => key_yes ⟨#[100]⟩ V (by kernel_rfl))
  have HK2 := Lib.hid (fun V => key_yes ⟨#[109]⟩ V (by kernel_rfl))
  clear hr hn hg hbW hgW
  go_enter Tryz.func10, Tryz.ntmps10
  go_wp2_with (fail)
  rw [← egw, ← eW]
  clear egw eW
  refine HC1.out.mono ?_
  rintro e w1 ⟨rfl, hb1⟩
  have hs1 := hb1.size
  have HB1 := Lib.hid (HBW.out.trans (hb1.mono hsW))
  have HG1 := Lib.hid ((hb1.block gw hlW).trans HGW.out)
  have hl1 : gw < w1.heap.size := by omega
  clear hb1 HC1
  go_wp2_with (fail)
  refine (HK1.out w1).mono ?_
  rintro e w1' ⟨rfl, rfl⟩
  go_wp2_with (fail)
  refine (HK2.out w1).mono ?_
  rintro e w1' ⟨rfl, rfl⟩
  have q0 := cell_of_blk (j := 0) HG1.out rfl
  have q1 := cell_of_blk (j := 1) HG1.out rfl
  go_wp2_with (fail)
  refine (window_yesX 0 345686400000 _ (by omega) (by omega) (by omega)).mono ?_
  rintro e w2 ⟨rfl, hb2⟩
  have hs2 := hb2.size
  have HB2 := Lib.hid (HB1.out.trans (hb2.mono HB1.out.size))
  have HG2 := Lib.hid ((hb2.block gw hl1).trans HG1.out)
  have hl2 : gw < w2.heap.size := by omega
  have hgww : w.heap.size ≤ w2.heap.size := HB2.out.size
  clear hb2 q0 q1
  go_wp2_with (fail)
  go_loopw [11, 34] (fun s u wx => ∃ (k : Nat) (A2 : Option Addr) (c2 : Nat), k ≤ n ∧ u = .int .i64 (k : Int) ∧ s = .slice A2 k c2 ∧ Hid (wx.ownsRow w2.heap.size 37 4 (.slice A2 k c2) k (recs smpC (l.take k)) ∧ Below w2.heap.size w2 wx)) (fun _ u _ => n - (intOf u).toNat)
  case atStart => exact ⟨0, none, 0, Nat.zero_le _, rfl, rfl, Lib.hid ⟨by simpa [recs] using World.ownsRow_nil _ _ _ _, Below.refl _ _⟩⟩
  case round =>
    obtain ⟨k, A2, c2, hk, rfl, rfl, HR⟩ := hrel
    obtain ⟨wa, rfl⟩ : ∃ wy : World, wy = wr := ⟨_, rfl⟩
    by_cases hlt : k < n
    · have hltI : (k : Int) < (n : Int) := by omega
      obtain ⟨x, hx⟩ : ∃ x, l[k]? = some x := ⟨_, List.getElem?_eq_getElem (by have := HN.out; omega)⟩
      obtain ⟨b, o, rfl, hb, hC⟩ := HR0.out.posR smpC_len (by omega) (by have := HN.out; omega)
      have hsa := HR.out.2.size
      obtain ⟨s0, s1, s2, s3⟩ := smp_cells (hC.keep ((HR.out.2.block b (by omega)).trans (HB2.out.block b hb))) k x hx
      have hbw : b < wa.heap.size := by omega
      have hat := HG.out.at_ k x hx
      have HTK := Lib.hid (show recs smpC (l.take (k + 1)) = recs smpC (l.take k) ++ smpC x by rw [List.take_add_one, hx]; simp [recs])
      obtain ⟨gx, egx⟩ : ∃ y, y = wa.heap.size := ⟨_, rfl⟩
      obtain ⟨w3, e3⟩ : ∃ V : World, V = wa.alloc (.cells #[.string ⟨#[100]⟩, .string ⟨#[109]⟩, .int .i64 x.1, .int .i64 x.2] 37) := ⟨_, rfl⟩
      have hb3 : Below wa.heap.size wa w3 := by rw [e3]; exact (Below.refl _ _).alloc (Nat.le_refl _) _
      have hg3 : w3.heap[gx]? = some (.cells #[.string ⟨#[100]⟩, .string ⟨#[109]⟩, .int .i64 x.1, .int .i64 x.2] 37 (0, 0)) := by rw [e3, egx]; exact heap_new wa _
      have HO3 := Lib.hid (own_below HR.out.1 hb3)
      have HB3 := Lib.hid (HR.out.2.trans (hb3.mono hsa))
      have HGX := Lib.hid hg3
      clear hC hx
      go_upto_region 12 with (fail)
      rw [← egx, ← e3]
      clear egx e3 hb3 s0 s1 s2 s3
      have k0 := cell_of_blk (j := 0) hg3 rfl
      have k1 := cell_of_blk (j := 1) hg3 rfl
      have k2 := cell_of_blk (j := 2) hg3 rfl
      have hgw3 := (HB3.out.block gw hl2).trans HG2.out
      have q0 := cell_of_blk (j := 0) hgw3 rfl
      have q1 := cell_of_blk (j := 1) hgw3 rfl
      have hl3 := (Array.getElem?_eq_some_iff.1 hg3).1
      have hs3 := HB3.out.size
      have HIN := Lib.hid (in_yes 0 345686400000 x.1 w3 hat.1 hat.2)
      unfold winV at HIN
      clear hg3 hgw3
      go_wp2_with (fail)
      refine HIN.out.mono ?_
      rintro e w4 ⟨rfl, hb4⟩
      have hs4 := hb4.size
      have hg4 := (hb4.block gx hl3).trans HGX.out
      have HO4 := Lib.hid (own_below HO3.out hb4)
      have HB4 := Lib.hid (HB3.out.trans (hb4.mono hs3))
      clear hb4 k0 k1 k2 q0 q1 HIN
      have k0 := cell_of_blk (j := 0) hg4 rfl
      have k1 := cell_of_blk (j := 1) hg4 rfl
      have k2 := cell_of_blk (j := 2) hg4 rfl
      have k3 := cell_of_blk (j := 3) hg4 rfl
      have hl4 := (Array.getElem?_eq_some_iff.1 hg4).1
      clear hg4
      go_wp2_with (at_builtin; refine wpList_append_own _ rfl _ _ 26 rfl w2.heap.size 37 i0 _ 4 48 Tryz.underlying26 hi hz0 hz1 hz2 rfl (by decide) _ _ _ rfl (HO4.out.alloc _) ⟨w4.heap.size, 0, none⟩ 1 1 (smpC x) rfl rfl ?c1 ?c2 ?c3 ?c4 ?c5 ?_)
      case c1 => first | exact fun j u h => h | exact cells_add (Cells.new w4 _ _ _ _ rfl)
      case c2 => exact smpC_one _
      case c3 => unfold maxLen; omega
      case c4 => omega
      case c5 => first | omega | (simp; omega)
      intro v5 w5 ho5 hg5 _
      have hg45 := grown_of_alloc hg5
      obtain ⟨A3, c3, rfl⟩ := own_slice ho5
      have HN5 := Lib.hid (show w5.ownsRow w2.heap.size 37 4 (.slice A3 (k + 1) c3) (k + 1) (recs smpC (l.take (k + 1))) ∧ Below w2.heap.size w2 w5 from
        ⟨by rw [HTK.out]; exact ho5, HB4.out.grown hg45 HB4.out.size (fun g hg => (HO4.out.lt g hg).1)⟩)
      clear ho5 hg5 hg45
      go_wp2_with (fail)
      go_roundw
      case rel => exact ⟨k + 1, A3, c3, by omega, by go_num, rfl, HN5⟩
      case measure => simp [intOf]; omega
    · have hltI : ¬ (k : Int) < (n : Int) := by omega
      have hkn : k = n := by omega
      subst hkn
      have HP := Lib.hid (show MxPost w (.returned (.tuple #[.slice A2 k c2, .int .i64 0])) wa from
        ⟨_, k, l.take k, rfl, by rw [List.length_take, HN.out]; omega, by omega, own_mono HR.out.1 hgww, HB2.out.trans (HR.out.2.mono hgww)⟩)
      go_wp2_with (fail)
      go_ret2
      exact HP.out
end Go.Proofs.YtnmgfnnkcenfeaaGreatDoor
