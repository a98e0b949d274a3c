/- RightFence of the stream by its contract. -/
import Derived.Test.YthplhibdapjjgaaGreatDoorFeL
import Derived.Test.YthplhibdapjjgaaGreatDoorFxA
import Derived.Test.YthplhibdapjjgaaGreatDoorDel
import Derived.BigRegion
import Derived.Deep.RegionLawGrows
namespace Go.Proofs.YthplhibdapjjgaaGreatDoor
open Go.RowKit

theorem Tryz.infoSp : (Tryz.prog.info? 37).map (fun i => (i.zero, i.size, i.bytes)) = some (some (.agg #[.int .i64 0, .int .i64 0]), 2, 16) := by kernel_rfl
/-- Where the making of a fence stands: the result's block, the fence's, its first corners', the stream. -/
structure RSt (w wr : World) (p gR gF gC : Nat) (xs : List Int) (k : Nat) : Prop where
  blkR : wr.heap[gR]? = some (.cells #[.string ⟨#[]⟩, .slice none 0 0] 28 (0, 0))
  blkF : wr.heap[gF]? = some (.cells #[.string ⟨#[102]⟩, .slice (some ⟨gC, 0, none⟩) 4 4] 28 (0, 0))
  cellsC : Cells wr gC 0 (recs ptC dfl0)
  ltC : gC < wr.heap.size
  strm : Strm wr p xs k
  grown : w.grownBy wr (some p)
theorem RSt.ltR {w wr : World} {p gR gF gC : Nat} {xs : List Int} {k : Nat} (h : RSt w wr p gR gF gC xs k) : gR < wr.heap.size := (Array.getElem?_eq_some_iff.1 h.blkR).1
theorem RSt.ltF {w wr : World} {p gR gF gC : Nat} {xs : List Int} {k : Nat} (h : RSt w wr p gR gF gC xs k) : gF < wr.heap.size := (Array.getElem?_eq_some_iff.1 h.blkF).1
theorem RSt.step {w wr wz : World} {p gR gF gC : Nat} {xs : List Int} {k k' : Nat} (h : RSt w wr p gR gF gC xs k) (hg : wr.grownBy wz (some p)) (hs : Strm wz p xs k') (hp : p < gR ∧ p < gF ∧ p < gC) : RSt w wz p gR gF gC xs k' :=
  ⟨(hg.block gR h.ltR (by intro e; injection e with e; omega)).trans h.blkR, (hg.block gF h.ltF (by intro e; injection e with e; omega)).trans h.blkF, h.cellsC.keep (hg.block gC h.ltC (by intro e; injection e with e; omega)), Nat.lt_of_lt_of_le h.ltC hg.size, hs, grown_trans h.grown hg⟩
theorem RSt.step2 {w wr wz : World} {p gR gF gC B : Nat} {xs : List Int} {k : Nat} {row : Option Nat} (h : RSt w wr p gR gF gC xs k) (hg : wr.grownBy wz row) (hr : ∀ g, row = some g → B ≤ g) (hp : p < gR ∧ p < gF ∧ p < gC) (hB : gR < B ∧ gF < B ∧ gC < B) (hw : w.heap.size ≤ B) : RSt w wz p gR gF gC xs k :=
  ⟨(hg.block gR h.ltR (fun e => by have := hr _ e.symm; omega)).trans h.blkR, (hg.block gF h.ltF (fun e => by have := hr _ e.symm; omega)).trans h.blkF, h.cellsC.keep (hg.block gC h.ltC (fun e => by have := hr _ e.symm; omega)), Nat.lt_of_lt_of_le h.ltC hg.size,
    h.strm.row hg (fun g e => by have := hr g e; omega), grown_row h.grown hg (fun g e => by have := hr g e; omega)⟩
/-- What RightFence answers. -/
def RfPost (w : World) (p k : Nat) (xs : List Int) (e : Ending) (w' : World) : Prop :=
  ∃ (l : List Pt) (n c b k' : Nat), e = .returned (fcV (some ⟨b, 0, none⟩) n c) ∧ FcAt w' l n c b 0 ∧ w.heap.size ≤ b ∧ (∀ x ∈ l, B2 x) ∧ n ≤ 8 ∧ Strm w' p xs k' ∧ k' ≤ k + 200 ∧ w.grownBy w' (some p)

/-- The end: the result's block is written. -/
theorem rf_fin {w V : World} {p gR k : Nat} {xs : List Int} {a b : Value} (x y : Value) (hR : V.heap[gR]? = some (.cells #[a, b] 28 (0, 0))) (hs : Strm V p xs k) (hg : w.grownBy V (some p)) (hp : p < gR) (hw : w.heap.size ≤ gR) :
    ((V.setCell ⟨gR, 0, none⟩ x).setCell ⟨gR, 1, none⟩ y).cell? ⟨gR, 0, none⟩ = some x ∧ ((V.setCell ⟨gR, 0, none⟩ x).setCell ⟨gR, 1, none⟩ y).cell? ⟨gR, 1, none⟩ = some y ∧ Strm ((V.setCell ⟨gR, 0, none⟩ x).setCell ⟨gR, 1, none⟩ y) p xs k ∧ w.grownBy ((V.setCell ⟨gR, 0, none⟩ x).setCell ⟨gR, 1, none⟩ y) (some p) ∧
      V.grownBy ((V.setCell ⟨gR, 0, none⟩ x).setCell ⟨gR, 1, none⟩ y) (some gR) := by
  have h0 := heap_setCell_same _ _ 0 _ _ x hR
  have h1 := heap_setCell_same _ _ 1 _ _ y h0
  have hgr := grown_set (grown_set (grown_refl V (some gR)) (q := ⟨gR, 0, none⟩) (.inl rfl) x) (q := ⟨gR, 1, none⟩) (.inl rfl) y
  exact ⟨cell_of_blk (j := 0) h1 rfl, cell_of_blk (j := 1) h1 rfl, hs.row hgr (fun g e => by injection e with e; omega), grown_set (grown_set hg (q := ⟨gR, 0, none⟩) (.inr hw) x) (q := ⟨gR, 1, none⟩) (.inr hw) y, hgr⟩
theorem own_cf {w : World} {base : Nat} {e : TypeId} {g n c : Nat} {l : List Pt} (h : w.ownsRow base e 2 (.slice (some ⟨g, 0, none⟩) n c) n (recs ptC l)) {j : Nat} {x : Pt} (hx : l[j]? = some x) : w.cell? ⟨g, j * 2, none⟩ = some (.int .i64 x.1) ∧ w.frozen? ⟨g, j * 2, none⟩ = false := by
  have h1 := (pt_cells (own_cells0 h) j x hx).1
  rw [Nat.zero_add] at h1
  exact ⟨h1, h.frozenAt _⟩
def mlPicks : List Int := [1, 100, -400]
theorem mlPicks_cases (j : Nat) (h : j < 3) : mlPicks.getD j 0 = 1 ∨ mlPicks.getD j 0 = 100 ∨ mlPicks.getD j 0 = -400 := by
  have : j = 0 ∨ j = 1 ∨ j = 2 := by omega
  rcases this with h | h | h <;> subst h <;> decide
theorem grown_drewK {a w : World} {row : Option Nat} (h : a.grownBy w row) : a.grownBy w.drew row := ⟨h.os, h.tape, h.output, h.size, h.block⟩
theorem strm_drewK {w : World} {p k : Nat} {xs : List Int} (h : Strm w p xs k) : Strm w.drew p xs k := h.keep fun _ _ => rfl
theorem cells_drewK {w : World} {b o : Nat} {xs : List Value} (h : Cells w b o xs) : Cells w.drew b o xs := h

/-- One of the given fences. -/
theorem rf_dfl {w w9 : World} {p gR gF gC k kk : Nat} {xs : List Int} {l : List Pt} {cs : Array Value} {n : Nat} (h : RSt w w9 p gR gF gC xs kk) (hpg : p < gR ∧ p < gF ∧ p < gC) (hne : ¬ gR = gF) (hwR : w.heap.size ≤ gR) (hwF : w.heap.size ≤ gF) (hok : FOk l) (hb : ∀ x ∈ l, B2 x) (hc : cs.toList = recs ptC l) (hn : l.length = n) (hn8 : n ≤ 8) (hk : kk ≤ k + 200) :
    RfPost w p k xs (.returned (fcV (some ⟨w9.heap.size, 0, none⟩) n n)) ((((w9.setCell ⟨gF, 1, none⟩ (.slice (some ⟨w9.heap.size, 0, none⟩) n n)).setCell ⟨gR, 0, none⟩ (.string ⟨#[102]⟩)).setCell ⟨gR, 1, none⟩ (.slice (some ⟨w9.heap.size, 0, none⟩) n n)).alloc (.cells cs 37)) ∧
      ((((w9.setCell ⟨gF, 1, none⟩ (.slice (some ⟨w9.heap.size, 0, none⟩) n n)).setCell ⟨gR, 0, none⟩ (.string ⟨#[102]⟩)).setCell ⟨gR, 1, none⟩ (.slice (some ⟨w9.heap.size, 0, none⟩) n n)).alloc (.cells cs 37)).cell? ⟨gR, 0, none⟩ = some (.string ⟨#[102]⟩) ∧
      ((((w9.setCell ⟨gF, 1, none⟩ (.slice (some ⟨w9.heap.size, 0, none⟩) n n)).setCell ⟨gR, 0, none⟩ (.string ⟨#[102]⟩)).setCell ⟨gR, 1, none⟩ (.slice (some ⟨w9.heap.size, 0, none⟩) n n)).alloc (.cells cs 37)).cell? ⟨gR, 1, none⟩ = some (.slice (some ⟨w9.heap.size, 0, none⟩) n n) := by
  have hltR := h.ltR
  have hltF := h.ltF
  have hV : (w9.setCell ⟨gF, 1, none⟩ (.slice (some ⟨w9.heap.size, 0, none⟩) n n)).heap[gR]? = some (.cells #[.string ⟨#[]⟩, .slice none 0 0] 28 (0, 0)) :=
    (Below.heap_setCell _ ⟨gF, 1, none⟩ _ gR hne).trans h.blkR
  have hg := grown_set (grown_refl w9 (some gF)) (q := ⟨gF, 1, none⟩) (.inl rfl) (.slice (some ⟨w9.heap.size, 0, none⟩) n n)
  obtain ⟨a1, a2, a3, a4, a5⟩ := rf_fin (.string ⟨#[102]⟩) (.slice (some ⟨w9.heap.size, 0, none⟩) n n) hV (h.strm.row hg (fun g e => by injection e with e; omega)) (grown_row h.grown hg (fun g e => by injection e with e; omega)) hpg.1 hwR
  have hs : (((w9.setCell ⟨gF, 1, none⟩ (.slice (some ⟨w9.heap.size, 0, none⟩) n n)).setCell ⟨gR, 0, none⟩ (.string ⟨#[102]⟩)).setCell ⟨gR, 1, none⟩ (.slice (some ⟨w9.heap.size, 0, none⟩) n n)).heap.size = w9.heap.size := by simp
  obtain ⟨V, eV⟩ : ∃ V, V = (((w9.setCell ⟨gF, 1, none⟩ (.slice (some ⟨w9.heap.size, 0, none⟩) n n)).setCell ⟨gR, 0, none⟩ (.string ⟨#[102]⟩)).setCell ⟨gR, 1, none⟩ (.slice (some ⟨w9.heap.size, 0, none⟩) n n)) := ⟨_, rfl⟩
  rw [← eV] at a1 a2 a3 a4 hs ⊢
  refine ⟨⟨l, n, n, w9.heap.size, kk, rfl, ⟨hok, hn, Nat.le_refl _, cells_atF hc hs.symm, by simp [hs]⟩, h.grown.size, hb, hn8, a3.alloc _, hk, grown_alloc a4 _⟩, ?_, ?_⟩
  · rw [← a1]
    exact ((Below.refl V.heap.size V).alloc (Nat.le_refl _) _).cell (p := ⟨gR, 0, none⟩) (by show gR < _; omega)
  · rw [← a2]
    exact ((Below.refl V.heap.size V).alloc (Nat.le_refl _) _).cell (p := ⟨gR, 1, none⟩) (by show gR < _; omega)

set_option maxRecDepth 100000 in
set_option maxHeartbeats 16000000 in
theorem rightFence_any (w : World) (p k : Nat) (xs : List Int) (hk : k < 100000) (hs : Strm w p xs k) :
    Calls Tryz.prog 4 #[.pointer (some ⟨p, 0, none⟩)] w fun e w' => RfPost w p k xs e w' := by
  obtain ⟨i0, hi0, hz0, hz1, hz2⟩ := info_parts Tryz.infoSp
  have hplt := hs.lt
  have HS := Lib.hid hs
  clear hs
  go_enter Tryz.func4, Tryz.ntmps4
  go_upto_region 2 with (fail)
  obtain ⟨gR, egR⟩ : ∃ g, g = w.heap.size := ⟨_, rfl⟩
  obtain ⟨gC, egC⟩ : ∃ g, g = w.heap.size + 1 := ⟨_, rfl⟩
  obtain ⟨gF, egF⟩ : ∃ g, g = w.heap.size + 1 + 1 := ⟨_, rfl⟩
  rw [← egF, ← egC, ← egR]
  generalize hW : ((w.alloc (.cells #[.string ⟨#[]⟩, .slice none 0 0] 28)).alloc (.cells #[.int .i64 0, .int .i64 0, .int .i64 10, .int .i64 0, .int .i64 10, .int .i64 10, .int .i64 0, .int .i64 10] 37)).alloc (.cells #[.string ⟨#[102]⟩, .slice (some ⟨gC, 0, none⟩) 4 4] 28) = W
  have HRW := Lib.hid (show RSt w W p gR gF gC xs k from by
    rw [← hW]
    refine ⟨?_, ?_, ?_, ?_, ((HS.out.alloc _).alloc _).alloc _, grown_alloc (grown_alloc (grown_alloc (grown_refl _ _) _) _) _⟩
    · rw [egR, Below.heap_alloc _ _ _ (by simp; omega), Below.heap_alloc _ _ _ (by simp)]; exact heap_new w _
    · have h := heap_new ((w.alloc (.cells #[.string ⟨#[]⟩, .slice none 0 0] 28)).alloc (.cells #[.int .i64 0, .int .i64 0, .int .i64 10, .int .i64 0, .int .i64 10, .int .i64 10, .int .i64 0, .int .i64 10] 37)) (.cells #[.string ⟨#[102]⟩, .slice (some ⟨gC, 0, none⟩) 4 4] 28)
      rw [World.size_alloc, World.size_alloc] at h
      rw [egF]; exact h
    · rw [egC]
      exact Cells.alloc (cells_atF (w := w.alloc (.cells #[.string ⟨#[]⟩, .slice none 0 0] 28)) (n := w.heap.size + 1) rfl (by simp)) (by simp) _
    · rw [egC]; simp)
  have hpg : p < gR ∧ p < gF ∧ p < gC := by omega
  have hne1 : ¬ gR = gF := by omega
  have hne2 : ¬ gF = gR := by omega
  have hwR : w.heap.size ≤ gR := by omega
  have hwF : w.heap.size ≤ gF := by omega
  have hwC : w.heap.size ≤ gC := by omega
  have hCR : ¬ gC = gR := by omega
  have hCF : ¬ gC = gF := by omega
  clear hW egR egC egF
  go_wp2_with (fail)
  go_loopw [12] (fun s wr => ∃ (i kk : Nat), i ≤ 4 ∧ s = .int .i64 (i : Int) ∧ RSt w wr p gR gF gC xs kk ∧ kk ≤ k + 20 * i) (fun s _ => 4 - (intOf s).toNat)
  case atStart => exact ⟨0, k, by omega, rfl, HRW.out, by omega⟩
  case round =>
    obtain ⟨i, kk, hi4, rfl, hrs, hkk⟩ := hrel
    have HR0 := Lib.hid hrs
    have hltF := hrs.ltF
    have hltR := hrs.ltR
    have hltC := hrs.ltC
    clear hrs
    by_cases hlt : i < 4
    · obtain ⟨B, eB⟩ : ∃ B, B = wr.heap.size := ⟨_, rfl⟩
      have hBg3 : gR < B ∧ gF < B ∧ gC < B := by omega
      have hwB : w.heap.size ≤ B := by omega
      have hltI : (i : Int) < 4 := by omega
      have hN := nextV_range xs kk 4 (by omega)
      have HRG := Lib.hid (range_any wr p kk xs 3 6 (by omega) (by omega) (by omega) (by omega) (by omega) HR0.out.strm)
      obtain ⟨N, eN⟩ : ∃ N : Nat, (N : Int) = 3 + nextV xs kk (6 - 3 + 1) := ⟨(3 + nextV xs kk (6 - 3 + 1)).toNat, by have : (6 : Int) - 3 + 1 = 4 := rfl; rw [this]; omega⟩
      have hN3 : 3 ≤ N ∧ N ≤ 6 := by have : (6 : Int) - 3 + 1 = 4 := rfl; rw [this] at eN; omega
      rw [← eN] at HRG
      clear eN hN
      go_wp2_with (fail)
      refine HRG.out.mono ?_
      rintro e w1 ⟨rfl, hst1, hg1⟩
      have HR1 := Lib.hid (HR0.out.step hg1 hst1 hpg)
      have hs1 := hg1.size
      have hB1 : B ≤ w1.heap.size := by omega
      clear hst1 hg1 HRG eB
      go_wp2_with (fail)
      go_loopw [4, 16] (fun v s wr => ∃ (j : Nat) (l : List Pt), j ≤ N ∧ s = .int .i64 (j : Int) ∧ l.length = j ∧ (∀ x ∈ l, B1 x) ∧ wr.ownsRow B 37 2 v j (recs ptC l) ∧ RSt w wr p gR gF gC xs (kk + 1 + 2 * j) ∧ B ≤ wr.heap.size) (fun _ s _ => N - (intOf s).toNat)
      case atStart => exact ⟨0, [], by omega, rfl, rfl, by simp, World.ownsRow_nil _ _ _ _, HR1.out, hB1⟩
      case round =>
        obtain ⟨j, l, hjN, rfl, hlen, hb1, hown, hrs, hBr⟩ := hrel
        have HB1 := Lib.hid hb1
        have HOW := Lib.hid hown
        have HRJ := Lib.hid hrs
        have HLEN := Lib.hid hlen
        by_cases hjl : j < N
        · have hjI : (j : Int) < (N : Int) := by omega
          clear hb1 hown hrs hlen
          go_wp2_with (fail)
          refine (place_any wr p (kk + 1 + 2 * j) xs (by omega) HRJ.out.strm).mono ?_
          rintro e w2 ⟨X, Y, rfl, hXY, hst2, hg2⟩
          have HR2 := Lib.hid (HRJ.out.step hg2 hst2 hpg)
          have HO2 := Lib.hid (own_kept HOW.out hg2 (by omega))
          have hs2 := hg2.size
          clear hst2 hg2
          go_wp2_with (at_builtin; refine wpList_append_own _ rfl _ _ 26 rfl B 37 i0 _ 2 16 Tryz.underlying26 hi0 hz0 hz1 hz2 rfl (by decide) _ _ _ rfl (HO2.out.alloc _) ⟨w2.heap.size, 0, none⟩ 1 1 (ptC (X, Y)) rfl rfl ?c1 ?c2 ?c3 ?c4 ?c5 ?_)
          case c1 => exact cells_add (Cells.new w2 _ _ _ _ rfl)
          case c2 => exact ptC_one _
          case c3 => unfold maxLen; omega
          case c4 => omega
          case c5 => simp; omega
          intro v3 w3 ho3 hg3 _
          have hg23 := grown_of_alloc hg3
          have hlo : ∀ q, u4.ownBlock = some q → B ≤ q := fun q hq => (HO2.out.lt q hq).1
          have HR3 := Lib.hid (HR2.out.step2 hg23 hlo hpg hBg3 hwB)
          have HO3 := Lib.hid ho3
          have hs3 := hg23.size
          clear ho3 hg3 hg23 hlo
          go_wp2_with (fail)
          go_roundw
          case rel =>
            refine ⟨j + 1, l ++ [(X, Y)], by omega, by go_num, by simp [HLEN.out], ?_, by rw [recs_snoc]; exact HO3.out, HR3.out, by omega⟩
            intro x hx
            rcases List.mem_append.1 hx with hx | hx
            · exact HB1.out x hx
            · rw [List.mem_singleton] at hx; subst hx; unfold B1; simp only; omega
          case measure => simp [intOf]; omega
        · obtain rfl : N = j := by omega
          obtain ⟨A, c, rfl⟩ := own_slice hown
          clear hb1 hown hrs hlen
          go_wp2_with (fail)
          refine (flip_any wr p (kk + 1 + 2 * N) xs 6 (by omega) (by omega) (by omega) HRJ.out.strm).mono ?_
          rintro e w4 ⟨fl, rfl, hst4, hg4⟩
          have HR4 := Lib.hid (HRJ.out.step hg4 hst4 hpg)
          have HO4 := Lib.hid (own_kept HOW.out hg4 (by omega))
          have hs4 := hg4.size
          clear hst4 hg4
          cases fl with
          | false =>
            obtain ⟨wz, rfl⟩ : ∃ wz : World, wz = w4 := ⟨_, rfl⟩
            obtain ⟨lz, rfl⟩ : ∃ lz, lz = l := ⟨_, rfl⟩
            have HRZ := HR4
            have HOZ := HO4
            have HLZ := Lib.hid (And.intro HLEN.out (fun x hx => (HB1.out x hx).two))
            obtain ⟨g, rfl, hBg, hgz⟩ : ∃ g, A = some ⟨g, 0, none⟩ ∧ B ≤ g ∧ g < wz.heap.size := by
              rcases own_two HOZ.out with ⟨_, h, _⟩ | h
              · omega
              · exact h
            have hcap := own_cap HOZ.out
            have HCO := Lib.hid (corners_any lz N c g 0 wz HLZ.out.1 (by omega) (by omega) hcap (fun x hx => (HLZ.out.2 x hx).sp) (own_cells0 HOZ.out) hgz)
            go_wp2_with (fail)
            refine HCO.out.mono ?_
            rintro e w9 ⟨r, rfl, hok, hb9⟩
            have HCZ := Lib.hid ((own_cells0 HOZ.out).keep (hb9.block g hgz))
            have hs9 := hb9.size
            have HR9 := Lib.hid (HRZ.out.step2 (bel_grown hb9 none) (fun g e => by cases e) hpg hBg3 hwB)
            clear hb9 HCO
            by_cases hr0 : r = 0
            · subst hr0
              have HOK := Lib.hid (hok rfl)
              clear hok
              have f0 := cell_of_blk (j := 0) HR9.out.blkF rfl
              have f1 := cell_of_blk (j := 1) HR9.out.blkF rfl
              have z1 : w9.frozen? ⟨gF, 1, none⟩ = false := by simp [World.frozen?, HR9.out.blkF]
              have r0 := cell_of_blk (j := 0) HR9.out.blkR rfl
              have r1 := cell_of_blk (j := 1) HR9.out.blkR rfl
              have z2 : w9.frozen? ⟨gR, 0, none⟩ = false := by simp [World.frozen?, HR9.out.blkR]
              have z3 : w9.frozen? ⟨gR, 1, none⟩ = false := by simp [World.frozen?, HR9.out.blkR]
              have hltF := HR9.out.ltF
              have hltR := HR9.out.ltR
              have HV := Lib.hid (show (w9.setCell ⟨gF, 1, none⟩ (.slice (some ⟨g, 0, none⟩) N c)).heap[gR]? = some (.cells #[.string ⟨#[]⟩, .slice none 0 0] 28 (0, 0)) ∧ w9.grownBy (w9.setCell ⟨gF, 1, none⟩ (.slice (some ⟨g, 0, none⟩) N c)) (some gF) from
                ⟨(Below.heap_setCell w9 ⟨gF, 1, none⟩ _ gR hne1).trans HR9.out.blkR, grown_set (grown_refl w9 (some gF)) (q := ⟨gF, 1, none⟩) (.inl rfl) _⟩)
              have HFIN := Lib.hid (rf_fin (.string ⟨#[102]⟩) (.slice (some ⟨g, 0, none⟩) N c) HV.out.1 (HR9.out.strm.row HV.out.2 (fun g e => by injection e with e; omega)) (grown_row HR9.out.grown HV.out.2 (fun g e => by injection e with e; omega)) hpg.1 hwR)
              have HCF := Lib.hid (show Cells (((w9.setCell ⟨gF, 1, none⟩ (.slice (some ⟨g, 0, none⟩) N c)).setCell ⟨gR, 0, none⟩ (.string ⟨#[102]⟩)).setCell ⟨gR, 1, none⟩ (.slice (some ⟨g, 0, none⟩) N c)) g 0 (recs ptC lz) ∧ g < (((w9.setCell ⟨gF, 1, none⟩ (.slice (some ⟨g, 0, none⟩) N c)).setCell ⟨gR, 0, none⟩ (.string ⟨#[102]⟩)).setCell ⟨gR, 1, none⟩ (.slice (some ⟨g, 0, none⟩) N c)).heap.size from by
                have h1 := HV.out.2.block g (by omega) (by intro e; injection e with e; omega)
                have h2 := HFIN.out.2.2.2.2.block g (by have := HV.out.2.size; omega) (by intro e; injection e with e; omega)
                exact ⟨HCZ.out.keep (h2.trans h1), by have := HV.out.2.size; have := HFIN.out.2.2.2.2.size; omega⟩)
              go_wp2_with (fail)
              have HOKF := HOK.out
              refine bodyPost_ret (v := fcV (some ⟨g, 0, none⟩) N c) (by simp [results, Tryz.results4, go_sem, fcV, HFIN.out.1, HFIN.out.2.1]) rfl ?_
              exact ⟨lz, N, c, g, _, rfl, ⟨HOKF, HLZ.out.1, hcap, HCF.out.1, HCF.out.2⟩, by omega, HLZ.out.2, by omega, HFIN.out.2.2.1, by omega, HFIN.out.2.2.2.1⟩
            · clear hok
              go_wp2_with (fail)
              go_roundw
              case rel => exact ⟨i + 1, _, by omega, by go_num, HR9.out, by omega⟩
              case measure => simp [intOf]; omega
          | true =>
            obtain ⟨g, rfl, hBg, hg4z⟩ : ∃ g, A = some ⟨g, 0, none⟩ ∧ B ≤ g ∧ g < w4.heap.size := by
              rcases own_two HO4.out with ⟨_, h, _⟩ | h
              · omega
              · exact h
            go_wp2_with (fail)
            go_loopw [28] (fun s wr => ∃ (j : Nat) (l : List Pt), j ≤ N ∧ s = .int .i64 (j : Int) ∧ Chg l N j ∧ wr.ownsRow B 37 2 (.slice (some ⟨g, 0, none⟩) N c) N (recs ptC l) ∧ RSt w wr p gR gF gC xs (kk + 1 + 2 * N + 1 + j) ∧ B ≤ wr.heap.size) (fun s _ => N - (intOf s).toNat)
            case atStart => exact ⟨0, l, by omega, rfl, Chg.start HLEN.out HB1.out, HO4.out, HR4.out, by omega⟩
            case round =>
              obtain ⟨j, lz, hjN, rfl, hchg, hown, hrs, hBr⟩ := hrel
              obtain ⟨wz, rfl⟩ : ∃ wz : World, wz = wr := ⟨_, rfl⟩
              have HCH := Lib.hid hchg
              have HOZ := Lib.hid hown
              have HRZ := Lib.hid hrs
              clear hchg hown hrs
              by_cases hjl : j < N
              · have hjI : (j : Int) < (N : Int) := by omega
                have hj0 : (0 : Int) ≤ (j : Int) := by omega
                have hgz := (HOZ.out.lt g rfl).2
                obtain ⟨x, hx⟩ : ∃ x, lz[j]? = some x := ⟨_, List.getElem?_eq_getElem (by have := HCH.out.len; omega)⟩
                have hx1 := HCH.out.old j x hx (Nat.le_refl _)
                obtain ⟨c0, z0⟩ := own_cf HOZ.out hx
                have HX := Lib.hid hx
                have hxb : -5 ≤ x.1 ∧ x.1 ≤ 20 := ⟨hx1.1, hx1.2.1⟩
                clear hx hx1
                obtain ⟨xx, xy⟩ := x
                simp only at c0 hxb
                have HP1 := Lib.hid ((pick_any (wz.alloc (.cells #[.int .i64 1, .int .i64 100, .int .i64 (-400)] 3)).drew p (kk + 1 + 2 * N + 1 + j) wz.heap.size 3 3 xs mlPicks (by omega) rfl (by omega) (by omega) (strm_drewK (HRZ.out.strm.alloc _)) (by have := HRZ.out.strm.lt; omega) (cells_drewK (cells_atF rfl rfl))).mono (fun e w' h => show ∃ E m : Int, e = .returned (.int .i64 E) ∧ (IntKind.i64.wrap (xx * E) = m ∧ -8000 ≤ m ∧ m ≤ 2000) ∧ RSt w w' p gR gF gC xs (kk + 1 + 2 * N + 1 + (j + 1)) ∧ w'.ownsRow B 37 2 (.slice (some ⟨g, 0, none⟩) N c) N (recs ptC lz) ∧ wz.heap.size ≤ w'.heap.size from by
                  obtain ⟨h1, h2, h3⟩ := h
                  have hgg : wz.grownBy w' (some p) := ⟨h3.os.trans rfl, h3.tape.trans rfl, h3.output.trans rfl, Nat.le_trans (by simp) h3.size, fun q hq hq2 => (h3.block q (by simp; omega) hq2).trans (Below.heap_alloc _ _ q hq)⟩
                  have hE := mlPicks_cases (nextN xs (kk + 1 + 2 * N + 1 + j) 3) (nextN_lt _ _ _ (by omega))
                  refine ⟨_, _, h1, ⟨rfl, ?_⟩, HRZ.out.step hgg h2 hpg, own_kept HOZ.out hgg (by omega), hgg.size⟩
                  have hb : -8000 ≤ xx * mlPicks.getD (nextN xs (kk + 1 + 2 * N + 1 + j) 3) 0 ∧ xx * mlPicks.getD (nextN xs (kk + 1 + 2 * N + 1 + j) 3) 0 ≤ 2000 := by
                    rcases hE with hE | hE | hE <;> rw [hE] <;> omega
                  have hw : IntKind.i64.wrap (xx * mlPicks.getD (nextN xs (kk + 1 + 2 * N + 1 + j) 3) 0) = xx * mlPicks.getD (nextN xs (kk + 1 + 2 * N + 1 + j) 3) 0 := by rw [IntKind.wrap_i64]; omega
                  rw [hw]
                  exact hb))
                have HCF := Lib.hid (fun (V : World) (h : V.ownsRow B 37 2 (.slice (some ⟨g, 0, none⟩) N c) N (recs ptC lz)) => own_cf h HX.out)
                have HLT := Lib.hid (fun (V : World) (h : V.ownsRow B 37 2 (.slice (some ⟨g, 0, none⟩) N c) N (recs ptC lz)) => (h.lt g rfl).2)
                simp only at HCF
                go_wp2_with (fail)
                go_region_law (first
                  | (go_simp; go_at_call 20; with_reducible refine HP1.out.mono ?_; rintro e w6 ⟨E, m, rfl, ⟨hwm, hm1, hm2⟩, hr6, ho6, hs6⟩; obtain ⟨c6, z6⟩ := HCF.out w6 ho6; have hg6 := HLT.out w6 ho6))
                all_goals
                  go_wp2_with (fail)
                  go_roundw
                  case rel =>
                    obtain ⟨hst, hgr⟩ := ho6.stored (j * 2) (.int .i64 m)
                    rw [recs_set0 lz j (xx, xy) m HX.out] at hst
                    refine ⟨j + 1, lz.set j (m, xy), by omega, by go_num, HCH.out.step HX.out ⟨hm1, hm2⟩, hst, hr6.step2 hgr (fun q e => by injection e with e; omega) hpg hBg3 hwB, by have := hgr.size; omega⟩
                  case measure => simp [intOf]; omega
              · obtain rfl : N = j := by omega
                have HLZ := Lib.hid (And.intro HCH.out.len HCH.out.all)
                have hgz := (HOZ.out.lt g rfl).2
                have hcap := own_cap HOZ.out
                have HCO := Lib.hid (corners_any lz N c g 0 wz HLZ.out.1 (by omega) (by omega) hcap (fun x hx => (HLZ.out.2 x hx).sp) (own_cells0 HOZ.out) hgz)
                go_wp2_with (fail)
                refine HCO.out.mono ?_
                rintro e w9 ⟨r, rfl, hok, hb9⟩
                have HCZ := Lib.hid ((own_cells0 HOZ.out).keep (hb9.block g hgz))
                have hs9 := hb9.size
                have HR9 := Lib.hid (HRZ.out.step2 (bel_grown hb9 none) (fun g e => by cases e) hpg hBg3 hwB)
                clear hb9 HCO
                by_cases hr0 : r = 0
                · subst hr0
                  have HOK := Lib.hid (hok rfl)
                  clear hok
                  have f0 := cell_of_blk (j := 0) HR9.out.blkF rfl
                  have f1 := cell_of_blk (j := 1) HR9.out.blkF rfl
                  have z1 : w9.frozen? ⟨gF, 1, none⟩ = false := by simp [World.frozen?, HR9.out.blkF]
                  have r0 := cell_of_blk (j := 0) HR9.out.blkR rfl
                  have r1 := cell_of_blk (j := 1) HR9.out.blkR rfl
                  have z2 : w9.frozen? ⟨gR, 0, none⟩ = false := by simp [World.frozen?, HR9.out.blkR]
                  have z3 : w9.frozen? ⟨gR, 1, none⟩ = false := by simp [World.frozen?, HR9.out.blkR]
                  have hltF := HR9.out.ltF
                  have hltR := HR9.out.ltR
                  have HV := Lib.hid (show (w9.setCell ⟨gF, 1, none⟩ (.slice (some ⟨g, 0, none⟩) N c)).heap[gR]? = some (.cells #[.string ⟨#[]⟩, .slice none 0 0] 28 (0, 0)) ∧ w9.grownBy (w9.setCell ⟨gF, 1, none⟩ (.slice (some ⟨g, 0, none⟩) N c)) (some gF) from
                    ⟨(Below.heap_setCell w9 ⟨gF, 1, none⟩ _ gR hne1).trans HR9.out.blkR, grown_set (grown_refl w9 (some gF)) (q := ⟨gF, 1, none⟩) (.inl rfl) _⟩)
                  have HFIN := Lib.hid (rf_fin (.string ⟨#[102]⟩) (.slice (some ⟨g, 0, none⟩) N c) HV.out.1 (HR9.out.strm.row HV.out.2 (fun g e => by injection e with e; omega)) (grown_row HR9.out.grown HV.out.2 (fun g e => by injection e with e; omega)) hpg.1 hwR)
                  have HCF := Lib.hid (show Cells (((w9.setCell ⟨gF, 1, none⟩ (.slice (some ⟨g, 0, none⟩) N c)).setCell ⟨gR, 0, none⟩ (.string ⟨#[102]⟩)).setCell ⟨gR, 1, none⟩ (.slice (some ⟨g, 0, none⟩) N c)) g 0 (recs ptC lz) ∧ g < (((w9.setCell ⟨gF, 1, none⟩ (.slice (some ⟨g, 0, none⟩) N c)).setCell ⟨gR, 0, none⟩ (.string ⟨#[102]⟩)).setCell ⟨gR, 1, none⟩ (.slice (some ⟨g, 0, none⟩) N c)).heap.size from by
                    have h1 := HV.out.2.block g (by omega) (by intro e; injection e with e; omega)
                    have h2 := HFIN.out.2.2.2.2.block g (by have := HV.out.2.size; omega) (by intro e; injection e with e; omega)
                    exact ⟨HCZ.out.keep (h2.trans h1), by have := HV.out.2.size; have := HFIN.out.2.2.2.2.size; omega⟩)
                  go_wp2_with (fail)
                  have HOKF := HOK.out
                  refine bodyPost_ret (v := fcV (some ⟨g, 0, none⟩) N c) (by simp [results, Tryz.results4, go_sem, fcV, HFIN.out.1, HFIN.out.2.1]) rfl ?_
                  exact ⟨lz, N, c, g, _, rfl, ⟨HOKF, HLZ.out.1, hcap, HCF.out.1, HCF.out.2⟩, by omega, HLZ.out.2, by omega, HFIN.out.2.2.1, by omega, HFIN.out.2.2.2.1⟩
                · clear hok
                  go_wp2_with (fail)
                  go_roundw
                  case rel => exact ⟨i + 1, _, by omega, by go_num, HR9.out, by omega⟩
                  case measure => simp [intOf]; omega
    · obtain rfl : i = 4 := by omega
      go_wp2_with (fail)
      refine (next_any wr p kk xs 4 (by omega) (by omega) HR0.out.strm).mono ?_
      have hv := nextV_range xs kk 4 (by omega)
      obtain ⟨v, ev⟩ : ∃ v, v = nextV xs kk 4 := ⟨_, rfl⟩
      rw [← ev] at hv ⊢
      rintro e w9 ⟨rfl, hst9, hg9⟩
      have HR9 := Lib.hid (HR0.out.step hg9 hst9 hpg)
      have hs9 := hg9.size
      clear hst9 hg9 ev
      have f0 := cell_of_blk (j := 0) HR9.out.blkF rfl
      have f1 := cell_of_blk (j := 1) HR9.out.blkF rfl
      have z1 : w9.frozen? ⟨gF, 1, none⟩ = false := by simp [World.frozen?, HR9.out.blkF]
      have r0 := cell_of_blk (j := 0) HR9.out.blkR rfl
      have r1 := cell_of_blk (j := 1) HR9.out.blkR rfl
      have z2 : w9.frozen? ⟨gR, 0, none⟩ = false := by simp [World.frozen?, HR9.out.blkR]
      have z3 : w9.frozen? ⟨gR, 1, none⟩ = false := by simp [World.frozen?, HR9.out.blkR]
      have hltF9 := HR9.out.ltF
      have hltR9 := HR9.out.ltR
      rcases (show v = 0 ∨ v = 1 ∨ v = 2 ∨ v = 3 by omega) with rfl | rfl | rfl | rfl
      · have HFC := Lib.hid (rf_dfl (k := k) (n := 5) HR9.out hpg hne1 hwR hwF dfl1_ok (by decide) (cs := #[.int .i64 0, .int .i64 0, .int .i64 10, .int .i64 0, .int .i64 10, .int .i64 10, .int .i64 5, .int .i64 3, .int .i64 0, .int .i64 10]) rfl rfl (by decide) (by omega))
        go_wp2_with (fail)
        exact bodyPost_ret (v := fcV (some ⟨w9.heap.size, 0, none⟩) 5 5) (by have h1 := HFC.out.2.1; have h2 := HFC.out.2.2; simp only [results, Tryz.results4, go_sem, fcV] at h1 h2 ⊢; simp [h1, h2, go_sem]) rfl HFC.out.1
      · have HFC := Lib.hid (rf_dfl (k := k) (n := 4) HR9.out hpg hne1 hwR hwF dfl2_ok (by decide) (cs := #[.int .i64 0, .int .i64 10, .int .i64 10, .int .i64 10, .int .i64 10, .int .i64 0, .int .i64 0, .int .i64 0]) rfl rfl (by decide) (by omega))
        go_wp2_with (fail)
        exact bodyPost_ret (v := fcV (some ⟨w9.heap.size, 0, none⟩) 4 4) (by have h1 := HFC.out.2.1; have h2 := HFC.out.2.2; simp only [results, Tryz.results4, go_sem, fcV] at h1 h2 ⊢; simp [h1, h2, go_sem]) rfl HFC.out.1
      · have HFC := Lib.hid (rf_dfl (k := k) (n := 8) HR9.out hpg hne1 hwR hwF dfl3_ok (by decide) (cs := #[.int .i64 0, .int .i64 0, .int .i64 8, .int .i64 0, .int .i64 8, .int .i64 2, .int .i64 2, .int .i64 2, .int .i64 2, .int .i64 6, .int .i64 8, .int .i64 6, .int .i64 8, .int .i64 8, .int .i64 0, .int .i64 8]) rfl rfl (by decide) (by omega))
        go_wp2_with (fail)
        exact bodyPost_ret (v := fcV (some ⟨w9.heap.size, 0, none⟩) 8 8) (by have h1 := HFC.out.2.1; have h2 := HFC.out.2.2; simp only [results, Tryz.results4, go_sem, fcV] at h1 h2 ⊢; simp [h1, h2, go_sem]) rfl HFC.out.1
      · have HFIN := Lib.hid (rf_fin (.string ⟨#[102]⟩) (.slice (some ⟨gC, 0, none⟩) 4 4) HR9.out.blkR HR9.out.strm HR9.out.grown hpg.1 hwR)
        have HCC := Lib.hid (show Cells ((w9.setCell ⟨gR, 0, none⟩ (.string ⟨#[102]⟩)).setCell ⟨gR, 1, none⟩ (.slice (some ⟨gC, 0, none⟩) 4 4)) gC 0 (recs ptC dfl0) ∧ gC < ((w9.setCell ⟨gR, 0, none⟩ (.string ⟨#[102]⟩)).setCell ⟨gR, 1, none⟩ (.slice (some ⟨gC, 0, none⟩) 4 4)).heap.size from
          ⟨HR9.out.cellsC.keep (HFIN.out.2.2.2.2.block gC HR9.out.ltC (by intro e; injection e with e; omega)), Nat.lt_of_lt_of_le HR9.out.ltC HFIN.out.2.2.2.2.size⟩)
        go_wp2_with (fail)
        refine bodyPost_ret (v := fcV (some ⟨gC, 0, none⟩) 4 4) (by simp [results, Tryz.results4, go_sem, fcV, HFIN.out.1, HFIN.out.2.1]) rfl ?_
        exact ⟨dfl0, 4, 4, gC, _, rfl, ⟨dfl0_ok, rfl, Nat.le_refl _, HCC.out.1, HCC.out.2⟩, hwC, by decide, by omega, HFIN.out.2.2.1, by omega, HFIN.out.2.2.2.1⟩
end Go.Proofs.YthplhibdapjjgaaGreatDoor
