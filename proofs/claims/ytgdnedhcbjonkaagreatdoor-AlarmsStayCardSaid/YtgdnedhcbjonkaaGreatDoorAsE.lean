/- slices.EqualFunc of ladders that are the same but for where their rungs lie. -/
import Derived.Test.YtgdnedhcbjonkaaGreatDoorGnL
import Derived.Test.YtgdnedhcbjonkaaGreatDoorEqRg
namespace Go.Proofs.YtgdnedhcbjonkaaGreatDoor
open Go.RowKit

set_option maxRecDepth 100000 in
set_option maxHeartbeats 2000000 in
theorem eqL1_any (x y : Ld) (w : World) (hp : ldP x = ldP y) (hn : x.g.length ≤ 1000) (hx : Row w w.heap.size x.A (recs rgC x.g)) (hy : Row w w.heap.size y.A (recs rgC y.g)) :
    Calls Tryz.prog 16 #[.agg #[.string (ruT x.r), .slice x.A x.g.length x.c, .int .i64 x.ev], .agg #[.string (ruT y.r), .slice y.A y.g.length y.c, .int .i64 y.ev]] w fun e w' => e = .returned (.bool true) ∧ Below w.heap.size w w' := by
  obtain ⟨xr, xA, xc, xg, xe⟩ := x
  obtain ⟨yr, yA, yc, yg, ye⟩ := y
  unfold ldP at hp
  simp only [Prod.mk.injEq] at hp
  obtain ⟨rfl, rfl, rfl⟩ := hp
  simp only at hn hx hy ⊢
  obtain ⟨n, en⟩ : ∃ n, n = xg.length := ⟨_, rfl⟩
  rw [← en] at hn ⊢
  obtain ⟨s, es⟩ : ∃ s, s = ruT xr := ⟨_, rfl⟩
  rw [← es]
  obtain ⟨W, hW⟩ : ∃ W : World, W = (w.alloc (.cells #[.string s, .slice xA n xc, .int .i64 xe] 59)).alloc (.cells #[.string s, .slice yA n yc, .int .i64 xe] 59) := ⟨_, rfl⟩
  have hB : Below w.heap.size w W := by rw [hW]; exact ((Below.refl _ _).alloc (Nat.le_refl _) _).alloc (by simp) _
  have HE := Lib.hid (eqEqRg_any xg n xc yc xA yA W en.symm (by omega) ((hx.below hB).mono hB.size) ((hy.below hB).mono hB.size))
  have HB := Lib.hid hB
  clear hx hy hB en es
  go_enter Tryz.func16, Tryz.ntmps16
  go_upto_region 1 with (fail)
  rw [← hW]
  have h0 : W.heap[w.heap.size]? = some (.cells #[.string s, .slice xA n xc, .int .i64 xe] 59 (0, 0)) := by rw [hW, Below.heap_alloc _ _ _ (by simp)]; exact heap_new w _
  have h1 : W.heap[w.heap.size + 1]? = some (.cells #[.string s, .slice yA n yc, .int .i64 xe] 59 (0, 0)) := by
    rw [hW]
    have := heap_new (w.alloc (.cells #[.string s, .slice xA n xc, .int .i64 xe] 59)) (.cells #[.string s, .slice yA n yc, .int .i64 xe] 59)
    simpa using this
  have c0 := cell_of_blk (j := 0) h0 rfl
  have c1 := cell_of_blk (j := 1) h0 rfl
  have c2 := cell_of_blk (j := 2) h0 rfl
  have d0 := cell_of_blk (j := 0) h1 rfl
  have d1 := cell_of_blk (j := 1) h1 rfl
  have d2 := cell_of_blk (j := 2) h1 rfl
  have hl0 := (Array.getElem?_eq_some_iff.1 h0).1
  have hl1 := (Array.getElem?_eq_some_iff.1 h1).1
  have H0 := Lib.hid h0
  have H1 := Lib.hid h1
  clear hW h0 h1
  go_wp2_with (fail)
  refine HE.out.mono ?_
  rintro e w1 ⟨rfl, hb1⟩
  have hs1 := hb1.size
  have e0 := (hb1.block _ hl0).trans H0.out
  have e1 := (hb1.block _ hl1).trans H1.out
  have HB1 := Lib.hid (HB.out.trans (hb1.mono HB.out.size))
  clear c0 c1 c2 d0 d1 d2 hb1
  have c2 := cell_of_blk (j := 2) e0 rfl
  have d2 := cell_of_blk (j := 2) e1 rfl
  clear e0 e1
  go_wp2_with (fail)
  go_ret
  exact ⟨rfl, HB1.out⟩
theorem ldP_eq {L M : List Ld} (h : L.map ldP = M.map ldP) : L.length = M.length ∧ ∀ (k : Nat) x y, L[k]? = some x → M[k]? = some y → ldP x = ldP y := by
  refine ⟨by simpa using congrArg List.length h, fun k x y hx hy => ?_⟩
  have h1 := map_get hx
  rw [h, map_get hy] at h1
  exact (Option.some.inj h1).symm
set_option maxRecDepth 100000 in
set_option maxHeartbeats 4000000 in
theorem eqLds_any (L M : List Ld) (n c c' : Nat) (A A' : Option Addr) (w : World) (hn : L.length = n) (hn2 : n ≤ 1000) (hLM : L.map ldP = M.map ldP) (hg : ∀ x ∈ L, x.g.length ≤ 1000) (hr : Row w w.heap.size A (recs ldC L)) (hr' : Row w w.heap.size A' (recs ldC M))
    (hrg : ∀ x ∈ L, Row w w.heap.size x.A (recs rgC x.g)) (hrg' : ∀ x ∈ M, Row w w.heap.size x.A (recs rgC x.g)) :
    Calls Tryz.prog 15 #[.slice A n c, .slice A' n c', .func (.func 16) #[] #[]] w fun e w' => e = .returned (.bool true) ∧ Below w.heap.size w w' := by
  have hrun := enters_of Tryz.func16 (by kernel_rfl) rfl
  obtain ⟨hlen, hpt⟩ := ldP_eq hLM
  have HR := Lib.hid hr
  have HR' := Lib.hid hr'
  have HG := Lib.hid (And.intro hrg (And.intro hrg' (And.intro hg hpt)))
  have HN := Lib.hid (show L.length = n ∧ M.length = n from ⟨hn, by omega⟩)
  clear hr hr' hrg hrg' hg hpt hlen hLM hn
  go_enter Tryz.func15, Tryz.ntmps15
  go_wp2_with (fail)
  go_loopw [17] (fun i wr => ∃ k : Nat, k ≤ n ∧ i = .int .i64 k ∧ Below w.heap.size w wr) (fun i _ => n - (intOf i).toNat)
  case atStart => exact ⟨0, Nat.zero_le _, rfl, Below.refl _ _⟩
  case round =>
    obtain ⟨k, hk, rfl, hbl⟩ := hrel
    have HBL := Lib.hid hbl
    have hbs := hbl.size
    by_cases hlt : k < n
    · have hltI : (k : Int) < (n : Int) := by omega
      obtain ⟨x, hx⟩ : ∃ x, L[k]? = some x := ⟨_, List.getElem?_eq_getElem (by have := HN.out; omega)⟩
      obtain ⟨y, hy⟩ : ∃ y, M[k]? = some y := ⟨_, List.getElem?_eq_getElem (by have := HN.out; omega)⟩
      obtain ⟨b, o, rfl, hb, hC⟩ := HR.out.posR ldC_len (by omega) (by have := HN.out; omega)
      obtain ⟨b', o', rfl, hb', hC'⟩ := HR'.out.posR ldC_len (by omega) (by have := HN.out; omega)
      have hC2 := hC.keep (hbl.block b hb)
      have hC3 := hC'.keep (hbl.block b' hb')
      have c0 : wr.cell? ⟨b, o + k * 3, none⟩ = some (.string (ruT x.r)) := rec_cell ldC_len hC2 k x hx 0 _ rfl
      have c1 := rec_cell ldC_len hC2 k x hx 1 _ rfl
      have c2 := rec_cell ldC_len hC2 k x hx 2 _ rfl
      have d0 : wr.cell? ⟨b', o' + k * 3, none⟩ = some (.string (ruT y.r)) := rec_cell ldC_len hC3 k y hy 0 _ rfl
      have d1 := rec_cell ldC_len hC3 k y hy 1 _ rfl
      have d2 := rec_cell ldC_len hC3 k y hy 2 _ rfl
      have hbw : b < wr.heap.size := by omega
      have hbw' : b' < wr.heap.size := by omega
      obtain ⟨g1, eg1⟩ : ∃ g, g = wr.heap.size := ⟨_, rfl⟩
      obtain ⟨w1, e1⟩ : ∃ V : World, V = wr.alloc (.cells #[.string (ruT x.r), .slice x.A x.g.length x.c, .int .i64 x.ev] 59) := ⟨_, rfl⟩
      obtain ⟨w2, e2⟩ : ∃ V : World, V = w1.alloc (.cells #[.string (ruT y.r), .slice y.A y.g.length y.c, .int .i64 y.ev] 59) := ⟨_, rfl⟩
      have hs1 : w1.heap.size = g1 + 1 := by rw [e1, eg1]; simp
      have hb12 : Below wr.heap.size wr w2 := by rw [e2, e1]; exact ((Below.refl _ _).alloc (Nat.le_refl _) _).alloc (by simp) _
      have hx2 : w2.heap[g1]? = some (.cells #[.string (ruT x.r), .slice x.A x.g.length x.c, .int .i64 x.ev] 59 (0, 0)) := by rw [e2, Below.heap_alloc _ _ _ (by omega), e1, eg1]; exact heap_new wr _
      have hy2 : w2.heap[g1 + 1]? = some (.cells #[.string (ruT y.r), .slice y.A y.g.length y.c, .int .i64 y.ev] 59 (0, 0)) := by rw [e2, ← hs1]; exact heap_new w1 _
      have HB2 := Lib.hid (HBL.out.trans (hb12.mono hbs))
      have hxm := List.mem_of_getElem? hx
      have hym := List.mem_of_getElem? hy
      have HCALL := Lib.hid (eqL1_any x y w2 (HG.out.2.2.2 k x y hx hy) (HG.out.2.2.1 x hxm) (((HG.out.1 x hxm).below HB2.out).mono HB2.out.size) (((HG.out.2.1 y hym).below HB2.out).mono HB2.out.size))
      have k0 := cell_of_blk (j := 0) hx2 rfl
      have k1 := cell_of_blk (j := 1) hx2 rfl
      have k2 := cell_of_blk (j := 2) hx2 rfl
      have m0 := cell_of_blk (j := 0) hy2 rfl
      have m1 := cell_of_blk (j := 1) hy2 rfl
      have m2 := cell_of_blk (j := 2) hy2 rfl
      have hl1 := (Array.getElem?_eq_some_iff.1 hx2).1
      have hl2 := (Array.getElem?_eq_some_iff.1 hy2).1
      have cc0 : w1.cell? ⟨b', o' + k * 3, none⟩ = some (.string (ruT y.r)) := by rw [e1]; exact (((Below.refl _ _).alloc (Nat.le_refl _) _).cell (p := ⟨b', o' + k * 3, none⟩) hbw').trans d0
      have cc1 : w1.cell? ⟨b', o' + k * 3 + 1, none⟩ = some (.slice y.A y.g.length y.c) := by rw [e1]; exact (((Below.refl _ _).alloc (Nat.le_refl _) _).cell (p := ⟨b', o' + k * 3 + 1, none⟩) hbw').trans d1
      have cc2 : w1.cell? ⟨b', o' + k * 3 + 2, none⟩ = some (.int .i64 y.ev) := by rw [e1]; exact (((Below.refl _ _).alloc (Nat.le_refl _) _).cell (p := ⟨b', o' + k * 3 + 2, none⟩) hbw').trans d2
      have hbw1 : b' < w1.heap.size := by omega
      clear hbl hC hC' hC2 hC3 hx hy hb12 hx2 hy2 hxm hym
      go_upto_region 6 with (fail)
      rw [← eg1, ← e1]
      clear e1 eg1 d0 d1 d2 c0 c1 c2
      go_upto_region 7 with (fail)
      rw [← e2]
      clear e2 hs1 cc0 cc1 cc2
      go_wp2_with (fail)
      refine HCALL.out.mono ?_
      rintro e w3 ⟨rfl, hb3⟩
      have HB3 := Lib.hid (HB2.out.trans (hb3.mono HB2.out.size))
      clear hb3 k0 k1 k2 m0 m1 m2
      go_wp2_with (fail)
      go_roundw
      case rel => exact ⟨k + 1, by omega, by go_num, HB3.out⟩
      case measure => simp [intOf]; omega
    · have hltI : ¬ (k : Int) < (n : Int) := by omega
      clear hbl
      go_wp2_with (fail)
      go_ret
      exact ⟨rfl, HBL.out⟩
end Go.Proofs.YtgdnedhcbjonkaaGreatDoor
