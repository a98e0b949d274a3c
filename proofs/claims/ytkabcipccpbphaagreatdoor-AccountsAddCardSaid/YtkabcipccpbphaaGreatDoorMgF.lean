/- Several texts in one: AcL. -/
import Derived.Test.YtkabcipccpbphaaGreatDoorMgE
import Derived.Test.YtkabcipccpbphaaGreatDoorMgD
import Derived.Test.YtkabcipccpbphaaGreatDoorMgA

/- AccountsAdd: the law function. -/
namespace Go.Proofs.YtkabcipccpbphaaGreatDoor
open Go.RowKit

theorem row_ownA {α : Type} {f : α → List Value} {k : Nat} {w : World} {base n c : Nat} {e : TypeId} {A : Option Addr} {l : List α} (ho : w.ownsRow base e k (.slice A n c) n (recs f l)) (hn : l.length = n) : Row w w.heap.size A (recs f l) := by
  rcases own_two ho with ⟨rfl, h0, _⟩ | ⟨g, rfl, _, hlt⟩
  · have : l = [] := List.eq_nil_of_length_eq_zero (by omega)
    subst this
    exact .inl rfl
  · exact .inr ⟨g, 0, rfl, hlt, own_cells0 ho⟩
def midPk : List Int := [10, 40, 90]
theorem midPk_range (j : Nat) (h : j < 3) : 0 ≤ midPk.getD j 0 ∧ midPk.getD j 0 ≤ 500 := by
  have : j = 0 ∨ j = 1 ∨ j = 2 := by omega
  rcases this with h | h | h <;> subst h <;> decide
theorem ac_cells {w : World} {b o : Nat} {l : List Ac} (h : Cells w b o (recs acC l)) (i : Nat) (x : Ac) (hx : l[i]? = some x) : w.cell? ⟨b, o + i * 5, none⟩ = some (.string (alrT x.r)) ∧ w.cell? ⟨b, o + i * 5 + 1, none⟩ = some (.int .i64 x.n) ∧ w.cell? ⟨b, o + i * 5 + 2, none⟩ = some (.int .i64 x.k) ∧ w.cell? ⟨b, o + i * 5 + 3, none⟩ = some (.int .i64 x.w) ∧ w.cell? ⟨b, o + i * 5 + 4, none⟩ = some (.int .i64 x.t) :=
  ⟨rec_cell acC_len h i x hx 0 _ rfl, rec_cell acC_len h i x hx 1 _ rfl, rec_cell acC_len h i x hx 2 _ rfl, rec_cell acC_len h i x hx 3 _ rfl, rec_cell acC_len h i x hx 4 _ rfl⟩
theorem acL_bound {l : List Sg} (h : SgsOk l) (hn : l.length ≤ 1000) {f t : Int} (h0 : 0 ≤ f) (h1 : t ≤ 500) {a : Ac} (ha : a ∈ acL l f t) : BdA a 6000000000000000 := by
  obtain ⟨e, _⟩ := acL_r ha
  rw [e]
  obtain ⟨⟨a1, a2⟩, ⟨a3, a4⟩, ⟨a5, a6⟩, a7, a8⟩ := acN_bound (F := lifeAt l alEnd) h0 h1 a.r (namK l) (fun n _ => lifeB h hn n)
  have hle : ((namK l).length : Int) * 1000000000000000 ≤ 6000000000000000 := by
    have h6 : (namK l).length ≤ 6 := List.length_filter_le _ _
    have := Int.mul_le_mul_of_nonneg_right (show ((namK l).length : Int) ≤ 6 by omega) (show (0 : Int) ≤ 1000000000000000 by omega)
    omega
  exact ⟨⟨by omega, by omega⟩, ⟨by omega, by omega⟩, ⟨by omega, by omega⟩, by omega, by omega⟩
set_option maxRecDepth 100000 in
set_option maxHeartbeats 8000000 in
theorem acL_yes (w : World) (xs : List Int) (n c : Nat) (A0 : Option Addr) (hs : ∀ (W : World), Below w.heap.size w W → W.heap[w.heap.size]? = some (.cells #[.slice A0 n c, .int .i64 0] 25) → Strm W w.heap.size xs 0) (hT : RkW w) :
    Calls Tryz.prog 5 #[.slice A0 n c] w fun e w' => e = .returned (.bool true) ∧ Below w.heap.size w w' := by
  have HS := Lib.hid hs
  have HT := Lib.hid (fun V (hV : Below w.heap.size w V) => hT.below hV)
  clear hs hT
  go_enter Tryz.func5, Tryz.ntmps5
  go_upto_region 2 with (fail)
  generalize hW : w.alloc (.cells #[.slice A0 n c, .int .i64 0] 25) = w0
  have hsz0 : w.heap.size < w0.heap.size := by rw [← hW]; simp
  have hB0 : Below w.heap.size w w0 := hW ▸ (Below.refl _ _).alloc (Nat.le_refl _) _
  have HST0 := Lib.hid (HS.out w0 hB0 (by rw [← hW]; exact heap_new w _))
  have HB0 := Lib.hid hB0
  clear hW hB0 HS
  obtain ⟨p, ep⟩ : ∃ p, p = w.heap.size := ⟨_, rfl⟩
  have hpw : w.heap.size ≤ p := by omega
  rw [← ep] at HST0 hsz0 ⊢
  clear ep
  go_wp2_with (fail)
  refine (range_nat w0 p 0 14 xs (by omega) (by omega) HST0.out).mono ?_
  have hNl := nextN_lt xs 0 15 (by omega)
  obtain ⟨N, eN⟩ : ∃ N, N = nextN xs 0 15 := ⟨_, rfl⟩
  rw [← eN] at hNl ⊢
  clear eN
  rintro e w1 ⟨rfl, hst1, hg1⟩
  have HST1 := Lib.hid hst1
  have HB1 := Lib.hid (HB0.out.grown hg1 HB0.out.size (fun q hq => by cases hq; exact hpw))
  have hsz1 : p < w1.heap.size := Nat.lt_of_lt_of_le hsz0 hg1.size
  clear hst1 hg1
  go_wp2_with (fail)
  refine (signals_any w1 p 1 N xs (by omega) (by omega) HST1.out).mono ?_
  rintro e w2 ⟨l, A, cl, k', m, rfl, hG, hlen, hmN, ho, hst2, hk2, hg2⟩
  have HB2 := Lib.hid (HB1.out.grown hg2 HB1.out.size (fun q hq => by cases hq; exact hpw))
  have hs2 := hg2.size
  have HO2 := Lib.hid ho
  have HST2 := Lib.hid hst2
  have HLN := Lib.hid hlen
  have HGG := Lib.hid hG
  clear ho hst2 hg2 hlen hG
  have hm16 : m ≤ 16 := by omega
  go_wp2_with (fail)
  refine (pick_any _ p k' w2.heap.size 3 3 xs midPk (by omega) rfl (by omega) (by omega) (HST2.out.alloc _) (by omega) (Cells.new _ _ _ _ _ rfl)).mono ?_
  have hmid := midPk_range (nextN xs k' 3) (nextN_lt _ _ _ (by omega))
  obtain ⟨mid, emid⟩ : ∃ mid, mid = midPk.getD (nextN xs k' 3) 0 := ⟨_, rfl⟩
  rw [← emid] at hmid ⊢
  clear emid
  rintro e w3 ⟨rfl, _, hg3⟩
  have hg3' := grown_of_alloc hg3
  have HB3 := Lib.hid (HB2.out.grown hg3' HB2.out.size (fun q hq => by cases hq; exact hpw))
  have HROW := Lib.hid (row_ownA (own_kept HO2.out hg3' (by omega)) HLN.out)
  clear hg3 hg3' HO2 HST2
  go_wp2_with (fail)
  refine (sigsFault_any l m cl A w3 HLN.out (by omega) HROW.out HGG.out).mono ?_
  rintro e w4 ⟨z, rfl, hz, hb4⟩
  have HB4 := Lib.hid (HB3.out.trans (hb4.mono HB3.out.size))
  have HROW4 := Lib.hid (fun (V : World) (hV : Below w4.heap.size w4 V) => show Row V V.heap.size A (recs sgC l) from ((HROW.out.below hb4).mono hb4.size |>.below hV).mono hV.size)
  have HZ := Lib.hid hz
  clear hb4 hz
  by_cases hz0 : z = 0
  case neg =>
    have hzb : (z != 0) = true := by simpa using hz0
    have HR := Lib.hid (ready1_yes w4 (HT.out _ HB4.out))
    go_wp2_with (fail)
    refine HR.out.mono ?_
    rintro e w5 ⟨rfl, hb5⟩
    have HF := Lib.hid (HB4.out.trans (hb5.mono HB4.out.size))
    clear hb5
    go_wp2_with (fail)
    go_ret
    exact ⟨rfl, HF.out⟩
  subst hz0
  have HOK := Lib.hid (HZ.out rfl)
  have HAC := Lib.hid (fun (f t : Int) (V : World) (hV : Below w4.heap.size w4 V) (h0 : 0 ≤ f) (h1 : f ≤ t) (h2 : t ≤ 500) => accounts_any l m cl f t A V HOK.out HLN.out (by omega) (HROW4.out V hV) h0 h1 h2)
  have HLEN := Lib.hid (And.intro (acL_len l 0 mid 0 500) (acL_len l mid 500 0 500))
  have hl2 : (acL l 0 500).length ≤ 2 := by unfold acL; rw [List.length_map]; exact List.length_filter_le _ _
  obtain ⟨q, eq⟩ : ∃ q, q = (acL l 0 500).length := ⟨_, rfl⟩
  rw [← eq] at HLEN hl2
  go_wp2_with (fail)
  refine (HAC.out 0 mid w4 (Below.refl _ _) (by omega) hmid.1 hmid.2).mono ?_
  unfold AccP
  rw [HLEN.out.1]
  rintro e w5 ⟨A5, c5, rfl, ho5, hb5⟩
  have hs5 := hb5.size
  have HB5 := Lib.hid hb5
  have HR5 := Lib.hid (fun (V : World) (hV : Below w5.heap.size w5 V) => show Row V V.heap.size A5 (recs acC (acL l 0 mid)) from ((row_ownA ho5 HLEN.out.1).below hV).mono hV.size)
  clear ho5 hb5
  go_wp2_with (fail)
  refine (HAC.out mid 500 w5 HB5.out hmid.1 hmid.2 (by omega)).mono ?_
  unfold AccP
  rw [HLEN.out.2]
  rintro e w6 ⟨A6, c6, rfl, ho6, hb6⟩
  have hs6 := hb6.size
  have HB6 := Lib.hid (HB5.out.trans (hb6.mono hs5))
  have HR56 := Lib.hid (fun (V : World) (hV : Below w6.heap.size w6 V) => HR5.out V (hb6.trans (hV.mono hs6)))
  have HR6 := Lib.hid (fun (V : World) (hV : Below w6.heap.size w6 V) => show Row V V.heap.size A6 (recs acC (acL l mid 500)) from ((row_ownA ho6 HLEN.out.2).below hV).mono hV.size)
  clear ho6 hb6
  go_wp2_with (fail)
  refine (HAC.out 0 500 w6 HB6.out (by omega) (by omega) (by omega)).mono ?_
  unfold AccP
  rw [← eq]
  rintro e w7 ⟨A7, c7, rfl, ho7, hb7⟩
  have hs7 := hb7.size
  have HB7 := Lib.hid (HB6.out.trans (hb7.mono (by omega)))
  have HR57 := Lib.hid (fun (V : World) (hV : Below w7.heap.size w7 V) => HR56.out V (hb7.trans (hV.mono hs7)))
  have HR67 := Lib.hid (fun (V : World) (hV : Below w7.heap.size w7 V) => HR6.out V (hb7.trans (hV.mono hs7)))
  have HR7 := Lib.hid (fun (V : World) (hV : Below w7.heap.size w7 V) => show Row V V.heap.size A7 (recs acC (acL l 0 500)) from ((row_ownA ho7 eq.symm).below hV).mono hV.size)
  have HBW7 := Lib.hid (HB4.out.trans (HB7.out.mono HB4.out.size))
  have HQ := Lib.hid eq.symm
  clear ho7 hb7 eq HAC
  go_wp2_with (fail)
  go_loopw [74] (fun s wr => ∃ (i : Nat), i ≤ q ∧ s = .int .i64 (i : Int) ∧ Below w7.heap.size w7 wr) (fun s _ => q - (intOf s).toNat)
  case atStart => exact ⟨0, by omega, rfl, Below.refl _ _⟩
  case round =>
    obtain ⟨i, hin, rfl, hbr⟩ := hrel
    have hbs := hbr.size
    have HB := Lib.hid hbr
    have HBW := Lib.hid (HBW7.out.trans (hbr.mono HBW7.out.size))
    clear hbr
    by_cases hlt : i < q
    · have hltI : (i : Int) < q := by omega
      obtain ⟨z, hz⟩ : ∃ z, (acL l 0 500)[i]? = some z := ⟨_, List.getElem?_eq_getElem (by have := HQ.out; omega)⟩
      obtain ⟨x, hx⟩ : ∃ x, (acL l 0 mid)[i]? = some x := ⟨_, List.getElem?_eq_getElem (by have := HLEN.out.1; omega)⟩
      obtain ⟨y, hy⟩ : ∃ y, (acL l mid 500)[i]? = some y := ⟨_, List.getElem?_eq_getElem (by have := HLEN.out.2; omega)⟩
      obtain ⟨b7, o7, rfl, hb7, hC7⟩ := (HR7.out wr HB.out).posR acC_len (by omega) (by have := HQ.out; omega)
      obtain ⟨b5, o5, rfl, hb5, hC5⟩ := (HR57.out wr HB.out).posR acC_len (by omega) (by have := HLEN.out.1; omega)
      obtain ⟨b6, o6, rfl, hb6, hC6⟩ := (HR67.out wr HB.out).posR acC_len (by omega) (by have := HLEN.out.2; omega)
      obtain ⟨z0, z1, z2, z3, z4⟩ := ac_cells hC7 i z hz
      obtain ⟨s1, s2, s3, s4⟩ := acL_sum hmid.1 hmid.2 l hx hy hz
      obtain ⟨u1, u2, u3, u4⟩ := acL_bound HOK.out (by have := HLN.out; omega) (by omega) (by omega) (List.mem_of_getElem? hz)
      have v1 : IntKind.i64.wrap (x.n + y.n) = z.n := by rw [s1, IntKind.wrap_i64]; omega
      have v2 : IntKind.i64.wrap (x.k + y.k) = z.k := by rw [s2, IntKind.wrap_i64]; omega
      have v3 : IntKind.i64.wrap (x.w + y.w) = z.w := by rw [s3, IntKind.wrap_i64]; omega
      have v4 : IntKind.i64.wrap (x.t + y.t) = z.t := by rw [s4, IntKind.wrap_i64]; omega
      have HX := Lib.hid (ac_cells hC5 i x hx)
      have HY := Lib.hid (ac_cells hC6 i y hy)
      clear hz hx hy hC7 hC5 hC6 s1 s2 s3 s4 u1 u2 u3 u4
      go_upto_region 13 with (fail)
      obtain ⟨g, eg⟩ : ∃ g, g = wr.heap.size := ⟨_, rfl⟩
      obtain ⟨w8, e8⟩ : ∃ w8, w8 = wr.alloc (.cells #[.string (alrT z.r), .int .i64 z.n, .int .i64 z.k, .int .i64 z.w, .int .i64 z.t] 58) := ⟨_, rfl⟩
      rw [← eg, ← e8]
      have hb8 : Below wr.heap.size wr w8 := by rw [e8]; exact (Below.refl _ _).alloc (Nat.le_refl _) _
      have hg8 : w8.heap[g]? = some (.cells #[.string (alrT z.r), .int .i64 z.n, .int .i64 z.k, .int .i64 z.w, .int .i64 z.t] 58 (0, 0)) := by rw [e8, eg]; exact heap_new wr _
      have hlt8 := (Array.getElem?_eq_some_iff.1 hg8).1
      have hs8 := hb8.size
      have y1 := cell_of_blk (j := 1) hg8 rfl
      have y2 := cell_of_blk (j := 2) hg8 rfl
      have y3 := cell_of_blk (j := 3) hg8 rfl
      have y4 := cell_of_blk (j := 4) hg8 rfl
      obtain ⟨_, p1, p2, p3, p4⟩ := HX.out
      obtain ⟨_, r1, r2, r3, r4⟩ := HY.out
      replace p1 := (hb8.cell (p := ⟨b5, o5 + i * 5 + 1, none⟩) hb5).trans p1
      replace p2 := (hb8.cell (p := ⟨b5, o5 + i * 5 + 2, none⟩) hb5).trans p2
      replace p3 := (hb8.cell (p := ⟨b5, o5 + i * 5 + 3, none⟩) hb5).trans p3
      replace p4 := (hb8.cell (p := ⟨b5, o5 + i * 5 + 4, none⟩) hb5).trans p4
      replace r1 := (hb8.cell (p := ⟨b6, o6 + i * 5 + 1, none⟩) hb6).trans r1
      replace r2 := (hb8.cell (p := ⟨b6, o6 + i * 5 + 2, none⟩) hb6).trans r2
      replace r3 := (hb8.cell (p := ⟨b6, o6 + i * 5 + 3, none⟩) hb6).trans r3
      replace r4 := (hb8.cell (p := ⟨b6, o6 + i * 5 + 4, none⟩) hb6).trans r4
      have HB8 := Lib.hid (HB.out.trans (hb8.mono hbs))
      have hb58 : b5 < w8.heap.size := by omega
      have hb68 : b6 < w8.heap.size := by omega
      clear eg e8 hb8 hg8 z0 z1 z2 z3 z4
      go_quiet (fail)
      go_wp2_with (fail)
      go_roundw
      case rel => exact ⟨i + 1, by omega, by go_num, below_drewN HB8.out _⟩
      case measure => simp [intOf]; omega
    · have hltI : ¬ (i : Int) < q := by omega
      have hin' : i = q := by omega
      have HR := Lib.hid (ready1_yes wr (HT.out _ HBW.out))
      go_wp2_with (fail)
      refine HR.out.mono ?_
      rintro e w8 ⟨rfl, hb8⟩
      have HF := Lib.hid (HBW.out.trans (hb8.mono HBW.out.size))
      clear hb8
      go_wp2_with (fail)
      go_ret
      exact ⟨rfl, HF.out⟩
end Go.Proofs.YtkabcipccpbphaaGreatDoor
