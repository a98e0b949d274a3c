/- place.Visits by its contract. -/
import Derived.Test.YtdkldbfhbpmjgaaGreatDoorVsS
import Derived.Test.YtdkldbfhbpmjgaaGreatDoorFst
import Derived.Test.YtdkldbfhbpmjgaaGreatDoorVsP
import Derived.Test.YtdkldbfhbpmjgaaGreatDoorDel
import Derived.Deep.RegionLawGrows
namespace Go.Proofs.YtdkldbfhbpmjgaaGreatDoor
open Go.RowKit

theorem Tryz.infoVi : (Tryz.prog.info? 73).map (fun i => (i.zero, i.size, i.bytes)) = some (some (.agg #[.int .i64 0, .int .i64 0]), 2, 16) := by kernel_rfl
/-- What Visits answers. -/
def ViPost (l : List Pt) (L : List Fx) (w : World) (e : Ending) (w' : World) : Prop :=
  ∃ (v : Value) (S : List Vis), e = .returned (.tuple #[v, .int .i64 0]) ∧ VOk (sureW l) L L.length S ∧ w'.ownsRow w.heap.size 73 2 v S.length (recs viC S) ∧ Below w.heap.size w w'
theorem vi_cells {w : World} {b o : Nat} {l : List Vis} (h : Cells w b o (recs viC l)) (k : Nat) (x : Vis) (hx : l[k]? = some x) : w.cell? ⟨b, o + k * 2, none⟩ = some (.int .i64 x.1) ∧ w.cell? ⟨b, o + k * 2 + 1, none⟩ = some (.int .i64 x.2) :=
  ⟨rec_cell viC_len h k x hx 0 _ rfl, rec_cell viC_len h k x hx 1 _ rfl⟩

set_option maxRecDepth 100000 in
set_option maxHeartbeats 8000000 in
theorem visits_any (l : List Pt) (L : List Fx) (n c b o N C : Nat) (A : Option Addr) (w : World) (hf : FcAt w l n c b o) (hl : FcN l) (hN : L.length = N) (hg : GoodF L) (hnar : ∀ x ∈ L, NarF x) (hr : Row w w.heap.size A (recs fxC L)) :
    Calls Tryz.prog 9 #[fcV (some ⟨b, o, none⟩) n c, .slice A N C] w fun e w' => ViPost l L w e w' := by
  obtain ⟨i0, hi0, hz0, hz1, hz2⟩ := info_parts Tryz.infoVi
  have hlo := hf.ok.lo
  have hhi := hf.ok.hi
  have hln := hf.len
  have hN100 : N ≤ 100 := by rw [← hN]; exact hg.len
  have HSU := Lib.hid (fun (V : World) (x : Fx) (hx : x ∈ L) (hV : Below w.heap.size w V) => surely_any l x n c b o V hf.len (by omega) (by omega) hl.nar (fun y hy => (hf.ok.sp y hy).wide) (hnar x hx) (hg.ok x hx) (hf.below hV).cells (hf.below hV).lt)
  have HCF := Lib.hid (fun (V : World) (hV : Below w.heap.size w V) => checkFence_any l n c b o V (hf.below hV))
  have HTF := Lib.hid (fun (V : World) (hV : Below w.heap.size w V) => trackFault_any L N C A V hN hg ((hr.below hV).mono hV.size))
  have HFI := Lib.hid (fun (V : World) => first_ok 2 2 V.heap.size (V.alloc (.cells #[.int .i64 0, .int .i64 0] 34)) (by omega) (Cells.new V _ _ _ _ rfl))
  have HRW := Lib.hid (fun (V : World) (hV : Below w.heap.size w V) => hr.below hV)
  have HN := Lib.hid hN
  have HG := Lib.hid hg
  clear hf hl hN hg hnar hr hlo hhi hln
  unfold fcV at HCF ⊢
  go_enter Tryz.func9, Tryz.ntmps9
  go_wp2_with (fail)
  obtain ⟨gf, egf⟩ : ∃ g, g = w.heap.size := ⟨_, rfl⟩
  generalize hW : w.alloc (.cells #[.string ⟨#[102]⟩, .slice (some ⟨b, o, none⟩) n c] 28) = W
  have hBW : Below w.heap.size w W := hW ▸ (Below.refl _ _).alloc (Nat.le_refl _) _
  have hWs : W.heap.size = gf + 1 := by rw [← hW, egf]; simp
  have hfb : W.heap[gf]? = some (.cells #[.string ⟨#[102]⟩, .slice (some ⟨b, o, none⟩) n c] 28 (0, 0)) := by rw [← hW, egf]; exact heap_new w _
  have HFB := Lib.hid (fun (V : World) (hV : Below W.heap.size W V) => (hV.block gf (by omega)).trans hfb)
  have HBW := Lib.hid hBW
  have hwW : w.heap.size ≤ W.heap.size := hBW.size
  rw [← egf]
  have hgfW : gf < W.heap.size := by omega
  clear hW hBW hfb egf hWs
  refine (HCF.out W HBW.out).mono ?_
  rintro e w1 ⟨rfl, hb1⟩
  have HB1 := Lib.hid hb1
  have HB10 := Lib.hid (HBW.out.trans (hb1.mono HBW.out.size))
  clear hb1
  go_wp2_with (fail)
  refine (HTF.out w1 HB10.out).mono ?_
  rintro e w2 ⟨rfl, hb2⟩
  have HB2 := Lib.hid (HB1.out.trans (hb2.mono HB1.out.size))
  clear hb2 HB1 HB10 HTF HCF
  go_wp2_with (go_at_call 30; refine (HFI.out w2).mono ?_; rintro e w' ⟨rfl, rfl⟩)
  generalize hU : w2.alloc (.cells #[.int .i64 0, .int .i64 0] 34) = U
  have HBU := Lib.hid (show Below W.heap.size W U from hU ▸ HB2.out.alloc HB2.out.size _)
  have hsU := HBU.out.size
  clear hU HB2 HFI
  go_loopw [7, 22] (fun v s wr => ∃ (k : Nat) (S : List Vis), k ≤ N ∧ s = .int .i64 (k : Int) ∧ VOk (sureW l) L k S ∧ wr.ownsRow W.heap.size 73 2 v S.length (recs viC S) ∧ Below W.heap.size W wr) (fun _ s _ => N - (intOf s).toNat)
  case atStart => exact ⟨0, [], Nat.zero_le _, rfl, VOk.nil _ _, World.ownsRow_nil _ _ _ _, HBU.out⟩
  case round =>
    obtain ⟨k, S, hk, rfl, hvo, hown, hbl⟩ := hrel
    have hsz := hbl.size
    have HVO := Lib.hid hvo
    have HOW := Lib.hid hown
    have HBL := Lib.hid hbl
    have HBLw := Lib.hid (HBW.out.trans (hbl.mono hwW))
    obtain ⟨A7, c7, rfl⟩ := own_slice hown
    by_cases hlt : k < N
    · obtain ⟨x, hx⟩ : ∃ x, L[k]? = some x := ⟨_, List.getElem?_eq_getElem (by have := HN.out; omega)⟩
      obtain ⟨b1, o1, rfl, hb1, hc1⟩ := Row.posR fxC_len (by omega) (HRW.out wr HBLw.out) (by have := HN.out; omega)
      obtain ⟨s0, s1, s2, s3, s4⟩ := fix_cells hc1 k x hx
      have HX := Lib.hid hx
      have HSX := Lib.hid (fun (V : World) (hV : Below w.heap.size w V) => HSU.out V x (List.mem_of_getElem? HX.out) hV)
      obtain ⟨cl, ecl⟩ : ∃ cl, cl = sureW l x := ⟨_, rfl⟩
      rw [← ecl] at HSX
      have HCL := Lib.hid ecl
      have hok := HG.out.get HX.out
      have hx0 := hok.at0
      have hx1 := hok.at1
      have hlenS := HVO.out.len
      have hkI : (k : Int) < (N : Int) := by omega
      have hk0 : (0 : Int) ≤ (k : Int) := by omega
      obtain ⟨m, em⟩ : ∃ m, m = S.length := ⟨_, rfl⟩
      have HM := Lib.hid em
      rw [← em] at HOW hlenS ⊢
      clear hvo hown hbl hc1 hx ecl em hok
      obtain ⟨xa, xx, xy, xe⟩ := x
      unfold fxV at HSX
      simp only at s0 s1 s2 s3 s4 HSX hx0 hx1
      go_upto_region 8 with (fail)
      generalize hV : wr.alloc (.cells #[.string ⟨#[100]⟩, .int .i64 xa, .int .i64 xx, .int .i64 xy, .int .i64 xe] 33) = V
      have hBV : Below wr.heap.size wr V := hV ▸ (Below.refl _ _).alloc (Nat.le_refl _) _
      have hVs : V.heap.size = wr.heap.size + 1 := by rw [← hV]; simp
      have hvb : V.heap[wr.heap.size]? = some (.cells #[.string ⟨#[100]⟩, .int .i64 xa, .int .i64 xx, .int .i64 xy, .int .i64 xe] 33 (0, 0)) := by rw [← hV]; exact heap_new wr _
      have HVB := Lib.hid hvb
      have HBV := Lib.hid (HBL.out.trans (hBV.mono hsz))
      have HOV := Lib.hid (own_below HOW.out hBV)
      have q0 := cell_of_blk (j := 0) hvb rfl
      have q1 := cell_of_blk (j := 1) hvb rfl
      have q2 := cell_of_blk (j := 2) hvb rfl
      have q3 := cell_of_blk (j := 3) hvb rfl
      have q4 := cell_of_blk (j := 4) hvb rfl
      have q5 := cell_of_blk (j := 1) (HFB.out V HBV.out) rfl
      clear hV hBV hvb s0 s1 s2 s3 s4
      rcases vis_cases S with hS | ⟨T, u, hS⟩
      · have hm0 : m = 0 := by rw [HM.out, hS]; rfl
        have HCLO := Lib.hid (show ∀ (v : Vis), S[S.length - 1]? = some v → 0 ≤ v.2 from by rw [hS]; simp)
        subst hm0
        clear hS
        go_wp2_with (fail)
        refine (HSX.out V (HBW.out.trans (HBV.out.mono hwW))).mono ?_
        rintro e w9 ⟨rfl, hb9⟩
        have HB9 := Lib.hid (HBV.out.trans (hb9.mono HBV.out.size))
        have HO9 := Lib.hid (own_below HOV.out hb9)
        have hx9 := (hb9.block wr.heap.size (by omega)).trans HVB.out
        have hs9 := hb9.size
        clear hb9 q0 q1 q2 q3 q4 q5
        have q1 := cell_of_blk (j := 1) hx9 rfl
        clear hx9
        by_cases h2 : cl = 2
        · subst h2
          go_wp2_with (at_builtin; refine wpList_append_own _ rfl _ _ 39 rfl W.heap.size 73 i0 _ 2 16 Tryz.underlying39 hi0 hz0 hz1 hz2 rfl (by decide) _ _ _ rfl (HO9.out.alloc _) ⟨w9.heap.size, 0, none⟩ 1 1 (viC (xa, -1)) rfl rfl ?c1 ?c2 ?c3 ?c4 ?c5 ?_)
          case c1 => exact cells_add (Cells.new w9 _ _ _ _ rfl)
          case c2 => exact viC_one _
          case c3 => unfold maxLen; omega
          case c4 => omega
          case c5 => have := HB9.out.size; simp; omega
          intro v3 w3 ho3 hg3 _
          have hg93 := grown_of_alloc hg3
          have HB3 := Lib.hid (HB9.out.grown hg93 HB9.out.size (fun q hq => (HO9.out.lt q hq).1))
          have HO3 := Lib.hid ho3
          clear ho3 hg3 hg93
          go_wp2_with (fail)
          go_roundw
          case rel => exact ⟨k + 1, S ++ [(xa, -1)], by omega, by go_num, HVO.out.begin HG.out HX.out HCL.out.symm HCLO.out, by rw [recs_snoc, List.length_append, List.length_singleton, ← HM.out]; exact HO3.out, HB3.out⟩
          case measure => simp [intOf]; omega
        · have h2b : (cl == 2) = false := by simpa using h2
          by_cases h0 : cl = 0
          · subst h0
            go_wp2_with (fail)
            go_roundw
            case rel => exact ⟨k + 1, S, by omega, by go_num, HVO.out.keep HX.out ⟨fun h => absurd (HCL.out.trans h) (by decide), fun _ => opn_no HCLO.out⟩, by rw [← HM.out]; exact HO9.out, HB9.out⟩
            case measure => simp [intOf]; omega
          · have h0b : (cl == 0) = false := by simpa using h0
            go_wp2_with (fail)
            go_roundw
            case rel => exact ⟨k + 1, S, by omega, by go_num, HVO.out.keep HX.out ⟨fun h => absurd (HCL.out.trans h) h2, fun h => absurd (HCL.out.trans h) h0⟩, by rw [← HM.out]; exact HO9.out, HB9.out⟩
            case measure => simp [intOf]; omega
      · obtain ⟨q, eq⟩ : ∃ q, q = T.length := ⟨_, rfl⟩
        have hmq : m = q + 1 := by rw [HM.out, hS, eq]; simp
        have HU0 := Lib.hid (show S[q]? = some u by rw [hS, eq]; simp)
        have hu := HVO.out.to_ q u HU0.out
        obtain ⟨g, rfl, hgB, hgV⟩ : ∃ g, A7 = some ⟨g, 0, none⟩ ∧ W.heap.size ≤ g ∧ g < V.heap.size := by
          rcases own_two HOV.out with ⟨_, h, _⟩ | h
          · omega
          · exact h
        have hcu := (vi_cells (own_cells0 HOV.out) q u HU0.out).2
        rw [Nat.zero_add] at hcu
        have e1 : (m : Int) - 1 = (q : Int) := by omega
        have e2 : (0 : Int) < (m : Int) := by omega
        have e3 : (0 : Int) ≤ (q : Int) := by omega
        have e4 : (q : Int) < (m : Int) := by omega
        have e5 : 0 < m := by omega
        have e6 : m - 1 = q := by omega
        obtain ⟨f, t⟩ := u
        simp only at hcu hu
        by_cases ht : t < 0
        · have ht1 : t = -1 := by
            rcases hu with ⟨h, _⟩ | ⟨_, i, y, hi, hy, hyt, _⟩
            · exact h
            · have := (HG.out.get hy).at0
              omega
          subst ht1
          have HTE := Lib.hid (And.intro hS eq)
          have HOPN := Lib.hid (show opn S = true by rw [hS, opn_snoc]; exact decide_eq_true (show (-1 : Int) < 0 by decide))
          have HU := HU0
          clear hS eq hmq hu ht
          go_wp2_with (fail)
          refine (HSX.out V (HBW.out.trans (HBV.out.mono hwW))).mono ?_
          rintro e w9 ⟨rfl, hb9⟩
          have HB9 := Lib.hid (HBV.out.trans (hb9.mono HBV.out.size))
          have HO9 := Lib.hid (own_below HOV.out hb9)
          have hx9 := (hb9.block wr.heap.size (by omega)).trans HVB.out
          have hs9 := hb9.size
          clear hb9 q0 q1 q2 q3 q4 q5
          have q1 := cell_of_blk (j := 1) hx9 rfl
          clear hx9
          by_cases h2 : cl = 2
          · subst h2
            go_wp2_with (fail)
            go_roundw
            case rel => exact ⟨k + 1, S, by omega, by go_num, HVO.out.keep HX.out ⟨fun _ => HOPN.out, fun h => absurd (HCL.out.trans h) (by decide)⟩, by rw [← HM.out]; exact HO9.out, HB9.out⟩
            case measure => simp [intOf]; omega
          · have h2b : (cl == 2) = false := by simpa using h2
            by_cases h0 : cl = 0
            · subst h0
              have hcz := (vi_cells (own_cells0 HO9.out) q (f, -1) HU.out).2
              rw [Nat.zero_add] at hcz
              have hfz := HO9.out.frozenAt (q * 2 + 1)
              have hg9 := (HO9.out.lt g rfl).2
              have hgb := (HO9.out.lt g rfl).1
              have HST := Lib.hid (HO9.out.stored (q * 2 + 1) (.int .i64 xa))
              go_wp2_with (fail)
              go_roundw
              case rel =>
                have hst := HST.out.1
                rw [HTE.out.1, HTE.out.2, recs_close] at hst
                refine ⟨k + 1, T ++ [(f, xa)], by omega, by go_num, ?_, ?_, HB9.out.setCell (p := ⟨g, q * 2 + 1, none⟩) hgb _⟩
                · have h := HVO.out
                  rw [HTE.out.1] at h
                  exact h.close HG.out HX.out HCL.out.symm
                · have e : (T ++ [(f, xa)]).length = m := by rw [HM.out, HTE.out.1]; simp
                  rw [e, HTE.out.2]
                  exact hst
              case measure => simp [intOf]; omega
            · have h0b : (cl == 0) = false := by simpa using h0
              go_wp2_with (fail)
              go_roundw
              case rel => exact ⟨k + 1, S, by omega, by go_num, HVO.out.keep HX.out ⟨fun h => absurd (HCL.out.trans h) h2, fun h => absurd (HCL.out.trans h) h0⟩, by rw [← HM.out]; exact HO9.out, HB9.out⟩
              case measure => simp [intOf]; omega
        · have HCLO := Lib.hid (show ∀ (v : Vis), S[S.length - 1]? = some v → 0 ≤ v.2 from by
            intro v hv
            rw [← HM.out, e6, HU0.out] at hv
            injection hv with hv
            rw [← hv]
            simp only
            omega)
          clear hS eq hmq hu
          go_wp2_with (fail)
          refine (HSX.out V (HBW.out.trans (HBV.out.mono hwW))).mono ?_
          rintro e w9 ⟨rfl, hb9⟩
          have HB9 := Lib.hid (HBV.out.trans (hb9.mono HBV.out.size))
          have HO9 := Lib.hid (own_below HOV.out hb9)
          have hx9 := (hb9.block wr.heap.size (by omega)).trans HVB.out
          have hs9 := hb9.size
          clear hb9 q0 q1 q2 q3 q4 q5
          have q1 := cell_of_blk (j := 1) hx9 rfl
          clear hx9
          by_cases h2 : cl = 2
          · subst h2
            go_wp2_with (at_builtin; refine wpList_append_own _ rfl _ _ 39 rfl W.heap.size 73 i0 _ 2 16 Tryz.underlying39 hi0 hz0 hz1 hz2 rfl (by decide) _ _ _ rfl (HO9.out.alloc _) ⟨w9.heap.size, 0, none⟩ 1 1 (viC (xa, -1)) rfl rfl ?c1 ?c2 ?c3 ?c4 ?c5 ?_)
            case c1 => exact cells_add (Cells.new w9 _ _ _ _ rfl)
            case c2 => exact viC_one _
            case c3 => unfold maxLen; omega
            case c4 => omega
            case c5 => have := HB9.out.size; simp; omega
            intro v3 w3 ho3 hg3 _
            have hg93 := grown_of_alloc hg3
            have HB3 := Lib.hid (HB9.out.grown hg93 HB9.out.size (fun q hq => (HO9.out.lt q hq).1))
            have HO3 := Lib.hid ho3
            clear ho3 hg3 hg93
            go_wp2_with (fail)
            go_roundw
            case rel => exact ⟨k + 1, S ++ [(xa, -1)], by omega, by go_num, HVO.out.begin HG.out HX.out HCL.out.symm HCLO.out, by rw [recs_snoc, List.length_append, List.length_singleton, ← HM.out]; exact HO3.out, HB3.out⟩
            case measure => simp [intOf]; omega
          · have h2b : (cl == 2) = false := by simpa using h2
            by_cases h0 : cl = 0
            · subst h0
              go_wp2_with (fail)
              go_roundw
              case rel => exact ⟨k + 1, S, by omega, by go_num, HVO.out.keep HX.out ⟨fun h => absurd (HCL.out.trans h) (by decide), fun _ => opn_no HCLO.out⟩, by rw [← HM.out]; exact HO9.out, HB9.out⟩
              case measure => simp [intOf]; omega
            · have h0b : (cl == 0) = false := by simpa using h0
              go_wp2_with (fail)
              go_roundw
              case rel => exact ⟨k + 1, S, by omega, by go_num, HVO.out.keep HX.out ⟨fun h => absurd (HCL.out.trans h) h2, fun h => absurd (HCL.out.trans h) h0⟩, by rw [← HM.out]; exact HO9.out, HB9.out⟩
              case measure => simp [intOf]; omega
    · obtain rfl : N = k := by omega
      have HVN := Lib.hid (show VOk (sureW l) L L.length S by rw [HN.out]; exact hvo)
      clear hvo hown hbl
      go_wp2_with (fail)
      go_ret2
      exact ⟨_, S, rfl, HVN.out, own_mono HOW.out hwW, HBLw.out⟩
end Go.Proofs.YtdkldbfhbpmjgaaGreatDoor
