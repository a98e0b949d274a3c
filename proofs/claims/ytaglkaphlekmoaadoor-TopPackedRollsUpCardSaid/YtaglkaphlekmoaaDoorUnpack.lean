/- Unpack of what Pack wrote. -/
import Derived.Test.YtaglkaphlekmoaaDoorUnseven
import Derived.Test.YtaglkaphlekmoaaDoorPack
import Derived.Test.YtaglkaphlekmoaaDoorEqual
import Derived.Test.YtaglkaphlekmoaaDoorSer1
namespace Go.Proofs.YtaglkaphlekmoaaDoor
open Go.RowKit

theorem packS_len (l : List Smp) : ∀ (a b v : Int) (f : Bool), (packS a b v f l).length ≤ 4 * l.length := by
  induction l with
  | nil => intros; simp [packS]
  | cons x l ih =>
    intro a b v f
    have h1 := sev_len2 (dbl (x.1 - a - b))
    have h2 := sev_len2 (dbl (x.2 - v))
    have h3 := ih x.1 (if f then b else x.1 - a) x.2 false
    simp only [packS, List.length_append, List.length_cons] at h3 ⊢
    omega
theorem packL_len (l : List Smp) : (packL l).length ≤ 4 * l.length + 2 := by
  have h1 := sev_len2 l.length
  have h2 := packS_len l 0 0 0 true
  simp only [packL, List.length_append]; omega

set_option maxRecDepth 100000 in
set_option maxHeartbeats 4000000 in
theorem unpack_any (l : List Smp) (n len c : Nat) (A : Option Addr) (w : World) (hn : l.length = n) (hg : GoodS l) (hs : StepsOk 0 0 0 true l) (hlen : len = (packL l).length) (hcap : len ≤ c) (hr : Row w w.heap.size A (bytesV (packL l))) :
    Calls Tryd.prog 6 #[.slice A len c, .string ⟨#[100]⟩, .string ⟨#[109]⟩] w fun e w' => ∃ v, e = .returned (.tuple #[v, .int .i64 0]) ∧ w'.ownsRow w.heap.size 41 4 v n (cellsOf l) ∧ Below w.heap.size w w' := by
  obtain ⟨i0, hi, hz0, hz1, hz2⟩ := info_parts Tryd.infoS
  have h5 : n ≤ 5000 := by have := hg.len; omega
  have hl5 : len ≤ 100000 := by have := packL_len l; omega
  have HR := Lib.hid hr
  have HG := Lib.hid hg
  have HS := Lib.hid hs
  have HN := Lib.hid hn
  have HLEN := Lib.hid hlen
  clear hr hg hs hn hlen
  have hn' : (n : Int) ≤ 5000 := by omega
  go_enter Tryd.func6, Tryd.ntmps6
  go_wp2_with (go_at_call 15; refine (key_yes _ _ (by kernel_rfl)).mono ?_; rintro e w' ⟨rfl, rfl⟩)
  refine (unseven_any w w.heap.size len c n A (packS 0 0 0 true l) (by omega) (by have := HLEN.out; have h2 := HN.out; rw [packL, h2, List.length_append] at this; exact this) (by omega) hcap (by have := HR.out; rw [packL, HN.out] at this; exact this)).mono ?_
  rintro e w1 ⟨A1, c1, rfl, hr1, hle1, q1, rfl⟩
  have HR1 := Lib.hid hr1
  have HLE1 := Lib.hid (show len - (sev n).length = (packS 0 0 0 true l).length by
    have := HLEN.out; have h2 := HN.out; rw [packL, h2, List.length_append] at this; omega)
  clear hr1
  go_wp2_with (fail)
  go_loopw [9, 11, 12, 13, 14, 46] (fun r v a d q i wr => ∃ (k : Nat) (at_ by_ val : Int) (rest : List Int) (A' : Option Addr) (c' : Nat), k ≤ n ∧ i = .int .i64 k ∧ a = .int .i64 at_ ∧ d = .int .i64 by_ ∧ q = .int .i64 val ∧
      r = .slice A' rest.length c' ∧ wr.ownsRow w.heap.size 41 4 v k (cellsOf (l.take k)) ∧ Hid (rest = packS at_ by_ val (k == 0) (l.drop k) ∧ StepsOk at_ by_ val (k == 0) (l.drop k)) ∧ Row wr w.heap.size A' (bytesV rest) ∧ rest.length ≤ c' ∧ Below w.heap.size w wr ∧
      rest.length ≤ 100000 ∧ (0 ≤ at_ ∧ at_ < 345686400000) ∧ (-345686400000 < by_ ∧ by_ < 345686400000) ∧ (-1000000000 ≤ val ∧ val ≤ 1000000000)) (fun _ _ _ _ _ i _ => n - (intOf i).toNat)
  case atStart =>
    refine ⟨0, 0, 0, 0, packS 0 0 0 true l, A1, c1, Nat.zero_le _, rfl, rfl, rfl, rfl, by rw [HLE1.out], by simpa [cellsOf] using World.ownsRow_nil _ _ _ _, ?_, HR1.out, by have := HLE1.out; omega, below_drewN (Below.refl _ _) _, by have := HLE1.out; omega, by omega, by omega, by omega⟩
    exact ⟨by simp, by simpa using HS.out⟩
  case round =>
    obtain ⟨k, at_, by_, val, rest, A', c', hk, rfl, rfl, rfl, rfl, rfl, hown, hrest, hrow, hle, hbl, hrl, ⟨ha1, ha2⟩, ⟨hy1, hy2⟩, ⟨hv1, hv2⟩⟩ := hrel
    have hsz := hbl.size
    by_cases hlt : k < n
    · have hkl : k < l.length := by have := HN.out; omega
      obtain ⟨x, hx⟩ : ∃ x, l[k]? = some x := ⟨_, List.getElem?_eq_getElem hkl⟩
      have hdr : l.drop k = x :: l.drop (k + 1) := by
        rw [List.drop_eq_getElem_cons hkl]; congr 1
        rw [List.getElem?_eq_getElem hkl] at hx; injection hx
      have htk : l.take (k + 1) = l.take k ++ [x] := by
        rw [List.take_add_one, hx]; rfl
      have hat := HG.out.at_ k x hx
      have hval := HG.out.val k x hx
      obtain ⟨a, v⟩ := x
      simp only at hat hval
      have hR := hrest.out
      rw [hdr] at hR
      simp only [packS, StepsOk] at hR
      obtain ⟨hR1, hs1, hs2, hs3, hs4, hR2⟩ := hR
      obtain ⟨dx, edx⟩ : ∃ dx, dx = a - at_ - by_ := ⟨_, rfl⟩
      obtain ⟨dv, edv⟩ : ∃ dv, dv = v - val := ⟨_, rfl⟩
      obtain ⟨d1, ed1⟩ : ∃ d1, d1 = a - at_ := ⟨_, rfl⟩
      rw [← edx, ← edv, ← ed1] at hR1
      rw [← edx] at hs1 hs2
      rw [← edv] at hs3 hs4
      rw [← ed1] at hR2
      obtain ⟨rest', er'⟩ : ∃ rest', rest' = packS a (if (k == 0) = true then by_ else d1) v false (l.drop (k + 1)) := ⟨_, rfl⟩
      rw [← er', List.append_assoc] at hR1
      have g1 : by_ + dx = d1 := by omega
      have g2 : at_ + d1 = a := by omega
      have g3 : val + dv = v := by omega
      have G := Lib.hid (And.intro g1 (And.intro g2 g3))
      have hd1 : -345686400000 < d1 ∧ d1 < 345686400000 := by omega
      obtain ⟨hd1a, hd1b⟩ := hd1
      have HR2 := Lib.hid hR2
      have HER := Lib.hid er'
      have HTK := Lib.hid htk
      have HBL := Lib.hid hbl
      have HOWN := Lib.hid hown
      have HL1 := sev_len2 (dbl dx)
      have HL2 := sev_len2 (dbl dv)
      have HLEN1 := Lib.hid (show rest.length = (sev (dbl dx)).length + ((sev (dbl dv)).length + rest'.length) by rw [hR1]; simp)
      have HROW := Lib.hid (show Row wr w.heap.size A' (bytesV (sev (dbl dx) ++ (sev (dbl dv) ++ rest'))) by rw [← hR1]; exact hrow)
      clear hbl hx hdr hrest hown hR1 hR2 er' htk edx edv ed1 hrow g1 g2 g3
      go_wp2_with (fail)
      refine (unseven_any wr w.heap.size rest.length c' (dbl dx) A' (sev (dbl dv) ++ rest') (dbl_lt _ hs1 hs2) (by have := HLEN1.out; simp only [List.length_append]; omega) (by omega) hle HROW.out).mono ?_
      rintro e w2 ⟨A2, c2, rfl, hr2, hle2, q2, rfl⟩
      have HROW2 := Lib.hid hr2
      have HLE2 := Lib.hid (show rest.length - (sev (dbl dx)).length = (sev (dbl dv)).length + rest'.length by have := HLEN1.out; omega)
      have hle2' : (sev (dbl dv)).length + rest'.length ≤ c2 := by have := HLE2.out; omega
      rw [HLE2.out]
      clear hr2 hle2
      go_wp2_with (fail)
      refine (unseven_any (wr.drewN q2) w.heap.size _ c2 (dbl dv) A2 rest' (dbl_lt _ hs3 hs4) rfl (by have := HLEN1.out; omega) hle2' (show Row (wr.drewN q2) _ _ _ from HROW2.out)).mono ?_
      rintro e w3 ⟨A3, c3, rfl, hr3, hle3, q3, rfl⟩
      have HROW3 := Lib.hid hr3
      have HLE3 := Lib.hid (show (sev (dbl dv)).length + rest'.length - (sev (dbl dv)).length = rest'.length by omega)
      have hle3' : rest'.length ≤ c3 := by have := HLE3.out; omega
      rw [HLE3.out]
      clear hr3 hle3
      obtain ⟨g1, g2, g3⟩ := G.out
      clear G
      by_cases hk0 : (0 : Int) < (k : Int)
      · go_wp2_with (first | (go_at_call 17; refine (halved_any _ _ (by omega) (by omega)).mono ?_; rintro e w' ⟨rfl, rfl⟩) | (go_at_call 18; refine (out_no _ _ _ _ (by omega) (by omega)).mono ?_; rintro e w' ⟨rfl, rfl⟩) | (go_at_call 19; refine (moment_yes _ _ (by omega) (by omega)).mono ?_; rintro e w' ⟨rfl, rfl⟩) | (at_builtin; refine wpList_append_own2 _ rfl (.tmp 85) (.tmp 91) 26 rfl w.heap.size 41 i0 _ 4 48 Tryd.underlying26 hi hz0 hz1 hz2 rfl (by decide) _ _ _ rfl (own_drewN (HOWN.out.alloc (.cells #[.string ⟨#[100]⟩, .string ⟨#[109]⟩, .int .i64 a, .int .i64 v] 41)) (q2 + q3)) ⟨wr.heap.size, 0, none⟩ 1 1 (smpC (a, v)) rfl rfl ?pc1 ?pc2 ?pc3 ?pc4 ?pc5 ?_))
        case pc1 => exact cells_add (Cells.drewN (Cells.new wr #[.string ⟨#[100]⟩, .string ⟨#[109]⟩, .int .i64 a, .int .i64 v] 41 (0, 0) _ rfl) (q2 + q3))
        case pc2 => exact smpC_one _
        case pc3 => unfold maxLen; omega
        case pc4 => omega
        case pc5 => simp; omega
        intro v' w4 hown4 hgr4 _
        have HO4 := Lib.hid hown4
        have hg4 := grown_of_drewN (grown_of_alloc hgr4)
        have HB4 := Lib.hid (HBL.out.grown hg4 hsz (fun g hg => (HOWN.out.lt g hg).1))
        clear hown4 hgr4 hg4
        go_wp2_with (fail)
        go_roundw
        case rel =>
          refine ⟨k + 1, a, d1, v, rest', A3, c3, by omega, by go_num, rfl, rfl, rfl, rfl, ?_, ?_, ?_, hle3', HB4.out, by have := HLEN1.out; omega, ⟨by omega, by omega⟩, ⟨by omega, by omega⟩, ⟨by omega, by omega⟩⟩
          · rw [HTK.out, cellsOf_snoc]; exact HO4.out
          · have h1 := HER.out
            have h2 := HR2.out
            have e1 : (k == 0) = false := by simp; omega
            rw [e1] at h1 h2
            exact ⟨by simpa using h1, by simpa using h2⟩
          · exact (show Row wr _ _ _ from HROW3.out).keep (fun b hb => (HB4.out.block b hb).trans (HBL.out.block b hb).symm)
        case measure => simp [intOf]; omega
      · have hk1 : (k : Int) ≤ 0 := by omega
        have HK0 := Lib.hid (show (k == 0) = true by simp; omega)
        go_wp2_with (first | (go_at_call 17; refine (halved_any _ _ (by omega) (by omega)).mono ?_; rintro e w' ⟨rfl, rfl⟩) | (go_at_call 18; refine (out_no _ _ _ _ (by omega) (by omega)).mono ?_; rintro e w' ⟨rfl, rfl⟩) | (go_at_call 19; refine (moment_yes _ _ (by omega) (by omega)).mono ?_; rintro e w' ⟨rfl, rfl⟩) | (at_builtin; refine wpList_append_own2 _ rfl (.tmp 85) (.tmp 91) 26 rfl w.heap.size 41 i0 _ 4 48 Tryd.underlying26 hi hz0 hz1 hz2 rfl (by decide) _ _ _ rfl (own_drewN (HOWN.out.alloc (.cells #[.string ⟨#[100]⟩, .string ⟨#[109]⟩, .int .i64 a, .int .i64 v] 41)) (q2 + q3)) ⟨wr.heap.size, 0, none⟩ 1 1 (smpC (a, v)) rfl rfl ?zc1 ?zc2 ?zc3 ?zc4 ?zc5 ?_))
        case zc1 => exact cells_add (Cells.drewN (Cells.new wr #[.string ⟨#[100]⟩, .string ⟨#[109]⟩, .int .i64 a, .int .i64 v] 41 (0, 0) _ rfl) (q2 + q3))
        case zc2 => exact smpC_one _
        case zc3 => unfold maxLen; omega
        case zc4 => omega
        case zc5 => simp; omega
        intro v' w4 hown4 hgr4 _
        have HO4 := Lib.hid hown4
        have hg4 := grown_of_drewN (grown_of_alloc hgr4)
        have HB4 := Lib.hid (HBL.out.grown hg4 hsz (fun g hg => (HOWN.out.lt g hg).1))
        clear hown4 hgr4 hg4
        go_wp2_with (fail)
        go_roundw
        case rel =>
          refine ⟨k + 1, a, by_, v, rest', A3, c3, by omega, by go_num, rfl, rfl, rfl, rfl, ?_, ?_, ?_, hle3', HB4.out, by have := HLEN1.out; omega, ⟨by omega, by omega⟩, ⟨by omega, by omega⟩, ⟨by omega, by omega⟩⟩
          · rw [HTK.out, cellsOf_snoc]; exact HO4.out
          · have h1 := HER.out
            have h2 := HR2.out
            rw [HK0.out] at h1 h2
            exact ⟨by simpa using h1, by simpa using h2⟩
          · exact (show Row wr _ _ _ from HROW3.out).keep (fun b hb => (HB4.out.block b hb).trans (HBL.out.block b hb).symm)
        case measure => simp [intOf]; omega
    · have hkn : k = n := by omega
      subst hkn
      have HBL := Lib.hid hbl
      have HT := Lib.hid (show l.take k = l by rw [List.take_of_length_le (by have := HN.out; omega)])
      obtain ⟨Ao, co, rfl⟩ := own_slice hown
      have HOWN := Lib.hid (show wr.ownsRow w.heap.size 41 4 (.slice Ao k co) k (cellsOf l) by rw [HT.out] at hown; exact hown)
      clear hbl hown hrest hrow
      go_wp2_with (fail)
      refine (checkSeries_any l k co Ao wr HN.out HG.out (own_row HOWN.out)).mono ?_
      rintro e w5 ⟨rfl, hb5⟩
      have hs5 := hb5.size
      have HO5 := Lib.hid (own_below HOWN.out hb5)
      have HB5 := Lib.hid (HBL.out.trans (hb5.mono hsz))
      clear hb5
      go_wp2_with (fail)
      refine (packI_any l k co Ao w5 HN.out HG.out (own_row HO5.out) HS.out).mono ?_
      rintro e w6 ⟨v6, rfl, hown6, hb6⟩
      have hs6 := hb6.size
      obtain ⟨Ap, cp, rfl⟩ := own_slice hown6
      have HROW6 := Lib.hid (own_row hown6)
      have HO6 := Lib.hid (own_below HO5.out hb6)
      have HB6 := Lib.hid (HB5.out.trans (hb6.mono (by omega)))
      rw [← HLEN.out]
      clear hb6 hown6
      go_wp2_with (fail)
      refine (eqBytes_any (packL l) len cp c Ap A w6 HLEN.out.symm (by omega) HROW6.out ((HR.out.below HB6.out).mono (by omega))).mono ?_
      rintro e w7 ⟨rfl, hb7⟩
      have HO7 := Lib.hid (own_below HO6.out hb7)
      have HB7 := Lib.hid (HB6.out.trans (hb7.mono (by omega)))
      clear hb7
      go_wp2_with (fail)
      go_ret2
      exact ⟨_, rfl, HO7.out, HB7.out⟩
end Go.Proofs.YtaglkaphlekmoaaDoor
