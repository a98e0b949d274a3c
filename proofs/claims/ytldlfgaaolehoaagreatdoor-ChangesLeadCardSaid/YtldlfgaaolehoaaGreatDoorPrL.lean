/- ChangesLead: the law function. Printed by gen_PrL.py. -/
import Derived.Test.YtldlfgaaolehoaaGreatDoorPrX
import Derived.Test.YtldlfgaaolehoaaGreatDoorPrQ
import Derived.Test.YtldlfgaaolehoaaGreatDoorPrN
import Derived.Test.YtldlfgaaolehoaaGreatDoorPrT
import Derived.Test.YtldlfgaaolehoaaGreatDoorMgA
namespace Go.Proofs.YtldlfgaaolehoaaGreatDoor
open Go.RowKit

theorem turn_chs (v w : Nat → Pv) : (chs v w).map trnC = chs w v := chs_turn v w
theorem chs_len_turn (v w : Nat → Pv) : (chs w v).length = (chs v w).length := by rw [← chs_turn v w, List.length_map]
set_option maxRecDepth 100000 in
set_option maxHeartbeats 8000000 in
theorem prL_yes (w : World) (xs : List Int) (n c : Nat) (A0 : Option Addr) (hs : ∀ (W : World), Below w.heap.size w W → W.heap[w.heap.size]? = some (.cells #[.slice A0 n c, .int .i64 0] 25) → Strm W w.heap.size xs 0) (hT : U8T w) :
    Calls Tryz.prog 3 #[.slice A0 n c] w fun e w' => e = .returned (.bool true) ∧ Below w.heap.size w w' := by
  have HS := Lib.hid hs
  have HT := Lib.hid (fun V (hV : Below w.heap.size w V) => hT.below hV)
  clear hs hT
  go_enter Tryz.func3, Tryz.ntmps3
  go_wp2_with (fail)
  generalize hW : w.alloc (.cells #[.slice A0 n c, .int .i64 0] 25) = w0
  have hsz0 : w.heap.size < w0.heap.size := by rw [← hW]; simp
  have hB0 : Below w.heap.size w w0 := hW ▸ (Below.refl _ _).alloc (Nat.le_refl _) _
  have HST0 := Lib.hid (HS.out w0 hB0 (by rw [← hW]; exact heap_new w _))
  have HB0 := Lib.hid hB0
  clear hW hB0 HS
  obtain ⟨p, ep⟩ : ∃ p, p = w.heap.size := ⟨_, rfl⟩
  have hpw : w.heap.size ≤ p := by omega
  have hpw2 : p ≤ w.heap.size := by omega
  rw [← ep] at HST0 hsz0 ⊢
  have HT2 := Lib.hid (fun (W : World) (hW : Below w.heap.size w W) (hsz : w.heap.size ≤ W.heap.size) (V : World) (hg : W.grownBy V (some p)) => HT.out V (hW.grown hg hsz (fun q hq => by cases hq; exact hpw)))
  clear ep
  refine (rightProps_any w0 p 0 xs (by omega) HST0.out (HT2.out _ HB0.out HB0.out.size)).mono ?_
  rintro e w1 ⟨a, A, ca, k1, na, rfl, hgd, hln, hn5na, hown, hst, hkkk1, hg⟩
  have HGa := Lib.hid hgd
  have HNa := Lib.hid hln
  have HST1 := Lib.hid hst
  have HB1 := Lib.hid (HB0.out.grown hg HB0.out.size (fun q hq => by cases hq; exact hpw))
  have hsz1 : p < w1.heap.size := Nat.lt_of_lt_of_le hsz0 hg.size
  have hbsa : p < w0.heap.size := hsz0
  have HOa1 := Lib.hid hown
  clear hgd hln hown hst hg
  go_wp2_with (fail)
  refine (rightProps_any w1 p k1 xs (by omega) HST1.out (HT2.out _ HB1.out HB1.out.size)).mono ?_
  rintro e w2 ⟨b, B, cb, k2, nb, rfl, hgd, hln, hn5nb, hown, hst, hkkk2, hg⟩
  have HGb := Lib.hid hgd
  have HNb := Lib.hid hln
  have HST2 := Lib.hid hst
  have HB2 := Lib.hid (HB1.out.grown hg HB1.out.size (fun q hq => by cases hq; exact hpw))
  have hsz2 : p < w2.heap.size := Nat.lt_of_lt_of_le hsz1 hg.size
  have HOa2 := Lib.hid (own_kept HOa1.out hg hbsa)
  have hbsb : p < w1.heap.size := hsz1
  have HOb2 := Lib.hid hown
  clear hgd hln hown hst hg
  go_wp2_with (fail)
  refine (differ_any a b na nb ca cb A B w2 HGa.out HGb.out HNa.out HNb.out (by omega) (by omega) (own_row HOa2.out) (own_row HOb2.out) (HT.out _ HB2.out)).mono ?_
  rintro e w3 ⟨C, cc, rfl, ho, hb⟩
  have HLT := Lib.hid (chs_len_turn (vo a) (vo b))
  have HCO := Lib.hid (chs_ok HGa.out.1 HGb.out.1)
  have hm7 : (chs (vo a) (vo b)).length ≤ 7 := chs_len _ _
  obtain ⟨m, em⟩ : ∃ m, m = (chs (vo a) (vo b)).length := ⟨_, rfl⟩
  rw [← em] at ho HLT hm7 ⊢
  have HM := Lib.hid em.symm
  clear em
  have HST3 := Lib.hid (HST2.out.below hb)
  have HB3 := Lib.hid (HB2.out.trans (hb.mono HB2.out.size))
  have hsz3 : p < w3.heap.size := Nat.lt_of_lt_of_le hsz2 hb.size
  have HOa3 := Lib.hid (own_belowP HOa2.out hb)
  have HOb3 := Lib.hid (own_belowP HOb2.out hb)
  have hbsc : p < w2.heap.size := hsz2
  have HOc3 := Lib.hid ho
  clear ho
  clear hb
  go_wp2_with (fail)
  refine (apply_any a b na m ca cc A C w3 HGa.out HGb.out HNa.out HM.out (own_row HOa3.out) (own_row HOc3.out) (HT.out _ HB3.out)).mono ?_
  rintro e w4 ⟨X, cx, rfl, ho, hb⟩
  rw [HNb.out] at ho ⊢
  have HST4 := Lib.hid (HST3.out.below hb)
  have HB4 := Lib.hid (HB3.out.trans (hb.mono HB3.out.size))
  have hsz4 : p < w4.heap.size := Nat.lt_of_lt_of_le hsz3 hb.size
  have HOa4 := Lib.hid (own_belowP HOa3.out hb)
  have HOb4 := Lib.hid (own_belowP HOb3.out hb)
  have HOc4 := Lib.hid (own_belowP HOc3.out hb)
  have hbsx : p < w3.heap.size := hsz3
  have HOx4 := Lib.hid ho
  clear ho
  clear hb
  go_wp2_with (fail)
  refine (turn_any (chs (vo a) (vo b)) m cc C w4 HCO.out HM.out (by omega) (own_row HOc4.out) (HT.out _ HB4.out)).mono ?_
  rintro e w5 ⟨D, cd, rfl, ho, hb⟩
  rw [turn_chs] at ho
  have HST5 := Lib.hid (HST4.out.below hb)
  have HB5 := Lib.hid (HB4.out.trans (hb.mono HB4.out.size))
  have hsz5 : p < w5.heap.size := Nat.lt_of_lt_of_le hsz4 hb.size
  have HOa5 := Lib.hid (own_belowP HOa4.out hb)
  have HOb5 := Lib.hid (own_belowP HOb4.out hb)
  have HOc5 := Lib.hid (own_belowP HOc4.out hb)
  have HOx5 := Lib.hid (own_belowP HOx4.out hb)
  have hbsd : p < w4.heap.size := hsz4
  have HOd5 := Lib.hid ho
  clear ho
  clear hb
  go_wp2_with (fail)
  refine (apply_any b a nb m cb cd B D w5 HGb.out HGa.out HNb.out HLT.out (own_row HOb5.out) (own_row HOd5.out) (HT.out _ HB5.out)).mono ?_
  rintro e w6 ⟨Y, cy, rfl, ho, hb⟩
  rw [HNa.out] at ho ⊢
  have HST6 := Lib.hid (HST5.out.below hb)
  have HB6 := Lib.hid (HB5.out.trans (hb.mono HB5.out.size))
  have hsz6 : p < w6.heap.size := Nat.lt_of_lt_of_le hsz5 hb.size
  have HOa6 := Lib.hid (own_belowP HOa5.out hb)
  have HOb6 := Lib.hid (own_belowP HOb5.out hb)
  have HOc6 := Lib.hid (own_belowP HOc5.out hb)
  have HOx6 := Lib.hid (own_belowP HOx5.out hb)
  have HOd6 := Lib.hid (own_belowP HOd5.out hb)
  have hbsy : p < w5.heap.size := hsz5
  have HOy6 := Lib.hid ho
  clear ho
  clear hb
  go_wp2_with (go_at_call 14; refine (errs_ok 4 4 _ _ (by omega) (Cells.new _ _ _ _ _ rfl)).mono ?_; rintro e w' ⟨rfl, rfl⟩)
  have hb : Below w6.heap.size w6 (w6.alloc (.cells #[.int .i64 0, .int .i64 0, .int .i64 0, .int .i64 0] 29)) := (Below.refl _ _).alloc (Nat.le_refl _) _
  generalize w6.alloc (.cells #[.int .i64 0, .int .i64 0, .int .i64 0, .int .i64 0] 29) = w7 at hb ⊢
  have HST7 := Lib.hid (HST6.out.below hb)
  have HB7 := Lib.hid (HB6.out.trans (hb.mono HB6.out.size))
  have hsz7 : p < w7.heap.size := Nat.lt_of_lt_of_le hsz6 hb.size
  have HOa7 := Lib.hid (own_belowP HOa6.out hb)
  have HOb7 := Lib.hid (own_belowP HOb6.out hb)
  have HOc7 := Lib.hid (own_belowP HOc6.out hb)
  have HOx7 := Lib.hid (own_belowP HOx6.out hb)
  have HOd7 := Lib.hid (own_belowP HOd6.out hb)
  have HOy7 := Lib.hid (own_belowP HOy6.out hb)
  clear hb
  refine (eqP_any b nb cx cb X B w7 HNb.out (by omega) (own_row HOx7.out) (own_row HOb7.out)).mono ?_
  rintro e w8 ⟨rfl, hb⟩
  have HST8 := Lib.hid (HST7.out.below hb)
  have HB8 := Lib.hid (HB7.out.trans (hb.mono HB7.out.size))
  have hsz8 : p < w8.heap.size := Nat.lt_of_lt_of_le hsz7 hb.size
  have HOa8 := Lib.hid (own_belowP HOa7.out hb)
  have HOb8 := Lib.hid (own_belowP HOb7.out hb)
  have HOc8 := Lib.hid (own_belowP HOc7.out hb)
  have HOx8 := Lib.hid (own_belowP HOx7.out hb)
  have HOd8 := Lib.hid (own_belowP HOd7.out hb)
  have HOy8 := Lib.hid (own_belowP HOy7.out hb)
  clear hb
  go_wp2_with (fail)
  refine (eqP_any a na cy ca Y A w8 HNa.out (by omega) (own_row HOy8.out) (own_row HOa8.out)).mono ?_
  rintro e w9 ⟨rfl, hb⟩
  have HST9 := Lib.hid (HST8.out.below hb)
  have HB9 := Lib.hid (HB8.out.trans (hb.mono HB8.out.size))
  have hsz9 : p < w9.heap.size := Nat.lt_of_lt_of_le hsz8 hb.size
  have HOa9 := Lib.hid (own_belowP HOa8.out hb)
  have HOb9 := Lib.hid (own_belowP HOb8.out hb)
  have HOc9 := Lib.hid (own_belowP HOc8.out hb)
  have HOx9 := Lib.hid (own_belowP HOx8.out hb)
  have HOd9 := Lib.hid (own_belowP HOd8.out hb)
  have HOy9 := Lib.hid (own_belowP HOy8.out hb)
  clear hb
  go_wp2_with (fail)
  refine (rightProps_any w9 p k2 xs (by omega) HST9.out (HT2.out _ HB9.out HB9.out.size)).mono ?_
  rintro e w10 ⟨o, O, co, k3, no, rfl, hgd, hln, hn5no, hown, hst, hkkk3, hg⟩
  have HGo := Lib.hid hgd
  have HNo := Lib.hid hln
  have HST10 := Lib.hid hst
  have HB10 := Lib.hid (HB9.out.grown hg HB9.out.size (fun q hq => by cases hq; exact hpw))
  have hsz10 : p < w10.heap.size := Nat.lt_of_lt_of_le hsz9 hg.size
  have HOa10 := Lib.hid (own_kept HOa9.out hg hbsa)
  have HOb10 := Lib.hid (own_kept HOb9.out hg hbsb)
  have hbso : p < w9.heap.size := hsz9
  have HOo10 := Lib.hid hown
  clear hgd hln hown hst hg
  go_wp2_with (fail)
  have HTT := Lib.hid (And.intro (thL_turn o a b) (clN_turn o a b))
  refine (three_any o a b no na nb co ca cb O A B w10 HGo.out HGa.out HGb.out HNo.out HNa.out HNb.out (by omega) (by omega) (by omega) (own_row HOo10.out) (own_row HOa10.out) (own_row HOb10.out) (HT.out _ HB10.out)).mono ?_
  rintro e w11 ⟨h1, hb⟩
  have H1 := Lib.hid h1
  clear h1
  have HST11 := Lib.hid (HST10.out.below hb)
  have HB11 := Lib.hid (HB10.out.trans (hb.mono HB10.out.size))
  have hsz11 : p < w11.heap.size := Nat.lt_of_lt_of_le hsz10 hb.size
  have HOa11 := Lib.hid (own_belowP HOa10.out hb)
  have HOb11 := Lib.hid (own_belowP HOb10.out hb)
  have HOo11 := Lib.hid (own_belowP HOo10.out hb)
  clear hb
  rcases H1.out with ⟨hc1, P1, cp, K1, ck, rfl, hP⟩ | ⟨hc1, rfl⟩
  · have hbsp : p < w10.heap.size := hsz10
    have HOp11 := Lib.hid hP
    have HCP := Lib.hid hc1
    have HLen := Lib.hid (show (thL o a b).length ≤ 7 from by unfold thL; exact prs_len _)
    obtain ⟨T, eT⟩ : ∃ T, T = thL o a b := ⟨_, rfl⟩
    rw [← eT] at HCP HTT HLen
    rw [← eT] at HOp11 ⊢
    obtain ⟨t, et⟩ : ∃ t, t = T.length := ⟨_, rfl⟩
    have HNT := Lib.hid et.symm
    rw [← et] at HOp11 HLen ⊢
    have ht7 := HLen.out
    clear hP hc1 eT et H1
    go_wp2_with (fail)
    refine (three_any o b a no nb na co cb ca O B A w11 HGo.out HGb.out HGa.out HNo.out HNb.out HNa.out (by omega) (by omega) (by omega) (own_row HOo11.out) (own_row HOb11.out) (own_row HOa11.out) (HT.out _ HB11.out)).mono ?_
    rintro e w12 ⟨h1, hb⟩
    rw [← HTT.out.1, ← HTT.out.2] at h1
    replace h1 := h1.resolve_right (fun h => by have h2 := HCP.out; rw [h.1] at h2; cases h2)
    obtain ⟨_, Q1, cq, L1, cl, rfl, ho⟩ := h1
    rw [HNT.out] at ho ⊢
    have HST12 := Lib.hid (HST11.out.below hb)
    have HB12 := Lib.hid (HB11.out.trans (hb.mono HB11.out.size))
    have hsz12 : p < w12.heap.size := Nat.lt_of_lt_of_le hsz11 hb.size
    have HOa12 := Lib.hid (own_belowP HOa11.out hb)
    have HOb12 := Lib.hid (own_belowP HOb11.out hb)
    have HOo12 := Lib.hid (own_belowP HOo11.out hb)
    have HOp12 := Lib.hid (own_belowP HOp11.out hb)
    have hbsq : p < w11.heap.size := hsz11
    have HOq12 := Lib.hid ho
    clear ho
    clear hb
    obtain ⟨K, eK⟩ : ∃ K, K = clN o a b := ⟨_, rfl⟩
    rw [← eK]
    clear eK
    go_wp2_with (fail)
    refine (eqP_any T t cp cq P1 Q1 w12 HNT.out (by omega) (own_row HOp12.out) (own_row HOq12.out)).mono ?_
    rintro e w13 ⟨rfl, hb⟩
    have HST13 := Lib.hid (HST12.out.below hb)
    have HB13 := Lib.hid (HB12.out.trans (hb.mono HB12.out.size))
    have hsz13 : p < w13.heap.size := Nat.lt_of_lt_of_le hsz12 hb.size
    have HOa13 := Lib.hid (own_belowP HOa12.out hb)
    have HOb13 := Lib.hid (own_belowP HOb12.out hb)
    have HOo13 := Lib.hid (own_belowP HOo12.out hb)
    have HOp13 := Lib.hid (own_belowP HOp12.out hb)
    have HOq13 := Lib.hid (own_belowP HOq12.out hb)
    clear hb
    go_wp2_with (fail)
    refine (three_any o a o no na no co ca co O A O w13 HGo.out HGa.out HGo.out HNo.out HNa.out HNo.out (by omega) (by omega) (by omega) (own_row HOo13.out) (own_row HOa13.out) (own_row HOo13.out) (HT.out _ HB13.out)).mono ?_
    rintro e w14 ⟨h1, hb⟩
    rw [thL_same HGa.out.1, HNa.out] at h1
    replace h1 := h1.resolve_right (fun h => by have h2 := HGa.out.2; rw [h.1] at h2; cases h2)
    obtain ⟨_, Z1, cz, M1, cm, rfl, ho⟩ := h1
    have HST14 := Lib.hid (HST13.out.below hb)
    have HB14 := Lib.hid (HB13.out.trans (hb.mono HB13.out.size))
    have hsz14 : p < w14.heap.size := Nat.lt_of_lt_of_le hsz13 hb.size
    have HOa14 := Lib.hid (own_belowP HOa13.out hb)
    have HOb14 := Lib.hid (own_belowP HOb13.out hb)
    have HOo14 := Lib.hid (own_belowP HOo13.out hb)
    have HOp14 := Lib.hid (own_belowP HOp13.out hb)
    have HOq14 := Lib.hid (own_belowP HOq13.out hb)
    have hbsz : p < w13.heap.size := hsz13
    have HOz14 := Lib.hid ho
    clear ho
    clear hb
    go_wp2_with (fail)
    refine (eqP_any a na cz ca Z1 A w14 HNa.out (by omega) (own_row HOz14.out) (own_row HOa14.out)).mono ?_
    rintro e w15 ⟨rfl, hb⟩
    have HST15 := Lib.hid (HST14.out.below hb)
    have HB15 := Lib.hid (HB14.out.trans (hb.mono HB14.out.size))
    have hsz15 : p < w15.heap.size := Nat.lt_of_lt_of_le hsz14 hb.size
    have HOa15 := Lib.hid (own_belowP HOa14.out hb)
    have HOb15 := Lib.hid (own_belowP HOb14.out hb)
    have HOo15 := Lib.hid (own_belowP HOo14.out hb)
    have HOp15 := Lib.hid (own_belowP HOp14.out hb)
    have HOq15 := Lib.hid (own_belowP HOq14.out hb)
    have HOz15 := Lib.hid (own_belowP HOz14.out hb)
    clear hb
    go_wp2_with (fail)
    refine (ready_yes w15).mono ?_
    rintro e w16 ⟨rfl, hb⟩
    have HBF := Lib.hid (HB15.out.trans (hb.mono HB15.out.size))
    clear hb
    go_wp2_with (fail)
    go_ret
    exact ⟨rfl, HBF.out⟩
  · have HCP := Lib.hid hc1
    clear hc1 H1
    go_wp2_with (fail)
    refine (three_any o b a no nb na co cb ca O B A w11 HGo.out HGb.out HGa.out HNo.out HNb.out HNa.out (by omega) (by omega) (by omega) (own_row HOo11.out) (own_row HOb11.out) (own_row HOa11.out) (HT.out _ HB11.out)).mono ?_
    rintro e w12 ⟨h1, hb⟩
    rw [← HTT.out.1, ← HTT.out.2] at h1
    replace h1 := h1.resolve_left (fun h => by have h2 := HCP.out; rw [h.1] at h2; cases h2)
    obtain ⟨_, rfl⟩ := h1
    have HST12 := Lib.hid (HST11.out.below hb)
    have HB12 := Lib.hid (HB11.out.trans (hb.mono HB11.out.size))
    have hsz12 : p < w12.heap.size := Nat.lt_of_lt_of_le hsz11 hb.size
    have HOa12 := Lib.hid (own_belowP HOa11.out hb)
    have HOb12 := Lib.hid (own_belowP HOb11.out hb)
    have HOo12 := Lib.hid (own_belowP HOo11.out hb)
    clear hb
    go_wp2_with (fail)
    refine (eqP_any [] 0 0 0 none none w12 rfl (by omega) (.inl rfl) (.inl rfl)).mono ?_
    rintro e w13 ⟨rfl, hb⟩
    have HST13 := Lib.hid (HST12.out.below hb)
    have HB13 := Lib.hid (HB12.out.trans (hb.mono HB12.out.size))
    have hsz13 : p < w13.heap.size := Nat.lt_of_lt_of_le hsz12 hb.size
    have HOa13 := Lib.hid (own_belowP HOa12.out hb)
    have HOb13 := Lib.hid (own_belowP HOb12.out hb)
    have HOo13 := Lib.hid (own_belowP HOo12.out hb)
    clear hb
    go_wp2_with (fail)
    refine (three_any o a o no na no co ca co O A O w13 HGo.out HGa.out HGo.out HNo.out HNa.out HNo.out (by omega) (by omega) (by omega) (own_row HOo13.out) (own_row HOa13.out) (own_row HOo13.out) (HT.out _ HB13.out)).mono ?_
    rintro e w14 ⟨h1, hb⟩
    rw [thL_same HGa.out.1, HNa.out] at h1
    replace h1 := h1.resolve_right (fun h => by have h2 := HGa.out.2; rw [h.1] at h2; cases h2)
    obtain ⟨_, Z1, cz, M1, cm, rfl, ho⟩ := h1
    have HST14 := Lib.hid (HST13.out.below hb)
    have HB14 := Lib.hid (HB13.out.trans (hb.mono HB13.out.size))
    have hsz14 : p < w14.heap.size := Nat.lt_of_lt_of_le hsz13 hb.size
    have HOa14 := Lib.hid (own_belowP HOa13.out hb)
    have HOb14 := Lib.hid (own_belowP HOb13.out hb)
    have HOo14 := Lib.hid (own_belowP HOo13.out hb)
    have hbsz : p < w13.heap.size := hsz13
    have HOz14 := Lib.hid ho
    clear ho
    clear hb
    go_wp2_with (fail)
    refine (eqP_any a na cz ca Z1 A w14 HNa.out (by omega) (own_row HOz14.out) (own_row HOa14.out)).mono ?_
    rintro e w15 ⟨rfl, hb⟩
    have HST15 := Lib.hid (HST14.out.below hb)
    have HB15 := Lib.hid (HB14.out.trans (hb.mono HB14.out.size))
    have hsz15 : p < w15.heap.size := Nat.lt_of_lt_of_le hsz14 hb.size
    have HOa15 := Lib.hid (own_belowP HOa14.out hb)
    have HOb15 := Lib.hid (own_belowP HOb14.out hb)
    have HOo15 := Lib.hid (own_belowP HOo14.out hb)
    have HOz15 := Lib.hid (own_belowP HOz14.out hb)
    clear hb
    go_wp2_with (fail)
    refine (ready_yes w15).mono ?_
    rintro e w16 ⟨rfl, hb⟩
    have HBF := Lib.hid (HB15.out.trans (hb.mono HB15.out.size))
    clear hb
    go_wp2_with (fail)
    go_ret
    exact ⟨rfl, HBF.out⟩
end Go.Proofs.YtldlfgaaolehoaaGreatDoor
