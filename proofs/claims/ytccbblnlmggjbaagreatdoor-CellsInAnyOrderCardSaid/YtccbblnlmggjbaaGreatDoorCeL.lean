/- CellsInAnyOrder: the law function. Printed by gen_CeL.py. -/
import Derived.Test.YtccbblnlmggjbaaGreatDoorCeN
import Derived.Test.YtccbblnlmggjbaaGreatDoorCeH
import Derived.Test.YtccbblnlmggjbaaGreatDoorMgA
namespace Go.Proofs.YtccbblnlmggjbaaGreatDoor
open Go.RowKit

theorem viF_len (l : List Ce) (h : CsOk l) : (viF l).length ≤ 7 := by
  have h1 := (viF_good h).1.prs
  rw [h1]
  refine Nat.le_trans (List.length_filterMap_le _ _) ?_
  simp
set_option maxRecDepth 100000 in
set_option maxHeartbeats 16000000 in
theorem ceL_yes (w : World) (xs : List Int) (n c : Nat) (A0 : Option Addr) (hs : ∀ (W : World), Below w.heap.size w W → W.heap[w.heap.size]? = some (.cells #[.slice A0 n c, .int .i64 0] 25) → Strm W w.heap.size xs 0) (hT : U8T w) :
    Calls Tryz.prog 3 #[.slice A0 n c] w fun e w' => e = .returned (.bool true) ∧ Below w.heap.size w w' := by
  have HS := Lib.hid hs
  have HT := Lib.hid (fun V (hV : Below w.heap.size w V) => hT.below hV)
  clear hs hT
  go_enter Tryz.func3, Tryz.ntmps3
  go_wp2_with (fail)
  generalize hW : w.alloc (.cells #[.slice A0 n c, .int .i64 0] 25) = w0
  have hsz0 : w.heap.size < w0.heap.size := by rw [← hW]; simp
  have hB0 : Below w.heap.size w w0 := hW ▸ (Below.refl _ _).alloc (Nat.le_refl _) _
  have HST0 := Lib.hid (HS.out w0 hB0 (by rw [← hW]; exact heap_new w _))
  have HB0 := Lib.hid hB0
  clear hW hB0 HS
  obtain ⟨p, ep⟩ : ∃ p, p = w.heap.size := ⟨_, rfl⟩
  have hpw : w.heap.size ≤ p := by omega
  rw [← ep] at HST0 hsz0 ⊢
  clear ep
  refine (rightCells_any w0 p 0 xs (by omega) HST0.out).mono ?_
  rintro e w1 ⟨a, A, ca, k1, na, rfl, hok, _, hln, hn7na, hown, hst, hkkk1, hg⟩
  have HKa := Lib.hid hok
  have HNa := Lib.hid hln
  have HST1 := Lib.hid hst
  have HB1 := Lib.hid (HB0.out.grown hg HB0.out.size (fun q hq => by cases hq; exact hpw))
  have hsz1 : p < w1.heap.size := Nat.lt_of_lt_of_le hsz0 hg.size
  have hbsa : p < w0.heap.size := hsz0
  have HOa1 := Lib.hid hown
  clear hok hln hown hst hg
  go_wp2_with (fail)
  refine (rightCells_any w1 p k1 xs (by omega) HST1.out).mono ?_
  rintro e w2 ⟨b, B, cb, k2, nb, rfl, hok, _, hln, hn7nb, hown, hst, hkkk2, hg⟩
  have HKb := Lib.hid hok
  have HNb := Lib.hid hln
  have HST2 := Lib.hid hst
  have HB2 := Lib.hid (HB1.out.grown hg HB1.out.size (fun q hq => by cases hq; exact hpw))
  have hsz2 : p < w2.heap.size := Nat.lt_of_lt_of_le hsz1 hg.size
  have HOa2 := Lib.hid (own_kept HOa1.out hg hbsa)
  have hbsb : p < w1.heap.size := hsz1
  have HOb2 := Lib.hid hown
  clear hok hln hown hst hg
  go_wp2_with (fail)
  refine (rightCells_any w2 p k2 xs (by omega) HST2.out).mono ?_
  rintro e w3 ⟨d, D, cd, k3, nd, rfl, hok, _, hln, hn7nd, hown, hst, hkkk3, hg⟩
  have HKd := Lib.hid hok
  have HNd := Lib.hid hln
  have HST3 := Lib.hid hst
  have HB3 := Lib.hid (HB2.out.grown hg HB2.out.size (fun q hq => by cases hq; exact hpw))
  have hsz3 : p < w3.heap.size := Nat.lt_of_lt_of_le hsz2 hg.size
  have HOa3 := Lib.hid (own_kept HOa2.out hg hbsa)
  have HOb3 := Lib.hid (own_kept HOb2.out hg hbsb)
  have hbsd : p < w2.heap.size := hsz2
  have HOd3 := Lib.hid hown
  clear hok hln hown hst hg
  go_wp2_with (fail)
  have HCT := Lib.hid (cfL_turn a b)
  have HSok := Lib.hid (mgL_ok HKa.out HKb.out)
  have HMT := Lib.hid (fun h => mgL_turn HKa.out HKb.out h)
  refine (merge_any a b na nb ca cb A B w3 HKa.out HKb.out HNa.out HNb.out (by omega) (by omega) (own_cap HOa3.out) (own_cap HOb3.out) (own_ly HOa3.out) (own_ly HOb3.out) (HT.out _ HB3.out)).mono ?_
  rintro e w4 ⟨h, hb⟩
  cases hcf : cfL a b
  · have HQ1 := Lib.hid hcf
    have HQ2 := Lib.hid (HCT.out.symm.trans hcf)
    have HMG := Lib.hid (HMT.out hcf).symm
    rw [hcf] at h
    clear hcf
    replace h := h.resolve_left (fun k => by cases k.1)
    obtain ⟨_, S1, cs1, ns1, hn, rfl, ho⟩ := h
    have hn7ns1 : ns1 ≤ 7 := by rw [← hn]; exact mgL_len _ _
    have HNs := Lib.hid hn
    have HKs := HSok
    clear hn
    have HB4 := Lib.hid (HB3.out.trans (hb.mono HB3.out.size))
    have hsz4 : p < w4.heap.size := Nat.lt_of_lt_of_le hsz3 hb.size
    have HOa4 := Lib.hid (own_belowP HOa3.out hb)
    have HOb4 := Lib.hid (own_belowP HOb3.out hb)
    have HOd4 := Lib.hid (own_belowP HOd3.out hb)
    have HOs4 := Lib.hid ho
    clear ho
    clear hb
    go_wp2_with (fail)
    refine (merge_any b a nb na cb ca B A w4 HKb.out HKa.out HNb.out HNa.out (by omega) (by omega) (own_cap HOb4.out) (own_cap HOa4.out) (own_ly HOb4.out) (own_ly HOa4.out) (HT.out _ HB4.out)).mono ?_
    rintro e w5 ⟨h, hb⟩
    rw [HQ2.out] at h
    replace h := h.resolve_left (fun k => by cases k.1)
    obtain ⟨_, S2, cs2, ns2, hn, rfl, ho⟩ := h
    rw [HMG.out] at hn ho
    obtain rfl : ns2 = ns1 := hn.symm.trans HNs.out
    have HNt := Lib.hid hn
    clear hn
    have HB5 := Lib.hid (HB4.out.trans (hb.mono HB4.out.size))
    have hsz5 : p < w5.heap.size := Nat.lt_of_lt_of_le hsz4 hb.size
    have HOa5 := Lib.hid (own_belowP HOa4.out hb)
    have HOb5 := Lib.hid (own_belowP HOb4.out hb)
    have HOd5 := Lib.hid (own_belowP HOd4.out hb)
    have HOs5 := Lib.hid (own_belowP HOs4.out hb)
    have HOt5 := Lib.hid ho
    clear ho
    clear hb
    go_wp2_with (fail)
    refine (eqCe_any (mgL a b) ns2 cs1 cs2 S1 S2 w5 HNs.out (by omega) (own_row HOs5.out) (own_row HOt5.out)).mono ?_
    rintro e w6 ⟨rfl, hb⟩
    have HB6 := Lib.hid (HB5.out.trans (hb.mono HB5.out.size))
    have hsz6 : p < w6.heap.size := Nat.lt_of_lt_of_le hsz5 hb.size
    have HOa6 := Lib.hid (own_belowP HOa5.out hb)
    have HOb6 := Lib.hid (own_belowP HOb5.out hb)
    have HOd6 := Lib.hid (own_belowP HOd5.out hb)
    have HOs6 := Lib.hid (own_belowP HOs5.out hb)
    have HOt6 := Lib.hid (own_belowP HOt5.out hb)
    clear hb
    go_wp2_with (fail)
    have HUok := Lib.hid (mgL_ok HKb.out HKd.out)
    refine (merge_any b d nb nd cb cd B D w6 HKb.out HKd.out HNb.out HNd.out (by omega) (by omega) (own_cap HOb6.out) (own_cap HOd6.out) (own_ly HOb6.out) (own_ly HOd6.out) (HT.out _ HB6.out)).mono ?_
    rintro e w7 ⟨h, hb⟩
    cases hq : cfL b d
    · have HQ3 := Lib.hid hq
      rw [hq] at h
      clear hq
      replace h := h.resolve_left (fun k => by cases k.1)
      obtain ⟨_, U1, cu1, nu1, hn, rfl, ho⟩ := h
      have hn7nu1 : nu1 ≤ 7 := by rw [← hn]; exact mgL_len _ _
      have HNu := Lib.hid hn
      have HKu := HUok
      clear hn
      have HB7 := Lib.hid (HB6.out.trans (hb.mono HB6.out.size))
      have hsz7 : p < w7.heap.size := Nat.lt_of_lt_of_le hsz6 hb.size
      have HOa7 := Lib.hid (own_belowP HOa6.out hb)
      have HOb7 := Lib.hid (own_belowP HOb6.out hb)
      have HOd7 := Lib.hid (own_belowP HOd6.out hb)
      have HOs7 := Lib.hid (own_belowP HOs6.out hb)
      have HOu7 := Lib.hid ho
      clear ho
      clear hb
      go_wp2_with (fail)
      have HAS := Lib.hid (cfL_assoc HQ1.out HQ3.out)
      have HMS := Lib.hid (mgL_assoc (a := a) (b := b) (c := d))
      have HXok := Lib.hid (mgL_ok HKs.out HKd.out)
      refine (merge_any (mgL a b) d ns2 nd cs1 cd S1 D w7 HKs.out HKd.out HNs.out HNd.out (by omega) (by omega) (own_cap HOs7.out) (own_cap HOd7.out) (own_ly HOs7.out) (own_ly HOd7.out) (HT.out _ HB7.out)).mono ?_
      rintro e w8 ⟨h, hb⟩
      cases hq : cfL (mgL a b) d
      · have HQ4 := Lib.hid (HAS.out.symm.trans hq)
        rw [hq] at h
        clear hq
        replace h := h.resolve_left (fun k => by cases k.1)
        obtain ⟨_, X1, cx1, nx1, hn, rfl, ho⟩ := h
        have hn7nx1 : nx1 ≤ 7 := by rw [← hn]; exact mgL_len _ _
        have HNx := Lib.hid hn
        have HKx := HXok
        clear hn
        have HB8 := Lib.hid (HB7.out.trans (hb.mono HB7.out.size))
        have hsz8 : p < w8.heap.size := Nat.lt_of_lt_of_le hsz7 hb.size
        have HOa8 := Lib.hid (own_belowP HOa7.out hb)
        have HOb8 := Lib.hid (own_belowP HOb7.out hb)
        have HOd8 := Lib.hid (own_belowP HOd7.out hb)
        have HOs8 := Lib.hid (own_belowP HOs7.out hb)
        have HOu8 := Lib.hid (own_belowP HOu7.out hb)
        have HOx8 := Lib.hid ho
        clear ho
        clear hb
        go_wp2_with (fail)
        refine (merge_any a (mgL b d) na nu1 ca cu1 A U1 w8 HKa.out HKu.out HNa.out HNu.out (by omega) (by omega) (own_cap HOa8.out) (own_cap HOu8.out) (own_ly HOa8.out) (own_ly HOu8.out) (HT.out _ HB8.out)).mono ?_
        rintro e w9 ⟨h, hb⟩
        rw [HQ4.out] at h
        replace h := h.resolve_left (fun k => by cases k.1)
        obtain ⟨_, Y1, cy1, ny1, hn, rfl, ho⟩ := h
        rw [← HMS.out] at hn ho
        obtain rfl : ny1 = nx1 := hn.symm.trans HNx.out
        have HNy := Lib.hid hn
        clear hn
        have HB9 := Lib.hid (HB8.out.trans (hb.mono HB8.out.size))
        have hsz9 : p < w9.heap.size := Nat.lt_of_lt_of_le hsz8 hb.size
        have HOa9 := Lib.hid (own_belowP HOa8.out hb)
        have HOb9 := Lib.hid (own_belowP HOb8.out hb)
        have HOd9 := Lib.hid (own_belowP HOd8.out hb)
        have HOs9 := Lib.hid (own_belowP HOs8.out hb)
        have HOu9 := Lib.hid (own_belowP HOu8.out hb)
        have HOx9 := Lib.hid (own_belowP HOx8.out hb)
        have HOy9 := Lib.hid ho
        clear ho
        clear hb
        go_wp2_with (fail)
        have HAG := Lib.hid (show cfL (mgL (mgL a b) d) a = false ∧ mgL (mgL (mgL a b) d) a = mgL (mgL a b) d from by
          rw [HMS.out]
          exact mgL_again HKa.out HKu.out HQ4.out)
        refine (merge_any (mgL (mgL a b) d) a ny1 na cx1 ca X1 A w9 HKx.out HKa.out HNx.out HNa.out (by omega) (by omega) (own_cap HOx9.out) (own_cap HOa9.out) (own_ly HOx9.out) (own_ly HOa9.out) (HT.out _ HB9.out)).mono ?_
        rintro e w10 ⟨h, hb⟩
        rw [HAG.out.1, HAG.out.2] at h
        replace h := h.resolve_left (fun k => by cases k.1)
        obtain ⟨_, Z1, cz1, nz1, hn, rfl, ho⟩ := h
        obtain rfl : nz1 = ny1 := hn.symm.trans HNx.out
        have HNz := Lib.hid hn
        clear hn
        have HB10 := Lib.hid (HB9.out.trans (hb.mono HB9.out.size))
        have hsz10 : p < w10.heap.size := Nat.lt_of_lt_of_le hsz9 hb.size
        have HOa10 := Lib.hid (own_belowP HOa9.out hb)
        have HOb10 := Lib.hid (own_belowP HOb9.out hb)
        have HOd10 := Lib.hid (own_belowP HOd9.out hb)
        have HOs10 := Lib.hid (own_belowP HOs9.out hb)
        have HOu10 := Lib.hid (own_belowP HOu9.out hb)
        have HOx10 := Lib.hid (own_belowP HOx9.out hb)
        have HOy10 := Lib.hid (own_belowP HOy9.out hb)
        have HOz10 := Lib.hid ho
        clear ho
        clear hb
        go_wp2_with (fail)
        refine (visible_any (mgL (mgL a b) d) nz1 cx1 X1 w10 HKx.out HNx.out (by omega) (own_row HOx10.out) (HT.out _ HB10.out)).mono ?_
        rintro e w11 ⟨V1, cv1, nv1, rfl, hn, ho, hb⟩
        have HNv := Lib.hid hn
        have HKv := Lib.hid (viF_good HKx.out)
        have hn7nv1 : nv1 ≤ 7 := by rw [← hn]; exact viF_len _ HKx.out
        clear hn
        have HB11 := Lib.hid (HB10.out.trans (hb.mono HB10.out.size))
        have hsz11 : p < w11.heap.size := Nat.lt_of_lt_of_le hsz10 hb.size
        have HOa11 := Lib.hid (own_belowP HOa10.out hb)
        have HOb11 := Lib.hid (own_belowP HOb10.out hb)
        have HOd11 := Lib.hid (own_belowP HOd10.out hb)
        have HOs11 := Lib.hid (own_belowP HOs10.out hb)
        have HOu11 := Lib.hid (own_belowP HOu10.out hb)
        have HOx11 := Lib.hid (own_belowP HOx10.out hb)
        have HOy11 := Lib.hid (own_belowP HOy10.out hb)
        have HOz11 := Lib.hid (own_belowP HOz10.out hb)
        have HOv11 := Lib.hid ho
        clear ho
        clear hb
        go_wp2_with (fail)
        refine (eqCe_any (mgL (mgL a b) d) nz1 cx1 cy1 X1 Y1 w11 HNx.out (by omega) (own_row HOx11.out) (own_row HOy11.out)).mono ?_
        rintro e w12 ⟨rfl, hb⟩
        have HB12 := Lib.hid (HB11.out.trans (hb.mono HB11.out.size))
        have hsz12 : p < w12.heap.size := Nat.lt_of_lt_of_le hsz11 hb.size
        have HOa12 := Lib.hid (own_belowP HOa11.out hb)
        have HOb12 := Lib.hid (own_belowP HOb11.out hb)
        have HOd12 := Lib.hid (own_belowP HOd11.out hb)
        have HOs12 := Lib.hid (own_belowP HOs11.out hb)
        have HOu12 := Lib.hid (own_belowP HOu11.out hb)
        have HOx12 := Lib.hid (own_belowP HOx11.out hb)
        have HOy12 := Lib.hid (own_belowP HOy11.out hb)
        have HOz12 := Lib.hid (own_belowP HOz11.out hb)
        have HOv12 := Lib.hid (own_belowP HOv11.out hb)
        clear hb
        go_wp2_with (fail)
        refine (eqCe_any (mgL (mgL a b) d) nz1 cx1 cz1 X1 Z1 w12 HNx.out (by omega) (own_row HOx12.out) (own_row HOz12.out)).mono ?_
        rintro e w13 ⟨rfl, hb⟩
        have HB13 := Lib.hid (HB12.out.trans (hb.mono HB12.out.size))
        have hsz13 : p < w13.heap.size := Nat.lt_of_lt_of_le hsz12 hb.size
        have HOa13 := Lib.hid (own_belowP HOa12.out hb)
        have HOb13 := Lib.hid (own_belowP HOb12.out hb)
        have HOd13 := Lib.hid (own_belowP HOd12.out hb)
        have HOs13 := Lib.hid (own_belowP HOs12.out hb)
        have HOu13 := Lib.hid (own_belowP HOu12.out hb)
        have HOx13 := Lib.hid (own_belowP HOx12.out hb)
        have HOy13 := Lib.hid (own_belowP HOy12.out hb)
        have HOz13 := Lib.hid (own_belowP HOz12.out hb)
        have HOv13 := Lib.hid (own_belowP HOv12.out hb)
        clear hb
        go_wp2_with (fail)
        refine (checkProps_any _ nv1 cv1 V1 w13 HKv.out.1 HNv.out (by omega) (own_row HOv13.out) (HT.out _ HB13.out)).mono ?_
        rintro e w14 ⟨rfl, hb⟩
        rw [HKv.out.2]
        have HB14 := Lib.hid (HB13.out.trans (hb.mono HB13.out.size))
        have hsz14 : p < w14.heap.size := Nat.lt_of_lt_of_le hsz13 hb.size
        have HOa14 := Lib.hid (own_belowP HOa13.out hb)
        have HOb14 := Lib.hid (own_belowP HOb13.out hb)
        have HOd14 := Lib.hid (own_belowP HOd13.out hb)
        have HOs14 := Lib.hid (own_belowP HOs13.out hb)
        have HOu14 := Lib.hid (own_belowP HOu13.out hb)
        have HOx14 := Lib.hid (own_belowP HOx13.out hb)
        have HOy14 := Lib.hid (own_belowP HOy13.out hb)
        have HOz14 := Lib.hid (own_belowP HOz13.out hb)
        have HOv14 := Lib.hid (own_belowP HOv13.out hb)
        clear hb
        go_wp2_with (fail)
        refine (ready_yes w14).mono ?_
        rintro e w15 ⟨rfl, hb⟩
        have HBF := Lib.hid (HB14.out.trans (hb.mono HB14.out.size))
        clear hb
        go_wp2_with (fail)
        go_ret
        exact ⟨rfl, HBF.out⟩
      · have HQ4 := Lib.hid (HAS.out.symm.trans hq)
        rw [hq] at h
        clear hq
        replace h := h.resolve_right (fun k => by cases k.1)
        obtain ⟨_, rfl⟩ := h
        have HB8 := Lib.hid (HB7.out.trans (hb.mono HB7.out.size))
        have hsz8 : p < w8.heap.size := Nat.lt_of_lt_of_le hsz7 hb.size
        have HOa8 := Lib.hid (own_belowP HOa7.out hb)
        have HOb8 := Lib.hid (own_belowP HOb7.out hb)
        have HOd8 := Lib.hid (own_belowP HOd7.out hb)
        have HOs8 := Lib.hid (own_belowP HOs7.out hb)
        have HOu8 := Lib.hid (own_belowP HOu7.out hb)
        clear hb
        go_wp2_with (fail)
        refine (merge_any a (mgL b d) na nu1 ca cu1 A U1 w8 HKa.out HKu.out HNa.out HNu.out (by omega) (by omega) (own_cap HOa8.out) (own_cap HOu8.out) (own_ly HOa8.out) (own_ly HOu8.out) (HT.out _ HB8.out)).mono ?_
        rintro e w9 ⟨h, hb⟩
        rw [HQ4.out] at h
        replace h := h.resolve_right (fun k => by cases k.1)
        obtain ⟨_, rfl⟩ := h
        have HB9 := Lib.hid (HB8.out.trans (hb.mono HB8.out.size))
        have hsz9 : p < w9.heap.size := Nat.lt_of_lt_of_le hsz8 hb.size
        have HOa9 := Lib.hid (own_belowP HOa8.out hb)
        have HOb9 := Lib.hid (own_belowP HOb8.out hb)
        have HOd9 := Lib.hid (own_belowP HOd8.out hb)
        have HOs9 := Lib.hid (own_belowP HOs8.out hb)
        have HOu9 := Lib.hid (own_belowP HOu8.out hb)
        clear hb
        go_wp2_with (fail)
        refine (ready_yes w9).mono ?_
        rintro e w10 ⟨rfl, hb⟩
        have HBF := Lib.hid (HB9.out.trans (hb.mono HB9.out.size))
        clear hb
        go_wp2_with (fail)
        go_ret
        exact ⟨rfl, HBF.out⟩
    · rw [hq] at h
      clear hq
      replace h := h.resolve_right (fun k => by cases k.1)
      obtain ⟨_, rfl⟩ := h
      have HB7 := Lib.hid (HB6.out.trans (hb.mono HB6.out.size))
      have hsz7 : p < w7.heap.size := Nat.lt_of_lt_of_le hsz6 hb.size
      have HOa7 := Lib.hid (own_belowP HOa6.out hb)
      have HOb7 := Lib.hid (own_belowP HOb6.out hb)
      have HOd7 := Lib.hid (own_belowP HOd6.out hb)
      have HOs7 := Lib.hid (own_belowP HOs6.out hb)
      clear hb
      go_wp2_with (fail)
      refine (ready_yes w7).mono ?_
      rintro e w8 ⟨rfl, hb⟩
      have HBF := Lib.hid (HB7.out.trans (hb.mono HB7.out.size))
      clear hb
      go_wp2_with (fail)
      go_ret
      exact ⟨rfl, HBF.out⟩
  · have HQ1 := Lib.hid hcf
    have HQ2 := Lib.hid (HCT.out.symm.trans hcf)
    rw [hcf] at h
    clear hcf
    replace h := h.resolve_right (fun k => by cases k.1)
    obtain ⟨_, rfl⟩ := h
    have HB4 := Lib.hid (HB3.out.trans (hb.mono HB3.out.size))
    have hsz4 : p < w4.heap.size := Nat.lt_of_lt_of_le hsz3 hb.size
    have HOa4 := Lib.hid (own_belowP HOa3.out hb)
    have HOb4 := Lib.hid (own_belowP HOb3.out hb)
    have HOd4 := Lib.hid (own_belowP HOd3.out hb)
    clear hb
    go_wp2_with (fail)
    refine (merge_any b a nb na cb ca B A w4 HKb.out HKa.out HNb.out HNa.out (by omega) (by omega) (own_cap HOb4.out) (own_cap HOa4.out) (own_ly HOb4.out) (own_ly HOa4.out) (HT.out _ HB4.out)).mono ?_
    rintro e w5 ⟨h, hb⟩
    rw [HQ2.out] at h
    replace h := h.resolve_right (fun k => by cases k.1)
    obtain ⟨_, rfl⟩ := h
    have HB5 := Lib.hid (HB4.out.trans (hb.mono HB4.out.size))
    have hsz5 : p < w5.heap.size := Nat.lt_of_lt_of_le hsz4 hb.size
    have HOa5 := Lib.hid (own_belowP HOa4.out hb)
    have HOb5 := Lib.hid (own_belowP HOb4.out hb)
    have HOd5 := Lib.hid (own_belowP HOd4.out hb)
    clear hb
    go_wp2_with (fail)
    refine (eqCe_any [] 0 0 0 none none w5 rfl (by omega) (.inl rfl) (.inl rfl)).mono ?_
    rintro e w6 ⟨rfl, hb⟩
    have HB6 := Lib.hid (HB5.out.trans (hb.mono HB5.out.size))
    have hsz6 : p < w6.heap.size := Nat.lt_of_lt_of_le hsz5 hb.size
    have HOa6 := Lib.hid (own_belowP HOa5.out hb)
    have HOb6 := Lib.hid (own_belowP HOb5.out hb)
    have HOd6 := Lib.hid (own_belowP HOd5.out hb)
    clear hb
    go_wp2_with (fail)
    refine (merge_any b d nb nd cb cd B D w6 HKb.out HKd.out HNb.out HNd.out (by omega) (by omega) (own_cap HOb6.out) (own_cap HOd6.out) (own_ly HOb6.out) (own_ly HOd6.out) (HT.out _ HB6.out)).mono ?_
    rintro e w7 ⟨h, hb⟩
    cases hq : cfL b d
    · rw [hq] at h
      clear hq
      replace h := h.resolve_left (fun k => by cases k.1)
      obtain ⟨_, _, _, _, _, rfl, _⟩ := h
      have HB7 := Lib.hid (HB6.out.trans (hb.mono HB6.out.size))
      have hsz7 : p < w7.heap.size := Nat.lt_of_lt_of_le hsz6 hb.size
      have HOa7 := Lib.hid (own_belowP HOa6.out hb)
      have HOb7 := Lib.hid (own_belowP HOb6.out hb)
      have HOd7 := Lib.hid (own_belowP HOd6.out hb)
      clear hb
      go_wp2_with (fail)
      refine (ready_yes w7).mono ?_
      rintro e w8 ⟨rfl, hb⟩
      have HBF := Lib.hid (HB7.out.trans (hb.mono HB7.out.size))
      clear hb
      go_wp2_with (fail)
      go_ret
      exact ⟨rfl, HBF.out⟩
    · rw [hq] at h
      clear hq
      replace h := h.resolve_right (fun k => by cases k.1)
      obtain ⟨_, rfl⟩ := h
      have HB7 := Lib.hid (HB6.out.trans (hb.mono HB6.out.size))
      have hsz7 : p < w7.heap.size := Nat.lt_of_lt_of_le hsz6 hb.size
      have HOa7 := Lib.hid (own_belowP HOa6.out hb)
      have HOb7 := Lib.hid (own_belowP HOb6.out hb)
      have HOd7 := Lib.hid (own_belowP HOd6.out hb)
      clear hb
      go_wp2_with (fail)
      refine (ready_yes w7).mono ?_
      rintro e w8 ⟨rfl, hb⟩
      have HBF := Lib.hid (HB7.out.trans (hb.mono HB7.out.size))
      clear hb
      go_wp2_with (fail)
      go_ret
      exact ⟨rfl, HBF.out⟩
end Go.Proofs.YtccbblnlmggjbaaGreatDoor
