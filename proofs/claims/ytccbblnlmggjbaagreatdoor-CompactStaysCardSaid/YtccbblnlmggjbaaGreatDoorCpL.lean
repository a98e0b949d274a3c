/- CompactStays: the law function. Printed by gen_CpL.py. -/
import Derived.Test.YtccbblnlmggjbaaGreatDoorCeY
import Derived.Test.YtccbblnlmggjbaaGreatDoorCeN
import Derived.Test.YtccbblnlmggjbaaGreatDoorPrEq
import Derived.Test.YtccbblnlmggjbaaGreatDoorMgA
namespace Go.Proofs.YtccbblnlmggjbaaGreatDoor
open Go.RowKit

theorem own_neR {w w' : World} {base : Nat} {e : TypeId} {size n : Nat} {v : Value} {xs : List Value} {r : Option Nat} (h : w.ownsRow base e size v n xs) (hg : w.grownBy w' r) (hne : ∀ q, v.ownBlock = some q → r ≠ some q) : w'.ownsRow base e size v n xs := by
  refine h.kept (row := r) hg ?_
  cases hv : v.ownBlock with
  | none => exact .inl rfl
  | some q => exact .inr (fun k => hne q hv k.symm)
def shF (d : Int) (x : Ce) : Ce := (x.1, x.2.1, { x.2.2 with at_ := x.2.2.at_ + d })
def shL (d : Int) (i : Nat) (l : List Ce) : List Ce := (l.take i).map (shF d) ++ l.drop i
theorem shL_len (d : Int) (i : Nat) (l : List Ce) : (shL d i l).length = l.length := by
  unfold shL; rw [List.length_append, List.length_map, List.length_take, List.length_drop]; omega
theorem shL_get {d : Int} {i : Nat} {l : List Ce} (h : i < l.length) : (shL d i l)[i]? = l[i]? := by
  unfold shL
  rw [List.getElem?_append_right (by rw [List.length_map, List.length_take]; omega), List.length_map, List.length_take, List.getElem?_drop]
  congr 1; omega
theorem shL_next {d : Int} {i : Nat} {l : List Ce} {x : Ce} (h : l[i]? = some x) : (shL d i l).set i (shF d x) = shL d (i + 1) l := by
  obtain ⟨hi, hx⟩ := List.getElem?_eq_some_iff.1 h
  have hlt : ((l.take i).map (shF d)).length = i := by rw [List.length_map, List.length_take]; omega
  unfold shL
  rw [List.set_append_right _ _ (by omega), hlt, Nat.sub_self, List.drop_eq_getElem_cons hi, List.set_cons_zero, List.take_add_one, h, List.map_append]
  simp
theorem shL_all (d : Int) (l : List Ce) : shL d l.length l = l.map (shF d) := by unfold shL; simp
theorem sh_ok {l : List Ce} {d : Int} (h : CsOk l) (h9 : ∀ x ∈ l, x.2.2.at_ ≤ 9) (h0 : 0 ≤ d) (h1 : d ≤ 10) : CsOk (l.map (shF d)) := by
  refine ⟨?_, ?_⟩
  · rw [List.pairwise_map]; exact h.1
  · intro x hx
    rw [List.mem_map] at hx
    obtain ⟨y, hy, rfl⟩ := hx
    have h2 := h.2 y hy
    have h3 := h9 y hy
    obtain ⟨a1, a2, a3, a4, a5⟩ := h2.2.2
    exact ⟨h2.1, h2.2.1, by show 0 ≤ y.2.2.at_ + d; omega, by show y.2.2.at_ + d ≤ 100000; omega, a3, a4, a5⟩
theorem sh_young {l : List Ce} {d : Int} (h : CsOk l) : ∀ x ∈ l.map (shF d), d ≤ x.2.2.at_ := by
  intro x hx
  rw [List.mem_map] at hx
  obtain ⟨y, hy, rfl⟩ := hx
  have h2 := (h.2 y hy).2.2.1
  show d ≤ y.2.2.at_ + d
  omega
theorem recs_at : ∀ (l : List Ce) (i : Nat) (x : Ce) (v : Int), l[i]? = some x → (recs ceC l).set (i * 8 + 5) (.int .i64 v) = recs ceC (l.set i (x.1, x.2.1, { x.2.2 with at_ := v }))
  | [], i, x, v, h => by simp at h
  | y :: l, 0, x, v, h => by
    simp only [List.getElem?_cons_zero, Option.some.injEq] at h
    subst h
    rw [List.set_cons_zero, recs_cons, recs_cons, List.set_append_left _ _ (by rw [ceC_len]; omega)]
    rfl
  | y :: l, i + 1, x, v, h => by
    rw [List.getElem?_cons_succ] at h
    rw [List.set_cons_succ, recs_cons, recs_cons, List.set_append_right _ _ (by rw [ceC_len]; omega), ceC_len, ← recs_at l i x v h]
    congr 2
    omega
theorem viF_len (l : List Ce) (h : CsOk l) : (viF l).length ≤ 7 := by
  have h1 := (viF_good h).1.prs
  rw [h1]
  refine Nat.le_trans (List.length_filterMap_le _ _) ?_
  simp
set_option maxRecDepth 100000 in
set_option maxHeartbeats 16000000 in
theorem cpL_yes (w : World) (xs : List Int) (n c : Nat) (A0 : Option Addr) (hs : ∀ (W : World), Below w.heap.size w W → W.heap[w.heap.size]? = some (.cells #[.slice A0 n c, .int .i64 0] 25) → Strm W w.heap.size xs 0) (hT : U8T w) :
    Calls Tryz.prog 4 #[.slice A0 n c] w fun e w' => e = .returned (.bool true) ∧ Below w.heap.size w w' := by
  have HS := Lib.hid hs
  have HT := Lib.hid (fun V (hV : Below w.heap.size w V) => hT.below hV)
  clear hs hT
  go_enter Tryz.func4, Tryz.ntmps4
  go_wp2_with (fail)
  generalize hW : w.alloc (.cells #[.slice A0 n c, .int .i64 0] 25) = w0
  have hsz0 : w.heap.size < w0.heap.size := by rw [← hW]; simp
  have hB0 : Below w.heap.size w w0 := hW ▸ (Below.refl _ _).alloc (Nat.le_refl _) _
  have HST0 := Lib.hid (HS.out w0 hB0 (by rw [← hW]; exact heap_new w _))
  have HB0 := Lib.hid hB0
  clear hW hB0 HS
  obtain ⟨p, ep⟩ : ∃ p, p = w.heap.size := ⟨_, rfl⟩
  have hpw : w.heap.size ≤ p := by omega
  rw [← ep] at HST0 hsz0 ⊢
  clear ep
  refine (rightCells_any w0 p 0 xs (by omega) HST0.out).mono ?_
  rintro e w1 ⟨a, A, ca, k1, na, rfl, hok, _, hln, hn7na, hown, hst, hkkk1, hg⟩
  have HKa := Lib.hid hok
  have HNa := Lib.hid hln
  have HST1 := Lib.hid hst
  have HB1 := Lib.hid (HB0.out.grown hg HB0.out.size (fun q hq => by cases hq; exact hpw))
  have hsz1 : p < w1.heap.size := Nat.lt_of_lt_of_le hsz0 hg.size
  have hbsa : p < w0.heap.size := hsz0
  have HOa1 := Lib.hid hown
  clear hok hln hown hst hg
  go_wp2_with (fail)
  refine (rightCells_any w1 p k1 xs (by omega) HST1.out).mono ?_
  rintro e w2 ⟨b, B, cb, k2, nb, rfl, hok, h9, hln, hn7nb, hown, hst, hkkk2, hg⟩
  have HKb := Lib.hid hok
  have HNb := Lib.hid hln
  have HST2 := Lib.hid hst
  have HB2 := Lib.hid (HB1.out.grown hg HB1.out.size (fun q hq => by cases hq; exact hpw))
  have hsz2 : p < w2.heap.size := Nat.lt_of_lt_of_le hsz1 hg.size
  have HOa2 := Lib.hid (own_kept HOa1.out hg hbsa)
  have hbsb : p < w1.heap.size := hsz1
  have HOb2 := Lib.hid hown
  clear hok hln hown hst hg
  have H9 := Lib.hid h9
  clear h9
  go_wp2_with (fail)
  refine (range_nat w2 p k2 10 xs (by omega) (by omega) HST2.out).mono ?_
  rintro e w3 ⟨rfl, hst, hg⟩
  obtain ⟨d, ed⟩ : ∃ d, d = nextN xs k2 11 := ⟨_, rfl⟩
  have hd10 : d < 11 := ed ▸ nextN_lt xs k2 11 (by omega)
  rw [← ed]
  have HB3 := Lib.hid (HB2.out.grown hg HB2.out.size (fun q hq => by cases hq; exact hpw))
  have hsz3 : p < w3.heap.size := Nat.lt_of_lt_of_le hsz2 hg.size
  have HOa3 := Lib.hid (own_kept HOa2.out hg hbsa)
  have HOb3 := Lib.hid (own_kept HOb2.out hg hbsb)
  have HG3 := Lib.hid (grown_refl w3 (Value.slice B nb cb).ownBlock)
  clear hst hg ed
  go_wp2_with (fail)
  go_loopw [28] (fun s wr => ∃ i : Nat, i ≤ nb ∧ s = .int .i64 (i : Int) ∧ wr.ownsRow w1.heap.size 39 8 (.slice B nb cb) nb (recs ceC (shL d i b)) ∧ w3.grownBy wr (Value.slice B nb cb).ownBlock) (fun s _ => nb - (intOf s).toNat)
  case atStart => exact ⟨0, Nat.zero_le _, rfl, HOb3.out, HG3.out⟩
  case round =>
    obtain ⟨i, hin, rfl, hown, hgr⟩ := hrel
    have HO := Lib.hid hown
    have HG := Lib.hid hgr
    by_cases hlt : i < nb
    · have hltI : (i : Int) < nb := by omega
      rcases own_two hown with ⟨_, hn0, _⟩ | ⟨g, rfl, hbg, hgs⟩
      · omega
      obtain ⟨x, hx⟩ : ∃ x, b[i]? = some x := ⟨_, List.getElem?_eq_getElem (by have := HNb.out; omega)⟩
      have hxs : (shL d i b)[i]? = some x := by rw [shL_get (by have := HNb.out; omega)]; exact hx
      have hc := ce_cells (own_cells0 hown) i x hxs
      rw [Nat.zero_add] at hc
      obtain ⟨q0, q1, q2, q3, q4, q5, q6, q7⟩ := hc
      obtain ⟨cs, hcs⟩ := own_blk hown
      have fr5 : wr.frozen? ⟨g, i * 8 + 5, none⟩ = false := by simp [World.frozen?, hcs]
      have h9x := H9.out x (List.mem_of_getElem? hx)
      have h0x := (HKb.out.2 x (List.mem_of_getElem? hx)).2.2.1
      have hwr : IntKind.i64.wrap (x.2.2.at_ + d) = x.2.2.at_ + d := by rw [IntKind.wrap_i64]; omega
      have HSET := Lib.hid (hown.stored (i * 8 + 5) (.int .i64 (x.2.2.at_ + d)))
      have HRA := Lib.hid (show (recs ceC (shL d i b)).set (i * 8 + 5) (.int .i64 (x.2.2.at_ + d)) = recs ceC (shL d (i + 1) b) from by
        rw [recs_at _ _ _ _ hxs, ← shL_next hx]; rfl)
      clear hown hgr hcs hx hxs q0 q1 q2 q3 q4 q6 q7 h9x h0x
      go_upto_region 7 with (fail)
      generalize hW5 : wr.setCell ⟨g, i * 8 + 5, none⟩ (.int .i64 (x.2.2.at_ + d)) = w5 at HSET ⊢
      have HO5 := Lib.hid (show w5.ownsRow w1.heap.size 39 8 (.slice (some ⟨g, 0, none⟩) nb cb) nb (recs ceC (shL d (i + 1) b)) from by rw [← HRA.out]; exact HSET.out.1)
      have HG5 := Lib.hid (show w3.grownBy w5 (some g) from grown_trans HG.out HSET.out.2)
      clear hW5 HSET HRA q5 fr5 hwr
      go_wp2_with (fail)
      go_roundw
      case rel => exact ⟨i + 1, by omega, by simp, HO5.out, HG5.out⟩
      case measure => simp [intOf]; omega
    · have hltI : ¬ (i : Int) < nb := by omega
      have hin' : i = nb := by omega
      subst hin'
      have HBS := Lib.hid (fun q (hq : (Value.slice B i cb).ownBlock = some q) => (HOb3.out.lt q hq).1)
      have HB4 := Lib.hid (HB3.out.grown hgr HB3.out.size (fun q hq => by have := HBS.out q hq; have := HB1.out.size; omega))
      have hsz4 : p < wr.heap.size := Nat.lt_of_lt_of_le hsz3 hgr.size
      have HOa4 := Lib.hid (own_neR HOa3.out hgr (fun q hq hr => by have h1 := (HOa1.out.lt q hq).2; have h2 := HBS.out q hr; omega))
      have hsh : shL d i b = b.map (shF d) := by rw [← HNb.out]; exact shL_all _ _
      rw [hsh] at hown
      have HOb4 := Lib.hid hown
      have HKb4 := Lib.hid (sh_ok (d := d) HKb.out H9.out (by omega) (by omega))
      have HYb := Lib.hid (sh_young (d := d) HKb.out)
      have HNb4 := Lib.hid (show (b.map (shF d)).length = i from by rw [List.length_map]; exact HNb.out)
      clear hown hgr HO HG hsh HKb HNb H9 HOb3 HBS HG3
      obtain ⟨w4, e4⟩ : ∃ x, x = wr := ⟨_, rfl⟩
      subst e4
      obtain ⟨bs, ebs⟩ : ∃ bs, bs = b.map (shF d) := ⟨_, rfl⟩
      rw [← ebs] at HOb4 HKb4 HYb HNb4
      clear ebs
      have HKb := HKb4
      have HNb := HNb4
      clear HKb4 HNb4
      go_wp2_with (fail)
      have HV := Lib.hid (cpL_vis (t := d) HKa.out)
      have HCL := Lib.hid (cpL_len a d)
      have HKc := Lib.hid (cpL_ok HKa.out d)
      have HCF := Lib.hid (fun h => cpL_cfl (b := bs) (t := d) HKa.out h)
      have HCM := Lib.hid (compact_merge HKa.out HKb.out HYb.out)
      refine (compact_any a d na ca A w4 HKa.out HNa.out (by omega) (own_row HOa4.out) (by omega) (by omega) (HT.out _ HB4.out)).mono ?_
      rintro e w5 ⟨C, cc, nc, rfl, hn, ho, hb⟩
      have hnc : nc ≤ na := by have := HCL.out; have := HNa.out; omega
      have HNc := Lib.hid hn
      clear hn
      have HB5 := Lib.hid (HB4.out.trans (hb.mono HB4.out.size))
      have hsz5 : p < w5.heap.size := Nat.lt_of_lt_of_le hsz4 hb.size
      have HOa5 := Lib.hid (own_belowP HOa4.out hb)
      have HOb5 := Lib.hid (own_belowP HOb4.out hb)
      have HOc5 := Lib.hid ho
      clear ho
      clear hb
      go_wp2_with (fail)
      refine (visible_any a na ca A w5 HKa.out HNa.out (by omega) (own_row HOa5.out) (HT.out _ HB5.out)).mono ?_
      rintro e w6 ⟨V1, cv1, nv, rfl, hn, ho, hb⟩
      have HNv := Lib.hid hn
      have hn7nv : nv ≤ 7 := by rw [← hn]; exact viF_len _ HKa.out
      clear hn
      have HB6 := Lib.hid (HB5.out.trans (hb.mono HB5.out.size))
      have hsz6 : p < w6.heap.size := Nat.lt_of_lt_of_le hsz5 hb.size
      have HOa6 := Lib.hid (own_belowP HOa5.out hb)
      have HOb6 := Lib.hid (own_belowP HOb5.out hb)
      have HOc6 := Lib.hid (own_belowP HOc5.out hb)
      have HOv6 := Lib.hid ho
      clear ho
      clear hb
      go_wp2_with (fail)
      refine (visible_any (cpL a d) nc cc C w6 HKc.out HNc.out (by omega) (own_row HOc6.out) (HT.out _ HB6.out)).mono ?_
      rintro e w7 ⟨V2, cv2, nv2, rfl, hn, ho, hb⟩
      rw [HV.out] at hn ho
      obtain rfl : nv2 = nv := hn.symm.trans HNv.out
      clear hn
      have HB7 := Lib.hid (HB6.out.trans (hb.mono HB6.out.size))
      have hsz7 : p < w7.heap.size := Nat.lt_of_lt_of_le hsz6 hb.size
      have HOa7 := Lib.hid (own_belowP HOa6.out hb)
      have HOb7 := Lib.hid (own_belowP HOb6.out hb)
      have HOc7 := Lib.hid (own_belowP HOc6.out hb)
      have HOv7 := Lib.hid (own_belowP HOv6.out hb)
      have HOu7 := Lib.hid ho
      clear ho
      clear hb
      have hle1 : ¬ (nc : Int) > (na : Int) := by omega
      have hle2 : ¬ (na : Int) < (nc : Int) := by omega
      go_wp2_with (go_at_call 14; refine (errs_ok 3 3 _ _ (by omega) (Cells.new _ _ _ _ _ rfl)).mono ?_; rintro e w' ⟨rfl, rfl⟩)
      have hb : Below w7.heap.size w7 (w7.alloc (.cells #[.int .i64 0, .int .i64 0, .int .i64 0] 28)) := (Below.refl _ _).alloc (Nat.le_refl _) _
      generalize w7.alloc (.cells #[.int .i64 0, .int .i64 0, .int .i64 0] 28) = w8 at hb ⊢
      have HB8 := Lib.hid (HB7.out.trans (hb.mono HB7.out.size))
      have hsz8 : p < w8.heap.size := Nat.lt_of_lt_of_le hsz7 hb.size
      have HOa8 := Lib.hid (own_belowP HOa7.out hb)
      have HOb8 := Lib.hid (own_belowP HOb7.out hb)
      have HOc8 := Lib.hid (own_belowP HOc7.out hb)
      have HOv8 := Lib.hid (own_belowP HOv7.out hb)
      have HOu8 := Lib.hid (own_belowP HOu7.out hb)
      clear hb
      refine (eqP_any (viF a) nv2 cv1 cv2 V1 V2 w8 HNv.out (by omega) (own_row HOv8.out) (own_row HOu8.out)).mono ?_
      rintro e w9 ⟨rfl, hb⟩
      have HB9 := Lib.hid (HB8.out.trans (hb.mono HB8.out.size))
      have hsz9 : p < w9.heap.size := Nat.lt_of_lt_of_le hsz8 hb.size
      have HOa9 := Lib.hid (own_belowP HOa8.out hb)
      have HOb9 := Lib.hid (own_belowP HOb8.out hb)
      have HOc9 := Lib.hid (own_belowP HOc8.out hb)
      have HOv9 := Lib.hid (own_belowP HOv8.out hb)
      have HOu9 := Lib.hid (own_belowP HOu8.out hb)
      clear hb
      go_wp2_with (fail)
      refine (merge_any a bs na i ca cb A B w9 HKa.out HKb.out HNa.out HNb.out (by omega) (by omega) (own_cap HOa9.out) (own_cap HOb9.out) (own_ly HOa9.out) (own_ly HOb9.out) (HT.out _ HB9.out)).mono ?_
      rintro e w10 ⟨h, hb⟩
      cases hcf : cfL a bs
      · have HQ := Lib.hid (HCF.out hcf)
        have hS7 := Lib.hid (mgL_len a bs)
        have HKx := Lib.hid (mgL_ok HKa.out HKb.out)
        rw [hcf] at h
        clear hcf
        replace h := h.resolve_left (fun k => by cases k.1)
        obtain ⟨_, X1, cx, nx, hn, rfl, ho⟩ := h
        have hn7nx : nx ≤ 7 := by rw [← hn]; exact hS7.out
        have HNx := Lib.hid hn
        clear hn
        have HB10 := Lib.hid (HB9.out.trans (hb.mono HB9.out.size))
        have hsz10 : p < w10.heap.size := Nat.lt_of_lt_of_le hsz9 hb.size
        have HOa10 := Lib.hid (own_belowP HOa9.out hb)
        have HOb10 := Lib.hid (own_belowP HOb9.out hb)
        have HOc10 := Lib.hid (own_belowP HOc9.out hb)
        have HOx10 := Lib.hid ho
        clear ho
        clear hb
        go_wp2_with (fail)
        refine (merge_any (cpL a d) bs nc i cc cb C B w10 HKc.out HKb.out HNc.out HNb.out (by omega) (by omega) (own_cap HOc10.out) (own_cap HOb10.out) (own_ly HOc10.out) (own_ly HOb10.out) (HT.out _ HB10.out)).mono ?_
        rintro e w11 ⟨h, hb⟩
        have HKy := Lib.hid (mgL_ok HKc.out HKb.out)
        have hY7 := Lib.hid (mgL_len (cpL a d) bs)
        rw [HQ.out] at h
        replace h := h.resolve_left (fun k => by cases k.1)
        obtain ⟨_, Y1, cy, ny, hn, rfl, ho⟩ := h
        have hn7ny : ny ≤ 7 := by rw [← hn]; exact hY7.out
        have HNy := Lib.hid hn
        clear hn
        have HB11 := Lib.hid (HB10.out.trans (hb.mono HB10.out.size))
        have hsz11 : p < w11.heap.size := Nat.lt_of_lt_of_le hsz10 hb.size
        have HOa11 := Lib.hid (own_belowP HOa10.out hb)
        have HOb11 := Lib.hid (own_belowP HOb10.out hb)
        have HOc11 := Lib.hid (own_belowP HOc10.out hb)
        have HOx11 := Lib.hid (own_belowP HOx10.out hb)
        have HOy11 := Lib.hid ho
        clear ho
        clear hb
        go_wp2_with (fail)
        refine (visible_any (mgL a bs) nx cx X1 w11 HKx.out HNx.out (by omega) (own_row HOx11.out) (HT.out _ HB11.out)).mono ?_
        rintro e w12 ⟨V3, cv3, nz, rfl, hn, ho, hb⟩
        have HNz := Lib.hid hn
        have hn7nz : nz ≤ 7 := by rw [← hn]; exact viF_len _ HKx.out
        clear hn
        have HB12 := Lib.hid (HB11.out.trans (hb.mono HB11.out.size))
        have hsz12 : p < w12.heap.size := Nat.lt_of_lt_of_le hsz11 hb.size
        have HOa12 := Lib.hid (own_belowP HOa11.out hb)
        have HOb12 := Lib.hid (own_belowP HOb11.out hb)
        have HOc12 := Lib.hid (own_belowP HOc11.out hb)
        have HOx12 := Lib.hid (own_belowP HOx11.out hb)
        have HOy12 := Lib.hid (own_belowP HOy11.out hb)
        have HOz12 := Lib.hid ho
        clear ho
        clear hb
        go_wp2_with (fail)
        refine (visible_any (mgL (cpL a d) bs) ny cy Y1 w12 HKy.out HNy.out (by omega) (own_row HOy12.out) (HT.out _ HB12.out)).mono ?_
        rintro e w13 ⟨V4, cv4, nz2, rfl, hn, ho, hb⟩
        rw [HCM.out] at hn ho
        obtain rfl : nz2 = nz := hn.symm.trans HNz.out
        clear hn
        have HB13 := Lib.hid (HB12.out.trans (hb.mono HB12.out.size))
        have hsz13 : p < w13.heap.size := Nat.lt_of_lt_of_le hsz12 hb.size
        have HOa13 := Lib.hid (own_belowP HOa12.out hb)
        have HOb13 := Lib.hid (own_belowP HOb12.out hb)
        have HOc13 := Lib.hid (own_belowP HOc12.out hb)
        have HOx13 := Lib.hid (own_belowP HOx12.out hb)
        have HOy13 := Lib.hid (own_belowP HOy12.out hb)
        have HOz13 := Lib.hid (own_belowP HOz12.out hb)
        have HOt13 := Lib.hid ho
        clear ho
        clear hb
        go_wp2_with (go_at_call 14; refine (errs_ok 3 3 _ _ (by omega) (Cells.new _ _ _ _ _ rfl)).mono ?_; rintro e w' ⟨rfl, rfl⟩)
        have hb : Below w13.heap.size w13 (w13.alloc (.cells #[.int .i64 0, .int .i64 0, .int .i64 0] 28)) := (Below.refl _ _).alloc (Nat.le_refl _) _
        generalize w13.alloc (.cells #[.int .i64 0, .int .i64 0, .int .i64 0] 28) = w14 at hb ⊢
        have HB14 := Lib.hid (HB13.out.trans (hb.mono HB13.out.size))
        have hsz14 : p < w14.heap.size := Nat.lt_of_lt_of_le hsz13 hb.size
        have HOa14 := Lib.hid (own_belowP HOa13.out hb)
        have HOb14 := Lib.hid (own_belowP HOb13.out hb)
        have HOc14 := Lib.hid (own_belowP HOc13.out hb)
        have HOx14 := Lib.hid (own_belowP HOx13.out hb)
        have HOy14 := Lib.hid (own_belowP HOy13.out hb)
        have HOz14 := Lib.hid (own_belowP HOz13.out hb)
        have HOt14 := Lib.hid (own_belowP HOt13.out hb)
        clear hb
        refine (eqP_any (viF (mgL a bs)) nz2 cv3 cv4 V3 V4 w14 HNz.out (by omega) (own_row HOz14.out) (own_row HOt14.out)).mono ?_
        rintro e w15 ⟨rfl, hb⟩
        have HB15 := Lib.hid (HB14.out.trans (hb.mono HB14.out.size))
        have hsz15 : p < w15.heap.size := Nat.lt_of_lt_of_le hsz14 hb.size
        have HOa15 := Lib.hid (own_belowP HOa14.out hb)
        have HOb15 := Lib.hid (own_belowP HOb14.out hb)
        have HOc15 := Lib.hid (own_belowP HOc14.out hb)
        have HOx15 := Lib.hid (own_belowP HOx14.out hb)
        have HOy15 := Lib.hid (own_belowP HOy14.out hb)
        have HOz15 := Lib.hid (own_belowP HOz14.out hb)
        have HOt15 := Lib.hid (own_belowP HOt14.out hb)
        clear hb
        go_wp2_with (fail)
        refine (ready_yes w15).mono ?_
        rintro e w16 ⟨rfl, hb⟩
        have HBF := Lib.hid (HB15.out.trans (hb.mono HB15.out.size))
        clear hb
        go_wp2_with (fail)
        go_ret
        exact ⟨rfl, HBF.out⟩
      · rw [hcf] at h
        clear hcf
        replace h := h.resolve_right (fun k => by cases k.1)
        obtain ⟨_, rfl⟩ := h
        have HB10 := Lib.hid (HB9.out.trans (hb.mono HB9.out.size))
        have hsz10 : p < w10.heap.size := Nat.lt_of_lt_of_le hsz9 hb.size
        have HOa10 := Lib.hid (own_belowP HOa9.out hb)
        have HOb10 := Lib.hid (own_belowP HOb9.out hb)
        have HOc10 := Lib.hid (own_belowP HOc9.out hb)
        clear hb
        go_wp2_with (fail)
        refine (merge_any (cpL a d) bs nc i cc cb C B w10 HKc.out HKb.out HNc.out HNb.out (by omega) (by omega) (own_cap HOc10.out) (own_cap HOb10.out) (own_ly HOc10.out) (own_ly HOb10.out) (HT.out _ HB10.out)).mono ?_
        rintro e w11 ⟨h, hb⟩
        rcases h with ⟨_, rfl⟩ | ⟨_, _, _, _, _, rfl, _⟩
        · have HB11 := Lib.hid (HB10.out.trans (hb.mono HB10.out.size))
          have hsz11 : p < w11.heap.size := Nat.lt_of_lt_of_le hsz10 hb.size
          have HOa11 := Lib.hid (own_belowP HOa10.out hb)
          have HOb11 := Lib.hid (own_belowP HOb10.out hb)
          have HOc11 := Lib.hid (own_belowP HOc10.out hb)
          clear hb
          go_wp2_with (fail)
          refine (ready_yes w11).mono ?_
          rintro e w12 ⟨rfl, hb⟩
          have HBF := Lib.hid (HB11.out.trans (hb.mono HB11.out.size))
          clear hb
          go_wp2_with (fail)
          go_ret
          exact ⟨rfl, HBF.out⟩
        · have HB11 := Lib.hid (HB10.out.trans (hb.mono HB10.out.size))
          have hsz11 : p < w11.heap.size := Nat.lt_of_lt_of_le hsz10 hb.size
          have HOa11 := Lib.hid (own_belowP HOa10.out hb)
          have HOb11 := Lib.hid (own_belowP HOb10.out hb)
          have HOc11 := Lib.hid (own_belowP HOc10.out hb)
          clear hb
          go_wp2_with (fail)
          refine (ready_yes w11).mono ?_
          rintro e w12 ⟨rfl, hb⟩
          have HBF := Lib.hid (HB11.out.trans (hb.mono HB11.out.size))
          clear hb
          go_wp2_with (fail)
          go_ret
          exact ⟨rfl, HBF.out⟩
end Go.Proofs.YtccbblnlmggjbaaGreatDoor
