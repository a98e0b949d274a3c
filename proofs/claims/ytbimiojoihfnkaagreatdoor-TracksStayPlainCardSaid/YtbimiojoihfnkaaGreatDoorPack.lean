/- pack and Pack: a series in sevens. -/
import Derived.Test.YtbimiojoihfnkaaGreatDoorSeven
import Derived.Test.YtbimiojoihfnkaaGreatDoorSer3
namespace Go.Proofs.YtbimiojoihfnkaaGreatDoor
open Go.RowKit

/-- What pack writes of the measurements behind those that led to at, by and val. -/
def packS : Int → Int → Int → Bool → List Smp → List Int
  | _, _, _, _, [] => []
  | at_, by_, val, first, x :: l => sev (dbl (x.1 - at_ - by_)) ++ sev (dbl (x.2 - val)) ++ packS x.1 (if first then by_ else x.1 - at_) x.2 false l
def packL (l : List Smp) : List Int := sev l.length ++ packS 0 0 0 true l
/-- No step is greater than two sevens. -/
def StepsOk : Int → Int → Int → Bool → List Smp → Prop
  | _, _, _, _, [] => True
  | at_, by_, val, first, x :: l => -8000 ≤ x.1 - at_ - by_ ∧ x.1 - at_ - by_ ≤ 8000 ∧ -8000 ≤ x.2 - val ∧ x.2 - val ≤ 8000 ∧ StepsOk x.1 (if first then by_ else x.1 - at_) x.2 false l

theorem sev_len2 (n : Nat) : 1 ≤ (sev n).length ∧ (sev n).length ≤ 2 := by unfold sev; split <;> simp

set_option maxRecDepth 100000 in
set_option maxHeartbeats 4000000 in
theorem pack_some (l : List Smp) (n c b o : Nat) (w : World) (hn : l.length = n) (hg : GoodS l) (hb : b < w.heap.size) (hc : Cells w b o (cellsOf l)) (hs : StepsOk 0 0 0 true l) :
    Calls Tryz.prog 106 #[.slice (some ⟨b, o, none⟩) n c] w fun e w' => ∃ v, e = .returned v ∧ w'.ownsRow w.heap.size 5 1 v (packL l).length (bytesV (packL l)) ∧ Below w.heap.size w w' := by
  have h5 : n ≤ 5000 := by have := hg.len; omega
  have HC := Lib.hid hc
  have HG := Lib.hid hg
  have HS := Lib.hid hs
  have HN := Lib.hid hn
  clear hc hg hs hn
  go_enter Tryz.func106, Tryz.ntmps106
  go_wp2_with (fail)
  refine (seven_any w w.heap.size 0 n _ [] (World.ownsRow_nil _ _ _ _) (by omega) (by omega) (Nat.le_refl _)).mono ?_
  rintro e w1 ⟨v1, rfl, hown1, hgr1, hmv1⟩
  have HO1 := Lib.hid hown1
  have HB1 := Lib.hid ((Below.refl w.heap.size w).grown hgr1 (Nat.le_refl _) (fun k hk => by simp [Value.ownBlock] at hk))
  clear hown1 hgr1 hmv1
  go_wp2_with (fail)
  go_loopw [3, 4, 5, 6, 16] (fun v a d q i wr => ∃ (k : Nat) (at_ by_ val : Int) (xs : List Int), k ≤ n ∧ i = .int .i64 k ∧ a = .int .i64 at_ ∧ d = .int .i64 by_ ∧ q = .int .i64 val ∧
      wr.ownsRow w.heap.size 5 1 v xs.length (bytesV xs) ∧ Hid (xs ++ packS at_ by_ val (k == 0) (l.drop k) = packL l ∧ StepsOk at_ by_ val (k == 0) (l.drop k)) ∧ Below w.heap.size w wr ∧ xs.length ≤ 4 * k + 2 ∧
      (0 ≤ at_ ∧ at_ < 345686400000) ∧ (-345686400000 < by_ ∧ by_ < 345686400000) ∧ (-1000000000 ≤ val ∧ val ≤ 1000000000)) (fun _ _ _ _ i _ => n - (intOf i).toNat)
  case atStart =>
    refine ⟨0, 0, 0, 0, sev n, Nat.zero_le _, rfl, rfl, rfl, rfl, by simpa using HO1.out, ?_, HB1.out, by have := sev_len2 n; omega, by omega, by omega, by omega⟩
    exact ⟨by simp [packL, HN.out], by simpa using HS.out⟩
  case round =>
    obtain ⟨k, at_, by_, val, xs, hk, rfl, rfl, rfl, rfl, hown, hrest, hbl, hlen, ⟨ha1, ha2⟩, ⟨hy1, hy2⟩, ⟨hv1, hv2⟩⟩ := hrel
    have hsz := hbl.size
    by_cases hlt : k < n
    · have hkl : k < l.length := by have := HN.out; omega
      obtain ⟨x, hx⟩ : ∃ x, l[k]? = some x := ⟨_, List.getElem?_eq_getElem hkl⟩
      have hdr : l.drop k = x :: l.drop (k + 1) := by
        rw [List.drop_eq_getElem_cons hkl]; congr 1
        rw [List.getElem?_eq_getElem hkl] at hx; injection hx
      have hcr : Cells wr b o (cellsOf l) := HC.out.keep (hbl.block b hb)
      obtain ⟨c0, c1, c2, c3⟩ := smp_cells hcr k x hx
      have hat := HG.out.at_ k x hx
      have hval := HG.out.val k x hx
      obtain ⟨a, v⟩ := x
      simp only at c2 c3 hat hval
      have hR := hrest.out
      rw [hdr] at hR
      simp only [packS, StepsOk] at hR
      obtain ⟨hR1, hs1, hs2, hs3, hs4, hR2⟩ := hR
      have HR1 := Lib.hid hR1
      have HR2 := Lib.hid hR2
      have HBL := Lib.hid hbl
      have HOWN := Lib.hid hown
      have HL1 := sev_len2 (dbl (a - at_ - by_))
      have HL2 := sev_len2 (dbl (v - val))
      have hbox := heap_new wr (.cells #[.string ⟨#[100]⟩, .string ⟨#[109]⟩, .int .i64 a, .int .i64 v] 56)
      have HBOX := Lib.hid hbox
      clear hbl hcr hx hdr hrest hown hR1 hR2 hbox
      go_wp2_with (go_at_call 183; refine (doubled_any _ _ (by omega) (by omega)).mono ?_; rintro e w' ⟨rfl, rfl⟩)
      refine (seven_any _ w.heap.size xs.length (dbl (a - at_ - by_)) u3 xs (HOWN.out.alloc _) (by omega) (dbl_lt _ hs1 hs2) (by simp; omega)).mono ?_
      rintro e w2 ⟨v2, rfl, hown2, hgr2, hmv2⟩
      have hbox2 := (hgr2.block wr.heap.size (by simp) (own_ne (HOWN.out.alloc _) HBOX.out (by decide))).trans HBOX.out
      have b2 := cell_of_blk (j := 2) hbox2 rfl
      have b3 := cell_of_blk (j := 3) hbox2 rfl
      have hlt2 : wr.heap.size < w2.heap.size := by have := hgr2.size; simp at this; omega
      have HB2 := Lib.hid ((HBL.out.alloc hsz _).grown hgr2 (by simp; omega) (fun g hg => (HOWN.out.lt g hg).1))
      have HO2 := Lib.hid hown2
      have HBOX2 := Lib.hid hbox2
      clear hown2 hgr2 hmv2 hbox2
      go_wp2_with (go_at_call 183; refine (doubled_any _ _ (by omega) (by omega)).mono ?_; rintro e w' ⟨rfl, rfl⟩)
      refine (seven_any _ w.heap.size _ (dbl (v - val)) v2 _ HO2.out (by omega) (dbl_lt _ hs3 hs4) (by omega)).mono ?_
      rintro e w3 ⟨v3, rfl, hown3, hgr3, hmv3⟩
      have hbox3 := (hgr3.block wr.heap.size hlt2 (own_ne HO2.out HBOX2.out (by decide))).trans HBOX2.out
      have d2 := cell_of_blk (j := 2) hbox3 rfl
      have d3 := cell_of_blk (j := 3) hbox3 rfl
      have hlt3 : wr.heap.size < w3.heap.size := by have := hgr3.size; omega
      have HB3 := Lib.hid (HB2.out.grown hgr3 (by omega) (fun g hg => (HO2.out.lt g hg).1))
      have HO3 := Lib.hid (show w3.ownsRow w.heap.size 5 1 v3 (xs ++ (sev (dbl (a - at_ - by_)) ++ sev (dbl (v - val)))).length (bytesV (xs ++ (sev (dbl (a - at_ - by_)) ++ sev (dbl (v - val))))) by
        rw [List.length_append, List.length_append, ← Nat.add_assoc, ← List.append_assoc]; exact hown3)
      clear hown3 hgr3 hmv3 hbox3 b2 b3
      go_wp2_with (fail)
      · have hk0 : 0 < k := by omega
        go_quiet (fail)
        go_wp2_with (fail)
        go_roundw
        case rel =>
          refine ⟨k + 1, a, a - at_, v, _, by omega, by go_num, rfl, rfl, rfl, (HO3.out), ?_, below_drewN HB3.out _, by simp only [List.length_append]; omega, ⟨by omega, by omega⟩, ⟨by omega, by omega⟩, by omega, by omega⟩
          have e1 : (k == 0) = false := by simp; omega
          have := HR1.out
          have h2 := HR2.out
          rw [e1] at this h2
          exact ⟨by simpa [List.append_assoc] using this, by simpa using h2⟩
        case measure => simp [intOf]; omega
      · have hk0 : k = 0 := by omega
        go_quiet (fail)
        go_wp2_with (fail)
        go_roundw
        case rel =>
          refine ⟨k + 1, a, by_, v, _, by omega, by go_num, rfl, rfl, rfl, (HO3.out), ?_, below_drewN HB3.out _, by simp only [List.length_append]; omega, ⟨by omega, by omega⟩, ⟨by omega, by omega⟩, by omega, by omega⟩
          have := HR1.out
          have h2 := HR2.out
          subst hk0
          exact ⟨by simpa [List.append_assoc] using this, by simpa using h2⟩
        case measure => simp [intOf]; omega
    · have HBL := Lib.hid hbl
      have HOWN := Lib.hid hown
      have HE := Lib.hid (show xs = packL l by
        have := hrest.out.1
        rw [List.drop_of_length_le (by have := HN.out; omega)] at this
        simpa [packS] using this)
      clear hbl hown hrest
      go_wp2_with (fail)
      go_ret
      exact ⟨_, rfl, by rw [← HE.out]; exact HOWN.out, HBL.out⟩

theorem pack_empty (A : Option Addr) (c : Nat) (w : World) : Calls Tryz.prog 106 #[.slice A 0 c] w fun e w' => ∃ v, e = .returned v ∧ w'.ownsRow w.heap.size 5 1 v (packL []).length (bytesV (packL [])) ∧ Below w.heap.size w w' := by
  go_enter Tryz.func106, Tryz.ntmps106
  go_wp2_with (fail)
  refine (seven_any w w.heap.size 0 0 _ [] (World.ownsRow_nil _ _ _ _) (by omega) (by omega) (Nat.le_refl _)).mono ?_
  rintro e w1 ⟨v1, rfl, hown1, hgr1, hmv1⟩
  have HO1 := Lib.hid hown1
  have HB1 := Lib.hid ((Below.refl w.heap.size w).grown hgr1 (Nat.le_refl _) (fun k hk => by simp [Value.ownBlock] at hk))
  clear hown1 hgr1 hmv1
  go_wp2_with (fail)
  refine wp_loop_rounds 1 ?_
  rw [rounds_succ]
  go_wp2_with (fail)
  go_ret
  exact ⟨_, rfl, HO1.out, HB1.out⟩

theorem packI_any (l : List Smp) (n c : Nat) (A : Option Addr) (w : World) (hn : l.length = n) (hg : GoodS l) (hr : Row w w.heap.size A (cellsOf l)) (hs : StepsOk 0 0 0 true l) :
    Calls Tryz.prog 106 #[.slice A n c] w fun e w' => ∃ v, e = .returned v ∧ w'.ownsRow w.heap.size 5 1 v (packL l).length (bytesV (packL l)) ∧ Below w.heap.size w w' := by
  rcases Nat.eq_zero_or_pos n with h0 | h0
  · rw [h0]
    obtain rfl : l = [] := List.eq_nil_of_length_eq_zero (by omega)
    exact pack_empty A c w
  · obtain ⟨b, o, rfl, hb, hc⟩ := hr.pos (by omega)
    exact pack_some l n c b o w hn hg hb hc hs

set_option maxHeartbeats 1000000 in
theorem pack_any (l : List Smp) (n c : Nat) (A : Option Addr) (w : World) (hn : l.length = n) (hg : GoodS l) (hr : Row w w.heap.size A (cellsOf l)) (hs : StepsOk 0 0 0 true l) :
    Calls Tryz.prog 42 #[.slice A n c] w fun e w' => ∃ v, e = .returned (.tuple #[v, .int .i64 0]) ∧ w'.ownsRow w.heap.size 5 1 v (packL l).length (bytesV (packL l)) ∧ Below w.heap.size w w' := by
  have HR := Lib.hid hr
  have HG := Lib.hid hg
  have HN := Lib.hid hn
  have HS := Lib.hid hs
  clear hr hg hn hs
  go_enter Tryz.func42, Tryz.ntmps42
  go_wp2_with (fail)
  refine (checkSeries_any l n c A _ HN.out HG.out HR.out).mono ?_
  rintro e w1 ⟨rfl, hb1⟩
  have hs1 := hb1.size
  have HB1 := Lib.hid hb1
  clear hb1
  go_wp2_with (fail)
  refine (packI_any l n c A _ HN.out HG.out ((HR.out.below HB1.out).mono hs1) HS.out).mono ?_
  rintro e w2 ⟨v2, rfl, hown2, hb2⟩
  have HO2 := Lib.hid hown2
  have HB2 := Lib.hid (HB1.out.trans (hb2.mono hs1))
  clear hown2 hb2
  go_wp2_with (fail)
  go_ret2
  exact ⟨_, rfl, own_mono HO2.out (by omega), HB2.out⟩
end Go.Proofs.YtbimiojoihfnkaaGreatDoor
