/- twin.merged, twin.Merge of right cells by their contracts. -/
import Derived.Test.YtkcpfppjdjkjeaaGreatDoorCeJ
namespace Go.Proofs.YtkcpfppjdjkjeaaGreatDoor
open Go.RowKit

theorem Ly.row_ {w : World} {A : Option Addr} {n c : Nat} {xs : List Value} (h : Ly w A n c xs) : Row w w.heap.size A xs := by
  rcases h with ⟨_, _, _, h⟩ | ⟨b, o, e, hb, hc⟩
  · exact .inl h
  · exact .inr ⟨b, o, e, hb, hc⟩
theorem mgL_len (a b : List Ce) : (mgL a b).length ≤ 7 := by
  refine Nat.le_trans (List.length_filterMap_le _ _) ?_
  simp
def MgPost (a b : List Ce) (w : World) (e : Ending) (w' : World) : Prop :=
  ((cfL a b = true ∧ e = .returned (.tuple #[.slice none 0 0, .int .i64 13])) ∨ (cfL a b = false ∧ ∃ A c n, (mgL a b).length = n ∧ e = .returned (.tuple #[.slice A n c, .int .i64 0]) ∧ w'.ownsRow w.heap.size 41 8 (.slice A n c) n (recs ceC (mgL a b)))) ∧ Below w.heap.size w w'
set_option maxRecDepth 100000 in
set_option maxHeartbeats 1000000 in
theorem merged_any (a b : List Ce) (na nb ca cb : Nat) (A B : Option Addr) (w : World) (ha : CsOk a) (hb : CsOk b) (hna : a.length = na) (hnb : b.length = nb) (hna7 : na ≤ 40) (hnb7 : nb ≤ 40) (hca : na ≤ ca) (hcb : nb ≤ cb)
    (hra : Ly w A na ca (recs ceC a)) (hrb : Ly w B nb cb (recs ceC b)) :
    Calls Tryz.prog 32 #[.slice A na ca, .slice B nb cb] w fun e w' => MgPost a b w e w' := by
  have HJ := Lib.hid (joined_any a b na nb ca cb A B w ha hb hna hnb hna7 hnb7 hca hcb hra hrb)
  have HEQ := Lib.hid (jn_eq ha hb)
  have hl7 := mgL_len a b
  clear hra hrb ha hb hna hnb
  go_enter Tryz.func32, Tryz.ntmps32
  go_wp2_with (fail)
  refine HJ.out.mono ?_
  rintro e w1 ⟨h, hb1⟩
  have HB := Lib.hid hb1
  clear hb1 HJ
  rcases h with ⟨hn, rfl⟩ | ⟨l, A1, c1, n, hl, hln, rfl, ho⟩
  · have HF := Lib.hid (show MgPost a b w (.returned (.tuple #[.slice none 0 0, .int .i64 13])) w1 from by
      refine ⟨.inl ⟨?_, rfl⟩, HB.out⟩
      have e := HEQ.out
      rw [hn] at e
      cases hc : cfL a b with
      | true => rfl
      | false => rw [hc] at e; simp at e)
    clear hn
    go_wp2_with (fail)
    go_ret2
    exact HF.out
  · have hlm : cfL a b = false ∧ l = mgL a b := by
      have e := HEQ.out
      rw [hl] at e
      cases hc : cfL a b with
      | true => rw [hc] at e; simp at e
      | false => rw [hc] at e; simp at e; exact ⟨rfl, e⟩
    obtain ⟨hcf, rfl⟩ := hlm
    have HF := Lib.hid (show MgPost a b w (.returned (.tuple #[.slice A1 n c1, .int .i64 0])) w1 from ⟨.inr ⟨hcf, A1, c1, n, hln, rfl, ho⟩, HB.out⟩)
    have hn7 : n ≤ 7 := by rw [← hln]; exact hl7
    have hnI : ¬ (n : Int) > 500 := by omega
    have hnI2 : ¬ (500 : Int) < n := by omega
    clear hl hln hcf ho
    go_wp2_with (fail)
    go_ret2
    exact HF.out
set_option maxRecDepth 100000 in
set_option maxHeartbeats 1000000 in
theorem merge_any (a b : List Ce) (na nb ca cb : Nat) (A B : Option Addr) (w : World) (ha : CsOk a) (hb : CsOk b) (hna : a.length = na) (hnb : b.length = nb) (hna7 : na ≤ 40) (hnb7 : nb ≤ 40) (hca : na ≤ ca) (hcb : nb ≤ cb)
    (hra : Ly w A na ca (recs ceC a)) (hrb : Ly w B nb cb (recs ceC b)) (hT : U8T w) :
    Calls Tryz.prog 6 #[.slice A na ca, .slice B nb cb] w fun e w' => MgPost a b w e w' := by
  have HRA := Lib.hid (fun V (hV : Below w.heap.size w V) => hra.below hV)
  have HRB := Lib.hid (fun V (hV : Below w.heap.size w V) => hrb.below hV)
  have HT := Lib.hid (fun V (hV : Below w.heap.size w V) => hT.below hV)
  have HA := Lib.hid ha
  have HBo := Lib.hid hb
  have HNA := Lib.hid hna
  have HNB := Lib.hid hnb
  clear hra hrb hT ha hb hna hnb
  go_enter Tryz.func6, Tryz.ntmps6
  go_wp2_with (fail)
  refine (checkCells_any a na ca A w HA.out HNA.out (by omega) (HRA.out _ (Below.refl _ _)).row_ (HT.out _ (Below.refl _ _))).mono ?_
  rintro e w1 ⟨rfl, hb1⟩
  have HB1 := Lib.hid hb1
  clear hb1
  go_wp2_with (fail)
  refine (checkCells_any b nb cb B w1 HBo.out HNB.out (by omega) (HRB.out _ HB1.out).row_ (HT.out _ HB1.out)).mono ?_
  rintro e w2 ⟨rfl, hb2⟩
  have HB2 := Lib.hid (HB1.out.trans (hb2.mono HB1.out.size))
  have hs2 := HB2.out.size
  clear hb2
  go_wp2_with (go_at_call 30; refine (first_ok 2 2 _ _ (by omega) (Cells.new _ _ _ _ _ rfl)).mono ?_; rintro e w' ⟨rfl, rfl⟩)
  have HB3 := Lib.hid (HB2.out.alloc hs2 (.cells #[.int .i64 0, .int .i64 0] 30))
  have hs3 := HB3.out.size
  refine (merged_any a b na nb ca cb A B _ HA.out HBo.out HNA.out HNB.out hna7 hnb7 hca hcb (HRA.out _ HB3.out) (HRB.out _ HB3.out)).mono ?_
  rintro e w4 ⟨h, hb4⟩
  have HB4 := Lib.hid (HB3.out.trans (hb4.mono hs3))
  clear hb4
  rcases h with ⟨hc, rfl⟩ | ⟨hc, A1, c1, n, hn, rfl, ho⟩
  · have HF := Lib.hid (show MgPost a b w (.returned (.tuple #[.slice none 0 0, .int .i64 13])) w4 from ⟨.inl ⟨hc, rfl⟩, HB4.out⟩)
    clear hc
    go_wp2_with (fail)
    go_ret2
    exact HF.out
  · have HF := Lib.hid (show MgPost a b w (.returned (.tuple #[.slice A1 n c1, .int .i64 0])) w4 from ⟨.inr ⟨hc, A1, c1, n, hn, rfl, own_mono ho hs3⟩, HB4.out⟩)
    clear hc hn ho
    go_wp2_with (fail)
    go_ret2
    exact HF.out
end Go.Proofs.YtkcpfppjdjkjeaaGreatDoor
