/- rule.firesAt, seen by their contracts. -/
import Derived.Test.YtlfphndnkgoinaaGreatDoorTkG
namespace Go.Proofs.YtlfphndnkgoinaaGreatDoor
open Go.RowKit

def spF (t : Int) (a : Int × Int) : Bool := decide (a.1 ≤ t) && decide (t < a.2)
theorem firesP_any (l : List (Int × Int)) (t : Int) : l.any (spF t) = firesP l t := by
  unfold firesP spF
  congr 1
  funext s
  rw [Bool.decide_and]
set_option maxRecDepth 100000 in
theorem spCl_any (x : Int × Int) (g : Nat) (t : Int) (w : World) (h0 : w.cell? ⟨g, 0, none⟩ = some (.int .i64 t)) (hg : g < w.heap.size) :
    Calls Tryz.prog 80 #[.agg #[.int .i64 x.1, .int .i64 x.2], .pointer (some ⟨g, 0, none⟩)] w fun e w' => e = .returned (.bool (spF t x)) ∧ Below w.heap.size w w' := by
  obtain ⟨a, b⟩ := x
  unfold spF
  simp only
  have hb5 : Below w.heap.size w (w.alloc (.cells #[.int .i64 a, .int .i64 b] 138)) := (Below.refl _ _).alloc (Nat.le_refl _) _
  have hg5 := heap_new w (.cells #[.int .i64 a, .int .i64 b] 138)
  have h1 := (hb5.cell (p := ⟨g, 0, none⟩) hg).trans h0
  have hs5 := (Array.getElem?_eq_some_iff.1 hg5).1
  have q0 := cell_of_blk (j := 0) hg5 rfl
  have q1 := cell_of_blk (j := 1) hg5 rfl
  have hgl : g < (w.alloc (.cells #[.int .i64 a, .int .i64 b] 138)).heap.size := by omega
  have HB := Lib.hid hb5
  clear h0 hg5 hb5
  by_cases ha : a ≤ t
  · by_cases hb : t < b
    · rw [decide_eq_true ha, decide_eq_true hb]
      go_enter Tryz.func80, Tryz.ntmps80
      go_wp2_with (fail)
      go_ret
      exact ⟨rfl, HB.out⟩
    · rw [decide_eq_true ha, decide_eq_false hb]
      go_enter Tryz.func80, Tryz.ntmps80
      go_wp2_with (fail)
      go_ret
      exact ⟨rfl, HB.out⟩
  · rw [decide_eq_false ha, Bool.false_and]
    go_enter Tryz.func80, Tryz.ntmps80
    go_wp2_with (fail)
    go_ret
    exact ⟨rfl, HB.out⟩
def spIPost (l : List (Int × Int)) (t : Int) (e : Ending) : Prop := ∃ z : Int, e = .returned (.int .i64 z) ∧ (0 ≤ z ↔ l.any (spF t) = true)
set_option maxRecDepth 100000 in
set_option maxHeartbeats 2000000 in
theorem spIdx_any (l : List (Int × Int)) (n c g : Nat) (t : Int) (A : Option Addr) (w : World) (hn : l.length = n) (hn7 : n ≤ 400000000000) (hr : Row w w.heap.size A (recs sqC l)) (h0 : w.cell? ⟨g, 0, none⟩ = some (.int .i64 t)) (hg : g < w.heap.size) :
    Calls Tryz.prog 124 #[.slice A n c, .func (.func 80) #[] #[.pointer (some ⟨g, 0, none⟩)]] w fun e w' => spIPost l t e ∧ Below w.heap.size w w' := by
  have HR := Lib.hid hr
  have HN := Lib.hid hn
  have HH := Lib.hid (fun (x : Int × Int) (V : World) (hV : Below w.heap.size w V) => spCl_any x g t V ((hV.cell (p := ⟨g, 0, none⟩) hg).trans h0) (Nat.lt_of_lt_of_le hg hV.size))
  clear hr hn h0
  go_enter Tryz.func124, Tryz.ntmps124
  go_wp2_with (fail)
  go_loopw [8] (fun i wr => ∃ k : Nat, k ≤ n ∧ i = .int .i64 k ∧ Below w.heap.size w wr ∧ Hid (∀ m x, m < k → l[m]? = some x → spF t x = false)) (fun i _ => n - (intOf i).toNat)
  case atStart => exact ⟨0, Nat.zero_le _, rfl, Below.refl _ _, Lib.hid (fun m x hm _ => by omega)⟩
  case round =>
    obtain ⟨k, hk, rfl, hb, HK⟩ := hrel
    have hbs := hb.size
    have HB := Lib.hid hb
    by_cases hlt : k < n
    · have hltI : (k : Int) < (n : Int) := by omega
      obtain ⟨x, hx⟩ : ∃ x, l[k]? = some x := ⟨_, List.getElem?_eq_getElem (by have := HN.out; omega)⟩
      obtain ⟨b, o, rfl, hbw, hC⟩ := (HR.out.below hb).posR sqC_len (by omega) (by have := HN.out; omega)
      have c0 : wr.cell? ⟨b, o + k * 2, none⟩ = some (.int .i64 x.1) := rec_cell sqC_len hC k x hx 0 _ rfl
      have c1 : wr.cell? ⟨b, o + k * 2 + 1, none⟩ = some (.int .i64 x.2) := rec_cell sqC_len hC k x hx 1 _ rfl
      have hbl : b < wr.heap.size := by omega
      have HX := Lib.hid hx
      clear hC hx hb
      go_wp2_with (fail)
      refine (HH.out x wr HB.out).mono ?_
      rintro e w1 ⟨rfl, hb1⟩
      have HB1 := Lib.hid (HB.out.trans (hb1.mono hbs))
      clear hb1
      cases hu : spF t x
      · have HU := Lib.hid hu
        clear hu
        go_wp2_with (fail)
        go_roundw
        case rel =>
          refine ⟨k + 1, by omega, by simp, HB1.out, Lib.hid (fun m z hm hz => ?_)⟩
          by_cases hmk : m = k
          · subst hmk
            have := HX.out
            rw [hz] at this
            cases this
            exact HU.out
          · exact HK.out m z (by omega) hz
        case measure => simp [intOf]; omega
      · have HU := Lib.hid (show l.any (spF t) = true from by
          rw [List.any_eq_true]
          exact ⟨x, List.mem_of_getElem? HX.out, hu⟩)
        clear hu
        go_wp2_with (fail)
        go_ret
        exact ⟨⟨_, rfl, iff_of_true (by omega) HU.out⟩, HB1.out⟩
    · have hltI : ¬ (k : Int) < (n : Int) := by omega
      have hall := Lib.hid (show l.any (spF t) = false from by
        rw [List.any_eq_false]
        intro q hq
        obtain ⟨m, hm⟩ := List.getElem?_of_mem hq
        rw [HK.out m q (by have := (List.getElem?_eq_some_iff.1 hm).1; have := HN.out; omega) hm]
        simp)
      clear hb
      go_wp2_with (fail)
      go_ret
      exact ⟨⟨_, rfl, iff_of_false (by omega) (by rw [hall.out]; simp)⟩, HB.out⟩
set_option maxRecDepth 100000 in
theorem spAny (l : List (Int × Int)) (n c g : Nat) (t : Int) (A : Option Addr) (w : World) (hn : l.length = n) (hn7 : n ≤ 400000000000) (hr : Row w w.heap.size A (recs sqC l)) (h0 : w.cell? ⟨g, 0, none⟩ = some (.int .i64 t)) (hg : g < w.heap.size) :
    Calls Tryz.prog 79 #[.slice A n c, .func (.func 80) #[] #[.pointer (some ⟨g, 0, none⟩)]] w fun e w' => e = .returned (.bool (l.any (spF t))) ∧ Below w.heap.size w w' := by
  have HI := Lib.hid (spIdx_any l n c g t A w hn hn7 hr h0 hg)
  obtain ⟨u, eu⟩ : ∃ u, u = l.any (spF t) := ⟨_, rfl⟩
  unfold spIPost at HI
  rw [← eu] at HI ⊢
  clear hn hr h0 eu
  go_enter Tryz.func79, Tryz.ntmps79
  go_wp2_with (fail)
  refine HI.out.mono ?_
  rintro e w1 ⟨⟨z, rfl, hz⟩, hb1⟩
  have HB1 := Lib.hid hb1
  have HZ := Lib.hid hz
  clear hz hb1
  have HD := Lib.hid (show decide (0 ≤ z) = u from by rw [Bool.eq_iff_iff, decide_eq_true_iff]; exact HZ.out)
  go_wp2_with (fail)
  go_ret
  exact ⟨by rw [← HD.out]; rfl, HB1.out⟩
set_option maxRecDepth 100000 in
theorem firesAt_any (l : List (Int × Int)) (n c : Nat) (t : Int) (A : Option Addr) (w : World) (hn : l.length = n) (hn7 : n ≤ 400000000000) (hr : Row w w.heap.size A (recs sqC l)) :
    Calls Tryz.prog 38 #[.slice A n c, .int .i64 t] w fun e w' => e = .returned (.bool (firesP l t)) ∧ Below w.heap.size w w' := by
  obtain ⟨g, eg⟩ : ∃ g, g = w.heap.size := ⟨_, rfl⟩
  obtain ⟨w5, e5⟩ : ∃ V : World, V = w.alloc (.cells #[.int .i64 t] 3) := ⟨_, rfl⟩
  have hb5 : Below w.heap.size w w5 := by rw [e5]; exact (Below.refl _ _).alloc (Nat.le_refl _) _
  have hg5 : w5.heap[g]? = some (.cells #[.int .i64 t] 3 (0, 0)) := by rw [e5, eg]; exact heap_new w _
  have HI := Lib.hid (spAny l n c g t A w5 hn hn7 (Row.below hr hb5 |> fun h => Row.mono h hb5.size) (cell_of_blk (j := 0) hg5 rfl) (Array.getElem?_eq_some_iff.1 hg5).1)
  rw [firesP_any] at HI
  have HB5 := Lib.hid hb5
  clear hn hn7 hr hb5 hg5
  go_enter Tryz.func38, Tryz.ntmps38
  go_upto_region 1 with (fail)
  rw [← eg, ← e5]
  clear eg e5
  go_wp2_with (fail)
  refine HI.out.mono ?_
  rintro e w6 ⟨rfl, hb6⟩
  have HB6 := Lib.hid (below_step HB5.out hb6)
  clear hb6
  go_wp2_with (fail)
  go_ret
  exact ⟨rfl, HB6.out⟩
end Go.Proofs.YtlfphndnkgoinaaGreatDoor
