/- slices.Clone of measurements; series.Thin where nothing is left out (out of XThinC, for a seat without slices.Index of samples). -/
import Derived.Test.YtnmgfnnkcenfeaaGreatDoorSxM
import Derived.Test.YtnmgfnnkcenfeaaGreatDoorSer1
namespace Go.Proofs.YtnmgfnnkcenfeaaGreatDoor
open Go.RowKit

set_option maxRecDepth 100000 in
set_option maxHeartbeats 1000000 in
theorem cloneS_some (b off n c : Nat) (xs : List Value) (w : World) (hl : xs.length = n * 4) (h1 : ∀ u ∈ xs, u.oneCell' = true) (hn : n ≤ 1000000) (hc : Cells w b off xs) :
    Calls Tryz.prog 35 #[.slice (some ⟨b, off, none⟩) n c] w fun e w' => ∃ v', e = .returned v' ∧ w'.ownsRow w.heap.size 37 4 v' n xs ∧ Below w.heap.size w w' := by
  obtain ⟨i0, hi, hz0, hz1, hz2⟩ := info_parts Tryz.infoS
  have q22 : ∀ (w : World) (a : Option Addr) (n c n' c' : Nat), (binOp .eql 26 (.slice a n c) (.slice none n' c')).run Tryz.prog w = .ok (.bool a.isNone) w := fun w a n c n' c' => Lib.run_eql_slice_nil w _ _ a n c n' c' Tryz.underlying26
  have HC := Lib.hid hc
  have H1 := Lib.hid h1
  have HL := Lib.hid hl
  clear hc h1 hl
  go_enter Tryz.func35, Tryz.ntmps35
  go_wp2_with (at_builtin; refine wpList_append_own _ rfl _ _ 26 rfl w.heap.size 37 i0 _ 4 48 Tryz.underlying26 hi hz0 hz1 hz2 rfl (by decide) _ _ _ rfl (World.ownsRow_made w #[] 0 (Nat.le_refl _) (Nat.zero_le _) rfl) ⟨b, off, none⟩ n c xs rfl ?qc1 ?qc2 ?qc3 ?qc4 ?qc5 ?qc6 ?_)
  case qc1 => exact HL.out
  case qc2 =>
    intro j u hj
    rw [Addr.add_lit]
    exact Lib.cell?_alloc_some _ (HC.out j u hj)
  case qc3 => exact H1.out
  case qc4 => unfold maxLen; omega
  case qc5 => omega
  case qc6 => simp
  intro v' w1 hown hgrow hnil
  go_wp2
  go_ret
  refine ⟨v', rfl, by simpa using hown, ?_⟩
  exact ((Below.refl _ w).alloc (Nat.le_refl _) _).grown hgrow (by simp) (by intro k hk; simp [Value.ownBlock] at hk; omega)
theorem cloneS_nil (n c : Nat) (w : World) : Calls Tryz.prog 35 #[.slice none n c] w fun e w' => e = .returned (.slice none 0 0) ∧ w = w' := by
  have q22 : ∀ (w : World) (a : Option Addr) (n c n' c' : Nat), (binOp .eql 26 (.slice a n c) (.slice none n' c')).run Tryz.prog w = .ok (.bool a.isNone) w := fun w a n c n' c' => Lib.run_eql_slice_nil w _ _ a n c n' c' Tryz.underlying26
  go_enter Tryz.func35, Tryz.ntmps35
  go_wp2
  go_ret
  exact ⟨rfl, rfl⟩
theorem cellsOf_one (l : List Smp) : ∀ u ∈ cellsOf l, u.oneCell' = true := by
  intro u hu
  simp only [cellsOf, List.mem_flatMap] at hu
  obtain ⟨x, _, hx⟩ := hu
  exact smpC_one x u hx
theorem cloneS_any (l : List Smp) (n c : Nat) (A : Option Addr) (w : World) (hn : l.length = n) (hn2 : n ≤ 5000) (hA : (A = none ∧ n = 0 ∧ c = 0) ∨ ∃ g, A = some ⟨g, 0, none⟩) (hr : Row w w.heap.size A (cellsOf l)) :
    Calls Tryz.prog 35 #[.slice A n c] w fun e w' => ∃ v', e = .returned v' ∧ w'.ownsRow w.heap.size 37 4 v' n (cellsOf l) ∧ Below w.heap.size w w' := by
  rcases hA with ⟨rfl, rfl, rfl⟩ | ⟨g, rfl⟩
  · obtain rfl : l = [] := List.eq_nil_of_length_eq_zero hn
    refine (cloneS_nil 0 0 w).mono ?_
    rintro e w' ⟨rfl, rfl⟩
    exact ⟨_, rfl, by simpa [cellsOf] using World.ownsRow_nil _ _ _ _, Below.refl _ _⟩
  · rcases hr with h | ⟨b', o', he, hb, hc⟩
    · have hl0 : l = [] := List.eq_nil_of_length_eq_zero (by have := cellsOf_length l; rw [h] at this; simp at this; omega)
      subst hl0
      simp only [List.length_nil] at hn
      subst hn
      exact cloneS_some g 0 0 c (cellsOf []) w rfl (by simp [cellsOf]) (by omega) (fun j v hv => by simp [cellsOf] at hv)
    · injection he with he
      injection he with e1 e2
      subst e1 e2
      exact cloneS_some g 0 n c (cellsOf l) w (by rw [cellsOf_length, hn]) (cellsOf_one l) (by omega) hc

set_option maxRecDepth 100000 in
set_option maxHeartbeats 1000000 in
theorem thin_few (l : List Smp) (n m c : Nat) (A : Option Addr) (w : World) (hn : l.length = n) (hm : 3 ≤ m) (hmn : n ≤ m) (hm2 : m ≤ 5000) (hg : GoodS l) (hA : (A = none ∧ n = 0 ∧ c = 0) ∨ ∃ g, A = some ⟨g, 0, none⟩) (hr : Row w w.heap.size A (cellsOf l)) :
    Calls Tryz.prog 9 #[.slice A n c, .int .i64 (m : Int)] w fun e w' => ∃ v, e = .returned (.tuple #[v, .int .i64 0]) ∧ w'.ownsRow w.heap.size 37 4 v n (cellsOf l) ∧ Below w.heap.size w w' := by
  have HR := Lib.hid hr
  have HG := Lib.hid hg
  have HN := Lib.hid hn
  have HA := Lib.hid hA
  clear hr hg hn hA
  go_enter Tryz.func9, Tryz.ntmps9
  go_wp2_with (fail)
  generalize hX : (w.alloc (.cells #[.slice A n c] 26)).alloc (.cells #[.int .i64 (m : Int)] 3) = X
  have hXs : X.heap.size = w.heap.size + 1 + 1 := by rw [← hX]; simp
  have hBX : Below w.heap.size w X := by rw [← hX]; exact ((Below.refl _ _).alloc (Nat.le_refl _) _).alloc (by simp) _
  have hx0 : X.heap[w.heap.size]? = some (.cells #[.slice A n c] 26) := by rw [← hX, Below.heap_alloc _ _ _ (by simp)]; exact heap_new w _
  have hx1 : X.heap[w.heap.size + 1]? = some (.cells #[.int .i64 (m : Int)] 3) := by rw [← hX]; have := heap_new (w.alloc (.cells #[.slice A n c] 26)) (.cells #[.int .i64 (m : Int)] 3); simpa using this
  have HX := Lib.hid (And.intro hx0 hx1)
  have HBX := Lib.hid hBX
  clear hX hx0 hx1 hBX
  refine (checkSeries_any l n c A X HN.out HG.out ((HR.out.below HBX.out).mono (show w.heap.size ≤ X.heap.size by omega))).mono ?_
  rintro e w1 ⟨rfl, hb1⟩
  have hs1 := hb1.size
  have y0 := cell_of_blk (j := 0) ((hb1.block w.heap.size (by omega)).trans HX.out.1) rfl
  have y1 := cell_of_blk (j := 0) ((hb1.block (w.heap.size + 1) (by omega)).trans HX.out.2) rfl
  have HB1 := Lib.hid (HBX.out.trans (hb1.mono (by omega)))
  have hww : w.heap.size < w1.heap.size := by omega
  have hww1 : w.heap.size + 1 < w1.heap.size := by omega
  have hle : (n : Int) ≤ (m : Int) := by omega
  clear hb1
  go_wp2_with (go_at_call 34; refine (out_no _ _ _ _ (by omega) (by omega)).mono ?_; rintro e w' ⟨rfl, rfl⟩)
  have HB2 := Lib.hid (HB1.out.alloc (by omega) (.cells #[.int .i64 (n : Int)] 3))
  refine (cloneS_any l n c A _ HN.out (by omega) HA.out ((HR.out.below HB2.out).mono (by simp; omega))).mono ?_
  rintro e w2 ⟨v2, rfl, hown2, hb2⟩
  have HB3 := Lib.hid (HB2.out.trans (hb2.mono (by simp; omega)))
  have HO2 := Lib.hid (own_mono hown2 (show w.heap.size ≤ (w1.alloc (.cells #[.int .i64 (n : Int)] 3)).heap.size by simp; omega))
  obtain ⟨A2, c2, rfl⟩ := own_slice hown2
  clear hown2 hb2 y0 y1
  go_wp2_with (fail)
  go_ret2
  exact ⟨_, rfl, HO2.out, HB3.out⟩
end Go.Proofs.YtnmgfnnkcenfeaaGreatDoor
