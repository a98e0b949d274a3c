/- slices.Clone and slices.Equal of properties by their contracts. -/
import Derived.Test.YtkcpfppjdjkjeaaGreatDoorMgB
import Derived.Test.YtkcpfppjdjkjeaaGreatDoorPrEq
namespace Go.Proofs.YtkcpfppjdjkjeaaGreatDoor
open Go.RowKit

theorem Tryz.infoP : (Tryz.prog.info? 37).map (fun i => (i.zero, i.size, i.bytes)) = some (some (.agg #[.string ⟨#[]⟩, .int .i64 0, .bool false, .int .i64 0, .string ⟨#[]⟩]), 5, 56) := by kernel_rfl
set_option maxRecDepth 100000 in
set_option maxHeartbeats 1000000 in
theorem cloneP_some (b off n c : Nat) (xs : List Value) (w : World) (hl : xs.length = n * 5) (h1 : ∀ u ∈ xs, u.oneCell' = true) (hn : n ≤ 1000000) (hc : Cells w b off xs) :
    Calls Tryz.prog 26 #[.slice (some ⟨b, off, none⟩) n c] w fun e w' => ∃ v', e = .returned v' ∧ w'.ownsRow w.heap.size 37 5 v' n xs ∧ Below w.heap.size w w' := by
  obtain ⟨i0, hi, hz0, hz1, hz2⟩ := info_parts Tryz.infoP
  have q22 : ∀ (w : World) (a : Option Addr) (n c n' c' : Nat), (binOp .eql 28 (.slice a n c) (.slice none n' c')).run Tryz.prog w = .ok (.bool a.isNone) w := fun w a n c n' c' => Lib.run_eql_slice_nil w _ _ a n c n' c' Tryz.underlying28
  have HC := Lib.hid hc
  have H1 := Lib.hid h1
  have HL := Lib.hid hl
  clear hc h1 hl
  go_enter Tryz.func26, Tryz.ntmps26
  go_wp2_with (at_builtin; refine wpList_append_own _ rfl _ _ 28 rfl w.heap.size 37 i0 _ 5 56 Tryz.underlying28 hi hz0 hz1 hz2 rfl (by decide) _ _ _ rfl (World.ownsRow_made w #[] 0 (Nat.le_refl _) (Nat.zero_le _) rfl) ⟨b, off, none⟩ n c xs rfl ?qc1 ?qc2 ?qc3 ?qc4 ?qc5 ?qc6 ?_)
  case qc1 => exact HL.out
  case qc2 =>
    intro j u hj
    rw [Addr.add_lit]
    exact Lib.cell?_alloc_some _ (HC.out j u hj)
  case qc3 => exact H1.out
  case qc4 => unfold maxLen; omega
  case qc5 => omega
  case qc6 => simp
  intro v' w1 hown hgrow hnil
  go_wp2
  go_ret
  refine ⟨v', rfl, by simpa using hown, ?_⟩
  exact ((Below.refl _ w).alloc (Nat.le_refl _) _).grown hgrow (by simp) (by intro k hk; simp [Value.ownBlock] at hk; omega)
theorem cloneP_nil (n c : Nat) (w : World) : Calls Tryz.prog 26 #[.slice none n c] w fun e w' => e = .returned (.slice none 0 0) ∧ w = w' := by
  have q22 : ∀ (w : World) (a : Option Addr) (n c n' c' : Nat), (binOp .eql 28 (.slice a n c) (.slice none n' c')).run Tryz.prog w = .ok (.bool a.isNone) w := fun w a n c n' c' => Lib.run_eql_slice_nil w _ _ a n c n' c' Tryz.underlying28
  go_enter Tryz.func26, Tryz.ntmps26
  go_wp2
  go_ret
  exact ⟨rfl, rfl⟩
theorem cloneP_any (l : List Pr) (n c base : Nat) (A : Option Addr) (w : World) (hn : l.length = n) (hn2 : n ≤ 5000) (ho : w.ownsRow base 37 5 (.slice A n c) n (recs prC l)) :
    Calls Tryz.prog 26 #[.slice A n c] w fun e w' => ∃ v', e = .returned v' ∧ w'.ownsRow w.heap.size 37 5 v' n (recs prC l) ∧ Below w.heap.size w w' := by
  rcases own_two ho with ⟨rfl, rfl, rfl⟩ | ⟨g, rfl, hb, hlt⟩
  · obtain rfl : l = [] := List.eq_nil_of_length_eq_zero hn
    refine (cloneP_nil 0 0 w).mono ?_
    rintro e w' ⟨rfl, rfl⟩
    exact ⟨_, rfl, by simpa [recs] using World.ownsRow_nil _ _ _ _, Below.refl _ _⟩
  · by_cases h0 : l = []
    · subst h0
      simp only [List.length_nil] at hn
      subst hn
      exact cloneP_some g 0 0 c (recs prC []) w rfl (by simp [recs]) (by omega) (fun j v hv => by simp [recs] at hv)
    · obtain ⟨b', o', e', _, hC⟩ := (own_row ho).posR prC_len (by omega) (List.length_pos_iff.2 h0)
      cases e'
      exact cloneP_some g 0 n c (recs prC l) w (by rw [recs_length prC_len, hn]) (recs_one prC_one l) (by omega) hC
end Go.Proofs.YtkcpfppjdjkjeaaGreatDoor
