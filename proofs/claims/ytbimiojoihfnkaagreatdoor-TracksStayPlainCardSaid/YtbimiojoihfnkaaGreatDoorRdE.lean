/- command.Order of one letter. -/
import Derived.Test.YtbimiojoihfnkaaGreatDoorRdB
import Derived.Lib.SliceRun
namespace Go.Proofs.YtbimiojoihfnkaaGreatDoor
open Go.RowKit

theorem insL_1 (A : Option Addr) (c : Nat) (f : Value) (w : World) : Calls Tryz.prog 243 #[.slice A 1 c, .int .i64 0, .int .i64 1, f] w fun e w' => e = .returned (.tuple #[]) ∧ w = w' := by
  go_enter Tryz.func243, Tryz.ntmps243
  go_wp2_with (fail)
  refine wp_loop_rounds 1 ?_
  rw [rounds_succ]
  go_wp2_with (fail)
  go_end0
  exact ⟨rfl, rfl⟩
theorem pdqL_1 (A : Option Addr) (c : Nat) (f : Value) (w : World) : Calls Tryz.prog 196 #[.slice A 1 c, .int .i64 0, .int .i64 1, .int .i64 1, f] w fun e w' => e = .returned (.tuple #[]) ∧ w = w' := by
  go_enter Tryz.func196, Tryz.ntmps196
  go_wp2_with (fail)
  refine wp_loop_rounds 1 ?_
  rw [rounds_succ]
  go_wp2_with (go_at_call 243; refine (insL_1 _ _ _ _).mono ?_; rintro e w' ⟨rfl, rfl⟩)
  exact bodyPost_ret (results_none rfl _ _ _) rfl ⟨rfl, rfl⟩
theorem sortL_1 (A : Option Addr) (c : Nat) (f : Value) (w : World) : Calls Tryz.prog 130 #[.slice A 1 c, f] w fun e w' => e = .returned (.tuple #[]) ∧ w = w' := by
  go_enter Tryz.func130, Tryz.ntmps130
  go_wp2_with (first | (go_at_call 150; refine (len_1 _).mono ?_; rintro e w' ⟨rfl, rfl⟩) | (go_at_call 196; refine (pdqL_1 _ _ _ _).mono ?_; rintro e w' ⟨rfl, rfl⟩))
  go_end0
  exact ⟨rfl, rfl⟩
theorem idxL_0 (A : Option Addr) (c : Nat) (f : Value) (w : World) : Calls Tryz.prog 133 #[.slice A 0 c, f] w fun e w' => e = .returned (.int .i64 (-1)) ∧ w = w' := by
  go_enter Tryz.func133, Tryz.ntmps133
  go_wp2_with (fail)
  refine wp_loop_rounds 1 ?_
  rw [rounds_succ]
  go_wp2_with (fail)
  go_ret
  exact ⟨rfl, rfl⟩
theorem hasL_0 (A : Option Addr) (c : Nat) (f : Value) (w : World) : Calls Tryz.prog 55 #[.slice A 0 c, f] w fun e w' => e = .returned (.bool false) ∧ w = w' := by
  go_enter Tryz.func55, Tryz.ntmps55
  go_wp2_with (go_at_call 133; refine (idxL_0 _ _ _ _).mono ?_; rintro e w' ⟨rfl, rfl⟩)
  go_ret
  exact ⟨rfl, rfl⟩

set_option maxRecDepth 100000 in
set_option maxHeartbeats 1000000 in
theorem checkLetter_a (w : World) : Calls Tryz.prog 72 #[.agg #[.string ⟨#[97]⟩, .string ⟨#[]⟩, .string ⟨#[]⟩, .int .i64 0, .int .i64 0, .int .i64 5]] w fun e w' => e = .returned (.int .i64 0) ∧ Below w.heap.size w w' := by
  go_enter Tryz.func72, Tryz.ntmps72
  go_wp2_with (first | (go_at_call 107; refine (key_yes _ _ (by kernel_rfl)).mono ?_; rintro e w' ⟨rfl, rfl⟩) | (go_at_call 73; refine (moment_yes _ _ (by omega) (by omega)).mono ?_; rintro e w' ⟨rfl, rfl⟩) | (go_at_call 65; refine (out_no _ _ _ _ (by omega) (by omega)).mono ?_; rintro e w' ⟨rfl, rfl⟩) | (go_at_call 145; refine (unmarked_empty _).mono ?_; rintro e w' ⟨rfl, rfl⟩))
  go_ret
  exact ⟨rfl, (Below.refl _ _).alloc (Nat.le_refl _) _⟩

/-- Block b is the letter a. -/
def ALt (w : World) (b : Nat) : Prop := w.heap[b]? = some (.cells #[.string ⟨#[97]⟩, .string ⟨#[]⟩, .string ⟨#[]⟩, .int .i64 0, .int .i64 0, .int .i64 5] 46)
theorem ALt.lt {w : World} {b : Nat} (h : ALt w b) : b < w.heap.size := (Array.getElem?_eq_some_iff.1 h).1
theorem ALt.keep {w w' : World} {b : Nat} (h : ALt w b) (hb : Below w.heap.size w w') : ALt w' b := (hb.block b h.lt).trans h

theorem Tryz.infoLt : (Tryz.prog.info? 46).map (fun i => (i.zero, i.size, i.bytes)) = some (some (.agg #[.string ⟨#[]⟩, .string ⟨#[]⟩, .string ⟨#[]⟩, .int .i64 0, .int .i64 0, .int .i64 0]), 6, 72) := by kernel_rfl
set_option maxRecDepth 100000 in
set_option maxHeartbeats 1000000 in
theorem cloneL_any (b off n c : Nat) (xs : List Value) (w : World) (hl : xs.length = n * 6) (h1 : ∀ u ∈ xs, u.oneCell' = true) (hn : n ≤ 1000000) (hc : Cells w b off xs) :
    Calls Tryz.prog 132 #[.slice (some ⟨b, off, none⟩) n c] w fun e w' => ∃ v', e = .returned v' ∧ w'.ownsRow w.heap.size 46 6 v' n xs ∧ Below w.heap.size w w' := by
  obtain ⟨i0, hi, hz0, hz1, hz2⟩ := info_parts Tryz.infoLt
  have q22 : ∀ (w : World) (a : Option Addr) (n c n' c' : Nat), (binOp .eql 47 (.slice a n c) (.slice none n' c')).run Tryz.prog w = .ok (.bool a.isNone) w := fun w a n c n' c' => Lib.run_eql_slice_nil w _ _ a n c n' c' Tryz.underlying47
  have HC := Lib.hid hc
  have H1 := Lib.hid h1
  have HL := Lib.hid hl
  clear hc h1 hl
  go_enter Tryz.func132, Tryz.ntmps132
  go_wp2_with (at_builtin; refine wpList_append_own _ rfl _ _ 47 rfl w.heap.size 46 i0 _ 6 72 Tryz.underlying47 hi hz0 hz1 hz2 rfl (by decide) _ _ _ rfl (World.ownsRow_made w #[] 0 (Nat.le_refl _) (Nat.zero_le _) rfl) ⟨b, off, none⟩ n c xs rfl ?qc1 ?qc2 ?qc3 ?qc4 ?qc5 ?qc6 ?_)
  case qc1 => exact HL.out
  case qc2 =>
    intro j u hj
    rw [Addr.add_lit]
    exact Lib.cell?_alloc_some _ (HC.out j u hj)
  case qc3 => exact H1.out
  case qc4 => unfold maxLen; omega
  case qc5 => omega
  case qc6 => simp
  intro v' w1 hown hgrow hnil
  go_wp2
  go_ret
  refine ⟨v', rfl, by simpa using hown, ?_⟩
  exact ((Below.refl _ w).alloc (Nat.le_refl _) _).grown hgrow (by simp) (by intro k hk; simp [Value.ownBlock] at hk; omega)

set_option maxRecDepth 100000 in
set_option maxHeartbeats 2000000 in
/-- Order of one letter: one letter. -/
theorem order_a (b : Nat) (w : World) (hb : ALt w b) :
    Calls Tryz.prog 70 #[.slice (some ⟨b, 0, none⟩) 1 1] w fun e w' => ∃ A c, e = .returned (.tuple #[.slice A 1 c, .int .i64 0]) ∧ Below w.heap.size w w' := by
  have hlt := hb.lt
  have c0 := cell_of_blk (j := 0) hb rfl
  have c1 := cell_of_blk (j := 1) hb rfl
  have c2 := cell_of_blk (j := 2) hb rfl
  have c3 := cell_of_blk (j := 3) hb rfl
  have c4 := cell_of_blk (j := 4) hb rfl
  have c5 := cell_of_blk (j := 5) hb rfl
  have HA := Lib.hid hb
  clear hb
  go_enter Tryz.func70, Tryz.ntmps70
  go_wp2_with (fail)
  refine wp_loop_rounds 2 ?_
  rw [rounds_succ]
  go_wp2_with (fail)
  refine (checkLetter_a _).mono ?_
  rintro e w1 ⟨rfl, hb1⟩
  have hs1 := hb1.size
  simp only [World.size_alloc] at hs1
  have HB1 := Lib.hid (((Below.refl w.heap.size w).alloc (Nat.le_refl _) (.cells #[.string ⟨#[97]⟩, .string ⟨#[]⟩, .string ⟨#[]⟩, .int .i64 0, .int .i64 0, .int .i64 5] 46)).trans (hb1.mono (by simp)))
  clear hb1 c0 c1 c2 c3 c4 c5
  have HA1 := HA.out.keep HB1.out
  have c0 := cell_of_blk (j := 0) HA1 rfl
  have c1 := cell_of_blk (j := 1) HA1 rfl
  have c2 := cell_of_blk (j := 2) HA1 rfl
  have c3 := cell_of_blk (j := 3) HA1 rfl
  have c4 := cell_of_blk (j := 4) HA1 rfl
  have c5 := cell_of_blk (j := 5) HA1 rfl
  clear HA1
  go_wp2_with (go_at_call 55; refine (hasL_0 _ _ _ _).mono ?_; rintro e w' ⟨rfl, rfl⟩)
  rw [rounds_succ]
  go_wp2_with (fail)
  refine (cloneL_any b 0 1 1 [.string ⟨#[97]⟩, .string ⟨#[]⟩, .string ⟨#[]⟩, .int .i64 0, .int .i64 0, .int .i64 5] w1 rfl ?_ (by omega) (fun j v hv => cell_of_blk (HA.out.keep HB1.out) (by simpa using hv))).mono ?_
  · intro u hu; simp at hu; rcases hu with rfl | rfl | rfl | rfl <;> rfl
  rintro e w2 ⟨v2, rfl, hown2, hb2⟩
  obtain ⟨A, c, rfl⟩ := own_slice hown2
  have HB2 := Lib.hid (HB1.out.trans (hb2.mono (by omega)))
  clear hb2 c0 c1 c2 c3 c4 c5
  go_wp2_with (go_at_call 130; refine (sortL_1 _ _ _ _).mono ?_; rintro e w' ⟨rfl, rfl⟩)
  go_ret2
  exact ⟨_, _, rfl, HB2.out⟩
end Go.Proofs.YtbimiojoihfnkaaGreatDoor
