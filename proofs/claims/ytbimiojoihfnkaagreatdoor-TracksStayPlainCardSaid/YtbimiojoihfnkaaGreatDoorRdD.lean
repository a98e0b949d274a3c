/- twin.names, Differ at nothing and the flag a. -/
import Derived.Test.YtbimiojoihfnkaaGreatDoorRdC
namespace Go.Proofs.YtbimiojoihfnkaaGreatDoor
open Go.RowKit

theorem Tryz.infoStr : (Tryz.prog.info? 9).map (fun i => (i.zero, i.size, i.bytes)) = some (some (.string ⟨#[]⟩), 1, 16) := by kernel_rfl

set_option maxRecDepth 100000 in
set_option maxHeartbeats 2000000 in
theorem names_a (b q : Nat) (w : World) (hb : APr w b) (hq : w.heap[q]? = some (.cells #[.slice none 0 0, .slice (some ⟨b, 0, none⟩) 1 1] 69)) :
    Calls Tryz.prog 90 #[.slice (some ⟨q, 0, none⟩) 2 2] w fun e w' => ∃ g c, e = .returned (.slice (some ⟨g, 0, none⟩) 1 c) ∧ w'.cell? ⟨g, 0, none⟩ = some (.string ⟨#[97]⟩) ∧ Below w.heap.size w w' := by
  obtain ⟨i0, hi, hz0, hz1, hz2⟩ := info_parts Tryz.infoStr
  have hlt := hb.lt
  have hqlt := (Array.getElem?_eq_some_iff.1 hq).1
  have q0 := cell_of_blk (j := 0) hq rfl
  have q1 := cell_of_blk (j := 1) hq rfl
  have c0 := cell_of_blk (j := 0) hb rfl
  have c1 := cell_of_blk (j := 1) hb rfl
  have c2 := cell_of_blk (j := 2) hb rfl
  have c3 := cell_of_blk (j := 3) hb rfl
  have c4 := cell_of_blk (j := 4) hb rfl
  clear hb hq
  go_enter Tryz.func90, Tryz.ntmps90
  go_wp2_with (fail)
  refine wp_loop_rounds 3 ?_
  rw [rounds_succ]
  go_wp2_with (fail)
  refine wp_loop_rounds 1 ?_
  rw [rounds_succ]
  go_wp2_with (fail)
  rw [rounds_succ]
  go_wp2_with (fail)
  refine wp_loop_rounds 2 ?_
  rw [rounds_succ]
  have HO0 := Lib.hid (World.ownsRow_nil (w.alloc (.cells #[.string ⟨#[97]⟩, .int .i64 1, .bool false, .int .i64 0, .string ⟨#[]⟩] 81)) w.heap.size 9 1)
  have HBw := Lib.hid ((Below.refl w.heap.size w).alloc (Nat.le_refl _) (.cells #[.string ⟨#[97]⟩, .int .i64 1, .bool false, .int .i64 0, .string ⟨#[]⟩] 81))
  go_wp2_with (at_builtin; refine wpList_append_own _ rfl _ _ 48 rfl w.heap.size 9 i0 (.string ⟨#[]⟩) 1 16 Tryz.underlying48 hi hz0 hz1 hz2 rfl (by decide) _ _ _ rfl (HO0.out.alloc _) ⟨w.heap.size + 1, 0, none⟩ 1 1 [.string ⟨#[97]⟩] rfl rfl ?a1 ?a2 ?a3 ?a4 ?a5 ?_)
  case a1 => exact cells_add (by have := Cells.new (w.alloc (.cells #[.string ⟨#[97]⟩, .int .i64 1, .bool false, .int .i64 0, .string ⟨#[]⟩] 81)) #[.string ⟨#[97]⟩] 9 (0, 0) [.string ⟨#[97]⟩] rfl; simpa using this)
  case a2 => intro u hu; simp at hu; subst hu; rfl
  case a3 => unfold maxLen; omega
  case a4 => omega
  case a5 => simp; omega
  intro v2 w2 hown2 hgr2 _
  obtain ⟨g, c, rfl⟩ : ∃ g c, v2 = .slice (some ⟨g, 0, none⟩) 1 c := by
    rcases hown2.2 with ⟨_, h⟩ | ⟨g, cap, cur, hv, _⟩
    · simp at h
    · exact ⟨g, cap, hv⟩
  have hcell := hown2.cellAt 0 (by omega)
  have HB2 := Lib.hid (HBw.out.grown (grown_of_alloc hgr2) (by simp) (fun g hg => by simp [Value.ownBlock] at hg))
  clear hown2 hgr2
  have HC := Lib.hid hcell
  clear hcell
  go_wp2_with (fail)
  rw [rounds_succ]
  go_wp2_with (fail)
  rw [rounds_succ]
  go_wp2_with (first | (go_at_call 161; refine (sort_1 _ _ _).mono ?_; rintro e w' ⟨rfl, rfl⟩) | (go_at_call 162; refine (compact_1 _ _ _).mono ?_; rintro e w' ⟨rfl, rfl⟩))
  go_ret
  exact ⟨_, _, rfl, by simpa using HC.out, HB2.out⟩

set_option maxRecDepth 100000 in
set_option maxHeartbeats 2000000 in
/-- What Differ makes of nothing and the flag a: one change. -/
theorem differ_a (b : Nat) (w : World) (hb : APr w b) :
    Calls Tryz.prog 27 #[.slice none 0 0, .slice (some ⟨b, 0, none⟩) 1 1] w fun e w' => ∃ A c, e = .returned (.tuple #[.slice A 1 c, .int .i64 0]) ∧ Below w.heap.size w w' := by
  have HA := Lib.hid hb
  clear hb
  go_enter Tryz.func27, Tryz.ntmps27
  go_wp2_with (fail)
  refine (checkProps_nil _).mono ?_
  rintro e w1 ⟨rfl, hb1⟩
  have hs1 := hb1.size
  have HA1 := Lib.hid (HA.out.keep hb1)
  have HB1 := Lib.hid hb1
  clear hb1
  go_wp2_with (fail)
  refine (checkProps_a b _ HA1.out).mono ?_
  rintro e w2 ⟨rfl, hb2⟩
  have hs2 := hb2.size
  have HA2 := Lib.hid ((HA1.out.keep hb2).alloc (.cells #[.int .i64 0, .int .i64 0] 31))
  have HB2 := Lib.hid ((HB1.out.trans (hb2.mono hs1)).alloc (by omega) (.cells #[.int .i64 0, .int .i64 0] 31))
  have HF := Lib.hid (Cells.new w2 #[.int .i64 0, .int .i64 0] 31 (0, 0) (List.replicate 2 (.int .i64 0)) rfl)
  clear hb2
  go_wp2_with (go_at_call 88; refine (first_ok 2 2 _ _ (by omega) HF.out).mono ?_; rintro e w' ⟨rfl, rfl⟩)
  generalize hW : w2.alloc (.cells #[.int .i64 0, .int .i64 0] 31) = W at HA2 HB2 ⊢
  have hWs : W.heap.size = w2.heap.size + 1 := by rw [← hW]; simp
  clear hW HF
  have HA3 := Lib.hid (HA2.out.alloc (.cells #[.slice none 0 0, .slice (some ⟨b, 0, none⟩) 1 1] 69))
  have HB3 := Lib.hid (HB2.out.alloc (by omega) (.cells #[.slice none 0 0, .slice (some ⟨b, 0, none⟩) 1 1] 69))
  have HQ := Lib.hid (show (W.alloc (.cells #[.slice none 0 0, .slice (some ⟨b, 0, none⟩) 1 1] 69)).heap[w2.heap.size + 1]? = some (.cells #[.slice none 0 0, .slice (some ⟨b, 0, none⟩) 1 1] 69) by rw [← hWs]; exact heap_new W _)
  refine (names_a b (w2.heap.size + 1) _ HA3.out HQ.out).mono ?_
  rintro e w4 ⟨g, c, rfl, hc, hb4⟩
  have hs4 := hb4.size
  simp only [World.size_alloc] at hs4
  have hg4 := World.block_lt_of_cell? w4 _ hc
  simp only at hg4
  have HA4 := Lib.hid (HA3.out.keep hb4)
  have HB4 := Lib.hid (HB3.out.trans (hb4.mono (by simp; omega)))
  clear hb4 HA3 HB3 HQ
  go_wp2_with (fail)
  refine wp_loop_rounds 2 ?_
  rw [rounds_succ]
  go_wp2_with (fail)
  refine (valueOf_nil _).mono ?_
  rintro e w5 ⟨rfl, hb5⟩
  have hs5 := hb5.size
  have HA5 := Lib.hid (HA4.out.keep hb5)
  have HB5 := Lib.hid (HB4.out.trans (hb5.mono (by omega)))
  clear hb5 hc
  go_wp2_with (fail)
  refine (valueOf_a b _ HA5.out).mono ?_
  rintro e w6 ⟨rfl, hb6⟩
  have hs6 := hb6.size
  have HB6 := Lib.hid (HB5.out.trans (hb6.mono (by omega)))
  clear hb6
  go_wp2_with (fail)
  rw [rounds_succ]
  go_wp2_with (fail)
  go_ret2
  refine ⟨_, _, rfl, ?_⟩
  exact ((((HB6.out.alloc (by omega) _).alloc (by simp; omega) _).alloc (by simp; omega) _).alloc (by simp; omega) _).drew
end Go.Proofs.YtbimiojoihfnkaaGreatDoor
