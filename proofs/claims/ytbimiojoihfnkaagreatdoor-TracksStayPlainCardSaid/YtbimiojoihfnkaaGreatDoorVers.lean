/- ParseVersion at 1.2.3: Split, Number, Atoi at what it asks. -/
import Derived.Test.YtbimiojoihfnkaaGreatDoorBase
namespace Go.Proofs.YtbimiojoihfnkaaGreatDoor
open Go.RowKit

set_option maxRecDepth 100000 in
theorem lindexByte_any (s : ByteArray) (c : Int) (w : World) :
    Calls Tryz.prog 328 #[.string s, .int .u8 c] w fun e w' => e = .returned (.int .i64 (Lib.indexByte s.data.toList c.toNat.toUInt8)) ∧ w = w' := by
  go_enter Tryz.func328, Tryz.ntmps328
  go_wp2
  rw [run_callFunc_extern Tryz.func339 (by kernel_rfl) (by kernel_rfl) (by kernel_rfl) (e := Extern.BytealgIndexByte.indexByte) (by kernel_rfl), Lib.run_indexByteString]
  simp only [Result.andThen]
  rw [Oper.upon_value]
  go_wp2
  go_ret
  exact ⟨rfl, rfl⟩

/-- Index of a point. -/
theorem index_dot (s : ByteArray) (i : Int) (w : World) (hne : ([46] == s.toList) = false) (hi : Lib.indexByte s.data.toList 46 = i) :
    Calls Tryz.prog 261 #[.string s, .string ⟨#[46]⟩] w fun e w' => e = .returned (.int .i64 i) ∧ w = w' := by
  have H := Lib.hid hi
  clear hi
  go_enter Tryz.func261, Tryz.ntmps261
  go_wp2_with (fail)
  go_enter Tryz.func305, Tryz.ntmps305
  go_wp2_with (go_at_call 328; refine (lindexByte_any _ _ _).mono ?_; rintro e w' ⟨rfl, rfl⟩)
  go_ret
  exact ⟨ret_int H.out, rfl⟩

set_option maxRecDepth 100000 in
theorem count_dot (s : ByteArray) (w : World) :
    Calls Tryz.prog 260 #[.string s, .string ⟨#[46]⟩] w fun e w' => e = .returned (.int .i64 (Lib.countByte s.data.toList 46 : Int)) ∧ w = w' := by
  go_enter Tryz.func260, Tryz.ntmps260
  go_wp2
  rw [run_callFunc_extern Tryz.func304 (by kernel_rfl) (by kernel_rfl) (by kernel_rfl) (e := Extern.BytealgCount.count) (by kernel_rfl), Lib.run_countString]
  simp only [Result.andThen]
  rw [Oper.upon_value]
  go_wp2
  go_ret
  exact ⟨rfl, rfl⟩

set_option maxRecDepth 100000 in
set_option maxHeartbeats 1000000 in
/-- The three parts of 1.2.3. -/
theorem split_123 (w : World) :
    Calls Tryz.prog 141 #[.string ⟨#[49, 46, 50, 46, 51]⟩, .string ⟨#[46]⟩] w fun e w' => e = .returned (.slice (some ⟨w.heap.size, 0, none⟩) 3 3) ∧ w'.heap[w.heap.size]? = some (.cells #[.string ⟨#[49]⟩, .string ⟨#[50]⟩, .string ⟨#[51]⟩] 9) ∧ Below w.heap.size w w' := by
  have hc : Lib.countByte (⟨#[49, 46, 50, 46, 51]⟩ : ByteArray).data.toList 46 = 2 := by decide
  have e1 : (⟨#[49, 46, 50, 46, 51]⟩ : ByteArray).extract 0 1 = ⟨#[49]⟩ := by decide
  have e2 : (⟨#[49, 46, 50, 46, 51]⟩ : ByteArray).extract 2 5 = ⟨#[50, 46, 51]⟩ := by decide
  have e3 : (⟨#[50, 46, 51]⟩ : ByteArray).extract 0 1 = ⟨#[50]⟩ := by decide
  have e4 : (⟨#[50, 46, 51]⟩ : ByteArray).extract 2 3 = ⟨#[51]⟩ := by decide
  have hmk : ∀ w : World, (Instr.makeSlice 48 (.int .i64 3) (.int .i64 3)).run Tryz.prog w = .ok (.slice (some ⟨w.heap.size, 0, none⟩) 3 3) (w.alloc (.cells #[.string ⟨#[]⟩, .string ⟨#[]⟩, .string ⟨#[]⟩] 9)) := fun _ => by kernel_rfl
  go_enter Tryz.func141, Tryz.ntmps141
  go_wp2_with (fail)
  go_enter Tryz.func200, Tryz.ntmps200
  go_wp2_with (fail)
  refine (count_dot _ _).mono ?_
  rw [hc]
  rintro e w' ⟨rfl, rfl⟩
  go_wp2_with (fail)
  refine wp_loop_rounds 3 ?_
  rw [rounds_succ]
  go_wp2_with (fail)
  refine (index_dot _ 1 _ (by rw [Lib.toList_data]; decide) (by decide)).mono ?_
  rintro e w' ⟨rfl, rfl⟩
  go_wp2_with (fail)
  rw [rounds_succ]
  go_wp2_with (fail)
  refine (index_dot _ 1 _ (by rw [Lib.toList_data]; decide) (by decide)).mono ?_
  rintro e w' ⟨rfl, rfl⟩
  go_wp2_with (fail)
  rw [rounds_succ]
  go_wp2_with (fail)
  go_ret
  exact ⟨rfl, heap_new w _, (Below.refl _ _).alloc (Nat.le_refl _) _⟩
end Go.Proofs.YtbimiojoihfnkaaGreatDoor
