/- fleetref2.ValueFault at right values: it answers a number. -/
import Derived.Test.YtkcpfppjdjkjeaaGreatDoorPrU
import Derived.Test.YtkcpfppjdjkjeaaGreatDoorMgB
import Derived.Test.YtkcpfppjdjkjeaaGreatDoorLayGw
namespace Go.Proofs.YtkcpfppjdjkjeaaGreatDoor
open Go.RowKit Go.Shelf

theorem printed1_any (x : Nat) (hx : x ≤ 1114111) (w : World) : Calls Tryz.prog 142 #[.int .i32 x] w fun e w' => e = .returned (.bool (decide ((x : Int) < 32) || ((x : Int) == 127))) ∧ Below w.heap.size w w' := by
  by_cases h1 : (x : Int) < 32
  · go_enter Tryz.func142, Tryz.ntmps142
    go_wp2_with (fail)
    go_ret
    exact ⟨by rw [decide_eq_true h1]; rfl, Below.refl _ _⟩
  · go_enter Tryz.func142, Tryz.ntmps142
    go_wp2_with (fail)
    go_ret
    exact ⟨by rw [decide_eq_false (show ¬ ((x : Int) < 32) by omega)]; rfl, Below.refl _ _⟩
/-- It holds a rune that is not printed. -/
def ctR (s : ByteArray) : Bool := decide (0 ≤ Lib.idxFunc (fun x => decide ((x : Int) < 32) || ((x : Int) == 127)) true s)
theorem containsR_any (s : ByteArray) (w : World) : Calls Tryz.prog 141 #[.string s, .func (.func 142) #[] #[]] w fun e w' => e = .returned (.bool (ctR s)) ∧ Below w.heap.size w w' := by
  have eg : ∀ args w, (callFunc 142 args).run Tryz.prog w = .ok (.enter 142 args) w := enters_of Tryz.func142 (by kernel_rfl) rfl
  refine (Any.strings_ContainsFunc_grows layGw 142 #[] eg (fun x => decide ((x : Int) < 32) || ((x : Int) == 127)) s w ?_).mono ?_
  · intro W x hx _
    exact printed1_any x hx W
  · rintro e w' ⟨h, hb⟩
    exact ⟨h, hb⟩
theorem printed_any (w : World) (s : ByteArray) (hs : s.size ≤ 1000) (hv : Lib.validD s.data.toList = true) (hT : U8T w) : Calls Tryz.prog 111 #[.string s] w fun e w' => e = .returned (.bool (!ctR s)) ∧ Below w.heap.size w w' := by
  have HV := Lib.hid (valid_at s w hs hv hT)
  clear hT hv
  go_enter Tryz.func111, Tryz.ntmps111
  go_wp2_with (fail)
  refine HV.out.mono ?_
  rintro e w1 ⟨rfl, hb1⟩
  have HB := Lib.hid hb1
  clear hb1 HV
  go_wp2_with (fail)
  refine (containsR_any s w1).mono ?_
  obtain ⟨b, eb⟩ : ∃ b, b = ctR s := ⟨_, rfl⟩
  rw [← eb]
  have HEB := Lib.hid eb
  clear eb
  rintro e w2 ⟨rfl, hb2⟩
  have HB2 := Lib.hid (HB.out.trans (hb2.mono HB.out.size))
  clear hb2
  go_wp2_with (fail)
  go_ret
  exact ⟨by rw [← HEB.out]; rfl, HB2.out⟩
theorem printed_wd (i : Nat) (w : World) (hT : U8T w) : Calls Tryz.prog 111 #[.string (wdT i)] w fun e w' => e = .returned (.bool (!ctR (wdT i))) ∧ Below w.heap.size w w' := by
  refine printed_any w (wdT i) (by have := wdT_size i; omega) ?_ hT
  match i with
  | 0 => decide
  | 1 => decide
  | 2 => decide
  | 3 => decide
  | 4 => decide
  | _ + 5 => exact (by decide : Lib.validD (wdT 5).data.toList = true)
/-- It answers a number, 0 just for a text without such runes. -/
def AnsV (s : ByteArray) (e : Ending) : Prop := ∃ z : Int, e = .returned (.int .i64 z) ∧ (z = 0 ↔ ctR s = false)
theorem AnsV.yes {s : ByteArray} {b : Bool} (h : b = !ctR s) (hb : b = true) : AnsV s (.returned (.int .i64 0)) := ⟨0, rfl, by rw [hb] at h; simpa using h⟩
theorem AnsV.no {s : ByteArray} {b : Bool} {z : Int} (h : b = !ctR s) (hb : b = false) (hz : z ≠ 0) : AnsV s (.returned (.int .i64 z)) := ⟨z, rfl, by rw [hb] at h; simp [hz] at h ⊢; exact h⟩
set_option maxRecDepth 100000 in
set_option maxHeartbeats 1000000 in
theorem vf2_flag (b : Bool) (w : World) (hT : U8T w) : Calls Tryz.prog 63 #[.agg #[.int .i64 1, .bool b, .int .i64 0, .string ⟨#[]⟩]] w fun e w' => AnsV ⟨#[]⟩ e ∧ Below w.heap.size w w' := by
  have HP := Lib.hid (fun V (hV : Below w.heap.size w V) => printed_wd 0 V (hT.below hV))
  simp only [wdT] at HP
  clear hT
  go_enter Tryz.func63, Tryz.ntmps63
  go_wp2_with (go_at_call 110; refine (in_yes2 _ _ _ (by omega) (by omega) _).mono ?_; rintro e w' ⟨rfl, rfl⟩)
  refine (HP.out _ (((Below.refl _ _).alloc (Nat.le_refl _) _).alloc (by simp) _)).mono ?_
  obtain ⟨b, eb⟩ : ∃ b : Bool, b = !ctR ⟨#[]⟩ := ⟨_, rfl⟩
  rw [← eb]
  have HEB := Lib.hid eb
  clear eb
  rintro e w1 ⟨rfl, hb⟩
  have HB := Lib.hid (((((Below.refl _ _).alloc (Nat.le_refl _) _).alloc (by simp) _)).trans (hb.mono (by simp; omega)))
  clear hb
  cases b
  · go_wp2_with (fail)
    go_ret
    exact ⟨AnsV.no HEB.out rfl (by decide), HB.out⟩
  · go_wp2_with (fail)
    go_ret
    exact ⟨AnsV.yes HEB.out rfl, HB.out⟩
set_option maxRecDepth 100000 in
set_option maxHeartbeats 1000000 in
theorem vf2_number (t : Int) (w : World) (h1 : -1000000000 ≤ t) (h2 : t ≤ 1000000000) (hT : U8T w) : Calls Tryz.prog 63 #[.agg #[.int .i64 2, .bool false, .int .i64 t, .string ⟨#[]⟩]] w fun e w' => AnsV ⟨#[]⟩ e ∧ Below w.heap.size w w' := by
  have HP := Lib.hid (fun V (hV : Below w.heap.size w V) => printed_wd 0 V (hT.below hV))
  simp only [wdT] at HP
  clear hT
  go_enter Tryz.func63, Tryz.ntmps63
  go_wp2_with (go_at_call 110; refine (in_yes2 _ _ _ (by omega) (by omega) _).mono ?_; rintro e w' ⟨rfl, rfl⟩)
  refine (HP.out _ (((Below.refl _ _).alloc (Nat.le_refl _) _).alloc (by simp) _)).mono ?_
  obtain ⟨b, eb⟩ : ∃ b : Bool, b = !ctR ⟨#[]⟩ := ⟨_, rfl⟩
  rw [← eb]
  have HEB := Lib.hid eb
  clear eb
  rintro e w1 ⟨rfl, hb⟩
  have HB := Lib.hid (((((Below.refl _ _).alloc (Nat.le_refl _) _).alloc (by simp) _)).trans (hb.mono (by simp; omega)))
  clear hb
  cases b
  · go_wp2_with (fail)
    go_ret
    exact ⟨AnsV.no HEB.out rfl (by decide), HB.out⟩
  · go_wp2_with (fail)
    go_ret
    exact ⟨AnsV.yes HEB.out rfl, HB.out⟩
set_option maxRecDepth 100000 in
set_option maxHeartbeats 1000000 in
theorem vf2_words (i : Nat) (w : World) (hT : U8T w) : Calls Tryz.prog 63 #[.agg #[.int .i64 3, .bool false, .int .i64 0, .string (wdT i)]] w fun e w' => AnsV (wdT i) e ∧ Below w.heap.size w w' := by
  have hsz := wdT_size i
  have hszI : ¬ ((wdT i).size : Int) > 1000 := by omega
  have hszI2 : ¬ (1000 : Int) < ((wdT i).size : Int) := by omega
  have HP := Lib.hid (fun V (hV : Below w.heap.size w V) => printed_wd i V (hT.below hV))
  clear hT
  go_enter Tryz.func63, Tryz.ntmps63
  go_wp2_with (go_at_call 110; refine (in_yes2 _ _ _ (by omega) (by omega) _).mono ?_; rintro e w' ⟨rfl, rfl⟩)
  refine (HP.out _ (((Below.refl _ _).alloc (Nat.le_refl _) _).alloc (by simp) _)).mono ?_
  obtain ⟨b, eb⟩ : ∃ b : Bool, b = !ctR (wdT i) := ⟨_, rfl⟩
  rw [← eb]
  have HEB := Lib.hid eb
  clear eb
  rintro e w1 ⟨rfl, hb⟩
  have HB := Lib.hid (((((Below.refl _ _).alloc (Nat.le_refl _) _).alloc (by simp) _)).trans (hb.mono (by simp; omega)))
  clear hb
  cases b
  · go_wp2_with (fail)
    go_ret
    exact ⟨AnsV.no HEB.out rfl (by decide), HB.out⟩
  · go_wp2_with (fail)
    go_ret
    exact ⟨AnsV.yes HEB.out rfl, HB.out⟩
theorem vf2_any (v : Pv) (w : World) (hv : PvOk v) (hT : U8T w) : Calls Tryz.prog 63 #[.agg #[.int .i64 v.k, .bool v.f, .int .i64 v.n, .string v.s]] w fun e w' => AnsV v.s e ∧ Below w.heap.size w w' := by
  obtain ⟨k, f, n, s⟩ := v
  rcases hv with ⟨h1, h2, h3⟩ | ⟨h1, h2, h3, h4, h5⟩ | ⟨h1, h2, h3, i, h4, h5⟩
  · simp only at h1 h2 h3
    subst h1 h2 h3
    exact vf2_flag f w hT
  · simp only at h1 h2 h3 h4 h5
    subst h1 h2 h3
    exact vf2_number n w h4 h5 hT
  · simp only at h1 h2 h3 h5
    subst h1 h2 h3 h5
    exact vf2_words i w hT
end Go.Proofs.YtkcpfppjdjkjeaaGreatDoor
