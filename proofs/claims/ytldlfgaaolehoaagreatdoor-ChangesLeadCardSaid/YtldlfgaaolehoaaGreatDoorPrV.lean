/- fleetref2.ValueFault at right values: it answers a number. -/
import Derived.Test.YtldlfgaaolehoaaGreatDoorPrU
import Derived.Test.YtldlfgaaolehoaaGreatDoorPrE
import Derived.Test.YtldlfgaaolehoaaGreatDoorLayGw
namespace Go.Proofs.YtldlfgaaolehoaaGreatDoor
open Go.RowKit Go.Shelf

theorem printed1_any (x : Nat) (hx : x ≤ 1114111) (w : World) : Calls Tryz.prog 248 #[.int .i32 x] w fun e w' => e = .returned (.bool (decide ((x : Int) < 32) || ((x : Int) == 127))) ∧ Below w.heap.size w w' := by
  by_cases h1 : (x : Int) < 32
  · go_enter Tryz.func248, Tryz.ntmps248
    go_wp2_with (fail)
    go_ret
    exact ⟨by rw [decide_eq_true h1]; rfl, Below.refl _ _⟩
  · go_enter Tryz.func248, Tryz.ntmps248
    go_wp2_with (fail)
    go_ret
    exact ⟨by rw [decide_eq_false (show ¬ ((x : Int) < 32) by omega)]; rfl, Below.refl _ _⟩
theorem containsR_any (s : ByteArray) (w : World) : Calls Tryz.prog 247 #[.string s, .func (.func 248) #[] #[]] w fun e w' => AnsB e ∧ Below w.heap.size w w' := by
  have eg : ∀ args w, (callFunc 248 args).run Tryz.prog w = .ok (.enter 248 args) w := enters_of Tryz.func248 (by kernel_rfl) rfl
  refine (Any.strings_ContainsFunc_grows layGw 248 #[] eg (fun x => decide ((x : Int) < 32) || ((x : Int) == 127)) s w ?_).mono ?_
  · intro W x hx _
    exact printed1_any x hx W
  · rintro e w' ⟨h, hb⟩
    exact ⟨⟨_, h⟩, hb⟩
theorem printed_any (w : World) (s : ByteArray) (hs : s.size ≤ 1000) (hv : Lib.validD s.data.toList = true) (hT : U8T w) : Calls Tryz.prog 188 #[.string s] w fun e w' => AnsB e ∧ Below w.heap.size w w' := by
  have HV := Lib.hid (valid_at s w hs hv hT)
  clear hT hv
  go_enter Tryz.func188, Tryz.ntmps188
  go_wp2_with (fail)
  refine HV.out.mono ?_
  rintro e w1 ⟨rfl, hb1⟩
  have HB := Lib.hid hb1
  clear hb1 HV
  go_wp2_with (fail)
  refine (containsR_any s w1).mono ?_
  rintro e w2 ⟨⟨b, rfl⟩, hb2⟩
  have HB2 := Lib.hid (HB.out.trans (hb2.mono HB.out.size))
  clear hb2
  go_wp2_with (fail)
  go_ret
  exact ⟨⟨_, rfl⟩, HB2.out⟩
theorem printed_wd (i : Nat) (w : World) (hT : U8T w) : Calls Tryz.prog 188 #[.string (wdT i)] w fun e w' => AnsB e ∧ Below w.heap.size w w' := by
  refine printed_any w (wdT i) (by have := wdT_size i; omega) ?_ hT
  match i with
  | 0 => decide
  | 1 => decide
  | 2 => decide
  | 3 => decide
  | 4 => decide
  | _ + 5 => exact (by decide : Lib.validD (wdT 5).data.toList = true)
/-- It answers a number. -/
def AnsI (e : Ending) : Prop := ∃ z : Int, e = .returned (.int .i64 z)
set_option maxRecDepth 100000 in
set_option maxHeartbeats 1000000 in
theorem vf2_flag (b : Bool) (w : World) (hT : U8T w) : Calls Tryz.prog 117 #[.agg #[.int .i64 1, .bool b, .int .i64 0, .string ⟨#[]⟩]] w fun e w' => AnsI e ∧ Below w.heap.size w w' := by
  have HP := Lib.hid (fun V (hV : Below w.heap.size w V) => printed_wd 0 V (hT.below hV))
  simp only [wdT] at HP
  clear hT
  go_enter Tryz.func117, Tryz.ntmps117
  go_wp2_with (go_at_call 187; refine (in_yes2 _ _ _ (by omega) (by omega) _).mono ?_; rintro e w' ⟨rfl, rfl⟩)
  refine (HP.out _ (((Below.refl _ _).alloc (Nat.le_refl _) _).alloc (by simp) _)).mono ?_
  rintro e w1 ⟨⟨b, rfl⟩, hb⟩
  have HB := Lib.hid (((((Below.refl _ _).alloc (Nat.le_refl _) _).alloc (by simp) _)).trans (hb.mono (by simp; omega)))
  clear hb
  cases b
  · go_wp2_with (fail)
    go_ret
    exact ⟨⟨_, rfl⟩, HB.out⟩
  · go_wp2_with (fail)
    go_ret
    exact ⟨⟨_, rfl⟩, HB.out⟩
set_option maxRecDepth 100000 in
set_option maxHeartbeats 1000000 in
theorem vf2_number (t : Int) (w : World) (h1 : -1000000000 ≤ t) (h2 : t ≤ 1000000000) (hT : U8T w) : Calls Tryz.prog 117 #[.agg #[.int .i64 2, .bool false, .int .i64 t, .string ⟨#[]⟩]] w fun e w' => AnsI e ∧ Below w.heap.size w w' := by
  have HP := Lib.hid (fun V (hV : Below w.heap.size w V) => printed_wd 0 V (hT.below hV))
  simp only [wdT] at HP
  clear hT
  go_enter Tryz.func117, Tryz.ntmps117
  go_wp2_with (go_at_call 187; refine (in_yes2 _ _ _ (by omega) (by omega) _).mono ?_; rintro e w' ⟨rfl, rfl⟩)
  refine (HP.out _ (((Below.refl _ _).alloc (Nat.le_refl _) _).alloc (by simp) _)).mono ?_
  rintro e w1 ⟨⟨b, rfl⟩, hb⟩
  have HB := Lib.hid (((((Below.refl _ _).alloc (Nat.le_refl _) _).alloc (by simp) _)).trans (hb.mono (by simp; omega)))
  clear hb
  cases b
  · go_wp2_with (fail)
    go_ret
    exact ⟨⟨_, rfl⟩, HB.out⟩
  · go_wp2_with (fail)
    go_ret
    exact ⟨⟨_, rfl⟩, HB.out⟩
set_option maxRecDepth 100000 in
set_option maxHeartbeats 1000000 in
theorem vf2_words (i : Nat) (w : World) (hT : U8T w) : Calls Tryz.prog 117 #[.agg #[.int .i64 3, .bool false, .int .i64 0, .string (wdT i)]] w fun e w' => AnsI e ∧ Below w.heap.size w w' := by
  have hsz := wdT_size i
  have hszI : ¬ ((wdT i).size : Int) > 1000 := by omega
  have hszI2 : ¬ (1000 : Int) < ((wdT i).size : Int) := by omega
  have HP := Lib.hid (fun V (hV : Below w.heap.size w V) => printed_wd i V (hT.below hV))
  clear hT
  go_enter Tryz.func117, Tryz.ntmps117
  go_wp2_with (go_at_call 187; refine (in_yes2 _ _ _ (by omega) (by omega) _).mono ?_; rintro e w' ⟨rfl, rfl⟩)
  refine (HP.out _ (((Below.refl _ _).alloc (Nat.le_refl _) _).alloc (by simp) _)).mono ?_
  rintro e w1 ⟨⟨b, rfl⟩, hb⟩
  have HB := Lib.hid (((((Below.refl _ _).alloc (Nat.le_refl _) _).alloc (by simp) _)).trans (hb.mono (by simp; omega)))
  clear hb
  cases b
  · go_wp2_with (fail)
    go_ret
    exact ⟨⟨_, rfl⟩, HB.out⟩
  · go_wp2_with (fail)
    go_ret
    exact ⟨⟨_, rfl⟩, HB.out⟩
theorem vf2_any (v : Pv) (w : World) (hv : PvOk v) (hT : U8T w) : Calls Tryz.prog 117 #[.agg #[.int .i64 v.k, .bool v.f, .int .i64 v.n, .string v.s]] w fun e w' => AnsI e ∧ Below w.heap.size w w' := by
  obtain ⟨k, f, n, s⟩ := v
  rcases hv with ⟨h1, h2, h3⟩ | ⟨h1, h2, h3, h4, h5⟩ | ⟨h1, h2, h3, i, h4, h5⟩
  · simp only at h1 h2 h3
    subst h1 h2 h3
    exact vf2_flag f w hT
  · simp only at h1 h2 h3 h4 h5
    subst h1 h2 h3
    exact vf2_number n w h4 h5 hT
  · simp only at h1 h2 h3 h5
    subst h1 h2 h3 h5
    exact vf2_words i w hT
end Go.Proofs.YtldlfgaaolehoaaGreatDoor
