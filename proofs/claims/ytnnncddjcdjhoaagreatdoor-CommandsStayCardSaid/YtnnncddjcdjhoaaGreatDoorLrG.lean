/- Key, Unmarked, CheckLetter of any texts: they say something. -/
import Derived.Test.YtnnncddjcdjhoaaGreatDoorLrA
import Derived.Test.YtnnncddjcdjhoaaGreatDoorOfC
namespace Go.Proofs.YtnnncddjcdjhoaaGreatDoor
open Go.RowKit Go.Shelf

theorem empty_text {s : ByteArray} (h : s.toList.isEmpty = true) : s = ⟨#[]⟩ := by
  have h2 : s.data.toList = [] := by rw [← Lib.toList_data]; simpa using h
  cases s with
  | mk data =>
    have : data = #[] := Array.toList_inj.1 h2
    rw [this]
theorem size_text {s : ByteArray} (h : s.toList.isEmpty = false) : 0 < s.size := by
  have h2 : s.toList.length = s.size := by rw [Lib.toList_data]; simp
  cases hl : s.toList with
  | nil => rw [hl] at h; simp at h
  | cons x l => rw [hl] at h2; simp at h2; omega
def YesNo (e : Ending) : Prop := ∃ b : Bool, e = .returned (.bool b)
set_option maxHeartbeats 1000000 in
theorem key_b (s : ByteArray) (w : World) (hs : s.size ≤ 2000) : Calls Tryz.prog 67 #[.string s] w fun e w' => YesNo e ∧ w = w' := by
  cases hem : s.toList.isEmpty with
  | true =>
    have he := empty_text hem
    subst he
    go_enter Tryz.func67, Tryz.ntmps67
    go_wp2
    go_ret
    exact ⟨⟨_, rfl⟩, rfl⟩
  | false =>
    have h0 := size_text hem
    by_cases h1 : s.size ≤ 40
    · obtain ⟨c0, ec0⟩ : ∃ c : Int, c = ((s[0]'h0).toNat : Int) := ⟨_, rfl⟩
      by_cases hg1 : (97 : Int) ≤ ((s[0]'h0).toNat : Int)
      · by_cases hg2 : ((s[0]'h0).toNat : Int) ≤ 122
        · clear ec0
          go_enter Tryz.func67, Tryz.ntmps67
          go_wp2
          go_loop [24] (fun i => ∃ k : Nat, k ≤ s.size ∧ i = .int .i64 k) (fun i => s.size - (intOf i).toNat)
          case atStart => exact ⟨0, Nat.zero_le _, rfl⟩
          case round =>
            obtain ⟨k, hk, rfl⟩ := hrel
            by_cases hlt : k < s.size
            · skip
              go_wp2
              all_goals first
                | (go_ret; exact ⟨⟨_, rfl⟩, rfl⟩)
                | (go_round
                   · exact ⟨k + 1, by omega, by go_num⟩
                   · simp [intOf]; omega)
            · go_wp2
              go_ret
              exact ⟨⟨_, rfl⟩, rfl⟩
        · clear ec0
          go_enter Tryz.func67, Tryz.ntmps67
          go_wp2
          go_ret
          exact ⟨⟨_, rfl⟩, rfl⟩
      · clear ec0
        go_enter Tryz.func67, Tryz.ntmps67
        go_wp2
        go_ret
        exact ⟨⟨_, rfl⟩, rfl⟩
    · have h2 : (40 : Int) < s.size := by omega
      go_enter Tryz.func67, Tryz.ntmps67
      go_wp2
      go_ret
      exact ⟨⟨_, rfl⟩, rfl⟩
theorem unm_b (s : ByteArray) (w : World) (hs : s.size ≤ 2000) (hT : U8T w) : Calls Tryz.prog 68 #[.string s] w fun e w' => YesNo e ∧ Below w.heap.size w w' := by
  have HV := Lib.hid (Any.utf8_ValidString lay196 s w (by omega) hT)
  clear hT
  go_enter Tryz.func68, Tryz.ntmps68
  go_wp2
  go_loop [6] (fun i => ∃ k : Nat, k ≤ s.size ∧ i = .int .i64 k) (fun i => s.size - (intOf i).toNat)
  case atStart => exact ⟨0, Nat.zero_le _, rfl⟩
  case round =>
    obtain ⟨k, hk, rfl⟩ := hrel
    by_cases hlt : k < s.size
    · go_wp2
      all_goals first
        | (go_ret; exact ⟨⟨_, rfl⟩, Below.refl _ _⟩)
        | (go_round
           · exact ⟨k + 1, by omega, by go_num⟩
           · simp [intOf]; omega)
    · go_wp2_with (fail)
      refine HV.out.mono ?_
      rintro e w1 ⟨rfl, hb⟩
      have HB := Lib.hid hb
      clear hb
      go_wp2_with (fail)
      go_ret
      exact ⟨⟨_, rfl⟩, HB.out⟩
theorem out_b (n lo hi : Int) (w : World) : Calls Tryz.prog 44 #[.int .i64 n, .int .i64 lo, .int .i64 hi] w fun e w' => YesNo e ∧ w = w' := by
  by_cases h : n < lo ∨ hi < n
  · exact (out_yes n lo hi w h).mono fun _ _ h => ⟨⟨_, h.1⟩, h.2⟩
  · exact (out_no n lo hi w (by omega) (by omega)).mono fun _ _ h => ⟨⟨_, h.1⟩, h.2⟩
theorem moment_b (n : Int) (w : World) : Calls Tryz.prog 51 #[.int .i64 n] w fun e w' => YesNo e ∧ w = w' := by
  have HO := Lib.hid (fun V => out_b n 0 345686399999 V)
  go_enter Tryz.func51, Tryz.ntmps51
  go_wp2_with (fail)
  refine (HO.out w).mono ?_
  rintro e w' ⟨⟨b, rfl⟩, rfl⟩
  go_wp2_with (fail)
  go_ret
  exact ⟨⟨_, rfl⟩, rfl⟩
def CkPost (w : World) (e : Ending) (w' : World) : Prop := (∃ z, e = .returned (.int .i64 z)) ∧ Below w.heap.size w w'
set_option maxRecDepth 100000 in
set_option maxHeartbeats 2000000 in
theorem checkLetter_b (l : Lr) (w : World) (hl : LrK l) (hT : U8T w) :
    Calls Tryz.prog 33 #[.agg #[.string l.id, .string l.sl, .string l.bo, .int .i64 l.pr, .int .i64 l.at_, .int .i64 l.un]] w fun e w' => CkPost w e w' := by
  obtain ⟨h1, h2, h3⟩ := hl
  obtain ⟨ix, sx, bx, pr, at_, un⟩ := l
  simp only at h1 h2 h3 ⊢
  obtain ⟨g, eg⟩ : ∃ g, g = w.heap.size := ⟨_, rfl⟩
  obtain ⟨w1, e1⟩ : ∃ V : World, V = w.alloc (.cells #[.string ix, .string sx, .string bx, .int .i64 pr, .int .i64 at_, .int .i64 un] 35) := ⟨_, rfl⟩
  have hb1 : Below w.heap.size w w1 := by rw [e1]; exact (Below.refl _ _).alloc (Nat.le_refl _) _
  have hg1 : w1.heap[g]? = some (.cells #[.string ix, .string sx, .string bx, .int .i64 pr, .int .i64 at_, .int .i64 un] 35 (0, 0)) := by rw [e1, eg]; exact heap_new w _
  have hlg := (Array.getElem?_eq_some_iff.1 hg1).1
  have k0 := cell_of_blk (j := 0) hg1 rfl
  have k1 := cell_of_blk (j := 1) hg1 rfl
  have k2 := cell_of_blk (j := 2) hg1 rfl
  have HB1 := Lib.hid hb1
  have HU1 := Lib.hid (unm_b bx w1 h3 (hT.below hb1))
  have HG1 := Lib.hid hg1
  have HK0 := Lib.hid (fun V => key_b ix V h1)
  have HK1 := Lib.hid (fun V => key_b sx V h2)
  have HF1 := Lib.hid (fun z => show CkPost w (.returned (.int .i64 z)) w1 from ⟨⟨z, rfl⟩, hb1⟩)
  clear hT hb1 hg1 h1 h2
  go_enter Tryz.func33, Tryz.ntmps33
  go_upto_region 1 with (fail)
  rw [← eg, ← e1]
  clear eg e1
  go_cut [3] (fun s wx => (∃ b : Bool, s = .bool b) ∧ wx = w1)
  case first =>
    go_wp2_with (fail)
    refine (HK0.out w1).mono ?_
    rintro e w' ⟨⟨b, rfl⟩, rfl⟩
    cases b with
    | false =>
      go_wp2_with (fail)
      go_meet
      exact ⟨⟨_, rfl⟩, rfl⟩
    | true =>
      cases hem : sx.toList.isEmpty with
      | true =>
        have he := empty_text hem
        subst he
        clear hem
        go_wp2_with (fail)
        go_meet
        exact ⟨⟨_, rfl⟩, rfl⟩
      | false =>
        go_wp2_with (fail)
        refine (HK1.out w1).mono ?_
        rintro e w' ⟨⟨b, rfl⟩, rfl⟩
        go_wp2_with (fail)
        go_meet
        exact ⟨⟨_, rfl⟩, rfl⟩
  case rest =>
    obtain ⟨⟨b, rfl⟩, rfl⟩ := hcut
    cases b with
    | true =>
      go_wp2_with (fail)
      go_ret
      exact HF1.out _
    | false =>
      by_cases h4 : 1000 < (bx.size : Int)
      · go_wp2_with (fail)
        go_ret
        exact HF1.out _
      · go_wp2_with (fail)
        refine HU1.out.mono ?_
        rintro e w2 ⟨⟨b, rfl⟩, hb2⟩
        have hg2 := (hb2.block g hlg).trans HG1.out
        have hlg2 := (Array.getElem?_eq_some_iff.1 hg2).1
        clear k0 k1 k2
        have k3 := cell_of_blk (j := 3) hg2 rfl
        have k4 := cell_of_blk (j := 4) hg2 rfl
        have k5 := cell_of_blk (j := 5) hg2 rfl
        have HF2 := Lib.hid (fun z => show CkPost w (.returned (.int .i64 z)) w2 from ⟨⟨z, rfl⟩, HB1.out.trans (hb2.mono HB1.out.size)⟩)
        clear hb2 hg2
        cases b with
        | false =>
          go_wp2_with (fail)
          go_ret
          exact HF2.out _
        | true =>
          go_wp2_with (fail)
          refine (out_b pr 0 9 w2).mono ?_
          rintro e w' ⟨⟨b, rfl⟩, rfl⟩
          cases b with
          | true =>
            go_wp2_with (fail)
            go_ret
            exact HF2.out _
          | false =>
            go_wp2_with (fail)
            refine (moment_b at_ w2).mono ?_
            rintro e w' ⟨⟨b, rfl⟩, rfl⟩
            cases b with
            | false =>
              go_wp2_with (fail)
              go_ret
              exact HF2.out _
            | true =>
              go_wp2_with (fail)
              all_goals (go_ret; exact HF2.out _)
end Go.Proofs.YtnnncddjcdjhoaaGreatDoor
