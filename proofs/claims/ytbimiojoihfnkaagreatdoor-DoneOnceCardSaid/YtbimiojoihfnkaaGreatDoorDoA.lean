/- What a device remembers: NewDoer, CheckLetter, Clone, the look-up, each by its contract. -/
import Derived.Test.YtbimiojoihfnkaaGreatDoorRdA
import Derived.Test.YtbimiojoihfnkaaGreatDoorDoP
import Derived.Lib.SliceRun
namespace Go.Proofs.YtbimiojoihfnkaaGreatDoor
open Go.RowKit

theorem newDoer_any (r : Int) (w : World) (h1 : 1 ≤ r) (h2 : r ≤ 1000) : Calls Tryz.prog 16 #[.int .i64 r] w fun e w' =>
    ∃ g, e = .returned (.tuple #[.pointer (some ⟨g, 0, none⟩), .int .i64 0]) ∧ w.heap.size ≤ g ∧ w'.heap[g]? = some (.cells #[.int .i64 r, .slice none 0 0, .int .i64 0] 145 (0, 0)) ∧ Below w.heap.size w w' := by
  go_enter Tryz.func16, Tryz.ntmps16
  go_wp2_with (go_at_call 65; refine (out_no _ _ _ _ (by omega) (by omega)).mono ?_; rintro e w' ⟨rfl, rfl⟩)
  go_ret2
  exact ⟨_, rfl, Nat.le_refl _, heap_new w _, (Below.refl _ _).alloc (Nat.le_refl _) _⟩

/-- A letter of the law as a value. -/
def ltV (i : Nat) : Value := .agg #[.string (ltId i), .string ⟨#[]⟩, .string ⟨#[]⟩, .int .i64 0, .int .i64 0, .int .i64 (ltU i)]
theorem ltId_key {i : Nat} (hi : i < 5) : isKey (ltId i) = true := by
  have : i = 0 ∨ i = 1 ∨ i = 2 ∨ i = 3 ∨ i = 4 := by omega
  rcases this with rfl | rfl | rfl | rfl | rfl <;> decide

set_option maxRecDepth 100000 in
set_option maxHeartbeats 1000000 in
theorem checkLetter_i (i : Nat) (hi : i < 5) (w : World) : Calls Tryz.prog 72 #[ltV i] w fun e w' => e = .returned (.int .i64 0) ∧ Below w.heap.size w w' := by
  have HK := Lib.hid (ltId_key hi)
  have hu := ltU_range hi
  unfold ltV
  generalize ltId i = id at HK ⊢
  generalize ltU i = u at hu ⊢
  clear hi
  have h1 : ¬ u ≤ 0 := by omega
  have h2 : ¬ 345686400000 < u := by omega
  go_enter Tryz.func72, Tryz.ntmps72
  go_wp2_with (first | (go_at_call 107; refine (key_yes _ _ HK.out).mono ?_; rintro e w' ⟨rfl, rfl⟩) | (go_at_call 73; refine (moment_yes _ _ (by omega) (by omega)).mono ?_; rintro e w' ⟨rfl, rfl⟩) | (go_at_call 65; refine (out_no _ _ _ _ (by omega) (by omega)).mono ?_; rintro e w' ⟨rfl, rfl⟩) | (go_at_call 145; refine (unmarked_empty _).mono ?_; rintro e w' ⟨rfl, rfl⟩))
  go_ret
  exact ⟨rfl, (Below.refl _ _).alloc (Nat.le_refl _) _⟩

theorem Tryz.infoDn : (Tryz.prog.info? 148).map (fun i => (i.zero, i.size, i.bytes)) = some (some (.agg #[.string ⟨#[]⟩, .int .i64 0]), 2, 24) := by kernel_rfl
set_option maxRecDepth 100000 in
set_option maxHeartbeats 1000000 in
theorem cloneD_some (b off n c : Nat) (xs : List Value) (w : World) (hl : xs.length = n * 2) (h1 : ∀ u ∈ xs, u.oneCell' = true) (hn : n ≤ 1000000) (hc : Cells w b off xs) :
    Calls Tryz.prog 76 #[.slice (some ⟨b, off, none⟩) n c] w fun e w' => ∃ v', e = .returned v' ∧ w'.ownsRow w.heap.size 148 2 v' n xs ∧ Below w.heap.size w w' := by
  obtain ⟨i0, hi, hz0, hz1, hz2⟩ := info_parts Tryz.infoDn
  have q22 : ∀ (w : World) (a : Option Addr) (n c n' c' : Nat), (binOp .eql 143 (.slice a n c) (.slice none n' c')).run Tryz.prog w = .ok (.bool a.isNone) w := fun w a n c n' c' => Lib.run_eql_slice_nil w _ _ a n c n' c' Tryz.underlying143
  have HC := Lib.hid hc
  have H1 := Lib.hid h1
  have HL := Lib.hid hl
  clear hc h1 hl
  go_enter Tryz.func76, Tryz.ntmps76
  go_wp2_with (at_builtin; refine wpList_append_own _ rfl _ _ 143 rfl w.heap.size 148 i0 _ 2 24 Tryz.underlying143 hi hz0 hz1 hz2 rfl (by decide) _ _ _ rfl (World.ownsRow_made w #[] 0 (Nat.le_refl _) (Nat.zero_le _) rfl) ⟨b, off, none⟩ n c xs rfl ?qc1 ?qc2 ?qc3 ?qc4 ?qc5 ?qc6 ?_)
  case qc1 => exact HL.out
  case qc2 =>
    intro j u hj
    rw [Addr.add_lit]
    exact Lib.cell?_alloc_some _ (HC.out j u hj)
  case qc3 => exact H1.out
  case qc4 => unfold maxLen; omega
  case qc5 => omega
  case qc6 => simp
  intro v' w1 hown hgrow hnil
  go_wp2
  go_ret
  refine ⟨v', rfl, by simpa using hown, ?_⟩
  exact ((Below.refl _ w).alloc (Nat.le_refl _) _).grown hgrow (by simp) (by intro k hk; simp [Value.ownBlock] at hk; omega)
theorem cloneD_nil (n c : Nat) (w : World) : Calls Tryz.prog 76 #[.slice none n c] w fun e w' => e = .returned (.slice none 0 0) ∧ w = w' := by
  have q22 : ∀ (w : World) (a : Option Addr) (n c n' c' : Nat), (binOp .eql 143 (.slice a n c) (.slice none n' c')).run Tryz.prog w = .ok (.bool a.isNone) w := fun w a n c n' c' => Lib.run_eql_slice_nil w _ _ a n c n' c' Tryz.underlying143
  go_enter Tryz.func76, Tryz.ntmps76
  go_wp2
  go_ret
  exact ⟨rfl, rfl⟩

/-- A slice of n elements lies in memory: nil, or in a block that is there. -/
def Lies (w : World) (A : Option Addr) (n c : Nat) (xs : List Value) : Prop := (A = none ∧ n = 0 ∧ c = 0 ∧ xs = []) ∨ ∃ b o, A = some ⟨b, o, none⟩ ∧ b < w.heap.size ∧ Cells w b o xs
theorem Lies.below {w w' : World} {A : Option Addr} {n c : Nat} {xs : List Value} (h : Lies w A n c xs) (hb : Below w.heap.size w w') : Lies w' A n c xs := by
  rcases h with h | ⟨b, o, e, hlt, hc⟩
  · exact .inl h
  · exact .inr ⟨b, o, e, by have := hb.size; omega, hc.keep (hb.block b hlt)⟩
theorem own_lies {w : World} {base : Nat} {e : TypeId} {size n : Nat} {A : Option Addr} {c : Nat} {xs : List Value} (h : w.ownsRow base e size (.slice A n c) n xs) : Lies w A n c xs := by
  rcases own_two h with ⟨rfl, rfl, rfl⟩ | ⟨g, rfl, _, hlt⟩
  · exact .inl ⟨rfl, rfl, rfl, List.eq_nil_of_length_eq_zero (by rw [h.1]; simp)⟩
  · rcases own_row h with hx | ⟨b, o, e, hb, hc⟩
    · subst hx
      exact .inr ⟨g, 0, rfl, hlt, fun j v hv => by simp at hv⟩
    · exact .inr ⟨b, o, e, hb, hc⟩
theorem cloneD_any (L : List Nat) (n c : Nat) (A : Option Addr) (w : World) (hn : L.length = n) (hn2 : n ≤ 5000) (hr : Lies w A n c (recs dnC L)) :
    Calls Tryz.prog 76 #[.slice A n c] w fun e w' => ∃ v', e = .returned v' ∧ w'.ownsRow w.heap.size 148 2 v' n (recs dnC L) ∧ Below w.heap.size w w' := by
  rcases hr with ⟨rfl, rfl, rfl, hx⟩ | ⟨b, o, rfl, hb, hc⟩
  · refine (cloneD_nil 0 0 w).mono ?_
    rintro e w' ⟨rfl, rfl⟩
    exact ⟨_, rfl, by rw [hx]; exact World.ownsRow_nil _ _ _ _, Below.refl _ _⟩
  · exact cloneD_some b o n c _ w (by rw [recs_length dnC_len, hn]) (recs_one dnC_one L) (by omega) hc

theorem ltId_beq {i j : Nat} (hi : i < 5) (hj : j < 5) : ((ltId i).toList == (ltId j).toList) = decide (i = j) := by
  rw [Lib.toList_data, Lib.toList_data]
  have : (i = 0 ∨ i = 1 ∨ i = 2 ∨ i = 3 ∨ i = 4) ∧ (j = 0 ∨ j = 1 ∨ j = 2 ∨ j = 3 ∨ j = 4) := by omega
  obtain ⟨h1, h2⟩ := this
  rcases h1 with rfl | rfl | rfl | rfl | rfl <;> rcases h2 with rfl | rfl | rfl | rfl | rfl <;> decide
theorem do1_any (id id' : ByteArray) (u : Int) (q : Nat) (w : World) (h0 : w.cell? ⟨q, 0, none⟩ = some (.string id)) :
    Calls Tryz.prog 75 #[.agg #[.string id', .int .i64 u], .pointer (some ⟨q, 0, none⟩)] w fun e w' => e = .returned (.bool (id'.toList == id.toList)) ∧ Below w.heap.size w w' := by
  have hq := World.block_lt_of_cell? w _ h0
  simp only at hq
  go_enter Tryz.func75, Tryz.ntmps75
  go_wp2_with (fail)
  go_ret
  exact ⟨rfl, (Below.refl _ _).alloc (Nat.le_refl _) _⟩

set_option maxRecDepth 100000 in
set_option maxHeartbeats 1000000 in
theorem idxD_some (L : List Nat) (i q n c b o : Nat) (w : World) (hn : L.length = n) (hn5 : n ≤ 5000) (hb : b < w.heap.size) (hc : Cells w b o (recs dnC L)) (h0 : w.cell? ⟨q, 0, none⟩ = some (.string (ltId i))) (hi : i < 5) (h5 : ∀ j ∈ L, j < 5) :
    Calls Tryz.prog 146 #[.slice (some ⟨b, o, none⟩) n c, .func (.func 75) #[] #[.pointer (some ⟨q, 0, none⟩)]] w fun e w' => (∃ r : Int, e = .returned (.int .i64 r) ∧ -1 ≤ r ∧ r ≤ 5000 ∧ (0 ≤ r ↔ i ∈ L)) ∧ Below w.heap.size w w' := by
  have hq := World.block_lt_of_cell? w _ h0
  simp only at hq
  have HC := Lib.hid hc
  have H0 := Lib.hid h0
  have H5 := Lib.hid h5
  clear hc h0 h5
  go_enter Tryz.func146, Tryz.ntmps146
  go_wp2_with (fail)
  go_loopw [8] (fun s wr => ∃ k : Nat, k ≤ n ∧ s = .int .i64 k ∧ i ∉ L.take k ∧ Below w.heap.size w wr) (fun s _ => n - (intOf s).toNat)
  case atStart => exact ⟨0, Nat.zero_le _, rfl, by simp, Below.refl _ _⟩
  case round =>
    obtain ⟨k, hk, rfl, hno, hbl⟩ := hrel
    have hsz := hbl.size
    have HNO := Lib.hid hno
    clear hno
    by_cases hlt : k < n
    · obtain ⟨x, hx⟩ : ∃ x, L[k]? = some x := ⟨_, List.getElem?_eq_getElem (by omega)⟩
      have hcr := HC.out.keep (hbl.block b hb)
      have c0 := rec_cell dnC_len hcr k x hx 0 _ rfl
      have c1 := rec_cell dnC_len hcr k x hx 1 _ rfl
      simp only [Nat.add_zero] at c0
      have hx5 := H5.out x (List.mem_of_getElem? hx)
      have hxm := List.mem_of_getElem? hx
      have HTK := Lib.hid (show L.take (k + 1) = L.take k ++ [x] by rw [List.take_add_one, hx]; rfl)
      have HBL := Lib.hid hbl
      have HCALL := Lib.hid (do1_any (ltId i) (ltId x) (ltU x) q wr ((hbl.cell (p := ⟨q, 0, none⟩) hq).trans H0.out))
      have hlt' : (k : Int) < (n : Int) := by omega
      by_cases e : x = i
      · subst e
        have HM := Lib.hid hxm
        clear hbl hcr hx hxm
        rw [ltId_beq hx5 hx5, decide_eq_true rfl] at HCALL
        go_wp2_with (fail)
        refine HCALL.out.mono ?_
        rintro e w' ⟨rfl, hbw⟩
        have HB3 := Lib.hid (show Below w.heap.size w w' from (HBL.out).trans (hbw.mono hsz))
        clear hbw
        go_wp2_with (fail)
        go_ret
        exact ⟨⟨_, rfl, by omega, by omega, fun _ => HM.out, fun _ => by omega⟩, HB3.out⟩
      · have HNE := Lib.hid e
        clear hbl hcr hx hxm
        rw [ltId_beq hx5 hi, decide_eq_false e] at HCALL
        clear e
        go_wp2_with (fail)
        refine HCALL.out.mono ?_
        rintro e w' ⟨rfl, hbw⟩
        have HB3 := Lib.hid (show Below w.heap.size w w' from (HBL.out).trans (hbw.mono hsz))
        clear hbw
        go_wp2_with (fail)
        go_roundw
        case rel => exact ⟨k + 1, by omega, by go_num, by rw [HTK.out]; simp [HNO.out, Ne.symm HNE.out], HB3.out⟩
        case measure => simp [intOf]; omega
    · have HBL := Lib.hid hbl
      have hkn : k = n := by omega
      subst hkn
      rw [List.take_of_length_le (by omega)] at HNO
      clear hbl
      go_wp2_with (fail)
      go_ret
      exact ⟨⟨_, rfl, by omega, by omega, fun h => by omega, fun h => absurd h HNO.out⟩, HBL.out⟩
theorem idxD_nil (A : Option Addr) (c : Nat) (f : Value) (w : World) : Calls Tryz.prog 146 #[.slice A 0 c, f] w fun e w' => e = .returned (.int .i64 (-1)) ∧ w = w' := by
  go_enter Tryz.func146, Tryz.ntmps146
  go_wp2_with (fail)
  refine wp_loop_rounds 1 ?_
  rw [rounds_succ]
  go_wp2_with (fail)
  go_ret
  exact ⟨rfl, rfl⟩
theorem hasD_any (L : List Nat) (i q n c : Nat) (A : Option Addr) (w : World) (hn : L.length = n) (hn5 : n ≤ 5000) (hr : Lies w A n c (recs dnC L)) (h0 : w.cell? ⟨q, 0, none⟩ = some (.string (ltId i))) (hi : i < 5) (h5 : ∀ j ∈ L, j < 5) :
    Calls Tryz.prog 74 #[.slice A n c, .func (.func 75) #[] #[.pointer (some ⟨q, 0, none⟩)]] w fun e w' => e = .returned (.bool (decide (i ∈ L))) ∧ Below w.heap.size w w' := by
  have H : Hid (Calls Tryz.prog 146 #[.slice A n c, .func (.func 75) #[] #[.pointer (some ⟨q, 0, none⟩)]] w fun e w' => (∃ r : Int, e = .returned (.int .i64 r) ∧ -1 ≤ r ∧ r ≤ 5000 ∧ (0 ≤ r ↔ i ∈ L)) ∧ Below w.heap.size w w') := by
    refine Lib.hid ?_
    rcases hr with ⟨rfl, rfl, rfl, hx⟩ | ⟨b, o, rfl, hb, hc⟩
    · obtain rfl : L = [] := List.eq_nil_of_length_eq_zero hn
      refine (idxD_nil none 0 _ w).mono ?_
      rintro e w' ⟨rfl, rfl⟩
      exact ⟨⟨-1, rfl, by omega, by omega, by simp⟩, Below.refl _ _⟩
    · exact idxD_some L i q n c b o w hn hn5 hb hc h0 hi h5
  clear hr h0 h5
  go_enter Tryz.func74, Tryz.ntmps74
  go_wp2_with (fail)
  refine H.out.mono ?_
  rintro e w' ⟨⟨r, rfl, hr1, hr2, hr3⟩, hbw⟩
  have HB := Lib.hid hbw
  have HR := Lib.hid (show Value.bool (decide (0 ≤ r)) = Value.bool (decide (i ∈ L)) by rw [decide_eq_decide.2 hr3])
  clear hbw hr3
  go_wp2_with (fail)
  go_ret
  exact ⟨ret_val HR.out, HB.out⟩
end Go.Proofs.YtbimiojoihfnkaaGreatDoor
