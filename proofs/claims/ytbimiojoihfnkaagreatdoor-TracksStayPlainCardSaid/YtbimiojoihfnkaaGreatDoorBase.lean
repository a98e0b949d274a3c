/- base.Out, Moment, Window, Key; cmp.Compare, cmp.Or; strings.Compare of equal strings: each by its contract. -/
import Derived.Test.YtbimiojoihfnkaaGreatDoorProg
import Derived.Test.YtbimiojoihfnkaaGreatDoorWords
import Derived.Lib.Bytealg
namespace Go.Proofs.YtbimiojoihfnkaaGreatDoor
open Go.RowKit

theorem out_no (n lo hi : Int) (w : World) (h1 : lo ≤ n) (h2 : n ≤ hi) : Calls Tryz.prog 65 #[.int .i64 n, .int .i64 lo, .int .i64 hi] w fun e w' => e = .returned (.bool false) ∧ w = w' := by
  go_enter Tryz.func65, Tryz.ntmps65
  go_wp2
  go_ret
  exact ⟨by simp; omega, rfl⟩
theorem out_yes (n lo hi : Int) (w : World) (h : n < lo ∨ hi < n) : Calls Tryz.prog 65 #[.int .i64 n, .int .i64 lo, .int .i64 hi] w fun e w' => e = .returned (.bool true) ∧ w = w' := by
  rcases Int.lt_or_le n lo with h1 | h1
  · go_enter Tryz.func65, Tryz.ntmps65
    go_wp2
    go_ret
    exact ⟨rfl, rfl⟩
  · have h2 : hi < n := by omega
    clear h
    go_enter Tryz.func65, Tryz.ntmps65
    go_wp2
    go_ret
    exact ⟨by simp, rfl⟩

theorem moment_yes (n : Int) (w : World) (h1 : 0 ≤ n) (h2 : n < 345686400000) : Calls Tryz.prog 73 #[.int .i64 n] w fun e w' => e = .returned (.bool true) ∧ w = w' := by
  go_enter Tryz.func73, Tryz.ntmps73
  go_wp2_with (go_at_call 65; refine (out_no _ _ _ _ (by omega) (by omega)).mono ?_; rintro e w' ⟨rfl, rfl⟩)
  go_ret
  exact ⟨rfl, rfl⟩

theorem window_yes (a b : Int) (w : World) (h1 : 0 ≤ a) (h2 : a ≤ b) (h3 : b ≤ 345686400000) : Calls Tryz.prog 147 #[.agg #[.int .i64 a, .int .i64 b]] w fun e w' => e = .returned (.bool true) ∧ Below w.heap.size w w' := by
  go_enter Tryz.func147, Tryz.ntmps147
  go_wp2_with (go_at_call 65; refine (out_no _ _ _ _ (by omega) (by omega)).mono ?_; rintro e w' ⟨rfl, rfl⟩)
  go_ret
  exact ⟨rfl, (Below.refl _ _).alloc (Nat.le_refl _) _⟩

theorem isNaN_any (n : Int) (w : World) : Calls Tryz.prog 179 #[.int .i64 n] w fun e w' => e = .returned (.bool false) ∧ w = w' := by
  go_enter Tryz.func179, Tryz.ntmps179
  go_wp2
  go_ret
  exact ⟨by simp, rfl⟩

/-- cmp.Compare's answer. -/
def cmpI (a b : Int) : Int := if a < b then -1 else if b < a then 1 else 0
theorem compare_any (a b : Int) (w : World) : Calls Tryz.prog 187 #[.int .i64 a, .int .i64 b] w fun e w' => e = .returned (.int .i64 (cmpI a b)) ∧ w = w' := by
  obtain ⟨r, hr⟩ : ∃ r, r = cmpI a b := ⟨_, rfl⟩
  rw [← hr]
  have H := Lib.hid hr
  clear hr
  go_enter Tryz.func187, Tryz.ntmps187
  go_wp2_with (go_at_call 179; refine (isNaN_any _ _).mono ?_; rintro e w' ⟨rfl, rfl⟩)
  all_goals (go_ret; refine ⟨ret_int ?_, rfl⟩; rw [H.out]; unfold cmpI)
  · rw [if_pos (by assumption)]
  · rw [if_neg (by omega), if_pos (by omega)]
  · rw [if_neg (by omega), if_neg (by omega)]


theorem compareBytes_self : ∀ l : List UInt8, Lib.compareBytes l l = 0
  | [] => rfl
  | a :: l => by simp [Lib.compareBytes, compareBytes_self l]

set_option maxRecDepth 100000 in
theorem cstring_any (a b : ByteArray) (w : World) :
    Calls Tryz.prog 163 #[.string a, .string b] w fun e w' => e = .returned (.int .i64 (Lib.compareBytes a.data.toList b.data.toList)) ∧ w = w' := by
  go_enter Tryz.func163, Tryz.ntmps163
  go_wp2
  rw [run_callFunc_extern Tryz.func223 (by kernel_rfl) (by kernel_rfl) (by kernel_rfl) (e := Extern.BytealgCompare.compare) (by kernel_rfl), Lib.run_compareString]
  simp only [Result.andThen]
  rw [Oper.upon_value]
  go_wp2
  go_ret
  exact ⟨rfl, rfl⟩
theorem scompare_any (a b : ByteArray) (w : World) : Calls Tryz.prog 94 #[.string a, .string b] w fun e w' => e = .returned (.int .i64 (Lib.compareBytes a.data.toList b.data.toList)) ∧ w = w' := by
  go_enter Tryz.func94, Tryz.ntmps94
  go_wp2_with (go_at_call 163; refine (cstring_any _ _ _).mono ?_; rintro e w' ⟨rfl, rfl⟩)
  go_ret
  exact ⟨rfl, rfl⟩
theorem scompare_same (a : ByteArray) (w : World) : Calls Tryz.prog 94 #[.string a, .string a] w fun e w' => e = .returned (.int .i64 0) ∧ w = w' := by
  have h := scompare_any a a w
  rw [compareBytes_self] at h
  exact h

/-- cmp.Or's answer: the first number that is not 0. -/
def orI : List Int → Int
  | [] => 0
  | x :: l => if x = 0 then orI l else x
theorem or_any (l : List Int) (n c g : Nat) (w : World) (hn : l.length = n) (hb : n ≤ 1000000) (hc : Cells w g 0 (l.map (Value.int .i64))) :
    Calls Tryz.prog 186 #[.slice (some ⟨g, 0, none⟩) n c] w fun e w' => e = .returned (.int .i64 (orI l)) ∧ w = w' := by
  obtain ⟨r, hr⟩ : ∃ r, r = orI l := ⟨_, rfl⟩
  rw [← hr]
  go_enter Tryz.func186, Tryz.ntmps186
  go_wp2
  go_loop [8] (fun i => ∃ k : Nat, k ≤ n ∧ i = .int .i64 k ∧ orI (l.drop k) = r) (fun i => n - (intOf i).toNat)
  case atStart => exact ⟨0, Nat.zero_le _, rfl, by simp [hr]⟩
  case round =>
    obtain ⟨k, hk, rfl, hd⟩ := hrel
    have HD := Lib.hid hd
    clear hd
    by_cases hlt : k < n
    · obtain ⟨x, hx⟩ : ∃ x, l[k]? = some x := ⟨_, List.getElem?_eq_getElem (by omega)⟩
      have hcell := hc k (.int .i64 x) (by simp [hx])
      simp only [Nat.zero_add] at hcell
      have hdr : l.drop k = x :: l.drop (k + 1) := by
        rw [List.drop_eq_getElem_cons (by omega)]; congr 1
        rw [List.getElem?_eq_getElem (by omega)] at hx; injection hx
      have HH := Lib.hid (show (x = 0 → orI (l.drop (k + 1)) = r) ∧ (x ≠ 0 → r = x) by
        have := HD.out; rw [hdr] at this; unfold orI at this
        split at this <;> simp_all)
      clear hc hx hdr hr HD
      go_wp2
      · go_ret
        exact ⟨ret_int (HH.out.2 (by simp_all)).symm, rfl⟩
      · go_round
        case rel => exact ⟨k + 1, by omega, by go_num, HH.out.1 (by simp_all)⟩
        case measure => simp [intOf]; omega
    · have hkn : k = n := by omega
      subst hkn
      have h0 : r = 0 := by have := HD.out; rw [List.drop_of_length_le (by omega)] at this; simpa [orI] using this.symm
      have H0 := Lib.hid h0
      clear h0 hr hc HD
      go_wp2
      go_ret
      exact ⟨ret_int H0.out.symm, rfl⟩

/-! ### keys -/
def keyByte (c : UInt8) : Bool := (97 ≤ c && c ≤ 122) || (48 ≤ c && c ≤ 57) || c == 45 || c == 95
def isKey (s : ByteArray) : Bool := decide (0 < s.size) && decide (s.size ≤ 40) && (97 ≤ s.data.toList.headD 0 && s.data.toList.headD 0 ≤ 122) && s.data.toList.all keyByte

theorem isKey_byte (s : ByteArray) (h : isKey s = true) (j : Nat) (hj : j < s.size) : keyByte s[j] = true := by
  simp only [isKey, Bool.and_eq_true, List.all_eq_true] at h
  exact h.2 _ (by rw [show s[j] = s.data.toList[j] from rfl]; exact List.getElem_mem _)
theorem isKey_first (s : ByteArray) (h : isKey s = true) (hj : 0 < s.size) : 97 ≤ (s[0]'hj).toNat ∧ (s[0]'hj).toNat ≤ 122 := by
  simp only [isKey, Bool.and_eq_true, decide_eq_true_eq] at h
  have e : s.data.toList.headD 0 = s[0]'hj := by
    rw [List.headD_eq_head?_getD, List.head?_eq_getElem?, List.getElem?_eq_getElem (by simpa using hj)]; rfl
  rw [e] at h
  exact ⟨UInt8.le_iff_toNat_le.1 h.1.2.1, UInt8.le_iff_toNat_le.1 h.1.2.2⟩
theorem isKey_size (s : ByteArray) (h : isKey s = true) : 0 < s.size ∧ s.size ≤ 40 := by
  simp only [isKey, Bool.and_eq_true, decide_eq_true_eq] at h
  exact h.1.1
theorem keyByte_cases (c : UInt8) (h : keyByte c = true) : ((97 : Int) ≤ c.toNat ∧ (c.toNat : Int) ≤ 122) ∨ ((48 : Int) ≤ c.toNat ∧ (c.toNat : Int) ≤ 57) ∨ c.toNat = 45 ∨ c.toNat = 95 := by
  simp only [keyByte, Bool.or_eq_true, Bool.and_eq_true, decide_eq_true_eq, beq_iff_eq, UInt8.le_iff_toNat_le] at h
  rcases h with ((⟨h, h'⟩ | ⟨h, h'⟩) | h) | h
  · exact .inl ⟨by exact_mod_cast h, by exact_mod_cast h'⟩
  · exact .inr (.inl ⟨by exact_mod_cast h, by exact_mod_cast h'⟩)
  · subst h; exact .inr (.inr (.inl rfl))
  · subst h; exact .inr (.inr (.inr rfl))

set_option maxHeartbeats 1000000 in
theorem key_yes (s : ByteArray) (w : World) (h : isKey s = true) : Calls Tryz.prog 107 #[.string s] w fun e w' => e = .returned (.bool true) ∧ w = w' := by
  obtain ⟨h0, h1⟩ := isKey_size s h
  obtain ⟨f1, f2⟩ := isKey_first s h h0
  have HB := Lib.hid (fun j hj => keyByte_cases _ (isKey_byte s h j hj))
  have hem : s.toList.isEmpty = false := by
    cases hl : s.toList with
    | nil => have : s.toList.length = s.size := by rw [Lib.toList_data]; simp
             rw [hl] at this; simp at this; omega
    | cons x l => rfl
  have hg1 : (97 : Int) ≤ ((s[0]'h0).toNat : Int) := by omega
  have hg2 : ((s[0]'h0).toNat : Int) ≤ 122 := by omega
  clear f1 f2 h
  go_enter Tryz.func107, Tryz.ntmps107
  go_wp2
  go_loop [24] (fun i => ∃ k : Nat, k ≤ s.size ∧ i = .int .i64 k) (fun i => s.size - (intOf i).toNat)
  case atStart => exact ⟨0, Nat.zero_le _, rfl⟩
  case round =>
    obtain ⟨k, hk, rfl⟩ := hrel
    by_cases hlt : k < s.size
    · rcases HB.out k hlt with ⟨a1, a2⟩ | ⟨a1, a2⟩ | a1 | a1
      · go_wp2
        go_round
        case rel => exact ⟨k + 1, by omega, by go_num⟩
        case measure => simp [intOf]; omega
      · go_wp2
        go_round
        case rel => exact ⟨k + 1, by omega, by go_num⟩
        case measure => simp [intOf]; omega
      · go_wp2
        go_round
        case rel => exact ⟨k + 1, by omega, by go_num⟩
        case measure => simp [intOf]; omega
      · go_wp2
        go_round
        case rel => exact ⟨k + 1, by omega, by go_num⟩
        case measure => simp [intOf]; omega
    · go_wp2
      go_ret
      exact ⟨rfl, rfl⟩
end Go.Proofs.YtbimiojoihfnkaaGreatDoor
