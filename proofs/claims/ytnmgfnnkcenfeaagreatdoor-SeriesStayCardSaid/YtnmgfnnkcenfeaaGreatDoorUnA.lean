/- unseven and halved of anything. -/
import Derived.Test.YtnmgfnnkcenfeaaGreatDoorPkD
namespace Go.Proofs.YtnmgfnnkcenfeaaGreatDoor
open Go.RowKit

/-- What unseven hands back of any bytes. -/
def UnB (w : World) (B len : Nat) (e : Ending) (w' : World) : Prop :=
  ∃ (n : Nat) (A : Option Addr) (k c : Nat) (ok : Bool) (L : List Int), e = .returned (.tuple #[.int .u64 (n : Int), .slice A k c, .bool ok]) ∧ n < 18446744073709551616 ∧ k ≤ len ∧ k ≤ c ∧ L.length = k ∧ BytesOk L ∧ Row w B A (bytesV L) ∧ ∃ q, w' = w.drewN q
theorem UnB.no (w : World) (B len q : Nat) : UnB w B len (.returned (.tuple #[.int .u64 0, .slice none 0 0, .bool false])) (w.drewN q) :=
  ⟨0, none, 0, 0, false, [], rfl, by omega, by omega, by omega, rfl, (by intro y hy; cases hy), .inl rfl, q, rfl⟩
theorem bits_or (m b : Nat) (hm : m < 18446744073709551616) (hb : b < 18446744073709551616) : ∃ r : Nat, bits .or .u64 (m : Int) (b : Int) = (r : Int) ∧ r < 18446744073709551616 :=
  ⟨m ||| b, u64_or_nat m b (by omega) (by omega), Nat.or_lt_two_pow (n := 64) hm hb⟩
theorem drewN_add (w : World) (a b : Nat) : (w.drewN a).drewN b = w.drewN (a + b) := by unfold World.drewN; simp [Nat.add_assoc]
theorem wrap_u (x : Int) : ∃ b : Nat, IntKind.u64.wrap x = (b : Int) ∧ b < 18446744073709551616 := by
  have h1 : 0 ≤ x % 18446744073709551616 := Int.emod_nonneg _ (by omega)
  have h2 : x % 18446744073709551616 < 18446744073709551616 := Int.emod_lt_of_pos _ (by omega)
  refine ⟨(x % 18446744073709551616).toNat, ?_, by omega⟩
  rw [show IntKind.u64.wrap x = x % 18446744073709551616 from rfl]
  omega
set_option maxRecDepth 100000 in
set_option maxHeartbeats 4000000 in
theorem unseven_b (w : World) (B len c : Nat) (A : Option Addr) (L : List Int) (hL : L.length = len) (_hl : len ≤ 1000) (hcap : len ≤ c) (hb : BytesOk L) (hr : Row w B A (bytesV L)) :
    Calls Tryz.prog 47 #[.slice A len c] w (UnB w B len) := by
  have HR := Lib.hid hr
  have HL := Lib.hid hL
  have HB := Lib.hid hb
  have HNO := Lib.hid (UnB.no w B len)
  clear hr hL hb
  go_enter Tryz.func47, Tryz.ntmps47
  go_wp2_with (fail)
  go_loopw [2, 9] (fun m i wr => ∃ (k mm q : Nat), k ≤ len ∧ k ≤ 9 ∧ i = .int .i64 k ∧ m = .int .u64 (mm : Int) ∧ mm < 18446744073709551616 ∧ wr = w.drewN q) (fun _ i _ => len - (intOf i).toNat)
  case atStart => exact ⟨0, 0, 0, Nat.zero_le _, by omega, rfl, rfl, by omega, rfl⟩
  case round =>
    obtain ⟨k, mm, q, hk, hk9, rfl, rfl, hmm, rfl⟩ := hrel
    by_cases hlt : k < len
    · have hltI : (k : Int) < (len : Int) := by omega
      obtain ⟨y, hy⟩ : ∃ y, L[k]? = some y := ⟨_, List.getElem?_eq_getElem (by have := HL.out; omega)⟩
      obtain ⟨hy0, hy1⟩ := HB.out y (List.mem_of_getElem? hy)
      have hRB : ∃ b o, A = some ⟨b, o, none⟩ ∧ b < B ∧ Cells w b o (bytesV L) := by
        rcases HR.out with h | h
        · have h2 := HL.out
          have h3 : L.length = 0 := by have := congrArg List.length h; simpa [bytesV] using this
          omega
        · exact h
      obtain ⟨b, o, rfl, hbB, hC⟩ := hRB
      have c0 : (w.drewN q).cell? ⟨b, o + k, none⟩ = some (.int .u8 y) := hC k (.int .u8 y) (by simp [bytesV, hy])
      have HC := Lib.hid hC
      clear hy hC
      by_cases hk9' : k = 9
      · subst hk9'
        have h9I : (9 : Int) < (len : Int) := by omega
        rw [show ((9 : Nat) : Int) = 9 from rfl]
        go_wp2_with (fail)
        go_ret3
        exact HNO.out _
      have h9I : ¬ (k : Int) = 9 := by omega
      have h9b : ((k : Int) == 9) = false := by simp; omega
      obtain ⟨yn, eyn⟩ : ∃ yn : Nat, y = (yn : Int) := ⟨y.toNat, by omega⟩
      subst eyn
      obtain ⟨a, ha⟩ : ∃ a : Nat, a = yn % 128 := ⟨_, rfl⟩
      have ha7 : a < 128 := by omega
      have hand : bits .and .u8 (yn : Int) 127 = (a : Int) := by
        rw [show (127 : Int) = ((127 : Nat) : Int) from rfl, u8_and_nat yn 127 (by omega) (by omega), show (127 : Nat) = 2 ^ 7 - 1 from rfl, Nat.and_two_pow_sub_one_eq_mod, ha]
      clear ha
      have h7 : IntKind.i64.wrap (7 * (k : Int)) = ((7 * k : Nat) : Int) := by rw [IntKind.wrap_i64]; omega
      have h63 : 7 * k < 64 := by omega
      obtain ⟨r, er, hr⟩ : ∃ r : Nat, bits .or .u64 (mm : Int) (IntKind.u64.wrap ((a : Int) * 2 ^ (7 * k))) = (r : Int) ∧ r < 18446744073709551616 := by
        obtain ⟨b2, eb, hb2⟩ := wrap_u (((a : Int) * 2 ^ (7 * k)))
        rw [eb]
        exact bits_or mm b2 hmm hb2
      by_cases h128 : yn < 128
      · have h128I : (yn : Int) < 128 := by omega
        have hw1 : IntKind.i64.wrap ((k : Int) + 1) = (k : Int) + 1 := by rw [IntKind.wrap_i64]; omega
        have hk0 : (0 : Int) ≤ (k : Int) + 1 := by omega
        have hk1 : ((k : Int) + 1).toNat = k + 1 := by omega
        have hcl : (k : Int) + 1 ≤ (len : Int) := by omega
        have hcl2 : k + 1 ≤ len := by omega
        have hcc : (len : Int) ≤ (c : Int) := by omega
        have HLD := Lib.hid (show (L.drop (k + 1)).length = len - (k + 1) by rw [List.length_drop, HL.out])
        have HBD := Lib.hid (show BytesOk (L.drop (k + 1)) from fun y hy => HB.out y (List.mem_of_mem_drop hy))
        have HRD := Lib.hid (show c ≠ k + 1 → Row w B (some ⟨b, o + (k + 1), none⟩) (bytesV (L.drop (k + 1))) from fun _ => .inr ⟨b, o + (k + 1), rfl, hbB, fun j v hv => by
          have := HC.out (k + 1 + j) v (by simpa [bytesV, List.getElem?_drop] using hv)
          rw [show o + (k + 1) + j = o + (k + 1 + j) by omega]; exact this⟩)
        have HFN := Lib.hid (fun (A : Option Addr) (c' q' : Nat) (h1 : len - (k + 1) ≤ c') (h2 : Row w B A (bytesV (L.drop (k + 1)))) => show UnB w B len (.returned (.tuple #[.int .u64 (r : Int), .slice A (len - (k + 1)) c', .bool true])) ((w.drewN q).drewN q') from
          ⟨r, A, len - (k + 1), c', true, L.drop (k + 1), rfl, hr, by omega, h1, HLD.out, HBD.out, h2, _, drewN_add _ _ _⟩)
        by_cases hc1 : c = k + 1
        · have HRE := Lib.hid (fun A => show Row w B A (bytesV (L.drop (k + 1))) from .inl (by rw [show L.drop (k + 1) = [] from List.eq_nil_of_length_eq_zero (by rw [HLD.out]; omega)]; rfl))
          clear HRD
          go_wp2_with (fail)
          go_quiet (fail)
          go_wp2_with (fail)
          go_ret3
          exact HFN.out _ 0 _ (by omega) (HRE.out _)
        · clear hr
          go_wp2_with (fail)
          go_quiet (fail)
          go_wp2_with (fail)
          go_ret3
          exact HFN.out _ (c - (k + 1)) _ (by omega) (HRD.out hc1)
      · have h128I : ¬ (yn : Int) < 128 := by omega
        go_wp2_with (fail)
        go_roundw
        case rel => exact ⟨k + 1, r, q, by omega, by omega, by go_num, rfl, hr, rfl⟩
        case measure => simp [intOf]; omega
    · have hltI : ¬ (k : Int) < (len : Int) := by omega
      go_wp2_with (fail)
      go_ret3
      exact HNO.out _
set_option maxHeartbeats 400000 in
theorem halved_b (d : Nat) (w : World) (hd : d < 18446744073709551616) : Calls Tryz.prog 48 #[.int .u64 (d : Int)] w fun e w' => (∃ h : Int, e = .returned (.int .i64 h) ∧ -9223372036854775808 ≤ h ∧ h ≤ 9223372036854775807) ∧ w = w' := by
  rcases Nat.mod_two_eq_zero_or_one d with h | h
  · have hm : ((d : Int) % 2 == 1) = false := by simp; omega
    have hR := Lib.hid (show -9223372036854775808 ≤ (d : Int) / 2 ∧ (d : Int) / 2 ≤ 9223372036854775807 by omega)
    go_enter Tryz.func48, Tryz.ntmps48
    go_wp2_with (fail)
    go_ret
    exact ⟨⟨_, rfl, hR.out⟩, rfl⟩
  · have hm : ((d : Int) % 2 == 1) = true := by simp; omega
    have hR := Lib.hid (show -9223372036854775808 ≤ -((d : Int) / 2) - 1 ∧ -((d : Int) / 2) - 1 ≤ 9223372036854775807 by omega)
    go_enter Tryz.func48, Tryz.ntmps48
    go_wp2_with (fail)
    go_ret
    exact ⟨⟨_, rfl, hR.out⟩, rfl⟩
end Go.Proofs.YtnmgfnnkcenfeaaGreatDoor
