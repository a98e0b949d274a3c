/- unseven, halved: numbers in sevens, read back. -/
import Derived.Test.YtaglkaphlekmoaaDoorSeven
namespace Go.Proofs.YtaglkaphlekmoaaDoor
open Go.RowKit

/-- What unseven hands back: the number, and what stands behind it. -/
def Unsev (w : World) (B : Nat) (n len m : Nat) (rest : List Int) (e : Ending) (w' : World) : Prop :=
  ∃ A c, e = .returned (.tuple #[.int .u64 (n : Int), .slice A (len - m) c, .bool true]) ∧ Row w B A (bytesV rest) ∧ len - m ≤ c ∧ ∃ q, w' = w.drewN q

set_option maxRecDepth 100000 in
set_option maxHeartbeats 1000000 in
theorem unseven_one (w : World) (B b o len c n : Nat) (rest : List Int) (hn : n < 128) (hlen : len = rest.length + 1) (hl : len ≤ 1000000) (hcap : len ≤ c) (hb : b < B) (hc : Cells w b o (bytesV ((n : Int) :: rest))) :
    Calls Tryd.prog 16 #[.slice (some ⟨b, o, none⟩) len c] w (Unsev w B n len 1 rest) := by
  have c0 := hc 0 (.int .u8 (n : Int)) rfl
  simp only [Nat.add_zero] at c0
  have hn1 : (n : Int) < 128 := by omega
  have hand : bits .and .u8 (n : Int) 127 = (n : Int) := by
    rw [show (127 : Int) = ((127 : Nat) : Int) from rfl, u8_and_nat n 127 (by omega) (by omega), show (127 : Nat) = 2 ^ 7 - 1 from rfl, Nat.and_two_pow_sub_one_eq_mod, Nat.mod_eq_of_lt (by omega)]
  have hlp : (0 : Int) < (len : Int) := by omega
  have hl1 : 1 ≤ len := by omega
  have HC := Lib.hid hc
  have HL := Lib.hid hlen
  clear hc hlen
  have HROW : Hid (Row w B (if c = 1 then some ⟨b, o, none⟩ else some ⟨b, o + 1, none⟩) (bytesV rest)) := by
    by_cases h : c = 1
    · have : rest = [] := List.eq_nil_of_length_eq_zero (by have := HL.out; omega)
      subst this
      exact .inl rfl
    · rw [if_neg h]
      refine .inr ⟨b, o + 1, rfl, hb, fun j v hv => ?_⟩
      have := HC.out (j + 1) v (by simpa [bytesV] using hv)
      rw [show o + 1 + j = o + (j + 1) by omega]; exact this
  have hor : bits .or .u64 0 (n : Int) = (n : Int) := by
    rw [show (0 : Int) = ((0 : Nat) : Int) from rfl, u64_or_nat 0 n (by omega) (by omega), Nat.zero_or]
  have hcl : (len : Int) ≤ (c : Int) := by omega
  by_cases hc1 : c = 1
  · rw [if_pos hc1] at HROW
    obtain rfl : len = 1 := by omega
    subst hc1
    go_enter Tryd.func16, Tryd.ntmps16
    go_wp2_with (fail)
    refine wp_loop_rounds 1 ?_
    rw [rounds_succ]
    go_wp2_with (fail)
    go_quiet (fail)
    go_wp2_with (fail)
    go_ret3
    exact ⟨_, 0, rfl, HROW.out, Nat.le_refl _, _, rfl⟩
  · rw [if_neg hc1] at HROW
    have hc2 : 1 < c := by omega
    go_enter Tryd.func16, Tryd.ntmps16
    go_wp2_with (fail)
    refine wp_loop_rounds 1 ?_
    rw [rounds_succ]
    go_wp2_with (fail)
    go_quiet (fail)
    go_wp2_with (fail)
    go_ret3
    exact ⟨_, c - 1, rfl, HROW.out, by omega, _, rfl⟩

set_option maxRecDepth 100000 in
set_option maxHeartbeats 2000000 in
theorem unseven_two (w : World) (B b o len c n : Nat) (rest : List Int) (hn : 128 ≤ n) (hn2 : n < 16384) (hlen : len = rest.length + 2) (hl : len ≤ 1000000) (hcap : len ≤ c) (hb : b < B)
    (hc : Cells w b o (bytesV ((((n % 128 : Nat) : Int) + 128) :: ((n / 128 : Nat) : Int) :: rest))) :
    Calls Tryd.prog 16 #[.slice (some ⟨b, o, none⟩) len c] w (Unsev w B n len 2 rest) := by
  obtain ⟨r, er⟩ : ∃ r, r = n % 128 := ⟨_, rfl⟩
  obtain ⟨q, eq⟩ : ∃ q, q = n / 128 := ⟨_, rfl⟩
  rw [← er, ← eq] at hc
  have c0 := hc 0 (.int .u8 ((r : Int) + 128)) rfl
  have c1 := hc 1 (.int .u8 (q : Int)) rfl
  simp only [Nat.add_zero] at c0
  have hr : r < 128 := by omega
  have hq : q < 128 := by omega
  have hr' : (r : Int) < 128 := by omega
  have hq' : (q : Int) < 128 := by omega
  have hand : bits .and .u8 ((r : Int) + 128) 127 = (r : Int) := by
    rw [show ((r : Int) + 128) = ((r + 128 : Nat) : Int) by omega, show (127 : Int) = ((127 : Nat) : Int) from rfl, u8_and_nat (r + 128) 127 (by omega) (by omega), show (127 : Nat) = 2 ^ 7 - 1 from rfl, Nat.and_two_pow_sub_one_eq_mod, show (r + 128) % 2 ^ 7 = r by omega]
  have hand2 : bits .and .u8 (q : Int) 127 = (q : Int) := by
    rw [show (127 : Int) = ((127 : Nat) : Int) from rfl, u8_and_nat q 127 (by omega) (by omega), show (127 : Nat) = 2 ^ 7 - 1 from rfl, Nat.and_two_pow_sub_one_eq_mod, Nat.mod_eq_of_lt (by omega)]
  have hor : bits .or .u64 0 (r : Int) = (r : Int) := by
    rw [show (0 : Int) = ((0 : Nat) : Int) from rfl, u64_or_nat 0 r (by omega) (by omega), Nat.zero_or]
  have hor2 : bits .or .u64 (r : Int) ((q : Int) * 128) = (n : Int) := by
    rw [show ((q : Int) * 128) = ((q * 128 : Nat) : Int) by omega, u64_or_nat r (q * 128) (by omega) (by omega), Nat.or_comm, nat_join 7 (q * 128) r (by omega) (by omega)]
    omega
  have hlp : (1 : Int) < (len : Int) := by omega
  have hl1 : 2 ≤ len := by omega
  have hcl : (len : Int) ≤ (c : Int) := by omega
  have HC := Lib.hid hc
  have HL := Lib.hid hlen
  clear hc hlen er eq
  have HROW : Hid (Row w B (if c = 2 then some ⟨b, o, none⟩ else some ⟨b, o + 2, none⟩) (bytesV rest)) := by
    by_cases h : c = 2
    · have : rest = [] := List.eq_nil_of_length_eq_zero (by have := HL.out; omega)
      subst this
      exact .inl rfl
    · rw [if_neg h]
      refine .inr ⟨b, o + 2, rfl, hb, fun j v hv => ?_⟩
      have := HC.out (j + 2) v (by simpa [bytesV] using hv)
      rw [show o + 2 + j = o + (j + 2) by omega]; exact this
  by_cases hc1 : c = 2
  · rw [if_pos hc1] at HROW
    obtain rfl : len = 2 := by omega
    subst hc1
    go_enter Tryd.func16, Tryd.ntmps16
    go_wp2_with (fail)
    refine wp_loop_rounds 2 ?_
    rw [rounds_succ]
    go_wp2_with (fail)
    rw [rounds_succ]
    go_wp2_with (fail)
    go_quiet (fail)
    go_wp2_with (fail)
    go_ret3
    exact ⟨_, 0, rfl, HROW.out, Nat.le_refl _, _, rfl⟩
  · rw [if_neg hc1] at HROW
    have hc2 : 2 < c := by omega
    go_enter Tryd.func16, Tryd.ntmps16
    go_wp2_with (fail)
    refine wp_loop_rounds 2 ?_
    rw [rounds_succ]
    go_wp2_with (fail)
    rw [rounds_succ]
    go_wp2_with (fail)
    go_quiet (fail)
    go_wp2_with (fail)
    go_ret3
    exact ⟨_, c - 2, rfl, HROW.out, by omega, _, rfl⟩

theorem unseven_any (w : World) (B len c n : Nat) (A : Option Addr) (rest : List Int) (hn : n < 16384) (hlen : len = (sev n).length + rest.length) (hl : len ≤ 1000000) (hcap : len ≤ c) (hr : Row w B A (bytesV (sev n ++ rest))) :
    Calls Tryd.prog 16 #[.slice A len c] w (Unsev w B n len (sev n).length rest) := by
  rcases hr with h | ⟨b, o, rfl, hb, hc⟩
  · have := congrArg List.length h
    simp [bytesV, sev] at this
    split at this <;> simp at this
  · unfold sev at hlen hc ⊢
    rcases Nat.lt_or_ge n 128 with h | h
    · simp only [if_pos h, List.cons_append, List.nil_append, List.length_cons, List.length_nil, Nat.zero_add] at hlen hc ⊢
      exact unseven_one w B b o len c n rest h (by omega) hl hcap hb hc
    · simp only [if_neg (show ¬ n < 128 by omega), List.cons_append, List.nil_append, List.length_cons, List.length_nil, Nat.zero_add] at hlen hc ⊢
      exact unseven_two w B b o len c n rest h hn (by omega) hl hcap hb hc

set_option maxHeartbeats 400000 in
theorem halved_any (n : Int) (w : World) (h1 : -8000 ≤ n) (h2 : n ≤ 8000) : Calls Tryd.prog 17 #[.int .u64 (dbl n : Int)] w fun e w' => e = .returned (.int .i64 n) ∧ w = w' := by
  obtain ⟨d, ed⟩ : ∃ d, d = dbl n := ⟨_, rfl⟩
  rw [← ed]
  rcases Int.lt_or_le n 0 with h | h
  · have e1 : d = (-2 * n - 1).toNat := by rw [ed, dbl, if_pos h]
    have hm : ((d : Int) % 2 == 1) = true := by simp; omega
    have hd : (d : Int) / 2 = -n - 1 := by omega
    have hd2 : d < 16384 := by omega
    have HN := Lib.hid (show -((d : Int) / 2) - 1 = n by omega)
    clear e1 ed hd
    go_enter Tryd.func17, Tryd.ntmps17
    go_wp2_with (fail)
    go_ret
    exact ⟨ret_int HN.out, rfl⟩
  · have e1 : d = (2 * n).toNat := by rw [ed, dbl, if_neg (by omega)]
    have hm : ((d : Int) % 2 == 1) = false := by simp; omega
    have hd2 : d < 16384 := by omega
    have HN := Lib.hid (show (d : Int) / 2 = n by omega)
    clear e1 ed
    go_enter Tryd.func17, Tryd.ntmps17
    go_wp2_with (fail)
    go_ret
    exact ⟨ret_int HN.out, rfl⟩
end Go.Proofs.YtaglkaphlekmoaaDoor
