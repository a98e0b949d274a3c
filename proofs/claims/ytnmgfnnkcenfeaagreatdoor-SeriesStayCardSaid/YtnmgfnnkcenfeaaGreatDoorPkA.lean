/- The reference's sevens, turned, PackOf; RightBuckets of the stream. -/
import Derived.Test.YtnmgfnnkcenfeaaGreatDoorBoB
import Derived.Test.YtnmgfnnkcenfeaaGreatDoorMgA
import Derived.Test.YtnmgfnnkcenfeaaGreatDoorSer1
import Derived.Test.YtnmgfnnkcenfeaaGreatDoorSerP
namespace Go.Proofs.YtnmgfnnkcenfeaaGreatDoor
open Go.RowKit

theorem turned_any (n : Int) (w : World) (h1 : -8000 ≤ n) (h2 : n ≤ 8000) : Calls Tryz.prog 60 #[.int .i64 n] w fun e w' => e = .returned (.int .i64 (dbl n : Int)) ∧ w = w' := by
  have HD := Lib.hid (show (n < 0 → (dbl n : Int) = -2 * n - 1) ∧ (0 ≤ n → (dbl n : Int) = 2 * n) by unfold dbl; constructor <;> intro h <;> split <;> omega)
  obtain ⟨d, ed⟩ : ∃ d, d = (dbl n : Int) := ⟨_, rfl⟩
  rw [← ed] at HD ⊢
  clear ed
  go_enter Tryz.func60, Tryz.ntmps60
  go_wp2_with (fail)
  · go_ret
    exact ⟨by have := HD.out.1 (by assumption); simp [this], rfl⟩
  · go_ret
    exact ⟨by have := HD.out.2 (by assumption); simp [this], rfl⟩
def SvPost (n : Nat) (w : World) (e : Ending) (w' : World) : Prop :=
  ∃ g c, e = .returned (.slice (some ⟨g, 0, none⟩) (sev n).length c) ∧ w'.ownsRow w.heap.size 5 1 (.slice (some ⟨g, 0, none⟩) (sev n).length c) (sev n).length (bytesV (sev n)) ∧ g < w'.heap.size ∧ Below w.heap.size w w'
theorem SvPost.of {n k : Nat} {w w' : World} {v : Value} {L : List Int} (hL : L = sev n) (hk : L.length = k) (ho : w'.ownsRow w.heap.size 5 1 v k (bytesV L)) (hb : Below w.heap.size w w') : SvPost n w (.returned v) w' := by
  subst hL
  have hl := sev_len2 n
  rw [← hk] at ho
  obtain ⟨A, c, rfl⟩ := own_slice ho
  rcases own_two ho with ⟨_, h0, _⟩ | ⟨g, rfl, h2, h3⟩
  · omega
  · exact ⟨g, c, rfl, ho, h3, hb⟩
set_option maxRecDepth 100000 in
theorem sevens_one (w : World) (n : Nat) (hn : n < 128) : Calls Tryz.prog 59 #[.int .i64 (n : Int)] w fun e w' => SvPost n w e w' := by
  have hn' : (n : Int) < 128 := by omega
  have hw : IntKind.u8.wrap (n : Int) = (n : Int) := by simp [IntKind.wrap, IntKind.signed, IntKind.bits]; omega
  have HS := Lib.hid (show [(n : Int)] = sev n from by unfold sev; rw [if_pos hn])
  go_enter Tryz.func59, Tryz.ntmps59
  go_wp2_with (fail)
  go_ret
  have hb := (Below.refl w.heap.size w).alloc (Nat.le_refl _) (.cells #[.int .u8 (n : Int)] 5)
  have ho : (w.alloc (.cells #[.int .u8 (n : Int)] 5)).ownsRow w.heap.size 5 1 (.slice (some ⟨w.heap.size, 0, none⟩) 1 1) 1 (bytesV [(n : Int)]) := ⟨rfl, .inr ⟨w.heap.size, 1, #[.int .u8 (n : Int)], rfl, Nat.le_refl _, heap_new w _, Nat.le_refl _, by unfold maxLen; omega, by simp, by simp [bytesV]⟩⟩
  exact SvPost.of (L := [(n : Int)]) (k := 1) HS.out rfl ho hb
set_option maxRecDepth 100000 in
set_option maxHeartbeats 4000000 in
theorem sevens_any (w : World) (n : Nat) (hn2 : n < 16384) : Calls Tryz.prog 59 #[.int .i64 (n : Int)] w fun e w' => SvPost n w e w' := by
  by_cases hn : n < 128
  · exact sevens_one w n hn
  obtain ⟨i0, hi, hz0, hz1, hz2⟩ := info_parts Tryz.infoU8
  have HS := Lib.hid (show [((n % 128 : Nat) : Int) + 128, ((n / 128 : Nat) : Int)] = sev n from by unfold sev; rw [if_neg hn])
  have HS2 := Lib.hid (show sev (n / 128) = [((n / 128 : Nat) : Int)] from by unfold sev; rw [if_pos (by omega)])
  have hn' : ¬ (n : Int) < 128 := by omega
  have hr : (n : Int) % 128 = ((n % 128 : Nat) : Int) := by omega
  have hq : (n : Int) / 128 = ((n / 128 : Nat) : Int) := by omega
  obtain ⟨r, er⟩ : ∃ r, r = n % 128 := ⟨_, rfl⟩
  obtain ⟨q, eq⟩ : ∃ q, q = n / 128 := ⟨_, rfl⟩
  rw [← er] at hr HS
  rw [← eq] at hq HS HS2
  have hr1 : r < 128 := by omega
  have hq1 : q < 128 := by omega
  have hw : IntKind.u8.wrap ((r : Int) + 128) = (r : Int) + 128 := by simp [IntKind.wrap, IntKind.signed, IntKind.bits]; omega
  have hn3 : (n : Int) < 16384 := by omega
  have hn4 : (128 : Int) ≤ n := by omega
  clear er eq
  go_enter Tryz.func59, Tryz.ntmps59
  go_wp2_with (fail)
  refine (sevens_one _ q hq1).mono ?_
  rintro e w2 ⟨g, c, rfl, ho2, hg2, hb2⟩
  rw [HS2.out] at ho2 ⊢
  simp only [World.size_alloc] at ho2 hb2
  have hx2 := (hb2.block w.heap.size (by omega)).trans (heap_new w (.cells #[.int .u8 ((r : Int) + 128)] 5))
  have HO := Lib.hid (show w2.ownsRow w.heap.size 5 1 (.slice (some ⟨w.heap.size, 0, none⟩) 1 1) 1 (bytesV [(r : Int) + 128]) from ⟨rfl, .inr ⟨w.heap.size, 1, #[.int .u8 ((r : Int) + 128)], rfl, Nat.le_refl _, hx2, Nat.le_refl _, by unfold maxLen; omega, by simp, by simp [bytesV]⟩⟩)
  have HC2 := Lib.hid (own_cells0 ho2)
  have HB2 := Lib.hid (show Below w.heap.size w w2 from ((Below.refl _ _).alloc (Nat.le_refl _) _).trans (hb2.mono (by omega)))
  have hs2 := HB2.out.size
  clear ho2 hb2 hx2
  simp only [List.length_cons, List.length_nil, Nat.zero_add]
  go_wp2_with (at_builtin; refine wpList_append_own2 _ rfl (.tmp 12) (.tmp 15) 30 rfl w.heap.size 5 i0 (.int .u8 0) 1 1 Tryz.underlying30 hi hz0 hz1 hz2 rfl (by decide) _ _ _ rfl HO.out ⟨g, 0, none⟩ 1 c (bytesV [(q : Int)]) rfl rfl ?c1 ?c2 ?c3 ?c4 ?c5 ?_)
  case c1 => exact cells_add HC2.out
  case c2 => exact bytesV_one _
  case c3 => unfold maxLen; omega
  case c4 => omega
  case c5 => omega
  intro v3 w3 ho3 hg3 hm3
  have HF := Lib.hid (show SvPost n w (.returned v3) w3 from SvPost.of HS.out rfl ho3 (HB2.out.grown hg3 hs2 (fun g e => (HO.out.lt g e).1)))
  clear ho3 hg3 hm3
  go_wp2_with (fail)
  go_ret
  exact HF.out
end Go.Proofs.YtnmgfnnkcenfeaaGreatDoor
