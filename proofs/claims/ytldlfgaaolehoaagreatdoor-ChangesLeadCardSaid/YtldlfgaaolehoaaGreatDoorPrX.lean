/- RightProps of the stream by its contract: good properties. -/
import Derived.Test.YtldlfgaaolehoaaGreatDoorPrA
import Derived.Test.YtldlfgaaolehoaaGreatDoorPrO
import Derived.Test.YtldlfgaaolehoaaGreatDoorPrW
namespace Go.Proofs.YtldlfgaaolehoaaGreatDoor
open Go.RowKit

theorem grown_more {w w1 w2 : World} {r row : Option Nat} (h : w.grownBy w1 r) (h2 : w1.grownBy w2 row) (hr : ∀ g, row = some g → w.heap.size ≤ g) : w.grownBy w2 r :=
  ⟨h2.os.trans h.os, h2.tape.trans h.tape, h2.output.trans h.output, Nat.le_trans h.size h2.size, fun k hk hne => (h2.block k (by have := h.size; omega) (by intro e; have := hr _ e.symm; omega)).trans (h.block k hk hne)⟩
theorem grown_belowP {w w' : World} {r : Option Nat} (hb : Below w.heap.size w w') : w.grownBy w' r := ⟨hb.os, hb.tape, hb.output, hb.size, fun i hi _ => hb.block i hi⟩
def nmPk : List Nat := [0, 1, 3, 2, 5, 6, 4]
theorem nmPk_lt (j : Nat) (h : j < 7) : (nmPk.map nm).getD j ⟨#[]⟩ = nm (nmPk.getD j 0) ∧ nmPk.getD j 0 < 7 := by
  have : j = 0 ∨ j = 1 ∨ j = 2 ∨ j = 3 ∨ j = 4 ∨ j = 5 ∨ j = 6 := by omega
  rcases this with h | h | h | h | h | h | h <;> subst h <;> exact ⟨rfl, by decide⟩
def RpPost (w : World) (p k : Nat) (xs : List Int) (e : Ending) (w' : World) : Prop :=
  ∃ (l : List Pr) (A : Option Addr) (c k' n : Nat), e = .returned (.slice A n c) ∧ PrsGood l ∧ l.length = n ∧ n ≤ 5 ∧ w'.ownsRow w.heap.size 40 5 (.slice A n c) n (recs prC l) ∧ Strm w' p xs k' ∧ k' ≤ k + 16 ∧ w.grownBy w' (some p)
set_option maxRecDepth 100000 in
set_option maxHeartbeats 4000000 in
theorem rightProps_any (w : World) (p k : Nat) (xs : List Int) (hk : k < 100000) (hs : Strm w p xs k) (hT : ∀ V, w.grownBy V (some p) → U8T V) :
    Calls Tryz.prog 10 #[.pointer (some ⟨p, 0, none⟩)] w fun e w' => RpPost w p k xs e w' := by
  obtain ⟨i0, hi0, hz0, hz1, hz2⟩ := info_parts Tryz.infoP
  have hplt := hs.lt
  have HS := Lib.hid hs
  have HT := Lib.hid hT
  clear hs hT
  go_enter Tryz.func10, Tryz.ntmps10
  go_wp2_with (fail)
  have hN := nextN_lt xs k 6 (by omega)
  refine (range_nat w p k 5 xs (by omega) (by omega) HS.out).mono ?_
  obtain ⟨N, eN⟩ : ∃ N, N = nextN xs k 6 := ⟨_, rfl⟩
  rw [← eN] at hN ⊢
  rintro e w1 ⟨rfl, hst1, hg1⟩
  have HST1 := Lib.hid hst1
  have HG1 := Lib.hid hg1
  clear hst1 hg1 eN
  go_wp2_with (fail)
  go_loopw [3, 7] (fun v s wr => ∃ (j k' n : Nat) (l : List Pr), j ≤ N ∧ s = .int .i64 (j : Int) ∧ PrsGood l ∧ l.length = n ∧ n ≤ j ∧ wr.ownsRow w.heap.size 40 5 v n (recs prC l) ∧ Strm wr p xs k' ∧ k' ≤ k + 1 + 3 * j ∧ w.grownBy wr (some p)) (fun _ s _ => N - (intOf s).toNat)
  case atStart => exact ⟨0, k + 1, 0, [], Nat.zero_le _, rfl, ⟨⟨List.Pairwise.nil, by simp⟩, rfl⟩, rfl, Nat.le_refl _, World.ownsRow_nil _ _ _ _, HST1.out, by omega, HG1.out⟩
  case round =>
    obtain ⟨j, k', n, l, hj, rfl, hgood, hln, hnj, hown, hst, hk', hgw⟩ := hrel
    have HGD := Lib.hid hgood
    have HLN := Lib.hid hln
    have HO := Lib.hid hown
    have HST := Lib.hid hst
    have HGW := Lib.hid hgw
    have hwsz := hgw.size
    have hplt2 := hst.lt
    by_cases hlt : j < N
    · have hltI : (j : Int) < (N : Int) := by omega
      obtain ⟨A, c, rfl⟩ := own_slice hown
      clear hgood hln hown hst hgw
      go_wp2_with (fail)
      refine (cloneP_any l n c w.heap.size A wr HLN.out (by omega) HO.out).mono ?_
      rintro e w2 ⟨v2, rfl, ho2, hb2⟩
      have hs2 := hb2.size
      have HO2 := Lib.hid ho2
      have HST2 := Lib.hid (HST.out.below hb2)
      have HG2 := Lib.hid (show wr.grownBy w2 (some p) from grown_belowP hb2)
      clear ho2 hb2
      go_wp2_with (fail)
      refine (some_any _ p k' w2.heap.size 7 7 xs (nmPk.map nm) (by omega) rfl (by omega) (by omega) (HST2.out.alloc _) (by omega) (Cells.new _ _ _ _ _ rfl)).mono ?_
      obtain ⟨h1, h7⟩ := nmPk_lt (nextN xs k' 7) (nextN_lt _ _ _ (by omega))
      rw [h1]
      obtain ⟨r, er⟩ : ∃ r, r = nmPk.getD (nextN xs k' 7) 0 := ⟨_, rfl⟩
      rw [← er] at h7 ⊢
      clear er h1
      rintro e w3 ⟨rfl, hst3, hg3⟩
      have hg3' := grown_of_alloc hg3
      have hs3 := hg3'.size
      have HO3 := Lib.hid (own_kept HO2.out hg3' (by omega))
      have HST3 := Lib.hid hst3
      have HG3 := Lib.hid (grown_trans HG2.out hg3')
      clear hst3 hg3 hg3'
      go_wp2_with (fail)
      refine (rightValue_any w3 p (k' + 1) xs (by omega) HST3.out).mono ?_
      rintro e w4 ⟨v, rfl, hv, hst4, hg4⟩
      have hs4 := hg4.size
      have HO4 := Lib.hid (own_kept HO3.out hg4 (by omega))
      have HST4 := Lib.hid hst4
      have HG4 := Lib.hid (grown_trans HG3.out hg4)
      have HV := Lib.hid hv
      have hlt4 := hst4.lt
      clear hst4 hg4 hv
      go_wp2_with (at_builtin; refine wpList_append_own2 _ rfl _ _ 26 rfl wr.heap.size 40 i0 _ 5 56 Tryz.underlying26 hi0 hz0 hz1 hz2 rfl (by decide) _ _ _ rfl (HO4.out.alloc _) ⟨_, 0, none⟩ 1 1 (prC (r, v)) rfl rfl ?c1 ?c2 ?c3 ?c4 ?c5 ?_)
      case c1 => exact cells_add (cells_atF rfl (by first | rfl | simp))
      case c2 => exact prC_one _
      case c3 => unfold maxLen; omega
      case c4 => omega
      case c5 => simp; omega
      intro v5 w5 ho5 hg5 hm5
      have hlo : ∀ q, v2.ownBlock = some q → wr.heap.size ≤ q := fun q hq => (HO4.out.lt q hq).1
      have hg5' : wr.grownBy w5 (some p) := grown_more (grown_trans HG4.out (World.grownBy_alloc _ _ (some p))) hg5 hlo
      have hlo2 : ∀ q, v2.ownBlock = some q → p < q := fun q hq => by have := hlo q hq; omega
      have HST5 := Lib.hid ((HST4.out.alloc _).row hg5 hlo2)
      have HG5 := Lib.hid hg5'
      have hs5 := hg5'.size
      obtain ⟨A5, c5, rfl⟩ := own_slice ho5
      have HO5 := Lib.hid (show w5.ownsRow wr.heap.size 40 5 (.slice A5 (n + 1) c5) (n + 1) (recs prC (l ++ [(r, v)])) from by rw [recs_snoc]; exact ho5)
      clear ho5 hg5 hm5 hlo hlo2 hg5'
      go_wp2_with (fail)
      refine (sortP_any 58 (.inl rfl) (l ++ [(r, v)]) (n + 1) c5 wr.heap.size A5 w5 (by rw [List.length_append, HLN.out]; rfl) (by omega) HO5.out).mono ?_
      rintro e w6 ⟨rfl, m, hperm, hlen, hsrt, ho6, hg6⟩
      have hlo : ∀ q, (Value.slice A5 (n + 1) c5).ownBlock = some q → wr.heap.size ≤ q := fun q hq => (HO5.out.lt q hq).1
      have hlo2 : ∀ q, (Value.slice A5 (n + 1) c5).ownBlock = some q → p < q := fun q hq => by have := hlo q hq; omega
      have HG6 := Lib.hid (grown_more HG5.out hg6 hlo)
      have HST6 := Lib.hid (HST5.out.row hg6 hlo2)
      have HO6 := Lib.hid ho6
      have hs6 := hg6.size
      have HMV := Lib.hid (show ∀ x ∈ m, x.1 < 7 ∧ PvOk x.2 from fun x hx => by
        have hx' := hperm.mem_iff.1 hx
        rw [List.mem_append, List.mem_singleton] at hx'
        rcases hx' with h | rfl
        · exact HGD.out.1.2 x h
        · exact ⟨h7, HV.out⟩)
      have HLM := Lib.hid hlen
      clear hperm hlen hsrt ho6 hg6 hlo hlo2
      go_wp2_with (fail)
      refine (propsFault_any m (n + 1) c5 A5 w6 HMV.out HLM.out (by omega) (own_row HO6.out) (HT.out _ (grown_trans HGW.out HG6.out))).mono ?_
      rintro e w7 ⟨⟨z, rfl, hz⟩, hb7⟩
      have hs7 := hb7.size
      have HO7 := Lib.hid (own_mono (own_belowP HO6.out hb7) hwsz)
      have HST7 := Lib.hid (HST6.out.below hb7)
      have HG7 := Lib.hid (grown_more HG6.out (grown_belowP (r := none) hb7) (by simp))
      have HOu := Lib.hid (own_kept HO.out HG7.out (by omega))
      have HZ := Lib.hid hz
      clear hz hb7
      by_cases h0 : z = 0
      · have HGM := Lib.hid (show PrsGood m from ⟨⟨(HZ.out h0).1, HMV.out⟩, cpF_upB (HZ.out h0).2⟩)
        subst h0
        go_wp2_with (fail)
        go_roundw
        case rel => exact ⟨j + 1, k' + 1 + 2, n + 1, m, by omega, by simp, HGM.out, HLM.out, by omega, HO7.out, HST7.out, by omega, grown_trans HGW.out HG7.out⟩
        case measure => simp [intOf]; omega
      · go_wp2_with (fail)
        go_roundw
        case rel => exact ⟨j + 1, k' + 1 + 2, n, l, by omega, by simp, HGD.out, HLN.out, by omega, HOu.out, HST7.out, by omega, grown_trans HGW.out HG7.out⟩
        case measure => simp [intOf]; omega
    · have hltI : ¬ (j : Int) < (N : Int) := by omega
      obtain ⟨A, c, rfl⟩ := own_slice hown
      have HF := Lib.hid (show RpPost w p k xs (.returned (.slice A n c)) wr from ⟨l, A, c, k', n, rfl, HGD.out, HLN.out, by omega, HO.out, HST.out, by omega, HGW.out⟩)
      clear hgood hln hown hst hgw
      go_wp2_with (fail)
      go_ret
      exact HF.out
end Go.Proofs.YtldlfgaaolehoaaGreatDoor
