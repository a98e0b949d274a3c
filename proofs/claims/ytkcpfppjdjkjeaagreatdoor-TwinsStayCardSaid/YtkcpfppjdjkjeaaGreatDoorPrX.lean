/- RightProps of the stream by its contract: good properties. -/
import Derived.Test.YtkcpfppjdjkjeaaGreatDoorPrA
import Derived.Test.YtkcpfppjdjkjeaaGreatDoorPrO
import Derived.Test.YtkcpfppjdjkjeaaGreatDoorPrW
namespace Go.Proofs.YtkcpfppjdjkjeaaGreatDoor
open Go.RowKit

def nmPk : List Nat := [0, 1, 3, 2, 5, 6, 4]
theorem nmPk_lt (j : Nat) (h : j < 7) : (nmPk.map nm).getD j ⟨#[]⟩ = nm (nmPk.getD j 0) ∧ nmPk.getD j 0 < 7 := by
  have : j = 0 ∨ j = 1 ∨ j = 2 ∨ j = 3 ∨ j = 4 ∨ j = 5 ∨ j = 6 := by omega
  rcases this with h | h | h | h | h | h | h <;> subst h <;> exact ⟨rfl, by decide⟩
/-- One more property, if the list is right then; the properties in turn; RightProps of the stream as a function of its list, and where it stands behind. -/
noncomputable def rpS (l : List Pr) (x : Pr) : List Pr := by
  classical
  exact if h : ∃ m : List Pr, m.Perm (l ++ [x]) ∧ PfOk m then Classical.choose h else l
noncomputable def rpL (xs : LiA) (k : Nat) : Nat → List Pr
  | 0 => []
  | j + 1 => rpS (rpL xs k j) (nmPk.getD (nextN xs (k + 3 * j) 7) 0, rvF xs (k + 3 * j + 1))
noncomputable def rpF (xs : LiA) (k : Nat) : List Pr × Nat := (rpL xs (k + 1) (nextN xs k 6), k + 1 + 3 * nextN xs k 6)
theorem rising_of {m : List Pr} (h7 : ∀ x ∈ m, x.1 < 7) (hs : m.Pairwise (fun x y => min x.1 6 ≤ min y.1 6)) {m' : List Pr} (hp : m.Perm m') (hr : m'.Pairwise (fun x y => x.1 < y.1)) : m.Pairwise (fun x y => x.1 < y.1) := by
  have hne : m'.Pairwise (fun x y : Pr => x.1 ≠ y.1) := hr.imp (fun h => by omega)
  have hne2 : m.Pairwise (fun x y : Pr => x.1 ≠ y.1) := (hp.pairwise_iff (fun h => fun e => h e.symm)).2 hne
  rw [List.pairwise_iff_getElem] at hs hne2 ⊢
  intro i j hi hj hij
  have h1 := hs i j hi hj hij
  have h2 := hne2 i j hi hj hij
  have h3 := h7 _ (List.getElem_mem hi)
  have h4 := h7 _ (List.getElem_mem hj)
  omega
theorem rpS_yes {l m : List Pr} {x : Pr} (hp : m.Perm (l ++ [x])) (ho : PfOk m) : m = rpS l x := by
  unfold rpS
  have hex : ∃ m : List Pr, m.Perm (l ++ [x]) ∧ PfOk m := ⟨m, hp, ho⟩
  rw [dif_pos hex]
  have hc := Classical.choose_spec hex
  exact ext_rising (fun p : Pr => p.1) _ _ ho.1 hc.2.1 (fun y => (hp.trans hc.1.symm).mem_iff)
theorem rpS_no {l m : List Pr} {x : Pr} (hp : m.Perm (l ++ [x])) (h7 : ∀ x ∈ m, x.1 < 7) (hs : m.Pairwise (fun x y => min x.1 6 ≤ min y.1 6)) (ho : ¬ PfOk m) : l = rpS l x := by
  unfold rpS
  rw [dif_neg]
  rintro ⟨m', hp', ho'⟩
  have hpp := hp.trans hp'.symm
  have hr := rising_of h7 hs hpp ho'.1
  have he : m = m' := ext_rising (fun p : Pr => p.1) _ _ hr ho'.1 (fun y => hpp.mem_iff)
  exact ho (he ▸ ho')
theorem rpL_step {xs : LiA} {k k' j r : Nat} {l m : List Pr} {v : Pv} (h : k' = k + 1 + 3 * j ∧ l = rpL xs (k + 1) j) (hr : r = nmPk.getD (nextN xs k' 7) 0) (hv : v = rvF xs (k' + 1)) (hm : m = rpS l (r, v)) :
    k' + 1 + 2 = k + 1 + 3 * (j + 1) ∧ m = rpL xs (k + 1) (j + 1) := by
  obtain ⟨h1, h2⟩ := h
  refine ⟨by omega, ?_⟩
  rw [rpL, show k + 1 + 3 * j = k' from h1.symm, hm, hr, hv, h2]
def RpfPost (w : World) (p k : Nat) (xs : LiA) (e : Ending) (w' : World) : Prop :=
  ∃ (l : List Pr) (A : Option Addr) (c k' n : Nat), e = .returned (.slice A n c) ∧ PrsGood l ∧ l.length = n ∧ n ≤ 5 ∧ w'.ownsRow w.heap.size 37 5 (.slice A n c) n (recs prC l) ∧ Strm w' p xs k' ∧ k' ≤ k + 16 ∧ w.grownBy w' (some p) ∧ (l, k') = rpF xs k
def RpPost (w : World) (p k : Nat) (xs : LiA) (e : Ending) (w' : World) : Prop :=
  ∃ (l : List Pr) (A : Option Addr) (c k' n : Nat), e = .returned (.slice A n c) ∧ PrsGood l ∧ l.length = n ∧ n ≤ 5 ∧ w'.ownsRow w.heap.size 37 5 (.slice A n c) n (recs prC l) ∧ Strm w' p xs k' ∧ k' ≤ k + 16 ∧ w.grownBy w' (some p)
set_option maxRecDepth 100000 in
set_option maxHeartbeats 4000000 in
theorem rightPropsF_any (w : World) (p k : Nat) (xs : LiA) (hk : k < 100000) (hs : Strm w p xs k) (hT : ∀ V, w.grownBy V (some p) → U8T V) :
    Calls Tryz.prog 5 #[.pointer (some ⟨p, 0, none⟩)] w fun e w' => RpfPost w p k xs e w' := by
  obtain ⟨i0, hi0, hz0, hz1, hz2⟩ := info_parts Tryz.infoP
  have hplt := hs.lt
  have HS := Lib.hid hs
  have HT := Lib.hid hT
  clear hs hT
  go_enter Tryz.func5, Tryz.ntmps5
  go_wp2_with (fail)
  have hN := nextN_lt xs k 6 (by omega)
  refine (range_nat w p k 5 xs (by omega) (by omega) HS.out).mono ?_
  obtain ⟨N, eN⟩ : ∃ N, N = nextN xs k 6 := ⟨_, rfl⟩
  rw [← eN] at hN ⊢
  rintro e w1 ⟨rfl, hst1, hg1⟩
  have HST1 := Lib.hid hst1
  have HG1 := Lib.hid hg1
  have HEN := Lib.hid eN
  clear hst1 hg1 eN
  go_wp2_with (fail)
  go_loopw [3, 7] (fun v s wr => ∃ (j k' n : Nat) (l : List Pr), j ≤ N ∧ s = .int .i64 (j : Int) ∧ PrsGood l ∧ l.length = n ∧ n ≤ j ∧ wr.ownsRow w.heap.size 37 5 v n (recs prC l) ∧ Strm wr p xs k' ∧ k' ≤ k + 1 + 3 * j ∧ w.grownBy wr (some p) ∧ Hid (k' = k + 1 + 3 * j ∧ l = rpL xs (k + 1) j)) (fun _ s _ => N - (intOf s).toNat)
  case atStart => exact ⟨0, k + 1, 0, [], Nat.zero_le _, rfl, ⟨⟨List.Pairwise.nil, by simp⟩, rfl⟩, rfl, Nat.le_refl _, World.ownsRow_nil _ _ _ _, HST1.out, by omega, HG1.out, Lib.hid ⟨rfl, rfl⟩⟩
  case round =>
    obtain ⟨j, k', n, l, hj, rfl, hgood, hln, hnj, hown, hst, hk', hgw, HFN⟩ := hrel
    have HGD := Lib.hid hgood
    have HLN := Lib.hid hln
    have HO := Lib.hid hown
    have HST := Lib.hid hst
    have HGW := Lib.hid hgw
    have hwsz := hgw.size
    have hplt2 := hst.lt
    by_cases hlt : j < N
    · have hltI : (j : Int) < (N : Int) := by omega
      obtain ⟨A, c, rfl⟩ := own_slice hown
      clear hgood hln hown hst hgw
      go_wp2_with (fail)
      refine (cloneP_any l n c w.heap.size A wr HLN.out (by omega) HO.out).mono ?_
      rintro e w2 ⟨v2, rfl, ho2, hb2⟩
      have hs2 := hb2.size
      have HO2 := Lib.hid ho2
      have HST2 := Lib.hid (HST.out.below hb2)
      have HG2 := Lib.hid (show wr.grownBy w2 (some p) from grown_belowP hb2)
      clear ho2 hb2
      go_wp2_with (fail)
      refine (some_any _ p k' w2.heap.size 7 7 xs (nmPk.map nm) (by omega) rfl (by omega) (by omega) (HST2.out.alloc _) (by omega) (Cells.new _ _ _ _ _ rfl)).mono ?_
      obtain ⟨h1, h7⟩ := nmPk_lt (nextN xs k' 7) (nextN_lt _ _ _ (by omega))
      rw [h1]
      obtain ⟨r, er⟩ : ∃ r, r = nmPk.getD (nextN xs k' 7) 0 := ⟨_, rfl⟩
      rw [← er] at h7 ⊢
      have HER := Lib.hid er
      clear er h1
      rintro e w3 ⟨rfl, hst3, hg3⟩
      have hg3' := grown_of_alloc hg3
      have hs3 := hg3'.size
      have HO3 := Lib.hid (own_kept HO2.out hg3' (by omega))
      have HST3 := Lib.hid hst3
      have HG3 := Lib.hid (grown_trans HG2.out hg3')
      clear hst3 hg3 hg3'
      go_wp2_with (fail)
      refine (rightValue_any w3 p (k' + 1) xs (by omega) HST3.out).mono ?_
      rintro e w4 ⟨v, rfl, hv, hst4, hg4, hvf⟩
      have HVF := Lib.hid hvf
      clear hvf
      have hs4 := hg4.size
      have HO4 := Lib.hid (own_kept HO3.out hg4 (by omega))
      have HST4 := Lib.hid hst4
      have HG4 := Lib.hid (grown_trans HG3.out hg4)
      have HV := Lib.hid hv
      have hlt4 := hst4.lt
      clear hst4 hg4 hv
      go_wp2_with (at_builtin; refine wpList_append_own2 _ rfl _ _ 28 rfl wr.heap.size 37 i0 _ 5 56 Tryz.underlying28 hi0 hz0 hz1 hz2 rfl (by decide) _ _ _ rfl (HO4.out.alloc _) ⟨_, 0, none⟩ 1 1 (prC (r, v)) rfl rfl ?c1 ?c2 ?c3 ?c4 ?c5 ?_)
      case c1 => exact cells_add (cells_atF rfl (by first | rfl | simp))
      case c2 => exact prC_one _
      case c3 => unfold maxLen; omega
      case c4 => omega
      case c5 => simp; omega
      intro v5 w5 ho5 hg5 hm5
      have hlo : ∀ q, v2.ownBlock = some q → wr.heap.size ≤ q := fun q hq => (HO4.out.lt q hq).1
      have hg5' : wr.grownBy w5 (some p) := grown_more (grown_trans HG4.out (World.grownBy_alloc _ _ (some p))) hg5 hlo
      have hlo2 : ∀ q, v2.ownBlock = some q → p < q := fun q hq => by have := hlo q hq; omega
      have HST5 := Lib.hid ((HST4.out.alloc _).row hg5 hlo2)
      have HG5 := Lib.hid hg5'
      have hs5 := hg5'.size
      obtain ⟨A5, c5, rfl⟩ := own_slice ho5
      have HO5 := Lib.hid (show w5.ownsRow wr.heap.size 37 5 (.slice A5 (n + 1) c5) (n + 1) (recs prC (l ++ [(r, v)])) from by rw [recs_snoc]; exact ho5)
      clear ho5 hg5 hm5 hlo hlo2 hg5'
      go_wp2_with (fail)
      refine (sortP_any 28 (.inl rfl) (l ++ [(r, v)]) (n + 1) c5 wr.heap.size A5 w5 (by rw [List.length_append, HLN.out]; rfl) (by omega) HO5.out).mono ?_
      rintro e w6 ⟨rfl, m, hperm, hlen, hsrt, ho6, hg6⟩
      have hlo : ∀ q, (Value.slice A5 (n + 1) c5).ownBlock = some q → wr.heap.size ≤ q := fun q hq => (HO5.out.lt q hq).1
      have hlo2 : ∀ q, (Value.slice A5 (n + 1) c5).ownBlock = some q → p < q := fun q hq => by have := hlo q hq; omega
      have HG6 := Lib.hid (grown_more HG5.out hg6 hlo)
      have HST6 := Lib.hid (HST5.out.row hg6 hlo2)
      have HO6 := Lib.hid ho6
      have hs6 := hg6.size
      have HMV := Lib.hid (show ∀ x ∈ m, x.1 < 7 ∧ PvOk x.2 from fun x hx => by
        have hx' := hperm.mem_iff.1 hx
        rw [List.mem_append, List.mem_singleton] at hx'
        rcases hx' with h | rfl
        · exact HGD.out.1.2 x h
        · exact ⟨h7, HV.out⟩)
      have HLM := Lib.hid hlen
      have HPM := Lib.hid (And.intro hperm hsrt)
      clear hperm hlen hsrt ho6 hg6 hlo hlo2
      go_wp2_with (fail)
      refine (propsFault_any m (n + 1) c5 A5 w6 HMV.out HLM.out (by omega) (own_row HO6.out) (HT.out _ (grown_trans HGW.out HG6.out))).mono ?_
      rintro e w7 ⟨⟨z, rfl, hz⟩, hb7⟩
      have hs7 := hb7.size
      have HO7 := Lib.hid (own_mono (own_belowP HO6.out hb7) hwsz)
      have HST7 := Lib.hid (HST6.out.below hb7)
      have HG7 := Lib.hid (grown_more HG6.out (grown_belowP (r := none) hb7) (by simp))
      have HOu := Lib.hid (own_kept HO.out HG7.out (by omega))
      have HZ := Lib.hid hz
      clear hz hb7
      by_cases h0 : z = 0
      · have HGM := Lib.hid (show PrsGood m from ⟨⟨(HZ.out.1 h0).1, HMV.out⟩, cpF_upB (HZ.out.1 h0).2.1⟩)
        have HFN2 := Lib.hid (rpL_step HFN.out HER.out HVF.out (rpS_yes HPM.out.1 (HZ.out.1 h0)))
        subst h0
        go_wp2_with (fail)
        go_roundw
        case rel => exact ⟨j + 1, k' + 1 + 2, n + 1, m, by omega, by simp, HGM.out, HLM.out, by omega, HO7.out, HST7.out, by omega, grown_trans HGW.out HG7.out, HFN2⟩
        case measure => simp [intOf]; omega
      · have HFN2 := Lib.hid (rpL_step HFN.out HER.out HVF.out (rpS_no HPM.out.1 (fun x hx => (HMV.out x hx).1) HPM.out.2 (fun hh => h0 (HZ.out.2 hh))))
        go_wp2_with (fail)
        go_roundw
        case rel => exact ⟨j + 1, k' + 1 + 2, n, l, by omega, by simp, HGD.out, HLN.out, by omega, HOu.out, HST7.out, by omega, grown_trans HGW.out HG7.out, HFN2⟩
        case measure => simp [intOf]; omega
    · have hltI : ¬ (j : Int) < (N : Int) := by omega
      obtain ⟨A, c, rfl⟩ := own_slice hown
      have HF := Lib.hid (show RpfPost w p k xs (.returned (.slice A n c)) wr from ⟨l, A, c, k', n, rfl, HGD.out, HLN.out, by omega, HO.out, HST.out, by omega, HGW.out, by
        obtain rfl : j = N := by omega
        rw [HFN.out.2, HFN.out.1, HEN.out]
        rfl⟩)
      clear hgood hln hown hst hgw
      go_wp2_with (fail)
      go_ret
      exact HF.out
theorem rightProps_any (w : World) (p k : Nat) (xs : LiA) (hk : k < 100000) (hs : Strm w p xs k) (hT : ∀ V, w.grownBy V (some p) → U8T V) :
    Calls Tryz.prog 5 #[.pointer (some ⟨p, 0, none⟩)] w fun e w' => RpPost w p k xs e w' :=
  (rightPropsF_any w p k xs hk hs hT).mono (fun _ _ ⟨l, A, c, k', n, h1, h2, h3, h4, h5, h6, h7, h8, _⟩ => ⟨l, A, c, k', n, h1, h2, h3, h4, h5, h6, h7, h8⟩)
end Go.Proofs.YtkcpfppjdjkjeaaGreatDoor
