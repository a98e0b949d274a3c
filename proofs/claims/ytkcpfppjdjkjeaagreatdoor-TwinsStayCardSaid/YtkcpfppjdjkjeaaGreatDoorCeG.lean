/- RightCells of the stream by its contract: right cells. Printed by gen_CeG.py. -/
import Derived.Test.YtkcpfppjdjkjeaaGreatDoorCeA
import Derived.Test.YtkcpfppjdjkjeaaGreatDoorCeS
import Derived.Test.YtkcpfppjdjkjeaaGreatDoorCeF
import Derived.Test.YtkcpfppjdjkjeaaGreatDoorMgC
namespace Go.Proofs.YtkcpfppjdjkjeaaGreatDoor
open Go.RowKit

theorem Tryz.infoCe : (Tryz.prog.info? 41).map (fun i => (i.zero, i.size, i.bytes)) = some (some (.agg #[.string ⟨#[]⟩, .int .i64 0, .bool false, .int .i64 0, .string ⟨#[]⟩, .int .i64 0, .string ⟨#[]⟩, .int .i64 0]), 8, 88) := by kernel_rfl
def ceBlk (x : Ce) : Obj := .cells #[.string (nm x.1), .int .i64 x.2.1.k, .bool x.2.1.f, .int .i64 x.2.1.n, .string x.2.1.s, .int .i64 x.2.2.at_, .string (byT x.2.2.by_), .int .i64 x.2.2.no] 41 (0, 0)
def CeB (V : World) (b : Nat) (x : Ce) : Prop :=
  V.cell? ⟨b, 0, none⟩ = some (.string (nm x.1)) ∧ V.cell? ⟨b, 1, none⟩ = some (.int .i64 x.2.1.k) ∧ V.cell? ⟨b, 2, none⟩ = some (.bool x.2.1.f) ∧ V.cell? ⟨b, 3, none⟩ = some (.int .i64 x.2.1.n) ∧ V.cell? ⟨b, 4, none⟩ = some (.string x.2.1.s) ∧ V.cell? ⟨b, 5, none⟩ = some (.int .i64 x.2.2.at_) ∧ V.cell? ⟨b, 6, none⟩ = some (.string (byT x.2.2.by_)) ∧ V.cell? ⟨b, 7, none⟩ = some (.int .i64 x.2.2.no)
theorem ce_blk {V : World} {b : Nat} {x : Ce} (h : V.heap[b]? = some (ceBlk x)) : CeB V b x :=
  ⟨cell_of_blk (j := 0) h rfl, cell_of_blk (j := 1) h rfl, cell_of_blk (j := 2) h rfl, cell_of_blk (j := 3) h rfl, cell_of_blk (j := 4) h rfl, cell_of_blk (j := 5) h rfl, cell_of_blk (j := 6) h rfl, cell_of_blk (j := 7) h rfl⟩
theorem ce_clear {V : World} {g : Nat} {x : Ce} (hV : V.heap[g]? = some (ceBlk x)) :
    ((((V.setCell ⟨g, 1, none⟩ (.int .i64 0)).setCell ⟨g, 2, none⟩ (.bool false)).setCell ⟨g, 3, none⟩ (.int .i64 0)).setCell ⟨g, 4, none⟩ (.string ⟨#[]⟩)).heap[g]? = some (ceBlk (x.1, pvNone, x.2.2)) ∧
    V.grownBy ((((V.setCell ⟨g, 1, none⟩ (.int .i64 0)).setCell ⟨g, 2, none⟩ (.bool false)).setCell ⟨g, 3, none⟩ (.int .i64 0)).setCell ⟨g, 4, none⟩ (.string ⟨#[]⟩)) (some g) := by
  unfold ceBlk at hV ⊢
  refine ⟨?_, ?_⟩
  · simp [World.setCell, Array.getElem?_modify, hV, pvNone]
  · exact grown_set (grown_set (grown_set (grown_set (grown_refl V (some g)) (q := ⟨g, 1, none⟩) (.inl rfl) _) (q := ⟨g, 2, none⟩) (.inl rfl) _) (q := ⟨g, 3, none⟩) (.inl rfl) _) (q := ⟨g, 4, none⟩) (.inl rfl) _
def cnPk : List Nat := [0, 0, 1, 3, 2, 5, 6, 4]
theorem cnPk_lt (j : Nat) (h : j < 8) : (cnPk.map nm).getD j ⟨#[]⟩ = nm (cnPk.getD j 0) ∧ cnPk.getD j 0 < 7 := by
  have : j = 0 ∨ j = 1 ∨ j = 2 ∨ j = 3 ∨ j = 4 ∨ j = 5 ∨ j = 6 ∨ j = 7 := by omega
  rcases this with h | h | h | h | h | h | h | h <;> subst h <;> exact ⟨rfl, by decide⟩
def CeOk9 (x : Ce) : Prop := x.1 < 7 ∧ CvOk x.2 ∧ x.2.2.at_ ≤ 9
/-- One cell; the cells in turn; RightCells of the stream as a function of its list, and where it stands behind. -/
def ceF (xs : LiA) (k : Nat) : Ce := (cnPk.getD (nextN xs k 8) 0, if nextV xs (k + 6) 3 = 0 then pvNone else rvF xs (k + 1), rsF xs (k + 3))
def lcF (xs : LiA) (k : Nat) : Nat → List Ce
  | 0 => []
  | j + 1 => lcF xs k j ++ [ceF xs (k + 7 * j)]
def rcF (xs : LiA) (k : Nat) : List Ce × Nat := (csN ceSm (srtC (lcF xs (k + 1) (nextN xs k 7))) (nextN xs k 7), k + 1 + 7 * nextN xs k 7)
theorem lcF_step {xs : LiA} {k k' j r : Nat} {l : List Ce} {v : Pv} {st : Sp} {b : Bool} (h : k' = k + 1 + 7 * j ∧ l = lcF xs (k + 1) j) (hr : r = cnPk.getD (nextN xs k' 8) 0) (hv : v = rvF xs (k' + 1)) (hs : st = rsF xs (k' + 1 + 2)) (hb : b = decide (nextV xs (k' + 1 + 2 + 3) 3 = 0)) :
    k' + 1 + 2 + 3 + 1 = k + 1 + 7 * (j + 1) ∧ l ++ [(r, if b = true then pvNone else v, st)] = lcF xs (k + 1) (j + 1) := by
  obtain ⟨h1, h2⟩ := h
  refine ⟨by omega, ?_⟩
  subst hr hv hs hb h2
  rw [lcF, show k + 1 + 7 * j = k' from h1.symm]
  unfold ceF
  simp only [decide_eq_true_eq, show k' + 6 = k' + 1 + 2 + 3 from rfl, show k' + 3 = k' + 1 + 2 from rfl]
def RcfPost (w : World) (p k : Nat) (xs : LiA) (e : Ending) (w' : World) : Prop :=
  ∃ (l : List Ce) (A : Option Addr) (c k' n : Nat), e = .returned (.slice A n c) ∧ CsOk l ∧ (∀ x ∈ l, x.2.2.at_ ≤ 9) ∧ l.length = n ∧ n ≤ 6 ∧ w'.ownsRow w.heap.size 41 8 (.slice A n c) n (recs ceC l) ∧ Strm w' p xs k' ∧ k' ≤ k + 50 ∧ w.grownBy w' (some p) ∧ (l, k') = rcF xs k
def RcPost (w : World) (p k : Nat) (xs : LiA) (e : Ending) (w' : World) : Prop :=
  ∃ (l : List Ce) (A : Option Addr) (c k' n : Nat), e = .returned (.slice A n c) ∧ CsOk l ∧ (∀ x ∈ l, x.2.2.at_ ≤ 9) ∧ l.length = n ∧ n ≤ 6 ∧ w'.ownsRow w.heap.size 41 8 (.slice A n c) n (recs ceC l) ∧ Strm w' p xs k' ∧ k' ≤ k + 50 ∧ w.grownBy w' (some p)
set_option maxRecDepth 100000 in
set_option maxHeartbeats 4000000 in
theorem rightCellsF_any (w : World) (p k : Nat) (xs : LiA) (hk : k < 100000) (hs : Strm w p xs k) :
    Calls Tryz.prog 4 #[.pointer (some ⟨p, 0, none⟩)] w fun e w' => RcfPost w p k xs e w' := by
  obtain ⟨i0, hi0, hz0, hz1, hz2⟩ := info_parts Tryz.infoCe
  have hplt := hs.lt
  have HS := Lib.hid hs
  clear hs
  go_enter Tryz.func4, Tryz.ntmps4
  go_wp2_with (fail)
  have hN := nextN_lt xs k 7 (by omega)
  refine (range_nat w p k 6 xs (by omega) (by omega) HS.out).mono ?_
  obtain ⟨N, eN⟩ : ∃ N, N = nextN xs k 7 := ⟨_, rfl⟩
  rw [← eN] at hN ⊢
  rintro e w1 ⟨rfl, hst1, hg1⟩
  have HST1 := Lib.hid hst1
  have HG1 := Lib.hid hg1
  have HEN := Lib.hid eN
  clear hst1 hg1 eN
  go_wp2_with (fail)
  go_loopw [3, 7] (fun v s wr => ∃ (j k' : Nat) (l : List Ce), j ≤ N ∧ s = .int .i64 (j : Int) ∧ (∀ x ∈ l, CeOk9 x) ∧ l.length = j ∧ wr.ownsRow w.heap.size 41 8 v j (recs ceC l) ∧ Strm wr p xs k' ∧ k' ≤ k + 1 + 7 * j ∧ w.grownBy wr (some p) ∧ Hid (k' = k + 1 + 7 * j ∧ l = lcF xs (k + 1) j)) (fun _ s _ => N - (intOf s).toNat)
  case atStart => exact ⟨0, k + 1, [], Nat.zero_le _, rfl, by simp, rfl, World.ownsRow_nil _ _ _ _, HST1.out, by omega, HG1.out, Lib.hid ⟨rfl, rfl⟩⟩
  case round =>
    obtain ⟨j, k', l, hj, rfl, hok, hln, hown, hst, hk', hgw, HFN⟩ := hrel
    have HOK := Lib.hid hok
    have HLN := Lib.hid hln
    have HO := Lib.hid hown
    have HST := Lib.hid hst
    have HGW := Lib.hid hgw
    have hwsz := hgw.size
    have hplt2 := hst.lt
    by_cases hlt : j < N
    · have hltI : (j : Int) < (N : Int) := by omega
      clear hok hln hown hst hgw
      go_wp2_with (fail)
      refine (some_any _ p k' wr.heap.size 8 8 xs (cnPk.map nm) (by omega) rfl (by omega) (by omega) (HST.out.alloc _) (by omega) (Cells.new _ _ _ _ _ rfl)).mono ?_
      obtain ⟨h1, h7⟩ := cnPk_lt (nextN xs k' 8) (nextN_lt _ _ _ (by omega))
      rw [h1]
      obtain ⟨r, er⟩ : ∃ r, r = cnPk.getD (nextN xs k' 8) 0 := ⟨_, rfl⟩
      rw [← er] at h7 ⊢
      have HER := Lib.hid er
      clear er h1
      rintro e w3 ⟨rfl, hst3, hg3⟩
      have hg3' := grown_of_alloc hg3
      have hs3 := hg3'.size
      have HO3 := Lib.hid (own_kept HO.out hg3' (by omega))
      have HST3 := Lib.hid hst3
      have HG3 := Lib.hid hg3'
      clear hst3 hg3 hg3'
      go_wp2_with (fail)
      refine (rightValue_any w3 p (k' + 1) xs (by omega) HST3.out).mono ?_
      rintro e w4 ⟨v, rfl, hv, hst4, hg4, hvf⟩
      have HVF := Lib.hid hvf
      clear hvf
      have hs4 := hg4.size
      have HO4 := Lib.hid (own_kept HO3.out hg4 (by omega))
      have HST4 := Lib.hid hst4
      have HG4 := Lib.hid (grown_trans HG3.out hg4)
      have HV := Lib.hid hv
      clear hst4 hg4 hv
      go_wp2_with (fail)
      refine (rightStamp_any w4 p (k' + 1 + 2) xs (by omega) HST4.out).mono ?_
      rintro e w5 ⟨st, rfl, hso, hs9, hst5, hg5, hsf⟩
      have HSF := Lib.hid hsf
      clear hsf
      have hs5 := hg5.size
      have HO5 := Lib.hid (own_kept HO4.out hg5 (by omega))
      have HST5 := Lib.hid hst5
      have HG5 := Lib.hid (grown_trans HG4.out hg5)
      have HSP := Lib.hid (And.intro hso hs9)
      have hlt5 := hst5.lt
      clear hst5 hg5 hso hs9
      go_wp2_with (fail)
      obtain ⟨g, eg⟩ : ∃ g, g = w5.heap.size := ⟨_, rfl⟩
      refine (flipD_any _ p (k' + 1 + 2 + 3) xs 3 (by omega) (by omega) (by omega) (HST5.out.alloc (ceBlk (r, v, st)))).mono ?_
      obtain ⟨bb, ebb⟩ : ∃ bb : Bool, bb = decide (nextV xs (k' + 1 + 2 + 3) 3 = 0) := ⟨_, rfl⟩
      rw [← ebb]
      have HFN2 := Lib.hid (lcF_step HFN.out HER.out HVF.out HSF.out ebb)
      clear ebb
      rintro e w6 ⟨rfl, hst6, hg6⟩
      have hg6' := grown_of_alloc hg6
      have hs6 := hg6.size
      simp only [World.size_alloc] at hs6
      have hb6 : w6.heap[g]? = some (ceBlk (r, v, st)) := by rw [eg]; exact (hg6.block w5.heap.size (by simp) (by intro e; injection e with e; omega)).trans (heap_new w5 _)
      have HO6 := Lib.hid (own_kept HO5.out hg6' (by omega))
      have HST6 := Lib.hid hst6
      have HG6 := Lib.hid (grown_trans HG5.out hg6')
      have HB6 := Lib.hid hb6
      have hgo : g < w6.heap.size := by omega
      have hpg : p < g := by omega
      have hwg : wr.heap.size ≤ g := by omega
      have HON := Lib.hid (fun q (hq : u3.ownBlock = some q) => show q ≠ g from by have := (HO5.out.lt q hq).2; omega)
      rw [← eg]
      clear hst6 hg6 hg6' eg
      cases bb
      · have HOx := HO6
        have HSx := HST6
        have HGx := HG6
        obtain ⟨q0, q1, q2, q3, q4, q5, q6, q7⟩ := ce_blk hb6
        simp only at q0 q1 q2 q3 q4 q5 q6 q7
        go_wp2_with (at_builtin; refine wpList_append_own2 _ rfl _ _ 26 rfl w.heap.size 41 i0 _ 8 88 Tryz.underlying26 hi0 hz0 hz1 hz2 rfl (by decide) _ _ _ rfl (HOx.out.alloc _) ⟨_, 0, none⟩ 1 1 (ceC (r, v, st)) rfl rfl ?c1 ?c2 ?c3 ?c4 ?c5 ?_)
        case c1 => first | exact cells_add (cells_atF (by rfl) (by first | rfl | simp)) | exact fun j u h => h
        case c2 => exact ceC_one _
        case c3 => unfold maxLen; omega
        case c4 => omega
        case c5 => first | omega | (simp; omega)
        intro v8 w8 ho8 hg8 hm8
        have hlo : ∀ q, u3.ownBlock = some q → w.heap.size ≤ q := fun q hq => (HOx.out.lt q hq).1
        have hlo2 : ∀ q, u3.ownBlock = some q → p < q := fun q hq => by have := hlo q hq; omega
        have HST8 := Lib.hid ((HSx.out.alloc _).row hg8 hlo2)
        have HG8 := Lib.hid (grown_more (grown_trans (grown_trans HGW.out HGx.out) (World.grownBy_alloc _ _ (some p))) hg8 hlo)
        have HO8 := Lib.hid ho8
        have HOK8 := Lib.hid (show ∀ y ∈ l ++ [(r, v, st)], CeOk9 y from fun y hy => by
          rw [List.mem_append, List.mem_singleton] at hy
          rcases hy with hy | rfl
          · exact HOK.out y hy
          · exact ⟨h7, ⟨.inr HV.out, HSP.out.1⟩, HSP.out.2⟩)
        clear ho8 hg8 hm8 hlo hlo2
        go_wp2_with (fail)
        go_roundw
        case rel => exact ⟨j + 1, k' + 1 + 2 + 3 + 1, l ++ [(r, v, st)], by omega, by simp, HOK8.out, by rw [List.length_append, HLN.out]; rfl, by rw [recs_snoc]; exact HO8.out, HST8.out, by omega, HG8.out, Lib.hid HFN2.out⟩
        case measure => simp [intOf]; omega
      · have n1 := cell_of_blk (j := 1) hb6 rfl
        have n2 := cell_of_blk (j := 2) hb6 rfl
        have n3 := cell_of_blk (j := 3) hb6 rfl
        have n4 := cell_of_blk (j := 4) hb6 rfl
        have fr : ∀ j, w6.frozen? ⟨g, j, none⟩ = false := by intro j; simp [World.frozen?, hb6, ceBlk]
        have fr1 := fr 1
        have fr2 := fr 2
        have fr3 := fr 3
        have fr4 := fr 4
        clear fr
        go_upto_region 7 with (fail)
        have hset := ce_clear hb6
        obtain ⟨w7, e7⟩ : ∃ w7, w7 = (((w6.setCell ⟨g, 1, none⟩ (.int .i64 0)).setCell ⟨g, 2, none⟩ (.bool false)).setCell ⟨g, 3, none⟩ (.int .i64 0)).setCell ⟨g, 4, none⟩ (.string ⟨#[]⟩) := ⟨_, rfl⟩
        rw [← e7] at hset ⊢
        have hb7 := hset.1
        have HOx := Lib.hid (own_neG HO6.out hset.2 HON.out)
        have HSx := Lib.hid (HST6.out.row hset.2 (fun q hq => by cases hq; exact hpg))
        have HGx := Lib.hid (grown_more HG6.out hset.2 (fun q hq => by cases hq; exact hwg))
        have hs7 := hset.2.size
        clear hset e7 n1 n2 n3 n4 fr1 fr2 fr3 fr4 hb6
        obtain ⟨q0, q1, q2, q3, q4, q5, q6, q7⟩ := ce_blk hb7
        simp only at q0 q1 q2 q3 q4 q5 q6 q7
        go_wp2_with (at_builtin; refine wpList_append_own2 _ rfl _ _ 26 rfl w.heap.size 41 i0 _ 8 88 Tryz.underlying26 hi0 hz0 hz1 hz2 rfl (by decide) _ _ _ rfl (HOx.out.alloc _) ⟨_, 0, none⟩ 1 1 (ceC (r, pvNone, st)) rfl rfl ?c1 ?c2 ?c3 ?c4 ?c5 ?_)
        case c1 => first | exact cells_add (cells_atF (by rfl) (by first | rfl | simp)) | exact fun j u h => h
        case c2 => exact ceC_one _
        case c3 => unfold maxLen; omega
        case c4 => omega
        case c5 => first | omega | (simp; omega)
        intro v8 w8 ho8 hg8 hm8
        have hlo : ∀ q, u3.ownBlock = some q → w.heap.size ≤ q := fun q hq => (HOx.out.lt q hq).1
        have hlo2 : ∀ q, u3.ownBlock = some q → p < q := fun q hq => by have := hlo q hq; omega
        have HST8 := Lib.hid ((HSx.out.alloc _).row hg8 hlo2)
        have HG8 := Lib.hid (grown_more (grown_trans (grown_trans HGW.out HGx.out) (World.grownBy_alloc _ _ (some p))) hg8 hlo)
        have HO8 := Lib.hid ho8
        have HOK8 := Lib.hid (show ∀ y ∈ l ++ [(r, pvNone, st)], CeOk9 y from fun y hy => by
          rw [List.mem_append, List.mem_singleton] at hy
          rcases hy with hy | rfl
          · exact HOK.out y hy
          · exact ⟨h7, ⟨.inl rfl, HSP.out.1⟩, HSP.out.2⟩)
        clear ho8 hg8 hm8 hlo hlo2
        go_wp2_with (fail)
        go_roundw
        case rel => exact ⟨j + 1, k' + 1 + 2 + 3 + 1, l ++ [(r, pvNone, st)], by omega, by simp, HOK8.out, by rw [List.length_append, HLN.out]; rfl, by rw [recs_snoc]; exact HO8.out, HST8.out, by omega, HG8.out, Lib.hid HFN2.out⟩
        case measure => simp [intOf]; omega
    · have hltI : ¬ (j : Int) < (N : Int) := by omega
      obtain ⟨A, c, rfl⟩ := own_slice hown
      clear hok hln hown hst hgw
      go_wp2_with (fail)
      refine (sortStable_any l j c w.heap.size A wr HLN.out (by omega) HO.out).mono ?_
      rintro e w2 ⟨rfl, m, hperm, hlen, hsrt, ho2, hg2, hmf⟩
      have HMF := Lib.hid hmf
      clear hmf
      have hlo : ∀ q, (Value.slice A j c).ownBlock = some q → w.heap.size ≤ q := fun q hq => (HO.out.lt q hq).1
      have hlo2 : ∀ q, (Value.slice A j c).ownBlock = some q → p < q := fun q hq => by have := hlo q hq; omega
      have HG2 := Lib.hid (grown_more HGW.out hg2 hlo)
      have HST2 := Lib.hid (HST.out.row hg2 hlo2)
      have HO2 := Lib.hid ho2
      have HM := Lib.hid (show ∀ x ∈ m, CeOk9 x from fun x hx => HOK.out x (hperm.mem_iff.1 hx))
      have HS2 := Lib.hid (show m.Pairwise (fun x y => x.1 ≤ y.1) from by
        rw [List.pairwise_iff_getElem] at hsrt ⊢
        intro a b ha hb hab
        have h1 := hsrt a b ha hb hab
        have h2 := (HM.out _ (List.getElem_mem ha)).1
        have h3 := (HM.out _ (List.getElem_mem hb)).1
        omega)
      have HLM := Lib.hid hlen
      clear hperm hlen hsrt ho2 hg2 hlo hlo2
      go_wp2_with (fail)
      refine (compactC_any m j c w.heap.size A w2 HS2.out (fun x hx => (HM.out x hx).1) HLM.out (by omega) HO2.out).mono ?_
      rintro e w3 ⟨m2, k2, rfl, hl2, hk2, hr2, hmem, ho3, hg3, hcf⟩
      have HCF := Lib.hid (show (m2, k') = rcF xs k from by
        obtain rfl : j = N := by omega
        rw [hcf, HMF.out, HFN.out.2, HFN.out.1, HEN.out]
        rfl)
      clear hcf
      have hlo : ∀ q, (Value.slice A j c).ownBlock = some q → w.heap.size ≤ q := fun q hq => (HO2.out.lt q hq).1
      have hlo2 : ∀ q, (Value.slice A j c).ownBlock = some q → p < q := fun q hq => by have := hlo q hq; omega
      have HF := Lib.hid (show RcfPost w p k xs (.returned (.slice A k2 c)) w3 from ⟨m2, A, c, k', k2, rfl, ⟨hr2, fun x hx => ⟨(HM.out x (hmem x hx)).1, (HM.out x (hmem x hx)).2.1⟩⟩, fun x hx => (HM.out x (hmem x hx)).2.2, hl2, by omega, ho3, HST2.out.row hg3 hlo2, by omega, grown_more HG2.out hg3 hlo, HCF.out⟩)
      clear hl2 hr2 hmem ho3 hg3 hlo hlo2
      go_wp2_with (fail)
      go_ret
      exact HF.out
theorem rightCells_any (w : World) (p k : Nat) (xs : LiA) (hk : k < 100000) (hs : Strm w p xs k) :
    Calls Tryz.prog 4 #[.pointer (some ⟨p, 0, none⟩)] w fun e w' => RcPost w p k xs e w' :=
  (rightCellsF_any w p k xs hk hs).mono (fun _ _ ⟨l, A, c, k', n, h1, h2, h3, h4, h5, h6, h7, h8, h9, _⟩ => ⟨l, A, c, k', n, h1, h2, h3, h4, h5, h6, h7, h8, h9⟩)
end Go.Proofs.YtkcpfppjdjkjeaaGreatDoor
