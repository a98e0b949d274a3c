/- fleetref2.BucketsOf by its contract: the buckets of bktsOf. Printed by gen_BoB.py. -/
import Derived.Test.YtnmgfnnkcenfeaaGreatDoorBoI
import Derived.Test.YtnmgfnnkcenfeaaGreatDoorDl2
import Derived.Test.YtnmgfnnkcenfeaaGreatDoorMgA
namespace Go.Proofs.YtnmgfnnkcenfeaaGreatDoor
open Go.RowKit Go.Maps Go.WideMaps

theorem Tryz.infoIn : (Tryz.prog.info? 3).map (fun i => (i.zero, i.size, i.bytes)) = some (some (.int .i64 0), 1, 8) := by kernel_rfl
theorem bvL_sm {l : List Smp} (h : ∀ s ∈ l, -1000 ≤ s.2 ∧ s.2 ≤ 1000) (k : Int) : SmB (bvL l k) := by
  intro v hv
  unfold bvL at hv
  rw [List.mem_map] at hv
  obtain ⟨s, hs, rfl⟩ := hv
  exact h s (List.mem_filter.1 hs).1
theorem inB_win {x : Smp} (h : 0 ≤ x.1) : (decide ((0 : Int) ≤ x.1) && decide (x.1 < 5000)) = inB x := by
  unfold inB
  rw [decide_eq_true h, Bool.true_and]
theorem boL_step (O : List Int) (l : List Smp) {i : Nat} {k : Int} (h : O[i]? = some k) : bCells (((O.take (i + 1))).map (fun k => bkO k (bvL l k))) = bCells ((O.take i).map (fun k => bkO k (bvL l k))) ++ bktC (bkO k (bvL l k)) := by
  rw [List.take_add_one, h, List.map_append]
  exact bCells_snoc _ _
def BoPost (l : List Smp) (w : World) (e : Ending) (w' : World) : Prop :=
  ∃ (A : Option Addr) (c : Nat), e = .returned (.slice A (boL l).length c) ∧ w'.ownsRow w.heap.size 46 8 (.slice A (boL l).length c) (boL l).length (bCells (boL l)) ∧ Below w.heap.size w w'
set_option maxRecDepth 100000 in
set_option maxHeartbeats 8000000 in
theorem bucketsOf_any (l : List Smp) (n c : Nat) (A : Option Addr) (w : World) (hn : l.length = n) (hn2 : n ≤ 100) (hl : ∀ s ∈ l, (0 ≤ s.1 ∧ s.1 < 100000) ∧ -1000 ≤ s.2 ∧ s.2 ≤ 1000) (hr : Row w w.heap.size A (cellsOf l)) :
    Calls Tryz.prog 22 #[.slice A n c, .agg #[.int .i64 0, .int .i64 5000], .int .i64 10] w fun e w' => BoPost l w e w' := by
  obtain ⟨i0, hi0, hz0, hz1, hz2⟩ := info_parts Tryz.infoIn
  obtain ⟨i1, hi1, hy0, hy1, hy2⟩ := info_parts Tryz.infoB
  have hmk := @run_makeMap Tryz.prog
  have HR := Lib.hid hr
  have HN := Lib.hid hn
  have HL := Lib.hid hl
  clear hr hn hl
  go_enter Tryz.func22, Tryz.ntmps22
  go_upto_region 1 with (fail)
  obtain ⟨gw, egw⟩ : ∃ g, g = w.heap.size := ⟨_, rfl⟩
  obtain ⟨w1, e1⟩ : ∃ V : World, V = w.alloc (.cells #[.int .i64 0, .int .i64 5000] 41) := ⟨_, rfl⟩
  have hb1 : Below w.heap.size w w1 := by rw [e1]; exact (Below.refl _ _).alloc (Nat.le_refl _) _
  have hw1 : w1.heap[gw]? = some (.cells #[.int .i64 0, .int .i64 5000] 41 (0, 0)) := by rw [e1, egw]; exact heap_new w _
  have hgl := (Array.getElem?_eq_some_iff.1 hw1).1
  have HB1 := Lib.hid hb1
  have hs1 := hb1.size
  have HWN := Lib.hid (fun (V : World) (hV : Below w1.heap.size w1 V) => show V.cell? ⟨gw, 0, none⟩ = some (.int .i64 0) ∧ V.cell? ⟨gw, 1, none⟩ = some (.int .i64 5000) from by
    have h := (hV.block gw hgl).trans hw1
    exact ⟨cell_of_blk (j := 0) h rfl, cell_of_blk (j := 1) h rfl⟩)
  rw [← egw, ← e1]
  clear e1 egw hb1 hw1
  go_upto_region 2 with (fail)
  obtain ⟨m, em⟩ : ∃ g, g = w1.heap.size := ⟨_, rfl⟩
  obtain ⟨w2, e2⟩ : ∃ V : World, V = w1.alloc (.map #[] 0) := ⟨_, rfl⟩
  have hb2 : Below w1.heap.size w1 w2 := by rw [e2]; exact (Below.refl _ _).alloc (Nat.le_refl _) _
  have hm2 : ImI w2 m [] := by rw [e2, em]; exact heap_new w1 _
  have HI2 := Lib.hid (show BgI w1 w2 m [] (fun _ => .slice none 0 0) (fun k => bvL (l.take 0) k) (.slice none 0 0) (orL (l.take 0)) from
    ⟨hm2, fun _ => rfl, fun _ => World.ownsRow_nil _ _ _ _, fun _ _ _ _ h => (by cases h), fun _ h => (by cases h), World.ownsRow_nil _ _ _ _, fun _ _ h => (by cases h), fun h => (by cases h), hb2, by omega⟩)
  rw [← em, ← e2]
  clear e2 em hb2 hm2
  go_wp2_with (fail)
  go_loopw [8, 18] (fun vo s wr => ∃ (i no : Nat) (K : ImL) (v : Int → Value), i ≤ n ∧ s = .int .i64 (i : Int) ∧ (orL (l.take i)).length = no ∧ no ≤ i ∧ Hid (BgI w1 wr m K v (fun k => bvL (l.take i) k) vo (orL (l.take i)))) (fun _ s _ => n - (intOf s).toNat)
  case atStart => exact ⟨0, 0, [], _, by omega, rfl, rfl, Nat.le_refl _, HI2⟩
  case round =>
    obtain ⟨i, no, K, v, hin, rfl, hno, hnoi, HI⟩ := hrel
    obtain ⟨wa, rfl⟩ : ∃ wy : World, wy = wr := ⟨_, rfl⟩
    have hbs := HI.out.be.size
    have HNO := Lib.hid hno
    clear hno
    by_cases hlt : i < n
    · have hltI : (i : Int) < n := by omega
      obtain ⟨x, hx⟩ : ∃ x, l[i]? = some x := ⟨_, List.getElem?_eq_getElem (by have := HN.out; omega)⟩
      have hbw := HB1.out.trans (HI.out.be.mono hs1)
      obtain ⟨b, o, rfl, hb, hC⟩ := (HR.out.below hbw).pos (by have := List.length_pos_of_mem (List.mem_of_getElem? hx); omega)
      obtain ⟨c0, c1, c2, c3⟩ := smp_cells hC i x hx
      obtain ⟨⟨hx0, hx1⟩, hx2, hx3⟩ := HL.out x (List.mem_of_getElem? hx)
      have HTK := Lib.hid (show l.take (i + 1) = l.take i ++ [x] from by rw [List.take_add_one, hx]; rfl)
      have hblt : b < wa.heap.size := by omega
      clear hx hC hbw
      go_upto_region 6 with (fail)
      obtain ⟨gs, egs⟩ : ∃ g, g = wa.heap.size := ⟨_, rfl⟩
      obtain ⟨w5, e5⟩ : ∃ V : World, V = wa.alloc (.cells #[.string ⟨#[100]⟩, .string ⟨#[109]⟩, .int .i64 x.1, .int .i64 x.2] 37) := ⟨_, rfl⟩
      have hg5 : w5.heap[gs]? = some (.cells #[.string ⟨#[100]⟩, .string ⟨#[109]⟩, .int .i64 x.1, .int .i64 x.2] 37 (0, 0)) := by rw [e5, egs]; exact heap_new wa _
      have hb5 : Below wa.heap.size wa w5 := by rw [e5]; exact (Below.refl _ _).alloc (Nat.le_refl _) _
      have hlt5 := (Array.getElem?_eq_some_iff.1 hg5).1
      have HXB := Lib.hid (fun (V : World) (hV : V.heap[gs]? = w5.heap[gs]?) => show V.cell? ⟨gs, 2, none⟩ = some (.int .i64 x.1) ∧ V.cell? ⟨gs, 3, none⟩ = some (.int .i64 x.2) from by
        have h := hV.trans hg5
        exact ⟨cell_of_blk (j := 2) h rfl, cell_of_blk (j := 3) h rfl⟩)
      have HI5 := Lib.hid (HI.out.below hb5)
      have HGO := Lib.hid (fun q hq => show q < gs from by rw [egs]; exact (HI.out.ord.lt q hq).2)
      rw [← egs, ← e5]
      clear egs e5 hg5 hb5 c0 c1 c2 c3 HI hbs
      obtain ⟨k0, k1⟩ := HWN.out w5 HI5.out.be
      obtain ⟨q0, q1⟩ := HXB.out w5 rfl
      have hgl5 : gw < w5.heap.size := by have := HI5.out.be.size; omega
      have HWI := Lib.hid (within_any x.1 0 5000 w5)
      rw [inB_win hx0] at HWI
      go_wp2_with (fail)
      refine HWI.out.mono ?_
      obtain ⟨bb, ebb⟩ : ∃ t, t = inB x := ⟨_, rfl⟩
      rw [← ebb]
      have HBB := Lib.hid ebb
      clear ebb HWI k0 k1 q0 q1
      rintro e w6 ⟨rfl, hb6⟩
      have HBEw6 := Lib.hid (hb6.block gs hlt5)
      have HI6 := Lib.hid (HI5.out.below hb6)
      have hs6 := hb6.size
      clear hb6
      cases bb with
      | false =>
        have HIE := Lib.hid (show orL (l.take (i + 1)) = orL (l.take i) from by rw [HTK.out, orL_snoc, if_neg (fun h => by have := h.1; rw [← HBB.out] at this; cases this)])
        have HBE := Lib.hid (show (fun k => bvL (l.take (i + 1)) k) = (fun k => bvL (l.take i) k) from by
          funext k
          rw [HTK.out, bvL_snoc, if_neg (fun h => by have := h.1; rw [← HBB.out] at this; cases this)])
        go_wp2_with (fail)
        go_roundw
        case rel => exact ⟨i + 1, no, K, v, by omega, by go_num, by rw [HIE.out]; exact HNO.out, by omega, Lib.hid (by rw [HIE.out, HBE.out]; exact HI6.out)⟩
        case measure => simp [intOf]; omega
      | true =>
        have HIN := Lib.hid (show inB x = true from HBB.out.symm)
        obtain ⟨q0, q1⟩ := HXB.out w6 HBEw6.out
        have hgs6 : gs < w6.heap.size := by omega
        go_upto_region 8 with (fail)
        obtain ⟨k, ek⟩ : ∃ k, k = x.1 / 10 := ⟨_, rfl⟩
        have HKE := Lib.hid ek
        try rw [show x.1.tdiv 10 = x.1 / 10 from Int.tdiv_eq_ediv_of_nonneg hx0]
        rw [← ek]
        have hkr : 0 ≤ k ∧ k < 10000 := by omega
        clear ek q0 q1
        obtain ⟨XV, vc, hvs⟩ := own_slice (HI6.out.row k)
        obtain ⟨nn, enn⟩ : ∃ q, q = (bvL (l.take i) k).length := ⟨_, rfl⟩
        have hnn : nn ≤ i := by rw [enn]; exact Nat.le_trans (bvL_len _ _) (by rw [List.length_take]; omega)
        rw [← enn] at hvs
        have HVS := Lib.hid hvs
        have HNN := Lib.hid enn.symm
        have hlk := look_im (P := Tryz.prog) (k := k) (w := w6) (z := .slice none 0 0) Tryz.underlying109 Tryz.underlying3 (by kernel_rfl) HI6.out.map
        rw [HI6.out.look k, hvs] at hlk
        clear hvs enn
        by_cases hnz : nn = 0
        · subst hnz
          have hE : bvL (l.take i) k = [] := List.eq_nil_of_length_eq_zero HNN.out
          have HOE := Lib.hid (show orL (l.take (i + 1)) = orL (l.take i) ++ [k] from by rw [HTK.out, orL_snoc, if_pos ⟨HIN.out, by rw [← HKE.out]; exact hE⟩, ← HKE.out])
          have HNO2 := Lib.hid (show (orL (l.take (i + 1))).length = no + 1 from by rw [HOE.out, List.length_append, HNO.out]; rfl)
          clear hE
          go_upto_region 9 with (fail)
          have HRO := Lib.hid (show w6.ownsRow w1.heap.size 3 1 u8 no (inV (orL (l.take i))) from by rw [← HNO.out]; exact HI6.out.ord)
          have hbs6 := HI6.out.be.size
          go_wp2_with (at_builtin; refine wpList_append_own2 _ rfl _ _ 22 rfl w1.heap.size 3 i0 _ 1 8 Tryz.underlying22 hi0 hz0 hz1 hz2 rfl (by decide) _ _ _ rfl (HRO.out.alloc _) ⟨_, 0, none⟩ 1 1 (inV [k]) rfl rfl ?d1 ?d2 ?d3 ?d4 ?d5 ?_)
          case d1 => exact cells_add (Cells.new _ _ _ _ _ rfl)
          case d2 => exact inV_one _
          case d3 => unfold maxLen; omega
          case d4 => omega
          case d5 => first | omega | (simp only [World.size_alloc]; omega)
          intro v7 w7 ho7 hg7 hm7
          have HI7 := Lib.hid (BgI.app (k := k) (HI6.out.below ((Below.refl _ _).alloc (Nat.le_refl _) (.cells #[.int .i64 k] 3))) (by rw [List.length_append, HNO.out]; simpa [inV] using ho7) hg7 hm7)
          have HBEw7 := Lib.hid (show w7.heap[gs]? = w5.heap[gs]? from (hg7.block gs (by simp only [World.size_alloc]; omega) (fun e => by have := HGO.out gs e.symm; omega)).trans ((Below.heap_alloc _ _ _ hgs6).trans HBEw6.out))
          have hgs7 : gs < w7.heap.size := by have := hg7.size; simp only [World.size_alloc] at this; omega
          clear ho7 hg7 hm7 hlk
          go_upto_region 10 with (fail)
          have hlk := look_im (P := Tryz.prog) (k := k) (w := w7) (z := .slice none 0 0) Tryz.underlying109 Tryz.underlying3 (by kernel_rfl) HI7.out.map
          rw [HI7.out.look k, HVS.out] at hlk
          obtain ⟨q0, q1⟩ := HXB.out w7 HBEw7.out
          have HRX := Lib.hid (show w7.ownsRow w1.heap.size 3 1 (.slice XV 0 vc) 0 (inV (bvL (l.take i) k)) from by
            have := HI7.out.row k
            rw [HVS.out, HNN.out] at this
            exact this)
          have hbs9 := HI7.out.be.size
          go_wp2_with (at_builtin; refine wpList_append_own2 _ rfl _ _ 22 rfl w1.heap.size 3 i0 _ 1 8 Tryz.underlying22 hi0 hz0 hz1 hz2 rfl (by decide) _ _ _ rfl (HRX.out.alloc _) ⟨_, 0, none⟩ 1 1 (inV [x.2]) rfl rfl ?c1 ?c2 ?c3 ?c4 ?c5 ?_)
          case c1 => exact cells_add (Cells.new _ _ _ _ _ rfl)
          case c2 => exact inV_one _
          case c3 => unfold maxLen; omega
          case c4 => omega
          case c5 => first | omega | (simp only [World.size_alloc]; omega)
          intro v9 w9 ho9 hg9 hm9
          have HP9 := Lib.hid (BgI.put (k := k) (S' := fun j => bvL (l.take (i + 1)) j) (HI7.out.below ((Below.refl _ _).alloc (Nat.le_refl _) (.cells #[.int .i64 x.2] 3))) (y := x.2) (by
              rw [List.length_append, HNN.out]
              simpa [inV] using ho9) (by rw [HVS.out]; exact hg9) (by rw [HVS.out]; exact hm9) (fun j => by
              rw [HTK.out, bvL_snoc]
              by_cases hj : j = k
              · rw [if_pos hj, if_pos ⟨HIN.out, by rw [hj]; exact HKE.out.symm⟩, hj]
              · rw [if_neg hj, if_neg (fun h => hj (by rw [← h.2]; exact HKE.out.symm))]))
          have hup := upd_im (P := Tryz.prog) (k := k) (v := v9) Tryz.underlying109 Tryz.underlying3 HP9.out.1
          obtain ⟨w10, e10⟩ : ∃ V : World, V = { w9 with heap := w9.heap.setIfInBounds m (.map (imE 0 (imU k v9 K)).toArray (imU k v9 K).length) } := ⟨_, rfl⟩
          rw [← e10] at hup
          have HI10 := Lib.hid (show BgI w1 w10 m (imU k v9 K) (fun j => if j = k then v9 else v j) (fun j => bvL (l.take (i + 1)) j) v7 (orL (l.take (i + 1))) from by
            rw [e10, HOE.out]
            exact HP9.out.2)
          clear e10 HP9 ho9 hg9 hm9 hlk q0 q1 HRX
          go_wp2_with (fail)
          go_roundw
          case rel => exact ⟨i + 1, no + 1, imU k v9 K, _, by omega, by go_num, HNO2.out, by omega, HI10⟩
          case measure => simp [intOf]; omega
        · have hE : bvL (l.take i) k ≠ [] := fun e => hnz (by rw [← HNN.out, e]; rfl)
          have hnzI : ¬ (nn : Int) = 0 := by omega
          have HOE := Lib.hid (show orL (l.take (i + 1)) = orL (l.take i) from by rw [HTK.out, orL_snoc, if_neg (fun h => hE (by rw [HKE.out]; exact h.2))])
          have HNO2 := Lib.hid (show (orL (l.take (i + 1))).length = no from by rw [HOE.out, HNO.out])
          clear hE
          go_upto_region 10 with (fail)
          clear hlk
          have hlk := look_im (P := Tryz.prog) (k := k) (w := w6) (z := .slice none 0 0) Tryz.underlying109 Tryz.underlying3 (by kernel_rfl) HI6.out.map
          rw [HI6.out.look k, HVS.out] at hlk
          obtain ⟨q0, q1⟩ := HXB.out w6 HBEw6.out
          have HRX := Lib.hid (show w6.ownsRow w1.heap.size 3 1 (.slice XV nn vc) nn (inV (bvL (l.take i) k)) from by
            have := HI6.out.row k
            rw [HVS.out, HNN.out] at this
            exact this)
          have hbs9 := HI6.out.be.size
          go_wp2_with (at_builtin; refine wpList_append_own2 _ rfl _ _ 22 rfl w1.heap.size 3 i0 _ 1 8 Tryz.underlying22 hi0 hz0 hz1 hz2 rfl (by decide) _ _ _ rfl (HRX.out.alloc _) ⟨_, 0, none⟩ 1 1 (inV [x.2]) rfl rfl ?c1 ?c2 ?c3 ?c4 ?c5 ?_)
          case c1 => exact cells_add (Cells.new _ _ _ _ _ rfl)
          case c2 => exact inV_one _
          case c3 => unfold maxLen; omega
          case c4 => omega
          case c5 => first | omega | (simp only [World.size_alloc]; omega)
          intro v9 w9 ho9 hg9 hm9
          have HP9 := Lib.hid (BgI.put (k := k) (S' := fun j => bvL (l.take (i + 1)) j) (HI6.out.below ((Below.refl _ _).alloc (Nat.le_refl _) (.cells #[.int .i64 x.2] 3))) (y := x.2) (by
              rw [List.length_append, HNN.out]
              simpa [inV] using ho9) (by rw [HVS.out]; exact hg9) (by rw [HVS.out]; exact hm9) (fun j => by
              rw [HTK.out, bvL_snoc]
              by_cases hj : j = k
              · rw [if_pos hj, if_pos ⟨HIN.out, by rw [hj]; exact HKE.out.symm⟩, hj]
              · rw [if_neg hj, if_neg (fun h => hj (by rw [← h.2]; exact HKE.out.symm))]))
          have hup := upd_im (P := Tryz.prog) (k := k) (v := v9) Tryz.underlying109 Tryz.underlying3 HP9.out.1
          obtain ⟨w10, e10⟩ : ∃ V : World, V = { w9 with heap := w9.heap.setIfInBounds m (.map (imE 0 (imU k v9 K)).toArray (imU k v9 K).length) } := ⟨_, rfl⟩
          rw [← e10] at hup
          have HI10 := Lib.hid (show BgI w1 w10 m (imU k v9 K) (fun j => if j = k then v9 else v j) (fun j => bvL (l.take (i + 1)) j) u8 (orL (l.take (i + 1))) from by
            rw [e10, HOE.out]
            exact HP9.out.2)
          clear e10 HP9 ho9 hg9 hm9 hlk q0 q1 HRX
          go_wp2_with (fail)
          go_roundw
          case rel => exact ⟨i + 1, no, imU k v9 K, _, by omega, by go_num, HNO2.out, by omega, HI10⟩
          case measure => simp [intOf]; omega
    · have hltI : ¬ (i : Int) < n := by omega
      have htk : l.take i = l := List.take_of_length_le (by have := HN.out; omega)
      have hI := HI.out
      rw [htk] at hI HNO
      clear HI
      obtain ⟨O, eO⟩ : ∃ O, O = orL l := ⟨_, rfl⟩
      rw [← eO] at hI HNO
      obtain ⟨OA, oc, hos⟩ := own_slice hI.ord
      rw [HNO.out] at hos
      subst hos
      have HI := Lib.hid hI
      have HOE := Lib.hid eO
      have HOM := Lib.hid (fun (k : Int) (hk : k ∈ O) => show (0 ≤ k ∧ k < 10000) ∧ bvL l k ≠ [] from by
        rw [eO] at hk
        have h := (orL_mem l k).1 hk
        obtain ⟨s, hs, e⟩ := bvL_mem h
        have := HL.out s hs
        exact ⟨by omega, h⟩)
      have HSM := Lib.hid (fun k => bvL_sm (fun s hs => (HL.out s hs).2) k)
      have HRO := Lib.hid (show wa.ownsRow w1.heap.size 3 1 (.slice OA no oc) no (inV O) from by have := hI.ord; rw [HNO.out] at this; exact this)
      clear hI eO htk
      go_upto_region 13 with (fail)
      go_wp2_with (fail)
      go_loopw [12, 52] (fun vr s wr => ∃ (j : Nat), j ≤ no ∧ s = .int .i64 (j : Int) ∧ Hid (wr.ownsRow wa.heap.size 46 8 vr j (bCells ((O.take j).map (fun k => bkO k (bvL l k)))) ∧ Below wa.heap.size wa wr)) (fun _ s _ => no - (intOf s).toNat)
      case atStart => exact ⟨0, by omega, rfl, Lib.hid ⟨World.ownsRow_nil _ _ _ _, Below.refl _ _⟩⟩
      case round =>
        obtain ⟨j, hj, rfl, HJ⟩ := hrel
        obtain ⟨wb, rfl⟩ : ∃ wy : World, wy = wr := ⟨_, rfl⟩
        have hsb := HJ.out.2.size
        by_cases hjn : j < no
        · have hjI : (j : Int) < no := by omega
          obtain ⟨k, hk⟩ : ∃ k, O[j]? = some k := ⟨_, List.getElem?_eq_getElem (by have := HNO.out; omega)⟩
          obtain ⟨⟨hk0, hk1⟩, hkn⟩ := HOM.out k (List.mem_of_getElem? hk)
          have HBS := Lib.hid (boL_step O l hk)
          obtain ⟨go_, rfl, hgo⟩ : ∃ g, OA = some ⟨g, 0, none⟩ ∧ g < wa.heap.size := by
            rcases own_two HRO.out with ⟨_, h0, _⟩ | ⟨g, h1, h2, h3⟩
            · omega
            · exact ⟨g, h1, h3⟩
          have cO : wb.cell? ⟨go_, j, none⟩ = some (.int .i64 k) := by
            have h := own_cells0 HRO.out j _ (inV_get hk)
            rw [Nat.zero_add] at h
            exact (HJ.out.2.cell (p := ⟨go_, j, none⟩) hgo).trans h
          have hgob : go_ < wb.heap.size := by omega
          have HIb := Lib.hid (HI.out.below HJ.out.2)
          obtain ⟨XV, vc, hvs⟩ := own_slice (HIb.out.row k)
          obtain ⟨nn, enn⟩ : ∃ q, q = (bvL l k).length := ⟨_, rfl⟩
          have hnn : nn ≤ 100 := by rw [enn]; have := bvL_len l k; have := HN.out; omega
          have hn1 : 1 ≤ nn := by rw [enn]; exact List.length_pos_iff.2 hkn
          have hrow := HIb.out.row k
          rw [← enn] at hvs hrow
          rw [hvs] at hrow
          obtain ⟨gv, rfl, hgv⟩ : ∃ g, XV = some ⟨g, 0, none⟩ ∧ g < wb.heap.size := by
            rcases own_two hrow with ⟨_, h0, _⟩ | ⟨g, h1, h2, h3⟩
            · omega
            · exact ⟨g, h1, h3⟩
          have HBO := Lib.hid (bucketOf_any (k * 10) ((k + 1) * 10) (bvL l k) nn vc 0 gv wb enn.symm hn1 (by omega) (HSM.out k) hgv (own_cells0 hrow))
          have hlk := look_im (P := Tryz.prog) (k := k) (w := wb) (z := .slice none 0 0) Tryz.underlying109 Tryz.underlying3 (by kernel_rfl) HIb.out.map
          rw [HIb.out.look k, hvs] at hlk
          have HVB := Lib.hid (show bktC (bkO k (bvL l k)) = [.int .i64 (k * 10), .int .i64 ((k + 1) * 10), .int .i64 (nn : Int), .int .i64 (smL (bvL l k)), .int .i64 (mnL (bvL l k)), .int .i64 (mxL (bvL l k)), .int .i64 (fiL (bvL l k)), .int .i64 (laL (bvL l k))] from by
            unfold bktC bkO
            rw [← enn, show (k + 1) * 10 = k * 10 + 10 by omega])
          obtain ⟨b3, e3⟩ : ∃ z, z = smL (bvL l k) := ⟨_, rfl⟩
          obtain ⟨b4, e4⟩ : ∃ z, z = mnL (bvL l k) := ⟨_, rfl⟩
          obtain ⟨b5, e5⟩ : ∃ z, z = mxL (bvL l k) := ⟨_, rfl⟩
          obtain ⟨b6, e6⟩ : ∃ z, z = fiL (bvL l k) := ⟨_, rfl⟩
          obtain ⟨b7, e7⟩ : ∃ z, z = laL (bvL l k) := ⟨_, rfl⟩
          rw [← e3, ← e4, ← e5, ← e6, ← e7] at HBO HVB
          clear hvs enn hrow hkn hk e3 e4 e5 e6 e7 HIb
          go_wp2_with (fail)
          refine HBO.out.mono ?_
          rintro e w6 ⟨rfl, hb6⟩
          have HB6 := Lib.hid (HJ.out.2.trans (hb6.mono hsb))
          have HO6 := Lib.hid (own_belowP HJ.out.1 hb6)
          have hs6 := HB6.out.size
          clear hb6 HBO cO hlk
          go_wp2_with (at_builtin; refine wpList_append_own2 _ rfl _ _ 28 rfl wa.heap.size 46 i1 _ 8 64 Tryz.underlying28 hi1 hy0 hy1 hy2 rfl (by decide) _ _ _ rfl (HO6.out.alloc _) ⟨_, 0, none⟩ 1 1 (bktC (bkO k (bvL l k))) rfl rfl ?e1 ?e2 ?e3 ?e4 ?e5 ?_)
          case e1 => rw [HVB.out]; exact cells_add (Cells.new _ _ _ _ _ rfl)
          case e2 => exact bktC_one _
          case e3 => unfold maxLen; omega
          case e4 => omega
          case e5 => first | omega | (simp only [World.size_alloc]; omega)
          intro v9 w9 ho9 hg9 hm9
          have HJ9 := Lib.hid (show w9.ownsRow wa.heap.size 46 8 v9 (j + 1) (bCells ((O.take (j + 1)).map (fun k => bkO k (bvL l k)))) ∧ Below wa.heap.size wa w9 from ⟨by rw [HBS.out, List.map_take]; exact ho9, (HB6.out.alloc hs6 _).grown hg9 (by simp only [World.size_alloc]; omega) (fun g e => (HO6.out.lt g e).1)⟩)
          clear ho9 hg9 hm9
          go_wp2_with (fail)
          go_roundw
          case rel => exact ⟨j + 1, by omega, by go_num, HJ9⟩
          case measure => simp [intOf]; omega
        · have hjI : ¬ (j : Int) < no := by omega
          obtain ⟨RA, rc, hrs⟩ := own_slice HJ.out.1
          obtain rfl : j = no := by omega
          have HF := Lib.hid (show BoPost l w (.returned (.slice RA j rc)) wb from by
            have hlen : (boL l).length = j := by unfold boL; rw [List.length_map, ← HOE.out, HNO.out]
            refine ⟨RA, rc, by rw [hlen], ?_, HB1.out.trans ((HI.out.be.trans (HJ.out.2.mono HI.out.be.size)).mono hs1)⟩
            rw [hlen]
            have h := HJ.out.1
            rw [hrs, List.take_of_length_le (by rw [HNO.out]; omega)] at h
            have h2 : O.map (fun k => bkO k (bvL l k)) = boL l := by rw [HOE.out]; rfl
            rw [h2] at h
            exact own_mono h (by have := HI.out.be.size; omega))
          subst hrs
          go_wp2_with (fail)
          go_ret
          exact HF.out
end Go.Proofs.YtnmgfnnkcenfeaaGreatDoor
