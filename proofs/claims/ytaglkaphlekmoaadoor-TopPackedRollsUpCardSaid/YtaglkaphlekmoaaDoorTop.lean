/- TopPackedRollsUp: the law function. -/
import Derived.Test.YtaglkaphlekmoaaDoorSerP
import Derived.Test.YtaglkaphlekmoaaDoorBuckets
import Derived.Test.YtaglkaphlekmoaaDoorUnpack
import Derived.Test.YtaglkaphlekmoaaDoorFacts
namespace Go.Proofs.YtaglkaphlekmoaaDoor
open Go.RowKit

theorem own_cap {w : World} {base : Nat} {e : TypeId} {size n : Nat} {A : Option Addr} {c : Nat} {xs : List Value} (h : w.ownsRow base e size (.slice A n c) n xs) : n ≤ c := by
  rcases h.2 with ⟨hv, hn⟩ | ⟨g, cap, cur, hv, _, _, hc, _⟩
  · omega
  · injection hv with _ _ hc'
    omega
theorem tot_le (l : List Smp) (h : ∀ s ∈ l, -100 ≤ s.2 ∧ s.2 ≤ 1000) : -(1000 * (l.length : Int)) ≤ tot (·.2) l ∧ tot (·.2) l ≤ 1000 * (l.length : Int) := by
  induction l with
  | nil => simp [tot]
  | cons x l ih =>
    have h1 := ih fun s hs => h s (by simp [hs])
    have h2 := h x (by simp)
    simp only [tot, List.length_cons]
    omega

set_option maxRecDepth 100000 in
set_option maxHeartbeats 4000000 in
theorem top_yes (w : World) (xs : List Int) (n c : Nat) (A : Option Addr) (hs : ∀ (W : World), Below w.heap.size w W → W.heap[w.heap.size]? = some (.cells #[.slice A n c, .int .i64 0] 25) → Strm W w.heap.size xs 0) :
    Calls Tryd.prog 3 #[.slice A n c] w fun e w' => e = .returned (.bool true) ∧ Below w.heap.size w w' := by
  have HS := Lib.hid hs
  clear hs
  go_enter Tryd.func3, Tryd.ntmps3
  go_wp2_with (fail)
  generalize hW : w.alloc (.cells #[.slice A n c, .int .i64 0] 25) = W
  have hWs : W.heap.size = w.heap.size + 1 := by rw [← hW]; simp
  have hB0 : Below w.heap.size w W := hW ▸ (Below.refl _ _).alloc (Nat.le_refl _) _
  have HS0 := Lib.hid (HS.out W hB0 (by rw [← hW]; exact heap_new w _))
  have HB0 := Lib.hid hB0
  clear hW hB0
  have hN := nextN_lt xs 0 15 (by omega)
  obtain ⟨N, eN⟩ : ∃ N, N = nextN xs 0 15 := ⟨_, rfl⟩
  obtain ⟨l, el⟩ : ∃ l, l = serL xs 1 (-100) N := ⟨_, rfl⟩
  have HF := Lib.hid (show Fine l from el ▸ serL_fine xs 1 N (by omega))
  have HN := Lib.hid (show l.length = N from el ▸ serL_length xs 1 (-100) N)
  have HT := Lib.hid (show ∀ s ∈ l, s.1 < 100000 from fun s hs => (HF.out.all s hs).1.2)
  refine (rightSeries_any W w.heap.size 0 14 (-100) xs (by omega) (by omega) HS0.out).mono ?_
  simp only [Nat.zero_add, Nat.reduceAdd]
  rw [← eN, ← el]
  rw [← eN] at hN
  clear el eN
  rintro e w1 ⟨v1, rfl, hown1, _, hg1⟩
  have hs1 := hg1.size
  obtain ⟨A1, c1, rfl⟩ := own_slice hown1
  have HO1 := Lib.hid hown1
  have HR1 := Lib.hid (own_row hown1)
  have HB1 := Lib.hid (HB0.out.grown hg1 (by omega) (fun g hg => by injection hg with hg; omega))
  clear hown1 hg1
  go_wp2_with (fail)
  refine (pack_any l N c1 A1 w1 HN.out HF.out.good HR1.out HF.out.steps).mono ?_
  rintro e w2 ⟨v2, rfl, hown2, hb2⟩
  have hs2 := hb2.size
  obtain ⟨A2, c2, rfl⟩ := own_slice hown2
  have hcap2 := own_cap hown2
  have HR2 := Lib.hid (own_row hown2)
  have HR1b := Lib.hid ((HR1.out.below hb2).mono hs2)
  have HB2 := Lib.hid (HB1.out.trans (hb2.mono (by omega)))
  clear hown2 hb2
  go_wp2_with (fail)
  refine (unpack_any l N (packL l).length c2 A2 w2 HN.out HF.out.good HF.out.steps rfl hcap2 HR2.out).mono ?_
  rintro e w3 ⟨v3, rfl, hown3, hb3⟩
  have hs3 := hb3.size
  obtain ⟨A3, c3, rfl⟩ := own_slice hown3
  have HR3 := Lib.hid (own_row hown3)
  have HR1c := Lib.hid ((HR1b.out.below hb3).mono hs3)
  have HB3 := Lib.hid (HB2.out.trans (hb3.mono (by omega)))
  clear hown3 hb3 HR1b HR1 HO1 HR2 HB2 HB1 hcap2
  go_wp2_with (fail)
  generalize hX : w3.alloc (.cells #[.int .i64 0, .int .i64 100000] 35) = X
  have hXs : w3.heap.size < X.heap.size := by rw [← hX]; simp
  have hBX : Below w3.heap.size w3 X := hX ▸ (Below.refl _ _).alloc (Nat.le_refl _) _
  have x0 : X.cell? ⟨w3.heap.size, 0, none⟩ = some (.int .i64 0) := by rw [← hX]; exact cell_of_blk (heap_new w3 _) rfl
  have x1 : X.cell? ⟨w3.heap.size, 1, none⟩ = some (.int .i64 100000) := by rw [← hX]; exact cell_of_blk (heap_new w3 _) rfl
  have HR3x := Lib.hid ((HR3.out.below hBX).mono (Nat.le_of_lt hXs))
  have HR1x := Lib.hid ((HR1c.out.below hBX).mono (Nat.le_of_lt hXs))
  have HBX := Lib.hid (HB3.out.trans (hBX.mono (by omega)))
  clear hX hBX HR3 HR1c HB3
  refine (buckets_any l N c1 A1 100000 50 X HN.out (by omega) HF.out.good HR1x.out (by omega) (by omega) (by omega) (by omega) HT.out).mono ?_
  rintro e w4 ⟨v4, rfl, hown4, hb4⟩
  have hs4 := hb4.size
  obtain ⟨bs, ebs⟩ : ∃ bs, bs = bktsOf 50 l := ⟨_, rfl⟩
  obtain ⟨m, em⟩ : ∃ m, m = bs.length := ⟨_, rfl⟩
  rw [← ebs, ← em] at hown4
  obtain ⟨A4, c4, rfl⟩ := own_slice hown4
  have z0 := (hb4.cell (p := ⟨w3.heap.size, 0, none⟩) hXs).trans x0
  have z1 := (hb4.cell (p := ⟨w3.heap.size, 1, none⟩) hXs).trans x1
  have HR4 := Lib.hid (own_row hown4)
  have HR3y := Lib.hid ((HR3x.out.below hb4).mono hs4)
  have HR1y := Lib.hid ((HR1x.out.below hb4).mono hs4)
  have HB4 := Lib.hid (HBX.out.trans (hb4.mono (by omega)))
  have HEB := Lib.hid (And.intro ebs em)
  clear hown4 hb4 x0 x1 HR3x HR1x HBX ebs em
  go_wp2_with (fail)
  refine (buckets_any l N c3 A3 100000 50 w4 HN.out (by omega) HF.out.good HR3y.out (by omega) (by omega) (by omega) (by omega) HT.out).mono ?_
  rw [← HEB.out.1, ← HEB.out.2]
  rintro e w5 ⟨v5, rfl, hown5, hb5⟩
  have hs5 := hb5.size
  obtain ⟨A5, c5, rfl⟩ := own_slice hown5
  have HR5 := Lib.hid (own_row hown5)
  have HR4y := Lib.hid ((HR4.out.below hb5).mono hs5)
  have HR1z := Lib.hid ((HR1y.out.below hb5).mono hs5)
  have HB5 := Lib.hid (HB4.out.trans (hb5.mono (by omega)))
  clear hown5 hb5 z0 z1 HR4 HR3y HR1y HB4
  have hmN : m ≤ N := by have h1 := bktsOf_length 50 l; have h2 := HN.out; have h3 := HEB.out.2; rw [HEB.out.1] at h3; omega
  by_cases hN0 : N = 0
  · have hm0 : m = 0 := by omega
    have hl : l = [] := List.eq_nil_of_length_eq_zero (by have := HN.out; omega)
    subst hN0
    subst hm0
    subst hl
    have HBS := Lib.hid (show bs = [] from HEB.out.1)
    go_wp2_with (fail)
    refine (wider_empty A4 c4 100000 w5 (by omega) (by omega)).mono ?_
    rintro e w6 ⟨rfl, hb6⟩
    have hs6 := hb6.size
    have HR5a := Lib.hid ((HR5.out.below hb6).mono hs6)
    have HR4a := Lib.hid ((HR4y.out.below hb6).mono hs6)
    have HB6 := Lib.hid (HB5.out.trans (hb6.mono (by omega)))
    clear hb6
    go_wp2_with (fail)
    refine wp_loop_rounds 1 ?_
    rw [rounds_succ]
    go_wp2_with (fail)
    refine (eqB_any bs 0 c4 c5 A4 A5 w6 (by rw [HBS.out]; rfl) (by omega) HR4a.out HR5a.out).mono ?_
    rintro e w7 ⟨rfl, hb7⟩
    have hs7 := hb7.size
    have HB7 := Lib.hid (HB6.out.trans (hb7.mono (by omega)))
    clear hb7
    go_wp2_with (fail)
    refine (h10facts_yes w7).mono ?_
    rintro e w8 ⟨rfl, hb8⟩
    have HB8 := Lib.hid (HB7.out.trans (hb8.mono (by omega)))
    clear hb8
    go_wp2_with (fail)
    go_ret
    exact ⟨rfl, HB8.out⟩
  · have hne : l ≠ [] := by intro h; have h2 := HN.out; rw [h] at h2; simp at h2; omega
    obtain ⟨z, ez, zs, zc, zl, zf⟩ := fine_wide HF.out hne
    rw [← HEB.out.1] at ez
    have hbne : bs ≠ [] := by intro h; rw [h] at ez; simp [widOf] at ez
    have hm0 : 0 < m := by have := HEB.out.2; have := List.length_pos_iff.2 hbne; omega
    obtain ⟨b, o, rfl, hb, hcs⟩ := Row.posB HR4y.out (by have := HEB.out.2; omega)
    have hGB := fine_goodBs HF.out
    rw [← HEB.out.1] at hGB
    have HGB := Lib.hid hGB
    have HEZ := Lib.hid ez
    have HZ := Lib.hid (And.intro zs (And.intro zc (And.intro zl zf)))
    clear hGB ez zs zc zl zf hcs
    go_wp2_with (fail)
    refine (wider_some bs m c4 b o 15 50 100000 w5 (by omega) (by omega) (by omega) (by omega) (by decide) HEB.out.2.symm hm0 (by omega) HGB.out ?_ (by omega) HR4y.out).mono ?_
    · intro x hx
      rw [HEB.out.1] at hx
      exact (bktsOf_ok 50 l (fun s hs => by have := HF.out.all s hs; omega) x hx).mono (by have := HN.out; omega)
    rw [HEZ.out]
    rintro e w6 ⟨v6, rfl, hown6, hb6⟩
    have hs6 := hb6.size
    obtain ⟨g6, c6, rfl⟩ : ∃ g c, v6 = .slice (some ⟨g, 0, none⟩) 1 c := by
      rcases hown6.2 with ⟨_, h⟩ | ⟨g, cap, cur, hv, _⟩
      · simp at h
      · exact ⟨g, cap, hv⟩
    have HO6 := Lib.hid hown6
    have HR5a := Lib.hid ((HR5.out.below hb6).mono hs6)
    have HR4a := Lib.hid ((HR4y.out.below hb6).mono hs6)
    have HR1a := Lib.hid ((HR1z.out.below hb6).mono hs6)
    have HB6 := Lib.hid (HB5.out.trans (hb6.mono (by omega)))
    clear hown6 hb6 HR5 HR4y HR1z HB5
    go_wp2_with (fail)
    go_loopw [16, 54] (fun s i wr => ∃ k : Nat, k ≤ N ∧ i = .int .i64 k ∧ s = .int .i64 (tot (·.2) (l.take k)) ∧ Below w6.heap.size w6 wr) (fun _ i _ => N - (intOf i).toNat)
    case atStart => exact ⟨0, Nat.zero_le _, rfl, by simp [tot], Below.refl _ _⟩
    case round =>
      obtain ⟨k, hk, rfl, rfl, hbl⟩ := hrel
      have hsz := hbl.size
      by_cases hlt : k < N
      · have hkl : k < l.length := by have := HN.out; omega
        obtain ⟨b1, o1, rfl, hb1, hcs⟩ := Row.pos HR1a.out (by omega)
        obtain ⟨x, hx⟩ : ∃ x, l[k]? = some x := ⟨_, List.getElem?_eq_getElem hkl⟩
        obtain ⟨q0, q1, q2, q3⟩ := smp_cells (hcs.keep (hbl.block b1 hb1)) k x hx
        have htk : l.take (k + 1) = l.take k ++ [x] := by rw [List.take_add_one, hx]; rfl
        have hbd := tot_le (l.take k) (fun s hs => (HF.out.all s (List.mem_of_mem_take hs)).2)
        have hll : (l.take k).length ≤ 15 := by simp only [List.length_take]; omega
        have hxv := (HF.out.all x (List.mem_of_getElem? hx)).2
        obtain ⟨T, eT⟩ : ∃ T, T = tot (·.2) (l.take k) := ⟨_, rfl⟩
        have HTK := Lib.hid (show tot (·.2) (l.take (k + 1)) = T + x.2 by rw [htk, tot_append, tot_one, eT])
        rw [← eT] at hbd ⊢
        obtain ⟨a, v⟩ := x
        simp only at hxv q2 q3
        have hw1 : IntKind.i64.wrap (T + v) = T + v := by rw [IntKind.wrap_i64]; omega
        have HBL := Lib.hid hbl
        have hlt' : (k : Int) < (N : Int) := by omega
        have hb1w : b1 < wr.heap.size := by omega
        clear hbl hx hkl hcs htk hbd hll eT
        go_wp2_with (fail)
        go_roundw
        case rel => exact ⟨k + 1, by omega, by go_num, by rw [HTK.out], HBL.out.alloc hsz _⟩
        case measure => simp [intOf]; omega
      · have hkn : k = N := by omega
        subst hkn
        have HBL := Lib.hid hbl
        have HT2 := Lib.hid (show l.take k = l by rw [List.take_of_length_le (by have := HN.out; omega)])
        rw [HT2.out]
        obtain ⟨M, rfl⟩ : ∃ M, k = M + 1 := ⟨k - 1, by omega⟩
        have HR5b := Lib.hid ((HR5a.out.below hbl).mono hsz)
        have HR4b := Lib.hid ((HR4a.out.below hbl).mono hsz)
        clear hbl
        go_wp2_with (fail)
        refine (eqB_any bs m c4 c5 _ A5 wr HEB.out.2.symm (by omega) HR4b.out HR5b.out).mono ?_
        rintro e w7 ⟨rfl, hb7⟩
        have hs7 := hb7.size
        have HB67 := Lib.hid (HBL.out.trans (hb7.mono hsz))
        have HR1b := Lib.hid ((HR1a.out.below HB67.out).mono (Nat.le_trans hsz hs7))
        have HO7 := Lib.hid (own_below HO6.out HB67.out)
        have HB7 := Lib.hid (HB6.out.trans (HB67.out.mono (by omega)))
        clear hb7
        go_wp2_with (fail)
        obtain ⟨b1, o1, rfl, hb1, hcs⟩ := Row.pos HR1b.out (by have := HN.out; omega)
        obtain ⟨y, hy⟩ : ∃ y, l[0]? = some y := ⟨_, List.getElem?_eq_getElem (by have := HN.out; omega)⟩
        obtain ⟨x, hx⟩ : ∃ x, l[M]? = some x := ⟨_, List.getElem?_eq_getElem (by have := HN.out; omega)⟩
        obtain ⟨_, _, _, q3⟩ := smp_cells hcs M x hx
        obtain ⟨_, _, _, r3⟩ := smp_cells hcs 0 y hy
        have d2 := HO7.out.cellAt 2 (by omega)
        have d3 := HO7.out.cellAt 3 (by omega)
        have d6 := HO7.out.cellAt 6 (by omega)
        have d7 := HO7.out.cellAt 7 (by omega)
        obtain ⟨zs, zc, zl, zf⟩ := HZ.out
        have zf2 : z.fi = y.2 := by
          rw [List.head?_eq_getElem?, hy] at zf
          simpa using zf
        have zl2 : z.la = x.2 := by
          rw [List.getLast?_eq_getElem?, HN.out, Nat.add_sub_cancel, hx] at zl
          simpa using zl
        have zc2 : z.cnt = (M : Int) + 1 := by rw [zc, HN.out]; simp
        obtain ⟨zfr, zto, zcnt, zsum, zmn, zmx, zfi, zla⟩ := z
        simp only at zs zc2 zf2 zl2
        subst zs zc2 zf2 zl2
        simp only [bCells, bktC, List.flatMap_cons, List.flatMap_nil, List.append_nil, List.getElem?_cons_zero, List.getElem?_cons_succ, Nat.zero_mul, Nat.add_zero] at d2 d3 d6 d7 r3
        obtain ⟨S, eS⟩ : ∃ S, S = tot (·.2) l := ⟨_, rfl⟩
        rw [← eS] at d3
        try rw [← eS]
        have hw6 : IntKind.i64.wrap ((M : Int) + 1 - 1) = (M : Int) := by rw [IntKind.wrap_i64]; omega
        have hw7 : IntKind.i64.wrap (((M + 1 : Nat) : Int) - 1) = (M : Int) := by rw [IntKind.wrap_i64]; omega
        have hM0 : (0 : Int) < (M : Int) + 1 := by omega
        have hM1 : (M : Int) < (M : Int) + 1 := by omega
        have hw8 : IntKind.i64.wrap (M : Int) = (M : Int) := by rw [IntKind.wrap_i64]; omega
        have hd8 : decide ((M : Int) < 0) = false := by simp
        have hM2 : M < M + 1 := by omega
        have hM3 : (M : Int) < ((M + 1 : Nat) : Int) := by omega
        have hM4 : (0 : Int) ≤ (M : Int) := by omega
        clear HZ HEZ HGB zc zl zf hy hx hcs eS hbne hne
        refine region_tail 46 (by kernel_rfl) (by kernel_rfl) ?_
        intro V hV
        rw [show ∀ a, w7.cell? a = V.cell? a from fun a => by rw [← hV]; rfl] at d2 d3 d6 d7 q3 r3
        have HBV := Lib.hid (below_to hV HB7.out)
        clear hV
        simp only [List.take_succ_cons, List.take_zero, List.drop_succ_cons, List.drop_zero]
        repeat still_step
        refine wpStill_nil ?_
        go_wp2_with (fail)
        refine (h10facts_yes V).mono ?_
        rintro e w8 ⟨rfl, hb8⟩
        have HB8 := Lib.hid (HBV.out.trans (hb8.mono HBV.out.size))
        clear hb8
        go_wp2_with (fail)
        go_ret
        exact ⟨rfl, HB8.out⟩
end Go.Proofs.YtaglkaphlekmoaaDoor
