/- RollUpsJoin: the law function. -/
import Derived.Test.YtaglkaphlekmoaaGreatDoorSlc
import Derived.Test.YtaglkaphlekmoaaGreatDoorSer1
import Derived.Test.YtaglkaphlekmoaaGreatDoorBuckets
import Derived.Test.YtaglkaphlekmoaaGreatDoorJoin
import Derived.Test.YtaglkaphlekmoaaGreatDoorReady
namespace Go.Proofs.YtaglkaphlekmoaaGreatDoor
open Go.RowKit

theorem own_cap {w : World} {base : Nat} {e : TypeId} {size n : Nat} {A : Option Addr} {c : Nat} {xs : List Value} (h : w.ownsRow base e size (.slice A n c) n xs) : n ≤ c := by
  rcases h.2 with ⟨hv, hn⟩ | ⟨g, cap, cur, hv, _, _, hc, _⟩
  · omega
  · injection hv with _ _ hc'
    omega
theorem own_two {w : World} {base : Nat} {e : TypeId} {size n : Nat} {A : Option Addr} {c : Nat} {xs : List Value} (h : w.ownsRow base e size (.slice A n c) n xs) : (A = none ∧ n = 0 ∧ c = 0) ∨ ∃ g, A = some ⟨g, 0, none⟩ := by
  rcases h.2 with ⟨hv, hn⟩ | ⟨g, cap, cur, hv, _, _, hc, _⟩
  · injection hv with h1 h2 h3
    exact .inl ⟨h1, hn, h3⟩
  · injection hv with h1 h2 h3
    exact .inr ⟨g, h1⟩

theorem wider_any (l : List Bkt) (n c k : Nat) (A : Option Addr) (L M : Int) (w : World) (hL : 1 ≤ L) (hL2 : L ≤ 345686400000) (hM : 1 ≤ M) (hM2 : M ≤ 345686400000) (hML : M.tmod L = 0) (hn : l.length = n) (hn2 : n ≤ 1000)
    (hg : GoodBs L l) (hk : ∀ x ∈ l, BOk L k x) (hnk : n * k ≤ 1000) (hr : Row w w.heap.size A (bCells l)) :
    Calls Tryz.prog 33 #[.slice A n c, .int .i64 M] w fun e w' => ∃ v, e = .returned (.tuple #[v, .int .i64 0]) ∧ w'.ownsRow w.heap.size 84 8 v (widOf M l).length (bCells (widOf M l)) ∧ Below w.heap.size w w' := by
  rcases Nat.eq_zero_or_pos n with h0 | h0
  · subst h0
    obtain rfl : l = [] := List.eq_nil_of_length_eq_zero hn
    refine (wider_empty A c M w hM hM2).mono ?_
    rintro e w' ⟨rfl, hb⟩
    exact ⟨_, rfl, by simpa [widOf, bCells] using World.ownsRow_nil _ _ _ _, hb⟩
  · obtain ⟨b, o, rfl, hb, hcs⟩ := Row.posB hr (by omega)
    exact wider_some l n c b o k L M w hL hL2 hM hM2 hML hn h0 hn2 hg hk hnk hr

theorem tot_cnt_le {α : Type} (f : α → Int) (l : List α) (h : ∀ x ∈ l, 0 ≤ f x ∧ f x ≤ 15) : 0 ≤ tot f l ∧ tot f l ≤ 15 * (l.length : Int) := by
  induction l with
  | nil => simp [tot]
  | cons x l ih =>
    have h1 := ih fun s hs => h s (by simp [hs])
    have h2 := h x (by simp)
    simp only [tot, List.length_cons]
    omega

def lenPicks : List Int := [1, 5, 10, 100]
theorem lenPicks_range (j : Nat) (h : j < 4) : 1 ≤ lenPicks.getD j 0 ∧ lenPicks.getD j 0 ≤ 100 := by
  have : j = 0 ∨ j = 1 ∨ j = 2 ∨ j = 3 := by omega
  rcases this with h | h | h | h <;> subst h <;> decide

set_option maxRecDepth 100000 in
set_option maxHeartbeats 4000000 in
theorem rup_yes (w : World) (xs : List Int) (n c : Nat) (A : Option Addr) (hs : ∀ (W : World), Below w.heap.size w W → W.heap[w.heap.size]? = some (.cells #[.slice A n c, .int .i64 0] 25) → Strm W w.heap.size xs 0) :
    Calls Tryz.prog 8 #[.slice A n c] w fun e w' => e = .returned (.bool true) ∧ Below w.heap.size w w' := by
  have HS := Lib.hid hs
  clear hs
  go_enter Tryz.func8, Tryz.ntmps8
  go_wp2_with (fail)
  generalize hW : w.alloc (.cells #[.slice A n c, .int .i64 0] 25) = W
  have hWs : W.heap.size = w.heap.size + 1 := by rw [← hW]; simp
  have hB0 : Below w.heap.size w W := hW ▸ (Below.refl _ _).alloc (Nat.le_refl _) _
  have HS0 := Lib.hid (HS.out W hB0 (by rw [← hW]; exact heap_new w _))
  have HB0 := Lib.hid hB0
  clear hW hB0 HS
  have hN := nextN_lt xs 0 15 (by omega)
  obtain ⟨N, eN⟩ : ∃ N, N = nextN xs 0 15 := ⟨_, rfl⟩
  obtain ⟨l, el⟩ : ∃ l, l = serL xs 1 (-100) N := ⟨_, rfl⟩
  have HF := Lib.hid (show Fine l from el ▸ serL_fine xs 1 N (by omega))
  have HN := Lib.hid (show l.length = N from el ▸ serL_length xs 1 (-100) N)
  have HT := Lib.hid (show ∀ s ∈ l, s.1 < 100000 from fun s hs => (HF.out.all s hs).1.2)
  refine (rightSeries_any W w.heap.size 0 14 (-100) xs (by omega) (by omega) HS0.out).mono ?_
  simp only [Nat.zero_add, Nat.reduceAdd]
  rw [← eN, ← el]
  rw [← eN] at hN
  clear el eN
  rintro e w1 ⟨v1, rfl, hown1, hst1, hg1⟩
  have hs1 := hg1.size
  obtain ⟨A1, c1, rfl⟩ := own_slice hown1
  have HO1 := Lib.hid hown1
  have HST1 := Lib.hid hst1
  have HG1 := Lib.hid hg1
  clear hown1 hg1 hst1 HS0
  go_wp2_with (fail)
  refine (pick_any _ w.heap.size (1 + 2 * N) _ 4 4 xs lenPicks (by omega) rfl (by omega) (by omega) (HST1.out.alloc _) (by omega) (Cells.new _ _ _ _ _ rfl)).mono ?_
  rintro e w2 ⟨rfl, hst2, hg2⟩
  have hs2 := hg2.size
  simp only [World.size_alloc] at hs2
  have hL := lenPicks_range (nextN xs (1 + 2 * N) 4) (nextN_lt _ _ _ (by omega))
  generalize lenPicks.getD (nextN xs (1 + 2 * N) 4) 0 = L at hL ⊢
  have HO2 := Lib.hid (own_kept (HO1.out.alloc (.cells (List.map (Value.int .i64) lenPicks).toArray 3)) hg2 (by omega))
  have HG2 := Lib.hid (grown_trans (grown_alloc HG1.out _) hg2)
  have HST2 := Lib.hid hst2
  clear hst2 hg2 HO1 HG1 HST1
  go_wp2_with (fail)
  refine (range_any w2 w.heap.size (1 + 2 * N + 1) xs 1 6 (by omega) (by omega) (by omega) (by omega) (by omega) HST2.out).mono ?_
  rintro e w3 ⟨rfl, hst3, hg3⟩
  have hs3 := hg3.size
  have hT := nextV_range xs (1 + 2 * N + 1) (6 - 1 + 1) (by omega)
  obtain ⟨T, eT⟩ : ∃ T, T = 1 + nextV xs (1 + 2 * N + 1) (6 - 1 + 1) := ⟨_, rfl⟩
  rw [← eT]
  have hT1 : 1 ≤ T ∧ T ≤ 6 := by omega
  have HO3 := Lib.hid (own_kept HO2.out hg3 (by omega))
  have HG3 := Lib.hid (grown_trans HG2.out hg3)
  have HST3 := Lib.hid hst3
  clear hst3 hg3 HO2 HG2 HST2 eT hT
  go_wp2_with (fail)
  refine (range_nat w3 w.heap.size (1 + 2 * N + 1 + 1) N xs (by omega) (by omega) HST3.out).mono ?_
  rintro e w4 ⟨rfl, hst4, hg4⟩
  have hs4 := hg4.size
  have hK := nextN_lt xs (1 + 2 * N + 1 + 1) (N + 1) (by omega)
  generalize nextN xs (1 + 2 * N + 1 + 1) (N + 1) = K at hK ⊢
  have hown4 := own_kept HO3.out hg4 (by omega)
  have hcap := own_cap hown4
  have HTW := Lib.hid (own_two hown4)
  have HR4 := Lib.hid (own_row hown4)
  have HB4 := Lib.hid (HB0.out.grown (grown_trans HG3.out hg4) (by omega) (fun g hg => by injection hg with hg; omega))
  clear hst4 hg4 HO3 HG3 HST3 hown4
  go_wp2_with (fail)
  generalize hX : w4.alloc (.cells #[.int .i64 0, .int .i64 100000] 47) = X
  have hXs : w4.heap.size < X.heap.size := by rw [← hX]; simp
  have hBX : Below w4.heap.size w4 X := hX ▸ (Below.refl _ _).alloc (Nat.le_refl _) _
  have HX0 := Lib.hid (show X.cell? ⟨w4.heap.size, 0, none⟩ = some (.int .i64 0) by rw [← hX]; exact cell_of_blk (heap_new w4 _) rfl)
  have HX1 := Lib.hid (show X.cell? ⟨w4.heap.size, 1, none⟩ = some (.int .i64 100000) by rw [← hX]; exact cell_of_blk (heap_new w4 _) rfl)
  have HRX := Lib.hid ((HR4.out.below hBX).mono (Nat.le_of_lt hXs))
  have HBX := Lib.hid (HB4.out.trans (hBX.mono (by omega)))
  clear hX hBX HR4 HB4
  refine (buckets_any l N c1 A1 100000 L X HN.out (by omega) HF.out.good HRX.out (by omega) (by omega) (by omega) (by omega) HT.out).mono ?_
  rintro e w5 ⟨v5, rfl, hown5, hb5⟩
  have hs5 := hb5.size
  obtain ⟨bs, ebs⟩ : ∃ bs, bs = bktsOf L l := ⟨_, rfl⟩
  obtain ⟨m, em⟩ : ∃ m, m = bs.length := ⟨_, rfl⟩
  rw [← ebs, ← em] at hown5
  obtain ⟨A5, c5, rfl⟩ := own_slice hown5
  have HEB := Lib.hid (And.intro ebs em)
  have z0 := (hb5.cell (p := ⟨w4.heap.size, 0, none⟩) hXs).trans HX0.out
  have z1 := (hb5.cell (p := ⟨w4.heap.size, 1, none⟩) hXs).trans HX1.out
  have HRB5 := Lib.hid (own_row hown5)
  have HRS5 := Lib.hid ((HRX.out.below hb5).mono hs5)
  have HB5 := Lib.hid (HBX.out.trans (hb5.mono (by omega)))
  clear hown5 hb5 ebs em
  -- the first part
  go_upto_region 6 with (fail)
  go_cut [11, 12] (fun s11 s12 wx => ∃ ba m1 A6 c6, ba = bktsOf L (l.take K) ∧ m1 = ba.length ∧ s11 = .slice A6 m1 c6 ∧ s12 = .int .i64 0 ∧ wx.ownsRow w5.heap.size 84 8 (.slice A6 m1 c6) m1 (bCells ba) ∧ Below w5.heap.size w5 wx)
  case first =>
    have HLT := Lib.hid (show (l.take K).length = K by rw [List.length_take, HN.out]; omega)
    have HRT := Lib.hid (show ∀ V : World, Below w5.heap.size w5 V → Row V V.heap.size A1 (cellsOf (l.take K)) from fun V hV => ((HRS5.out.below hV).mono hV.size).take_ K)
    have HBU := Lib.hid (fun (V : World) (hV : Below w5.heap.size w5 V) => buckets_any (l.take K) K c1 A1 100000 L V HLT.out (by omega) (HF.out.good.take K) (HRT.out V hV) (by omega) (by omega) (by omega) (by omega) (fun s hs => HT.out s (List.mem_of_mem_take hs)))
    have hKc : (K : Int) ≤ (c1 : Int) := by omega
    have hK0 : (0 : Int) ≤ (K : Int) := by omega
    have hKc' : K ≤ c1 := by omega
    rcases HTW.out with ⟨rfl, rfl, rfl⟩ | ⟨g, rfl⟩
    · obtain rfl : K = 0 := by omega
      have BU := Lib.hid (HBU.out w5.drew ((Below.refl _ _).drew))
      have HCZ := Lib.hid (fun (w6 : World) (h2 : Below w5.drew.heap.size w5.drew w6) => And.intro ((h2.cell (p := ⟨w4.heap.size, 0, none⟩) (by show w4.heap.size < w5.heap.size; omega)).trans z0) ((h2.cell (p := ⟨w4.heap.size, 1, none⟩) (by show w4.heap.size < w5.heap.size; omega)).trans z1))
      go_region_held3 (fun w' => w'.cell? ⟨w4.heap.size, 0, none⟩ = some (.int .i64 0) ∧ w'.cell? ⟨w4.heap.size, 1, none⟩ = some (.int .i64 100000))
        (first | go_keep | (exact hS))
        ((go_at_call 31; refine BU.out.mono ?_; rintro e w6 ⟨v6, rfl, h1, h2⟩; have hS := HCZ.out w6 h2))
      obtain ⟨A6, c6, rfl⟩ := own_slice h1
      go_wp2_with (fail)
      go_meet
      exact ⟨_, _, A6, c6, rfl, rfl, rfl, rfl, h1, ((Below.refl _ _).drew).trans h2⟩
    · have BU := Lib.hid (HBU.out w5.drew ((Below.refl _ _).drew))
      have HCZ := Lib.hid (fun (w6 : World) (h2 : Below w5.drew.heap.size w5.drew w6) => And.intro ((h2.cell (p := ⟨w4.heap.size, 0, none⟩) (by show w4.heap.size < w5.heap.size; omega)).trans z0) ((h2.cell (p := ⟨w4.heap.size, 1, none⟩) (by show w4.heap.size < w5.heap.size; omega)).trans z1))
      go_region_held3 (fun w' => w'.cell? ⟨w4.heap.size, 0, none⟩ = some (.int .i64 0) ∧ w'.cell? ⟨w4.heap.size, 1, none⟩ = some (.int .i64 100000))
        (first | go_keep | (exact hS))
        ((go_at_call 31; refine BU.out.mono ?_; rintro e w6 ⟨v6, rfl, h1, h2⟩; have hS := HCZ.out w6 h2))
      obtain ⟨A6, c6, rfl⟩ := own_slice h1
      go_wp2_with (fail)
      go_meet
      exact ⟨_, _, A6, c6, rfl, rfl, rfl, rfl, h1, ((Below.refl _ _).drew).trans h2⟩
  case rest =>
    obtain ⟨ba, m1, A6, c6, hba, hm1, rfl, rfl, hown6, hb6⟩ := hcut
    obtain ⟨w6, rfl⟩ : ∃ w6 : World, w6 = wc := ⟨_, rfl⟩
    have hs6 := hb6.size
    have hcap6 := own_cap hown6
    have y0 := (hb6.cell (p := ⟨w4.heap.size, 0, none⟩) (by show w4.heap.size < w5.heap.size; omega)).trans z0
    have y1 := (hb6.cell (p := ⟨w4.heap.size, 1, none⟩) (by show w4.heap.size < w5.heap.size; omega)).trans z1
    have HEA := Lib.hid (And.intro hba hm1)
    have HRA6 := Lib.hid (own_row hown6)
    have HRB6 := Lib.hid ((HRB5.out.below hb6).mono hs6)
    have HRS6 := Lib.hid ((HRS5.out.below hb6).mono hs6)
    have HB6 := Lib.hid (HB5.out.trans (hb6.mono (by omega)))
    clear hba hm1 hown6 hb6 z0 z1 HRB5 HRS5 HB5
    -- the second part
    go_upto_region 7 with (fail)
    go_cut [13, 14] (fun s13 s14 wx => ∃ bb m2 A7 c7, bb = bktsOf L (l.drop K) ∧ m2 = bb.length ∧ s13 = .slice A7 m2 c7 ∧ s14 = .int .i64 0 ∧ wx.ownsRow w6.heap.size 84 8 (.slice A7 m2 c7) m2 (bCells bb) ∧ Below w6.heap.size w6 wx)
    case first =>
      have HLT := Lib.hid (show (l.drop K).length = N - K by rw [List.length_drop, HN.out])
      have HBU := Lib.hid (fun (V : World) (Z : Option Addr) (cz : Nat) (hR : Row V V.heap.size Z (cellsOf (l.drop K))) => buckets_any (l.drop K) (N - K) cz Z 100000 L V HLT.out (by omega) (HF.out.good.drop K) hR (by omega) (by omega) (by omega) (by omega) (fun s hs => HT.out s (List.mem_of_mem_drop hs)))
      have HRD := Lib.hid (show Row w6.drew w6.drew.heap.size A1 (cellsOf l) from HRS6.out)
      have hKc : (K : Int) ≤ (c1 : Int) := by omega
      have hKn : (K : Int) ≤ (N : Int) := by omega
      have hK0 : (0 : Int) ≤ (K : Int) := by omega
      have hKc' : K ≤ c1 := by omega
      have hKn' : K ≤ N := by omega
      rcases HTW.out with ⟨rfl, rfl, rfl⟩ | ⟨g, rfl⟩
      · obtain rfl : K = 0 := by omega
        have BU := Lib.hid (HBU.out w6.drew none 0 (by have := HRD.out; simpa using this))
        have HCZ := Lib.hid (fun (w7 : World) (h2 : Below w6.drew.heap.size w6.drew w7) => And.intro ((h2.cell (p := ⟨w4.heap.size, 0, none⟩) (by show w4.heap.size < w6.heap.size; omega)).trans y0) ((h2.cell (p := ⟨w4.heap.size, 1, none⟩) (by show w4.heap.size < w6.heap.size; omega)).trans y1))
        go_region_held3 (fun w' => w'.cell? ⟨w4.heap.size, 0, none⟩ = some (.int .i64 0) ∧ w'.cell? ⟨w4.heap.size, 1, none⟩ = some (.int .i64 100000))
          (first | go_keep | (exact hS))
          ((go_at_call 31; refine BU.out.mono ?_; rintro e w7 ⟨v7, rfl, h1, h2⟩; have hS := HCZ.out w7 h2))
        obtain ⟨A7, c7, rfl⟩ := own_slice h1
        go_wp2_with (fail)
        go_meet
        exact ⟨_, _, A7, c7, rfl, rfl, rfl, rfl, h1, ((Below.refl _ _).drew).trans h2⟩
      · by_cases hkc : K = c1
        · subst hkc
          obtain rfl : N = K := by omega
          have bu := HBU.out w6.drew (some ⟨g, 0, none⟩) 0 (by left; rw [List.drop_of_length_le (by rw [HN.out]; omega)]; rfl)
          simp only [Nat.sub_self] at bu
          have BU := Lib.hid bu
          clear bu
          have HCZ := Lib.hid (fun (w7 : World) (h2 : Below w6.drew.heap.size w6.drew w7) => And.intro ((h2.cell (p := ⟨w4.heap.size, 0, none⟩) (by show w4.heap.size < w6.heap.size; omega)).trans y0) ((h2.cell (p := ⟨w4.heap.size, 1, none⟩) (by show w4.heap.size < w6.heap.size; omega)).trans y1))
          go_region_held3 (fun w' => w'.cell? ⟨w4.heap.size, 0, none⟩ = some (.int .i64 0) ∧ w'.cell? ⟨w4.heap.size, 1, none⟩ = some (.int .i64 100000))
            (first | go_keep | (exact hS))
            ((go_at_call 31; refine BU.out.mono ?_; rintro e w7 ⟨v7, rfl, h1, h2⟩; have hS := HCZ.out w7 h2))
          obtain ⟨A7, c7, rfl⟩ := own_slice h1
          go_wp2_with (fail)
          go_meet
          exact ⟨_, _, A7, c7, rfl, rfl, rfl, rfl, h1, ((Below.refl _ _).drew).trans h2⟩
        · have hkc2 : K < c1 := by omega
          have hkc3 : ¬ c1 = K := by omega
          have BU := Lib.hid (HBU.out w6.drew (some ⟨g, K * 4, none⟩) (c1 - K) (by have := HRD.out.drop_ K; simpa using this))
          have HCZ := Lib.hid (fun (w7 : World) (h2 : Below w6.drew.heap.size w6.drew w7) => And.intro ((h2.cell (p := ⟨w4.heap.size, 0, none⟩) (by show w4.heap.size < w6.heap.size; omega)).trans y0) ((h2.cell (p := ⟨w4.heap.size, 1, none⟩) (by show w4.heap.size < w6.heap.size; omega)).trans y1))
          go_region_held3 (fun w' => w'.cell? ⟨w4.heap.size, 0, none⟩ = some (.int .i64 0) ∧ w'.cell? ⟨w4.heap.size, 1, none⟩ = some (.int .i64 100000))
            (first | go_keep | (exact hS))
            ((go_at_call 31; refine BU.out.mono ?_; rintro e w7 ⟨v7, rfl, h1, h2⟩; have hS := HCZ.out w7 h2))
          obtain ⟨A7, c7, rfl⟩ := own_slice h1
          go_wp2_with (fail)
          go_meet
          exact ⟨_, _, A7, c7, rfl, rfl, rfl, rfl, h1, ((Below.refl _ _).drew).trans h2⟩
    case rest =>
      obtain ⟨bb, m2, A7, c7, hbb, hm2, rfl, rfl, hown7, hb7⟩ := hcut
      obtain ⟨w7, rfl⟩ : ∃ w7 : World, w7 = wc := ⟨_, rfl⟩
      have hs7 := hb7.size
      have hcap7 := own_cap hown7
      have x0 := (hb7.cell (p := ⟨w4.heap.size, 0, none⟩) (by show w4.heap.size < w6.heap.size; omega)).trans y0
      have x1 := (hb7.cell (p := ⟨w4.heap.size, 1, none⟩) (by show w4.heap.size < w6.heap.size; omega)).trans y1
      have hm1K : m1 ≤ K := by have h1 := bktsOf_length L (l.take K); rw [HEA.out.2, HEA.out.1]; simp only [List.length_take] at h1; omega
      have hm2K : m2 ≤ N - K := by have h1 := bktsOf_length L (l.drop K); rw [hm2, hbb]; simp only [List.length_drop, HN.out] at h1; omega
      have hmN : m ≤ N := by have h1 := bktsOf_length L l; rw [HEB.out.2, HEB.out.1]; rw [HN.out] at h1; exact h1
      have HEQ := Lib.hid (show joinB [] (ba ++ bb) = bs by rw [HEA.out.1, hbb, join_parts, List.take_append_drop, HEB.out.1])
      have HJ := Lib.hid (join_any ba bb m1 m2 c6 c7 15 A6 A7 L w7 (by omega) (by omega) HEA.out.2.symm hm2.symm hcap6 hcap7
        (HEA.out.1 ▸ bktsOf_goodBs L (by omega) _ (by simp only [List.length_take]; omega) (HF.out.le.sublist (List.take_sublist _ _)) (fun s hs => HF.out.wide s (List.mem_of_mem_take hs)))
        (hbb ▸ bktsOf_goodBs L (by omega) _ (by simp only [List.length_drop, HN.out]; omega) (HF.out.le.sublist (List.drop_sublist _ _)) (fun s hs => HF.out.wide s (List.mem_of_mem_drop hs)))
        (by
          intro x hx
          rcases List.mem_append.1 hx with hx | hx
          · rw [HEA.out.1] at hx
            exact (bktsOf_ok L _ (fun s hs => (HF.out.wide s (List.mem_of_mem_take hs)).2) x hx).mono (by simp only [List.length_take]; omega)
          · rw [hbb] at hx
            exact (bktsOf_ok L _ (fun s hs => (HF.out.wide s (List.mem_of_mem_drop hs)).2) x hx).mono (by simp only [List.length_drop, HN.out]; omega))
        (by rw [HEA.out.1, hbb]; exact bkts_parts_le L (by omega) _ _ (by rw [List.take_append_drop]; exact HF.out.le) (by rw [List.take_append_drop]; exact HF.out.wide))
        (by omega) (by omega) (by omega) ((HRA6.out.below hb7).mono hs7) (own_row hown7))
      rw [HEQ.out, ← HEB.out.2] at HJ
      have HRB7 := Lib.hid ((HRB6.out.below hb7).mono hs7)
      have HRS7 := Lib.hid ((HRS6.out.below hb7).mono hs7)
      have HB7 := Lib.hid (HB6.out.trans (hb7.mono (by omega)))
      clear hbb hm2 hown7 hb7 y0 y1 HRA6 HRB6 HRS6 HB6 HEQ HEA hcap6 hcap7
      go_wp2_with (fail)
      refine HJ.out.mono ?_
      rintro e w8 ⟨v8, rfl, hown8, hb8⟩
      have hs8 := hb8.size
      obtain ⟨A8, c8, rfl⟩ := own_slice hown8
      have u0 := (hb8.cell (p := ⟨w4.heap.size, 0, none⟩) (by show w4.heap.size < w7.heap.size; omega)).trans x0
      have u1 := (hb8.cell (p := ⟨w4.heap.size, 1, none⟩) (by show w4.heap.size < w7.heap.size; omega)).trans x1
      have HRJ8 := Lib.hid (own_row hown8)
      have HRB8 := Lib.hid ((HRB7.out.below hb8).mono hs8)
      have HRS8 := Lib.hid ((HRS7.out.below hb8).mono hs8)
      have HB8 := Lib.hid (HB7.out.trans (hb8.mono (by omega)))
      have hM1 : 1 * 1 ≤ L * T := Int.mul_le_mul (by omega) (by omega) (by omega) (by omega)
      have hM2 : L * T ≤ 100 * 6 := Int.mul_le_mul (by omega) (by omega) (by omega) (by omega)
      obtain ⟨M, eM⟩ : ∃ M, M = L * T := ⟨_, rfl⟩
      rw [← eM] at hM1 hM2
      have hwM : IntKind.i64.wrap (L * T) = M := by rw [← eM, IntKind.wrap_i64]; omega
      have HM := Lib.hid eM
      clear hown8 hb8 x0 x1 HRB7 HRS7 HB7 HJ eM
      go_wp2_with (fail)
      refine (buckets_any l N c1 A1 100000 M w8 HN.out (by omega) HF.out.good HRS8.out (by omega) (by omega) (by omega) (by omega) HT.out).mono ?_
      rintro e w9 ⟨v9, rfl, hown9, hb9⟩
      have hs9 := hb9.size
      obtain ⟨bw, ebw⟩ : ∃ bw, bw = bktsOf M l := ⟨_, rfl⟩
      obtain ⟨m9, em9⟩ : ∃ m9, m9 = bw.length := ⟨_, rfl⟩
      rw [← ebw, ← em9] at hown9
      obtain ⟨A9, c9, rfl⟩ := own_slice hown9
      have HEW := Lib.hid (And.intro ebw em9)
      have HRW9 := Lib.hid (own_row hown9)
      have HRJ9 := Lib.hid ((HRJ8.out.below hb9).mono hs9)
      have HRB9 := Lib.hid ((HRB8.out.below hb9).mono hs9)
      have HB9 := Lib.hid (HB8.out.trans (hb9.mono (by omega)))
      clear hown9 hb9 u0 u1 HRJ8 HRB8 HRS8 HB8 ebw em9
      go_wp2_with (fail)
      refine (wider_any bs m c5 15 A5 L M w9 (by omega) (by omega) (by omega) (by omega) (by rw [HM.out]; exact Int.mul_tmod_right _ _) HEB.out.2.symm (by omega)
        (HEB.out.1 ▸ bktsOf_goodBs L (by omega) _ (by rw [HN.out]; omega) HF.out.le HF.out.wide)
        (fun x hx => (bktsOf_ok L l (fun s hs => (HF.out.wide s hs).2) x (HEB.out.1 ▸ hx)).mono (by rw [HN.out]; omega)) (by omega) HRB9.out).mono ?_
      rw [show widOf M bs = bw by rw [HEB.out.1, HEW.out.1, HM.out]; exact widOf_bkts L T l (by omega), ← HEW.out.2]
      rintro e wa ⟨va, rfl, howna, hba⟩
      have hsa := hba.size
      obtain ⟨Aa, ca, rfl⟩ := own_slice howna
      have HRDa := Lib.hid (own_row howna)
      have HRWa := Lib.hid ((HRW9.out.below hba).mono hsa)
      have HRJa := Lib.hid ((HRJ9.out.below hba).mono hsa)
      have HRBa := Lib.hid ((HRB9.out.below hba).mono hsa)
      have HBa := Lib.hid (HB9.out.trans (hba.mono (by omega)))
      clear howna hba HRW9 HRJ9 HRB9 HB9 hwM
      go_wp2_with (fail)
      have HBOK := Lib.hid (show ∀ x ∈ bs, 0 ≤ x.cnt ∧ x.cnt ≤ 15 from fun x hx => by
        have h := bktsOf_ok L l (fun s hs => (HF.out.wide s hs).2) x (HEB.out.1 ▸ hx)
        have h0 := h.c0
        have h1 := h.c1
        rw [HN.out] at h1
        omega)
      go_loopw [21, 89] (fun s i wr => ∃ k : Nat, k ≤ m ∧ i = .int .i64 k ∧ s = .int .i64 (tot (·.cnt) (bs.take k)) ∧ Below wa.heap.size wa wr) (fun _ i _ => m - (intOf i).toNat)
      case atStart => exact ⟨0, Nat.zero_le _, rfl, by simp [tot], Below.refl _ _⟩
      case round =>
        obtain ⟨k, hk, rfl, rfl, hbl⟩ := hrel
        have hsz := hbl.size
        by_cases hlt : k < m
        · have hkl : k < bs.length := by have := HEB.out.2; omega
          obtain ⟨b1, o1, rfl, hb1, hcs⟩ := Row.posB HRBa.out (by omega)
          obtain ⟨x, hx⟩ : ∃ x, bs[k]? = some x := ⟨_, List.getElem?_eq_getElem hkl⟩
          have C := fun i hi => bkt_cells (hcs.keep (hbl.block b1 hb1)) k x hx i hi
          have htk : bs.take (k + 1) = bs.take k ++ [x] := by rw [List.take_add_one, hx]; rfl
          have hbd := tot_cnt_le (·.cnt) (bs.take k) (fun s hs => HBOK.out s (List.mem_of_mem_take hs))
          have hll : (bs.take k).length ≤ 15 := by simp only [List.length_take]; omega
          have hxv := HBOK.out x (List.mem_of_getElem? hx)
          obtain ⟨S, eS⟩ : ∃ S, S = tot (·.cnt) (bs.take k) := ⟨_, rfl⟩
          have HTK := Lib.hid (show tot (·.cnt) (bs.take (k + 1)) = S + x.cnt by rw [htk, tot_append, tot_one, eS])
          rw [← eS] at hbd ⊢
          obtain ⟨fr, to_, cnt, sum, mn, mx, fi, la⟩ := x
          simp only at hxv
          have k0 := (C 0 (by omega)).trans rfl
          have k1 := (C 1 (by omega)).trans rfl
          have k2 := (C 2 (by omega)).trans rfl
          have k3 := (C 3 (by omega)).trans rfl
          have k4 := (C 4 (by omega)).trans rfl
          have k5 := (C 5 (by omega)).trans rfl
          have k6 := (C 6 (by omega)).trans rfl
          have k7 := (C 7 (by omega)).trans rfl
          simp only [bktC, List.getElem?_cons_zero, List.getElem?_cons_succ, Nat.add_zero] at k0 k1 k2 k3 k4 k5 k6 k7
          have hw1 : IntKind.i64.wrap (S + cnt) = S + cnt := by rw [IntKind.wrap_i64]; omega
          have HBL := Lib.hid hbl
          have hlt' : (k : Int) < (m : Int) := by omega
          have hb1w : b1 < wr.heap.size := by omega
          clear hbl hx hkl hcs htk hbd hll eS C
          go_wp2_with (fail)
          go_roundw
          case rel => exact ⟨k + 1, by omega, by go_num, by rw [HTK.out], HBL.out.alloc hsz _⟩
          case measure => simp [intOf]; omega
        · have hkn : k = m := by omega
          subst hkn
          have HBL := Lib.hid hbl
          have HT2 := Lib.hid (show tot (·.cnt) (bs.take k) = (N : Int) by rw [List.take_of_length_le (by have := HEB.out.2; omega), HEB.out.1, (bktsOf_tot L l).2.1, HN.out])
          rw [HT2.out]
          have HF6 := Lib.hid (Cells.new wr #[.int .i64 0, .int .i64 0, .int .i64 0, .int .i64 0, .int .i64 0, .int .i64 0] 31 (0, 0) (List.replicate 6 (.int .i64 0)) rfl)
          clear hbl HBOK
          go_wp2_with (go_at_call 19; refine (errs_ok 6 6 _ _ (by omega) HF6.out).mono ?_; rintro e w' ⟨rfl, rfl⟩)
          generalize hX : wr.alloc (.cells #[.int .i64 0, .int .i64 0, .int .i64 0, .int .i64 0, .int .i64 0, .int .i64 0] 31) = X
          have hBX : Below wa.heap.size wa X := hX ▸ HBL.out.alloc hsz _
          have hXs := hBX.size
          have HRBx := Lib.hid ((HRBa.out.below hBX).mono hXs)
          have HRJx := Lib.hid ((HRJa.out.below hBX).mono hXs)
          have HRWx := Lib.hid ((HRWa.out.below hBX).mono hXs)
          have HRDx := Lib.hid ((HRDa.out.below hBX).mono hXs)
          have HBx := Lib.hid (HBa.out.trans (hBX.mono (by omega)))
          clear hX hBX HRBa HRJa HRWa HRDa HBa HF6
          refine (eqB_any bs k c5 c8 A5 A8 X HEB.out.2.symm (by omega) HRBx.out HRJx.out).mono ?_
          rintro e w10 ⟨rfl, hb10⟩
          have hs10 := hb10.size
          have HRB10 := Lib.hid ((HRBx.out.below hb10).mono hs10)
          have HRW10 := Lib.hid ((HRWx.out.below hb10).mono hs10)
          have HRD10 := Lib.hid ((HRDx.out.below hb10).mono hs10)
          have HB10 := Lib.hid (HBx.out.trans (hb10.mono (by omega)))
          clear hb10 HRBx HRJx HRWx HRDx HBx
          have hm9 : m9 ≤ N := by have h1 := bktsOf_length M l; rw [HEW.out.2, HEW.out.1]; rw [HN.out] at h1; exact h1
          go_wp2_with (fail)
          refine (eqB_any bw m9 c9 ca A9 Aa w10 HEW.out.2.symm (by omega) HRW10.out HRD10.out).mono ?_
          rintro e w11 ⟨rfl, hb11⟩
          have hs11 := hb11.size
          have HRB11 := Lib.hid ((HRB10.out.below hb11).mono hs11)
          have HB11 := Lib.hid (HB10.out.trans (hb11.mono (by omega)))
          clear hb11 HRB10 HRW10 HRD10 HB10
          go_wp2_with (fail)
          refine (checkB_any bs k c5 A5 L w11 (by omega) (by omega) HEB.out.2.symm (HEB.out.1 ▸ bktsOf_goodBs L (by omega) _ (by rw [HN.out]; omega) HF.out.le HF.out.wide) HRB11.out).mono ?_
          rintro e w12 ⟨rfl, hb12⟩
          have HB12 := Lib.hid (HB11.out.trans (hb12.mono (by omega)))
          have hs12 := hb12.size
          clear hb12 HRB11 HB11
          go_wp2_with (fail)
          refine (ready_yes w12).mono ?_
          rintro e w13 ⟨rfl, hb13⟩
          have HB13 := Lib.hid (HB12.out.trans (hb13.mono (by omega)))
          clear hb13
          go_wp2_with (fail)
          go_ret
          exact ⟨rfl, HB13.out⟩
end Go.Proofs.YtaglkaphlekmoaaGreatDoor
