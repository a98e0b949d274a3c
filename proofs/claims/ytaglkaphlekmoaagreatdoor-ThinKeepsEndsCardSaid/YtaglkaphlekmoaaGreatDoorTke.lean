/- ThinKeepsEnds: the law function. -/
import Derived.Test.YtaglkaphlekmoaaGreatDoorThinQ
import Derived.Test.YtaglkaphlekmoaaGreatDoorSer1
import Derived.Test.YtaglkaphlekmoaaGreatDoorReady
namespace Go.Proofs.YtaglkaphlekmoaaGreatDoor
open Go.RowKit

theorem own_capT {w : World} {base : Nat} {e : TypeId} {size n : Nat} {A : Option Addr} {c : Nat} {xs : List Value} (h : w.ownsRow base e size (.slice A n c) n xs) : n ≤ c := by
  rcases h.2 with ⟨hv, hn⟩ | ⟨g, cap, cur, hv, _, _, hc, _⟩
  · omega
  · injection hv with _ _ hc'
    omega
theorem own_twoT {w : World} {base : Nat} {e : TypeId} {size n : Nat} {A : Option Addr} {c : Nat} {xs : List Value} (h : w.ownsRow base e size (.slice A n c) n xs) : (A = none ∧ n = 0 ∧ c = 0) ∨ ∃ g, A = some ⟨g, 0, none⟩ := by
  rcases h.2 with ⟨hv, hn⟩ | ⟨g, cap, cur, hv, _, _, hc, _⟩
  · injection hv with h1 h2 h3
    exact .inl ⟨h1, hn, h3⟩
  · injection hv with h1 h2 h3
    exact .inr ⟨g, h1⟩

set_option maxRecDepth 100000 in
set_option maxHeartbeats 2000000 in
theorem tke_yes (w : World) (xs : List Int) (n c : Nat) (A : Option Addr) (hs : ∀ (W : World), Below w.heap.size w W → W.heap[w.heap.size]? = some (.cells #[.slice A n c, .int .i64 0] 25) → Strm W w.heap.size xs 0) :
    Calls Tryz.prog 6 #[.slice A n c] w fun e w' => e = .returned (.bool true) ∧ Below w.heap.size w w' := by
  have HS := Lib.hid hs
  clear hs
  go_enter Tryz.func6, Tryz.ntmps6
  go_wp2_with (fail)
  generalize hW : w.alloc (.cells #[.slice A n c, .int .i64 0] 25) = W
  have hWs : W.heap.size = w.heap.size + 1 := by rw [← hW]; simp
  have hB0 : Below w.heap.size w W := hW ▸ (Below.refl _ _).alloc (Nat.le_refl _) _
  have HS0 := Lib.hid (HS.out W hB0 (by rw [← hW]; exact heap_new w _))
  have HB0 := Lib.hid hB0
  clear hW hB0 HS
  have hN := nextN_lt xs 0 17 (by omega)
  obtain ⟨N, eN⟩ : ∃ N, N = nextN xs 0 17 := ⟨_, rfl⟩
  obtain ⟨l, el⟩ : ∃ l, l = serL xs 1 (-100) N := ⟨_, rfl⟩
  have HF := Lib.hid (show Fine l from el ▸ serL_fine xs 1 N (by omega))
  have HN := Lib.hid (show l.length = N from el ▸ serL_length xs 1 (-100) N)
  have HVV := Lib.hid (show ∀ s ∈ l, (0 ≤ s.1 ∧ s.1 ≤ 20000) ∧ -1000 ≤ s.2 ∧ s.2 ≤ 1000 by
    intro s hs
    rw [el] at hs
    simp only [serL, List.mem_map, List.mem_range] at hs
    obtain ⟨j, hj, rfl⟩ := hs
    have h1 := serAt_range xs 1 (j + 1)
    have h2 := serV_range xs 1 (-100) j
    simp only
    omega)
  refine (rightSeries_any W w.heap.size 0 16 (-100) xs (by omega) (by omega) HS0.out).mono ?_
  simp only [Nat.zero_add, Nat.reduceAdd]
  rw [← eN, ← el]
  rw [← eN] at hN
  clear el eN
  rintro e w1 ⟨v1, rfl, hown1, hst1, hg1⟩
  have hs1 := hg1.size
  obtain ⟨A1, c1, rfl⟩ := own_slice hown1
  have HO1 := Lib.hid hown1
  have HST1 := Lib.hid hst1
  have HG1 := Lib.hid hg1
  clear hown1 hg1 hst1 HS0
  go_wp2_with (fail)
  refine (range_any w1 w.heap.size (1 + 2 * N) xs 3 8 (by omega) (by omega) (by omega) (by omega) (by omega) HST1.out).mono ?_
  rintro e w2 ⟨rfl, hst2, hg2⟩
  have hs2 := hg2.size
  have hM := nextV_range xs (1 + 2 * N) (8 - 3 + 1) (by omega)
  obtain ⟨m, em⟩ : ∃ m : Nat, (m : Int) = 3 + nextV xs (1 + 2 * N) (8 - 3 + 1) := ⟨(3 + nextV xs (1 + 2 * N) (8 - 3 + 1)).toNat, by omega⟩
  rw [← em]
  have hm : 3 ≤ m ∧ m ≤ 8 := by omega
  have hown2 := own_kept HO1.out hg2 (by omega)
  have hcap := own_capT hown2
  have HTW := Lib.hid (own_twoT hown2)
  have HR2 := Lib.hid (own_row hown2)
  have HB2 := Lib.hid (HB0.out.grown (grown_trans HG1.out hg2) (by omega) (fun g hg => by injection hg with hg; omega))
  clear hst2 hg2 HO1 HG1 HST1 hown2 em hM
  go_wp2_with (fail)
  refine (thin_any l N m c1 A1 w2 HN.out hm.1 (by omega) (by omega) hcap HF.out.good HTW.out HR2.out HVV.out).mono ?_
  rintro e w3 ⟨v3, is, rfl, hkp, hown3, hb3⟩
  have hs3 := hb3.size
  obtain ⟨A3, c3, rfl⟩ := own_slice hown3
  have HKP := Lib.hid hkp
  have HR3 := Lib.hid (own_row hown3)
  have HR2b := Lib.hid ((HR2.out.below hb3).mono hs3)
  have HB3 := Lib.hid (HB2.out.trans (hb3.mono (by omega)))
  obtain ⟨p, ep⟩ : ∃ p, p = min m N := ⟨_, rfl⟩
  rw [← ep] at HKP ⊢
  have HEP := Lib.hid ep
  clear hown3 hb3 hkp ep
  obtain ⟨q, eq⟩ : ∃ q, q = atI l is := ⟨_, rfl⟩
  rw [← eq] at HR3
  have HQ := Lib.hid (show q.length = p by rw [eq, atI_length]; exact HKP.out.len)
  have HQG := Lib.hid (show GoodS q from eq ▸ atI_good l is HF.out.good HKP.out.rise (fun i hi => by have := HKP.out.lt i hi; have := HN.out; omega) (by rw [HKP.out.len, HEP.out]; omega))
  have HQM := Lib.hid (show ∀ x ∈ q, x ∈ l from eq ▸ atI_mem l is (fun i hi => by have := HKP.out.lt i hi; have := HN.out; omega))
  have HQH := Lib.hid (show 0 < N → q[0]? = l[0]? ∧ q[p - 1]? = l[N - 1]? by
    intro h0
    have h1 := HKP.out.head h0
    have h2 := HKP.out.last h0
    rw [List.head?_eq_getElem?] at h1
    rw [List.getLast?_eq_getElem?, HKP.out.len] at h2
    have := HN.out
    exact ⟨by rw [eq, atI_get l is 0 0 h1 (by omega)], by rw [eq, atI_get l is (p - 1) (N - 1) h2 (by omega)]⟩)
  clear eq
  have hpN : p ≤ N ∧ (0 < N → 0 < p) := by rw [HEP.out]; omega
  go_upto_region 4 with (fail)
  go_cut [33] (fun s wx => s = .bool false ∧ w3 = wx)
  case first =>
    rcases Nat.lt_or_ge m N with h | h
    · obtain rfl : p = m := by rw [HEP.out]; omega
      have h1 : (p : Int) < (N : Int) := by omega
      have h2 : ¬ (N : Int) < (p : Int) := by omega
      have h3 : (p : Int) ≤ (N : Int) := by omega
      go_wp2_with (fail)
      go_meet
      exact ⟨rfl, rfl⟩
    · obtain rfl : p = N := by rw [HEP.out]; omega
      have h1 : ¬ (m : Int) < (p : Int) := by omega
      have h2 : (p : Int) ≤ (m : Int) := by omega
      go_wp2_with (fail)
      all_goals
        go_meet
        exact ⟨by first | rfl | (simp; omega), rfl⟩
  case rest =>
    obtain ⟨rfl, rfl⟩ := hcut
    go_upto_region 6 with (fail)
    go_cut [60] (fun s wx => s = .bool false ∧ Below w3.heap.size w3 wx)
    case first =>
      rcases Nat.eq_zero_or_pos N with h0 | h0
      · have hp0 : p = 0 := by omega
        subst h0
        subst hp0
        have hd : decide ((0 : Int) < 0) = false := by decide
        go_quiet (fail)
        go_wp2_with (fail)
        go_meet
        exact ⟨rfl, below_drewN (Below.refl _ _) _⟩
      · have hp0 := hpN.2 h0
        obtain ⟨b1, o1, rfl, hb1, hc1⟩ := Row.pos HR3.out (by have := HQ.out; omega)
        obtain ⟨b2, o2, rfl, hb2, hc2⟩ := Row.pos HR2b.out (by have := HN.out; omega)
        obtain ⟨x, hx⟩ : ∃ x, l[0]? = some x := ⟨_, List.getElem?_eq_getElem (by have := HN.out; omega)⟩
        obtain ⟨y, hy⟩ : ∃ y, l[N - 1]? = some y := ⟨_, List.getElem?_eq_getElem (by have := HN.out; omega)⟩
        obtain ⟨g1, g2⟩ := HQH.out h0
        obtain ⟨a0, a1, a2, a3⟩ := smp_cells hc1 0 x (g1.trans hx)
        obtain ⟨d0, d1, d2, d3⟩ := smp_cells hc1 (p - 1) y (g2.trans hy)
        obtain ⟨e0, e1, e2, e3⟩ := smp_cells hc2 0 x hx
        obtain ⟨f0, f1, f2, f3⟩ := smp_cells hc2 (N - 1) y hy
        simp only [Nat.zero_mul, Nat.add_zero] at a0 a1 a2 a3 e0 e1 e2 e3
        obtain ⟨xa, xv⟩ := x
        obtain ⟨ya, yv⟩ := y
        simp only at a2 a3 d2 d3 e2 e3 f2 f3
        have hd : decide ((0 : Int) < (p : Int)) = true := by simp; omega
        have hwp : IntKind.i64.wrap ((p : Int) - 1) = ((p - 1 : Nat) : Int) := by rw [IntKind.wrap_i64]; omega
        have hwN : IntKind.i64.wrap ((N : Int) - 1) = ((N - 1 : Nat) : Int) := by rw [IntKind.wrap_i64]; omega
        have i1 : (0 : Int) < (p : Int) := by omega
        have i2 : (0 : Int) < (N : Int) := by omega
        have i3 : ((p - 1 : Nat) : Int) < (p : Int) := by omega
        have i4 : ((N - 1 : Nat) : Int) < (N : Int) := by omega
        have i5 : p - 1 < p := by omega
        have i6 : N - 1 < N := by omega
        clear hc1 hc2 hx hy g1 g2
        go_quiet (fail)
        go_wp2_with (fail)
        go_meet
        exact ⟨rfl, below_drewN (Below.refl _ _) _⟩
    case rest =>
      obtain ⟨rfl, hbc⟩ := hcut
      obtain ⟨V, rfl⟩ : ∃ V : World, V = wc := ⟨_, rfl⟩
      have hsV := hbc.size
      have HR3v := Lib.hid ((HR3.out.below hbc).mono hsV)
      have HR2v := Lib.hid ((HR2b.out.below hbc).mono hsV)
      have HBv := Lib.hid (HB3.out.trans (hbc.mono (by omega)))
      clear hbc HR3 HR2b HB3
      go_wp2_with (fail)
      go_loopw [63] (fun i wr => ∃ k : Nat, k ≤ p ∧ i = .int .i64 k ∧ Below V.heap.size V wr) (fun i _ => p - (intOf i).toNat)
      case atStart => exact ⟨0, Nat.zero_le _, rfl, Below.refl _ _⟩
      case round =>
        obtain ⟨k, hk, rfl, hbl⟩ := hrel
        have hsz := hbl.size
        have HBL := Lib.hid hbl
        by_cases hlt : k < p
        · obtain ⟨b1, o1, rfl, hb1, hc1⟩ := Row.pos HR3v.out (by have := HQ.out; omega)
          obtain ⟨b2, o2, rfl, hb2, hc2⟩ := Row.pos HR2v.out (by have := HN.out; omega)
          obtain ⟨x, hx⟩ : ∃ x, q[k]? = some x := ⟨_, List.getElem?_eq_getElem (by have := HQ.out; omega)⟩
          have hxl := HQM.out x (List.mem_of_getElem? hx)
          obtain ⟨a0, a1, a2, a3⟩ := smp_cells (hc1.keep (hbl.block b1 hb1)) k x hx
          have HCON := Lib.hid (contains_some l N c1 b2 o2 x (wr.alloc (.cells #[.string ⟨#[100]⟩, .string ⟨#[109]⟩, .int .i64 x.1, .int .i64 x.2] 53)) HN.out (by omega) hxl (by simp; omega) ((hc2.keep (hbl.block b2 hb2)).alloc (by omega) _))
          obtain ⟨xa, xv⟩ := x
          unfold smpV at HCON
          simp only at a2 a3 HCON
          have hlt' : (k : Int) < (p : Int) := by omega
          have hb1w : b1 < wr.heap.size := by omega
          clear hbl hc1 hc2 hx hxl
          go_wp2_with (fail)
          refine HCON.out.mono ?_
          rintro e w5 ⟨rfl, hb5⟩
          have HB5 := Lib.hid ((HBL.out.alloc hsz (.cells #[.string ⟨#[100]⟩, .string ⟨#[109]⟩, .int .i64 xa, .int .i64 xv] 53)).trans (hb5.mono (by simp; omega)))
          clear hb5 a0 a1 a2 a3
          go_wp2_with (fail)
          go_roundw
          case rel => exact ⟨k + 1, by omega, by go_num, HB5.out⟩
          case measure => simp [intOf]; omega
        · have hkn : k = p := by omega
          subst hkn
          clear hbl
          go_wp2_with (fail)
          refine (checkSeries_any q k c3 A3 wr HQ.out HQG.out ((HR3v.out.below HBL.out).mono hsz)).mono ?_
          rintro e w6 ⟨rfl, hb6⟩
          have hs6 := hb6.size
          have HB6 := Lib.hid ((HBv.out.trans (HBL.out.mono (by omega))).trans (hb6.mono (by omega)))
          clear hb6
          go_wp2_with (fail)
          refine (ready_yes w6).mono ?_
          rintro e w7 ⟨rfl, hb7⟩
          have HB7 := Lib.hid (HB6.out.trans (hb7.mono (by omega)))
          clear hb7
          go_wp2_with (fail)
          go_ret
          exact ⟨rfl, HB7.out⟩
end Go.Proofs.YtaglkaphlekmoaaGreatDoor
