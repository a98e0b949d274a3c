/- CountersAddUp: the law function. -/
import Derived.Test.YtaglkaphlekmoaaGreatDoorGaps
import Derived.Test.YtaglkaphlekmoaaGreatDoorSer1
import Derived.Test.YtaglkaphlekmoaaGreatDoorReady
namespace Go.Proofs.YtaglkaphlekmoaaGreatDoor
open Go.RowKit

theorem cau1_no (x : Smp) (f t : Int) (q : Nat) (w : World) (h0 : w.cell? ⟨q, 0, none⟩ = some (.int .i64 f)) (h1 : w.cell? ⟨q, 1, none⟩ = some (.int .i64 t)) (hx : ¬ (f < x.1 ∧ x.1 < t)) :
    Calls Tryz.prog 18 #[smpV x, .pointer (some ⟨q, 0, none⟩)] w fun e w' => e = .returned (.bool false) ∧ Below w.heap.size w w' := by
  obtain ⟨a, v⟩ := x
  simp only at hx
  have hq := World.block_lt_of_cell? w _ h0
  simp only at hq
  unfold smpV
  by_cases i1 : f < a
  · have i2 : ¬ a < t := fun h => hx ⟨i1, h⟩
    have i3 : decide (a < t) = false := by simpa using i2
    clear hx
    go_enter Tryz.func18, Tryz.ntmps18
    go_wp2_with (fail)
    go_ret
    exact ⟨by first | rfl | (simp; omega), (Below.refl _ _).alloc (Nat.le_refl _) _⟩
  · clear hx
    go_enter Tryz.func18, Tryz.ntmps18
    go_wp2_with (fail)
    go_ret
    exact ⟨rfl, (Below.refl _ _).alloc (Nat.le_refl _) _⟩

set_option maxRecDepth 100000 in
set_option maxHeartbeats 1000000 in
/-- slices.IndexFunc with this function, where it says no everywhere. -/
theorem indexFunc_noC (g : Nat) (cb : Array Value) (l : List Smp) (n c b o : Nat) (w : World) (hn : l.length = n) (hn5 : n ≤ 5000) (hb : b < w.heap.size) (hc : Cells w b o (cellsOf l)) (hg : g = 18)
    (hp : ∀ (k : Nat) (x : Smp) (w' : World), l[k]? = some x → Below w.heap.size w w' → Calls Tryz.prog g (#[smpV x] ++ cb) w' fun e w'' => e = .returned (.bool false) ∧ Below w'.heap.size w' w'') :
    Calls Tryz.prog 52 #[.slice (some ⟨b, o, none⟩) n c, .func (.func g) #[] cb] w fun e w' => e = .returned (.int .i64 (-1)) ∧ Below w.heap.size w w' := by
  have HC := Lib.hid hc
  have HP := Lib.hid hp
  clear hc hp
  subst hg
  go_enter Tryz.func52, Tryz.ntmps52
  go_wp2_with (fail)
  go_loopw [8] (fun i wr => ∃ k : Nat, k ≤ n ∧ i = .int .i64 k ∧ Below w.heap.size w wr) (fun i _ => n - (intOf i).toNat)
  case atStart => exact ⟨0, Nat.zero_le _, rfl, Below.refl _ _⟩
  case round =>
    obtain ⟨k, hk, rfl, hbl⟩ := hrel
    have hsz := hbl.size
    by_cases hlt : k < n
    · obtain ⟨x, hx⟩ : ∃ x, l[k]? = some x := ⟨_, List.getElem?_eq_getElem (by omega)⟩
      have hcr : Cells wr b o (cellsOf l) := HC.out.keep (hbl.block b hb)
      obtain ⟨c0, c1, c2, c3⟩ := smp_cells hcr k x hx
      have HBL := Lib.hid hbl
      have HCALL := Lib.hid (HP.out k x wr hx hbl)
      obtain ⟨a, v⟩ := x
      simp only at c2 c3
      clear hbl hcr hx
      go_wp2_with (fail)
      refine HCALL.out.mono ?_
      rintro e w' ⟨rfl, hbw⟩
      have HB3 := Lib.hid (show Below w.heap.size w w' from (HBL.out).trans (hbw.mono hsz))
      clear hbw
      go_wp2_with (fail)
      go_roundw
      case rel => exact ⟨k + 1, by omega, by go_num, HB3.out⟩
      case measure => simp [intOf]; omega
    · have HBL := Lib.hid hbl
      clear hbl
      go_wp2_with (fail)
      go_ret
      exact ⟨rfl, HBL.out⟩


/-- Neither is it so of an empty series. -/
theorem hasFunc_noC (cb : Array Value) (l : List Smp) (n c : Nat) (A : Option Addr) (w : World) (hn : l.length = n) (hn5 : n ≤ 5000) (hr : Row w w.heap.size A (cellsOf l))
    (hp : ∀ (k : Nat) (x : Smp) (w' : World), l[k]? = some x → Below w.heap.size w w' → Calls Tryz.prog 18 (#[smpV x] ++ cb) w' fun e w'' => e = .returned (.bool false) ∧ Below w'.heap.size w' w'') :
    Calls Tryz.prog 17 #[.slice A n c, .func (.func 18) #[] cb] w fun e w' => e = .returned (.bool false) ∧ Below w.heap.size w w' := by
  have H : Hid (Calls Tryz.prog 52 #[.slice A n c, .func (.func 18) #[] cb] w fun e w' => e = .returned (.int .i64 (-1)) ∧ Below w.heap.size w w') := by
    refine Lib.hid ?_
    rcases Nat.eq_zero_or_pos n with h0 | h0
    · rw [h0]; exact indexFunc_empty _ A c w
    · obtain ⟨b, o, rfl, hb, hc⟩ := hr.pos (by omega)
      exact indexFunc_noC 18 cb l n c b o w hn hn5 hb hc rfl hp
  clear hr hp
  go_enter Tryz.func17, Tryz.ntmps17
  go_wp2_with (fail)
  refine H.out.mono ?_
  rintro e w' ⟨rfl, hbw⟩
  have HB := Lib.hid hbw
  clear hbw
  go_wp2_with (fail)
  go_ret
  exact ⟨rfl, HB.out⟩


/-- All that the law needs to know of the series of a counter. -/
structure Cnt (l : List Smp) : Prop where
  good : GoodS l
  le : l.Pairwise (fun s t => s.1 ≤ t.1)
  val : ∀ s ∈ l, 0 ≤ s.2
theorem serL_cnt (xs : List Int) (k n : Nat) (hn : n ≤ 90) : Cnt (serL xs k 0 n) := by
  have hall : ∀ s ∈ serL xs k 0 n, ∃ j, j < n ∧ s = (serAt xs k (j + 1), serV xs k 0 j) := by
    intro s hs
    simp only [serL, List.mem_map, List.mem_range] at hs
    obtain ⟨j, hj, rfl⟩ := hs
    exact ⟨j, hj, rfl⟩
  have hmono : ∀ (i d : Nat), serAt xs k i + (d : Int) ≤ serAt xs k (i + d) := by
    intro i d
    induction d with
    | zero => simp
    | succ d ih => have := serAt_step xs k (i + d); rw [← Nat.add_assoc]; omega
  have hpair : (serL xs k 0 n).Pairwise (fun s t => s.1 < t.1) := by
    unfold serL
    rw [List.pairwise_map]
    refine List.pairwise_lt_range.imp ?_
    intro i j h
    have := hmono (i + 1) (j - i)
    rw [show i + 1 + (j - i) = j + 1 by omega] at this
    simp only
    omega
  refine ⟨⟨by rw [serL_length]; omega, ?_, ?_, ?_⟩, hpair.imp (by intro a b h; omega), ?_⟩
  · intro i x hx
    obtain ⟨j, hj, rfl⟩ := hall x (List.mem_of_getElem? hx)
    have := serAt_range xs k (j + 1)
    simp only
    omega
  · intro i x hx
    obtain ⟨j, hj, rfl⟩ := hall x (List.mem_of_getElem? hx)
    have := serV_range xs k 0 j
    simp only
    omega
  · intro i x y hx hy
    rw [List.pairwise_iff_getElem] at hpair
    obtain ⟨a1, a2⟩ := List.getElem?_eq_some_iff.1 hx
    obtain ⟨b1, b2⟩ := List.getElem?_eq_some_iff.1 hy
    have := hpair i (i + 1) a1 b1 (by omega)
    rw [a2, b2] at this
    exact this
  · intro s hs
    obtain ⟨j, hj, rfl⟩ := hall s hs
    exact (serV_range xs k 0 j).1

theorem range_pos (w : World) (p k m : Nat) (xs : List Int) (lo : Int) (hk : k < 1000000) (h1 : 0 ≤ lo) (h2 : lo ≤ m) (h3 : m < 1000000000) (hs : Strm w p xs k) :
    Calls Tryz.prog 10 #[.pointer (some ⟨p, 0, none⟩), .int .i64 lo, .int .i64 (m : Int)] w fun e w' => ∃ r : Int, e = .returned (.int .i64 r) ∧ (lo ≤ r ∧ r ≤ m) ∧ Strm w' p xs (k + 1) ∧ w.grownBy w' (some p) := by
  refine (range_any w p k xs lo m hk (by omega) (by omega) (by omega) (by omega) hs).mono ?_
  rintro e w' ⟨rfl, h⟩
  have := nextV_range xs k (m - lo + 1) (by omega)
  exact ⟨_, rfl, by omega, h⟩

/-- Where the last of some gaps ends. -/
def lastE (a : Int) (ws : List (Int × Int)) : Int := (ws.getLast?.map (·.2)).getD a
theorem lastE_snoc (a : Int) (ws : List (Int × Int)) (p : Int × Int) : lastE a (ws ++ [p]) = p.2 := by simp [lastE]
theorem lastE_le (a : Int) (ws : List (Int × Int)) (h1 : ∀ p ∈ ws, a ≤ p.1) (h2 : ws.Pairwise (fun p q => p.2 ≤ q.1)) (k : Nat) (p : Int × Int) (hp : ws[k]? = some p) : lastE a (ws.take k) ≤ p.1 := by
  cases k with
  | zero => simpa [lastE] using h1 p (List.mem_of_getElem? hp)
  | succ k =>
    obtain ⟨hk, e⟩ := List.getElem?_eq_some_iff.1 hp
    have : ws.take (k + 1) = ws.take k ++ [ws[k]] := by rw [List.take_succ_eq_append_getElem (by omega)]
    rw [this, lastE_snoc]
    rw [List.pairwise_iff_getElem] at h2
    have := h2 k (k + 1) (by omega) hk (by omega)
    rw [e] at this
    exact this

set_option maxRecDepth 100000 in
set_option maxHeartbeats 4000000 in
theorem cau_yes (w : World) (xs : List Int) (n c : Nat) (A : Option Addr) (hs : ∀ (W : World), Below w.heap.size w W → W.heap[w.heap.size]? = some (.cells #[.slice A n c, .int .i64 0] 25) → Strm W w.heap.size xs 0) :
    Calls Tryz.prog 4 #[.slice A n c] w fun e w' => e = .returned (.bool true) ∧ Below w.heap.size w w' := by
  have HS := Lib.hid hs
  clear hs
  go_enter Tryz.func4, Tryz.ntmps4
  go_wp2_with (fail)
  generalize hW : w.alloc (.cells #[.slice A n c, .int .i64 0] 25) = W
  have hWs : W.heap.size = w.heap.size + 1 := by rw [← hW]; simp
  have hB0 : Below w.heap.size w W := hW ▸ (Below.refl _ _).alloc (Nat.le_refl _) _
  have HS0 := Lib.hid (HS.out W hB0 (by rw [← hW]; exact heap_new w _))
  have HB0 := Lib.hid hB0
  clear hW hB0 HS
  have hN := nextN_lt xs 0 13 (by omega)
  obtain ⟨N, eN⟩ : ∃ N, N = nextN xs 0 13 := ⟨_, rfl⟩
  obtain ⟨l, el⟩ : ∃ l, l = serL xs 1 0 N := ⟨_, rfl⟩
  have HF := Lib.hid (show Cnt l from el ▸ serL_cnt xs 1 N (by rw [eN]; omega))
  have HN := Lib.hid (show l.length = N from el ▸ serL_length xs 1 0 N)
  refine (rightSeries_any W w.heap.size 0 12 0 xs (by omega) (by omega) HS0.out).mono ?_
  simp only [Nat.zero_add, Nat.reduceAdd]
  rw [← eN, ← el]
  rw [← eN] at hN
  clear el eN
  rintro e w1 ⟨v1, rfl, hown1, hst1, hg1⟩
  have hs1 := hg1.size
  obtain ⟨A1, c1, rfl⟩ := own_slice hown1
  have HO1 := Lib.hid hown1
  have HST1 := Lib.hid hst1
  have HG1 := Lib.hid hg1
  clear hown1 hg1 hst1 HS0
  go_wp2_with (fail)
  refine (range_pos w1 w.heap.size (1 + 2 * N) 60 xs 1 (by omega) (by omega) (by omega) (by omega) HST1.out).mono ?_
  rintro e w2 ⟨M, rfl, hM, hst2, hg2⟩
  have hs2 := hg2.size
  have HO2 := Lib.hid (own_kept HO1.out hg2 (by omega))
  have HG2 := Lib.hid (grown_trans HG1.out hg2)
  have HST2 := Lib.hid hst2
  clear hst2 hg2 HO1 HG1 HST1
  go_wp2_with (fail)
  refine (range_pos w2 w.heap.size (1 + 2 * N + 1) 50 xs 0 (by omega) (by omega) (by omega) (by omega) HST2.out).mono ?_
  rintro e w3 ⟨fr, rfl, hfr, hst3, hg3⟩
  have hs3 := hg3.size
  have HO3 := Lib.hid (own_kept HO2.out hg3 (by omega))
  have HG3 := Lib.hid (grown_trans HG2.out hg3)
  have HST3 := Lib.hid hst3
  clear hst3 hg3 HO2 HG2 HST2
  go_wp2_with (fail)
  refine (range_pos w3 w.heap.size (1 + 2 * N + 1 + 1) 50 xs 0 (by omega) (by omega) (by omega) (by omega) HST3.out).mono ?_
  rintro e w4 ⟨d1, rfl, hd1, hst4, hg4⟩
  have hs4 := hg4.size
  have HO4 := Lib.hid (own_kept HO3.out hg4 (by omega))
  have HG4 := Lib.hid (grown_trans HG3.out hg4)
  have HST4 := Lib.hid hst4
  clear hst4 hg4 HO3 HG3 HST3
  have hwm : IntKind.i64.wrap (fr + d1) = fr + d1 := by rw [IntKind.wrap_i64]; omega
  go_wp2_with (fail)
  refine (range_pos w4 w.heap.size (1 + 2 * N + 1 + 1 + 1) 200 xs 0 (by omega) (by omega) (by omega) (by omega) HST4.out).mono ?_
  rintro e w5 ⟨d2, rfl, hd2, hst5, hg5⟩
  have hs5 := hg5.size
  have hown5 := own_kept HO4.out hg5 (by omega)
  have HR5 := Lib.hid (own_row hown5)
  have HB5 := Lib.hid (HB0.out.grown (grown_trans HG4.out hg5) (by omega) (fun g hg => by injection hg with hg; omega))
  clear hst5 hg5 HO4 HG4 HST4 hown5
  obtain ⟨mid, emid⟩ : ∃ mid, mid = fr + d1 := ⟨_, rfl⟩
  rw [← emid] at hwm ⊢
  have hmid : fr ≤ mid ∧ mid ≤ 100 := by omega
  have hwt : IntKind.i64.wrap (mid + d2) = mid + d2 := by rw [IntKind.wrap_i64]; omega
  clear emid
  go_wp2_with (fail)
  obtain ⟨tt, ett⟩ : ∃ tt, tt = mid + d2 := ⟨_, rfl⟩
  rw [← ett]
  have htt : mid ≤ tt ∧ tt ≤ 300 := by omega
  clear ett hwt hwm
  have GR := fun (V : World) (x y : Int) (hR : Row V V.heap.size A1 (cellsOf l)) (h1 : 0 ≤ x) (h2 : x ≤ y) (h3 : y ≤ 300) => grown_any l N c1 A1 x y V HN.out (by omega) HF.out.good HF.out.val hR h1 h2 (by omega)
  have GR := Lib.hid GR
  refine (GR.out w5 fr mid HR5.out (by omega) (by omega) (by omega)).mono ?_
  rintro e w6 ⟨rfl, hb6⟩
  have hs6 := hb6.size
  have HR6 := Lib.hid ((HR5.out.below hb6).mono hs6)
  have HB6 := Lib.hid (HB5.out.trans (hb6.mono (by omega)))
  clear hb6 HR5 HB5
  go_wp2_with (fail)
  refine (GR.out w6 mid tt HR6.out (by omega) (by omega) (by omega)).mono ?_
  rintro e w7 ⟨rfl, hb7⟩
  have hs7 := hb7.size
  have HR7 := Lib.hid ((HR6.out.below hb7).mono hs7)
  have HB7 := Lib.hid (HB6.out.trans (hb7.mono (by omega)))
  clear hb7 HR6 HB6
  go_wp2_with (fail)
  refine (GR.out w7 fr tt HR7.out (by omega) (by omega) (by omega)).mono ?_
  rintro e w8 ⟨rfl, hb8⟩
  have hs8 := hb8.size
  have HR8 := Lib.hid ((HR7.out.below hb8).mono hs8)
  have HB8 := Lib.hid (HB7.out.trans (hb8.mono (by omega)))
  clear hb8 HR7 HB7 GR
  obtain ⟨gx, egx⟩ : ∃ g, g = grown fr mid (risK l (N - 1)) := ⟨_, rfl⟩
  obtain ⟨gy, egy⟩ : ∃ g, g = grown mid tt (risK l (N - 1)) := ⟨_, rfl⟩
  obtain ⟨gz, egz⟩ : ∃ g, g = grown fr tt (risK l (N - 1)) := ⟨_, rfl⟩
  have HSUM := Lib.hid (show gx + gy = gz by rw [egx, egy, egz]; exact grown_add fr mid tt (by omega) (by omega) _)
  have hgz : -100000000000 ≤ gz ∧ gz ≤ 100000000000 := by
    rcases Nat.eq_zero_or_pos N with h0 | h0
    · subst h0
      rw [egz]; simp [risK, grown, tot]
    · have h1 := grown_le fr tt (risK l (N - 1)) (risK_by l (N - 1) (by rw [HN.out]; omega) (fun s hs => ⟨HF.out.val s hs, by
        obtain ⟨i, hi⟩ := List.getElem?_of_mem hs
        exact (HF.out.good.val i s hi).2⟩))
      rw [risK_length, ← egz] at h1
      omega
  rw [← egx, ← egy, ← egz]
  clear egx egy egz
  go_wp2_with (fail)
  refine (gaps_any l N c1 A1 fr tt M w8 HN.out (by omega) HF.out.good HF.out.le HR8.out (by omega) (by omega) (by omega) (by omega) (by omega)).mono ?_
  rintro e w9 ⟨v9, rfl, hown9, hb9⟩
  have hs9 := hb9.size
  obtain ⟨ws, ews⟩ : ∃ ws, ws = gapsOf M fr tt l := ⟨_, rfl⟩
  obtain ⟨m, em⟩ : ∃ m, m = ws.length := ⟨_, rfl⟩
  rw [← ews, ← em] at hown9
  obtain ⟨A9, c9, rfl⟩ := own_slice hown9
  have HGF := Lib.hid (show (∀ p ∈ ws, fr ≤ p.1 ∧ M < p.2 - p.1 ∧ p.2 ≤ tt ∧ ∀ s ∈ l, ¬ (p.1 < s.1 ∧ s.1 < p.2)) ∧ ws.Pairwise (fun p q => p.2 ≤ q.1) from ews ▸ gapsOf_fine M fr tt (by omega) l HF.out.le)
  have hm : m ≤ 100 := by have := gapsOf_length M fr tt l; rw [em, ews]; have := HN.out; omega
  have HM := Lib.hid em
  have HRW := Lib.hid (own_row hown9)
  have HR9 := Lib.hid ((HR8.out.below hb9).mono hs9)
  have HB9 := Lib.hid (HB8.out.trans (hb9.mono (by omega)))
  clear hown9 hb9 HR8 HB8 ews em
  go_wp2_with (fail)
  go_loopw [17, 73] (fun s i wr => ∃ k : Nat, k ≤ m ∧ i = .int .i64 k ∧ s = .int .i64 (lastE fr (ws.take k)) ∧ Below w9.heap.size w9 wr) (fun _ i _ => m - (intOf i).toNat)
  case atStart => exact ⟨0, Nat.zero_le _, rfl, by simp [lastE], Below.refl _ _⟩
  case round =>
    obtain ⟨k, hk, rfl, rfl, hbl⟩ := hrel
    have hsz := hbl.size
    have HBL := Lib.hid hbl
    by_cases hlt : k < m
    · obtain ⟨b1, o1, rfl, hb1, hcs⟩ := Row.posW HRW.out (by have := HM.out; omega)
      obtain ⟨p, hp⟩ : ∃ p, ws[k]? = some p := ⟨_, List.getElem?_eq_getElem (by have := HM.out; omega)⟩
      obtain ⟨q0, q1⟩ := win_cells (hcs.keep (hbl.block b1 hb1)) k p hp
      obtain ⟨g1, g2, g3, g4⟩ := HGF.out.1 p (List.mem_of_getElem? hp)
      have hle := lastE_le fr ws (fun q hq => (HGF.out.1 q hq).1) HGF.out.2 k p hp
      have HTK := Lib.hid (show lastE fr (ws.take (k + 1)) = p.2 by rw [List.take_add_one, hp]; exact lastE_snoc _ _ _)
      obtain ⟨pf, pt⟩ := p
      simp only at q0 q1 g1 g2 g3 g4 hle
      obtain ⟨la, ela⟩ : ∃ la, la = lastE fr (ws.take k) := ⟨_, rfl⟩
      rw [← ela] at hle ⊢
      have HG4 := Lib.hid g4
      have hwp : IntKind.i64.wrap (pt - pf) = pt - pf := by rw [IntKind.wrap_i64]; omega
      have hc1 : ¬ pt - pf ≤ M := by omega
      have hc2 : ¬ pf < la := by omega
      have hc3 : ¬ tt < pt := by omega
      have hlt' : (k : Int) < (m : Int) := by omega
      have hb1w : b1 < wr.heap.size := by omega
      have HRx := Lib.hid (((HR9.out.below HBL.out).mono hsz).keep (w' := wr.alloc (.cells #[.int .i64 pf, .int .i64 pt] 47)) fun b hb => Below.heap_alloc _ _ b hb)
      have hnew := heap_new wr (.cells #[.int .i64 pf, .int .i64 pt] 47)
      have HNO := Lib.hid (hasFunc_noC #[.pointer (some ⟨wr.heap.size, 0, none⟩)] l N c1 A1 (wr.alloc (.cells #[.int .i64 pf, .int .i64 pt] 47)) HN.out (by omega) (HRx.out.mono (by simp))
        (fun k x w' hx hbw => cau1_no x pf pt wr.heap.size w' ((hbw.cell (p := ⟨wr.heap.size, 0, none⟩) (by simp)).trans (cell_of_blk (j := 0) hnew rfl)) ((hbw.cell (p := ⟨wr.heap.size, 1, none⟩) (by simp)).trans (cell_of_blk (j := 1) hnew rfl)) (HG4.out x (List.mem_of_getElem? hx))))
      have HNEW := Lib.hid hnew
      clear hbl hp hcs g4 ela hnew HRx
      go_wp2_with (fail)
      refine HNO.out.mono ?_
      rintro e w10 ⟨rfl, hb10⟩
      have hs10 := hb10.size
      simp only [World.size_alloc] at hs10
      have n1 := (hb10.cell (p := ⟨wr.heap.size, 1, none⟩) (by simp)).trans (cell_of_blk (j := 1) HNEW.out rfl)
      have HB10 := Lib.hid ((HBL.out.alloc hsz (.cells #[.int .i64 pf, .int .i64 pt] 47)).trans (hb10.mono (by simp; omega)))
      clear hb10 q0 q1
      go_wp2_with (fail)
      go_roundw
      case rel => exact ⟨k + 1, by omega, by go_num, by rw [HTK.out], HB10.out⟩
      case measure => simp [intOf]; omega
    · have hkn : k = m := by omega
      subst hkn
      have HF4 := Lib.hid (Cells.new wr #[.int .i64 0, .int .i64 0, .int .i64 0, .int .i64 0] 31 (0, 0) (List.replicate 4 (.int .i64 0)) rfl)
      have HB4 := Lib.hid ((HB9.out.trans (HBL.out.mono (by omega))).alloc (by omega) (.cells #[.int .i64 0, .int .i64 0, .int .i64 0, .int .i64 0] 31))
      have hws : IntKind.i64.wrap (gx + gy) = gz := by rw [HSUM.out, IntKind.wrap_i64]; omega
      clear hbl
      go_wp2_with (go_at_call 19; refine (errs_ok 4 4 _ _ (by omega) HF4.out).mono ?_; rintro e w' ⟨rfl, rfl⟩)
      refine (ready_yes _).mono ?_
      rintro e w13 ⟨rfl, hb13⟩
      have HB13 := Lib.hid (HB4.out.trans (hb13.mono (by simp; omega)))
      clear hb13
      go_wp2_with (fail)
      go_ret
      exact ⟨rfl, HB13.out⟩
end Go.Proofs.YtaglkaphlekmoaaGreatDoor
