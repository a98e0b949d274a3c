/- DoneOnce: the law function. -/
import Derived.Test.YtbimiojoihfnkaaGreatDoorDoC
import Derived.Test.YtbimiojoihfnkaaGreatDoorStream
import Derived.Test.YtbimiojoihfnkaaGreatDoorReady
namespace Go.Proofs.YtbimiojoihfnkaaGreatDoor
open Go.RowKit

def idC (i : Nat) : List Value := [.string (ltId i)]
theorem idC_len (i : Nat) : (idC i).length = 1 := rfl
theorem idC_one (i : Nat) : ∀ u ∈ idC i, u.oneCell' = true := by
  intro u hu
  simp only [idC, List.mem_cons, List.not_mem_nil, or_false] at hu
  rw [hu]; rfl
def ltC (i : Nat) : List Value := [.string (ltId i), .string ⟨#[]⟩, .string ⟨#[]⟩, .int .i64 0, .int .i64 0, .int .i64 (ltU i)]
theorem ltC_len (i : Nat) : (ltC i).length = 6 := rfl
theorem Tryz.infoSt : (Tryz.prog.info? 9).map (fun i => (i.zero, i.size, i.bytes)) = some (some (.string ⟨#[]⟩), 1, 16) := by kernel_rfl

set_option maxHeartbeats 1000000 in
theorem idxStr_no (D : List Nat) (i n c : Nat) (A : Option Addr) (w : World) (hn : D.length = n) (hn2 : n ≤ 1000) (hi : i < 5) (h5 : ∀ j ∈ D, j < 5) (hno : i ∉ D) (hr : Row w w.heap.size A (recs idC D)) :
    Calls Tryz.prog 78 #[.slice A n c, .string (ltId i)] w fun e w' => e = .returned (.int .i64 (-1)) ∧ w = w' := by
  have HR := Lib.hid hr
  have HN := Lib.hid hn
  have H5 := Lib.hid h5
  have HNO := Lib.hid hno
  have HI := Lib.hid hi
  obtain ⟨id, eid⟩ : ∃ id, id = ltId i := ⟨_, rfl⟩
  have HE := Lib.hid eid
  rw [← eid]
  clear hr hn h5 hno hi eid
  go_enter Tryz.func78, Tryz.ntmps78
  go_wp2
  go_loop [8] (fun s => ∃ k : Nat, k ≤ n ∧ s = .int .i64 k) (fun s => n - (intOf s).toNat)
  case atStart => exact ⟨0, Nat.zero_le _, rfl⟩
  case round =>
    obtain ⟨k, hk, rfl⟩ := hrel
    by_cases hlt : k < n
    · obtain ⟨b, o, rfl, hb, hc⟩ := Row.posR idC_len (by omega) HR.out (by have := HN.out; omega)
      obtain ⟨x, hx⟩ : ∃ x, D[k]? = some x := ⟨_, List.getElem?_eq_getElem (by have := HN.out; omega)⟩
      have c0 := rec_cell idC_len hc k x hx 0 _ rfl
      simp only [Nat.add_zero, Nat.mul_one] at c0
      have hb1 := ltId_beq HI.out (H5.out x (List.mem_of_getElem? hx))
      rw [decide_eq_false (fun e => HNO.out (by rw [e]; exact List.mem_of_getElem? hx)), ← HE.out] at hb1
      obtain ⟨ix, eix⟩ : ∃ ix, ix = ltId x := ⟨_, rfl⟩
      rw [← eix] at c0 hb1
      have hlt' : (k : Int) < (n : Int) := by omega
      clear hc hx eix
      go_wp2
      go_round
      case rel => exact ⟨k + 1, by omega, by go_num⟩
      case measure => simp [intOf]; omega
    · go_wp2
      go_ret
      exact ⟨rfl, rfl⟩
theorem hasStr_no (D : List Nat) (i n c : Nat) (A : Option Addr) (w : World) (hn : D.length = n) (hn2 : n ≤ 1000) (hi : i < 5) (h5 : ∀ j ∈ D, j < 5) (hno : i ∉ D) (hr : Row w w.heap.size A (recs idC D)) :
    Calls Tryz.prog 19 #[.slice A n c, .string (ltId i)] w fun e w' => e = .returned (.bool false) ∧ w = w' := by
  have H := Lib.hid (idxStr_no D i n c A w hn hn2 hi h5 hno hr)
  clear hn hi h5 hno hr
  go_enter Tryz.func19, Tryz.ntmps19
  go_wp2_with (fail)
  refine H.out.mono ?_
  rintro e w' ⟨rfl, rfl⟩
  go_wp2_with (fail)
  go_ret
  exact ⟨rfl, rfl⟩

/-- Where the law stands. -/
structure DoSt (w wr : World) (xs : List Int) (k r g pl : Nat) (D : List Nat) (A : Option Addr) (c : Nat) (at_ : Int) : Prop where
  strm : Strm wr w.heap.size xs (2 + 2 * k)
  doer : ∃ L t, Doer wr (w.heap.size + 1) g r L t ∧ t ≤ at_ ∧ Kpt D L at_
  lets : Cells wr pl 0 (recs ltC [0, 1, 2, 3, 4])
  own : wr.ownsRow (pl + 1) 9 1 (.slice A D.length c) D.length (recs idC D)
  five : ∀ j ∈ D, j < 5
  len : D.length ≤ k
  at0 : 0 ≤ at_
  at1 : at_ ≤ 10 * k
  below : Below w.heap.size w wr
  gpl : g < pl
  plr : pl < wr.heap.size

theorem strs_alloc {w : World} {pl : Nat} {xs : List Value} (h : Cells w pl 0 xs) {w' : World} {p : Nat} (hg : w.grownBy w' (some p)) (hp : p ≠ pl) (hl : pl < w.heap.size) : Cells w' pl 0 xs := h.keep (hg.block pl hl (fun e => hp (Option.some.inj e).symm))

set_option maxRecDepth 100000 in
set_option maxHeartbeats 4000000 in
theorem doL_yes (w : World) (xs : List Int) (n c : Nat) (A : Option Addr) (hs : ∀ (W : World), Below w.heap.size w W → W.heap[w.heap.size]? = some (.cells #[.slice A n c, .int .i64 0] 25) → Strm W w.heap.size xs 0) :
    Calls Tryz.prog 4 #[.slice A n c] w fun e w' => e = .returned (.bool true) ∧ Below w.heap.size w w' := by
  obtain ⟨i0, hi0, hz0, hz1, hz2⟩ := info_parts Tryz.infoSt
  have HS := Lib.hid hs
  clear hs
  go_enter Tryz.func4, Tryz.ntmps4
  go_wp2_with (fail)
  generalize hW : w.alloc (.cells #[.slice A n c, .int .i64 0] 25) = W
  have hWs : W.heap.size = w.heap.size + 1 := by rw [← hW]; simp
  have hB0 : Below w.heap.size w W := hW ▸ (Below.refl _ _).alloc (Nat.le_refl _) _
  have HS0 := Lib.hid (HS.out W hB0 (by rw [← hW]; exact heap_new w _))
  have HB0 := Lib.hid hB0
  clear hW hB0 HS
  have hR := nextV_range xs 0 (4 - 1 + 1) (by omega)
  refine (range_any W w.heap.size 0 xs 1 4 (by omega) (by omega) (by omega) (by omega) (by omega) HS0.out).mono ?_
  rintro e w1 ⟨rfl, hst1, hg1⟩
  have hs1 := hg1.size
  obtain ⟨r, er⟩ : ∃ r : Nat, (r : Int) = 1 + nextV xs 0 (4 - 1 + 1) := ⟨(1 + nextV xs 0 (4 - 1 + 1)).toNat, by omega⟩
  rw [← er]
  have hr : 1 ≤ r ∧ r ≤ 4 := by omega
  have HST1 := Lib.hid hst1
  have HB1 := Lib.hid (HB0.out.grown hg1 (by omega) (fun g hg => by injection hg with hg; omega))
  clear hst1 hg1 HS0 er hR
  go_wp2_with (fail)
  refine (newDoer_any r w1 (by omega) (by omega)).mono ?_
  rintro e w2 ⟨g, rfl, hgs, hgb, hb2⟩
  have hs2 := hb2.size
  have hglt := (Array.getElem?_eq_some_iff.1 hgb).1
  have HD2 := Lib.hid (show Doer w2 (w.heap.size + 1) g r [] 0 from ⟨⟨none, 0, hgb, .inl ⟨rfl, rfl, rfl, rfl⟩⟩, by simp, by simp, Int.le_refl _, by omega⟩)
  have HST2 := Lib.hid (HST1.out.below hb2)
  have HB2 := Lib.hid (HB1.out.trans (hb2.mono (by omega)))
  clear hgb hb2 HST1
  go_wp2_with (fail)
  have HST3 := Lib.hid (HST2.out.alloc (.cells #[.string ⟨#[108, 97]⟩, .string ⟨#[]⟩, .string ⟨#[]⟩, .int .i64 0, .int .i64 0, .int .i64 20, .string ⟨#[108, 98]⟩, .string ⟨#[]⟩, .string ⟨#[]⟩, .int .i64 0, .int .i64 0, .int .i64 50, .string ⟨#[108, 99]⟩, .string ⟨#[]⟩, .string ⟨#[]⟩, .int .i64 0, .int .i64 0, .int .i64 50, .string ⟨#[108, 100]⟩, .string ⟨#[]⟩, .string ⟨#[]⟩, .int .i64 0, .int .i64 0, .int .i64 100, .string ⟨#[108, 101]⟩, .string ⟨#[]⟩, .string ⟨#[]⟩, .int .i64 0, .int .i64 0, .int .i64 1000] 46))
  have HLT := Lib.hid (Cells.new w2 #[.string ⟨#[108, 97]⟩, .string ⟨#[]⟩, .string ⟨#[]⟩, .int .i64 0, .int .i64 0, .int .i64 20, .string ⟨#[108, 98]⟩, .string ⟨#[]⟩, .string ⟨#[]⟩, .int .i64 0, .int .i64 0, .int .i64 50, .string ⟨#[108, 99]⟩, .string ⟨#[]⟩, .string ⟨#[]⟩, .int .i64 0, .int .i64 0, .int .i64 50, .string ⟨#[108, 100]⟩, .string ⟨#[]⟩, .string ⟨#[]⟩, .int .i64 0, .int .i64 0, .int .i64 100, .string ⟨#[108, 101]⟩, .string ⟨#[]⟩, .string ⟨#[]⟩, .int .i64 0, .int .i64 0, .int .i64 1000] 46 (0, 0) (recs ltC [0, 1, 2, 3, 4]) (by rfl))
  have HB3 := Lib.hid (HB2.out.alloc (by omega) (.cells #[.string ⟨#[108, 97]⟩, .string ⟨#[]⟩, .string ⟨#[]⟩, .int .i64 0, .int .i64 0, .int .i64 20, .string ⟨#[108, 98]⟩, .string ⟨#[]⟩, .string ⟨#[]⟩, .int .i64 0, .int .i64 0, .int .i64 50, .string ⟨#[108, 99]⟩, .string ⟨#[]⟩, .string ⟨#[]⟩, .int .i64 0, .int .i64 0, .int .i64 50, .string ⟨#[108, 100]⟩, .string ⟨#[]⟩, .string ⟨#[]⟩, .int .i64 0, .int .i64 0, .int .i64 100, .string ⟨#[108, 101]⟩, .string ⟨#[]⟩, .string ⟨#[]⟩, .int .i64 0, .int .i64 0, .int .i64 1000] 46))
  have HD3 := Lib.hid (HD2.out.keep ((Below.refl _ w2).alloc (Nat.le_refl _) (.cells #[.string ⟨#[108, 97]⟩, .string ⟨#[]⟩, .string ⟨#[]⟩, .int .i64 0, .int .i64 0, .int .i64 20, .string ⟨#[108, 98]⟩, .string ⟨#[]⟩, .string ⟨#[]⟩, .int .i64 0, .int .i64 0, .int .i64 50, .string ⟨#[108, 99]⟩, .string ⟨#[]⟩, .string ⟨#[]⟩, .int .i64 0, .int .i64 0, .int .i64 50, .string ⟨#[108, 100]⟩, .string ⟨#[]⟩, .string ⟨#[]⟩, .int .i64 0, .int .i64 0, .int .i64 100, .string ⟨#[108, 101]⟩, .string ⟨#[]⟩, .string ⟨#[]⟩, .int .i64 0, .int .i64 0, .int .i64 1000] 46)))
  have hM := nextV_range xs 1 (20 - 1 + 1) (by omega)
  refine (range_any _ w.heap.size 1 xs 1 20 (by omega) (by omega) (by omega) (by omega) (by omega) HST3.out).mono ?_
  rintro e w4 ⟨rfl, hst4, hg4⟩
  have hs4 := hg4.size
  simp only [World.size_alloc] at hs4
  obtain ⟨M, eM⟩ : ∃ M : Nat, (M : Int) = 1 + nextV xs 1 (20 - 1 + 1) := ⟨(1 + nextV xs 1 (20 - 1 + 1)).toNat, by omega⟩
  rw [← eM]
  have hM2 : M ≤ 20 := by omega
  have HST4 := Lib.hid (show DoSt w w4 xs 0 r g w2.heap.size [] none 0 0 from
    ⟨hst4, ⟨[], 0, HD3.out.grown hg4 (by omega), Int.le_refl _, by intro j hj; simp at hj⟩, strs_alloc HLT.out hg4 (by omega) (by simp), by simpa [recs] using World.ownsRow_nil _ _ _ _, by simp, by simp, Int.le_refl _, by simp, HB3.out.grown hg4 (by simp; omega) (fun g hg => by injection hg with hg; omega), hglt, by omega⟩)
  obtain ⟨pl, epl⟩ : ∃ pl, pl = w2.heap.size := ⟨_, rfl⟩
  rw [← epl] at HST4
  clear hst4 hg4 HST3 HLT HB3 HD3 HD2 HST2 HB2 eM hM HB1
  go_wp2_with (fail)
  rw [← epl]
  clear epl
  go_loopw [7, 8, 35] (fun d a i wr => ∃ (k : Nat) (D : List Nat) (A7 : Option Addr) (c7 : Nat) (at_ : Int), k ≤ M ∧ i = .int .i64 (k : Int) ∧ d = .slice A7 D.length c7 ∧ a = .int .i64 at_ ∧ DoSt w wr xs k r g pl D A7 c7 at_) (fun _ _ i _ => M - (intOf i).toNat)
  case atStart => exact ⟨0, [], none, 0, 0, Nat.zero_le _, rfl, rfl, rfl, HST4.out⟩
  case round =>
    obtain ⟨k, D, A7, c7, at_, hk, rfl, rfl, rfl, hst⟩ := hrel
    have HST := Lib.hid hst
    have hszr := hst.below.size
    have hat0 := hst.at0
    have hat1 := hst.at1
    have hgpl := hst.gpl
    have hplr := hst.plr
    have hDl := hst.len
    obtain ⟨L, t, hdoer, hta, hkpt⟩ := hst.doer
    have hgq := hdoer.qg
    have HDO := Lib.hid hdoer
    have HKPT := Lib.hid hkpt
    obtain ⟨m, em⟩ : ∃ m, m = D.length := ⟨_, rfl⟩
    rw [← em] at hDl ⊢
    have HEM := Lib.hid em
    clear hst hdoer hkpt HST4 em
    by_cases hlt : k < M
    · have hlt' : (k : Int) < (M : Int) := by omega
      go_wp2_with (fail)
      refine (pick_any _ w.heap.size (2 + 2 * k) _ 4 4 xs [0, 1, 5, 10] (by omega) rfl (by omega) (by omega) (HST.out.strm.alloc _) (by omega) (Cells.new _ _ _ _ _ rfl)).mono ?_
      rintro e w5 ⟨rfl, hst5, hg5⟩
      have hpk : 0 ≤ ([0, 1, 5, 10] : List Int).getD (nextN xs (2 + 2 * k) 4) 0 ∧ ([0, 1, 5, 10] : List Int).getD (nextN xs (2 + 2 * k) 4) 0 ≤ 10 := by
        have := nextN_lt xs (2 + 2 * k) 4 (by omega)
        have h4 : nextN xs (2 + 2 * k) 4 = 0 ∨ nextN xs (2 + 2 * k) 4 = 1 ∨ nextN xs (2 + 2 * k) 4 = 2 ∨ nextN xs (2 + 2 * k) 4 = 3 := by omega
        rcases h4 with h | h | h | h <;> rw [h] <;> decide
      obtain ⟨d, ed⟩ : ∃ d, d = ([0, 1, 5, 10] : List Int).getD (nextN xs (2 + 2 * k) 4) 0 := ⟨_, rfl⟩
      rw [← ed] at hpk ⊢
      have HG5 := Lib.hid (grown_of_alloc hg5)
      have HST5 := Lib.hid hst5
      have hw1 : IntKind.i64.wrap (at_ + d) = at_ + d := by rw [IntKind.wrap_i64]; omega
      clear ed hst5 hg5
      go_wp2_with (fail)
      refine (next_any w5 w.heap.size (2 + 2 * k + 1) xs 5 (by omega) (by omega) HST5.out).mono ?_
      rw [show (5 : Int) = ((5 : Nat) : Int) from rfl, nextN_eq xs (2 + 2 * k + 1) 5 (by omega)]
      rintro e w6 ⟨rfl, hst6, hg6⟩
      have hj := nextN_lt xs (2 + 2 * k + 1) 5 (by omega)
      obtain ⟨j, ej⟩ : ∃ j, j = nextN xs (2 + 2 * k + 1) 5 := ⟨_, rfl⟩
      rw [← ej] at hj ⊢
      obtain ⟨nat_, enat⟩ : ∃ nat_, nat_ = at_ + d := ⟨_, rfl⟩
      rw [← enat] at hw1 ⊢
      have hnat : at_ ≤ nat_ ∧ nat_ ≤ at_ + 10 := by omega
      have hg06 := grown_trans HG5.out hg6
      have hs6 := hg06.size
      have HG6 := Lib.hid hg06
      have HST6 := Lib.hid hst6
      have hlc := strs_alloc HST.out.lets hg06 (by omega) hplr
      have hjj : ([0, 1, 2, 3, 4] : List Nat)[j]? = some j := by
        have h5 : j = 0 ∨ j = 1 ∨ j = 2 ∨ j = 3 ∨ j = 4 := by omega
        rcases h5 with rfl | rfl | rfl | rfl | rfl <;> rfl
      have c0 := rec_cell ltC_len hlc j j hjj 0 _ rfl
      have c1 := rec_cell ltC_len hlc j j hjj 1 _ rfl
      have c2 := rec_cell ltC_len hlc j j hjj 2 _ rfl
      have c3 := rec_cell ltC_len hlc j j hjj 3 _ rfl
      have c4 := rec_cell ltC_len hlc j j hjj 4 _ rfl
      have c5 := rec_cell ltC_len hlc j j hjj 5 _ rfl
      simp only [Nat.zero_add, Nat.add_zero] at c0 c1 c2 c3 c4 c5
      have hpl6 : pl < w6.heap.size := by omega
      have hj5 : (j : Int) < 5 := by omega
      have HDC := Lib.hid (fun (V : World) (hV : wr.grownBy V (some w.heap.size)) => do_any L j r (w.heap.size + 1) g t nat_ V (HDO.out.grown hV (by omega)) hr.2 hj (by omega) (by omega))
      unfold ltV at HDC
      have hu := ltU_range hj
      obtain ⟨u, eu⟩ : ∃ u, u = ltU j := ⟨_, rfl⟩
      obtain ⟨id, eid⟩ : ∃ id, id = ltId j := ⟨_, rfl⟩
      rw [← eu, ← eid] at HDC
      rw [← eu] at c5 hu
      rw [← eid] at c0
      have HUI := Lib.hid (And.intro eu eid)
      clear ej enat hst6 hg6 hg06 hlc hjj eu eid HST5 HG5 hw1
      go_wp2_with (fail)
      generalize hV7 : w6.alloc (.cells #[.string id, .string ⟨#[]⟩, .string ⟨#[]⟩, .int .i64 0, .int .i64 0, .int .i64 u] 46) = w7
      have hs7 : w7.heap.size = w6.heap.size + 1 := by rw [← hV7]; simp
      have HG7 := Lib.hid (show wr.grownBy w7 (some w.heap.size) from hV7 ▸ grown_alloc HG6.out _)
      have HST7 := Lib.hid (show Strm w7 w.heap.size xs (2 + 2 * k + 1 + 1) from hV7 ▸ HST6.out.alloc _)
      have HL7 := Lib.hid (show w7.heap[w6.heap.size]? = some (.cells #[.string id, .string ⟨#[]⟩, .string ⟨#[]⟩, .int .i64 0, .int .i64 0, .int .i64 u] 46) by rw [← hV7]; exact heap_new w6 _)
      clear hV7 c0 c1 c2 c3 c4 c5
      refine (HDC.out w7 HG7.out).mono ?_
      rintro e w8 ⟨ok, er, N, t', rfl, hd8, ht8, hg8, hans⟩
      have hs8 := hg8.size
      have HD8 := Lib.hid hd8
      have hl8 := (hg8.block w6.heap.size (by omega) (by intro e; injection e with e; omega)).trans HL7.out
      have l0 := cell_of_blk (j := 0) hl8 rfl
      have l5 := cell_of_blk (j := 5) hl8 rfl
      have hl8lt : w6.heap.size < w8.heap.size := by omega
      have HOWN8 := Lib.hid (own_kept (own_kept HST.out.own HG7.out (by omega)) hg8 (by omega))
      have HSTAY := Lib.hid (fun (wz : World) (D' : List Nat) (A' : Option Addr) (c' : Nat) (hz : w8.grownBy wz (Value.slice A7 m c7).ownBlock) (hkp : Kpt D' N nat_) (ho : wz.ownsRow (pl + 1) 9 1 (.slice A' D'.length c') D'.length (recs idC D')) (h5 : ∀ j ∈ D', j < 5) (hl : D'.length ≤ k + 1) => show DoSt w wz xs (k + 1) r g pl D' A' c' nat_ from by
        have ho8 := HOWN8.out
        rw [← HEM.out] at ho8
        have hlo : ∀ p, (Value.slice A7 m c7).ownBlock = some p → pl + 1 ≤ p := fun p e => (ho8.lt p e).1
        have hno : ∀ p, (Value.slice A7 m c7).ownBlock = some p → ∀ cs, w8.heap[p]? ≠ some (.cells cs 148 (0, 0)) := fun p e cs h => own_ne ho8 h (by decide) e.symm
        have hb8 := (HST.out.below.grown HG7.out (by omega) (fun q hq => by injection hq with hq; omega)).grown hg8 (by omega) (fun q hq => by injection hq with hq; omega)
        have hl8 := strs_alloc (strs_alloc HST.out.lets HG7.out (by omega) hplr) hg8 (by omega) (by omega)
        have hz1 := hz.size
        exact ⟨by have := (HST7.out.row hg8 (fun g' e => by injection e with e; omega)).row hz (fun g' e => by have := hlo g' e; omega); exact this,
          ⟨N, t', hd8.row hz (fun p e => ⟨by have := hlo p e; omega, .inr (hno p e)⟩), ht8, hkp⟩, hl8.keep (hz.block pl (by omega) (fun e => by have := hlo pl e.symm; omega)), ho, h5, hl, by omega, by omega, hb8.grown hz (by omega) (fun q hq => by have := hlo q hq; omega), hgpl, by omega⟩)
      rcases hans with ⟨rfl, rfl, ha1, ha2, ha3⟩ | ⟨rfl, her, rfl⟩
      · have hjD := (HKPT.out.later (show at_ ≤ nat_ by omega)).fresh ha2 ha1
        have hul : ¬ u ≤ nat_ := by rw [HUI.out.1]; omega
        have ho8 := HOWN8.out
        rw [← HEM.out] at ho8
        have HO8 := Lib.hid ho8
        have HNO := Lib.hid (hasStr_no D j m c7 A7 w8 HEM.out.symm (by omega) hj HST.out.five hjD (own_row ho8))
        rw [← HUI.out.2] at HNO
        have HKP := Lib.hid ((HKPT.out.later (show at_ ≤ nat_ by omega)).do ha3)
        clear hd8 hg8 hl8 ho8 ha1 ha2 ha3 hjD HOWN8
        go_wp2_with (fail)
        refine HNO.out.mono ?_
        rintro e w9 ⟨rfl, rfl⟩
        go_wp2_with (at_builtin; refine wpList_append_own _ rfl _ _ 48 rfl (pl + 1) 9 i0 _ 1 16 Tryz.underlying48 hi0 hz0 hz1 hz2 rfl (by decide) _ _ _ rfl (HO8.out.alloc _) ⟨w8.heap.size, 0, none⟩ 1 1 [.string id] rfl rfl ?c1 ?c2 ?c3 ?c4 ?c5 ?_)
        case c1 => exact cells_add (Cells.new w8 _ _ _ _ rfl)
        case c2 => intro x hx; simp at hx; rw [hx]; rfl
        case c3 => unfold maxLen; omega
        case c4 => omega
        case c5 => simp; omega
        intro v9 w9 ho9 hg9 _
        obtain ⟨A9, c9, rfl⟩ := own_slice ho9
        have hs9 := hg9.size
        simp only [World.size_alloc] at hs9
        have HO9 := Lib.hid ho9
        have HG9 := Lib.hid (grown_of_alloc hg9)
        clear ho9 hg9 l0 l5
        go_wp2_with (fail)
        go_roundw
        case rel =>
          have hl : (D ++ [j]).length = m + 1 := by simp [← HEM.out]
          refine ⟨k + 1, D ++ [j], A9, c9, nat_, by omega, by go_num, by rw [hl], rfl, HSTAY.out w9 (D ++ [j]) A9 c9 HG9.out HKP.out ?_ ?_ (by rw [hl]; omega)⟩
          · rw [hl, recs_snoc]; unfold idC; rw [← HUI.out.2]; exact HO9.out
          · intro x hx
            rcases List.mem_append.1 hx with hx | hx
            · exact HST.out.five x hx
            · simp only [List.mem_singleton] at hx; omega
        case measure => simp [intOf]; omega
      · have HKP := Lib.hid (HKPT.out.later (show at_ ≤ nat_ by omega))
        have HFIN := Lib.hid (HSTAY.out w8 D A7 c7 (grown_refl _ _) HKP.out HOWN8.out HST.out.five (by have := HST.out.len; omega))
        clear hd8 hg8 hl8 l0 l5
        rcases her with rfl | rfl
        · go_wp2_with (fail)
          go_roundw
          case rel => exact ⟨k + 1, D, A7, c7, nat_, by omega, by go_num, by rw [HEM.out], rfl, HFIN.out⟩
          case measure => simp [intOf]; omega
        · go_wp2_with (fail)
          go_roundw
          case rel => exact ⟨k + 1, D, A7, c7, nat_, by omega, by go_num, by rw [HEM.out], rfl, HFIN.out⟩
          case measure => simp [intOf]; omega
    · have hkM : k = M := by omega
      subst hkM
      go_wp2_with (fail)
      refine (ready_yes wr).mono ?_
      rintro e w9 ⟨rfl, hb9⟩
      have HB9 := Lib.hid (HST.out.below.trans (hb9.mono (by omega)))
      clear hb9
      go_wp2_with (fail)
      go_ret
      exact ⟨rfl, HB9.out⟩
end Go.Proofs.YtbimiojoihfnkaaGreatDoor
