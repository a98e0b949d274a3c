/- TracksStayPlain: the law function. -/
import Derived.Test.YtbimiojoihfnkaaGreatDoorTpH
import Derived.Test.YtbimiojoihfnkaaGreatDoorTpF
import Derived.Test.YtbimiojoihfnkaaGreatDoorTpD
import Derived.Test.YtbimiojoihfnkaaGreatDoorReady
namespace Go.Proofs.YtbimiojoihfnkaaGreatDoor
open Go.RowKit

theorem Trk.nar {l : List Fx} {j : Nat} {a : Int} (h : Trk l j a) : ∀ x ∈ l, NarF x := fun x hx => by
  have := h.ok x hx
  exact ⟨by omega, by omega, by omega, by omega⟩
theorem atF_get {l : List Fx} {is : List Nat} {c p : Nat} {x : Fx} (hp : is[c]? = some p) (hx : l[p]? = some x) : (atF l is)[c]? = some x := by
  simp [atF, hp, getF_some hx]
theorem atF_mem {l : List Fx} {is : List Nat} (hlt : ∀ i ∈ is, i < l.length) : ∀ x ∈ atF l is, x ∈ l := by
  intro x hx
  obtain ⟨i, hi, rfl⟩ := List.mem_map.1 hx
  have hg := List.getElem?_eq_getElem (hlt i hi)
  rw [getF_some hg]
  exact List.mem_of_getElem? hg
theorem good_at {l : List Fx} {is : List Nat} (hg : GoodF l) (hr : is.Pairwise (· < ·)) (hlt : ∀ i ∈ is, i < l.length) (hl : is.length ≤ 100) : GoodF (atF l is) := by
  refine ⟨by simpa [atF] using hl, fun x hx => hg.ok x (atF_mem hlt x hx), ?_⟩
  unfold atF
  rw [List.pairwise_map]
  refine hr.imp_of_mem ?_
  intro a b ha hb hab
  have h1 := List.getElem?_eq_getElem (hlt a ha)
  have h2 := List.getElem?_eq_getElem (hlt b hb)
  rw [getF_some h1, getF_some h2]
  exact hg.lt hab h1 h2
/-- The first number that is not less. -/
theorem first_ge {is : List Nat} {i c0 x0 : Nat} (h0 : is[c0]? = some x0) (hx : i ≤ x0) : ∃ K p : Nat, is[K]? = some p ∧ i ≤ p ∧ ∀ k x : Nat, k < K → is[k]? = some x → x < i := by
  induction is generalizing c0 with
  | nil => simp at h0
  | cons a t ih =>
    by_cases ha : i ≤ a
    · exact ⟨0, a, rfl, ha, fun k x hk _ => by omega⟩
    · cases c0 with
      | zero => simp at h0; omega
      | succ c0 =>
        obtain ⟨K, p, h1, h2, h3⟩ := ih (c0 := c0) (by simpa using h0)
        refine ⟨K + 1, p, by simpa using h1, h2, ?_⟩
        intro k x hk hx
        cases k with
        | zero => simp at hx; omega
        | succ k => exact h3 k x (by omega) (by simpa using hx)

set_option maxRecDepth 100000 in
set_option maxHeartbeats 2000000 in
theorem tpL_yes (w : World) (xs : List Int) (n c : Nat) (A : Option Addr) (hs : ∀ (W : World), Below w.heap.size w W → W.heap[w.heap.size]? = some (.cells #[.slice A n c, .int .i64 0] 25) → Strm W w.heap.size xs 0) :
    Calls Tryz.prog 8 #[.slice A n c] w fun e w' => e = .returned (.bool true) ∧ Below w.heap.size w w' := by
  obtain ⟨i0, hi0, hz0, hz1, hz2⟩ := info_parts Tryz.infoFx
  have HS := Lib.hid hs
  clear hs
  go_enter Tryz.func8, Tryz.ntmps8
  go_wp2_with (fail)
  generalize hW : w.alloc (.cells #[.slice A n c, .int .i64 0] 25) = W
  have hWs : W.heap.size = w.heap.size + 1 := by rw [← hW]; simp
  have hB0 : Below w.heap.size w W := hW ▸ (Below.refl _ _).alloc (Nat.le_refl _) _
  have HS0 := Lib.hid (HS.out W hB0 (by rw [← hW]; exact heap_new w _))
  have HB0 := Lib.hid hB0
  clear hW hB0 HS
  refine (rightTrack_any W w.heap.size 0 12 xs (by omega) (by omega) HS0.out).mono ?_
  rintro e w1 ⟨v1, l, a, k1, rfl, htrk, hlm, ha, hown1, hst1, hk1, hg1⟩
  have hs1 := hg1.size
  obtain ⟨N, eN⟩ : ∃ N, N = l.length := ⟨_, rfl⟩
  rw [← eN] at hown1 hlm htrk
  obtain ⟨A1, c1, rfl⟩ := own_slice hown1
  have HNR := Lib.hid htrk.nar
  have HGF := Lib.hid (htrk.good (by omega) (by omega))
  have HN := Lib.hid eN.symm
  have HO1 := Lib.hid hown1
  have HST1 := Lib.hid hst1
  have HG1 := Lib.hid hg1
  clear htrk hown1 hst1 hg1 HS0 eN
  go_wp2_with (fail)
  refine (range_nat w1 w.heap.size k1 6 xs (by omega) (by omega) HST1.out).mono ?_
  have hnr := nextN_lt xs k1 7 (by omega)
  obtain ⟨mo, emo⟩ : ∃ mo : Nat, mo = nextN xs k1 7 := ⟨_, rfl⟩
  simp only [Nat.reduceAdd]
  rw [← emo] at hnr ⊢
  rintro e w2 ⟨rfl, hst2, hg2⟩
  have hs2 := hg2.size
  have HR2 := Lib.hid (own_row (own_kept HO1.out hg2 (by omega)))
  have HB2 := Lib.hid (HB0.out.grown (grown_trans HG1.out hg2) (by omega) (fun g hg => by injection hg with hg; omega))
  clear hst2 hg2 emo HO1 HST1 HG1
  go_wp2_with (fail)
  refine (plain_any l N c1 mo A1 w2 (by omega) HN.out HGF.out HNR.out HR2.out).mono ?_
  rintro e w3 ⟨v3, B, rfl, hBl, hgk, hown3, hb3⟩
  have hs3 := hb3.size
  have HKF := Lib.hid (fun (h : 0 < N) => kept_of h hBl (hgk h))
  have HSO := Lib.hid (kI_sorted B N)
  have HLT := Lib.hid (fun i (h : i ∈ kI B N) => (kI_mem.1 h).1)
  have hML := kI_length B N
  obtain ⟨is, eis⟩ : ∃ is, is = kI B N := ⟨_, rfl⟩
  rw [← eis] at hown3 HKF HSO HLT hML
  obtain ⟨M, eM⟩ : ∃ M, M = is.length := ⟨_, rfl⟩
  rw [← eM] at hown3 hML
  obtain ⟨A3, c3, rfl⟩ := own_slice hown3
  have HM := Lib.hid eM.symm
  have HR3 := Lib.hid (own_row hown3)
  have HRA := Lib.hid ((HR2.out.below hb3).mono hs3)
  have HB3 := Lib.hid (HB2.out.trans (hb3.mono (by have := HB2.out.size; omega)))
  clear hown3 hb3 HR2 HB2 hBl hgk eis eM
  -- the first test
  have HTEST : Hid (N = 0 ∨ ∃ b o, A3 = some ⟨b, o, none⟩ ∧ b < w3.heap.size ∧ Cells w3 b o (recs natC is) ∧ 0 < M ∧ is[0]? = some 0 ∧ is[M - 1]? = some (N - 1)) := by
    refine Lib.hid ?_
    rcases Nat.eq_zero_or_pos N with h | h
    · exact .inl h
    · have hk := HKF.out h
      have hM0 : 0 < is.length := (List.getElem?_eq_some_iff.1 hk.head).1
      obtain ⟨b, o, e1, e2, e3⟩ := Row.posR natC_len (by omega) HR3.out hM0
      exact .inr ⟨b, o, e1, e2, e3, by rw [← HM.out]; exact hM0, hk.head, by rw [← HM.out]; exact hk.last⟩
  have HSRT := Lib.hid (sortedI_yes is M c3 A3 w3 HM.out (by omega) HR3.out HSO.out)
  go_upto_region 4 with (fail)
  go_cut [64] (fun s wx => s = .bool false ∧ Below w3.heap.size w3 wx)
  case first =>
    rcases HTEST.out with h0 | ⟨b, o, rfl, hb, hc, hM0, hf, hla⟩
    · subst h0
      go_wp2_with (fail)
      refine HSRT.out.mono ?_
      rintro e w4 ⟨rfl, hb4⟩
      have HB4 := Lib.hid hb4
      clear hb4
      go_wp2_with (fail)
      go_meet
      exact ⟨rfl, HB4.out⟩
    · have HC := Lib.hid hc
      have HF := Lib.hid hf
      have HLA := Lib.hid hla
      clear hc hf hla
      go_wp2_with (fail)
      refine HSRT.out.mono ?_
      rintro e w4 ⟨rfl, hb4⟩
      have HB4 := Lib.hid hb4
      have hc4 := HC.out.keep (hb4.block b hb)
      have c0 := nat_cell hc4 0 0 HF.out
      have cl := nat_cell hc4 (M - 1) (N - 1) HLA.out
      have hN0 : 0 < N := by have := HLT.out _ (List.mem_of_getElem? HF.out); omega
      have q1 : (0 : Int) < (N : Int) := by omega
      have q2 : ¬ (M : Int) = 0 := by omega
      have q2n : ¬ M = 0 := by omega
      have q3 : (0 : Int) < (M : Int) := by omega
      have wM : IntKind.i64.wrap ((M : Int) - 1) = ((M - 1 : Nat) : Int) := by rw [IntKind.wrap_i64]; omega
      have wN : IntKind.i64.wrap ((N : Int) - 1) = ((N - 1 : Nat) : Int) := by rw [IntKind.wrap_i64]; omega
      have q4 : ((M - 1 : Nat) : Int) < (M : Int) := by omega
      simp only [Nat.add_zero, Int.natCast_zero] at c0
      clear hb4 hc4
      go_wp2_with (fail)
      go_meet
      exact ⟨by simp; omega, HB4.out⟩
  case rest =>
    obtain ⟨rfl, hbx⟩ := hcut
    obtain ⟨w4, rfl⟩ : ∃ w4 : World, w4 = wc := ⟨_, rfl⟩
    have hs4 := hbx.size
    have HR4 := Lib.hid ((HR3.out.below hbx).mono hs4)
    have HRA4 := Lib.hid ((HRA.out.below hbx).mono hs4)
    have HB4 := Lib.hid (HB3.out.trans (hbx.mono (by have := HB3.out.size; omega)))
    clear hbx HR3 HRA HB3 HSRT HTEST
    go_wp2_with (fail)
    go_loopw [8, 67] (fun v i wr => ∃ k : Nat, k ≤ M ∧ i = .int .i64 (k : Int) ∧ wr.ownsRow w4.heap.size 39 5 v k (recs fxC (atF l (is.take k))) ∧ Below w4.heap.size w4 wr) (fun _ i _ => M - (intOf i).toNat)
    case atStart => exact ⟨0, Nat.zero_le _, rfl, World.ownsRow_nil _ _ _ _, Below.refl _ _⟩
    case round =>
      obtain ⟨k, hk, rfl, hown, hbl⟩ := hrel
      have hsz := hbl.size
      have HBL := Lib.hid hbl
      have HOWN := Lib.hid hown
      by_cases hlt : k < M
      · obtain ⟨bp, op, rfl, hbp, hcp⟩ := Row.posR natC_len (by omega) HR4.out (by have := HM.out; omega)
        obtain ⟨p, hp⟩ : ∃ p, is[k]? = some p := ⟨_, List.getElem?_eq_getElem (by have := HM.out; omega)⟩
        have hpN := HLT.out p (List.mem_of_getElem? hp)
        obtain ⟨x, hx⟩ : ∃ x, l[p]? = some x := ⟨_, List.getElem?_eq_getElem (by have := HN.out; omega)⟩
        obtain ⟨b, o, rfl, hb, hc⟩ := Row.posR fxC_len (by omega) HRA4.out (by have := HN.out; omega)
        have cp := nat_cell (hcp.keep (hbl.block bp hbp)) k p hp
        obtain ⟨s0, s1, s2, s3, s4⟩ := fix_cells (hc.keep (hbl.block b hb)) p x hx
        have HTK := Lib.hid (show atF l (is.take (k + 1)) = atF l (is.take k) ++ [x] by rw [List.take_add_one, hp]; simp [atF, getF_some hx])
        obtain ⟨xa, xx, xy, xe⟩ := x
        simp only at s1 s2 s3 s4
        have hkM : (k : Int) < (M : Int) := by omega
        have hpNI : (p : Int) < (N : Int) := by omega
        have hp0 : (0 : Int) ≤ (p : Int) := by omega
        have hk0 : (0 : Int) ≤ (k : Int) := by omega
        clear hbl hown hcp hp hx hc
        go_wp2_with (at_builtin; refine wpList_append_own _ rfl _ _ 26 rfl w4.heap.size 39 i0 _ 5 48 Tryz.underlying26 hi0 hz0 hz1 hz2 rfl (by decide) _ _ _ rfl (HOWN.out.alloc _) ⟨wr.heap.size, 0, none⟩ 1 1 (fxC (xa, xx, xy, xe)) rfl rfl ?c1 ?c2 ?c3 ?c4 ?c5 ?_)
        case c1 => exact cells_add (Cells.new wr _ _ _ _ rfl)
        case c2 => exact fxC_one _
        case c3 => unfold maxLen; omega
        case c4 => omega
        case c5 => simp; omega
        intro v9 w9 ho9 hg9 _
        obtain ⟨A9, c9, rfl⟩ := own_slice ho9
        have hg9' := grown_of_alloc hg9
        have HO9 := Lib.hid ho9
        have HB9 := Lib.hid (HBL.out.grown hg9' (by omega) (fun q hq => (HOWN.out.lt q hq).1))
        clear ho9 hg9 hg9' cp s0 s1 s2 s3 s4
        go_wp2_with (fail)
        go_roundw
        case rel =>
          refine ⟨k + 1, by omega, by go_num, ?_, HB9.out⟩
          rw [HTK.out, recs_snoc]
          exact HO9.out
        case measure => simp [intOf]; omega
      · obtain rfl : M = k := by omega
        have HTA := Lib.hid (show is.take M = is from List.take_of_length_le (by have := HM.out; omega))
        rw [HTA.out] at HOWN
        obtain ⟨A8, c8, rfl⟩ := own_slice hown
        have HR8 := Lib.hid (own_row HOWN.out)
        have HRP := Lib.hid ((HR4.out.below hbl).mono hsz)
        have HRL := Lib.hid ((HRA4.out.below hbl).mono hsz)
        have HB5 := Lib.hid (HB4.out.trans (hbl.mono (by have := HB4.out.size; omega)))
        clear hbl hown HBL HTA HOWN HR4 HRA4 HB4
        obtain ⟨w5, rfl⟩ : ∃ w5 : World, w5 = wr := ⟨_, rfl⟩
        go_wp2_with (fail)
        go_loopw [81] (fun i wr => ∃ j : Nat, j ≤ N ∧ i = .int .i64 (j : Int) ∧ Below w5.heap.size w5 wr) (fun i _ => N - (intOf i).toNat)
        case atStart => exact ⟨0, Nat.zero_le _, rfl, Below.refl _ _⟩
        case round =>
          obtain ⟨i, hi, rfl, hbl⟩ := hrel
          have hsz := hbl.size
          have HBL := Lib.hid hbl
          by_cases hlt : i < N
          · have hkf := HKF.out (by omega)
            obtain ⟨K, p, hK, hip, hlo⟩ := first_ge (i := i) hkf.last (by omega)
            have hKM := (List.getElem?_eq_some_iff.1 hK).1
            obtain ⟨bp, op, rfl, hbp, hcp⟩ := Row.posR natC_len (by omega) HRP.out (by omega)
            obtain ⟨b, o, rfl, hb, hc⟩ := Row.posR fxC_len (by omega) HRL.out (by have := HN.out; omega)
            rw [HM.out] at hKM
            have hpN := HLT.out p (List.mem_of_getElem? hK)
            have HKK := Lib.hid hK
            have HLO := Lib.hid hlo
            have hlI : (i : Int) < (N : Int) := by omega
            have hi0' : (0 : Int) ≤ (i : Int) := by omega
            have HCP := Lib.hid hcp
            have HC := Lib.hid hc
            clear hcp hc hbl hK hlo
            go_wp2_with (fail)
            generalize hV : wr.alloc (.cells #[.int .i64 (i : Int)] 3) = V
            have hVs : V.heap.size = wr.heap.size + 1 := by rw [← hV]; simp
            have hBV : Below wr.heap.size wr V := hV ▸ (Below.refl _ _).alloc (Nat.le_refl _) _
            have hvi : V.cell? ⟨wr.heap.size, 0, none⟩ = some (.int .i64 (i : Int)) := by rw [← hV]; exact cell_of_blk (j := 0) (heap_new wr _) rfl
            have hB5V := HBL.out.trans (hBV.mono hsz)
            have hcpV := HCP.out.keep (hB5V.block bp hbp)
            have hcV := HC.out.keep (hB5V.block b hb)
            have HIX := Lib.hid (idxI_any is M c3 i K wr.heap.size bp op V HM.out (by omega) hcpV hvi (by omega) HLO.out (fun x hx => by rw [HKK.out] at hx; injection hx with hx; omega))
            have cK := nat_cell hcpV K p HKK.out
            have HB5V := Lib.hid hB5V
            have hKI : (K : Int) < (M : Int) := by omega
            have hK0 : (0 : Int) ≤ (K : Int) := by omega
            have hKn : ¬ (K : Int) < 0 := by omega
            have hKd : decide ((K : Int) < 0) = false := decide_eq_false hKn
            have hgV : wr.heap.size < V.heap.size := by omega
            have hbpV : bp < V.heap.size := by have := hB5V.size; omega
            have hbV : b < V.heap.size := by have := hB5V.size; omega
            clear hV hBV hB5V
            refine HIX.out.mono ?_
            rintro e wQ ⟨rfl, rfl⟩
            clear HIX
            by_cases hpi : p = i
            · subst hpi
              clear hcpV hcV
              go_upto_region 16 with (fail)
              go_quiet (fail)
              go_wp2_with (fail)
              go_roundw
              case rel => exact ⟨p + 1, by omega, by go_num, below_drewN HB5V.out _⟩
              case measure => simp [intOf]; omega
            · have hpi' : ¬ (p : Int) = (i : Int) := by omega
              have hKp : 0 < K := by
                rcases Nat.eq_zero_or_pos K with h | h
                · have h1 := HKK.out
                  rw [h, (HKF.out (by omega)).head] at h1
                  injection h1 with h1
                  omega
                · exact h
              obtain ⟨r, er⟩ : ∃ r, K = r + 1 := ⟨K - 1, by omega⟩
              obtain ⟨p', hp'⟩ : ∃ p', is[r]? = some p' := ⟨_, List.getElem?_eq_getElem (by have := HM.out; omega)⟩
              have hlt' := HLO.out r p' (by omega) hp'
              have hnear := (HKF.out (by omega)).near r p' p hp' (by rw [← er]; exact HKK.out) i hlt' (by omega)
              obtain ⟨x, hx⟩ : ∃ x, l[p']? = some x := ⟨_, List.getElem?_eq_getElem (by have := HN.out; omega)⟩
              obtain ⟨z, hz⟩ : ∃ z, l[p]? = some z := ⟨_, List.getElem?_eq_getElem (by have := HN.out; omega)⟩
              obtain ⟨y, hy⟩ : ∃ y, l[i]? = some y := ⟨_, List.getElem?_eq_getElem (by have := HN.out; omega)⟩
              rw [getF_some hx, getF_some hz, getF_some hy] at hnear
              have HNW := Lib.hid (fun V => nearWay_yes x z y (mo : Int) V (HNR.out x (List.mem_of_getElem? hx)) (HNR.out z (List.mem_of_getElem? hz)) (HNR.out y (List.mem_of_getElem? hy)) (by omega) (by omega) hnear)
              have cr := nat_cell hcpV r p' hp'
              obtain ⟨s0, s1, s2, s3, s4⟩ := fix_cells hcV p' x hx
              obtain ⟨u0, u1, u2, u3, u4⟩ := fix_cells hcV p z hz
              obtain ⟨v0, v1, v2, v3, v4⟩ := fix_cells hcV i y hy
              have hKz : ¬ (K : Int) = 0 := by omega
              have hKzb : ((K : Int) == 0) = false := by simp; omega
              have hKzd : decide ((K : Int) = 0) = false := decide_eq_false hKz
              have hpib : ((p : Int) != (i : Int)) = true := by simp; omega
              have hKzn : ¬ K = 0 := by omega
              have wK : IntKind.i64.wrap ((K : Int) - 1) = (r : Int) := by rw [IntKind.wrap_i64]; omega
              have hr0 : (0 : Int) ≤ (r : Int) := by omega
              have hrM : (r : Int) < (M : Int) := by omega
              have hp'0 : (0 : Int) ≤ (p' : Int) := by omega
              have hp'N : (p' : Int) < (N : Int) := by omega
              have hpN' : (p : Int) < (N : Int) := by omega
              have hp0 : (0 : Int) ≤ (p : Int) := by omega
              obtain ⟨xa, xx, xy, xe⟩ := x
              obtain ⟨za, zx, zy, ze⟩ := z
              obtain ⟨ya, yx, yy, ye⟩ := y
              unfold fxV at HNW
              simp only at s1 s2 s3 s4 u1 u2 u3 u4 v1 v2 v3 v4 HNW
              have HKEEP := Lib.hid (fun (U : World) (hU : Below V.heap.size V U) => show U.cell? ⟨wr.heap.size, 0, none⟩ = some (.int .i64 (i : Int)) ∧ U.cell? ⟨bp, op + K, none⟩ = some (.int .i64 (p : Int)) ∧ U.cell? ⟨bp, op + r, none⟩ = some (.int .i64 (p' : Int)) ∧ U.cell? ⟨b, o + p' * 5, none⟩ = some (.string ⟨#[100]⟩) ∧ U.cell? ⟨b, o + p' * 5 + 1, none⟩ = some (.int .i64 xa) ∧ U.cell? ⟨b, o + p' * 5 + 2, none⟩ = some (.int .i64 xx) ∧ U.cell? ⟨b, o + p' * 5 + 3, none⟩ = some (.int .i64 xy) ∧ U.cell? ⟨b, o + p' * 5 + 4, none⟩ = some (.int .i64 xe) ∧ U.cell? ⟨b, o + p * 5, none⟩ = some (.string ⟨#[100]⟩) ∧ U.cell? ⟨b, o + p * 5 + 1, none⟩ = some (.int .i64 za) ∧ U.cell? ⟨b, o + p * 5 + 2, none⟩ = some (.int .i64 zx) ∧ U.cell? ⟨b, o + p * 5 + 3, none⟩ = some (.int .i64 zy) ∧ U.cell? ⟨b, o + p * 5 + 4, none⟩ = some (.int .i64 ze) ∧ U.cell? ⟨b, o + i * 5, none⟩ = some (.string ⟨#[100]⟩) ∧ U.cell? ⟨b, o + i * 5 + 1, none⟩ = some (.int .i64 ya) ∧ U.cell? ⟨b, o + i * 5 + 2, none⟩ = some (.int .i64 yx) ∧ U.cell? ⟨b, o + i * 5 + 3, none⟩ = some (.int .i64 yy) ∧ U.cell? ⟨b, o + i * 5 + 4, none⟩ = some (.int .i64 ye) from
                ⟨(hU.cell (p := ⟨wr.heap.size, 0, none⟩) hgV).trans hvi, (hU.cell (p := ⟨bp, op + K, none⟩) hbpV).trans cK, (hU.cell (p := ⟨bp, op + r, none⟩) hbpV).trans cr, (hU.cell (p := ⟨b, o + p' * 5, none⟩) hbV).trans s0, (hU.cell (p := ⟨b, o + p' * 5 + 1, none⟩) hbV).trans s1, (hU.cell (p := ⟨b, o + p' * 5 + 2, none⟩) hbV).trans s2, (hU.cell (p := ⟨b, o + p' * 5 + 3, none⟩) hbV).trans s3, (hU.cell (p := ⟨b, o + p' * 5 + 4, none⟩) hbV).trans s4, (hU.cell (p := ⟨b, o + p * 5, none⟩) hbV).trans u0, (hU.cell (p := ⟨b, o + p * 5 + 1, none⟩) hbV).trans u1, (hU.cell (p := ⟨b, o + p * 5 + 2, none⟩) hbV).trans u2, (hU.cell (p := ⟨b, o + p * 5 + 3, none⟩) hbV).trans u3, (hU.cell (p := ⟨b, o + p * 5 + 4, none⟩) hbV).trans u4, (hU.cell (p := ⟨b, o + i * 5, none⟩) hbV).trans v0, (hU.cell (p := ⟨b, o + i * 5 + 1, none⟩) hbV).trans v1, (hU.cell (p := ⟨b, o + i * 5 + 2, none⟩) hbV).trans v2, (hU.cell (p := ⟨b, o + i * 5 + 3, none⟩) hbV).trans v3, (hU.cell (p := ⟨b, o + i * 5 + 4, none⟩) hbV).trans v4⟩)
              clear hcpV hcV hx hy hz hp' hnear er
              go_upto_region 16 with (fail)
              go_region_held3 (fun U => U.cell? ⟨wr.heap.size, 0, none⟩ = some (.int .i64 (i : Int)) ∧ U.cell? ⟨bp, op + K, none⟩ = some (.int .i64 (p : Int)) ∧ U.cell? ⟨bp, op + r, none⟩ = some (.int .i64 (p' : Int)) ∧ U.cell? ⟨b, o + p' * 5, none⟩ = some (.string ⟨#[100]⟩) ∧ U.cell? ⟨b, o + p' * 5 + 1, none⟩ = some (.int .i64 xa) ∧ U.cell? ⟨b, o + p' * 5 + 2, none⟩ = some (.int .i64 xx) ∧ U.cell? ⟨b, o + p' * 5 + 3, none⟩ = some (.int .i64 xy) ∧ U.cell? ⟨b, o + p' * 5 + 4, none⟩ = some (.int .i64 xe) ∧ U.cell? ⟨b, o + p * 5, none⟩ = some (.string ⟨#[100]⟩) ∧ U.cell? ⟨b, o + p * 5 + 1, none⟩ = some (.int .i64 za) ∧ U.cell? ⟨b, o + p * 5 + 2, none⟩ = some (.int .i64 zx) ∧ U.cell? ⟨b, o + p * 5 + 3, none⟩ = some (.int .i64 zy) ∧ U.cell? ⟨b, o + p * 5 + 4, none⟩ = some (.int .i64 ze) ∧ U.cell? ⟨b, o + i * 5, none⟩ = some (.string ⟨#[100]⟩) ∧ U.cell? ⟨b, o + i * 5 + 1, none⟩ = some (.int .i64 ya) ∧ U.cell? ⟨b, o + i * 5 + 2, none⟩ = some (.int .i64 yx) ∧ U.cell? ⟨b, o + i * 5 + 3, none⟩ = some (.int .i64 yy) ∧ U.cell? ⟨b, o + i * 5 + 4, none⟩ = some (.int .i64 ye))
                (first | go_keep | (exact hS))
                (first | (go_at_call 40; refine (HNW.out _).mono ?_; rintro e wA ⟨rfl, hbA⟩; have hB1 := ((Below.refl V.heap.size V).drew).trans hbA; have hS := HKEEP.out wA hB1))
              all_goals
                go_wp2_with (fail)
                go_roundw
                case rel => exact ⟨i + 1, by omega, by go_num, HB5V.out.trans (hB1.mono HB5V.out.size)⟩
                case measure => simp [intOf]; omega
          · obtain rfl : N = i := by omega
            have hs6 := hbl.size
            have HRL6 := Lib.hid ((HRL.out.below hbl).mono hsz)
            have HR86 := Lib.hid ((HR8.out.below hbl).mono hsz)
            have HB6 := Lib.hid (HB5.out.trans (hbl.mono (by have := HB5.out.size; omega)))
            have HLEN : Hid (lenW (atF l is) (M - 1) ≤ lenW l (N - 1) + 2 * N ∧ lenW l (N - 1) ≤ 1000000) := by
              refine Lib.hid ?_
              rcases Nat.eq_zero_or_pos N with h | h
              · have h1 : M = 0 := by omega
                rw [h, h1]
                exact ⟨Nat.le_refl _, by simp [lenW]⟩
              · have hk := HKF.out h
                have hM0 : 0 < is.length := (List.getElem?_eq_some_iff.1 hk.head).1
                have h1 := len_at l is HSO.out (M - 1) (by have := HM.out; omega)
                have e0 : is.getD 0 0 = 0 := by simp [List.getD, hk.head]
                have hla := hk.last
                rw [HM.out] at hla
                have e1 : is.getD (M - 1) 0 = N - 1 := by simp [List.getD, hla]
                have h2 := lenW_le l HNR.out (N - 1) (by have := HN.out; omega)
                rw [e0, e1] at h1
                exact ⟨by omega, by omega⟩
            have HGA := Lib.hid (good_at HGF.out HSO.out (fun i h => by have := HLT.out i h; have := HN.out; omega) (by have := HM.out; omega))
            have HNA := Lib.hid (fun x (h : x ∈ atF l is) => HNR.out x (atF_mem (fun i h => by have := HLT.out i h; have := HN.out; omega) x h))
            have HMA := Lib.hid (show (atF l is).length = M by unfold atF; rw [List.length_map]; exact HM.out)
            clear hbl
            go_wp2_with (fail)
            refine (length_any l N c1 A1 wr HN.out HGF.out HNR.out HRL6.out).mono ?_
            rintro e w6 ⟨rfl, hb6⟩
            have HR87 := Lib.hid ((HR86.out.below hb6).mono hb6.size)
            have HB7 := Lib.hid (HB6.out.trans (hb6.mono (by have := HB6.out.size; omega)))
            clear hb6
            go_wp2_with (fail)
            refine (length_any (atF l is) M c8 A8 w6 HMA.out HGA.out HNA.out HR87.out).mono ?_
            rintro e w7 ⟨rfl, hb7⟩
            have HB8 := Lib.hid (HB7.out.trans (hb7.mono (by have := HB7.out.size; omega)))
            clear hb7
            have hle := HLEN.out
            obtain ⟨one, eone⟩ : ∃ one, one = lenW l (N - 1) := ⟨_, rfl⟩
            obtain ⟨two, etwo⟩ : ∃ two, two = lenW (atF l is) (M - 1) := ⟨_, rfl⟩
            rw [← eone, ← etwo] at hle
            rw [← eone, ← etwo]
            have wN2 : IntKind.i64.wrap (2 * (N : Int)) = 2 * (N : Int) := by rw [IntKind.wrap_i64]; omega
            have wS : IntKind.i64.wrap ((one : Int) + 2 * (N : Int)) = (one : Int) + 2 * (N : Int) := by rw [IntKind.wrap_i64]; omega
            have hcmp : (two : Int) ≤ (one : Int) + 2 * (N : Int) := by omega
            clear eone etwo HLEN
            go_wp2_with (fail)
            refine (ready_yes w7).mono ?_
            rintro e w9 ⟨rfl, hb9⟩
            have HB9 := Lib.hid (HB8.out.trans (hb9.mono (by have := HB8.out.size; omega)))
            clear hb9
            go_wp2_with (fail)
            go_ret
            exact ⟨rfl, HB9.out⟩
end Go.Proofs.YtbimiojoihfnkaaGreatDoor
