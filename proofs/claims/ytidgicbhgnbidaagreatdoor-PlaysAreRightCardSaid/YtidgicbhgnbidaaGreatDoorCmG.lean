/- until and Begins by their contracts. -/
import Derived.Test.YtidgicbhgnbidaaGreatDoorCmE
import Derived.Test.YtidgicbhgnbidaaGreatDoorCmF
namespace Go.Proofs.YtidgicbhgnbidaaGreatDoor
open Go.RowKit

theorem take_while {α : Type} {p : α → Bool} : ∀ {l : List α} {j : Nat}, (∀ x ∈ l.take j, p x = true) → (∀ y, l[j]? = some y → p y = false) → l.takeWhile p = l.take j ∧ l.dropWhile p = l.drop j
  | [], j, _, _ => by simp
  | x :: l, 0, _, h => by
    have := h x rfl
    simp [this]
  | x :: l, j + 1, h1, h2 => by
    have hx := h1 x (by simp)
    obtain ⟨e1, e2⟩ := take_while (l := l) (j := j) (fun y hy => h1 y (by simp [hy])) (fun y hy => h2 y (by simpa using hy))
    simp [hx, e1, e2]
def unA (wvN : Nat → Nat) (C : Cm) (F : List Dv) (t : Int) (l : List Mk) (s : St) : St := unV wvN C F t (l.length + 1) l s
theorem unV_cons {wvN : Nat → Nat} {C : Cm} {F : List Dv} {t : Int} {n : Nat} {m : Mk} {l : List Mk} {s : St} : unV wvN C F t (n + 1) (m :: l) s = if m.at_ ≤ t then unV wvN C F t n ((m :: l).dropWhile (fun x => x.at_ == m.at_)) (bgA C m.at_ (((m :: l).takeWhile (fun x => x.at_ == m.at_)).foldl (mkV wvN C F) (bgA C (m.at_ - 1) s))) else bgA C t s := rfl
theorem unV_stop {wvN : Nat → Nat} {C : Cm} {F : List Dv} {t : Int} {n : Nat} {l : List Mk} {s : St} (h : ∀ m, l[0]? = some m → t < m.at_) : unV wvN C F t (n + 1) l s = bgA C t s := by
  cases l with
  | nil => rfl
  | cons m l =>
    have := h m rfl
    rw [unV_cons, if_neg (by omega)]
theorem unV_go {wvN : Nat → Nat} {C : Cm} {F : List Dv} {t : Int} {n j : Nat} {l : List Mk} {m : Mk} {s : St} (h0 : l[0]? = some m) (ht : m.at_ ≤ t) (h1 : ∀ x ∈ l.take j, x.at_ = m.at_) (h2 : ∀ y, l[j]? = some y → y.at_ ≠ m.at_) :
    unV wvN C F t (n + 1) l s = unV wvN C F t n (l.drop j) (bgA C m.at_ ((l.take j).foldl (mkV wvN C F) (bgA C (m.at_ - 1) s))) := by
  cases l with
  | nil => simp at h0
  | cons x l =>
    have hx : x = m := by simpa using h0
    subst hx
    obtain ⟨e1, e2⟩ := take_while (p := fun y : Mk => y.at_ == x.at_) (l := x :: l) (j := j) (fun y hy => by simpa using h1 y hy) (fun y hy => by simpa using h2 y hy)
    rw [unV_cons, if_pos ht, e1, e2]
theorem unV_more {wvN : Nat → Nat} {C : Cm} {F : List Dv} {t : Int} : ∀ (n k : Nat) (l : List Mk) (s : St), l.length < n → l.length < k → unV wvN C F t n l s = unV wvN C F t k l s
  | 0, _, _, _, h, _ => by omega
  | _, 0, _, _, _, h => by omega
  | n + 1, k + 1, [], s, _, _ => rfl
  | n + 1, k + 1, m :: l, s, h1, h2 => by
    rw [unV_cons, unV_cons]
    split
    · have hlt : ((m :: l).dropWhile (fun x => x.at_ == m.at_)).length < (m :: l).length := by
        rw [List.dropWhile_cons, if_pos (by simp)]
        have := (List.dropWhile_sublist (fun x : Mk => x.at_ == m.at_) (l := l)).length_le
        rw [List.length_cons]; omega
      exact unV_more n k _ _ (by omega) (by omega)
    · rfl
set_option maxRecDepth 100000 in
set_option maxHeartbeats 8000000 in
theorem until_any (C : Cm) (F : List Dv) (a : StA) (s : St) (l : List Mk) (B n c : Nat) (A : Option Addr) (t : Int) (w : World) (hC : CmOk C) (hF : FlOk F) (hl : MksOk l) (hn : l.length = n) (ht : 0 ≤ t ∧ t ≤ 1000000) (hS : StO C F 0 s) (hI : StI B C F (wvN C) a s w) (hr : Row w B A (recs mkC l)) :
    Calls Tryz.prog 76 #[.pointer (some ⟨a.s, 0, none⟩), .slice A n c, .int .i64 t] w fun e w' => e = .returned (.tuple #[]) ∧ StI B C F (wvN C) a (unA (wvN C) C F t l s) w' ∧ Below B w w' := by
  have HC := Lib.hid hC
  have HF := Lib.hid hF
  have HL := Lib.hid hl
  have HN := Lib.hid hn
  have HR := Lib.hid hr
  have hn14 : n ≤ 14 := by rw [← hn]; exact hl.n
  obtain ⟨z, ez⟩ : ∃ z, z = unA (wvN C) C F t l s := ⟨_, rfl⟩
  have hz0 : unV (wvN C) C F t (n + 1 - 0) (l.drop 0) s = z := by rw [ez, ← hn]; rfl
  rw [← ez]
  obtain ⟨t0, t1⟩ := ht
  have H0 := Lib.hid (show StI B C F (wvN C) a s w ∧ StO C F 0 s ∧ unV (wvN C) C F t (n + 1 - 0) (l.drop 0) s = z ∧ Below B w w from ⟨hI, hS, hz0, Below.refl _ _⟩)
  clear hC hF hl hn hS hI hr ez hz0
  go_enter Tryz.func76, Tryz.ntmps76
  go_wp2_with (fail)
  go_loopw [6] (fun i wr => ∃ (k : Nat) (s1 : St), k ≤ n ∧ i = .int .i64 (k : Int) ∧ Hid (StI B C F (wvN C) a s1 wr ∧ StO C F k s1 ∧ unV (wvN C) C F t (n + 1 - k) (l.drop k) s1 = z ∧ Below B w wr)) (fun i _ => n - (intOf i).toNat)
  case atStart => exact ⟨0, s, Nat.zero_le _, rfl, H0⟩
  case round =>
    obtain ⟨k, s1, hk, rfl, HQ⟩ := hrel
    by_cases hlt : k < n
    · have hltI : (k : Int) < (n : Int) := by omega
      obtain ⟨m, hm⟩ : ∃ m, l[k]? = some m := ⟨_, List.getElem?_eq_getElem (by have := HN.out; omega)⟩
      have hd0 : (l.drop k)[0]? = some m := by rw [List.getElem?_drop]; exact hm
      have hmo := HL.out.ok m (List.mem_of_getElem? hm)
      obtain ⟨y0, y1⟩ := hmo.at_
      obtain ⟨b, o, eA, hbw, hCl⟩ := (HR.out.keep fun b hb => HQ.out.2.2.2.block b hb).posR mkC_len (by omega) (by have := HN.out; omega)
      have hsz := HQ.out.1.sz
      have hbr : b < wr.heap.size := by omega
      have e0 : wr.cell? ⟨b, o + k * 6, none⟩ = some (.int .i64 m.at_) := rec_cell mkC_len hCl k m hm 0 _ rfl
      have hfu : n + 1 - k = (n - k) + 1 := by omega
      by_cases hat : m.at_ ≤ t
      · have HM := Lib.hid (And.intro hm hd0)
        have HA := Lib.hid eA
        have HBG := Lib.hid (begin_any C F (wvN C) a s1 B k (m.at_ - 1) wr HC.out HQ.out.2.1 HQ.out.1 (by omega))
        rw [eA]
        clear hCl hm hd0 hmo hfu
        go_upto_region 3 with (fail)
        go_wp2_with (fail)
        refine HBG.out.mono ?_
        rintro e w1 ⟨rfl, hi1, hb1⟩
        obtain ⟨s0, es0⟩ : ∃ s0, s0 = bgA C (m.at_ - 1) s1 := ⟨_, rfl⟩
        have HS0 := Lib.hid (show StI B C F (wvN C) a s0 w1 ∧ StO C F k s0 from by rw [es0]; exact ⟨hi1, HQ.out.2.1.bg HC.out (by omega) (by omega) 5⟩)
        have HB1 := Lib.hid (HQ.out.2.2.2.trans hb1)
        have HE0 := Lib.hid es0
        clear hi1 hb1 HBG e0 es0
        go_wp2_with (fail)
        go_loopw [6] (fun i wx => ∃ (k2 : Nat) (s2 : St), k ≤ k2 ∧ k2 ≤ n ∧ i = .int .i64 (k2 : Int) ∧ Hid (StI B C F (wvN C) a s2 wx ∧ StO C F k2 s2 ∧ s2 = ((l.drop k).take (k2 - k)).foldl (mkV (wvN C) C F) s0 ∧ (∀ x ∈ (l.drop k).take (k2 - k), x.at_ = m.at_) ∧ Below B w1 wx)) (fun i _ => n - (intOf i).toNat)
        case atStart => exact ⟨k, s0, Nat.le_refl _, hk, rfl, Lib.hid ⟨HS0.out.1, HS0.out.2, by rw [Nat.sub_self]; rfl, by rw [Nat.sub_self]; simp, Below.refl _ _⟩⟩
        case round =>
          obtain ⟨k2, s2, hk2, hk2n, rfl, HQ2⟩ := hrel
          have HDONE := Lib.hid (fun (hne : ∀ y, l[k2]? = some y → y.at_ ≠ m.at_) => show k < k2 ∧ unV (wvN C) C F t (n + 1 - k2) (l.drop k2) (bgA C m.at_ s2) = z from by
            have hlt2 : k < k2 := by
              rcases Nat.lt_or_eq_of_le hk2 with h | h
              · exact h
              · subst h
                exact absurd rfl (hne m HM.out.1)
            refine ⟨hlt2, ?_⟩
            have h := HQ.out.2.2.1
            rw [show n + 1 - k = (n - k) + 1 by omega, unV_go (j := k2 - k) HM.out.2 hat HQ2.out.2.2.2.1 (fun y hy => hne y (by rw [List.getElem?_drop] at hy; rw [show k2 = k + (k2 - k) by omega]; exact hy)), ← HE0.out, ← HQ2.out.2.2.1, List.drop_drop, show k + (k2 - k) = k2 by omega] at h
            rw [← h]
            exact unV_more _ _ _ _ (by rw [List.length_drop]; have := HN.out; omega) (by rw [List.length_drop]; have := HN.out; omega))
          by_cases hl2 : k2 < n
          · have hl2I : (k2 : Int) < (n : Int) := by omega
            obtain ⟨m2, hm2⟩ : ∃ m, l[k2]? = some m := ⟨_, List.getElem?_eq_getElem (by have := HN.out; omega)⟩
            have HMO2 := Lib.hid (HL.out.ok m2 (List.mem_of_getElem? hm2))
            obtain ⟨b2, o2, eA2, hbw2, hCl2⟩ := (HR.out.keep fun b hb => (HB1.out.trans HQ2.out.2.2.2.2).block b hb).posR mkC_len (by omega) (by have := HN.out; omega)
            have hab : b2 = b ∧ o2 = o := by
              have h := HA.out.symm.trans eA2
              injection h with h
              injection h with h1 h2
              exact ⟨h1.symm, h2.symm⟩
            obtain ⟨rfl, rfl⟩ := hab
            have hsz2 := HQ2.out.1.sz
            have hbr2 : b2 < wr.heap.size := by omega
            have e0 : wr.cell? ⟨b2, o2 + k2 * 6, none⟩ = some (.int .i64 m2.at_) := rec_cell mkC_len hCl2 k2 m2 hm2 0 _ rfl
            have e1 := rec_cell mkC_len hCl2 k2 m2 hm2 1 _ rfl
            have e2 := rec_cell mkC_len hCl2 k2 m2 hm2 2 _ rfl
            have e3 := rec_cell mkC_len hCl2 k2 m2 hm2 3 _ rfl
            have e4 := rec_cell mkC_len hCl2 k2 m2 hm2 4 _ rfl
            have e5 := rec_cell mkC_len hCl2 k2 m2 hm2 5 _ rfl
            have HM2 := Lib.hid hm2
            clear hCl2 hm2 eA2
            by_cases hat2 : m2.at_ = m.at_
            · have HAT2 := Lib.hid hat2
              have hat2b : (m2.at_ == m.at_) = true := by simp [hat2]
              have HMK := Lib.hid (mark_any C F a s2 B k2 m2 wr HC.out HF.out HMO2.out (by omega) HQ2.out.2.1 HQ2.out.1)
              unfold mkW at HMK
              obtain ⟨ta, eta⟩ : ∃ v, v = m2.at_ := ⟨_, rfl⟩
              have HTA := Lib.hid eta
              rw [← eta] at e0 HMK hat2
              subst hat2
              clear eta hat2b
              go_wp2_with (fail)
              refine HMK.out.mono ?_
              rintro e w3 ⟨rfl, hi3, hb3⟩
              have HF3 := Lib.hid (show StI B C F (wvN C) a (mkV (wvN C) C F s2 m2) w3 ∧ StO C F (k2 + 1) (mkV (wvN C) C F s2 m2) ∧ mkV (wvN C) C F s2 m2 = ((l.drop k).take (k2 + 1 - k)).foldl (mkV (wvN C) C F) s0 ∧ (∀ x ∈ (l.drop k).take (k2 + 1 - k), x.at_ = m.at_) ∧ Below B w1 w3 from by
                have hg : (l.drop k)[k2 - k]? = some m2 := by rw [List.getElem?_drop, show k + (k2 - k) = k2 by omega]; exact HM2.out
                refine ⟨hi3, HQ2.out.2.1.mkv HMO2.out, ?_, ?_, HQ2.out.2.2.2.2.trans hb3⟩
                · rw [show k2 + 1 - k = (k2 - k) + 1 by omega, List.take_add_one, hg, List.foldl_append, ← HQ2.out.2.2.1]
                  rfl
                · intro x hx
                  rw [show k2 + 1 - k = (k2 - k) + 1 by omega, List.take_add_one, hg] at hx
                  rcases List.mem_append.1 hx with h | h
                  · exact HQ2.out.2.2.2.1 x h
                  · simp only [Option.toList, List.mem_singleton] at h
                    rw [h]; exact HAT2.out)
              clear hi3 hb3 HMK
              go_wp2_with (fail)
              go_roundw
              case rel => exact ⟨k2 + 1, mkV (wvN C) C F s2 m2, by omega, by omega, by go_num, HF3⟩
              case measure => simp [intOf]; omega
            · have hne := HDONE.out (fun y hy => by rw [HM2.out] at hy; cases hy; exact hat2)
              have hkk := hne.1
              have HNX := Lib.hid hne.2
              have hatb : (m2.at_ == m.at_) = false := by simp [hat2]
              have HBG3 := Lib.hid (begin_any C F (wvN C) a s2 B k2 m.at_ wr HC.out HQ2.out.2.1 HQ2.out.1 (by omega))
              clear hne
              go_wp2_with (fail)
              refine HBG3.out.mono ?_
              rintro e w4 ⟨rfl, hi4, hb4⟩
              have HF4 := Lib.hid (show StI B C F (wvN C) a (bgA C m.at_ s2) w4 ∧ StO C F k2 (bgA C m.at_ s2) ∧ unV (wvN C) C F t (n + 1 - k2) (l.drop k2) (bgA C m.at_ s2) = z ∧ Below B w w4 from ⟨hi4, HQ2.out.2.1.bg HC.out (by omega) (by omega) 5, HNX.out, (HB1.out.trans HQ2.out.2.2.2.2).trans hb4⟩)
              clear hi4 hb4 HBG3
              go_wp2_with (fail)
              go_roundw
              case rel => exact ⟨k2, bgA C m.at_ s2, by omega, by first | rfl | go_num, HF4⟩
              case measure => simp [intOf]; omega
          · have hl2I : ¬ (k2 : Int) < (n : Int) := by omega
            have hne := HDONE.out (fun y hy => by have := (List.getElem?_eq_some_iff.1 hy).1; have := HN.out; omega)
            have hkk := hne.1
            have HNX := Lib.hid hne.2
            have HBG3 := Lib.hid (begin_any C F (wvN C) a s2 B k2 m.at_ wr HC.out HQ2.out.2.1 HQ2.out.1 (by omega))
            clear hne
            go_wp2_with (fail)
            refine HBG3.out.mono ?_
            rintro e w4 ⟨rfl, hi4, hb4⟩
            have HF4 := Lib.hid (show StI B C F (wvN C) a (bgA C m.at_ s2) w4 ∧ StO C F k2 (bgA C m.at_ s2) ∧ unV (wvN C) C F t (n + 1 - k2) (l.drop k2) (bgA C m.at_ s2) = z ∧ Below B w w4 from ⟨hi4, HQ2.out.2.1.bg HC.out (by omega) (by omega) 5, HNX.out, (HB1.out.trans HQ2.out.2.2.2.2).trans hb4⟩)
            clear hi4 hb4 HBG3
            go_wp2_with (fail)
            go_roundw
            case rel => exact ⟨k2, bgA C m.at_ s2, by omega, by first | rfl | go_num, HF4⟩
            case measure => simp [intOf]; omega
      · have HF2 := Lib.hid (show bgA C t s1 = z from by
          have h := HQ.out.2.2.1
          rw [hfu, unV_stop (fun m' hm' => by rw [hd0] at hm'; cases hm'; omega)] at h
          exact h)
        have HBG := Lib.hid (begin_any C F (wvN C) a s1 B k t wr HC.out HQ.out.2.1 HQ.out.1 (by omega))
        rw [eA]
        clear hCl hm hd0 hmo hfu
        go_wp2_with (fail)
        refine HBG.out.mono ?_
        rintro e w1 ⟨rfl, hi1, hb1⟩
        have HF3 := Lib.hid (show StI B C F (wvN C) a z w1 ∧ Below B w w1 from ⟨by rw [← HF2.out]; exact hi1, HQ.out.2.2.2.trans hb1⟩)
        clear hi1 hb1 HBG
        go_wp2_with (fail)
        go_end0
        exact ⟨rfl, HF3.out.1, HF3.out.2⟩
    · have hltI : ¬ (k : Int) < (n : Int) := by omega
      have HF2 := Lib.hid (show bgA C t s1 = z from by
        have h := HQ.out.2.2.1
        rw [show n + 1 - k = (n - k) + 1 by omega, unV_stop (fun m' hm' => by rw [List.drop_of_length_le (by have := HN.out; omega)] at hm'; cases hm')] at h
        exact h)
      have HBG := Lib.hid (begin_any C F (wvN C) a s1 B k t wr HC.out HQ.out.2.1 HQ.out.1 (by omega))
      go_wp2_with (fail)
      refine HBG.out.mono ?_
      rintro e w1 ⟨rfl, hi1, hb1⟩
      have HF3 := Lib.hid (show StI B C F (wvN C) a z w1 ∧ Below B w w1 from ⟨by rw [← HF2.out]; exact hi1, HQ.out.2.2.2.trans hb1⟩)
      clear hi1 hb1 HBG
      go_wp2_with (fail)
      go_end0
      exact ⟨rfl, HF3.out.1, HF3.out.2⟩
end Go.Proofs.YtidgicbhgnbidaaGreatDoor
