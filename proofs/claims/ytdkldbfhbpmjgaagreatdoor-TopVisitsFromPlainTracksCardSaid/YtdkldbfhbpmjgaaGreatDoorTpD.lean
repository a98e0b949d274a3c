/- place.Length by its contract. -/
import Derived.Test.YtdkldbfhbpmjgaaGreatDoorTpC
import Derived.Test.YtdkldbfhbpmjgaaGreatDoorTpR
namespace Go.Proofs.YtdkldbfhbpmjgaaGreatDoor
open Go.RowKit

theorem getF_some {l : List Fx} {i : Nat} {x : Fx} (h : l[i]? = some x) : getF l i = x := by simp [getF, List.getD, h]
theorem lenW_le (l : List Fx) (hn : ∀ x ∈ l, NarF x) : ∀ i, i < l.length → lenW l i ≤ 30000 * i
  | 0, _ => by simp [lenW]
  | i + 1, h => by
    have ih := lenW_le l hn i (by omega)
    have hx := List.getElem?_eq_getElem (show i < l.length by omega)
    have hy := List.getElem?_eq_getElem h
    have hs := sq2_nar (hn _ (List.mem_of_getElem? hx)) (hn _ (List.mem_of_getElem? hy))
    have hd : dst (getF l i) (getF l (i + 1)) ≤ 30000 := by
      rw [getF_some hx, getF_some hy]
      exact isq_le (by omega)
    simp only [lenW]
    omega

set_option maxRecDepth 100000 in
set_option maxHeartbeats 8000000 in
theorem length_any (l : List Fx) (n c : Nat) (A : Option Addr) (w : World) (hn : l.length = n) (hg : GoodF l) (hnar : ∀ x ∈ l, NarF x) (hr : Row w w.heap.size A (recs fxC l)) :
    Calls Tryz.prog 8 #[.slice A n c] w fun e w' => e = .returned (.tuple #[.int .i64 ((lenW l (n - 1) : Nat) : Int), .int .i64 0]) ∧ Below w.heap.size w w' := by
  have hn2 : n ≤ 100 := by rw [← hn]; exact hg.len
  have HR := Lib.hid hr
  have HG := Lib.hid hg
  have HN := Lib.hid hn
  have HNAR := Lib.hid hnar
  have HLE := Lib.hid (lenW_le l hnar)
  clear hr hg hn hnar
  go_enter Tryz.func8, Tryz.ntmps8
  go_wp2_with (fail)
  refine (trackFault_any l n c A w HN.out HG.out HR.out).mono ?_
  rintro e w1 ⟨rfl, hb1⟩
  have hs1 := hb1.size
  have HR1 := Lib.hid ((HR.out.below hb1).mono hs1)
  have HB1 := Lib.hid hb1
  clear hb1 HR
  go_wp2_with (fail)
  go_loopw [5, 6] (fun s i wr => ∃ k : Nat, (k < n ∨ k = 0) ∧ i = .int .i64 ((k : Int) + 1) ∧ s = .int .i64 ((lenW l k : Nat) : Int) ∧ Below w1.heap.size w1 wr) (fun _ i _ => n + 1 - (intOf i).toNat)
  case atStart => exact ⟨0, .inr rfl, rfl, rfl, Below.refl _ _⟩
  case round =>
    obtain ⟨k, hk, rfl, rfl, hbl⟩ := hrel
    have hsz := hbl.size
    have HBL := Lib.hid hbl
    obtain ⟨S, eS⟩ : ∃ S, S = lenW l k := ⟨_, rfl⟩
    rw [← eS]
    have hSb : S ≤ 3000000 := by
      rcases hk with hk | hk
      · have := HLE.out k (by have := HN.out; omega)
        omega
      · rw [eS, hk]; simp [lenW]
    have HS := Lib.hid eS
    clear eS
    by_cases hlt : k + 1 < n
    · obtain ⟨b, o, rfl, hb, hcs⟩ := Row.posR fxC_len (by omega) HR1.out (by have := HN.out; omega)
      obtain ⟨x, hx⟩ : ∃ x, l[k]? = some x := ⟨_, List.getElem?_eq_getElem (by have := HN.out; omega)⟩
      obtain ⟨y, hy⟩ : ∃ y, l[k + 1]? = some y := ⟨_, List.getElem?_eq_getElem (by have := HN.out; omega)⟩
      have hcr := hcs.keep (hbl.block b hb)
      obtain ⟨s0, s1, s2, s3, s4⟩ := fix_cells hcr k x hx
      obtain ⟨t0, t1, t2, t3, t4⟩ := fix_cells hcr (k + 1) y hy
      have hxn := HNAR.out x (List.mem_of_getElem? hx)
      have hyn := HNAR.out y (List.mem_of_getElem? hy)
      have hsq := sq2_nar hxn hyn
      have HSQ := Lib.hid (fun V => hxn.sq hyn V)
      have HSI := Lib.hid (fun V => spot_any x V)
      have HSK := Lib.hid (fun V => spot_any y V)
      obtain ⟨qn, eq⟩ : ∃ qn : Nat, (qn : Int) = sq2 x.2.1 x.2.2.1 y.2.1 y.2.2.1 := ⟨(sq2 x.2.1 x.2.2.1 y.2.1 y.2.2.1).toNat, by omega⟩
      rw [← eq] at hsq HSQ
      have HRT := Lib.hid (fun V => root_any qn V (by omega))
      have hrb : isq qn ≤ 30000 := isq_le (by omega)
      obtain ⟨rt, ert⟩ : ∃ rt, rt = isq qn := ⟨_, rfl⟩
      rw [← ert] at HRT hrb
      have HD := Lib.hid (show lenW l (k + 1) = S + rt by
        simp only [lenW]
        rw [HS.out, getF_some hx, getF_some hy, ert]
        unfold dst
        rw [← eq]
        simp)
      obtain ⟨xa, xx, xy, xe⟩ := x
      obtain ⟨ya, yx, yy, ye⟩ := y
      unfold fxV at HSI HSK
      simp only at s1 s2 s3 s4 t1 t2 t3 t4 HSQ HSI HSK
      have hk1 : (k : Int) + 1 < (n : Int) := by omega
      have hkn : (k : Int) < (n : Int) := by omega
      have hkn' : k < n := by omega
      have hk0 : (0 : Int) ≤ (k : Int) + 1 := by omega
      have hkt : ((k : Int) + 1).toNat = k + 1 := by omega
      have hwk : IntKind.i64.wrap (k : Int) = (k : Int) := by rw [IntKind.wrap_i64]; omega
      have hwk1 : IntKind.i64.wrap ((k : Int) + 1) = (k : Int) + 1 := by rw [IntKind.wrap_i64]; omega
      have hwk2 : IntKind.i64.wrap ((k : Int) + 1 + 1) = (k : Int) + 1 + 1 := by rw [IntKind.wrap_i64]; omega
      have hws : IntKind.i64.wrap ((S : Int) + (rt : Int)) = (S : Int) + (rt : Int) := by rw [IntKind.wrap_i64]; omega
      have hbw : b < wr.heap.size := by omega
      have HKEEP := Lib.hid (fun (V : World) (hV : Below wr.heap.size wr V) => show V.cell? ⟨b, o + k * 5, none⟩ = some (.string ⟨#[100]⟩) ∧ V.cell? ⟨b, o + k * 5 + 1, none⟩ = some (.int .i64 xa) ∧ V.cell? ⟨b, o + k * 5 + 2, none⟩ = some (.int .i64 xx) ∧ V.cell? ⟨b, o + k * 5 + 3, none⟩ = some (.int .i64 xy) ∧ V.cell? ⟨b, o + k * 5 + 4, none⟩ = some (.int .i64 xe) ∧
          V.cell? ⟨b, o + (k + 1) * 5, none⟩ = some (.string ⟨#[100]⟩) ∧ V.cell? ⟨b, o + (k + 1) * 5 + 1, none⟩ = some (.int .i64 ya) ∧ V.cell? ⟨b, o + (k + 1) * 5 + 2, none⟩ = some (.int .i64 yx) ∧ V.cell? ⟨b, o + (k + 1) * 5 + 3, none⟩ = some (.int .i64 yy) ∧ V.cell? ⟨b, o + (k + 1) * 5 + 4, none⟩ = some (.int .i64 ye) from
        ⟨(hV.cell (p := ⟨b, o + k * 5, none⟩) hbw).trans s0, (hV.cell (p := ⟨b, o + k * 5 + 1, none⟩) hbw).trans s1, (hV.cell (p := ⟨b, o + k * 5 + 2, none⟩) hbw).trans s2, (hV.cell (p := ⟨b, o + k * 5 + 3, none⟩) hbw).trans s3, (hV.cell (p := ⟨b, o + k * 5 + 4, none⟩) hbw).trans s4,
          (hV.cell (p := ⟨b, o + (k + 1) * 5, none⟩) hbw).trans t0, (hV.cell (p := ⟨b, o + (k + 1) * 5 + 1, none⟩) hbw).trans t1, (hV.cell (p := ⟨b, o + (k + 1) * 5 + 2, none⟩) hbw).trans t2, (hV.cell (p := ⟨b, o + (k + 1) * 5 + 3, none⟩) hbw).trans t3, (hV.cell (p := ⟨b, o + (k + 1) * 5 + 4, none⟩) hbw).trans t4⟩)
      clear hbl hcr hcs hx hy eq ert hxn hyn
      go_upto_region 8 with (fail)
      go_region_held3 (fun V => V.cell? ⟨b, o + k * 5, none⟩ = some (.string ⟨#[100]⟩) ∧ V.cell? ⟨b, o + k * 5 + 1, none⟩ = some (.int .i64 xa) ∧ V.cell? ⟨b, o + k * 5 + 2, none⟩ = some (.int .i64 xx) ∧ V.cell? ⟨b, o + k * 5 + 3, none⟩ = some (.int .i64 xy) ∧ V.cell? ⟨b, o + k * 5 + 4, none⟩ = some (.int .i64 xe) ∧
          V.cell? ⟨b, o + (k + 1) * 5, none⟩ = some (.string ⟨#[100]⟩) ∧ V.cell? ⟨b, o + (k + 1) * 5 + 1, none⟩ = some (.int .i64 ya) ∧ V.cell? ⟨b, o + (k + 1) * 5 + 2, none⟩ = some (.int .i64 yx) ∧ V.cell? ⟨b, o + (k + 1) * 5 + 3, none⟩ = some (.int .i64 yy) ∧ V.cell? ⟨b, o + (k + 1) * 5 + 4, none⟩ = some (.int .i64 ye))
        (first | go_keep | (exact hS))
        (first
          | (go_at_call 28; refine (HRT.out _).mono ?_; rintro e wD ⟨rfl, rfl⟩; have hS := HKEEP.out _ hB3)
          | (go_at_call 29; refine (HSQ.out _).mono ?_; rintro e wC ⟨rfl, hbC⟩; have hB3 := hB2.trans (hbC.mono hB2.size); have hS := HKEEP.out wC hB3)
          | (go_at_call 26; refine (HSI.out _).mono ?_; rintro e wA ⟨rfl, hbA⟩; have hB1 := ((Below.refl wr.heap.size wr).drew).trans hbA; have hS := HKEEP.out wA hB1)
          | (go_at_call 26; refine (HSK.out _).mono ?_; rintro e wB ⟨rfl, hbB⟩; have hB2 := hB1.trans (hbB.mono hB1.size); have hS := HKEEP.out wB hB2))
      all_goals
        have HBX := Lib.hid (HBL.out.trans (hB3.mono hsz))
        clear hB1 hB2 hB3 s0 s1 s2 s3 s4 t0 t1 t2 t3 t4
        go_wp2_with (fail)
        go_roundw
        case rel => exact ⟨k + 1, .inl (by omega), by go_num, by rw [HD.out]; rfl, HBX.out⟩
        case measure => simp [intOf]; omega
    · have hk1 : ¬ (k : Int) + 1 < (n : Int) := by omega
      have HE := Lib.hid (show S = lenW l (n - 1) by
        rw [HS.out]
        congr 1
        omega)
      clear hbl
      go_wp2_with (fail)
      go_ret2
      exact ⟨by rw [← HE.out]; rfl, HB1.out.trans (HBL.out.mono hs1)⟩
end Go.Proofs.YtdkldbfhbpmjgaaGreatDoor
