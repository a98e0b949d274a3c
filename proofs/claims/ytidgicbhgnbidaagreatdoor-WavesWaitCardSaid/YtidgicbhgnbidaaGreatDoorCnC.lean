/- slices.IndexFunc of offers with any closure; WavesWait's closure. Printed by gen_CnC.py out of XMyB. -/
import Derived.Test.YtidgicbhgnbidaaGreatDoorCmU
import Derived.Test.YtidgicbhgnbidaaGreatDoorCmS
namespace Go.Proofs.YtidgicbhgnbidaaGreatDoor
open Go.RowKit

def ofW (x : Ofr) : Value := .agg #[.string (dvT x.d), .int .i64 x.v.a, .int .i64 x.v.b, .int .i64 x.v.c, .int .i64 x.z]
/-- Where the first offer stands of which q is true; -1 if there is none. -/
def fstO (q : Ofr → Bool) : List Ofr → Int
  | [] => -1
  | x :: l => if q x then 0 else if fstO q l = -1 then -1 else fstO q l + 1
theorem fstO_no {q : Ofr → Bool} : ∀ {l : List Ofr}, (∀ x ∈ l, q x = false) → fstO q l = -1
  | [], _ => rfl
  | x :: l, h => by
    rw [fstO, if_neg (by rw [h x (by simp)]; decide), fstO_no (fun y hy => h y (List.mem_cons_of_mem _ hy))]
    rfl
theorem fstO_ge (q : Ofr → Bool) : ∀ (l : List Ofr), -1 ≤ fstO q l
  | [] => Int.le_refl _
  | x :: l => by
    have := fstO_ge q l
    rw [fstO]; split
    · omega
    · split <;> omega
theorem fstO_at {q : Ofr → Bool} : ∀ {l : List Ofr} {k : Nat} {x : Ofr}, l[k]? = some x → q x = true → (∀ j y, j < k → l[j]? = some y → q y = false) → fstO q l = (k : Int)
  | [], _, _, h, _, _ => by simp at h
  | y :: l, 0, x, h, hq, _ => by
    have e : y = x := by simpa using h
    rw [fstO, e, if_pos hq]; rfl
  | y :: l, k + 1, x, h, hq, hb => by
    have ih := fstO_at (l := l) (k := k) (x := x) (by simpa using h) hq (fun j z hj hz => hb (j + 1) z (by omega) (by simpa using hz))
    have h0 := hb 0 y (by omega) rfl
    rw [fstO, if_neg (by rw [h0]; decide), ih, if_neg (by omega)]
    omega
set_option maxRecDepth 100000 in
set_option maxHeartbeats 2000000 in
theorem indexO_any (F : Nat) (caps : Array Value) (l : List Ofr) (q : Ofr → Bool) (n c : Nat) (A : Option Addr) (w : World) (hn : l.length = n) (hn5 : n ≤ 5000) (hr : Row w w.heap.size A (recs ofC l))
    (hrun : ∀ (args : Array Value) (V : World), (callFunc F args).run Tryz.prog V = .ok (.enter F args) V)
    (hf : ∀ (V : World) (x : Ofr), x ∈ l → Below w.heap.size w V → Calls Tryz.prog F (#[ofW x] ++ caps) V fun e w' => e = .returned (.bool (q x)) ∧ Below V.heap.size V w') :
    Calls Tryz.prog 30 #[.slice A n c, .func (.func F) #[] caps] w fun e w' => e = .returned (.int .i64 (fstO q l)) ∧ Below w.heap.size w w' := by
  have HR := Lib.hid hr
  have HF := Lib.hid hf
  have HN := Lib.hid hn
  clear hr hf hn
  go_enter Tryz.func30, Tryz.ntmps30
  go_wp2_with (fail)
  go_loopw [8] (fun i wr => ∃ k : Nat, k ≤ n ∧ i = .int .i64 k ∧ (∀ (j : Nat) (y : Ofr), j < k → l[j]? = some y → q y = false) ∧ Below w.heap.size w wr) (fun i _ => n - (intOf i).toNat)
  case atStart => exact ⟨0, Nat.zero_le _, rfl, fun j y hj => by omega, Below.refl _ _⟩
  case round =>
    obtain ⟨k, hk, rfl, hno, hbl⟩ := hrel
    have hsz := hbl.size
    have HBL := Lib.hid hbl
    have HNO := Lib.hid hno
    by_cases hlt : k < n
    · obtain ⟨x, hx⟩ : ∃ x, l[k]? = some x := ⟨_, List.getElem?_eq_getElem (by have := HN.out; omega)⟩
      obtain ⟨b, o, rfl, hbw, hC⟩ := (HR.out.below hbl).posR ofC_len (by omega) (by have := HN.out; omega)
      have c0 : wr.cell? ⟨b, o + k * 5, none⟩ = some (.string (dvT x.d)) := rec_cell ofC_len hC k x hx 0 _ rfl
      have c1 := rec_cell ofC_len hC k x hx 1 _ rfl
      have c2 := rec_cell ofC_len hC k x hx 2 _ rfl
      have c3 := rec_cell ofC_len hC k x hx 3 _ rfl
      have c4 := rec_cell ofC_len hC k x hx 4 _ rfl
      have HX := Lib.hid hx
      have HCALL := Lib.hid (HF.out wr x (List.mem_of_getElem? hx) hbl)
      obtain ⟨t, et⟩ : ∃ t, t = q x := ⟨_, rfl⟩
      rw [← et] at HCALL
      have HT := Lib.hid et
      unfold ofW at HCALL
      have hlt' : (k : Int) < (n : Int) := by omega
      clear hbl hC hx hno et
      go_wp2_with (fail)
      refine HCALL.out.mono ?_
      rintro e w' ⟨rfl, hbw'⟩
      have HB3 := Lib.hid (show Below w.heap.size w w' from (HBL.out).trans (hbw'.mono hsz))
      clear hbw'
      cases t with
      | true =>
        have HE := Lib.hid (fstO_at HX.out HT.out.symm HNO.out)
        go_wp2_with (fail)
        go_ret
        exact ⟨by rw [HE.out]; rfl, HB3.out⟩
      | false =>
        go_wp2_with (fail)
        go_roundw
        case rel =>
          refine ⟨k + 1, by omega, by go_num, ?_, HB3.out⟩
          intro j y hj hy
          rcases Nat.lt_or_ge j k with h | h
          · exact HNO.out j y h hy
          · obtain rfl : j = k := by omega
            rw [HX.out] at hy
            injection hy with hy
            rw [← hy]
            exact HT.out.symm
        case measure => simp [intOf]; omega
    · have hlt' : ¬ (k : Int) < (n : Int) := by omega
      clear hbl hno
      go_wp2_with (fail)
      go_ret
      have hE : fstO q l = -1 := fstO_no (fun y hy => by
        obtain ⟨j, hj⟩ := List.mem_iff_getElem?.1 hy
        have := (List.getElem?_eq_some_iff.1 hj).1
        exact HNO.out j y (by have := HN.out; omega) hj)
      exact ⟨by rw [hE]; rfl, HBL.out⟩
theorem fstO_or {q : Ofr → Bool} {l : List Ofr} : fstO q l = -1 ∨ ∃ (i : Nat) (y : Ofr), l[i]? = some y ∧ q y = true ∧ fstO q l = (i : Int) := by
  induction l with
  | nil => exact .inl rfl
  | cons x l ih =>
    by_cases hx : q x = true
    · exact .inr ⟨0, x, rfl, hx, by rw [fstO, if_pos hx]; rfl⟩
    · rcases ih with h | ⟨i, y, h1, h2, h3⟩
      · exact .inl (by rw [fstO, if_neg hx, if_pos h])
      · refine .inr ⟨i + 1, y, by simpa using h1, h2, ?_⟩
        rw [fstO, if_neg hx, if_neg (by omega), h3]
        omega
set_option maxRecDepth 100000 in
theorem ww1_any (y : Ofr) (d : Dv) (g : Nat) (w : World) (hy : y.d < 6) (hd : d.k < 6) (hg : w.heap[g]? = some (dvB d)) : Calls Tryz.prog 31 #[ofW y, .pointer (some ⟨g, 0, none⟩)] w fun e w' => e = .returned (.bool (decide (y.d = d.k))) ∧ Below w.heap.size w w' := by
  obtain ⟨w1, e1⟩ : ∃ V : World, V = w.alloc (.cells #[.string (dvT y.d), .int .i64 y.v.a, .int .i64 y.v.b, .int .i64 y.v.c, .int .i64 y.z] 83) := ⟨_, rfl⟩
  have hb1 : Below w.heap.size w w1 := by rw [e1]; exact (Below.refl _ _).alloc (Nat.le_refl _) _
  have hn1 : w1.heap[w.heap.size]? = some (.cells #[.string (dvT y.d), .int .i64 y.v.a, .int .i64 y.v.b, .int .i64 y.v.c, .int .i64 y.z] 83 (0, 0)) := by rw [e1]; exact heap_new w _
  have hgl := (Array.getElem?_eq_some_iff.1 hg).1
  have hg1 := (hb1.block g hgl).trans hg
  have HB := Lib.hid hb1
  have k0 := cell_of_blk (j := 0) hn1 rfl
  have v0 := cell_of_blk (j := 0) hg1 rfl
  have hl1 := (Array.getElem?_eq_some_iff.1 hn1).1
  have hl2 := (Array.getElem?_eq_some_iff.1 hg1).1
  obtain ⟨d1, d2⟩ := dvT_beq hy hd
  obtain ⟨b, eb⟩ : ∃ b, b = decide (y.d = d.k) := ⟨_, rfl⟩
  rw [← eb] at d1 d2 ⊢
  unfold ofW
  clear hb1 hn1 hg hg1 hgl eb hy hd
  go_enter Tryz.func31, Tryz.ntmps31
  go_upto_region 1 with (fail)
  rw [← e1]
  clear e1
  cases b with
  | true =>
    go_wp2_with (fail)
    go_ret
    exact ⟨rfl, HB.out⟩
  | false =>
    go_wp2_with (fail)
    go_ret
    exact ⟨rfl, HB.out⟩
end Go.Proofs.YtidgicbhgnbidaaGreatDoor
