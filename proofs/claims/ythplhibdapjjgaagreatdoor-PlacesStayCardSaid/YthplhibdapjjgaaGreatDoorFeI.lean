/- Fences: place.CheckFence takes a fence of key f with right corners; spotFault, Where. -/
import Derived.Test.YthplhibdapjjgaaGreatDoorFeH
namespace Go.Proofs.YthplhibdapjjgaaGreatDoor
open Go.RowKit

/-- A fence of key f. -/
def fcV (A : Option Addr) (n c : Nat) : Value := .agg #[.string ⟨#[102]⟩, .slice A n c]
/-- Where a fence lies. -/
structure FcAt (w : World) (l : List Pt) (n c b o : Nat) : Prop where
  ok : FOk l
  len : l.length = n
  cap : n ≤ c
  cells : Cells w b o (recs ptC l)
  lt : b < w.heap.size
theorem FcAt.below {w w' : World} {l : List Pt} {n c b o : Nat} (h : FcAt w l n c b o) (hb : Below w.heap.size w w') : FcAt w' l n c b o :=
  ⟨h.ok, h.len, h.cap, h.cells.keep (hb.block b h.lt), Nat.lt_of_lt_of_le h.lt hb.size⟩
theorem isKey_f : isKey ⟨#[102]⟩ = true := by decide

set_option maxRecDepth 100000 in
set_option maxHeartbeats 4000000 in
theorem checkFence_any (l : List Pt) (n c b o : Nat) (w : World) (hf : FcAt w l n c b o) :
    Calls Tryz.prog 46 #[fcV (some ⟨b, o, none⟩) n c] w fun e w' => e = .returned (.int .i64 0) ∧ Below w.heap.size w w' := by
  have HF := Lib.hid (fun (V : World) (hV : Below w.heap.size w V) => hf.below hV)
  have hn2 : n ≤ 200 := by rw [← hf.len]; exact hf.ok.hi
  have hn3 : 3 ≤ n := by rw [← hf.len]; exact hf.ok.lo
  have hnc := hf.cap
  have HN := Lib.hid hf.len
  have HOK := Lib.hid hf.ok
  have hbw0 := hf.lt
  clear hf
  have h3 : ¬ (n : Int) < 3 := by omega
  have h3n : ¬ n < 3 := by omega
  have h200 : ¬ (200 : Int) < (n : Int) := by omega
  have h200n : ¬ 200 < n := by omega
  unfold fcV
  go_enter Tryz.func46, Tryz.ntmps46
  go_wp2_with (go_at_call 39; refine (key_yes _ _ isKey_f).mono ?_; rintro e w' ⟨rfl, rfl⟩)
  obtain ⟨gf, egf⟩ : ∃ g, g = w.heap.size := ⟨_, rfl⟩
  generalize hW : w.alloc (.cells #[.string ⟨#[102]⟩, .slice (some ⟨b, o, none⟩) n c] 28) = W
  have hBW : Below w.heap.size w W := hW ▸ (Below.refl _ _).alloc (Nat.le_refl _) _
  have hWs : W.heap.size = gf + 1 := by rw [← hW, egf]; simp
  have hfb : W.heap[gf]? = some (.cells #[.string ⟨#[102]⟩, .slice (some ⟨b, o, none⟩) n c] 28 (0, 0)) := by rw [← hW, egf]; exact heap_new w _
  have HFB := Lib.hid (fun (V : World) (hV : Below W.heap.size W V) => (hV.block gf (by omega)).trans hfb)
  have HBW := Lib.hid hBW
  rw [← egf]
  clear hW hBW hfb egf
  go_loopw [23] (fun s wr => ∃ k : Nat, k ≤ n ∧ s = .int .i64 (k : Int) ∧ Below W.heap.size W wr) (fun s _ => n - (intOf s).toNat)
  case atStart => exact ⟨0, Nat.zero_le _, rfl, Below.refl _ _⟩
  case round =>
    obtain ⟨k, hk, rfl, hbl⟩ := hrel
    have hsz := hbl.size
    have HBL := Lib.hid hbl
    have HBL0 := Lib.hid (HBW.out.trans (hbl.mono HBW.out.size))
    have q1 := cell_of_blk (j := 1) (HFB.out wr hbl) rfl
    by_cases hlt : k < n
    · obtain ⟨x, hx⟩ : ∃ x, l[k]? = some x := ⟨_, List.getElem?_eq_getElem (by have := HN.out; omega)⟩
      obtain ⟨c0, c1⟩ := pt_cells (HF.out wr HBL0.out).cells k x hx
      have hxb := HOK.out.sp x (List.mem_of_getElem? hx)
      have HIS := Lib.hid (fun V => isSpot_yes x.1 x.2 V hxb.x0 hxb.x1 hxb.y0 hxb.y1)
      have hno : decide (x ∈ l.take k) = false := by
        rw [decide_eq_false_iff_not]
        intro hm
        obtain ⟨j, hj⟩ := List.mem_iff_getElem?.1 hm
        rw [List.getElem?_take] at hj
        split at hj
        · rename_i hjk
          have h1 := (List.getElem?_eq_some_iff.1 hj)
          have h2 := (List.getElem?_eq_some_iff.1 hx)
          obtain ⟨a1, a2⟩ := h1
          obtain ⟨b1, b2⟩ := h2
          have := (List.getElem_inj HOK.out.nodup (h₀ := a1) (h₁ := b1)).1 (by rw [a2, b2])
          omega
        · cases hj
      have HCO := Lib.hid (fun (V : World) (hV : Below w.heap.size w V) => by
        have h := containsP_any (l.take k) k c (some ⟨b, o, none⟩) x V (by rw [List.length_take]; have := HN.out; omega) (by omega) (.inr ⟨b, o, rfl, by have := hV.size; omega, by
          have h := (HF.out V hV).cells.take (k * 2)
          have e : (recs ptC l).take (k * 2) = recs ptC (l.take k) := by
            have h1 := recs_append ptC (l.take k) (l.drop k)
            rw [List.take_append_drop] at h1
            rw [h1, List.take_left' (by rw [recs_length ptC_len, List.length_take]; have := HN.out; rw [Nat.min_eq_left (by omega)])]
          rw [e] at h
          exact h⟩)
        rw [hno] at h
        exact h)
      obtain ⟨xx, xy⟩ := x
      unfold ptV at HCO
      simp only at c0 c1 HIS HCO
      have hkI : (k : Int) < (n : Int) := by omega
      have hk0 : (0 : Int) ≤ (k : Int) := by omega
      have hkc : (k : Int) ≤ (c : Int) := by omega
      have hkcn : k ≤ c := by omega
      clear hbl hx hxb hno
      go_wp2_with (fail)
      generalize hV : wr.alloc (.cells #[.int .i64 xx, .int .i64 xy] 37) = V
      have hBV : Below wr.heap.size wr V := hV ▸ (Below.refl _ _).alloc (Nat.le_refl _) _
      have hVs : V.heap.size = wr.heap.size + 1 := by rw [← hV]; simp
      have hvb : V.heap[wr.heap.size]? = some (.cells #[.int .i64 xx, .int .i64 xy] 37 (0, 0)) := by rw [← hV]; exact heap_new wr _
      have HVB := Lib.hid hvb
      have HBV := Lib.hid (HBL.out.trans (hBV.mono hsz))
      clear hV hBV hvb c0 c1 q1
      refine (HIS.out V).mono ?_
      rintro e w1 ⟨rfl, hb1⟩
      have hs1 := hb1.size
      have HB1 := Lib.hid (HBV.out.trans (hb1.mono HBV.out.size))
      have HB10 := Lib.hid (HBW.out.trans (HB1.out.mono HBW.out.size))
      have HQ := Lib.hid (fun (U : World) (hU : Below w1.heap.size w1 U) => show U.cell? ⟨wr.heap.size, 0, none⟩ = some (.int .i64 xx) ∧ U.cell? ⟨wr.heap.size, 1, none⟩ = some (.int .i64 xy) ∧ U.cell? ⟨gf, 1, none⟩ = some (.slice (some ⟨b, o, none⟩) n c) from by
        have h1 := (hU.block wr.heap.size (by omega)).trans ((hb1.block wr.heap.size (by omega)).trans HVB.out)
        exact ⟨cell_of_blk (j := 0) h1 rfl, cell_of_blk (j := 1) h1 rfl, cell_of_blk (j := 1) (HFB.out U (HB1.out.trans (hU.mono HB1.out.size))) rfl⟩)
      have HCV := Lib.hid (fun (U : World) (hU : Below w1.heap.size w1 U) => HCO.out U (HB10.out.trans (hU.mono HB10.out.size)))
      clear hb1
      go_upto_region 12 with (fail)
      refine qRegion (by kernel_rfl) (by kernel_rfl) ?_
      repeat (first
        | (go_big_quiet_want; refine qVal (fun V hV => (by (obtain ⟨q0, q1, q2⟩ := HQ.out V hV; go_simp; try rfl))) ?_; simp only [Act.put, List.setIfInBounds_toArray, List.set_cons_zero, List.set_cons_succ]; go_big_quiet_on)
        | (go_big_quiet_want
           refine qCall (fun V hV => (by (obtain ⟨q0, q1, q2⟩ := HQ.out V hV; go_simp; exact ⟨rfl, rfl⟩))) (fun V hV => (by first
             | with_reducible exact (HCV.out V hV).mono (fun e w' h => ⟨h.1, hV.trans (h.2.mono hV.size)⟩))) ?_
           simp only [Act.put, List.setIfInBounds_toArray, List.set_cons_zero, List.set_cons_succ]; go_big_quiet_on)
        | go_big_quiet_skip)
      refine wpQuiet_nil ?_
      intro w9 hb9
      have HB9 := Lib.hid (HB1.out.trans (hb9.mono HB1.out.size))
      clear hb9
      go_wp2_with (fail)
      go_roundw
      case rel => exact ⟨k + 1, by omega, by go_num, HB9.out⟩
      case measure => simp [intOf]; omega
    · obtain rfl : n = k := by omega
      have hcr := HF.out wr HBL0.out
      have HCR := Lib.hid (crossed_no l n c b o wr hcr.len hcr.ok hcr.cells hcr.lt)
      clear hbl hcr
      go_wp2_with (fail)
      refine HCR.out.mono ?_
      rintro e w1 ⟨rfl, hb1⟩
      have HB1 := Lib.hid (HBL0.out.trans (hb1.mono HBL0.out.size))
      clear hb1
      go_wp2_with (fail)
      go_ret
      exact ⟨rfl, HB1.out⟩
end Go.Proofs.YthplhibdapjjgaaGreatDoor
