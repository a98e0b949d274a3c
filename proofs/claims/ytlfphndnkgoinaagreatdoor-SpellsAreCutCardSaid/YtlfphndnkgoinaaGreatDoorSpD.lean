/- Sums of cut spells, and what fires at a moment: the plain law of SpellsAreCut; the sum's closure by its contract. -/
import Derived.Test.YtlfphndnkgoinaaGreatDoorSpC
namespace Go.Proofs.YtlfphndnkgoinaaGreatDoor
open Go.RowKit

def sumS : List (Nat × Int × Int) → Int
  | [] => 0
  | x :: L => (x.2.2 - x.2.1) + sumS L
theorem sumS_append (L M : List (Nat × Int × Int)) : sumS (L ++ M) = sumS L + sumS M := by
  induction L with
  | nil => simp [sumS]
  | cons x L ih => simp only [List.cons_append, sumS, ih]; omega
theorem sumS_perm {L M : List (Nat × Int × Int)} (h : L.Perm M) : sumS L = sumS M := by
  induction h with
  | nil => rfl
  | cons x _ ih => simp only [sumS, ih]
  | swap x y l => simp only [sumS]; omega
  | trans _ _ h1 h2 => exact h1.trans h2
theorem sumS_cut (mid : Int) (h0 : 0 ≤ mid) (h1 : mid ≤ 200) (W : List (Nat × Int × Int)) : sumS (cuL 0 mid W) + sumS (cuL mid 200 W) = sumS (cuL 0 200 W) := by
  induction W with
  | nil => rfl
  | cons x W ih =>
    obtain ⟨d, a, b⟩ := x
    simp only [cuL]
    by_cases k1 : max a 0 < min b mid <;> by_cases k2 : max a mid < min b 200 <;> by_cases k3 : max a 0 < min b 200 <;> simp only [k1, k2, k3, if_true, if_false, sumS] <;> omega
theorem cuL_in (f t : Int) (W : List (Nat × Int × Int)) : ∀ x ∈ cuL f t W, f ≤ x.2.1 ∧ x.2.1 < x.2.2 ∧ x.2.2 ≤ t := by
  induction W with
  | nil => intro x hx; cases hx
  | cons y W ih =>
    intro x hx
    simp only [cuL] at hx
    split at hx
    · rcases List.mem_cons.1 hx with rfl | hx
      · refine ⟨?_, ?_, ?_⟩ <;> simp only <;> omega
      · exact ih x hx
    · exact ih x hx
theorem cuL_dev (f t : Int) (W : List (Nat × Int × Int)) (h : ∀ x ∈ W, x.1 < 2) : ∀ x ∈ cuL f t W, x.1 < 2 := by
  induction W with
  | nil => intro x hx; cases hx
  | cons y W ih =>
    intro x hx
    simp only [cuL] at hx
    split at hx
    · rcases List.mem_cons.1 hx with rfl | hx
      · exact h y List.mem_cons_self
      · exact ih (fun z hz => h z (List.mem_cons_of_mem _ hz)) x hx
    · exact ih (fun z hz => h z (List.mem_cons_of_mem _ hz)) x hx
theorem any_perm {L M : List (Nat × Int × Int)} (h : L.Perm M) (p : Nat × Int × Int → Bool) : L.any p = M.any p := by
  rw [Bool.eq_iff_iff, List.any_eq_true, List.any_eq_true]
  exact ⟨fun ⟨x, h1, h2⟩ => ⟨x, h.mem_iff.1 h1, h2⟩, fun ⟨x, h1, h2⟩ => ⟨x, h.mem_iff.2 h1, h2⟩⟩
theorem any_cut (d : Nat) (t : Int) (h0 : 0 ≤ t) (h1 : t < 200) (W : List (Nat × Int × Int)) : (cuL 0 200 W).any (slQ d t) = W.any (slQ d t) := by
  induction W with
  | nil => rfl
  | cons x W ih =>
    obtain ⟨e, a, b⟩ := x
    simp only [cuL]
    split
    · rename_i h
      rw [List.any_cons, List.any_cons, ih]
      congr 1
      unfold slQ
      simp only
      congr 1
      · congr 1
        rw [decide_eq_decide]; omega
      · rw [decide_eq_decide]; omega
    · rename_i h
      rw [List.any_cons, ih]
      have : slQ d t (e, a, b) = false := by
        unfold slQ
        simp only
        by_cases k1 : a ≤ t
        · rw [show decide (t < b) = false from decide_eq_false (by omega), Bool.and_false]
        · rw [decide_eq_false k1, Bool.and_false, Bool.false_and]
      rw [this, Bool.false_or]
theorem any_whL (S : Nat → List (Int × Int)) (ds : List Nat) (d : Nat) (t : Int) (h : d ∈ ds) : (whL S ds).any (slQ d t) = firesP (S d) t := by
  rw [Bool.eq_iff_iff]
  unfold whL firesP
  rw [List.any_eq_true, List.any_eq_true]
  constructor
  · rintro ⟨x, hx, hq⟩
    obtain ⟨e, he, hx⟩ := List.mem_flatMap.1 hx
    obtain ⟨s, hs, rfl⟩ := List.mem_map.1 hx
    unfold slQ at hq
    simp only [Bool.and_eq_true, decide_eq_true_eq] at hq
    obtain ⟨⟨rfl, h1⟩, h2⟩ := hq
    exact ⟨s, hs, by simp [h1, h2]⟩
  · rintro ⟨s, hs, hq⟩
    rw [decide_eq_true_eq] at hq
    refine ⟨(d, s.1, s.2), List.mem_flatMap.2 ⟨d, h, List.mem_map.2 ⟨s, hs, rfl⟩⟩, ?_⟩
    unfold slQ
    simp [hq.1, hq.2]
theorem dvs_mem (l : List Te) (d m : Nat) (hd : d < 2) (h : l.any (teQ d m) = true) : d ∈ dvs l m := by
  obtain ⟨x, hx, hq⟩ := List.any_eq_true.1 h
  unfold teQ at hq
  simp only [Bool.and_eq_true, decide_eq_true_eq] at hq
  unfold dvs
  rw [mem_dvF]
  exact ⟨hd, List.mem_map.2 ⟨x, List.mem_filter.2 ⟨hx, by simp [hq.2]⟩, hq.1⟩⟩
theorem sumS_bound (L : List (Nat × Int × Int)) (h : ∀ x ∈ L, 0 ≤ x.2.1 ∧ x.2.1 < x.2.2 ∧ x.2.2 ≤ 200) : 0 ≤ sumS L ∧ sumS L ≤ 200 * (L.length : Int) := by
  induction L with
  | nil => simp [sumS]
  | cons x L ih =>
    have h1 := h x List.mem_cons_self
    have h2 := ih (fun y hy => h y (List.mem_cons_of_mem _ hy))
    simp only [sumS, List.length_cons]
    omega
set_option maxRecDepth 100000 in
set_option maxHeartbeats 2000000 in
theorem sumCl_any (k : Nat) (L : List (Nat × Int × Int)) (n c : Nat) (A : Option Addr) (w : World) (hn : L.length = n) (hn2 : n ≤ 800000000000) (hb : ∀ x ∈ L, 0 ≤ x.2.1 ∧ x.2.1 < x.2.2 ∧ x.2.2 ≤ 200) (hr : Row w w.heap.size A (recs (slC k) L)) :
    Calls Tryz.prog 22 #[.slice A n c] w fun e w' => e = .returned (.int .i64 (sumS L)) ∧ Below w.heap.size w w' := by
  have HR := Lib.hid hr
  have HN := Lib.hid hn
  have HBD := Lib.hid hb
  clear hr hn hb
  go_enter Tryz.func22, Tryz.ntmps22
  go_wp2_with (fail)
  go_loopw [3, 8] (fun u s wr => ∃ (i : Nat) (z : Int), i ≤ n ∧ u = .int .i64 z ∧ s = .int .i64 (i : Int) ∧ Hid (z = sumS (L.take i)) ∧ Hid (Below w.heap.size w wr)) (fun _ s _ => n - (intOf s).toNat)
  case atStart => exact ⟨0, 0, by omega, rfl, rfl, Lib.hid rfl, Lib.hid (Below.refl _ _)⟩
  case round =>
    obtain ⟨i, z, hin, rfl, rfl, HZ, HB⟩ := hrel
    have hbs := HB.out.size
    have hz : 0 ≤ z ∧ z ≤ 200 * (i : Int) := by
      have := sumS_bound (L.take i) (fun x hx => HBD.out x (List.mem_of_mem_take hx))
      rw [← HZ.out, List.length_take] at this
      omega
    by_cases hlt : i < n
    · have hltI : (i : Int) < n := by omega
      obtain ⟨x, hx⟩ : ∃ x, L[i]? = some x := ⟨_, List.getElem?_eq_getElem (by have := HN.out; omega)⟩
      obtain ⟨a, o, rfl, ha, hC⟩ := (HR.out.below HB.out).posR (slC_len k) (by omega) (by have := HN.out; omega)
      have c0 : wr.cell? ⟨a, o + i * 4, none⟩ = some (.string (teT x.1)) := rec_cell (slC_len k) hC i x hx 0 _ rfl
      have c1 := rec_cell (slC_len k) hC i x hx 1 _ rfl
      have c2 := rec_cell (slC_len k) hC i x hx 2 _ rfl
      have c3 := rec_cell (slC_len k) hC i x hx 3 _ rfl
      have ha' : a < wr.heap.size := by omega
      have hxb := HBD.out x (List.mem_of_getElem? hx)
      have HTK := Lib.hid (show sumS (L.take (i + 1)) = z + (x.2.2 - x.2.1) from by rw [List.take_add_one, hx, sumS_append, ← HZ.out]; simp [sumS])
      clear hx hC
      have hw1 : IntKind.i64.wrap (x.2.2 - x.2.1) = x.2.2 - x.2.1 := by rw [IntKind.wrap_i64]; omega
      have hw2 : IntKind.i64.wrap (z + (x.2.2 - x.2.1)) = z + (x.2.2 - x.2.1) := by rw [IntKind.wrap_i64]; omega
      have hwk : IntKind.i64.wrap ((i : Int) + 1) = ((i + 1 : Nat) : Int) := by rw [IntKind.wrap_i64]; omega
      have HB5 := Lib.hid (show Below w.heap.size w (wr.alloc (.cells #[.string (teT x.1), .string (rkT k), .int .i64 x.2.1, .int .i64 x.2.2] 56)) from HB.out.alloc hbs _)
      go_wp2_with (fail)
      go_roundw
      case rel => exact ⟨i + 1, _, by omega, rfl, by simp, Lib.hid HTK.out.symm, HB5⟩
      case measure => simp [intOf]; omega
    · have hltI : ¬ (i : Int) < n := by omega
      have HF := Lib.hid (show z = sumS L from by rw [HZ.out, List.take_of_length_le (by have := HN.out; omega)])
      go_wp2_with (fail)
      go_ret
      exact ⟨by rw [← HF.out]; rfl, HB.out⟩
end Go.Proofs.YtlfphndnkgoinaaGreatDoor
