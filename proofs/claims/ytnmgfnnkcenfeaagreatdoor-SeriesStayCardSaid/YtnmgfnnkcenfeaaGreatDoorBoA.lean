/- The reference's within, bucketOf; slices.Min, slices.Max of ints. Printed by gen_BoA.py. -/
import Derived.Test.YtnmgfnnkcenfeaaGreatDoorBoP
import Derived.Test.YtnmgfnnkcenfeaaGreatDoorRec
import Derived.Test.YtnmgfnnkcenfeaaGreatDoorQtt
import Derived.Test.YtnmgfnnkcenfeaaGreatDoorQp
namespace Go.Proofs.YtnmgfnnkcenfeaaGreatDoor
open Go.RowKit

def inV (l : List Int) : List Value := l.map (Value.int .i64)
theorem inV_len (l : List Int) : (inV l).length = l.length := by simp [inV]
theorem inV_one (l : List Int) : ∀ u ∈ inV l, u.oneCell' = true := by
  intro u hu
  unfold inV at hu
  rw [List.mem_map] at hu
  obtain ⟨x, _, rfl⟩ := hu
  rfl
theorem inV_get {l : List Int} {i : Nat} {x : Int} (h : l[i]? = some x) : (inV l)[i]? = some (.int .i64 x) := by simp [inV, h]
theorem setblkB {w : World} {g j : Nat} {cs : Array Value} {t : TypeId} {f : Nat × Nat} (v : Value) (h : w.heap[g]? = some (.cells cs t f)) : (w.setCell ⟨g, j, none⟩ v).heap[g]? = some (.cells (cs.setIfInBounds j v) t f) := by
  simp [World.setCell, Array.getElem?_modify, h]
theorem within_any (z a b : Int) (w : World) : Calls Tryz.prog 57 #[.int .i64 z, .agg #[.int .i64 a, .int .i64 b]] w fun e w' => e = .returned (.bool (decide (a ≤ z) && decide (z < b))) ∧ Below w.heap.size w w' := by
  have hb : Below w.heap.size w (w.alloc (.cells #[.int .i64 a, .int .i64 b] 41)) := (Below.refl _ _).alloc (Nat.le_refl _) _
  by_cases h1 : a ≤ z
  · by_cases h2 : z < b
    · rw [decide_eq_true h1, decide_eq_true h2]
      go_enter Tryz.func57, Tryz.ntmps57
      go_wp2_with (fail)
      go_ret
      exact ⟨rfl, hb⟩
    · rw [decide_eq_true h1, decide_eq_false h2]
      go_enter Tryz.func57, Tryz.ntmps57
      go_wp2_with (fail)
      go_ret
      exact ⟨rfl, hb⟩
  · rw [decide_eq_false h1]
    go_enter Tryz.func57, Tryz.ntmps57
    go_wp2_with (fail)
    go_ret
    exact ⟨rfl, hb⟩

set_option maxRecDepth 100000 in
theorem min_any (l : List Int) (n c b o : Nat) (w : World) (hn : l.length = n) (h0 : 1 ≤ n) (hn2 : n ≤ 1000) (_hb : b < w.heap.size) (hC : Cells w b o (inV l)) :
    Calls Tryz.prog 87 #[.slice (some ⟨b, o, none⟩) n c] w fun e w' => e = .returned (.int .i64 (mnL l)) ∧ w = w' := by
  have HC := Lib.hid hC
  have HN := Lib.hid hn
  obtain ⟨x, hx⟩ : ∃ x, l[0]? = some x := ⟨_, List.getElem?_eq_getElem (by omega)⟩
  have c0 := HC.out 0 _ (inV_get hx)
  simp only [Nat.add_zero] at c0
  have HX := Lib.hid (show mnL (l.take 1) = x from by
    cases l with
    | nil => simp at hx
    | cons y l => simp at hx; simp [mnL, hx])
  have h1I : ¬ (n : Int) < 1 := by omega
  have h0I : (0 : Int) < n := by omega
  obtain ⟨R, eR⟩ : ∃ R, R = mnL l := ⟨_, rfl⟩
  rw [← eR]
  have HER := Lib.hid eR
  clear hC hn hx eR
  go_enter Tryz.func87, Tryz.ntmps87
  go_wp2_with (fail)
  go_loopw [3, 4] (fun a i wr => ∃ (k : Nat) (m : Int), 1 ≤ k ∧ k ≤ n ∧ i = .int .i64 (k : Int) ∧ a = .int .i64 m ∧ w = wr ∧ Hid (mnL (l.take k) = m)) (fun _ i _ => n - (intOf i).toNat)
  case atStart => exact ⟨1, x, Nat.le_refl _, h0, rfl, rfl, rfl, HX⟩
  case round =>
    obtain ⟨k, a, hk1, hk, rfl, rfl, rfl, HK⟩ := hrel
    by_cases hlt : k < n
    · have hltI : (k : Int) < (n : Int) := by omega
      obtain ⟨y, hy⟩ : ∃ y, l[k]? = some y := ⟨_, List.getElem?_eq_getElem (by have := HN.out; omega)⟩
      have ck := HC.out k _ (inV_get hy)
      have HK2 := Lib.hid (show mnL (l.take (k + 1)) = min a y from by
        rw [List.take_add_one, hy, Option.toList_some, mnL_snoc y (by
          intro e
          have h1 := congrArg List.length e
          rw [List.length_take, List.length_nil] at h1
          have h2 := HN.out
          omega), HK.out])
      obtain ⟨m, em⟩ : ∃ m, m = min a y := ⟨_, rfl⟩
      rw [← em] at HK2
      have hm : (if y < a then y else a) = m := by rw [em]; split <;> omega
      clear hy em
      go_wp2_with (fail)
      go_roundw
      case rel => exact ⟨k + 1, m, by omega, by omega, by go_num, rfl, trivial, HK2⟩
      case measure => simp [intOf]; omega
    · have hltI : ¬ (k : Int) < (n : Int) := by omega
      have hE := Lib.hid (show a = R from by
        have := HK.out
        rw [List.take_of_length_le (by have := HN.out; omega)] at this
        rw [HER.out, this])
      go_wp2_with (fail)
      go_ret
      exact ⟨by rw [← hE.out]; rfl, rfl⟩
set_option maxRecDepth 100000 in
theorem max_any (l : List Int) (n c b o : Nat) (w : World) (hn : l.length = n) (h0 : 1 ≤ n) (hn2 : n ≤ 1000) (_hb : b < w.heap.size) (hC : Cells w b o (inV l)) :
    Calls Tryz.prog 88 #[.slice (some ⟨b, o, none⟩) n c] w fun e w' => e = .returned (.int .i64 (mxL l)) ∧ w = w' := by
  have HC := Lib.hid hC
  have HN := Lib.hid hn
  obtain ⟨x, hx⟩ : ∃ x, l[0]? = some x := ⟨_, List.getElem?_eq_getElem (by omega)⟩
  have c0 := HC.out 0 _ (inV_get hx)
  simp only [Nat.add_zero] at c0
  have HX := Lib.hid (show mxL (l.take 1) = x from by
    cases l with
    | nil => simp at hx
    | cons y l => simp at hx; simp [mxL, hx])
  have h1I : ¬ (n : Int) < 1 := by omega
  have h0I : (0 : Int) < n := by omega
  obtain ⟨R, eR⟩ : ∃ R, R = mxL l := ⟨_, rfl⟩
  rw [← eR]
  have HER := Lib.hid eR
  clear hC hn hx eR
  go_enter Tryz.func88, Tryz.ntmps88
  go_wp2_with (fail)
  go_loopw [3, 4] (fun a i wr => ∃ (k : Nat) (m : Int), 1 ≤ k ∧ k ≤ n ∧ i = .int .i64 (k : Int) ∧ a = .int .i64 m ∧ w = wr ∧ Hid (mxL (l.take k) = m)) (fun _ i _ => n - (intOf i).toNat)
  case atStart => exact ⟨1, x, Nat.le_refl _, h0, rfl, rfl, rfl, HX⟩
  case round =>
    obtain ⟨k, a, hk1, hk, rfl, rfl, rfl, HK⟩ := hrel
    by_cases hlt : k < n
    · have hltI : (k : Int) < (n : Int) := by omega
      obtain ⟨y, hy⟩ : ∃ y, l[k]? = some y := ⟨_, List.getElem?_eq_getElem (by have := HN.out; omega)⟩
      have ck := HC.out k _ (inV_get hy)
      have HK2 := Lib.hid (show mxL (l.take (k + 1)) = max a y from by
        rw [List.take_add_one, hy, Option.toList_some, mxL_snoc y (by
          intro e
          have h1 := congrArg List.length e
          rw [List.length_take, List.length_nil] at h1
          have h2 := HN.out
          omega), HK.out])
      obtain ⟨m, em⟩ : ∃ m, m = max a y := ⟨_, rfl⟩
      rw [← em] at HK2
      have hm : (if a < y then y else a) = m := by rw [em]; split <;> omega
      clear hy em
      go_wp2_with (fail)
      go_roundw
      case rel => exact ⟨k + 1, m, by omega, by omega, by go_num, rfl, trivial, HK2⟩
      case measure => simp [intOf]; omega
    · have hltI : ¬ (k : Int) < (n : Int) := by omega
      have hE := Lib.hid (show a = R from by
        have := HK.out
        rw [List.take_of_length_le (by have := HN.out; omega)] at this
        rw [HER.out, this])
      go_wp2_with (fail)
      go_ret
      exact ⟨by rw [← hE.out]; rfl, rfl⟩
set_option maxHeartbeats 4000000 in
/-- A bucket that is put into a block, cell by cell. -/
theorem bk_put {w : World} {g : Nat} {t : TypeId} {c0 c1 c2 c3 c4 c5 c6 c7 : Value} (v0 v1 v2 v3 v4 v5 v6 v7 : Value) (h : w.heap[g]? = some (.cells #[c0, c1, c2, c3, c4, c5, c6, c7] t (0, 0))) :
    ((((((((w.setCell ⟨g, 0, none⟩ v0).setCell ⟨g, 1, none⟩ v1).setCell ⟨g, 2, none⟩ v2).setCell ⟨g, 3, none⟩ v3).setCell ⟨g, 4, none⟩ v4).setCell ⟨g, 5, none⟩ v5).setCell ⟨g, 6, none⟩ v6).setCell ⟨g, 7, none⟩ v7).heap[g]? = some (.cells #[v0, v1, v2, v3, v4, v5, v6, v7] t (0, 0)) ∧
    ∀ B, B ≤ g → Below B w ((((((((w.setCell ⟨g, 0, none⟩ v0).setCell ⟨g, 1, none⟩ v1).setCell ⟨g, 2, none⟩ v2).setCell ⟨g, 3, none⟩ v3).setCell ⟨g, 4, none⟩ v4).setCell ⟨g, 5, none⟩ v5).setCell ⟨g, 6, none⟩ v6).setCell ⟨g, 7, none⟩ v7) := by
  have e0 := (setblkB (j := 0) v0 h).trans rfl
  have e1 := (setblkB (j := 1) v1 e0).trans rfl
  have e2 := (setblkB (j := 2) v2 e1).trans rfl
  have e3 := (setblkB (j := 3) v3 e2).trans rfl
  have e4 := (setblkB (j := 4) v4 e3).trans rfl
  have e5 := (setblkB (j := 5) v5 e4).trans rfl
  have e6 := (setblkB (j := 6) v6 e5).trans rfl
  have e7 := (setblkB (j := 7) v7 e6).trans rfl
  exact ⟨e7, fun B hB => ((((((((Below.refl B w).setCell hB _).setCell hB _).setCell hB _).setCell hB _).setCell hB _).setCell hB _).setCell hB _).setCell hB _⟩
theorem smL_snoc (l : List Int) (v : Int) : smL (l ++ [v]) = smL l + v := by simp [smL]
theorem fiL_get {l : List Int} (h : 1 ≤ l.length) : l[0]? = some (fiL l) := by
  cases l with
  | nil => simp at h
  | cons x l => rfl
theorem laL_get {l : List Int} (h : 1 ≤ l.length) : l[l.length - 1]? = some (laL l) := by
  unfold laL
  rw [← List.getLast?_eq_getElem?]
  cases hh : l.getLast? with
  | none => rw [List.getLast?_eq_none_iff] at hh; rw [hh] at h; simp at h
  | some x => rfl
def SmB (l : List Int) : Prop := ∀ v ∈ l, -1000 ≤ v ∧ v ≤ 1000
theorem smL_bound {l : List Int} (h : SmB l) : ∀ k, k ≤ l.length → -1000 * (k : Int) ≤ smL (l.take k) ∧ smL (l.take k) ≤ 1000 * (k : Int) := by
  intro k
  induction k with
  | zero => intro _; simp [smL]
  | succ k ih =>
    intro hk
    have h1 := ih (by omega)
    obtain ⟨v, hv⟩ : ∃ v, l[k]? = some v := ⟨_, List.getElem?_eq_getElem (by omega)⟩
    have h2 := h v (List.mem_of_getElem? hv)
    rw [List.take_add_one, hv, Option.toList_some, smL_snoc]
    omega
set_option maxRecDepth 100000 in
set_option maxHeartbeats 4000000 in
theorem bucketOf_any (a b : Int) (l : List Int) (n c o r : Nat) (w : World) (hn : l.length = n) (h0 : 1 ≤ n) (hn2 : n ≤ 1000) (hl : SmB l) (hr : r < w.heap.size) (hC : Cells w r o (inV l)) :
    Calls Tryz.prog 58 #[.agg #[.int .i64 a, .int .i64 b], .slice (some ⟨r, o, none⟩) n c] w fun e w' => e = .returned (.agg #[.int .i64 a, .int .i64 b, .int .i64 (n : Int), .int .i64 (smL l), .int .i64 (mnL l), .int .i64 (mxL l), .int .i64 (fiL l), .int .i64 (laL l)]) ∧ Below w.heap.size w w' := by
  have HC := Lib.hid hC
  have HN := Lib.hid hn
  have HL := Lib.hid hl
  have HLA := Lib.hid (show (inV l)[n - 1]? = some (.int .i64 (laL l)) from by rw [← hn]; exact inV_get (laL_get (by omega)))
  have HFI := Lib.hid (show (inV l)[0]? = some (.int .i64 (fiL l)) from inV_get (fiL_get (by omega)))
  clear hC hl hn
  go_enter Tryz.func58, Tryz.ntmps58
  go_upto_region 1 with (fail)
  obtain ⟨g, eg⟩ : ∃ g, g = w.heap.size := ⟨_, rfl⟩
  obtain ⟨w0, e0⟩ : ∃ V : World, V = (w.alloc (.cells #[.int .i64 a, .int .i64 b] 41)).alloc (.cells #[.int .i64 0, .int .i64 0, .int .i64 0, .int .i64 0, .int .i64 0, .int .i64 0, .int .i64 0, .int .i64 0] 46) := ⟨_, rfl⟩
  have hb0 : Below w.heap.size w w0 := by rw [e0]; exact ((Below.refl _ _).alloc (Nat.le_refl _) _).alloc (by simp) _
  have hx0 : w0.heap[g]? = some (.cells #[.int .i64 a, .int .i64 b] 41 (0, 0)) := by rw [e0, eg, Below.heap_alloc _ _ _ (by simp)]; exact heap_new w _
  have hx1 : w0.heap[g + 1]? = some (.cells #[.int .i64 0, .int .i64 0, .int .i64 0, .int .i64 0, .int .i64 0, .int .i64 0, .int .i64 0, .int .i64 0] 46 (0, 0)) := by
    rw [e0, eg]
    have := heap_new (w.alloc (.cells #[.int .i64 a, .int .i64 b] 41)) (.cells #[.int .i64 0, .int .i64 0, .int .i64 0, .int .i64 0, .int .i64 0, .int .i64 0, .int .i64 0, .int .i64 0] 46)
    simpa using this
  have HB0 := Lib.hid hb0
  have hgw : w.heap.size ≤ g := by omega
  have hgl := (Array.getElem?_eq_some_iff.1 hx0).1
  have hgl1 := (Array.getElem?_eq_some_iff.1 hx1).1
  have hrg : r < g := by omega
  have HQ := Lib.hid (fun (V : World) (hV : Below w0.heap.size w0 V) => show V.cell? ⟨g, 0, none⟩ = some (.int .i64 a) ∧ V.cell? ⟨g, 1, none⟩ = some (.int .i64 b) ∧ V.cell? ⟨r, o, none⟩ = some (.int .i64 (fiL l)) ∧ V.cell? ⟨r, o + (n - 1), none⟩ = some (.int .i64 (laL l)) from by
    have h1 := (hV.block g hgl).trans hx0
    have hb := hb0.trans (hV.mono hb0.size)
    exact ⟨cell_of_blk (j := 0) h1 rfl, cell_of_blk (j := 1) h1 rfl, (hb.cell (p := ⟨r, o, none⟩) hr).trans (by have := HC.out 0 _ HFI.out; simpa using this), (hb.cell (p := ⟨r, o + (n - 1), none⟩) hr).trans (HC.out (n - 1) _ HLA.out)⟩)
  have HX1 := Lib.hid (fun (V : World) (hV : Below w0.heap.size w0 V) => (hV.block (g + 1) hgl1).trans hx1)
  have HCV := Lib.hid (fun (V : World) (hV : Below w0.heap.size w0 V) => show Cells V r o (inV l) from HC.out.keep ((hb0.trans (hV.mono hb0.size)).block r hr))
  have hsz0 := hb0.size
  have HMN := Lib.hid (fun (V : World) (hV : Below w0.heap.size w0 V) => (min_any l n c r o V HN.out h0 hn2 (by have := hV.size; omega) (HCV.out V hV)).mono (fun e w' h => (⟨h.1, h.2 ▸ Below.refl _ _⟩ : _ ∧ Below V.heap.size V w')))
  have HMX := Lib.hid (fun (V : World) (hV : Below w0.heap.size w0 V) => (max_any l n c r o V HN.out h0 hn2 (by have := hV.size; omega) (HCV.out V hV)).mono (fun e w' h => (⟨h.1, h.2 ▸ Below.refl _ _⟩ : _ ∧ Below V.heap.size V w')))
  rw [← eg, ← e0]
  have h0I : (0 : Int) < n := by omega
  have hwr : IntKind.i64.wrap ((n : Int) - 1) = ((n - 1 : Nat) : Int) := by rw [IntKind.wrap_i64]; omega
  have hwr2 : (n : Int) - 1 = ((n - 1 : Nat) : Int) := by omega
  have hwr3 : IntKind.i64.wrap (((n - 1 : Nat) : Int)) = ((n - 1 : Nat) : Int) := by rw [IntKind.wrap_i64]; omega
  have hixI : ((n - 1 : Nat) : Int) < n := by omega
  have hixN : n - 1 < n := by omega
  have hix0 : 0 < n := h0
  clear hb0 hx0 hx1 e0 eg
  go_upto_region 1 with (fail)
  refine qRegionPt 18 [.agg #[.int .i64 a, .int .i64 b], .slice (some ⟨r, o, none⟩) n c, .int .i64 (n : Int), .slice (some ⟨r, o, none⟩) n c, .int .i64 (mnL l), .slice (some ⟨r, o, none⟩) n c, .int .i64 (mxL l), .slice (some ⟨r, o, none⟩) n c, .pointer (some ⟨r, o, none⟩), .int .i64 (fiL l), .slice (some ⟨r, o, none⟩) n c, .slice (some ⟨r, o, none⟩) n c, .int .i64 (n : Int), .int .i64 ((n - 1 : Nat) : Int), .pointer (some ⟨r, o + (n - 1), none⟩), .int .i64 (laL l), .agg #[.int .i64 a, .int .i64 b, .int .i64 (n : Int), .int .i64 0, .int .i64 (mnL l), .int .i64 (mxL l), .int .i64 (fiL l), .int .i64 (laL l)], undef]
    [none, none, none, none, none, none, none, none, none, none, none, none, none, none, none, none, none, some (.cells #[.int .i64 0, .int .i64 0, .int .i64 0, .int .i64 0, .int .i64 0, .int .i64 0, .int .i64 0, .int .i64 0] 46)] (by kernel_rfl) (by kernel_rfl) rfl rfl (by rfl) ?_ ?_
  · simp only [List.take_succ_cons, List.take_zero, putL, Act.put, List.setIfInBounds_toArray, List.set_cons_zero, List.set_cons_succ]
    refine ⟨?_, ?_, ?_, ?_, ?_, ?_, ?_, ?_, ?_, ?_, ?_, ?_, ?_, ?_, ?_, ?_, ?_, ?_, trivial⟩
    · exact fun V hV => .inl (by obtain ⟨q0, q1, q2, q3⟩ := HQ.out V hV; go_simp)
    · exact fun V hV => .inl (by go_simp)
    · exact fun V hV => .inl (by go_simp)
    · exact fun V hV => .inl (by go_simp)
    · exact fun V hV => .inr ⟨_, _, (by go_simp <;> exact ⟨rfl, rfl⟩), HMN.out V hV⟩
    · exact fun V hV => .inl (by go_simp)
    · exact fun V hV => .inr ⟨_, _, (by go_simp <;> exact ⟨rfl, rfl⟩), HMX.out V hV⟩
    · exact fun V hV => .inl (by go_simp)
    · exact fun V hV => .inl (by go_simp)
    · exact fun V hV => .inl (by obtain ⟨q0, q1, q2, q3⟩ := HQ.out V hV; go_simp)
    · exact fun V hV => .inl (by go_simp)
    · exact fun V hV => .inl (by go_simp)
    · exact fun V hV => .inl (by go_simp)
    · exact fun V hV => .inl (by go_simp)
    · exact fun V hV => .inl (by go_simp)
    · exact fun V hV => .inl (by obtain ⟨q0, q1, q2, q3⟩ := HQ.out V hV; go_simp)
    · exact fun V hV => .inl (by go_simp)
    · exact fun V => by go_simp
  · intro G W5 hb5 hG
    obtain ⟨h1a, h1b⟩ := hG.1 17 _ rfl
    simp only [List.take_succ_cons, List.take_zero, List.drop_succ_cons, List.drop_zero, putL, putG, Act.put, List.setIfInBounds_toArray, List.set_cons_zero, List.set_cons_succ, Nat.zero_add, Nat.reduceAdd]
    generalize G 17 = gb at h1a h1b ⊢
    have HW5 := Lib.hid hb5
    have HPUT := Lib.hid (bk_put (.int .i64 a) (.int .i64 b) (.int .i64 (n : Int)) (.int .i64 0) (.int .i64 (mnL l)) (.int .i64 (mxL l)) (.int .i64 (fiL l)) (.int .i64 (laL l)) h1b)
    have fr : ∀ j, W5.frozen? ⟨gb, j, none⟩ = false := by intro j; simp [World.frozen?, h1b]
    have fr0 := fr 0
    have fr1 := fr 1
    have fr2 := fr 2
    have fr3 := fr 3
    have fr4 := fr 4
    have fr5 := fr 5
    have fr6 := fr 6
    have fr7 := fr 7
    have z0 := cell_of_blk (j := 0) h1b rfl
    have z1 := cell_of_blk (j := 1) h1b rfl
    have z2 := cell_of_blk (j := 2) h1b rfl
    have z3 := cell_of_blk (j := 3) h1b rfl
    have z4 := cell_of_blk (j := 4) h1b rfl
    have z5 := cell_of_blk (j := 5) h1b rfl
    have z6 := cell_of_blk (j := 6) h1b rfl
    have z7 := cell_of_blk (j := 7) h1b rfl
    clear fr h1b hG hb5 hwr hwr2 hwr3
    go_upto_region 2 with (fail)
    obtain ⟨w6, e6⟩ : ∃ V : World, V = (((((((W5.setCell ⟨gb, 0, none⟩ (.int .i64 a)).setCell ⟨gb, 1, none⟩ (.int .i64 b)).setCell ⟨gb, 2, none⟩ (.int .i64 (n : Int))).setCell ⟨gb, 3, none⟩ (.int .i64 0)).setCell ⟨gb, 4, none⟩ (.int .i64 (mnL l))).setCell ⟨gb, 5, none⟩ (.int .i64 (mxL l))).setCell ⟨gb, 6, none⟩ (.int .i64 (fiL l))).setCell ⟨gb, 7, none⟩ (.int .i64 (laL l)) := ⟨_, rfl⟩
    rw [← e6] at HPUT ⊢
    have H6 := Lib.hid (show w6.heap[gb]? = some (.cells #[.int .i64 a, .int .i64 b, .int .i64 (n : Int), .int .i64 (smL (l.take 0)), .int .i64 (mnL l), .int .i64 (mxL l), .int .i64 (fiL l), .int .i64 (laL l)] 46 (0, 0)) ∧ Below w0.heap.size w0 w6 from ⟨HPUT.out.1, HW5.out.trans (HPUT.out.2 _ h1a)⟩)
    clear e6 z0 z1 z2 z3 z4 z5 z6 z7 fr0 fr1 fr2 fr3 fr4 fr5 fr6 fr7 HPUT HW5
    go_wp2_with (fail)
    go_loopw [27] (fun i wr => ∃ k : Nat, k ≤ n ∧ i = .int .i64 (k : Int) ∧ Hid (wr.heap[gb]? = some (.cells #[.int .i64 a, .int .i64 b, .int .i64 (n : Int), .int .i64 (smL (l.take k)), .int .i64 (mnL l), .int .i64 (mxL l), .int .i64 (fiL l), .int .i64 (laL l)] 46 (0, 0)) ∧ Below w0.heap.size w0 wr)) (fun i _ => n - (intOf i).toNat)
    case atStart => exact ⟨0, Nat.zero_le _, rfl, H6⟩
    case round =>
      obtain ⟨k, hk, rfl, HR⟩ := hrel
      obtain ⟨wx, rfl⟩ : ∃ wy : World, wy = wr := ⟨_, rfl⟩
      have hsx := HR.out.2.size
      have hbx := HR.out.1
      have hbl := (Array.getElem?_eq_some_iff.1 hbx).1
      have frx : ∀ j, wx.frozen? ⟨gb, j, none⟩ = false := by intro j; simp [World.frozen?, hbx]
      by_cases hlt : k < n
      · have hltI : (k : Int) < n := by omega
        obtain ⟨v, hv⟩ : ∃ v, l[k]? = some v := ⟨_, List.getElem?_eq_getElem (by have := HN.out; omega)⟩
        have ck := HCV.out wx HR.out.2 k _ (inV_get hv)
        have hvb := HL.out v (List.mem_of_getElem? hv)
        have hsb := smL_bound HL.out k (by have := HN.out; omega)
        have HSN := Lib.hid (show smL (l.take (k + 1)) = smL (l.take k) + v from by rw [List.take_add_one, hv, Option.toList_some, smL_snoc])
        obtain ⟨sk, esk⟩ : ∃ z, z = smL (l.take k) := ⟨_, rfl⟩
        rw [← esk] at hbx hsb HSN
        have z3 := cell_of_blk (j := 3) hbx rfl
        have fr3 := frx 3
        have HST := Lib.hid (show (wx.setCell ⟨gb, 3, none⟩ (.int .i64 (sk + v))).heap[gb]? = some (.cells #[.int .i64 a, .int .i64 b, .int .i64 (n : Int), .int .i64 (sk + v), .int .i64 (mnL l), .int .i64 (mxL l), .int .i64 (fiL l), .int .i64 (laL l)] 46 (0, 0)) ∧ Below w0.heap.size w0 (wx.setCell ⟨gb, 3, none⟩ (.int .i64 (sk + v))) from ⟨(setblkB (j := 3) _ hbx).trans rfl, HR.out.2.setCell h1a _⟩)
        clear esk hbx frx hv
        go_wp2_with (fail)
        go_roundw
        case rel => exact ⟨k + 1, by omega, by go_num, by rw [HSN.out]; exact HST⟩
        case measure => simp [intOf]; omega
      · have hltI : ¬ (k : Int) < n := by omega
        have hE : smL (l.take k) = smL l := by rw [List.take_of_length_le (by have := HN.out; omega)]
        rw [hE] at hbx
        have z0 := cell_of_blk (j := 0) hbx rfl
        have z1 := cell_of_blk (j := 1) hbx rfl
        have z2 := cell_of_blk (j := 2) hbx rfl
        have z3 := cell_of_blk (j := 3) hbx rfl
        have z4 := cell_of_blk (j := 4) hbx rfl
        have z5 := cell_of_blk (j := 5) hbx rfl
        have z6 := cell_of_blk (j := 6) hbx rfl
        have z7 := cell_of_blk (j := 7) hbx rfl
        have hx1 := HX1.out wx HR.out.2
        have y0 := cell_of_blk (j := 0) hx1 rfl
        have y1 := cell_of_blk (j := 1) hx1 rfl
        have y2 := cell_of_blk (j := 2) hx1 rfl
        have y3 := cell_of_blk (j := 3) hx1 rfl
        have y4 := cell_of_blk (j := 4) hx1 rfl
        have y5 := cell_of_blk (j := 5) hx1 rfl
        have y6 := cell_of_blk (j := 6) hx1 rfl
        have y7 := cell_of_blk (j := 7) hx1 rfl
        have fry : ∀ j, wx.frozen? ⟨g + 1, j, none⟩ = false := by intro j; simp [World.frozen?, hx1]
        have f0 := fry 0
        have f1 := fry 1
        have f2 := fry 2
        have f3 := fry 3
        have f4 := fry 4
        have f5 := fry 5
        have f6 := fry 6
        have f7 := fry 7
        have hgl1x : g + 1 < wx.heap.size := by omega
        have hne : ¬ gb = g + 1 := by omega
        have HFIN := Lib.hid (bk_put (.int .i64 a) (.int .i64 b) (.int .i64 (n : Int)) (.int .i64 (smL l)) (.int .i64 (mnL l)) (.int .i64 (mxL l)) (.int .i64 (fiL l)) (.int .i64 (laL l)) hx1)
        have HBX := Lib.hid HR.out.2
        clear hbx hx1 frx fry hE
        go_wp2_with (fail)
        obtain ⟨r1, r2⟩ := HFIN.out
        have k0 := cell_of_blk (j := 0) r1 rfl
        have k1 := cell_of_blk (j := 1) r1 rfl
        have k2 := cell_of_blk (j := 2) r1 rfl
        have k3 := cell_of_blk (j := 3) r1 rfl
        have k4 := cell_of_blk (j := 4) r1 rfl
        have k5 := cell_of_blk (j := 5) r1 rfl
        have k6 := cell_of_blk (j := 6) r1 rfl
        have k7 := cell_of_blk (j := 7) r1 rfl
        exact bodyPost_ret (v := .agg #[.int .i64 a, .int .i64 b, .int .i64 (n : Int), .int .i64 (smL l), .int .i64 (mnL l), .int .i64 (mxL l), .int .i64 (fiL l), .int .i64 (laL l)]) (by simp [results, Tryz.results58, go_sem, k0, k1, k2, k3, k4, k5, k6, k7]) rfl ⟨rfl, (HB0.out.trans (HBX.out.mono hsz0)).trans (r2 _ (by omega))⟩
end Go.Proofs.YtnmgfnnkcenfeaaGreatDoor
