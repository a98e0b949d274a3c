/- Fences: place.touch by its contract. -/
import Derived.Test.YthplhibdapjjgaaGreatDoorFeC
import Derived.Test.YthplhibdapjjgaaGreatDoorQt
namespace Go.Proofs.YthplhibdapjjgaaGreatDoor
open Go.RowKit

theorem t11_any (a b c d : Pt) (ga gb : Nat) (w : World) (ha : SpB a) (hb : SpB b) (hc : SpB c) (hd : SpB d) (a0 : w.cell? ⟨ga, 0, none⟩ = some (.int .i64 a.1)) (a1 : w.cell? ⟨ga, 1, none⟩ = some (.int .i64 a.2)) (b0 : w.cell? ⟨gb, 0, none⟩ = some (.int .i64 b.1)) (b1 : w.cell? ⟨gb, 1, none⟩ = some (.int .i64 b.2)) :
    Calls Tryz.prog 81 #[ptV c, ptV d, .pointer (some ⟨ga, 0, none⟩), .pointer (some ⟨gb, 0, none⟩)] w fun e w' => e = .returned (.bool (meB a b c d)) ∧ Below w.heap.size w w' := by
  have HME := Lib.hid (fun V => meets_any a b c d V ha hb hc hd)
  have haw := World.block_lt_of_cell? w _ a0
  have hbw := World.block_lt_of_cell? w _ b0
  obtain ⟨r, er⟩ : ∃ r, r = meB a b c d := ⟨_, rfl⟩
  rw [← er] at HME ⊢
  obtain ⟨ax, ay⟩ := a
  obtain ⟨bx, by_⟩ := b
  obtain ⟨cx, cy⟩ := c
  obtain ⟨dx, dy⟩ := d
  unfold ptV at HME ⊢
  simp only at a0 a1 b0 b1 HME haw hbw ⊢
  have hBW : Below w.heap.size w ((w.alloc (.cells #[.int .i64 cx, .int .i64 cy] 37)).alloc (.cells #[.int .i64 dx, .int .i64 dy] 37)) := ((Below.refl _ _).alloc (Nat.le_refl _) _).alloc (by simp) _
  have u0 := (hBW.cell (p := ⟨ga, 0, none⟩) haw).trans a0
  have u1 := (hBW.cell (p := ⟨ga, 1, none⟩) haw).trans a1
  have u2 := (hBW.cell (p := ⟨gb, 0, none⟩) hbw).trans b0
  have u3 := (hBW.cell (p := ⟨gb, 1, none⟩) hbw).trans b1
  have HBW := Lib.hid hBW
  clear hBW ha hb hc hd er
  go_enter Tryz.func81, Tryz.ntmps81
  go_wp2_with (fail)
  refine (HME.out _).mono ?_
  rintro e w1 ⟨rfl, hb1⟩
  have HB1 := Lib.hid (HBW.out.trans (hb1.mono (by simp; omega)))
  clear hb1
  go_wp2_with (fail)
  go_ret
  exact ⟨rfl, HB1.out⟩

set_option maxRecDepth 100000 in
set_option maxHeartbeats 2000000 in
theorem t1_any (a b : Pt) (m : List Pt) (n c bm om q : Nat) (w : World) (ha : SpB a) (hb : SpB b) (hn : m.length = n) (hn2 : n ≤ 1000) (hm : ∀ x ∈ m, SpB x) (hc : Cells w bm om (recs ptC m)) (hbm : bm < w.heap.size) (hq : w.cell? ⟨q, 0, none⟩ = some (.slice (some ⟨bm, om, none⟩) n c)) :
    Calls Tryz.prog 80 #[ptV a, ptV b, .pointer (some ⟨q, 0, none⟩)] w fun e w' => e = .returned (.bool (anyN (fun j => meB a b (ed1 m j) (ed2 m j)) n)) ∧ Below w.heap.size w w' := by
  have hqw := World.block_lt_of_cell? w _ hq
  simp only at hqw
  have hr1 : ∀ (args : Array Value) (V : World), (callFunc 81 args).run Tryz.prog V = .ok (.enter 81 args) V := fun args V => call_enter Tryz.func81 (by kernel_rfl) (by kernel_rfl) args V
  have HE1 := Lib.hid (fun (W : World) (ga gb : Nat) (hW : Below w.heap.size w W) (a0 : W.heap[ga]? = some (.cells #[.int .i64 a.1, .int .i64 a.2] 37 (0, 0))) (b0 : W.heap[gb]? = some (.cells #[.int .i64 b.1, .int .i64 b.2] 37 (0, 0))) =>
    edges_any 81 #[.pointer (some ⟨ga, 0, none⟩), .pointer (some ⟨gb, 0, none⟩)] m n c bm om 0 none (fun j => meB a b (ed1 m j) (ed2 m j)) (fun _ V => Below W.heap.size W V) W hn hn2 hr1 (fun g hg => by cases hg)
      (Below.refl _ _) (fun k V V' h1 h2 => h1.trans (h2.mono h1.size)) (fun k V h => ⟨hc.keep ((hW.trans (h.mono hW.size)).block bm hbm), by have := hW.size; have := h.size; omega, Nat.zero_le _⟩)
      (fun k V hk h => by
        have ha' := (h.block ga (Array.getElem?_eq_some_iff.1 a0).1).trans a0
        have hb' := (h.block gb (Array.getElem?_eq_some_iff.1 b0).1).trans b0
        exact (t11_any a b (ed1 m k) (ed2 m k) ga gb V ha hb (hm _ (mem_ed1 (by omega))) (hm _ (mem_ed2 (by omega))) (cell_of_blk (j := 0) ha' rfl) (cell_of_blk (j := 1) ha' rfl) (cell_of_blk (j := 0) hb' rfl) (cell_of_blk (j := 1) hb' rfl)).mono (fun e w' h' => ⟨h'.1, bel_grown h'.2 _, h.trans (h'.2.mono h.size)⟩)))
  obtain ⟨r, er⟩ : ∃ r, r = anyN (fun j => meB a b (ed1 m j) (ed2 m j)) n := ⟨_, rfl⟩
  rw [← er] at HE1 ⊢
  clear hr1 er hc hm ha hb
  obtain ⟨ax, ay⟩ := a
  obtain ⟨bx, by_⟩ := b
  unfold ptV
  simp only at HE1 ⊢
  go_enter Tryz.func80, Tryz.ntmps80
  go_upto_region 1 with (fail)
  generalize hW : (w.alloc (.cells #[.int .i64 ax, .int .i64 ay] 37)).alloc (.cells #[.int .i64 bx, .int .i64 by_] 37) = W
  have hBW : Below w.heap.size w W := by rw [← hW]; exact ((Below.refl _ _).alloc (Nat.le_refl _) _).alloc (by simp) _
  have ha0 : W.heap[w.heap.size]? = some (.cells #[.int .i64 ax, .int .i64 ay] 37 (0, 0)) := by rw [← hW, Below.heap_alloc _ _ _ (by simp)]; exact heap_new w _
  have hb0 : W.heap[w.heap.size + 1]? = some (.cells #[.int .i64 bx, .int .i64 by_] 37 (0, 0)) := by rw [← hW]; have := heap_new (w.alloc (.cells #[.int .i64 ax, .int .i64 ay] 37)) (.cells #[.int .i64 bx, .int .i64 by_] 37); simpa using this
  have q0 := (hBW.cell (p := ⟨q, 0, none⟩) hqw).trans hq
  have HC1 := Lib.hid (HE1.out W _ _ hBW ha0 hb0)
  have HBW := Lib.hid hBW
  clear hW hBW ha0 hb0 HE1 hq
  go_wp2_with (fail)
  refine HC1.out.mono ?_
  rintro e w1 ⟨rfl, k1, _, hb1, _⟩
  have HB1 := Lib.hid (HBW.out.trans (hb1.mono HBW.out.size))
  clear hb1
  go_wp2_with (fail)
  go_ret
  exact ⟨rfl, HB1.out⟩

/-- Do the areas of two fences touch? -/
def tcB (l m : List Pt) : Bool := decide (whI l (gp m 0) ≠ 0) || decide (whI m (gp l 0) ≠ 0) || anyN (fun i => anyN (fun j => meB (ed1 l i) (ed2 l i) (ed1 m j) (ed2 m j)) m.length) l.length

set_option maxRecDepth 100000 in
set_option maxHeartbeats 2000000 in
theorem touch_any (l m : List Pt) (n n' c c' b o b' o' : Nat) (w : World) (hn : l.length = n) (hn' : m.length = n') (hn0 : 0 < n) (hn0' : 0 < n') (hn2 : n ≤ 1000) (hn2' : n' ≤ 1000) (hl : ∀ x ∈ l, SpB x) (hm : ∀ x ∈ m, SpB x) (hc : Cells w b o (recs ptC l)) (hc' : Cells w b' o' (recs ptC m)) (hb : b < w.heap.size) (hb' : b' < w.heap.size) :
    Calls Tryz.prog 47 #[.slice (some ⟨b, o, none⟩) n c, .slice (some ⟨b', o', none⟩) n' c'] w fun e w' => e = .returned (.bool (tcB l m)) ∧ Below w.heap.size w w' := by
  have hr1 : ∀ (args : Array Value) (V : World), (callFunc 80 args).run Tryz.prog V = .ok (.enter 80 args) V := fun args V => call_enter Tryz.func80 (by kernel_rfl) (by kernel_rfl) args V
  have hx := gp_lt (l := l) (i := 0) (by omega)
  have hy := gp_lt (l := m) (i := 0) (by omega)
  have HW1 := Lib.hid (fun (V : World) (hV : Below w.heap.size w V) => where_any l (gp m 0) n c b o V hn hn2 hl (hm _ (List.mem_of_getElem? hy)) (hc.keep (hV.block b hb)) (by have := hV.size; omega))
  have HW2 := Lib.hid (fun (V : World) (hV : Below w.heap.size w V) => where_any m (gp l 0) n' c' b' o' V hn' hn2' hm (hl _ (List.mem_of_getElem? hx)) (hc'.keep (hV.block b' hb')) (by have := hV.size; omega))
  have HE1 := Lib.hid (fun (q : Nat) (W : World) (hW : Below w.heap.size w W) (q0 : W.heap[q]? = some (.cells #[.slice (some ⟨b', o', none⟩) n' c'] 26 (0, 0))) =>
    edges_any 80 #[.pointer (some ⟨q, 0, none⟩)] l n c b o 0 none (fun i => anyN (fun j => meB (ed1 l i) (ed2 l i) (ed1 m j) (ed2 m j)) n') (fun _ V => Below W.heap.size W V) W hn hn2 hr1 (fun g hg => by cases hg)
      (Below.refl _ _) (fun k V V' h1 h2 => h1.trans (h2.mono h1.size)) (fun k V h => ⟨hc.keep ((hW.trans (h.mono hW.size)).block b hb), by have := hW.size; have := h.size; omega, Nat.zero_le _⟩)
      (fun k V hk h => by
        have hq := (h.block q (Array.getElem?_eq_some_iff.1 q0).1).trans q0
        exact (t1_any (ed1 l k) (ed2 l k) m n' c' b' o' q V (hl _ (mem_ed1 (by omega))) (hl _ (mem_ed2 (by omega))) hn' hn2' hm (hc'.keep ((hW.trans (h.mono hW.size)).block b' hb')) (by have := hW.size; have := h.size; omega) (cell_of_blk (j := 0) hq rfl)).mono (fun e w' h' => ⟨h'.1, bel_grown h'.2 _, h.trans (h'.2.mono h.size)⟩)))
  have HC0 := Lib.hid (fun (V : World) (hV : Below w.heap.size w V) => And.intro (pt_cells (hc.keep (hV.block b hb)) 0 _ hx) (pt_cells (hc'.keep (hV.block b' hb')) 0 _ hy))
  have HTC := Lib.hid (show tcB l m = (decide (whI l (gp m 0) ≠ 0) || decide (whI m (gp l 0) ≠ 0) || anyN (fun i => anyN (fun j => meB (ed1 l i) (ed2 l i) (ed1 m j) (ed2 m j)) n') n) by rw [← hn, ← hn']; rfl)
  obtain ⟨r, er⟩ : ∃ r, r = tcB l m := ⟨_, rfl⟩
  rw [← er] at HTC ⊢
  obtain ⟨k1, ek1⟩ : ∃ r, r = whI l (gp m 0) := ⟨_, rfl⟩
  obtain ⟨k2, ek2⟩ : ∃ r, r = whI m (gp l 0) := ⟨_, rfl⟩
  obtain ⟨k3, ek3⟩ : ∃ r, r = anyN (fun i => anyN (fun j => meB (ed1 l i) (ed2 l i) (ed1 m j) (ed2 m j)) n') n := ⟨_, rfl⟩
  rw [← ek1] at HW1 HTC
  rw [← ek2] at HW2 HTC
  rw [← ek3] at HE1 HTC
  obtain ⟨x, ex⟩ : ∃ x, x = gp l 0 := ⟨_, rfl⟩
  obtain ⟨y, ey⟩ : ∃ x, x = gp m 0 := ⟨_, rfl⟩
  rw [← ex] at HW2 HC0
  rw [← ey] at HW1 HC0
  obtain ⟨xx, xy⟩ := x
  obtain ⟨yx, yy⟩ := y
  unfold ptV at HW1 HW2
  simp only [Nat.zero_mul, Nat.add_zero] at HC0
  clear hr1 hx hy hc hc' hl hm er ek1 ek2 ek3 ex ey
  have hn0i : (0 : Int) < (n : Int) := by omega
  have hn0i' : (0 : Int) < (n' : Int) := by omega
  go_enter Tryz.func47, Tryz.ntmps47
  go_upto_region 1 with (fail)
  generalize hW : w.alloc (.cells #[.slice (some ⟨b', o', none⟩) n' c'] 26) = W
  have hWs : W.heap.size = w.heap.size + 1 := by rw [← hW]; simp
  have hBW : Below w.heap.size w W := by rw [← hW]; exact (Below.refl _ _).alloc (Nat.le_refl _) _
  have hq : W.heap[w.heap.size]? = some (.cells #[.slice (some ⟨b', o', none⟩) n' c'] 26 (0, 0)) := by rw [← hW]; exact heap_new w _
  have HQ := Lib.hid (fun (V : World) (hV : Below W.heap.size W V) => show V.cell? ⟨w.heap.size, 0, none⟩ = some (.slice (some ⟨b', o', none⟩) n' c') ∧ V.cell? ⟨b, o, none⟩ = some (.int .i64 xx) ∧ V.cell? ⟨b, o + 1, none⟩ = some (.int .i64 xy) ∧ V.cell? ⟨b', o', none⟩ = some (.int .i64 yx) ∧ V.cell? ⟨b', o' + 1, none⟩ = some (.int .i64 yy) from by
    have h := HC0.out V (hBW.trans (hV.mono hBW.size))
    exact ⟨cell_of_blk (j := 0) ((hV.block _ (by omega)).trans hq) rfl, h.1.1, h.1.2, h.2.1, h.2.2⟩)
  have HV1 := Lib.hid (fun (V : World) (hV : Below W.heap.size W V) => HW1.out V (hBW.trans (hV.mono hBW.size)))
  have HV2 := Lib.hid (fun (V : World) (hV : Below W.heap.size W V) => HW2.out V (hBW.trans (hV.mono hBW.size)))
  have HV3 := Lib.hid (fun (V : World) (hV : Below W.heap.size W V) => (HE1.out w.heap.size V (hBW.trans (hV.mono hBW.size)) ((hV.block _ (by omega)).trans hq)).mono (fun e w' h => show e = .returned (.bool k3) ∧ Below V.heap.size V w' from ⟨h.1, by obtain ⟨k, _, h2, _⟩ := h.2; exact h2⟩))
  have HBW := Lib.hid hBW
  clear hW hBW hq HW1 HW2 HE1 HC0
  by_cases h1 : k1 = 0
  · by_cases h2 : k2 = 0
    · subst h1
      subst h2
      refine qRegion (by kernel_rfl) (by kernel_rfl) ?_
      repeat (first
        | (go_big_quiet_want; refine qVal (fun V hV => (by (obtain ⟨q0, q1, q2, q3, q4⟩ := HQ.out V hV; go_simp; try rfl))) ?_; simp only [Act.put, List.setIfInBounds_toArray, List.set_cons_zero, List.set_cons_succ]; go_big_quiet_on)
        | (go_big_quiet_want
           refine qCall (fun V hV => (by (go_simp; exact ⟨rfl, rfl⟩))) (fun V hV => (by first
             | with_reducible exact (HV1.out V hV).mono (fun e w' h => ⟨h.1, hV.trans (h.2.mono hV.size)⟩)
             | with_reducible exact (HV2.out V hV).mono (fun e w' h => ⟨h.1, hV.trans (h.2.mono hV.size)⟩)
             | with_reducible exact (HV3.out V hV).mono (fun e w' h => ⟨h.1, hV.trans (h.2.mono hV.size)⟩))) ?_
           simp only [Act.put, List.setIfInBounds_toArray, List.set_cons_zero, List.set_cons_succ]; go_big_quiet_on))
      refine wpQuiet_nil ?_
      intro w9 hb9
      have HB9 := Lib.hid (HBW.out.trans (hb9.mono HBW.out.size))
      clear hb9
      go_wp2_with (fail)
      go_ret
      exact ⟨ret_boolB (by rw [HTC.out]; simp), HB9.out⟩
    · have h2b : (k2 == 0) = false := by simpa using h2
      have h2c : (k2 != 0) = true := by simpa using h2
      subst h1
      refine qRegion (by kernel_rfl) (by kernel_rfl) ?_
      repeat (first
        | (go_big_quiet_want; refine qVal (fun V hV => (by (obtain ⟨q0, q1, q2, q3, q4⟩ := HQ.out V hV; go_simp; try rfl))) ?_; simp only [Act.put, List.setIfInBounds_toArray, List.set_cons_zero, List.set_cons_succ]; go_big_quiet_on)
        | (go_big_quiet_want
           refine qCall (fun V hV => (by (go_simp; exact ⟨rfl, rfl⟩))) (fun V hV => (by first
             | with_reducible exact (HV1.out V hV).mono (fun e w' h => ⟨h.1, hV.trans (h.2.mono hV.size)⟩)
             | with_reducible exact (HV2.out V hV).mono (fun e w' h => ⟨h.1, hV.trans (h.2.mono hV.size)⟩))) ?_
           simp only [Act.put, List.setIfInBounds_toArray, List.set_cons_zero, List.set_cons_succ]; go_big_quiet_on)
        | go_big_quiet_skip)
      refine wpQuiet_nil ?_
      intro w9 hb9
      have HB9 := Lib.hid (HBW.out.trans (hb9.mono HBW.out.size))
      clear hb9
      go_wp2_with (fail)
      go_ret
      exact ⟨ret_boolB (by rw [HTC.out, decide_eq_true h2]; simp), HB9.out⟩
  · have h1b : (k1 == 0) = false := by simpa using h1
    have h1c : (k1 != 0) = true := by simpa using h1
    refine qRegion (by kernel_rfl) (by kernel_rfl) ?_
    repeat (first
      | (go_big_quiet_want; refine qVal (fun V hV => (by (obtain ⟨q0, q1, q2, q3, q4⟩ := HQ.out V hV; go_simp; try rfl))) ?_; simp only [Act.put, List.setIfInBounds_toArray, List.set_cons_zero, List.set_cons_succ]; go_big_quiet_on)
      | (go_big_quiet_want
         refine qCall (fun V hV => (by (go_simp; exact ⟨rfl, rfl⟩))) (fun V hV => (by first
           | with_reducible exact (HV1.out V hV).mono (fun e w' h => ⟨h.1, hV.trans (h.2.mono hV.size)⟩))) ?_
         simp only [Act.put, List.setIfInBounds_toArray, List.set_cons_zero, List.set_cons_succ]; go_big_quiet_on)
      | go_big_quiet_skip)
    refine wpQuiet_nil ?_
    intro w9 hb9
    have HB9 := Lib.hid (HBW.out.trans (hb9.mono HBW.out.size))
    clear hb9
    go_wp2_with (fail)
    go_ret
    exact ⟨ret_boolB (by rw [HTC.out, decide_eq_true h1]; simp), HB9.out⟩
end Go.Proofs.YthplhibdapjjgaaGreatDoor
