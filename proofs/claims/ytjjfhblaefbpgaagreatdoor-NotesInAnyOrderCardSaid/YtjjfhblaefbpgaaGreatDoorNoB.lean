/- command.rank, further by their contracts. Printed by gen_NoB.py. -/
import Derived.Test.YtjjfhblaefbpgaaGreatDoorMgB
namespace Go.Proofs.YtjjfhblaefbpgaaGreatDoor
open Go.RowKit

set_option maxRecDepth 100000 in
theorem idx5_1 (g : Nat) (w : World) (h : w.cell? ⟨g, 0, none⟩ = some (.int .i64 6) ∧ w.cell? ⟨g, 1, none⟩ = some (.int .i64 5) ∧ w.cell? ⟨g, 2, none⟩ = some (.int .i64 7) ∧ w.cell? ⟨g, 3, none⟩ = some (.int .i64 4) ∧ w.cell? ⟨g, 4, none⟩ = some (.int .i64 3)) : Calls Tryz.prog 122 #[.slice (some ⟨g, 0, none⟩) 5 5, .int .i64 1] w fun e w' => e = .returned (.int .i64 (-1)) ∧ w = w' := by
  obtain ⟨h0, h1, h2, h3, h4⟩ := h
  go_enter Tryz.func122, Tryz.ntmps122
  go_wp2_with (fail)
  refine wp_loop_rounds 6 ?_
  rw [rounds_succ]
  go_wp2_with (fail)
  rw [rounds_succ]
  go_wp2_with (fail)
  rw [rounds_succ]
  go_wp2_with (fail)
  rw [rounds_succ]
  go_wp2_with (fail)
  rw [rounds_succ]
  go_wp2_with (fail)
  rw [rounds_succ]
  go_wp2_with (fail)
  go_ret
  exact ⟨rfl, rfl⟩
theorem rank_1 (w : World) : Calls Tryz.prog 83 #[.int .i64 1] w fun e w' => e = .returned (.int .i64 0) ∧ Below w.heap.size w w' := by
  have HX := Lib.hid (heap_new w (.cells #[.int .i64 6, .int .i64 5, .int .i64 7, .int .i64 4, .int .i64 3] 3))
  go_enter Tryz.func83, Tryz.ntmps83
  go_wp2_with (fail)
  refine (idx5_1 w.heap.size _ ⟨cell_of_blk (j := 0) HX.out rfl, cell_of_blk (j := 1) HX.out rfl, cell_of_blk (j := 2) HX.out rfl, cell_of_blk (j := 3) HX.out rfl, cell_of_blk (j := 4) HX.out rfl⟩).mono ?_
  rintro e w' ⟨rfl, rfl⟩
  go_wp2_with (fail)
  go_ret
  exact ⟨rfl, (Below.refl _ _).alloc (Nat.le_refl _) _⟩

set_option maxRecDepth 100000 in
theorem idx5_2 (g : Nat) (w : World) (h : w.cell? ⟨g, 0, none⟩ = some (.int .i64 6) ∧ w.cell? ⟨g, 1, none⟩ = some (.int .i64 5) ∧ w.cell? ⟨g, 2, none⟩ = some (.int .i64 7) ∧ w.cell? ⟨g, 3, none⟩ = some (.int .i64 4) ∧ w.cell? ⟨g, 4, none⟩ = some (.int .i64 3)) : Calls Tryz.prog 122 #[.slice (some ⟨g, 0, none⟩) 5 5, .int .i64 2] w fun e w' => e = .returned (.int .i64 (-1)) ∧ w = w' := by
  obtain ⟨h0, h1, h2, h3, h4⟩ := h
  go_enter Tryz.func122, Tryz.ntmps122
  go_wp2_with (fail)
  refine wp_loop_rounds 6 ?_
  rw [rounds_succ]
  go_wp2_with (fail)
  rw [rounds_succ]
  go_wp2_with (fail)
  rw [rounds_succ]
  go_wp2_with (fail)
  rw [rounds_succ]
  go_wp2_with (fail)
  rw [rounds_succ]
  go_wp2_with (fail)
  rw [rounds_succ]
  go_wp2_with (fail)
  go_ret
  exact ⟨rfl, rfl⟩
theorem rank_2 (w : World) : Calls Tryz.prog 83 #[.int .i64 2] w fun e w' => e = .returned (.int .i64 0) ∧ Below w.heap.size w w' := by
  have HX := Lib.hid (heap_new w (.cells #[.int .i64 6, .int .i64 5, .int .i64 7, .int .i64 4, .int .i64 3] 3))
  go_enter Tryz.func83, Tryz.ntmps83
  go_wp2_with (fail)
  refine (idx5_2 w.heap.size _ ⟨cell_of_blk (j := 0) HX.out rfl, cell_of_blk (j := 1) HX.out rfl, cell_of_blk (j := 2) HX.out rfl, cell_of_blk (j := 3) HX.out rfl, cell_of_blk (j := 4) HX.out rfl⟩).mono ?_
  rintro e w' ⟨rfl, rfl⟩
  go_wp2_with (fail)
  go_ret
  exact ⟨rfl, (Below.refl _ _).alloc (Nat.le_refl _) _⟩

set_option maxRecDepth 100000 in
theorem idx5_3 (g : Nat) (w : World) (h : w.cell? ⟨g, 0, none⟩ = some (.int .i64 6) ∧ w.cell? ⟨g, 1, none⟩ = some (.int .i64 5) ∧ w.cell? ⟨g, 2, none⟩ = some (.int .i64 7) ∧ w.cell? ⟨g, 3, none⟩ = some (.int .i64 4) ∧ w.cell? ⟨g, 4, none⟩ = some (.int .i64 3)) : Calls Tryz.prog 122 #[.slice (some ⟨g, 0, none⟩) 5 5, .int .i64 3] w fun e w' => e = .returned (.int .i64 (4)) ∧ w = w' := by
  obtain ⟨h0, h1, h2, h3, h4⟩ := h
  go_enter Tryz.func122, Tryz.ntmps122
  go_wp2_with (fail)
  refine wp_loop_rounds 5 ?_
  rw [rounds_succ]
  go_wp2_with (fail)
  rw [rounds_succ]
  go_wp2_with (fail)
  rw [rounds_succ]
  go_wp2_with (fail)
  rw [rounds_succ]
  go_wp2_with (fail)
  rw [rounds_succ]
  go_wp2_with (fail)
  go_ret
  exact ⟨rfl, rfl⟩
theorem rank_3 (w : World) : Calls Tryz.prog 83 #[.int .i64 3] w fun e w' => e = .returned (.int .i64 5) ∧ Below w.heap.size w w' := by
  have HX := Lib.hid (heap_new w (.cells #[.int .i64 6, .int .i64 5, .int .i64 7, .int .i64 4, .int .i64 3] 3))
  go_enter Tryz.func83, Tryz.ntmps83
  go_wp2_with (fail)
  refine (idx5_3 w.heap.size _ ⟨cell_of_blk (j := 0) HX.out rfl, cell_of_blk (j := 1) HX.out rfl, cell_of_blk (j := 2) HX.out rfl, cell_of_blk (j := 3) HX.out rfl, cell_of_blk (j := 4) HX.out rfl⟩).mono ?_
  rintro e w' ⟨rfl, rfl⟩
  go_wp2_with (fail)
  go_ret
  exact ⟨rfl, (Below.refl _ _).alloc (Nat.le_refl _) _⟩

set_option maxRecDepth 100000 in
theorem idx5_4 (g : Nat) (w : World) (h : w.cell? ⟨g, 0, none⟩ = some (.int .i64 6) ∧ w.cell? ⟨g, 1, none⟩ = some (.int .i64 5) ∧ w.cell? ⟨g, 2, none⟩ = some (.int .i64 7) ∧ w.cell? ⟨g, 3, none⟩ = some (.int .i64 4) ∧ w.cell? ⟨g, 4, none⟩ = some (.int .i64 3)) : Calls Tryz.prog 122 #[.slice (some ⟨g, 0, none⟩) 5 5, .int .i64 4] w fun e w' => e = .returned (.int .i64 (3)) ∧ w = w' := by
  obtain ⟨h0, h1, h2, h3, h4⟩ := h
  go_enter Tryz.func122, Tryz.ntmps122
  go_wp2_with (fail)
  refine wp_loop_rounds 4 ?_
  rw [rounds_succ]
  go_wp2_with (fail)
  rw [rounds_succ]
  go_wp2_with (fail)
  rw [rounds_succ]
  go_wp2_with (fail)
  rw [rounds_succ]
  go_wp2_with (fail)
  go_ret
  exact ⟨rfl, rfl⟩
theorem rank_4 (w : World) : Calls Tryz.prog 83 #[.int .i64 4] w fun e w' => e = .returned (.int .i64 4) ∧ Below w.heap.size w w' := by
  have HX := Lib.hid (heap_new w (.cells #[.int .i64 6, .int .i64 5, .int .i64 7, .int .i64 4, .int .i64 3] 3))
  go_enter Tryz.func83, Tryz.ntmps83
  go_wp2_with (fail)
  refine (idx5_4 w.heap.size _ ⟨cell_of_blk (j := 0) HX.out rfl, cell_of_blk (j := 1) HX.out rfl, cell_of_blk (j := 2) HX.out rfl, cell_of_blk (j := 3) HX.out rfl, cell_of_blk (j := 4) HX.out rfl⟩).mono ?_
  rintro e w' ⟨rfl, rfl⟩
  go_wp2_with (fail)
  go_ret
  exact ⟨rfl, (Below.refl _ _).alloc (Nat.le_refl _) _⟩

set_option maxRecDepth 100000 in
theorem idx5_5 (g : Nat) (w : World) (h : w.cell? ⟨g, 0, none⟩ = some (.int .i64 6) ∧ w.cell? ⟨g, 1, none⟩ = some (.int .i64 5) ∧ w.cell? ⟨g, 2, none⟩ = some (.int .i64 7) ∧ w.cell? ⟨g, 3, none⟩ = some (.int .i64 4) ∧ w.cell? ⟨g, 4, none⟩ = some (.int .i64 3)) : Calls Tryz.prog 122 #[.slice (some ⟨g, 0, none⟩) 5 5, .int .i64 5] w fun e w' => e = .returned (.int .i64 (1)) ∧ w = w' := by
  obtain ⟨h0, h1, h2, h3, h4⟩ := h
  go_enter Tryz.func122, Tryz.ntmps122
  go_wp2_with (fail)
  refine wp_loop_rounds 2 ?_
  rw [rounds_succ]
  go_wp2_with (fail)
  rw [rounds_succ]
  go_wp2_with (fail)
  go_ret
  exact ⟨rfl, rfl⟩
theorem rank_5 (w : World) : Calls Tryz.prog 83 #[.int .i64 5] w fun e w' => e = .returned (.int .i64 2) ∧ Below w.heap.size w w' := by
  have HX := Lib.hid (heap_new w (.cells #[.int .i64 6, .int .i64 5, .int .i64 7, .int .i64 4, .int .i64 3] 3))
  go_enter Tryz.func83, Tryz.ntmps83
  go_wp2_with (fail)
  refine (idx5_5 w.heap.size _ ⟨cell_of_blk (j := 0) HX.out rfl, cell_of_blk (j := 1) HX.out rfl, cell_of_blk (j := 2) HX.out rfl, cell_of_blk (j := 3) HX.out rfl, cell_of_blk (j := 4) HX.out rfl⟩).mono ?_
  rintro e w' ⟨rfl, rfl⟩
  go_wp2_with (fail)
  go_ret
  exact ⟨rfl, (Below.refl _ _).alloc (Nat.le_refl _) _⟩

set_option maxRecDepth 100000 in
theorem idx5_6 (g : Nat) (w : World) (h : w.cell? ⟨g, 0, none⟩ = some (.int .i64 6) ∧ w.cell? ⟨g, 1, none⟩ = some (.int .i64 5) ∧ w.cell? ⟨g, 2, none⟩ = some (.int .i64 7) ∧ w.cell? ⟨g, 3, none⟩ = some (.int .i64 4) ∧ w.cell? ⟨g, 4, none⟩ = some (.int .i64 3)) : Calls Tryz.prog 122 #[.slice (some ⟨g, 0, none⟩) 5 5, .int .i64 6] w fun e w' => e = .returned (.int .i64 (0)) ∧ w = w' := by
  obtain ⟨h0, h1, h2, h3, h4⟩ := h
  go_enter Tryz.func122, Tryz.ntmps122
  go_wp2_with (fail)
  refine wp_loop_rounds 1 ?_
  rw [rounds_succ]
  go_wp2_with (fail)
  go_ret
  exact ⟨rfl, rfl⟩
theorem rank_6 (w : World) : Calls Tryz.prog 83 #[.int .i64 6] w fun e w' => e = .returned (.int .i64 1) ∧ Below w.heap.size w w' := by
  have HX := Lib.hid (heap_new w (.cells #[.int .i64 6, .int .i64 5, .int .i64 7, .int .i64 4, .int .i64 3] 3))
  go_enter Tryz.func83, Tryz.ntmps83
  go_wp2_with (fail)
  refine (idx5_6 w.heap.size _ ⟨cell_of_blk (j := 0) HX.out rfl, cell_of_blk (j := 1) HX.out rfl, cell_of_blk (j := 2) HX.out rfl, cell_of_blk (j := 3) HX.out rfl, cell_of_blk (j := 4) HX.out rfl⟩).mono ?_
  rintro e w' ⟨rfl, rfl⟩
  go_wp2_with (fail)
  go_ret
  exact ⟨rfl, (Below.refl _ _).alloc (Nat.le_refl _) _⟩

set_option maxRecDepth 100000 in
theorem idx5_7 (g : Nat) (w : World) (h : w.cell? ⟨g, 0, none⟩ = some (.int .i64 6) ∧ w.cell? ⟨g, 1, none⟩ = some (.int .i64 5) ∧ w.cell? ⟨g, 2, none⟩ = some (.int .i64 7) ∧ w.cell? ⟨g, 3, none⟩ = some (.int .i64 4) ∧ w.cell? ⟨g, 4, none⟩ = some (.int .i64 3)) : Calls Tryz.prog 122 #[.slice (some ⟨g, 0, none⟩) 5 5, .int .i64 7] w fun e w' => e = .returned (.int .i64 (2)) ∧ w = w' := by
  obtain ⟨h0, h1, h2, h3, h4⟩ := h
  go_enter Tryz.func122, Tryz.ntmps122
  go_wp2_with (fail)
  refine wp_loop_rounds 3 ?_
  rw [rounds_succ]
  go_wp2_with (fail)
  rw [rounds_succ]
  go_wp2_with (fail)
  rw [rounds_succ]
  go_wp2_with (fail)
  go_ret
  exact ⟨rfl, rfl⟩
theorem rank_7 (w : World) : Calls Tryz.prog 83 #[.int .i64 7] w fun e w' => e = .returned (.int .i64 3) ∧ Below w.heap.size w w' := by
  have HX := Lib.hid (heap_new w (.cells #[.int .i64 6, .int .i64 5, .int .i64 7, .int .i64 4, .int .i64 3] 3))
  go_enter Tryz.func83, Tryz.ntmps83
  go_wp2_with (fail)
  refine (idx5_7 w.heap.size _ ⟨cell_of_blk (j := 0) HX.out rfl, cell_of_blk (j := 1) HX.out rfl, cell_of_blk (j := 2) HX.out rfl, cell_of_blk (j := 3) HX.out rfl, cell_of_blk (j := 4) HX.out rfl⟩).mono ?_
  rintro e w' ⟨rfl, rfl⟩
  go_wp2_with (fail)
  go_ret
  exact ⟨rfl, (Below.refl _ _).alloc (Nat.le_refl _) _⟩

theorem rank_any (s : Int) (h1 : 1 ≤ s) (h2 : s ≤ 7) (w : World) : Calls Tryz.prog 83 #[.int .i64 s] w fun e w' => e = .returned (.int .i64 (rkN s)) ∧ Below w.heap.size w w' := by
  have : s = 1 ∨ s = 2 ∨ s = 3 ∨ s = 4 ∨ s = 5 ∨ s = 6 ∨ s = 7 := by omega
  rcases this with rfl | rfl | rfl | rfl | rfl | rfl | rfl
  · exact rank_1 w
  · exact rank_2 w
  · exact rank_3 w
  · exact rank_4 w
  · exact rank_5 w
  · exact rank_6 w
  · exact rank_7 w
theorem fu_or {a b : Nt} (ha : NtOk a) (hb : NtOk b) : (0 < orI [cmpI (rkN a.s) (rkN b.s), cmpI a.t b.t, cmpI b.c a.c, cmpI b.s a.s]) ↔ nk b < nk a := by
  obtain ⟨a1, a2, a3, a4, a5, a6⟩ := ha
  obtain ⟨b1, b2, b3, b4, b5, b6⟩ := hb
  obtain ⟨s, t, c⟩ := a
  obtain ⟨s', t', c'⟩ := b
  simp only [nk] at *
  generalize rkN s = p
  generalize rkN s' = q
  simp only [orI, cmpI]
  rcases Int.lt_trichotomy p q with h | h | h
  · simp [h] <;> omega
  · subst h
    rcases Int.lt_trichotomy t t' with h | h | h
    · simp [h] <;> omega
    · subst h
      rcases Int.lt_trichotomy c' c with h | h | h
      · simp [h] <;> omega
      · subst h
        rcases Int.lt_trichotomy s' s with h | h | h
        · simp [h] <;> omega
        · subst h
          simp
        · have h' : ¬ s' < s := by omega
          simp [h, h'] <;> omega
      · have h' : ¬ c' < c := by omega
        simp [h, h'] <;> omega
    · have h' : ¬ t < t' := by omega
      simp [h, h'] <;> omega
  · have h' : ¬ p < q := by omega
    simp [h, h'] <;> omega
theorem heap_new2 (w : World) (a b : Obj) : ((w.alloc a).alloc b).heap[w.heap.size + 1]? = some b := by
  have := heap_new (w.alloc a) b
  simpa using this
def FuPost (a b : Nt) (e : Ending) : Prop := ∃ z : Int, e = .returned (.int .i64 z) ∧ (0 < z ↔ nk b < nk a)
set_option maxRecDepth 100000 in
set_option maxHeartbeats 4000000 in
theorem further_any (x y : No) (hx : NtOk x.2) (hy : NtOk y.2) (w : World) :
    Calls Tryz.prog 32 #[.agg #[.string (idT x.1), .string ⟨#[]⟩, .string ⟨#[100, 111]⟩, .int .i64 0, .int .i64 0, .int .i64 100, .int .i64 x.2.s, .int .i64 x.2.t, .int .i64 x.2.c], .agg #[.string (idT y.1), .string ⟨#[]⟩, .string ⟨#[100, 111]⟩, .int .i64 0, .int .i64 0, .int .i64 100, .int .i64 y.2.s, .int .i64 y.2.t, .int .i64 y.2.c]] w fun e w' => FuPost x.2 y.2 e ∧ Below w.heap.size w w' := by
  have HFU := Lib.hid (fu_or hx hy)
  have HR1 := Lib.hid (fun V => rank_any x.2.s hx.1 hx.2.1 V)
  have HR2 := Lib.hid (fun V => rank_any y.2.s hy.1 hy.2.1 V)
  have hcm : ∀ (p q : Int) (V : World), Calls Tryz.prog 82 #[.int .i64 p, .int .i64 q] V fun e w' => e = .returned (.int .i64 (cmpI p q)) ∧ Below V.heap.size V w' := fun p q V => (compare_any p q V).mono (fun e w' h => ⟨h.1, h.2 ▸ Below.refl _ _⟩)
  have HC1 := Lib.hid (fun V => hcm (rkN x.2.s) (rkN y.2.s) V)
  have HC2 := Lib.hid (fun V => hcm x.2.t y.2.t V)
  have HC3 := Lib.hid (fun V => hcm y.2.c x.2.c V)
  have HC4 := Lib.hid (fun V => hcm y.2.s x.2.s V)
  obtain ⟨i, xs, xt, xc⟩ := x
  obtain ⟨k, ys, yt, yc⟩ := y
  simp only at HFU HR1 HR2 HC1 HC2 HC3 HC4 ⊢
  obtain ⟨r1, e1⟩ : ∃ r, r = rkN xs := ⟨_, rfl⟩
  obtain ⟨r2, e2⟩ : ∃ r, r = rkN ys := ⟨_, rfl⟩
  rw [← e1] at HR1 HC1 HFU
  rw [← e2] at HR2 HC1 HFU
  obtain ⟨x1, f1⟩ : ∃ x, x = cmpI r1 r2 := ⟨_, rfl⟩
  obtain ⟨x2, f2⟩ : ∃ x, x = cmpI xt yt := ⟨_, rfl⟩
  obtain ⟨x3, f3⟩ : ∃ x, x = cmpI yc xc := ⟨_, rfl⟩
  obtain ⟨x4, f4⟩ : ∃ x, x = cmpI ys xs := ⟨_, rfl⟩
  rw [← f1] at HC1 HFU
  rw [← f2] at HC2 HFU
  rw [← f3] at HC3 HFU
  rw [← f4] at HC4 HFU
  clear e1 e2 f1 f2 f3 f4 hcm hx hy
  go_enter Tryz.func32, Tryz.ntmps32
  go_upto_region 1 with (fail)
  generalize hW : (w.alloc (.cells #[.string (idT i), .string ⟨#[]⟩, .string ⟨#[100, 111]⟩, .int .i64 0, .int .i64 0, .int .i64 100, .int .i64 xs, .int .i64 xt, .int .i64 xc] 34)).alloc (.cells #[.string (idT k), .string ⟨#[]⟩, .string ⟨#[100, 111]⟩, .int .i64 0, .int .i64 0, .int .i64 100, .int .i64 ys, .int .i64 yt, .int .i64 yc] 34) = W
  have hBW : Below w.heap.size w W := by rw [← hW]; exact ((Below.refl _ _).alloc (Nat.le_refl _) _).alloc (by simp) _
  have ha0 : W.heap[w.heap.size]? = some (noBlk (i, ⟨xs, xt, xc⟩)) := by rw [← hW, Below.heap_alloc _ _ _ (by simp)]; exact heap_new w _
  have hb0 : W.heap[w.heap.size + 1]? = some (noBlk (k, ⟨ys, yt, yc⟩)) := by rw [← hW]; exact heap_new2 _ _ _
  have hWs : w.heap.size + 1 < W.heap.size := by rw [← hW]; simp
  have HBW := Lib.hid hBW
  have HQ := Lib.hid (fun (V : World) (hV : Below W.heap.size W V) => show V.cell? ⟨w.heap.size, 0, none⟩ = some (.string (idT i)) ∧ V.cell? ⟨w.heap.size, 1, none⟩ = some (.string ⟨#[]⟩) ∧ V.cell? ⟨w.heap.size, 2, none⟩ = some (.string ⟨#[100, 111]⟩) ∧ V.cell? ⟨w.heap.size, 3, none⟩ = some (.int .i64 0) ∧ V.cell? ⟨w.heap.size, 4, none⟩ = some (.int .i64 0) ∧ V.cell? ⟨w.heap.size, 5, none⟩ = some (.int .i64 100) ∧ V.cell? ⟨w.heap.size, 6, none⟩ = some (.int .i64 xs) ∧ V.cell? ⟨w.heap.size, 7, none⟩ = some (.int .i64 xt) ∧ V.cell? ⟨w.heap.size, 8, none⟩ = some (.int .i64 xc) ∧ V.cell? ⟨w.heap.size + 1, 0, none⟩ = some (.string (idT k)) ∧ V.cell? ⟨w.heap.size + 1, 1, none⟩ = some (.string ⟨#[]⟩) ∧ V.cell? ⟨w.heap.size + 1, 2, none⟩ = some (.string ⟨#[100, 111]⟩) ∧ V.cell? ⟨w.heap.size + 1, 3, none⟩ = some (.int .i64 0) ∧ V.cell? ⟨w.heap.size + 1, 4, none⟩ = some (.int .i64 0) ∧ V.cell? ⟨w.heap.size + 1, 5, none⟩ = some (.int .i64 100) ∧ V.cell? ⟨w.heap.size + 1, 6, none⟩ = some (.int .i64 ys) ∧ V.cell? ⟨w.heap.size + 1, 7, none⟩ = some (.int .i64 yt) ∧ V.cell? ⟨w.heap.size + 1, 8, none⟩ = some (.int .i64 yc) from by
    obtain ⟨a0, a1, a2, a3, a4, a5, a6, a7, a8⟩ := no_blk ((hV.block w.heap.size (by omega)).trans ha0)
    exact ⟨a0, a1, a2, a3, a4, a5, a6, a7, a8, no_blk ((hV.block (w.heap.size + 1) (by omega)).trans hb0)⟩)
  clear hW hBW ha0 hb0
  go_upto_region 1 with (fail)
  refine qRegionTail 22 (by kernel_rfl) (by kernel_rfl) ?_
  simp only [List.take_succ_cons, List.take_zero, List.drop_succ_cons, List.drop_zero]
  repeat (first
    | (go_big_quiet_want; refine qVal (fun V hV => (by (obtain ⟨a0, a1, a2, a3, a4, a5, a6, a7, a8, b0, b1, b2, b3, b4, b5, b6, b7, b8⟩ := HQ.out V hV; go_simp; try rfl))) ?_; simp only [Act.put, List.setIfInBounds_toArray, List.set_cons_zero, List.set_cons_succ]; go_big_quiet_on)
    | (go_big_quiet_want
       refine qCall (fun V hV => (by (obtain ⟨a0, a1, a2, a3, a4, a5, a6, a7, a8, b0, b1, b2, b3, b4, b5, b6, b7, b8⟩ := HQ.out V hV; go_simp; exact ⟨rfl, rfl⟩))) (fun V hV => (by first
         | with_reducible exact (HR1.out V).mono (fun e w' h => ⟨h.1, hV.trans (h.2.mono hV.size)⟩)
         | with_reducible exact (HR2.out V).mono (fun e w' h => ⟨h.1, hV.trans (h.2.mono hV.size)⟩)
         | with_reducible exact (HC1.out V).mono (fun e w' h => ⟨h.1, hV.trans (h.2.mono hV.size)⟩)
         | with_reducible exact (HC2.out V).mono (fun e w' h => ⟨h.1, hV.trans (h.2.mono hV.size)⟩)
         | with_reducible exact (HC3.out V).mono (fun e w' h => ⟨h.1, hV.trans (h.2.mono hV.size)⟩)
         | with_reducible exact (HC4.out V).mono (fun e w' h => ⟨h.1, hV.trans (h.2.mono hV.size)⟩))) ?_
       simp only [Act.put, List.setIfInBounds_toArray, List.set_cons_zero, List.set_cons_succ]; go_big_quiet_on)
    | go_big_quiet_skip)
  refine wpQuiet_nil ?_
  intro w1 hb1
  have HB1 := Lib.hid hb1
  clear hb1
  go_wp2_with (go_at_call 81; refine (or_any [x1, x2, x3, x4] 4 4 _ _ rfl (by omega) (Cells.new _ _ _ _ _ rfl)).mono ?_; rintro e w' ⟨rfl, rfl⟩)
  go_ret
  exact ⟨⟨_, rfl, HFU.out⟩, HBW.out.trans ((HB1.out.alloc HB1.out.size _).mono HBW.out.size)⟩
end Go.Proofs.YtjjfhblaefbpgaaGreatDoor
