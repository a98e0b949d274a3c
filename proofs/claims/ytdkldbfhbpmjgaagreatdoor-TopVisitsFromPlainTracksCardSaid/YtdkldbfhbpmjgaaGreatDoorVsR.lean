/- place.farOf by its contract. -/
import Derived.Test.YtdkldbfhbpmjgaaGreatDoorVsQ
import Derived.Test.YtdkldbfhbpmjgaaGreatDoorTpC
import Derived.Test.YtdkldbfhbpmjgaaGreatDoorQtt
import Derived.Laws.EntriesVeiled
namespace Go.Proofs.YtdkldbfhbpmjgaaGreatDoor
open Go.RowKit

/-- What farOf has found behind k edges. -/
def BestK (far : Int) (l : List Pt) (x : Fx) (k : Nat) (p q : Int) : Prop :=
  (k = 0 ∧ p = -1 ∧ q = 0) ∨ (1 ≤ k ∧ ∃ P Q : Nat, p = (P : Int) ∧ q = (Q : Int) ∧ 1 ≤ Q ∧ P ≤ 100000000000000 ∧ Q ≤ 1000000000 ∧ (far * far * (Q : Int) < (P : Int) ↔ ∀ j, j < k → nearB far (ptF (ed1 l j)) (ptF (ed2 l j)) x = false))
theorem best_all {far : Int} {l : List Pt} {x : Fx} {k : Nat} {A : Prop} (h : A ↔ ∀ j, j < k → nearB far (ptF (ed1 l j)) (ptF (ed2 l j)) x = false) :
    (A ∧ nearB far (ptF (ed1 l k)) (ptF (ed2 l k)) x = false) ↔ ∀ j, j < k + 1 → nearB far (ptF (ed1 l j)) (ptF (ed2 l j)) x = false := by
  rw [h]
  constructor
  · rintro ⟨h1, h2⟩ j hj
    rcases Nat.lt_or_ge j k with h3 | h3
    · exact h1 j h3
    · obtain rfl : j = k := by omega
      exact h2
  · exact fun h1 => ⟨fun j hj => h1 j (by omega), h1 k (by omega)⟩
theorem BestK.first {far : Int} {l : List Pt} {x : Fx} {P Q : Nat} (h : farIs (ptF (ed1 l 0)) (ptF (ed2 l 0)) x P Q) (h1 : 1 ≤ Q) (h2 : P ≤ 100000000000000) (h3 : Q ≤ 1000000000) : BestK far l x 1 P Q := by
  refine .inr ⟨Nat.le_refl _, P, Q, rfl, rfl, h1, h2, h3, ?_⟩
  rw [farIs_near h]
  refine ⟨fun h j hj => ?_, fun h => h 0 (by omega)⟩
  obtain rfl : j = 0 := by omega
  exact h
theorem BestK.lower {far : Int} {l : List Pt} {x : Fx} {k : Nat} {p q : Int} {P Q P' Q' : Nat} (hb : BestK far l x k p q) (hk : 1 ≤ k) (hp : p = (P : Int)) (hq : q = (Q : Int)) (h : farIs (ptF (ed1 l k)) (ptF (ed2 l k)) x P' Q') (h1 : 1 ≤ Q') (h2 : P' ≤ 100000000000000) (h3 : Q' ≤ 1000000000) (hl : P' * Q < P * Q') : BestK far l x (k + 1) P' Q' := by
  rcases hb with ⟨h0, _⟩ | ⟨_, P1, Q1, e1, e2, g1, g2, g3, g4⟩
  · omega
  · obtain rfl : P1 = P := by omega
    obtain rfl : Q1 = Q := by omega
    refine .inr ⟨by omega, P', Q', rfl, rfl, h1, h2, h3, ?_⟩
    rw [← best_all g4, ← farIs_near h]
    exact min_frac (by omega) (by omega) (by exact_mod_cast hl)
theorem BestK.keep {far : Int} {l : List Pt} {x : Fx} {k : Nat} {p q : Int} {P Q P' Q' : Nat} (hb : BestK far l x k p q) (hk : 1 ≤ k) (hp : p = (P : Int)) (hq : q = (Q : Int)) (h : farIs (ptF (ed1 l k)) (ptF (ed2 l k)) x P' Q') (h1 : 1 ≤ Q') (hl : ¬ P' * Q < P * Q') : BestK far l x (k + 1) p q := by
  rcases hb with ⟨h0, _⟩ | ⟨_, P1, Q1, e1, e2, g1, g2, g3, g4⟩
  · omega
  · obtain rfl : P1 = P := by omega
    obtain rfl : Q1 = Q := by omega
    refine .inr ⟨by omega, P1, Q1, e1, e2, g1, g2, g3, ?_⟩
    rw [← best_all g4, ← farIs_near h]
    exact min_frac2 (by omega) (by omega) (by exact_mod_cast hl)

set_option maxRecDepth 100000 in
set_option maxHeartbeats 4000000 in
theorem farOf1_any (far : Int) (l : List Pt) (x : Fx) (k gs gb : Nat) (p q : Int) (w : World) (ha : NarF (ptF (ed1 l k))) (hb : NarF (ptF (ed2 l k))) (hx : NarF x) (h0 : w.cell? ⟨gs, 0, none⟩ = some (.int .i64 x.2.1)) (h1 : w.cell? ⟨gs, 1, none⟩ = some (.int .i64 x.2.2.1))
    (hg : w.heap[gb]? = some (.cells #[.int .i64 p, .int .i64 q] 65 (0, 0))) (hst : BestK far l x k p q) :
    Calls Tryz.prog 81 #[ptV (ed1 l k), ptV (ed2 l k), .pointer (some ⟨gs, 0, none⟩), .pointer (some ⟨gb, 0, none⟩)] w fun e w' => e = .returned (.bool false) ∧ w.grownBy w' (some gb) ∧ ∃ p' q' : Int, w'.heap[gb]? = some (.cells #[.int .i64 p', .int .i64 q'] 65 (0, 0)) ∧ BestK far l x (k + 1) p' q' := by
  have HFA := Lib.hid (fun V => far_any (ptF (ed1 l k)) (ptF (ed2 l k)) x V ha hb hx)
  have hgs := World.block_lt_of_cell? w _ h0
  have hgb := (Array.getElem?_eq_some_iff.1 hg).1
  have HST := Lib.hid hst
  have HG := Lib.hid hg
  obtain ⟨a, ea⟩ : ∃ a, a = ed1 l k := ⟨_, rfl⟩
  obtain ⟨b, eb⟩ : ∃ a, a = ed2 l k := ⟨_, rfl⟩
  have HAB := Lib.hid (And.intro ea eb)
  rw [← ea, ← eb] at HFA ⊢
  clear ha hb hx ea eb hst hg
  obtain ⟨ax, ay⟩ := a
  obtain ⟨bx, by_⟩ := b
  unfold ptF at HFA
  unfold ptV
  simp only at HFA hgs ⊢
  have hBW : Below w.heap.size w ((w.alloc (.cells #[.int .i64 ax, .int .i64 ay] 54)).alloc (.cells #[.int .i64 bx, .int .i64 by_] 54)) := ((Below.refl _ _).alloc (Nat.le_refl _) _).alloc (by simp) _
  have u0 := (hBW.cell (p := ⟨gs, 0, none⟩) hgs).trans h0
  have u1 := (hBW.cell (p := ⟨gs, 1, none⟩) hgs).trans h1
  have HBW := Lib.hid hBW
  clear hBW h0 h1
  go_enter Tryz.func81, Tryz.ntmps81
  go_wp2_with (fail)
  refine (HFA.out _).mono ?_
  rintro e w1 ⟨⟨P', Q', rfl, hfi, hq1, hp2, hq2⟩, hb1⟩
  have HB1 := Lib.hid (HBW.out.trans (hb1.mono (by simp; omega)))
  have hs1 := HB1.out.size
  have HFI := Lib.hid (show farIs (ptF (ed1 l k)) (ptF (ed2 l k)) x P' Q' by rw [← HAB.out.1, ← HAB.out.2]; exact hfi)
  clear hb1 hfi u0 u1
  go_upto_region 2 with (fail)
  generalize hV : w1.alloc (.cells #[.int .i64 (P' : Int), .int .i64 (Q' : Int)] 65) = V
  have hBV : Below w1.heap.size w1 V := hV ▸ (Below.refl _ _).alloc (Nat.le_refl _) _
  have hVs : V.heap.size = w1.heap.size + 1 := by rw [← hV]; simp
  have hvb : V.heap[w1.heap.size]? = some (.cells #[.int .i64 (P' : Int), .int .i64 (Q' : Int)] 65 (0, 0)) := by rw [← hV]; exact heap_new w1 _
  have HBV := Lib.hid (HB1.out.trans (hBV.mono hs1))
  have hgV := (HBV.out.block gb hgb).trans HG.out
  have HVB := Lib.hid hvb
  have HGV := Lib.hid hgV
  have c0 := cell_of_blk (j := 0) hgV rfl
  have c1 := cell_of_blk (j := 1) hgV rfl
  have v0 := cell_of_blk (j := 0) hvb rfl
  have v1 := cell_of_blk (j := 1) hvb rfl
  have f0 : V.frozen? ⟨gb, 0, none⟩ = false := by simp [World.frozen?, hgV]
  have f1 : V.frozen? ⟨gb, 1, none⟩ = false := by simp [World.frozen?, hgV]
  have hgbV : gb < V.heap.size := by omega
  have hne1 : ¬ w1.heap.size = gb := by omega
  have hne2 : ¬ gb = w1.heap.size := by omega
  have HSET := Lib.hid (fun (U : World) (hU : Below w.heap.size w U) => show ((U.setCell ⟨gb, 0, none⟩ (.int .i64 (P' : Int))).setCell ⟨gb, 1, none⟩ (.int .i64 (Q' : Int))).heap[gb]? = some (.cells #[.int .i64 (P' : Int), .int .i64 (Q' : Int)] 65 (0, 0)) ∧ w.grownBy ((U.setCell ⟨gb, 0, none⟩ (.int .i64 (P' : Int))).setCell ⟨gb, 1, none⟩ (.int .i64 (Q' : Int))) (some gb) from by
    have hgU := (hU.block gb hgb).trans HG.out
    have h1 := heap_setCell_same _ _ 1 _ _ (.int .i64 (Q' : Int)) (heap_setCell_same _ _ 0 _ _ (.int .i64 (P' : Int)) hgU)
    exact ⟨by simpa using h1, grown_set (grown_set (bel_grown hU (some gb)) (q := ⟨gb, 0, none⟩) (.inl rfl) _) (q := ⟨gb, 1, none⟩) (.inl rfl) _⟩)
  clear hV hBV hvb hgV
  rcases Nat.eq_zero_or_pos k with hk | hk
  · have hp : p = -1 := by
      rcases HST.out with ⟨_, h, _⟩ | ⟨h, _⟩
      · exact h
      · omega
    subst hp
    have HBK := Lib.hid (show BestK far l x (k + 1) (P' : Int) (Q' : Int) by
      have h := HFI.out
      rw [hk] at h ⊢
      exact BestK.first h hq1 hp2 hq2)
    clear hk
    go_wp2_with (fail)
    go_ret
    have h := HSET.out V HBV.out
    exact ⟨rfl, h.2, P', Q', h.1, HBK.out⟩
  · obtain ⟨P, Q, ep, eq, b1, b2, b3⟩ : ∃ P Q : Nat, p = (P : Int) ∧ q = (Q : Int) ∧ 1 ≤ Q ∧ P ≤ 100000000000000 ∧ Q ≤ 1000000000 := by
      rcases HST.out with ⟨h, _⟩ | ⟨_, P, Q, h1, h2, h3, h4, h5, _⟩
      · omega
      · exact ⟨P, Q, h1, h2, h3, h4, h5⟩
    have HBL := Lib.hid (fun (h : P' * Q < P * Q') => HST.out.lower hk ep eq HFI.out hq1 hp2 hq2 h)
    have HBK := Lib.hid (fun (h : ¬ P' * Q < P * Q') => HST.out.keep hk ep eq HFI.out hq1 h)
    have HLE := Lib.hid (fun U => less_any P' Q' P Q U (by omega) (by omega) (by omega) (by omega))
    obtain ⟨t, et⟩ : ∃ t, t = decide (P' * Q < P * Q') := ⟨_, rfl⟩
    rw [← et] at HLE
    have HET := Lib.hid et
    subst ep eq
    have hp0 : ¬ (P : Int) < 0 := by omega
    clear et hk
    go_wp2_with (fail)
    refine (HLE.out V).mono ?_
    rintro e w2 ⟨rfl, hb2⟩
    have HB2 := Lib.hid (HBV.out.trans (hb2.mono HBV.out.size))
    have hg2 := (HB2.out.block gb hgb).trans HG.out
    have hv2 := (hb2.block w1.heap.size (by omega)).trans HVB.out
    have HG2 := Lib.hid hg2
    clear c0 c1 v0 v1 f0 f1
    have c0 := cell_of_blk (j := 0) hg2 rfl
    have c1 := cell_of_blk (j := 1) hg2 rfl
    have v0 := cell_of_blk (j := 0) hv2 rfl
    have v1 := cell_of_blk (j := 1) hv2 rfl
    have f0 : w2.frozen? ⟨gb, 0, none⟩ = false := by simp [World.frozen?, hg2]
    have f1 : w2.frozen? ⟨gb, 1, none⟩ = false := by simp [World.frozen?, hg2]
    have hgb2 : gb < w2.heap.size := by have := HB2.out.size; omega
    clear hb2 hg2 hv2
    cases t with
    | true =>
      go_wp2_with (fail)
      go_ret
      have h := HSET.out w2 HB2.out
      exact ⟨rfl, h.2, P', Q', h.1, HBL.out (of_decide_eq_true HET.out.symm)⟩
    | false =>
      go_wp2_with (fail)
      go_ret
      exact ⟨rfl, bel_grown HB2.out _, P, Q, HG2.out, HBK.out (of_decide_eq_false HET.out.symm)⟩

set_option maxRecDepth 100000 in
set_option maxHeartbeats 4000000 in
theorem farOf_any (far : Int) (l : List Pt) (x : Fx) (n c b o : Nat) (w : World) (hn : l.length = n) (hn0 : 0 < n) (hn2 : n ≤ 1000) (hl : ∀ y ∈ l, NarF (ptF y)) (hx : NarF x) (hc : Cells w b o (recs ptC l)) (hb : b < w.heap.size) :
    Calls Tryz.prog 57 #[.slice (some ⟨b, o, none⟩) n c, .agg #[.int .i64 x.2.1, .int .i64 x.2.2.1]] w fun e w' => (∃ P Q : Nat, e = .returned (.agg #[.int .i64 (P : Int), .int .i64 (Q : Int)]) ∧ (1 ≤ Q ∧ P ≤ 100000000000000 ∧ Q ≤ 1000000000) ∧ (far * far * (Q : Int) < (P : Int) ↔ anyN (fun k => nearB far (ptF (ed1 l k)) (ptF (ed2 l k)) x) n = false)) ∧ Below w.heap.size w w' := by
  have hr1 : ∀ (args : Array Value) (V : World), (callFunc 81 args).run Tryz.prog V = .ok (.enter 81 args) V := fun args V => call_enter Tryz.func81 (by kernel_rfl) (by kernel_rfl) args V
  obtain ⟨X, eX⟩ : ∃ X, X = x.2.1 := ⟨_, rfl⟩
  obtain ⟨Y, eY⟩ : ∃ Y, Y = x.2.2.1 := ⟨_, rfl⟩
  have HE1 := Lib.hid (fun (W : World) (gs gb : Nat) (hW : Below w.heap.size w W) (hgb : w.heap.size ≤ gb) (hne : gs ≠ gb) (s0 : W.heap[gs]? = some (.cells #[.int .i64 X, .int .i64 Y] 54 (0, 0))) (b0 : W.heap[gb]? = some (.cells #[.int .i64 (-1), .int .i64 0] 65 (0, 0))) =>
    edges_any 81 #[.pointer (some ⟨gs, 0, none⟩), .pointer (some ⟨gb, 0, none⟩)] l n c b o (gb + 1) (some gb) (fun _ => false) (fun k V => (∃ p q : Int, V.heap[gb]? = some (.cells #[.int .i64 p, .int .i64 q] 65 (0, 0)) ∧ BestK far l x k p q) ∧ W.grownBy V (some gb)) W hn hn2 hr1 (fun g hg => by injection hg with hg; omega)
      ⟨⟨-1, 0, b0, .inl ⟨rfl, rfl, rfl⟩⟩, grown_refl _ _⟩
      (fun k V V' h1 h2 => ⟨by obtain ⟨p, q, h3, h4⟩ := h1.1; exact ⟨p, q, (h2.block gb (Array.getElem?_eq_some_iff.1 h3).1).trans h3, h4⟩, grown_below h1.2 h2⟩)
      (fun k V h => by
        have hz := hW.size
        have hv := h.2.size
        have hgW := (Array.getElem?_eq_some_iff.1 b0).1
        refine ⟨hc.keep ((h.2.block b (by omega) (by intro e; injection e with e; omega)).trans (hW.block b hb)), by omega, by omega⟩)
      (fun k V hk h => by
        obtain ⟨⟨p, q, h3, h4⟩, hg⟩ := h
        have hs := (hg.block gs (Array.getElem?_eq_some_iff.1 s0).1 (by intro e; injection e with e; omega)).trans s0
        refine (farOf1_any far l x k gs gb p q V (hl _ (mem_ed1 (by omega))) (hl _ (mem_ed2 (by omega))) hx (by rw [← eX]; exact cell_of_blk (j := 0) hs rfl) (by rw [← eY]; exact cell_of_blk (j := 1) hs rfl) h3 h4).mono ?_
        rintro e w' ⟨h5, h6, h7⟩
        exact ⟨h5, h6, h7, grown_trans hg h6⟩))
  have HFIN := Lib.hid (show ∀ k p q, k ≤ n → (anyN (fun _ => false) n = false → k = n) → BestK far l x k p q → ∃ P Q : Nat, p = (P : Int) ∧ q = (Q : Int) ∧ (1 ≤ Q ∧ P ≤ 100000000000000 ∧ Q ≤ 1000000000) ∧ (far * far * (Q : Int) < (P : Int) ↔ anyN (fun k => nearB far (ptF (ed1 l k)) (ptF (ed2 l k)) x) n = false) from by
    intro k p q _ hkn hst
    have hno : anyN (fun _ => false) n = false := by
      rw [Bool.eq_false_iff]
      intro h
      obtain ⟨_, _, h⟩ := (anyN_iff _ _).1 h
      cases h
    obtain rfl := hkn hno
    rcases hst with ⟨h, _⟩ | ⟨_, P, Q, h1, h2, h3, h4, h5, h6⟩
    · omega
    · refine ⟨P, Q, h1, h2, ⟨h3, h4, h5⟩, h6.trans ?_⟩
      rw [Bool.eq_false_iff]
      constructor
      · intro h7 h8
        obtain ⟨j, hj, h9⟩ := (anyN_iff _ _).1 h8
        have := h7 j hj
        rw [this] at h9
        cases h9
      · intro h7 j hj
        rw [Bool.eq_false_iff]
        exact fun h8 => h7 ((anyN_iff _ _).2 ⟨j, hj, h8⟩))
  rw [← eX, ← eY]
  clear hr1 hl hx hc eX eY
  go_enter Tryz.func57, Tryz.ntmps57
  go_upto_region 2 with (fail)
  generalize hW : ((w.alloc (.cells #[.int .i64 X, .int .i64 Y] 54)).alloc (.cells #[.int .i64 0, .int .i64 0] 65)).alloc (.cells #[.int .i64 (-1), .int .i64 0] 65) = W
  have hWs : W.heap.size = w.heap.size + 1 + 1 + 1 := by rw [← hW]; simp
  have hBW : Below w.heap.size w W := by rw [← hW]; exact below3 _ _ _ _
  have hv0 : W.heap[w.heap.size]? = some (.cells #[.int .i64 X, .int .i64 Y] 54 (0, 0)) := by rw [← hW, Below.heap_alloc _ _ _ (by simp; omega), Below.heap_alloc _ _ _ (by simp)]; exact heap_new w _
  have hv1 : W.heap[w.heap.size + 1]? = some (.cells #[.int .i64 0, .int .i64 0] 65 (0, 0)) := by
    rw [← hW, Below.heap_alloc _ _ _ (by simp)]
    have h := heap_new (w.alloc (.cells #[.int .i64 X, .int .i64 Y] 54)) (.cells #[.int .i64 0, .int .i64 0] 65)
    rwa [World.size_alloc] at h
  have hv2 : W.heap[w.heap.size + 1 + 1]? = some (.cells #[.int .i64 (-1), .int .i64 0] 65 (0, 0)) := by
    rw [← hW]
    have h := heap_new ((w.alloc (.cells #[.int .i64 X, .int .i64 Y] 54)).alloc (.cells #[.int .i64 0, .int .i64 0] 65)) (.cells #[.int .i64 (-1), .int .i64 0] 65)
    rwa [World.size_alloc, World.size_alloc] at h
  have HC := Lib.hid (HE1.out W w.heap.size (w.heap.size + 1 + 1) hBW (by omega) (by omega) hv0 hv2)
  have HV1 := Lib.hid hv1
  have HBW := Lib.hid hBW
  clear hW hBW hv0 hv1 hv2 HE1
  go_wp2_with (fail)
  refine HC.out.mono ?_
  rintro e w1 ⟨rfl, k, hk, ⟨⟨p, q, hb1, hst⟩, hg1⟩, hkn⟩
  obtain ⟨P, Q, rfl, rfl, hpq, hiff⟩ := HFIN.out k p q hk hkn hst
  have HIFF := Lib.hid hiff
  have hr1 := (hg1.block (w.heap.size + 1) (by omega) (by intro e; injection e with e; omega)).trans HV1.out
  have c0 := cell_of_blk (j := 0) hb1 rfl
  have c1 := cell_of_blk (j := 1) hb1 rfl
  have r0 := cell_of_blk (j := 0) hr1 rfl
  have r1 := cell_of_blk (j := 1) hr1 rfl
  have f0 : w1.frozen? ⟨w.heap.size + 1, 0, none⟩ = false := by simp [World.frozen?, hr1]
  have f1 : w1.frozen? ⟨w.heap.size + 1, 1, none⟩ = false := by simp [World.frozen?, hr1]
  have hlt1 : w.heap.size + 1 < w1.heap.size := by have := hg1.size; omega
  have HR := Lib.hid (show ((w1.setCell ⟨w.heap.size + 1, 0, none⟩ (.int .i64 (P : Int))).setCell ⟨w.heap.size + 1, 1, none⟩ (.int .i64 (Q : Int))).heap[w.heap.size + 1]? = some (.cells #[.int .i64 (P : Int), .int .i64 (Q : Int)] 65 (0, 0)) by
    have h1 := heap_setCell_same _ _ 1 _ _ (.int .i64 (Q : Int)) (heap_setCell_same _ _ 0 _ _ (.int .i64 (P : Int)) hr1)
    simpa using h1)
  have HB1 := Lib.hid (show Below w.heap.size w ((w1.setCell ⟨w.heap.size + 1, 0, none⟩ (.int .i64 (P : Int))).setCell ⟨w.heap.size + 1, 1, none⟩ (.int .i64 (Q : Int))) from
    ((HBW.out.grown hg1 HBW.out.size (fun g hg => by injection hg with hg; omega)).setCell (p := ⟨w.heap.size + 1, 0, none⟩) (by show w.heap.size ≤ w.heap.size + 1; omega) _).setCell (p := ⟨w.heap.size + 1, 1, none⟩) (by show w.heap.size ≤ w.heap.size + 1; omega) _)
  clear hst hg1 hkn hb1 hr1 hiff
  go_wp2_with (fail)
  have z0 := cell_of_blk (j := 0) HR.out rfl
  have z1 := cell_of_blk (j := 1) HR.out rfl
  exact bodyPost_ret (v := .agg #[.int .i64 (P : Int), .int .i64 (Q : Int)]) (by simp [results, Tryz.results57, go_sem, z0, z1]) rfl ⟨⟨P, Q, rfl, hpq, HIFF.out⟩, HB1.out⟩
end Go.Proofs.YtdkldbfhbpmjgaaGreatDoor
