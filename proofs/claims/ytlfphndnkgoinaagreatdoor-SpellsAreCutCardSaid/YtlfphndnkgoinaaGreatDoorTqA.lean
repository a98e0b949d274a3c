/- rule.begun, fault, Begun by their contracts. -/
import Derived.Test.YtlfphndnkgoinaaGreatDoorWhA
import Derived.Test.YtlfphndnkgoinaaGreatDoorTkR
namespace Go.Proofs.YtlfphndnkgoinaaGreatDoor
open Go.RowKit

theorem window_ok (a b : Int) (w : World) (h1 : 0 ≤ a) (h2 : a ≤ b) (h3 : b ≤ 345686400000) : Calls Tryz.prog 46 #[.agg #[.int .i64 a, .int .i64 b]] w fun e w' => e = .returned (.bool true) ∧ Below w.heap.size w w' := by
  go_enter Tryz.func46, Tryz.ntmps46
  go_wp2_with (go_at_call 47; refine (out_no _ _ _ _ (by omega) (by omega)).mono ?_; rintro e w' ⟨rfl, rfl⟩)
  go_ret
  exact ⟨rfl, (Below.refl _ _).alloc (Nat.le_refl _) _⟩
/-- How many spells begin in a window. -/
def bgN (f t : Int) (L : List (Nat × Int × Int)) : Nat := (L.filter fun x => decide (f ≤ x.2.1 ∧ x.2.1 < t)).length
theorem bgN_snoc (f t : Int) (L : List (Nat × Int × Int)) (x : Nat × Int × Int) : bgN f t (L ++ [x]) = bgN f t L + (if f ≤ x.2.1 ∧ x.2.1 < t then 1 else 0) := by
  unfold bgN
  rw [List.filter_append, List.length_append]
  congr 1
  split <;> rename_i h <;> simp [h]
theorem bgN_le (f t : Int) (L : List (Nat × Int × Int)) : bgN f t L ≤ L.length := List.length_filter_le _ _
theorem whL_len (S : Nat → List (Int × Int)) (ds : List Nat) (b : Nat) (h : ∀ d ∈ ds, (S d).length ≤ b) : (whL S ds).length ≤ ds.length * b := by
  induction ds with
  | nil => simp [whL]
  | cons d ds ih =>
    have h1 := h d List.mem_cons_self
    have h2 := ih (fun e he => h e (List.mem_cons_of_mem _ he))
    unfold whL at h2 ⊢
    rw [List.flatMap_cons, List.length_append, List.length_map, List.length_cons, Nat.succ_mul]
    omega
theorem dvs_two (l : List Te) (m : Nat) : (∀ d ∈ dvs l m, d < 2) ∧ (dvs l m).length ≤ 2 := by
  refine ⟨fun d hd => ((mem_dvF _ _).1 hd).1, ?_⟩
  unfold dvs dvF
  exact Nat.le_trans (List.length_filter_le _ _) (by simp)
set_option maxRecDepth 100000 in
set_option maxHeartbeats 4000000 in
theorem begunI_any (r : Ru) (l : List Te) (S : Nat → List (Int × Int)) (f t : Int) (rb n c : Nat) (A : Option Addr) (w : World) (hm : RuM w rb r) (hR : RuR r) (hl : TesOk l) (hS : ∀ d, d < 2 → SpOf r (seenL l r.m d) (S d)) (hn : l.length = n) (hn2 : n ≤ 1000) (hr : Row w w.heap.size A (recs teC l)) :
    Calls Tryz.prog 48 #[.pointer (some ⟨rb, 0, none⟩), .slice A n c, .agg #[.int .i64 f, .int .i64 t]] w fun e w' => e = .returned (.int .i64 (bgN f t (whL S (dvs l r.m)))) ∧ Below w.heap.size w w' := by
  have HW := Lib.hid (fun (V : World) (hV : Below w.heap.size w V) => whole_any r l S rb n c A V (hm.below hV hm.lt) hR hl hS hn hn2 ((hr.below hV).mono hV.size))
  have HLN := Lib.hid (show (whL S (dvs l r.m)).length ≤ 800000000000 from by
    have := whL_len S (dvs l r.m) 400000000000 (fun d hd => spOf_len hR (seenL_ok hl r.m d) (hS d ((dvs_two l r.m).1 d hd)))
    have := (dvs_two l r.m).2
    omega)
  obtain ⟨L, eL⟩ : ∃ L, L = whL S (dvs l r.m) := ⟨_, rfl⟩
  unfold WhPost at HW
  rw [← eL] at HW HLN ⊢
  clear hm hR hl hS hn hr eL
  go_enter Tryz.func48, Tryz.ntmps48
  go_upto_region 2 with (fail)
  obtain ⟨w1, e1⟩ : ∃ V : World, V = w.alloc (.cells #[.int .i64 f, .int .i64 t] 48) := ⟨_, rfl⟩
  obtain ⟨b, eb⟩ : ∃ b, b = w.heap.size := ⟨_, rfl⟩
  have hb1 : Below w.heap.size w w1 := by rw [e1]; exact (Below.refl _ _).alloc (Nat.le_refl _) _
  have hg1 : w1.heap[b]? = some (.cells #[.int .i64 f, .int .i64 t] 48 (0, 0)) := by rw [e1, eb]; exact heap_new w _
  have hlt1 := (Array.getElem?_eq_some_iff.1 hg1).1
  rw [← eb, ← e1]
  have HB1 := Lib.hid hb1
  have HG1 := Lib.hid hg1
  have HW1 := Lib.hid (HW.out w1 hb1)
  clear eb e1 hb1 hg1
  go_wp2_with (fail)
  refine HW1.out.mono ?_
  rintro e w2 ⟨A2, n2, c2, rfl, hn2', ho2, hb2⟩
  have HB2 := Lib.hid (below_step HB1.out hb2)
  have HO2 := Lib.hid (own_row ho2)
  have HN2 := Lib.hid hn2'
  have hn2b : n2 ≤ 800000000000 := by rw [hn2']; exact HLN.out
  have HG2 := Lib.hid ((hb2.block b hlt1).trans HG1.out)
  have hlt2 : b < w2.heap.size := by have := hb2.size; omega
  clear hn2' ho2 hb2 HW1
  go_wp2_with (fail)
  go_loopw [7, 14] (fun u s wr => ∃ (i k : Nat), i ≤ n2 ∧ k ≤ i ∧ u = .int .i64 (k : Int) ∧ s = .int .i64 (i : Int) ∧ Hid (k = bgN f t (L.take i)) ∧ Hid (Below w2.heap.size w2 wr)) (fun _ s _ => n2 - (intOf s).toNat)
  case atStart => exact ⟨0, 0, by omega, by omega, rfl, rfl, Lib.hid rfl, Lib.hid (Below.refl _ _)⟩
  case round =>
    obtain ⟨i, k, hin, hki, rfl, rfl, HK, HBr⟩ := hrel
    have hbs := HBr.out.size
    by_cases hlt : i < n2
    · have hltI : (i : Int) < n2 := by omega
      obtain ⟨x, hx⟩ : ∃ x, L[i]? = some x := ⟨_, List.getElem?_eq_getElem (by have := HN2.out; omega)⟩
      obtain ⟨a, o, rfl, ha, hC⟩ := (HO2.out.below HBr.out).posR (slC_len r.k) (by omega) (by have := HN2.out; omega)
      have c0 := rec_cell (slC_len r.k) hC i x hx 0 _ rfl
      have c1 := rec_cell (slC_len r.k) hC i x hx 1 _ rfl
      have c2' := rec_cell (slC_len r.k) hC i x hx 2 _ rfl
      have c3 := rec_cell (slC_len r.k) hC i x hx 3 _ rfl
      have c4 : wr.cell? ⟨a, o + i * 4, none⟩ = some (.string (teT x.1)) := c0
      have ha' : a < wr.heap.size := by omega
      have HTK := Lib.hid (show bgN f t (L.take (i + 1)) = bgN f t (L.take i) + (if f ≤ x.2.1 ∧ x.2.1 < t then 1 else 0) from by rw [List.take_add_one, hx]; exact bgN_snoc f t _ x)
      clear hx hC c0
      go_upto_region 5 with (fail)
      obtain ⟨g, eg⟩ : ∃ g, g = wr.heap.size := ⟨_, rfl⟩
      obtain ⟨w5, e5⟩ : ∃ w5, w5 = wr.alloc (.cells #[.string (teT x.1), .string (rkT r.k), .int .i64 x.2.1, .int .i64 x.2.2] 56) := ⟨_, rfl⟩
      rw [← eg, ← e5]
      have hb5 : Below wr.heap.size wr w5 := by rw [e5]; exact (Below.refl _ _).alloc (Nat.le_refl _) _
      have hg5 : w5.heap[g]? = some (.cells #[.string (teT x.1), .string (rkT r.k), .int .i64 x.2.1, .int .i64 x.2.2] 56 (0, 0)) := by rw [e5, eg]; exact heap_new wr _
      have HB5 := Lib.hid (HBr.out.trans (hb5.mono hbs))
      have hlt5 := (Array.getElem?_eq_some_iff.1 hg5).1
      have hbs5 := HB5.out.size
      have q2 := cell_of_blk (j := 2) hg5 rfl
      have hg52 := (HB5.out.block b hlt2).trans HG2.out
      have k0 := cell_of_blk (j := 0) hg52 rfl
      have k1 := cell_of_blk (j := 1) hg52 rfl
      have hblt5 : b < w5.heap.size := by omega
      clear eg e5 hb5 hg5 hg52 c1 c2' c3 c4
      have hwk : IntKind.i64.wrap ((i : Int) + 1) = ((i + 1 : Nat) : Int) := by rw [IntKind.wrap_i64]; omega
      have hwk2 : IntKind.i64.wrap ((k : Int) + 1) = ((k + 1 : Nat) : Int) := by rw [IntKind.wrap_i64]; omega
      by_cases h1 : f ≤ x.2.1
      · by_cases h2 : x.2.1 < t
        · have HTN := Lib.hid (show k + 1 = bgN f t (L.take (i + 1)) from by rw [HTK.out, if_pos ⟨h1, h2⟩, ← HK.out])
          go_wp2_with (fail)
          go_roundw
          case rel => exact ⟨i + 1, k + 1, by omega, by omega, by simp, by simp, HTN, HB5⟩
          case measure => simp [intOf]; omega
        · have HTN := Lib.hid (show k = bgN f t (L.take (i + 1)) from by rw [HTK.out, if_neg (fun h => h2 h.2), ← HK.out]; rfl)
          go_wp2_with (fail)
          go_roundw
          case rel => exact ⟨i + 1, k, by omega, by omega, rfl, by simp, HTN, HB5⟩
          case measure => simp [intOf]; omega
      · have HTN := Lib.hid (show k = bgN f t (L.take (i + 1)) from by rw [HTK.out, if_neg (fun h => h1 h.1), ← HK.out]; rfl)
        go_wp2_with (fail)
        go_roundw
        case rel => exact ⟨i + 1, k, by omega, by omega, rfl, by simp, HTN, HB5⟩
        case measure => simp [intOf]; omega
    · have hltI : ¬ (i : Int) < n2 := by omega
      have HF := Lib.hid (show k = bgN f t L from by rw [HK.out, List.take_of_length_le (by have := HN2.out; omega)])
      have HBF := Lib.hid (below_step HB2.out HBr.out)
      go_wp2_with (fail)
      go_ret
      exact ⟨by rw [← HF.out]; rfl, HBF.out⟩
set_option maxRecDepth 100000 in
set_option maxHeartbeats 2000000 in
theorem ruleFault_no (r : Ru) (l : List Te) (f t : Int) (g n c : Nat) (A : Option Addr) (w : World) (hR : RuR r) (hg : w.heap[g]? = some (.cells (ruC r).toArray 27 (0, 0))) (hl : TesOk l) (hn : l.length = n) (hn2 : n ≤ 1000) (hr : Row w w.heap.size A (recs teC l)) (hf : 0 ≤ f ∧ f ≤ t ∧ t ≤ 345686400000) :
    Calls Tryz.prog 49 #[.slice (some ⟨g, 0, none⟩) 1 1, .slice A n c, .agg #[.int .i64 f, .int .i64 t]] w fun e w' => e = .returned (.int .i64 0) ∧ Below w.heap.size w w' := by
  have HL := Lib.hid (fun (V : World) (hV : Below w.heap.size w V) => checkSamples_any l n c A V hl hn hn2 ((hr.below hV).mono hV.size))
  have hgl := (Array.getElem?_eq_some_iff.1 hg).1
  have HC := Lib.hid (fun (V : World) (hV : Below w.heap.size w V) => checkRule_any r g V hR ((hV.block g hgl).trans hg))
  clear hR hl hn hr hg
  go_enter Tryz.func49, Tryz.ntmps49
  go_upto_region 1 with (fail)
  obtain ⟨w1, e1⟩ : ∃ V : World, V = w.alloc (.cells #[.int .i64 f, .int .i64 t] 48) := ⟨_, rfl⟩
  obtain ⟨b, eb⟩ : ∃ b, b = w.heap.size := ⟨_, rfl⟩
  have hb1 : Below w.heap.size w w1 := by rw [e1]; exact (Below.refl _ _).alloc (Nat.le_refl _) _
  have hg1 : w1.heap[b]? = some (.cells #[.int .i64 f, .int .i64 t] 48 (0, 0)) := by rw [e1, eb]; exact heap_new w _
  have hlt1 := (Array.getElem?_eq_some_iff.1 hg1).1
  rw [← eb, ← e1]
  have HB1 := Lib.hid hb1
  have HG1 := Lib.hid (fun (V : World) (hV : Below w1.heap.size w1 V) => show V.cell? ⟨b, 0, none⟩ = some (.int .i64 f) ∧ V.cell? ⟨b, 1, none⟩ = some (.int .i64 t) ∧ b < V.heap.size from
    ⟨cell_of_blk (j := 0) ((hV.block b hlt1).trans hg1) rfl, cell_of_blk (j := 1) ((hV.block b hlt1).trans hg1) rfl, Nat.lt_of_lt_of_le hlt1 hV.size⟩)
  have HC1 := Lib.hid (HC.out w1 hb1)
  clear eb e1 hb1 hg1
  go_wp2_with (fail)
  refine HC1.out.mono ?_
  rintro e w3 ⟨rfl, hb3⟩
  have HB3 := Lib.hid (And.intro hb3 (below_step HB1.out hb3))
  clear hb3 HC1
  have HC2 := Lib.hid (HL.out w3 HB3.out.2)
  go_wp2_with (fail)
  refine HC2.out.mono ?_
  rintro e w4 ⟨rfl, hb4⟩
  have HB4 := Lib.hid (And.intro (below_step HB3.out.1 hb4) (below_step HB3.out.2 hb4))
  clear hb4 HC2
  have HF := Lib.hid (first_ok 2 2 w4.heap.size (w4.alloc (.cells #[.int .i64 0, .int .i64 0] 33)) (by omega) (Cells.new w4 #[.int .i64 0, .int .i64 0] 33 (0, 0) _ rfl))
  obtain ⟨w5, e5⟩ : ∃ V : World, V = w4.alloc (.cells #[.int .i64 0, .int .i64 0] 33) := ⟨_, rfl⟩
  have hb5 : Below w4.heap.size w4 w5 := by rw [e5]; exact (Below.refl _ _).alloc (Nat.le_refl _) _
  have HB5 := Lib.hid (And.intro (below_step HB4.out.1 hb5) (below_step HB4.out.2 hb5))
  go_wp2_with (fail)
  refine HF.out.mono ?_
  rintro e w' ⟨rfl, hw⟩
  rw [← e5] at hw
  subst hw
  obtain ⟨k0, k1, kl⟩ := HG1.out w5 HB5.out.1
  clear e5 hb5 HF
  go_wp2_with (fail)
  refine (window_ok f t w5 hf.1 hf.2.1 hf.2.2).mono ?_
  rintro e w6 ⟨rfl, hb6⟩
  have HB6 := Lib.hid (below_step HB5.out.2 hb6)
  clear hb6
  go_wp2_with (fail)
  go_ret
  exact ⟨rfl, HB6.out⟩
set_option maxRecDepth 100000 in
set_option maxHeartbeats 2000000 in
theorem begun_any (r : Ru) (l : List Te) (S : Nat → List (Int × Int)) (f t : Int) (n c : Nat) (A : Option Addr) (w : World) (hR : RuR r) (hl : TesOk l) (hS : ∀ d, d < 2 → SpOf r (seenL l r.m d) (S d)) (hn : l.length = n) (hn2 : n ≤ 1000) (hr : Row w w.heap.size A (recs teC l)) (hf : 0 ≤ f ∧ f ≤ t ∧ t ≤ 345686400000) :
    Calls Tryz.prog 20 #[ruV r, .slice A n c, .agg #[.int .i64 f, .int .i64 t]] w fun e w' => e = .returned (.tuple #[.int .i64 (bgN f t (whL S (dvs l r.m))), .int .i64 0]) ∧ Below w.heap.size w w' := by
  have HFA := Lib.hid (fun (V : World) (hV : Below w.heap.size w V) g hg => ruleFault_no r l f t g n c A V hR hg hl hn hn2 ((hr.below hV).mono hV.size) hf)
  have HBG := Lib.hid (fun (V : World) (hV : Below w.heap.size w V) rb hm => begunI_any r l S f t rb n c A V hm hR hl hS hn hn2 ((hr.below hV).mono hV.size))
  obtain ⟨N, eN⟩ : ∃ N, N = bgN f t (whL S (dvs l r.m)) := ⟨_, rfl⟩
  rw [← eN] at HBG ⊢
  clear hR hl hS hn hr eN
  have er : ruV r = .agg #[.string (rkT r.k), .string (meT r.m), .int .i64 r.agg, .int .i64 r.long, .bool r.above, .int .i64 r.on, .int .i64 r.off, .int .i64 r.hold, .int .i64 r.rest, .int .i64 r.empty] := rfl
  rw [er]
  clear er
  go_enter Tryz.func20, Tryz.ntmps20
  go_upto_region 1 with (fail)
  obtain ⟨w1, e1⟩ : ∃ V : World, V = (w.alloc (.cells #[.string (rkT r.k), .string (meT r.m), .int .i64 r.agg, .int .i64 r.long, .bool r.above, .int .i64 r.on, .int .i64 r.off, .int .i64 r.hold, .int .i64 r.rest, .int .i64 r.empty] 27)).alloc (.cells #[.int .i64 f, .int .i64 t] 48) := ⟨_, rfl⟩
  obtain ⟨b, eb⟩ : ∃ b, b = w.heap.size := ⟨_, rfl⟩
  obtain ⟨q, eq⟩ : ∃ q, q = w.heap.size + 1 := ⟨_, rfl⟩
  have hb1 : Below w.heap.size w w1 := by rw [e1]; exact ((Below.refl _ _).alloc (Nat.le_refl _) _).alloc (by simp) _
  have hg1 : w1.heap[b]? = some (.cells (ruC r).toArray 27 (0, 0)) := by rw [e1, eb, Below.heap_alloc _ _ _ (by simp)]; exact heap_new w _
  have hq1 : w1.heap[q]? = some (.cells #[.int .i64 f, .int .i64 t] 48 (0, 0)) := by
    rw [e1, eq]
    have := heap_new (w.alloc (.cells (ruC r).toArray 27)) (.cells #[.int .i64 f, .int .i64 t] 48)
    rw [World.size_alloc] at this
    exact this
  have hlt1 := (Array.getElem?_eq_some_iff.1 hg1).1
  have hlq1 := (Array.getElem?_eq_some_iff.1 hq1).1
  rw [← eq, ← eb, ← e1]
  have HB1 := Lib.hid hb1
  have HQ := Lib.hid (fun (V : World) (hV : Below w1.heap.size w1 V) => show V.cell? ⟨q, 0, none⟩ = some (.int .i64 f) ∧ V.cell? ⟨q, 1, none⟩ = some (.int .i64 t) ∧ q < V.heap.size ∧ RuM V b r from
    ⟨cell_of_blk (j := 0) ((hV.block q hlq1).trans hq1) rfl, cell_of_blk (j := 1) ((hV.block q hlq1).trans hq1) rfl, Nat.lt_of_lt_of_le hlq1 hV.size, fun j u hu => by rw [Nat.zero_add]; exact cell_of_blk (j := j) ((hV.block b hlt1).trans hg1) (by simpa using hu)⟩)
  clear eb eq e1 hb1 hg1 hq1
  obtain ⟨k0, k1, kl, hm1⟩ := HQ.out w1 (Below.refl _ _)
  have p0 : w1.cell? ⟨b, 0, none⟩ = some (.string (rkT r.k)) := hm1.cell 0 _ rfl
  have p1 : w1.cell? ⟨b, 1, none⟩ = some (.string (meT r.m)) := hm1.cell 1 _ rfl
  have p2 : w1.cell? ⟨b, 2, none⟩ = some (.int .i64 r.agg) := hm1.cell 2 _ rfl
  have p3 : w1.cell? ⟨b, 3, none⟩ = some (.int .i64 r.long) := hm1.cell 3 _ rfl
  have p4 : w1.cell? ⟨b, 4, none⟩ = some (.bool r.above) := hm1.cell 4 _ rfl
  have p5 : w1.cell? ⟨b, 5, none⟩ = some (.int .i64 r.on) := hm1.cell 5 _ rfl
  have p6 : w1.cell? ⟨b, 6, none⟩ = some (.int .i64 r.off) := hm1.cell 6 _ rfl
  have p7 : w1.cell? ⟨b, 7, none⟩ = some (.int .i64 r.hold) := hm1.cell 7 _ rfl
  have p8 : w1.cell? ⟨b, 8, none⟩ = some (.int .i64 r.rest) := hm1.cell 8 _ rfl
  have p9 : w1.cell? ⟨b, 9, none⟩ = some (.int .i64 r.empty) := hm1.cell 9 _ rfl
  clear hm1
  obtain ⟨w2, e2⟩ : ∃ V : World, V = w1.alloc (.cells #[.string (rkT r.k), .string (meT r.m), .int .i64 r.agg, .int .i64 r.long, .bool r.above, .int .i64 r.on, .int .i64 r.off, .int .i64 r.hold, .int .i64 r.rest, .int .i64 r.empty] 27) := ⟨_, rfl⟩
  have hb2 : Below w1.heap.size w1 w2 := by rw [e2]; exact (Below.refl _ _).alloc (Nat.le_refl _) _
  have HB2 := Lib.hid (And.intro hb2 (below_step HB1.out hb2))
  have HF := Lib.hid (HFA.out w2 HB2.out.2 w1.heap.size (by rw [e2]; exact heap_new w1 _))
  rw [e2] at HF
  have HE2 := Lib.hid e2
  clear e2 hb2
  go_wp2_with (fail)
  refine HF.out.mono ?_
  rintro e w3 ⟨rfl, hb3⟩
  rw [← HE2.out] at hb3
  have HB3 := Lib.hid (And.intro (below_step HB2.out.1 hb3) (below_step HB2.out.2 hb3))
  clear hb3 HF k0 k1 kl p0 p1 p2 p3 p4 p5 p6 p7 p8 p9
  obtain ⟨k0, k1, kl, hm3⟩ := HQ.out w3 HB3.out.1
  have HG := Lib.hid (HBG.out w3 HB3.out.2 b hm3)
  clear hm3
  go_wp2_with (fail)
  refine HG.out.mono ?_
  rintro e w4 ⟨rfl, hb4⟩
  have HB4 := Lib.hid (below_step HB3.out.2 hb4)
  clear hb4 HG
  go_wp2_with (fail)
  refine bodyPost_ret (v := .tuple #[.int .i64 N, .int .i64 0]) (by simp [results, Tryz.results20, go_sem]) rfl ⟨rfl, HB4.out⟩
end Go.Proofs.YtlfphndnkgoinaaGreatDoor
