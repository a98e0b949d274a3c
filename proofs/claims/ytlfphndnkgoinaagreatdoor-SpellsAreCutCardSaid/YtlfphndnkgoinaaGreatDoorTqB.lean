/- rule.Tune by its contract. -/
import Derived.Test.YtlfphndnkgoinaaGreatDoorTqA
import Derived.Test.YtlfphndnkgoinaaGreatDoorTeG
namespace Go.Proofs.YtlfphndnkgoinaaGreatDoor
open Go.RowKit

/-- A rule moved k times. -/
def stR (r : Ru) : Int := if r.above = true then 1 else -1
def shR (r : Ru) (k : Nat) : Ru := { r with on := r.on + stR r * k, off := r.off + stR r * k }
theorem shR_zero (r : Ru) : shR r 0 = r := by
  unfold shR
  have h1 : r.on + stR r * ((0 : Nat) : Int) = r.on := by simp
  have h2 : r.off + stR r * ((0 : Nat) : Int) = r.off := by simp
  rw [h1, h2]
theorem shR_succ (r : Ru) (k : Nat) : shR r (k + 1) = { shR r k with on := (shR r k).on + stR r, off := (shR r k).off + stR r } := by
  unfold shR
  have h1 : r.on + stR r * ((k + 1 : Nat) : Int) = r.on + stR r * (k : Int) + stR r := by rw [Int.natCast_add, Int.mul_add]; simp; omega
  have h2 : r.off + stR r * ((k + 1 : Nat) : Int) = r.off + stR r * (k : Int) + stR r := by rw [Int.natCast_add, Int.mul_add]; simp; omega
  rw [h1, h2]
theorem shR_ok {r : Ru} (h : RuR r) (hn : RuNear r) (k : Nat) (hk : k ≤ 1001) : RuR (shR r k) := by
  obtain ⟨n1, n2, n3, n4⟩ := hn
  have hs : stR r * (k : Int) ≤ 1001 ∧ -1001 ≤ stR r * (k : Int) := by unfold stR; split <;> omega
  obtain ⟨hk1, hm, hagg, hlong, hon, hoff, hup, hdn, hhold, hrest, hempty⟩ := h
  refine ⟨hk1, hm, hagg, hlong, ⟨?_, ?_⟩, ⟨?_, ?_⟩, fun h => ?_, fun h => ?_, hhold, hrest, hempty⟩
  · show _ ≤ r.on + stR r * (k : Int); omega
  · show r.on + stR r * (k : Int) ≤ _; omega
  · show _ ≤ r.off + stR r * (k : Int); omega
  · show r.off + stR r * (k : Int) ≤ _; omega
  · have := hup h; show r.off + stR r * (k : Int) ≤ r.on + stR r * (k : Int); omega
  · have := hdn h; show r.on + stR r * (k : Int) ≤ r.off + stR r * (k : Int); omega
/-- How often a rule begins in a window. -/
def BgOf (r : Ru) (l : List Te) (f t : Int) (N : Nat) : Prop := ∃ S : Nat → List (Int × Int), (∀ d, d < 2 → SpOf r (seenL l r.m d) (S d)) ∧ N = bgN f t (whL S (dvs l r.m))
theorem spans_total {r : Ru} (hr : RuT r) (l : List Te) : ∃ S : Nat → List (Int × Int), ∀ d, d < 2 → SpOf r (seenL l r.m d) (S d) := by
  obtain ⟨a, ha⟩ := spOf_total r hr (seenL l r.m 0)
  obtain ⟨b, hb⟩ := spOf_total r hr (seenL l r.m 1)
  refine ⟨fun d => if d = 0 then a else b, fun d hd => ?_⟩
  have h1 : d = 0 ∨ d = 1 := by omega
  rcases h1 with rfl | rfl
  · exact ha
  · exact hb
theorem whL_same {S T : Nat → List (Int × Int)} (h : ∀ d, d < 2 → S d = T d) (ds : List Nat) (hd : ∀ d ∈ ds, d < 2) : whL S ds = whL T ds := by
  unfold whL
  induction ds with
  | nil => rfl
  | cons d ds ih =>
    rw [List.flatMap_cons, List.flatMap_cons, ih (fun e he => hd e (List.mem_cons_of_mem _ he)), h d (hd d List.mem_cons_self)]
theorem bgOf_det {r : Ru} {l : List Te} {f t : Int} {N M : Nat} (h : BgOf r l f t N) (k : BgOf r l f t M) : N = M := by
  obtain ⟨S, h1, rfl⟩ := h
  obtain ⟨T, k1, rfl⟩ := k
  rw [whL_same (fun d hd => spOf_det (h1 d hd) (k1 d hd)) _ (dvs_two l r.m).1]
def TuPost (r : Ru) (l : List Te) (f t : Int) (most : Nat) (e : Ending) : Prop :=
  ∃ N0, BgOf r l f t N0 ∧ ((e = .returned (.tuple #[.int .i64 0, .int .i64 8]) ∧ most < N0) ∨
    ∃ k N, k ≤ 1000 ∧ e = .returned (.tuple #[.int .i64 (shR r k).on, .int .i64 0]) ∧ BgOf (shR r k) l f t N ∧ N ≤ most ∧ (most < N0 ∨ k = 0))
set_option maxRecDepth 100000 in
set_option maxHeartbeats 4000000 in
theorem tune_any (r : Ru) (l : List Te) (f t : Int) (most n c : Nat) (A : Option Addr) (w : World) (hR : RuR r) (hN : RuNear r) (hl : TesOk l) (hn : l.length = n) (hn2 : n ≤ 300) (hr : Row w w.heap.size A (recs teC l)) (hf : 0 ≤ f ∧ f ≤ t ∧ t ≤ 345686400000) (hmo : most ≤ 5000) :
    Calls Tryz.prog 19 #[ruV r, .slice A n c, .agg #[.int .i64 f, .int .i64 t], .int .i64 most] w fun e w' => TuPost r l f t most e ∧ Below w.heap.size w w' := by
  have HRK := Lib.hid (fun k (hk : k ≤ 1001) => shR_ok hR hN k hk)
  have HL := Lib.hid (fun (V : World) (hV : Below w.heap.size w V) => checkSamples_any l n c A V hl hn (by omega) ((hr.below hV).mono hV.size))
  have HBG := Lib.hid (fun k (hk : k ≤ 1001) S (hS : ∀ d, d < 2 → SpOf (shR r k) (seenL l (shR r k).m d) (S d)) (V : World) (hV : Below w.heap.size w V) rb hm => begunI_any (shR r k) l S f t rb n c A V hm (shR_ok hR hN k hk) hl hS hn (by omega) ((hr.below hV).mono hV.size))
  have HBT := Lib.hid (fun k (hk : k ≤ 1001) => spans_total (shR_ok hR hN k hk).t l)
  have HB0 := Lib.hid (show ∃ N0, BgOf r l f t N0 from by
    obtain ⟨S, hS⟩ := spans_total hR.t l
    exact ⟨_, S, hS, rfl⟩)
  have HNR := Lib.hid hN
  obtain ⟨N0, hB0⟩ := HB0.out
  have HB0' := Lib.hid hB0
  clear hl hn hr hR hB0 HB0
  clear hN
  have er : ruV r = .agg #[.string (rkT r.k), .string (meT r.m), .int .i64 r.agg, .int .i64 r.long, .bool r.above, .int .i64 r.on, .int .i64 r.off, .int .i64 r.hold, .int .i64 r.rest, .int .i64 r.empty] := rfl
  rw [er]
  clear er
  go_enter Tryz.func19, Tryz.ntmps19
  go_upto_region 1 with (fail)
  obtain ⟨w1, e1⟩ : ∃ V : World, V = (w.alloc (.cells #[.string (rkT r.k), .string (meT r.m), .int .i64 r.agg, .int .i64 r.long, .bool r.above, .int .i64 r.on, .int .i64 r.off, .int .i64 r.hold, .int .i64 r.rest, .int .i64 r.empty] 27)).alloc (.cells #[.int .i64 f, .int .i64 t] 48) := ⟨_, rfl⟩
  obtain ⟨b, eb⟩ : ∃ b, b = w.heap.size := ⟨_, rfl⟩
  obtain ⟨q, eq⟩ : ∃ q, q = w.heap.size + 1 := ⟨_, rfl⟩
  have hb1 : Below w.heap.size w w1 := by rw [e1]; exact ((Below.refl _ _).alloc (Nat.le_refl _) _).alloc (by simp) _
  have hg1 : w1.heap[b]? = some (.cells (ruC r).toArray 27 (0, 0)) := by rw [e1, eb, Below.heap_alloc _ _ _ (by simp)]; exact heap_new w _
  have hq1 : w1.heap[q]? = some (.cells #[.int .i64 f, .int .i64 t] 48 (0, 0)) := by
    rw [e1, eq]
    have := heap_new (w.alloc (.cells (ruC r).toArray 27)) (.cells #[.int .i64 f, .int .i64 t] 48)
    rw [World.size_alloc] at this
    exact this
  have hlt1 := (Array.getElem?_eq_some_iff.1 hg1).1
  have hlq1 := (Array.getElem?_eq_some_iff.1 hq1).1
  rw [← eq, ← eb, ← e1]
  have hbw : w.heap.size ≤ b := by omega
  have hbq : q ≠ b := by omega
  have HB1 := Lib.hid hb1
  have HG1 := Lib.hid hg1
  -- what is read of the window, of the rule
  have HQ := Lib.hid (fun (V : World) (hV : V.heap[q]? = w1.heap[q]?) => show V.cell? ⟨q, 0, none⟩ = some (.int .i64 f) ∧ V.cell? ⟨q, 1, none⟩ = some (.int .i64 t) from
    ⟨cell_of_blk (j := 0) (hV.trans hq1) rfl, cell_of_blk (j := 1) (hV.trans hq1) rfl⟩)
  clear eb eq e1 hb1 hg1 hq1
  obtain ⟨k0, k1⟩ := HQ.out w1 rfl
  have p0 : w1.cell? ⟨b, 0, none⟩ = some (.string (rkT r.k)) := cell_of_blk (j := 0) HG1.out rfl
  have p1 : w1.cell? ⟨b, 1, none⟩ = some (.string (meT r.m)) := cell_of_blk (j := 1) HG1.out rfl
  have p2 : w1.cell? ⟨b, 2, none⟩ = some (.int .i64 r.agg) := cell_of_blk (j := 2) HG1.out rfl
  have p3 : w1.cell? ⟨b, 3, none⟩ = some (.int .i64 r.long) := cell_of_blk (j := 3) HG1.out rfl
  have p4 : w1.cell? ⟨b, 4, none⟩ = some (.bool r.above) := cell_of_blk (j := 4) HG1.out rfl
  have p5 : w1.cell? ⟨b, 5, none⟩ = some (.int .i64 r.on) := cell_of_blk (j := 5) HG1.out rfl
  have p6 : w1.cell? ⟨b, 6, none⟩ = some (.int .i64 r.off) := cell_of_blk (j := 6) HG1.out rfl
  have p7 : w1.cell? ⟨b, 7, none⟩ = some (.int .i64 r.hold) := cell_of_blk (j := 7) HG1.out rfl
  have p8 : w1.cell? ⟨b, 8, none⟩ = some (.int .i64 r.rest) := cell_of_blk (j := 8) HG1.out rfl
  have p9 : w1.cell? ⟨b, 9, none⟩ = some (.int .i64 r.empty) := cell_of_blk (j := 9) HG1.out rfl
  obtain ⟨w2, e2⟩ : ∃ V : World, V = w1.alloc (.cells #[.string (rkT r.k), .string (meT r.m), .int .i64 r.agg, .int .i64 r.long, .bool r.above, .int .i64 r.on, .int .i64 r.off, .int .i64 r.hold, .int .i64 r.rest, .int .i64 r.empty] 27) := ⟨_, rfl⟩
  have hb2 : Below w1.heap.size w1 w2 := by rw [e2]; exact (Below.refl _ _).alloc (Nat.le_refl _) _
  have HB2 := Lib.hid (And.intro hb2 (below_step HB1.out hb2))
  have HF := Lib.hid (checkRule_any r w1.heap.size w2 (by have := HRK.out 0 (by omega); rw [shR_zero] at this; exact this) (by rw [e2]; exact heap_new w1 _))
  rw [e2] at HF
  have HE2 := Lib.hid e2
  clear e2 hb2
  go_wp2_with (fail)
  refine HF.out.mono ?_
  rintro e w3 ⟨rfl, hb3⟩
  rw [← HE2.out] at hb3
  have HB3 := Lib.hid (And.intro (below_step HB2.out.1 hb3) (below_step HB2.out.2 hb3))
  clear hb3 HF k0 k1 p0 p1 p2 p3 p4 p5 p6 p7 p8 p9
  have HC2 := Lib.hid (HL.out w3 HB3.out.2)
  go_wp2_with (fail)
  refine HC2.out.mono ?_
  rintro e w4 ⟨rfl, hb4⟩
  have HB4 := Lib.hid (And.intro (below_step HB3.out.1 hb4) (below_step HB3.out.2 hb4))
  clear hb4 HC2
  have HFI := Lib.hid (first_ok 2 2 w4.heap.size (w4.alloc (.cells #[.int .i64 0, .int .i64 0] 33)) (by omega) (Cells.new w4 #[.int .i64 0, .int .i64 0] 33 (0, 0) _ rfl))
  obtain ⟨w5, e5⟩ : ∃ V : World, V = w4.alloc (.cells #[.int .i64 0, .int .i64 0] 33) := ⟨_, rfl⟩
  have hb5 : Below w4.heap.size w4 w5 := by rw [e5]; exact (Below.refl _ _).alloc (Nat.le_refl _) _
  have HB5 := Lib.hid (And.intro (below_step HB4.out.1 hb5) (below_step HB4.out.2 hb5))
  go_wp2_with (fail)
  refine HFI.out.mono ?_
  rintro e w' ⟨rfl, hw⟩
  rw [← e5] at hw
  subst hw
  clear e5 hb5 HFI
  have hnI : ¬ (300 : Int) < n := by omega
  obtain ⟨k0, k1⟩ := HQ.out w5 (HB5.out.1.block q hlq1)
  have hq5 : q < w5.heap.size := by have := HB5.out.1.size; omega
  go_wp2_with (fail)
  refine (window_ok f t w5 hf.1 hf.2.1 hf.2.2).mono ?_
  rintro e w6 ⟨rfl, hb6⟩
  have HB6 := Lib.hid (And.intro (below_step HB5.out.1 hb6) (below_step HB5.out.2 hb6))
  clear hb6 k0 k1
  go_wp2_with (fail)
  refine (out_no _ _ _ _ (by omega) (by omega)).mono ?_
  rintro e w' ⟨rfl, rfl⟩
  have HG6 := Lib.hid ((HB6.out.1.block b hlt1).trans HG1.out)
  have p4 : w6.cell? ⟨b, 4, none⟩ = some (.bool r.above) := cell_of_blk (j := 4) HG6.out rfl
  have hb6 : b < w6.heap.size := by have := HB6.out.1.size; omega
  obtain ⟨st, est⟩ : ∃ st, st = stR r := ⟨_, rfl⟩
  have hq6 : q < w6.heap.size := by have := HB6.out.1.size; omega
  have hst1 : -1 ≤ st ∧ st ≤ 1 := by rw [est]; unfold stR; split <;> omega
  have HST := Lib.hid est
  clear est
  go_upto_if 34 with (fail)
  go_cut [11] (fun s wx => s = .int .i64 st ∧ wx = w6)
  case first =>
    go_wp2_with (fail)
    · rename_i h
      have hst : Value.int .i64 (-1) = .int .i64 st := by
        have h2 : r.above = false := by simpa using h
        rw [HST.out]; unfold stR; rw [h2]; rfl
      go_meet
      exact ⟨hst, rfl⟩
    · rename_i h
      have hst : Value.int .i64 1 = .int .i64 st := by
        have h2 : r.above = true := by simpa using h
        rw [HST.out]; unfold stR; rw [h2]; rfl
      go_meet
      exact ⟨hst, rfl⟩
  case rest =>
  obtain ⟨rfl, ewc⟩ := hcut
  rw [ewc]
  clear ewc p4
  go_wp2_with (fail)
  go_loopw [35] (fun s wr => ∃ k : Nat, k ≤ 1001 ∧ s = .int .i64 (k : Int) ∧ Hid (wr.heap[b]? = some (.cells (ruC (shR r k)).toArray 27 (0, 0))) ∧ Hid (GrF w6 wr (fun x => x = b)) ∧ Hid (0 < k → most < N0)) (fun s _ => 1001 - (intOf s).toNat)
  case atStart => exact ⟨0, by omega, rfl, Lib.hid (by rw [shR_zero]; exact HG6.out), Lib.hid (GrF.refl _ _), Lib.hid (fun h => absurd h (by omega))⟩
  case round =>
    obtain ⟨k, hk, rfl, HG, HGR, HMO⟩ := hrel
    obtain ⟨w7, ew7⟩ : ∃ V : World, V = wr := ⟨_, rfl⟩
    rw [← ew7] at HG HGR ⊢
    clear ew7
    have hs7 := HGR.out.size
    by_cases hkl : k < 1001
    · have hklI : (k : Int) < 1001 := by omega
      have HW7 := Lib.hid (fun (V : World) (hV : GrF w6 V (fun x => x = b)) => show Below w.heap.size w V ∧ V.heap[q]? = w1.heap[q]? from
        ⟨((GrF.of_below HB6.out.2 (fun x => w.heap.size ≤ x) (fun x h _ => h)).trans (hV.mono (fun x _ h => by omega))).below (fun x _ h => h) (Nat.le_refl _), (hV.block q (by omega) hbq).trans (HB6.out.1.block q hlq1)⟩)
      obtain ⟨S, hS⟩ := HBT.out k (by omega)
      have HCR := Lib.hid (fun (V : World) g hg => checkRule_any (shR r k) g V (HRK.out k (by omega)) hg)
      have HBE := Lib.hid (HBG.out k (by omega) S hS)
      have HBO := Lib.hid (show BgOf (shR r k) l f t (bgN f t (whL S (dvs l (shR r k).m))) from ⟨S, hS, rfl⟩)
      have HSU := Lib.hid (shR_succ r k)
      have HZ := Lib.hid (shR_zero r)
      obtain ⟨N, eN⟩ : ∃ N, N = bgN f t (whL S (dvs l (shR r k).m)) := ⟨_, rfl⟩
      rw [← eN] at HBE HBO
      have hon := (HRK.out k (by omega)).on
      have hoff := (HRK.out k (by omega)).off
      obtain ⟨rk, erk⟩ : ∃ x, x = shR r k := ⟨_, rfl⟩
      have HEK := Lib.hid erk
      rw [← erk] at HG HCR HBE HBO HSU hon hoff
      clear eN hS erk
      have p0 : w7.cell? ⟨b, 0, none⟩ = some (.string (rkT rk.k)) := cell_of_blk (j := 0) HG.out rfl
      have p1 : w7.cell? ⟨b, 1, none⟩ = some (.string (meT rk.m)) := cell_of_blk (j := 1) HG.out rfl
      have p2 : w7.cell? ⟨b, 2, none⟩ = some (.int .i64 rk.agg) := cell_of_blk (j := 2) HG.out rfl
      have p3 : w7.cell? ⟨b, 3, none⟩ = some (.int .i64 rk.long) := cell_of_blk (j := 3) HG.out rfl
      have p4 : w7.cell? ⟨b, 4, none⟩ = some (.bool rk.above) := cell_of_blk (j := 4) HG.out rfl
      have p5 : w7.cell? ⟨b, 5, none⟩ = some (.int .i64 rk.on) := cell_of_blk (j := 5) HG.out rfl
      have p6 : w7.cell? ⟨b, 6, none⟩ = some (.int .i64 rk.off) := cell_of_blk (j := 6) HG.out rfl
      have p7 : w7.cell? ⟨b, 7, none⟩ = some (.int .i64 rk.hold) := cell_of_blk (j := 7) HG.out rfl
      have p8 : w7.cell? ⟨b, 8, none⟩ = some (.int .i64 rk.rest) := cell_of_blk (j := 8) HG.out rfl
      have p9 : w7.cell? ⟨b, 9, none⟩ = some (.int .i64 rk.empty) := cell_of_blk (j := 9) HG.out rfl
      have hb7 : b < w7.heap.size := by omega
      obtain ⟨w8, e8⟩ : ∃ V : World, V = w7.alloc (.cells #[.string (rkT rk.k), .string (meT rk.m), .int .i64 rk.agg, .int .i64 rk.long, .bool rk.above, .int .i64 rk.on, .int .i64 rk.off, .int .i64 rk.hold, .int .i64 rk.rest, .int .i64 rk.empty] 27) := ⟨_, rfl⟩
      have hb8 : Below w7.heap.size w7 w8 := by rw [e8]; exact (Below.refl _ _).alloc (Nat.le_refl _) _
      have HC8 := Lib.hid (HCR.out w8 w7.heap.size (by rw [e8]; exact heap_new w7 _))
      rw [e8] at HC8
      have HE8 := Lib.hid e8
      have HB8 := Lib.hid hb8
      clear e8 hb8
      go_wp2_with (fail)
      refine HC8.out.mono ?_
      rintro e w9 ⟨rfl, hb9⟩
      rw [← HE8.out] at hb9
      have HB9 := Lib.hid (below_step HB8.out hb9)
      have HG9 := Lib.hid ((HB9.out.block b hb7).trans HG.out)
      have HGR9 := Lib.hid (HGR.out.trans (GrF.of_below HB9.out (fun x => x = b) (fun x h1 h2 => by omega)))
      clear hb9 HC8 p0 p1 p2 p3 p4 p5 p6 p7 p8 p9
      obtain ⟨hbw9, hq9⟩ := HW7.out w9 HGR9.out
      obtain ⟨k0, k1⟩ := HQ.out w9 hq9
      have hq9l : q < w9.heap.size := by have := HGR9.out.size; omega
      have HB10 := Lib.hid (HBE.out w9 hbw9 b (fun j u hu => by rw [Nat.zero_add]; exact cell_of_blk (j := j) HG9.out (by simpa using hu)))
      clear hbw9 hq9
      go_wp2_with (fail)
      refine HB10.out.mono ?_
      rintro e w10 ⟨rfl, hb10⟩
      have hb9l : b < w9.heap.size := by have := HGR9.out.size; omega
      have HG10 := Lib.hid ((hb10.block b hb9l).trans HG9.out)
      have HGR10 := Lib.hid (HGR9.out.trans (GrF.of_below hb10 (fun x => x = b) (fun x h1 h2 => by omega)))
      have HF10 := Lib.hid ((HW7.out w10 HGR10.out).1)
      have hb10l : b < w10.heap.size := by have := HGR10.out.size; omega
      clear hb10 HB10 k0 k1
      have HNN := Lib.hid (show most < N → most < N0 from fun h => by
        by_cases h0 : k = 0
        · subst h0
          have h1 := HBO.out
          rw [HEK.out, HZ.out] at h1
          rw [bgOf_det HB0'.out h1]
          exact h
        · exact HMO.out (by omega))
      have r5 : w10.cell? ⟨b, 5, none⟩ = some (.int .i64 rk.on) := cell_of_blk (j := 5) HG10.out rfl
      have r6 : w10.cell? ⟨b, 6, none⟩ = some (.int .i64 rk.off) := cell_of_blk (j := 6) HG10.out rfl
      by_cases hle : N ≤ most
      · have hleI : (N : Int) ≤ most := by omega
        have HF := Lib.hid (show TuPost r l f t most (.returned (.tuple #[.int .i64 rk.on, .int .i64 0])) ∧ Below w.heap.size w w10 from
          ⟨⟨N0, HB0'.out, .inr ⟨k, N, by omega, by rw [HEK.out], by rw [← HEK.out]; exact HBO.out, hle, by
            by_cases h0 : k = 0
            · exact .inr h0
            · exact .inl (HMO.out (by omega))⟩⟩, HF10.out⟩)
        go_wp2_with (fail)
        refine bodyPost_ret (v := .tuple #[.int .i64 rk.on, .int .i64 0]) (by simp [results, Tryz.results19, go_sem]) rfl HF.out
      · have hleI : ¬ (N : Int) ≤ most := by omega
        have hwon : IntKind.i64.wrap (rk.on + st) = rk.on + st := by rw [IntKind.wrap_i64]; omega
        have hwof : IntKind.i64.wrap (rk.off + st) = rk.off + st := by rw [IntKind.wrap_i64]; omega
        have hwk : IntKind.i64.wrap ((k : Int) + 1) = ((k + 1 : Nat) : Int) := by rw [IntKind.wrap_i64]; omega
        have f5 : w10.frozen? ⟨b, 5, none⟩ = false := by simp [World.frozen?, HG10.out]
        have f6 : w10.frozen? ⟨b, 6, none⟩ = false := by simp [World.frozen?, HG10.out]
        have HM1 := Lib.hid (HNN.out (by omega))
        obtain ⟨w11, e11⟩ : ∃ V : World, V = w10.setCell ⟨b, 5, none⟩ (.int .i64 (rk.on + st)) := ⟨_, rfl⟩
        have hg11 : w11.heap[b]? = some (.cells (#[.string (rkT rk.k), .string (meT rk.m), .int .i64 rk.agg, .int .i64 rk.long, .bool rk.above, .int .i64 (rk.on + st), .int .i64 rk.off, .int .i64 rk.hold, .int .i64 rk.rest, .int .i64 rk.empty]) 27 (0, 0)) := by rw [e11, heap_setCell_blk _ HG10.out]; simp [ruC]
        have HGR11 := Lib.hid (show GrF w6 w11 (fun x => x = b) from by rw [e11]; exact HGR10.out.set rfl _)
        have HG11 := Lib.hid hg11
        obtain ⟨w12, e12⟩ : ∃ V : World, V = w11.setCell ⟨b, 6, none⟩ (.int .i64 (rk.off + st)) := ⟨_, rfl⟩
        have HG12 := Lib.hid (show w12.heap[b]? = some (.cells (ruC (shR r (k + 1))).toArray 27 (0, 0)) from by rw [HSU.out, e12, heap_setCell_blk _ HG11.out, ← HST.out]; simp [ruC])
        have HGR12 := Lib.hid (show GrF w6 w12 (fun x => x = b) from by rw [e12]; exact HGR11.out.set rfl _)
        clear hg11
        go_upto_region 18 with (fail)
        rw [← e11]
        have r6 : w11.cell? ⟨b, 6, none⟩ = some (.int .i64 rk.off) := cell_of_blk (j := 6) HG11.out rfl
        have f6 : w11.frozen? ⟨b, 6, none⟩ = false := by simp [World.frozen?, HG11.out]
        have hb11 : b < w11.heap.size := by have := HGR11.out.size; omega
        clear e11 r5 f5
        go_upto_region 19 with (fail)
        rw [← e12]
        clear e12 r6 f6
        go_wp2_with (fail)
        go_roundw
        case rel => exact ⟨k + 1, by omega, by simp, HG12, HGR12, Lib.hid (fun _ => HM1.out)⟩
        case measure => simp [intOf]; omega
    · have hklI : ¬ (k : Int) < 1001 := by omega
      have hk1 : k = 1001 := by omega
      have HF := Lib.hid (show TuPost r l f t most (.returned (.tuple #[.int .i64 0, .int .i64 8])) ∧ Below w.heap.size w w7 from
        ⟨⟨N0, HB0'.out, .inl ⟨rfl, HMO.out (by omega)⟩⟩, ((GrF.of_below HB6.out.2 (fun x => w.heap.size ≤ x) (fun x h _ => h)).trans (HGR.out.mono (fun x _ h => by omega))).below (fun x _ h => h) (Nat.le_refl _)⟩)
      clear hk1
      go_wp2_with (fail)
      refine bodyPost_ret (v := .tuple #[.int .i64 0, .int .i64 8]) (by simp [results, Tryz.results19, go_sem]) rfl HF.out
end Go.Proofs.YtlfphndnkgoinaaGreatDoor
