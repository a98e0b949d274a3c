/- rule.CheckRules of one right rule, oneFault of what is right. -/
import Derived.Test.YtlfphndnkgoinaaGreatDoorTkS
import Derived.Test.YtlfphndnkgoinaaGreatDoorFst
import Derived.Deep.CutBlock
namespace Go.Proofs.YtlfphndnkgoinaaGreatDoor
open Go.RowKit

def ruV (r : Ru) : Value := .agg #[.string (rkT r.k), .string (meT r.m), .int .i64 r.agg, .int .i64 r.long, .bool r.above, .int .i64 r.on, .int .i64 r.off, .int .i64 r.hold, .int .i64 r.rest, .int .i64 r.empty]
theorem num_ok (n : Int) (w : World) (h : -1000000000 ≤ n ∧ n ≤ 1000000000) : Calls Tryz.prog 88 #[.int .i64 n] w fun e w' => e = .returned (.bool true) ∧ w = w' := by
  go_enter Tryz.func88, Tryz.ntmps88
  go_wp2_with (go_at_call 47; refine (out_no _ _ _ _ h.1 h.2).mono ?_; rintro e w' ⟨rfl, rfl⟩)
  go_ret
  exact ⟨rfl, rfl⟩
set_option maxRecDepth 100000 in
set_option maxHeartbeats 4000000 in
theorem checkRule_any (r : Ru) (g : Nat) (w : World) (hR : RuR r) (hg : w.heap[g]? = some (.cells (ruC r).toArray 27 (0, 0))) :
    Calls Tryz.prog 44 #[.slice (some ⟨g, 0, none⟩) 1 1] w fun e w' => e = .returned (.int .i64 0) ∧ Below w.heap.size w w' := by
  obtain ⟨k, m, agg, long, above, on, off, hold, rest, empty⟩ := r
  obtain ⟨hk, hm, hagg, hlong, hon, hoff, hup, hdn, hhold, hrest, hempty⟩ := hR
  simp only at hk hm hagg hlong hon hoff hup hdn hhold hrest hempty
  have p0 : w.cell? ⟨g, 0, none⟩ = some (.string (rkT k)) := cell_of_blk (j := 0) hg rfl
  have p1 : w.cell? ⟨g, 1, none⟩ = some (.string (meT m)) := cell_of_blk (j := 1) hg rfl
  have p2 : w.cell? ⟨g, 2, none⟩ = some (.int .i64 agg) := cell_of_blk (j := 2) hg rfl
  have p3 : w.cell? ⟨g, 3, none⟩ = some (.int .i64 long) := cell_of_blk (j := 3) hg rfl
  have p4 : w.cell? ⟨g, 4, none⟩ = some (.bool above) := cell_of_blk (j := 4) hg rfl
  have p5 : w.cell? ⟨g, 5, none⟩ = some (.int .i64 on) := cell_of_blk (j := 5) hg rfl
  have p6 : w.cell? ⟨g, 6, none⟩ = some (.int .i64 off) := cell_of_blk (j := 6) hg rfl
  have p7 : w.cell? ⟨g, 7, none⟩ = some (.int .i64 hold) := cell_of_blk (j := 7) hg rfl
  have p8 : w.cell? ⟨g, 8, none⟩ = some (.int .i64 rest) := cell_of_blk (j := 8) hg rfl
  have p9 : w.cell? ⟨g, 9, none⟩ = some (.int .i64 empty) := cell_of_blk (j := 9) hg rfl
  have hgl := (Array.getElem?_eq_some_iff.1 hg).1
  have HK1 := Lib.hid (fun V => key_rk k V)
  have HK2 := Lib.hid (fun V => key_me m V)
  have HN1 := Lib.hid (fun V => num_ok on V hon)
  have HN2 := Lib.hid (fun V => num_ok off V hoff)
  have hr2 : ∀ (args : Array Value) (V : World), (callFunc 88 args).run Tryz.prog V = .ok (.enter 88 args) V := fun args V => call_enter Tryz.func88 (by kernel_rfl) (by kernel_rfl) args V
  have HG := Lib.hid hg
  clear hg
  go_enter Tryz.func44, Tryz.ntmps44
  go_wp2_with (fail)
  refine wp_loop_rounds 2 ?_
  rw [rounds_succ]
  go_upto_block 2 with (fail)
  obtain ⟨b, eb⟩ : ∃ b, b = w.heap.size := ⟨_, rfl⟩
  obtain ⟨w5, e5⟩ : ∃ V : World, V = w.alloc (.cells #[.string (rkT k), .string (meT m), .int .i64 agg, .int .i64 long, .bool above, .int .i64 on, .int .i64 off, .int .i64 hold, .int .i64 rest, .int .i64 empty] 27) := ⟨_, rfl⟩
  have hb5 : Below w.heap.size w w5 := by rw [e5]; exact (Below.refl _ _).alloc (Nat.le_refl _) _
  have hg5 : w5.heap[b]? = some (.cells #[.string (rkT k), .string (meT m), .int .i64 agg, .int .i64 long, .bool above, .int .i64 on, .int .i64 off, .int .i64 hold, .int .i64 rest, .int .i64 empty] 27 (0, 0)) := by rw [e5, eb]; exact heap_new w _
  have hlt5 := (Array.getElem?_eq_some_iff.1 hg5).1
  rw [← eb, ← e5]
  have HB5 := Lib.hid hb5
  have HG5 := Lib.hid hg5
  have HQ := Lib.hid (fun (V : World) (hV : V.heap = w5.heap) => show V.cell? ⟨b, 0, none⟩ = some (.string (rkT k)) ∧ V.cell? ⟨b, 1, none⟩ = some (.string (meT m)) ∧ V.cell? ⟨b, 2, none⟩ = some (.int .i64 agg) ∧ V.cell? ⟨b, 3, none⟩ = some (.int .i64 long) ∧ V.cell? ⟨b, 4, none⟩ = some (.bool above) ∧ V.cell? ⟨b, 5, none⟩ = some (.int .i64 on) ∧ V.cell? ⟨b, 6, none⟩ = some (.int .i64 off) ∧ V.cell? ⟨b, 7, none⟩ = some (.int .i64 hold) ∧ V.cell? ⟨b, 8, none⟩ = some (.int .i64 rest) ∧ V.cell? ⟨b, 9, none⟩ = some (.int .i64 empty) from by
    have h := (congrArg (fun h => h[b]?) hV).trans HG5.out
    exact ⟨cell_of_blk (j := 0) h rfl, cell_of_blk (j := 1) h rfl, cell_of_blk (j := 2) h rfl, cell_of_blk (j := 3) h rfl, cell_of_blk (j := 4) h rfl, cell_of_blk (j := 5) h rfl, cell_of_blk (j := 6) h rfl, cell_of_blk (j := 7) h rfl, cell_of_blk (j := 8) h rfl, cell_of_blk (j := 9) h rfl⟩)
  clear eb e5 hb5 hg5 p0 p1 p2 p3 p4 p5 p6 p7 p8 p9
  obtain ⟨q0, q1, q2, q3, q4, q5, q6, q7, q8, q9⟩ := HQ.out w5 rfl
  go_wp2_with (fail)
  refine (HK1.out _).mono ?_
  rintro e w' ⟨rfl, rfl⟩
  have hd : decide ((0 : Int) < 0) = false := by decide
  go_upto_region 9 with (fail)
  go_quiet (fail)
  obtain ⟨w6, e6⟩ : ∃ V : World, V = w5.drewN nq := ⟨_, rfl⟩
  rw [← e6]
  have HB6 := Lib.hid (show Below w.heap.size w w6 from by rw [e6]; exact below_dq HB5.out _)
  have hh6 : w6.heap = w5.heap := by rw [e6]; rfl
  have hlt6 : b < w6.heap.size := by rw [hh6]; exact hlt5
  clear q0 q1 q2 q3 q4 q5 q6 q7 q8 q9
  obtain ⟨q0, q1, q2, q3, q4, q5, q6, q7, q8, q9⟩ := HQ.out w6 hh6
  clear e6 hh6 hlt5
  go_wp2_with (fail)
  refine (HK2.out _).mono ?_
  rintro e w' ⟨rfl, rfl⟩
  go_wp2_with (fail)
  refine (out_no _ _ _ _ hagg.1 hagg.2).mono ?_
  rintro e w' ⟨rfl, rfl⟩
  go_wp2_with (fail)
  refine (out_no _ _ _ _ hlong.1 hlong.2).mono ?_
  rintro e w' ⟨rfl, rfl⟩
  go_wp2_with (fail)
  refine (HN1.out _).mono ?_
  rintro e w' ⟨rfl, rfl⟩
  go_wp2_with (fail)
  refine (HN2.out _).mono ?_
  rintro e w' ⟨rfl, rfl⟩
  cases above with
  | true =>
    have h1 := hup rfl
    have h2 : ¬ on < off := by omega
    clear hup hdn
    go_wp2_with (fail)
    refine (out_no _ _ _ _ hhold.1 hhold.2).mono ?_
    rintro e w' ⟨rfl, rfl⟩
    go_wp2_with (fail)
    refine (out_no _ _ _ _ hrest.1 hrest.2).mono ?_
    rintro e w' ⟨rfl, rfl⟩
    go_wp2_with (fail)
    refine (out_no _ _ _ _ hempty.1 hempty.2).mono ?_
    rintro e w' ⟨rfl, rfl⟩
    go_wp2_with (fail)
    rw [rounds_succ]
    go_wp2_with (fail)
    go_ret
    exact ⟨rfl, HB6.out⟩
  | false =>
    have h1 := hdn rfl
    have h2 : ¬ off < on := by omega
    clear hup hdn
    go_wp2_with (fail)
    refine (out_no _ _ _ _ hhold.1 hhold.2).mono ?_
    rintro e w' ⟨rfl, rfl⟩
    go_wp2_with (fail)
    refine (out_no _ _ _ _ hrest.1 hrest.2).mono ?_
    rintro e w' ⟨rfl, rfl⟩
    go_wp2_with (fail)
    refine (out_no _ _ _ _ hempty.1 hempty.2).mono ?_
    rintro e w' ⟨rfl, rfl⟩
    go_wp2_with (fail)
    rw [rounds_succ]
    go_wp2_with (fail)
    go_ret
    exact ⟨rfl, HB6.out⟩
set_option maxRecDepth 100000 in
set_option maxHeartbeats 2000000 in
theorem oneFault_any (r : Ru) (l : List Te) (n c d : Nat) (at_ : Int) (A : Option Addr) (w : World) (hR : RuR r) (hl : TesOk l) (hn : l.length = n) (hn2 : n ≤ 1000) (hr : Row w w.heap.size A (recs teC l)) (hd : d < 2) (ha : 0 ≤ at_ ∧ at_ < 345686400000) :
    Calls Tryz.prog 37 #[ruV r, .slice A n c, .string (teT d), .int .i64 at_] w fun e w' => e = .returned (.int .i64 0) ∧ Below w.heap.size w w' := by
  have HL := Lib.hid (fun (V : World) (hV : Below w.heap.size w V) => checkSamples_any l n c A V hl hn hn2 ((hr.below hV).mono hV.size))
  have HRR := Lib.hid hR
  have HKD := Lib.hid (fun V => key_te d hd V)
  clear hR hl hn hr
  have er : ruV r = .agg #[.string (rkT r.k), .string (meT r.m), .int .i64 r.agg, .int .i64 r.long, .bool r.above, .int .i64 r.on, .int .i64 r.off, .int .i64 r.hold, .int .i64 r.rest, .int .i64 r.empty] := rfl
  rw [er]
  clear er
  go_enter Tryz.func37, Tryz.ntmps37
  go_upto_region 1 with (fail)
  obtain ⟨w1, e1⟩ : ∃ V : World, V = w.alloc (.cells #[.string (rkT r.k), .string (meT r.m), .int .i64 r.agg, .int .i64 r.long, .bool r.above, .int .i64 r.on, .int .i64 r.off, .int .i64 r.hold, .int .i64 r.rest, .int .i64 r.empty] 27) := ⟨_, rfl⟩
  obtain ⟨b, eb⟩ : ∃ b, b = w.heap.size := ⟨_, rfl⟩
  have hb1 : Below w.heap.size w w1 := by rw [e1]; exact (Below.refl _ _).alloc (Nat.le_refl _) _
  have hg1 : w1.heap[b]? = some (.cells (ruC r).toArray 27 (0, 0)) := by rw [e1, eb]; exact heap_new w _
  have hlt1 := (Array.getElem?_eq_some_iff.1 hg1).1
  rw [← eb, ← e1]
  have HB1 := Lib.hid hb1
  have p0 : w1.cell? ⟨b, 0, none⟩ = some (.string (rkT r.k)) := cell_of_blk (j := 0) hg1 rfl
  have p1 : w1.cell? ⟨b, 1, none⟩ = some (.string (meT r.m)) := cell_of_blk (j := 1) hg1 rfl
  have p2 : w1.cell? ⟨b, 2, none⟩ = some (.int .i64 r.agg) := cell_of_blk (j := 2) hg1 rfl
  have p3 : w1.cell? ⟨b, 3, none⟩ = some (.int .i64 r.long) := cell_of_blk (j := 3) hg1 rfl
  have p4 : w1.cell? ⟨b, 4, none⟩ = some (.bool r.above) := cell_of_blk (j := 4) hg1 rfl
  have p5 : w1.cell? ⟨b, 5, none⟩ = some (.int .i64 r.on) := cell_of_blk (j := 5) hg1 rfl
  have p6 : w1.cell? ⟨b, 6, none⟩ = some (.int .i64 r.off) := cell_of_blk (j := 6) hg1 rfl
  have p7 : w1.cell? ⟨b, 7, none⟩ = some (.int .i64 r.hold) := cell_of_blk (j := 7) hg1 rfl
  have p8 : w1.cell? ⟨b, 8, none⟩ = some (.int .i64 r.rest) := cell_of_blk (j := 8) hg1 rfl
  have p9 : w1.cell? ⟨b, 9, none⟩ = some (.int .i64 r.empty) := cell_of_blk (j := 9) hg1 rfl
  clear eb e1 hb1 hg1
  obtain ⟨w2, e2⟩ : ∃ V : World, V = w1.alloc (.cells #[.string (rkT r.k), .string (meT r.m), .int .i64 r.agg, .int .i64 r.long, .bool r.above, .int .i64 r.on, .int .i64 r.off, .int .i64 r.hold, .int .i64 r.rest, .int .i64 r.empty] 27) := ⟨_, rfl⟩
  have HB2 := Lib.hid (show Below w.heap.size w w2 from below_step HB1.out (by rw [e2]; exact (Below.refl _ _).alloc (Nat.le_refl _) _))
  have HC := Lib.hid (checkRule_any r w1.heap.size w2 HRR.out (by rw [e2]; exact heap_new w1 _))
  rw [e2] at HC
  have HE2 := Lib.hid e2
  clear e2
  go_wp2_with (fail)
  refine HC.out.mono ?_
  rintro e w3 ⟨rfl, hb3⟩
  have HB3 := Lib.hid (below_step HB2.out (by rw [HE2.out]; exact hb3))
  clear hb3 HC p0 p1 p2 p3 p4 p5 p6 p7 p8 p9
  have HC2 := Lib.hid (HL.out w3 HB3.out)
  go_wp2_with (fail)
  refine HC2.out.mono ?_
  rintro e w4 ⟨rfl, hb4⟩
  have HB4 := Lib.hid (below_step HB3.out hb4)
  clear hb4 HC2
  have HF := Lib.hid (first_ok 2 2 w4.heap.size (w4.alloc (.cells #[.int .i64 0, .int .i64 0] 33)) (by omega) (Cells.new w4 #[.int .i64 0, .int .i64 0] 33 (0, 0) _ rfl))
  go_wp2_with (fail)
  refine HF.out.mono ?_
  rintro e w' ⟨rfl, rfl⟩
  have HB5 := Lib.hid (show Below w.heap.size w (w4.alloc (.cells #[.int .i64 0, .int .i64 0] 33)) from HB4.out.alloc HB4.out.size _)
  go_wp2_with (fail)
  refine (HKD.out _).mono ?_
  rintro e w' ⟨rfl, rfl⟩
  go_wp2_with (fail)
  refine (moment_yes _ _ ha.1 ha.2).mono ?_
  rintro e w' ⟨rfl, rfl⟩
  go_wp2_with (fail)
  go_ret
  exact ⟨rfl, HB5.out⟩
end Go.Proofs.YtlfphndnkgoinaaGreatDoor
