/- rule.Fires, standing, State by their contracts. -/
import Derived.Test.YtlfphndnkgoinaaGreatDoorTkR
namespace Go.Proofs.YtlfphndnkgoinaaGreatDoor
open Go.RowKit

theorem spOf_len {r : Ru} {l sp : List (Int × Int)} (hR : RuR r) (hl : SqOk l) (h : SpOf r l sp) : sp.length ≤ 400000000000 := by
  obtain ⟨cs, t, ds, t', h1, h2, rfl⟩ := h
  have hT := hR.t
  have hall : ∀ c ∈ cs ++ ds, 0 ≤ c.1 ∧ c.1 < tEnd := by
    obtain ⟨_, e, i2, i3, i4, i5⟩ := run_times h1 hT.long hT.hold hT.rest 0 (tk0_due r hT) hl.so hl.ti
    have he : e ≤ tEnd := by
      rcases i5 with rfl | ⟨s, hs, rfl⟩
      · unfold tEnd; omega
      · have := (hl.ti s hs).2; omega
    intro c hc
    rcases List.mem_append.1 hc with hc | hc
    · have := i4 c hc; omega
    · have h3 := adv_times hT.hold hT.rest h2 c hc
      have h4 := minI_le_right tEnd tEnd
      omega
  have hp : ((cs ++ ds).map (·.1)).Pairwise (· < ·) := by
    obtain ⟨i1, e, i2, i3, i4, i5⟩ := run_times h1 hT.long hT.hold hT.rest 0 (tk0_due r hT) hl.so hl.ti
    rw [List.map_append, List.pairwise_append]
    refine ⟨i1, adv_pair hT.hold hT.rest h2, fun u hu v hv => ?_⟩
    obtain ⟨c, hc, rfl⟩ := List.mem_map.1 hu
    obtain ⟨z, hz, rfl⟩ := List.mem_map.1 hv
    have z1 := (i4 c hc).2
    have z2 := (adv_times hT.hold hT.rest h2 z hz).1
    omega
  have h5 := (TmOk.mk hp hall).len (by unfold tEnd; omega)
  have h6 := spL_len (cs ++ ds)
  unfold tEnd at h5
  omega
set_option maxRecDepth 100000 in
set_option maxHeartbeats 2000000 in
theorem fires_any (r : Ru) (l : List Te) (n c d : Nat) (at_ : Int) (A : Option Addr) (w : World) (hR : RuR r) (hl : TesOk l) (hn : l.length = n) (hn2 : n ≤ 1000) (hr : Row w w.heap.size A (recs teC l)) (hd : d < 2) (ha : 0 ≤ at_ ∧ at_ < 345686400000) :
    Calls Tryz.prog 13 #[ruV r, .slice A n c, .string (teT d), .int .i64 at_] w fun e w' => (∃ sp, SpOf r (seenL l r.m d) sp ∧ e = .returned (.tuple #[.bool (firesP sp at_), .int .i64 0])) ∧ Below w.heap.size w w' := by
  have HRR := Lib.hid hR
  have HOF := Lib.hid (fun (V : World) (hV : Below w.heap.size w V) => oneFault_any r l n c d at_ A V hR hl hn hn2 ((hr.below hV).mono hV.size) hd ha)
  have HSE := Lib.hid (fun (V : World) (hV : Below w.heap.size w V) => seen_any l r.m d n c A V hl hR.m hd hn hn2 ((hr.below hV).mono hV.size))
  have HSQ := Lib.hid (seenL_ok hl r.m d)
  have HLN := Lib.hid (show (seenL l r.m d).length ≤ 1000 from by have := seenL_len l r.m d; omega)
  clear hR hl hn hr
  have er : ruV r = .agg #[.string (rkT r.k), .string (meT r.m), .int .i64 r.agg, .int .i64 r.long, .bool r.above, .int .i64 r.on, .int .i64 r.off, .int .i64 r.hold, .int .i64 r.rest, .int .i64 r.empty] := rfl
  rw [er] at *
  clear er
  go_enter Tryz.func13, Tryz.ntmps13
  go_upto_region 1 with (fail)
  obtain ⟨w1, e1⟩ : ∃ V : World, V = w.alloc (.cells #[.string (rkT r.k), .string (meT r.m), .int .i64 r.agg, .int .i64 r.long, .bool r.above, .int .i64 r.on, .int .i64 r.off, .int .i64 r.hold, .int .i64 r.rest, .int .i64 r.empty] 27) := ⟨_, rfl⟩
  obtain ⟨b, eb⟩ : ∃ b, b = w.heap.size := ⟨_, rfl⟩
  have hb1 : Below w.heap.size w w1 := by rw [e1]; exact (Below.refl _ _).alloc (Nat.le_refl _) _
  have hg1 : w1.heap[b]? = some (.cells (ruC r).toArray 27 (0, 0)) := by rw [e1, eb]; exact heap_new w _
  have hlt1 := (Array.getElem?_eq_some_iff.1 hg1).1
  rw [← eb, ← e1]
  have HB1 := Lib.hid hb1
  have p0 : w1.cell? ⟨b, 0, none⟩ = some (.string (rkT r.k)) := cell_of_blk (j := 0) hg1 rfl
  have p1 : w1.cell? ⟨b, 1, none⟩ = some (.string (meT r.m)) := cell_of_blk (j := 1) hg1 rfl
  have p2 : w1.cell? ⟨b, 2, none⟩ = some (.int .i64 r.agg) := cell_of_blk (j := 2) hg1 rfl
  have p3 : w1.cell? ⟨b, 3, none⟩ = some (.int .i64 r.long) := cell_of_blk (j := 3) hg1 rfl
  have p4 : w1.cell? ⟨b, 4, none⟩ = some (.bool r.above) := cell_of_blk (j := 4) hg1 rfl
  have p5 : w1.cell? ⟨b, 5, none⟩ = some (.int .i64 r.on) := cell_of_blk (j := 5) hg1 rfl
  have p6 : w1.cell? ⟨b, 6, none⟩ = some (.int .i64 r.off) := cell_of_blk (j := 6) hg1 rfl
  have p7 : w1.cell? ⟨b, 7, none⟩ = some (.int .i64 r.hold) := cell_of_blk (j := 7) hg1 rfl
  have p8 : w1.cell? ⟨b, 8, none⟩ = some (.int .i64 r.rest) := cell_of_blk (j := 8) hg1 rfl
  have p9 : w1.cell? ⟨b, 9, none⟩ = some (.int .i64 r.empty) := cell_of_blk (j := 9) hg1 rfl
  have HM1 := Lib.hid (show RuM w1 b r from fun j u hu => by rw [Nat.zero_add]; exact cell_of_blk (j := j) hg1 (by simpa using hu))
  clear eb e1 hb1 hg1
  have HF := Lib.hid (HOF.out w1 HB1.out)
  go_wp2_with (fail)
  refine HF.out.mono ?_
  rintro e w2 ⟨rfl, hb2⟩
  have HB2 := Lib.hid (below_step HB1.out hb2)
  have HM2 := Lib.hid (HM1.out.below hb2 hlt1)
  have hlt2 : b < w2.heap.size := by have := hb2.size; omega
  clear hb2 HF HM1 p0 p1 p2 p3 p4 p5 p6 p7 p8 p9
  have q1 : w2.cell? ⟨b, 1, none⟩ = some (.string (meT r.m)) := HM2.out.cell 1 _ rfl
  have HS := Lib.hid (HSE.out w2 HB2.out)
  go_wp2_with (fail)
  refine HS.out.mono ?_
  rintro e w3 ⟨A3, n3, c3, rfl, hn3, ho3, hb3⟩
  have HB3 := Lib.hid (below_step HB2.out hb3)
  have HM3 := Lib.hid (HM2.out.below hb3 hlt2)
  have HSP := Lib.hid (spansOf_any r (seenL l r.m d) b n3 c3 A3 w3 HM3.out HRR.out HSQ.out hn3.symm (by have := HLN.out; omega) (own_row ho3))
  clear hn3 ho3 hb3 HS HM2 q1
  go_wp2_with (fail)
  refine HSP.out.mono ?_
  rintro e w4 ⟨A4, n4, c4, sp, rfl, hsp, hn4, ho4, hb4⟩
  have HB4 := Lib.hid (below_step HB3.out hb4)
  have HSO := Lib.hid hsp
  have hsl : n4 ≤ 400000000000 := by rw [hn4]; exact spOf_len HRR.out HSQ.out hsp
  have HFA := Lib.hid (firesAt_any sp n4 c4 at_ A4 w4 hn4.symm hsl (own_row ho4))
  clear hsp hn4 ho4 hb4 HSP HM3
  go_wp2_with (fail)
  refine HFA.out.mono ?_
  rintro e w5 ⟨rfl, hb5⟩
  have HB5 := Lib.hid (below_step HB4.out hb5)
  clear hb5 HFA
  go_wp2_with (fail)
  refine bodyPost_ret (v := .tuple #[.bool (firesP sp at_), .int .i64 0]) (by simp [results, Tryz.results13, go_sem]) rfl ⟨⟨sp, HSO.out, rfl⟩, HB5.out⟩
end Go.Proofs.YtlfphndnkgoinaaGreatDoor
