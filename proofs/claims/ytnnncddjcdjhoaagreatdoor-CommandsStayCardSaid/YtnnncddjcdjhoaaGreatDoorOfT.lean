/- pending: how many notes have not ended. -/
import Derived.Test.YtnnncddjcdjhoaaGreatDoorOfG
import Derived.Test.YtnnncddjcdjhoaaGreatDoorOfR
namespace Go.Proofs.YtnnncddjcdjhoaaGreatDoor
open Go.RowKit

theorem Oth.belowT {w V V' : World} {m : Nat} (h : Below w.heap.size w V) (ho : Oth V V' m) (hm : w.heap.size ≤ m) : Below w.heap.size w V' :=
  ⟨ho.os.trans h.os, ho.tape.trans h.tape, ho.output.trans h.output, by rw [ho.size]; exact h.size, fun b hb => (ho.blk b (by omega)).trans (h.block b hb)⟩
set_option maxRecDepth 100000 in
set_option maxHeartbeats 4000000 in
theorem pending_any (w : World) (m ck : Nat) (M : Mp) (hb : MpI w m M ck) (hM : MpOk M ck) :
    Calls Tryz.prog 47 #[.map (some m)] w fun e w' => e = .returned (.int .i64 (pen (fM M))) ∧ Below w.heap.size w w' := by
  have HM := Lib.hid (fun (V : World) (hV : Below w.heap.size w V) => hb.below hV)
  have HK := Lib.hid hM
  have hlm := hb.lt
  unfold MpI at hb
  have hrg := run_range_map (P := Tryz.prog) w 80 9 40 m _ _ Tryz.underlying80 hb
  obtain ⟨ri, eri⟩ : ∃ g, g = w.heap.size := ⟨_, rfl⟩
  obtain ⟨w2, e2⟩ : ∃ V : World, V = w.alloc (.mapIter (some m) ck #[] ck) := ⟨_, rfl⟩
  have HB2 := Lib.hid (show Below w.heap.size w w2 from by rw [e2]; exact (Below.refl _ _).alloc (Nat.le_refl _) _)
  have HI2 := Lib.hid (show ItI w2 ri m M ck [] from ItI.new (by rw [e2, eri]; exact heap_new w _))
  have hrm : ri ≠ m := by omega
  have hwri : w.heap.size ≤ ri := by omega
  have hml := mp_len hM
  clear hM
  go_enter Tryz.func47, Tryz.ntmps47
  go_wp2_with (fail)
  rw [← eri, ← e2]
  clear hrg eri e2 hb
  go_loopw [3] (fun s wr => ∃ D : Mp, s = .int .i64 (((D.filter fun q => peB q.2).length : Nat) : Int) ∧ Hid (ItI wr ri m M ck D) ∧ Hid (Below w.heap.size w wr)) (fun _ wr => M.length - (wr.iterSeen ri).size)
  case atStart => exact ⟨[], rfl, HI2, HB2⟩
  case round =>
    obtain ⟨D, rfl, HI, HB⟩ := hrel
    obtain ⟨k, ek⟩ : ∃ k, k = (D.filter fun q => peB q.2).length := ⟨_, rfl⟩
    have HE := Lib.hid ek
    have hk : k ≤ D.length := by rw [ek]; exact List.length_filter_le _ _
    rw [← ek]
    clear ek
    rcases next_mp HK.out (HM.out wr HB.out) HI.out hrm Tryz.prog with ⟨hperm, hrun⟩ | ⟨q, hq, hqD, hlen, w3, hI3, ho3, hrun, hen⟩
    · have HF := Lib.hid (show k = pen (fM M) from by rw [HE.out]; exact pen_of HK.out hperm)
      clear hperm
      go_wp2_with (fail)
      go_ret
      exact ⟨by rw [← HF.out]; rfl, HB.out⟩
    · have HQ := Lib.hid hlen
      have HI3 := Lib.hid hI3
      have HB3 := Lib.hid (Oth.belowT HB.out ho3 hwri)
      have HFI := Lib.hid (show ((D ++ [q]).filter fun q => peB q.2).length = k + (if peB q.2 = true then 1 else 0) from by
        rw [List.filter_append, List.length_append, HE.out]
        by_cases h : peB q.2 = true
        · rw [if_pos h]; simp [h]
        · rw [if_neg h]; simp [h])
      have hkl : k < 6 := by omega
      obtain ⟨n, en⟩ : ∃ z, z = q.2 := ⟨_, rfl⟩
      rw [← en] at hrun hen HFI
      unfold onV at hrun hen
      have HE1 := Lib.hid (ended_any n.s)
      have hw1 : IntKind.i64.wrap ((k : Int) + 1) = ((k + 1 : Nat) : Int) := by rw [IntKind.wrap_i64]; omega
      clear hq hqD hlen hI3 ho3 en hk hml
      go_upto_region 5 with (fail)
      obtain ⟨g, eg⟩ : ∃ z, z = w3.heap.size := ⟨_, rfl⟩
      obtain ⟨w5, e5⟩ : ∃ V : World, V = w3.alloc (.cells #[.string (idL n.l.id), .string (slL n.l.sl), .string (boL n.l.bo), .int .i64 n.l.pr, .int .i64 n.l.at_, .int .i64 n.l.un, .int .i64 n.s, .int .i64 n.t, .int .i64 n.c] 40) := ⟨_, rfl⟩
      have hb5 : Below w3.heap.size w3 w5 := by rw [e5]; exact (Below.refl _ _).alloc (Nat.le_refl _) _
      have hg5 : w5.heap[g]? = some (.cells #[.string (idL n.l.id), .string (slL n.l.sl), .string (boL n.l.bo), .int .i64 n.l.pr, .int .i64 n.l.at_, .int .i64 n.l.un, .int .i64 n.s, .int .i64 n.t, .int .i64 n.c] 40 (0, 0)) := by rw [e5, eg]; exact heap_new w3 _
      rw [← eg, ← e5]
      clear eg e5
      have hlg5 : g < w5.heap.size := (Array.getElem?_eq_some_iff.1 hg5).1
      have k6 := cell_of_blk (j := 6) hg5 rfl
      have HB5 := Lib.hid (HB3.out.trans (hb5.mono HB3.out.size))
      have HI5 := Lib.hid (HI3.out.keep (hb5.block ri HI3.out.lt))
      clear hb5 hg5
      cases hen2 : enB n.s with
      | true =>
        rw [show peB n = false from by unfold peB; rw [hen2]; rfl] at HFI
        rw [hen2] at HE1
        clear hen2
        go_wp2_with (go_at_call 77; refine (HE1.out _).mono ?_; rintro e w' ⟨rfl, rfl⟩)
        go_roundw
        case rel => exact ⟨D ++ [q], by rw [HFI.out]; simp, HI5, HB5⟩
        case measure => rw [HI5.out.len, HI.out.len]; have := HQ.out; simp; omega
      | false =>
        rw [show peB n = true from by unfold peB; rw [hen2]; rfl] at HFI
        rw [hen2] at HE1
        clear hen2
        go_wp2_with (go_at_call 77; refine (HE1.out _).mono ?_; rintro e w' ⟨rfl, rfl⟩)
        go_roundw
        case rel => exact ⟨D ++ [q], by rw [HFI.out]; simp, HI5, HB5⟩
        case measure => rw [HI5.out.len, HI.out.len]; have := HQ.out; simp; omega
end Go.Proofs.YtnnncddjcdjhoaaGreatDoor
