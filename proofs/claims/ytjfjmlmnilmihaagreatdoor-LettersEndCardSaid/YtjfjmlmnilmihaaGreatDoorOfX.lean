/- Waiting and Answer of offices; CheckNotes of right notes. Printed by gen_OfX.py. -/
import Derived.Test.YtjfjmlmnilmihaaGreatDoorOfW
namespace Go.Proofs.YtjfjmlmnilmihaaGreatDoor
open Go.RowKit

def WaitPost (w : World) (o : Nat) (p : Po) (f : Of) (a : Int) (e : Ending) (w' : World) : Prop :=
  ∃ (h : Of) (m' ck' : Nat) (M' : Mp), Aged p f a h ∧ e = .returned (.tuple #[.int .i64 (pen h), .int .i64 0]) ∧ OfI w' o m' ck' M' p a ∧ w.grownBy w' (some o) ∧ fM M' = h
set_option maxRecDepth 100000 in
set_option maxHeartbeats 4000000 in
theorem waiting_any (w : World) (o m ck : Nat) (M : Mp) (p : Po) (tm a : Int) (h : OfI w o m ck M p tm) (hp : PoOk p) (hf : OfOk p (fM M) tm) (ht : tm ≤ a) (ha : 0 ≤ a ∧ a ≤ 10000000) :
    Calls Tryz.prog 23 #[.pointer (some ⟨o, 0, none⟩), .int .i64 a] w fun e w' => WaitPost w o p (fM M) a e w' := by
  have HO := Lib.hid h
  have HTF := Lib.hid (timeFault_no w o m ck M p tm a h ht ha.1 (by omega))
  have HAG := Lib.hid (aged_any w o m ck M p tm a h hp hf ht)
  unfold AgPost at HAG
  clear h hp hf
  go_enter Tryz.func23, Tryz.ntmps23
  go_wp2_with (go_at_call 28; refine HTF.out.mono ?_; rintro e w' ⟨rfl, rfl⟩)
  refine HAG.out.mono ?_
  rintro e w4 ⟨m1, ck1, M1, rfl, hm1, hM1, hag, hb4, hlm⟩
  have HK1 := Lib.hid hM1
  have HAD := Lib.hid hag
  have HKP := Lib.hid (keep_any w4 o m m1 ck ck1 M M1 p tm a (HO.out.below hb4) hm1 hM1)
  have HB4 := Lib.hid hb4
  clear hm1 hM1 hag hb4 HTF HAG
  go_wp2_with (fail)
  refine HKP.out.mono ?_
  rintro e w5 ⟨rfl, hof, hoo⟩
  have HO5 := Lib.hid hof
  have HG5 := Lib.hid (show w.grownBy w5 (some o) from ⟨hoo.os.trans HB4.out.os, hoo.tape.trans HB4.out.tape, hoo.output.trans HB4.out.output, by rw [hoo.size]; exact HB4.out.size, fun b hb hne => (hoo.blk b (fun e => hne (by rw [e]))).trans (HB4.out.block b hb)⟩)
  have hob := hof.blk
  unfold ofB at hob
  have c4 := cell_of_blk (j := 4) hob rfl
  have hlo := (Array.getElem?_eq_some_iff.1 hob).1
  have HPN := Lib.hid (pending_any w5 m1 ck1 M1 hof.map HK1.out)
  clear hof hoo hob HKP
  go_wp2_with (fail)
  refine HPN.out.mono ?_
  rintro e w6 ⟨rfl, hb6⟩
  have HFI := Lib.hid (show WaitPost w o p (fM M) a (.returned (.tuple #[.int .i64 (pen (fM M1)), .int .i64 0])) w6 from
    ⟨fM M1, m1, ck1, M1, HAD.out, rfl, HO5.out.below hb6, ⟨hb6.os.trans HG5.out.os, hb6.tape.trans HG5.out.tape, hb6.output.trans HG5.out.output, Nat.le_trans HG5.out.size hb6.size, fun b hb hne => (hb6.block b (Nat.lt_of_lt_of_le hb HG5.out.size)).trans (HG5.out.block b hb hne)⟩, rfl⟩)
  clear hb6
  go_wp2_with (fail)
  exact bodyPost_ret (v := .tuple #[.int .i64 (pen (fM M1)), .int .i64 0]) (by simp [results, Tryz.results23, go_sem]) rfl HFI.out
def ansZ (h : Of) (i : Nat) : Int :=
  match h i with
  | none => 8
  | some n => if n.t = 0 ∨ enB n.s = true then 11 else 0
def ansH (h : Of) (i : Nat) (a : Int) : Of :=
  match h i with
  | none => h
  | some n => setO h { n with s := 3, c := a }
def AnsPost (w : World) (o : Nat) (p : Po) (f : Of) (tm a : Int) (i : Nat) (e : Ending) (w' : World) : Prop :=
  ∃ (h : Of) (m' ck' : Nat) (M' : Mp) (tm' : Int), Aged p f a h ∧ e = .returned (.int .i64 (ansZ h i)) ∧ OfI w' o m' ck' M' p tm' ∧ w.grownBy w' (some o) ∧
    ((ansZ h i = 0 ∧ fM M' = ansH h i a ∧ tm' = a) ∨ (ansZ h i ≠ 0 ∧ fM M' = f ∧ tm' = tm))
set_option maxRecDepth 100000 in
set_option maxHeartbeats 8000000 in
theorem answer_any (w : World) (o m ck : Nat) (M : Mp) (p : Po) (tm a : Int) (i : Nat) (hi : i < 6) (h : OfI w o m ck M p tm) (hp : PoOk p) (hf : OfOk p (fM M) tm) (ht : tm ≤ a) (ha : 0 ≤ a ∧ a ≤ 10000000) :
    Calls Tryz.prog 22 #[.pointer (some ⟨o, 0, none⟩), .string (idL i), .int .i64 a, .bool true] w fun e w' => AnsPost w o p (fM M) tm a i e w' := by
  have HO := Lib.hid h
  have HF := Lib.hid hf
  have HTF := Lib.hid (timeFault_no w o m ck M p tm a h ht ha.1 (by omega))
  have HAG := Lib.hid (aged_any w o m ck M p tm a h hp hf ht)
  unfold AgPost at HAG
  clear h hp hf
  go_enter Tryz.func22, Tryz.ntmps22
  go_wp2_with (go_at_call 28; refine HTF.out.mono ?_; rintro e w' ⟨rfl, rfl⟩)
  refine HAG.out.mono ?_
  rintro e w4 ⟨m1, ck1, M1, rfl, hm1, hM1, hag, hb4, hlm⟩
  have HK1 := Lib.hid hM1
  have HM1 := Lib.hid hm1
  have HAD := Lib.hid hag
  have HB4 := Lib.hid hb4
  have hol : o < w.heap.size := HO.out.lt
  clear hm1 hM1 hag hb4 HTF HAG
  have hlk := look_mp_ok (P := Tryz.prog) (w := w4) Tryz.underlying62 Tryz.underlying9 (zeroOn w4) hi HK1.out HM1.out
  obtain ⟨f1, ef1⟩ : ∃ f1, f1 = fM M1 := ⟨_, rfl⟩
  have HF1 := Lib.hid ef1
  rw [← ef1] at hlk HAD
  clear ef1
  cases hfx : f1 i with
  | none =>
    rw [hfx] at hlk
    have HPZ := Lib.hid (show ansZ f1 i = 8 from by unfold ansZ; rw [hfx])
    simp only [noD, Option.isSome] at hlk
    clear hfx
    go_wp2_with (fail)
    go_ret
    exact ⟨f1, m, ck, M, tm, HAD.out, by rw [HPZ.out]; rfl, HO.out.below (HB4.out.alloc HB4.out.size _), grown_belowP (HB4.out.alloc HB4.out.size _), .inr ⟨by rw [HPZ.out]; decide, rfl, rfl⟩⟩
  | some n =>
    rw [hfx] at hlk
    have HFX := Lib.hid hfx
    have HNI := Lib.hid (show n.l.id = i from fM_ids (by rw [← HF1.out]; exact hfx))
    simp only [noD, onV, Option.isSome] at hlk
    clear hfx
    go_upto_region 6 with (fail)
    obtain ⟨g, eg⟩ : ∃ z, z = w4.heap.size := ⟨_, rfl⟩
    obtain ⟨w5, e5⟩ : ∃ V : World, V = w4.alloc (.cells #[.string (idL n.l.id), .string (slL n.l.sl), .string (boL n.l.bo), .int .i64 n.l.pr, .int .i64 n.l.at_, .int .i64 n.l.un, .int .i64 n.s, .int .i64 n.t, .int .i64 n.c] 50) := ⟨_, rfl⟩
    have hb5 : Below w4.heap.size w4 w5 := by rw [e5]; exact (Below.refl _ _).alloc (Nat.le_refl _) _
    have hg5 : w5.heap[g]? = some (.cells #[.string (idL n.l.id), .string (slL n.l.sl), .string (boL n.l.bo), .int .i64 n.l.pr, .int .i64 n.l.at_, .int .i64 n.l.un, .int .i64 n.s, .int .i64 n.t, .int .i64 n.c] 50 (0, 0)) := by rw [e5, eg]; exact heap_new w4 _
    have hgw : w4.heap.size ≤ g := by omega
    rw [← eg, ← e5]
    clear eg e5 hlk
    have hlg5 := (Array.getElem?_eq_some_iff.1 hg5).1
    have HB5 := Lib.hid (HB4.out.trans (hb5.mono HB4.out.size))
    have HM5 := Lib.hid (HM1.out.below hb5)
    have k6 := cell_of_blk (j := 6) hg5 rfl
    have k7 := cell_of_blk (j := 7) hg5 rfl
    have k8 := cell_of_blk (j := 8) hg5 rfl
    have hwg : w.heap.size ≤ g := by have := HB4.out.size; omega
    have HE1 := Lib.hid (ended_any n.s)
    by_cases ht0 : n.t = 0
    · have b0 : (n.t == 0) = true := by simpa using ht0
      have HPZ := Lib.hid (show ansZ f1 i = 11 from by unfold ansZ; rw [HFX.out]; simp only; rw [if_pos (.inl ht0)])
      clear ht0 hb5 hg5
      go_wp2_with (fail)
      go_ret
      exact ⟨f1, m, ck, M, tm, HAD.out, by rw [HPZ.out]; rfl, HO.out.below HB5.out, grown_belowP HB5.out, .inr ⟨by rw [HPZ.out]; decide, rfl, rfl⟩⟩
    have b0 : (n.t == 0) = false := by simpa using ht0
    cases hen : enB n.s with
    | true =>
      have HPZ := Lib.hid (show ansZ f1 i = 11 from by unfold ansZ; rw [HFX.out]; simp only; rw [if_pos (.inr hen)])
      rw [hen] at HE1
      clear ht0 hen hb5 hg5
      go_wp2_with (go_at_call 37; refine (HE1.out _).mono ?_; rintro e w' ⟨rfl, rfl⟩)
      go_ret
      exact ⟨f1, m, ck, M, tm, HAD.out, by rw [HPZ.out]; rfl, HO.out.below HB5.out, grown_belowP HB5.out, .inr ⟨by rw [HPZ.out]; decide, rfl, rfl⟩⟩
    | false =>
      have HPZ := Lib.hid (show ansZ f1 i = 0 from by unfold ansZ; rw [HFX.out]; simp only; rw [if_neg (by rintro (h | h); exact ht0 h; rw [hen] at h; cases h)])
      rw [hen] at HE1
      clear ht0 hen
      have g6 : w5.frozen? ⟨g, 6, none⟩ = false := by simp [World.frozen?, hg5]
      have g8 : w5.frozen? ⟨g, 8, none⟩ = false := by simp [World.frozen?, hg5]
      have x1 : (w5.setCell ⟨g, 6, none⟩ (.int .i64 4)).heap[g]? = some (.cells #[.string (idL n.l.id), .string (slL n.l.sl), .string (boL n.l.bo), .int .i64 n.l.pr, .int .i64 n.l.at_, .int .i64 n.l.un, .int .i64 4, .int .i64 n.t, .int .i64 n.c] 50 (0, 0)) := (setblkO (j := 6) (.int .i64 4) hg5).trans rfl
      have x2 : ((w5.setCell ⟨g, 6, none⟩ (.int .i64 4)).setCell ⟨g, 8, none⟩ (.int .i64 a)).heap[g]? = some (.cells #[.string (idL n.l.id), .string (slL n.l.sl), .string (boL n.l.bo), .int .i64 n.l.pr, .int .i64 n.l.at_, .int .i64 n.l.un, .int .i64 4, .int .i64 n.t, .int .i64 a] 50 (0, 0)) := (setblkO (j := 8) (.int .i64 a) x1).trans rfl
      have x3 : (((w5.setCell ⟨g, 6, none⟩ (.int .i64 4)).setCell ⟨g, 8, none⟩ (.int .i64 a)).setCell ⟨g, 6, none⟩ (.int .i64 3)).heap[g]? = some (.cells #[.string (idL n.l.id), .string (slL n.l.sl), .string (boL n.l.bo), .int .i64 n.l.pr, .int .i64 n.l.at_, .int .i64 n.l.un, .int .i64 3, .int .i64 n.t, .int .i64 a] 50 (0, 0)) := (setblkO (j := 6) (.int .i64 3) x2).trans rfl
      have HX3 := Lib.hid x3
      clear x1 x2 x3 hb5 hg5
      go_upto_region 13 with (go_at_call 37; refine (HE1.out _).mono ?_; rintro e w' ⟨rfl, rfl⟩)
      obtain ⟨w7, e7⟩ : ∃ V : World, V = ((w5.setCell ⟨g, 6, none⟩ (.int .i64 4)).setCell ⟨g, 8, none⟩ (.int .i64 a)).setCell ⟨g, 6, none⟩ (.int .i64 3) := ⟨_, rfl⟩
      have hg7 := HX3.out
      rw [← e7] at hg7 ⊢
      have ho7 : Oth w5 w7 g := by rw [e7]; exact ⟨by simp [World.setCell], fun b hb => by rw [setcO _ _ _ _ _ hb, setcO _ _ _ _ _ hb, setcO _ _ _ _ _ hb], by simp only [World.setCell], by simp only [World.setCell], by simp only [World.setCell]⟩
      clear e7 HX3 k6 k7 k8 g6 g8
      have HB7 := Lib.hid (Oth.belowT HB5.out ho7 hwg)
      have HM7 := Lib.hid (show MpI w7 m1 M1 ck1 from (ho7.blk m1 (by have := HM1.out.lt; omega)).trans HM5.out)
      have hlg7 : g < w7.heap.size := (Array.getElem?_eq_some_iff.1 hg7).1
      have k0 := cell_of_blk (j := 0) hg7 rfl
      have k1 := cell_of_blk (j := 1) hg7 rfl
      have k2 := cell_of_blk (j := 2) hg7 rfl
      have k3 := cell_of_blk (j := 3) hg7 rfl
      have k4 := cell_of_blk (j := 4) hg7 rfl
      have k5 := cell_of_blk (j := 5) hg7 rfl
      have k6 := cell_of_blk (j := 6) hg7 rfl
      have k7 := cell_of_blk (j := 7) hg7 rfl
      have k8 := cell_of_blk (j := 8) hg7 rfl
      obtain ⟨w8, Mj, cj, hup, hM8, hK8, ho8, hf8⟩ := upd_mp (P := Tryz.prog) (w := w7) Tryz.underlying62 Tryz.underlying9 (n := { n with s := 3, c := a }) (by show n.l.id < 6; rw [HNI.out]; exact hi) HK1.out HM7.out
      unfold onV at hup
      dsimp only at hup
      have HFE := Lib.hid (show fM Mj = ansH f1 i a from by rw [hf8, ← HF1.out]; unfold ansH; rw [HFX.out])
      have HOA := Lib.hid (show OfI w8 o m ck M p tm from (HO.out.below HB7.out).keep (ho8.blk o (by omega)) (ho8.blk m (by have := HO.out.map.lt; omega)))
      have HKA := Lib.hid (keep_any w8 o m m1 ck cj M Mj p tm a HOA.out hM8 hK8)
      have HGA := Lib.hid ho8
      rw [← HNI.out]
      clear hM8 hK8 ho8 hf8 ho7 hg7
      go_wp2_with (fail)
      refine HKA.out.mono ?_
      rintro e wb ⟨rfl, hofb, hob⟩
      have HFB := Lib.hid (show AnsPost w o p (fM M) tm a i (.returned (.int .i64 0)) wb from ⟨f1, m1, cj, Mj, a, HAD.out, by rw [HPZ.out], hofb, ⟨hob.os.trans (HGA.out.os.trans HB7.out.os), hob.tape.trans (HGA.out.tape.trans HB7.out.tape), hob.output.trans (HGA.out.output.trans HB7.out.output), by rw [hob.size, HGA.out.size]; exact HB7.out.size, fun b hb hne => (hob.blk b (fun e => hne (by rw [e]))).trans ((HGA.out.blk b (by omega)).trans (HB7.out.block b hb))⟩, .inl ⟨HPZ.out, HFE.out, rfl⟩⟩)
      clear hofb hob
      go_wp2_with (fail)
      go_ret
      exact HFB.out
end Go.Proofs.YtjfjmlmnilmihaaGreatDoor
