/- Put of offices. -/
import Derived.Test.YtnnncddjcdjhoaaGreatDoorOfC
import Derived.Test.YtnnncddjcdjhoaaGreatDoorOfD
import Derived.Test.YtnnncddjcdjhoaaGreatDoorOfT
import Derived.Test.YtnnncddjcdjhoaaGreatDoorQtt
import Derived.Test.YtnnncddjcdjhoaaGreatDoorMgA
namespace Go.Proofs.YtnnncddjcdjhoaaGreatDoor
open Go.RowKit

def PutPost (w : World) (o : Nat) (p : Po) (f : Of) (tm : Int) (x : Ol) (e : Ending) (w' : World) : Prop :=
  ∃ (h : Of) (m' ck' : Nat) (M' : Mp) (tm' : Int), Aged p f x.at_ h ∧ e = .returned (.int .i64 (putZ p h x)) ∧ OfI w' o m' ck' M' p tm' ∧ w.grownBy w' (some o) ∧
    ((putZ p h x = 0 ∧ fM M' = putH h x ∧ tm' = x.at_) ∨ (putZ p h x ≠ 0 ∧ fM M' = f ∧ tm' = tm))
def opL : Option Nat → ByteArray
  | none => ⟨#[]⟩
  | some i => idL i
theorem sl_beq {i j : Nat} (hi : i < 3) (hj : j < 3) : (slL i == slL j) = decide (i = j) ∧ ((slL i).toList == (slL j).toList) = decide (i = j) := by
  have h1 : i = 0 ∨ i = 1 ∨ i = 2 := by omega
  have h2 : j = 0 ∨ j = 1 ∨ j = 2 := by omega
  rw [Lib.toList_data, Lib.toList_data]
  rcases h1 with h | h | h <;> subst h <;> rcases h2 with h | h | h <;> subst h <;> exact ⟨by decide +kernel, by decide⟩
theorem sl_empty {i : Nat} (hi : i < 3) : (slL i).toList.isEmpty = decide (i = 0) := by
  have h1 : i = 0 ∨ i = 1 ∨ i = 2 := by omega
  rw [Lib.toList_data]
  rcases h1 with h | h | h <;> subst h <;> decide
theorem id_empty (i : Nat) : (idL i).toList.isEmpty = false := by
  rw [Lib.toList_data]
  unfold idL
  split <;> decide
theorem zeroOn (w : World) : (zeroValue 40).run Tryz.prog w = .ok (.agg #[.string ⟨#[]⟩, .string ⟨#[]⟩, .string ⟨#[]⟩, .int .i64 0, .int .i64 0, .int .i64 0, .int .i64 0, .int .i64 0, .int .i64 0]) w := by kernel_rfl
theorem timeFaultB (w : World) (o m ck : Nat) (M : Mp) (p : Po) (tm a : Int) (h : OfI w o m ck M p tm) (h1 : tm ≤ a) (h0 : 0 ≤ a) (h2 : a < 345686400000) :
    Calls Tryz.prog 45 #[.pointer (some ⟨o, 0, none⟩), .int .i64 a] w fun e w' => e = .returned (.int .i64 0) ∧ Below w.heap.size w w' :=
  (timeFault_no w o m ck M p tm a h h1 h0 h2).mono fun e w' hh => ⟨hh.1, by rw [← hh.2]; exact Below.refl _ _⟩
set_option maxRecDepth 100000 in
set_option maxHeartbeats 8000000 in
theorem put_any (w : World) (o m ck : Nat) (M : Mp) (p : Po) (tm : Int) (x : Ol) (h : OfI w o m ck M p tm) (hp : PoOk p) (hf : OfOk p (fM M) tm) (hx : OlOk x) (ht : tm ≤ x.at_) (hT : U8T w) :
    Calls Tryz.prog 12 #[.pointer (some ⟨o, 0, none⟩), olV x] w fun e w' => PutPost w o p (fM M) tm x e w' := by
  have HO := Lib.hid h
  have HP := Lib.hid hp
  have HF := Lib.hid hf
  have HX := Lib.hid hx
  have hax : x.at_ < 345686400000 := by have := hx.un; omega
  obtain ⟨l, el⟩ : ∃ g, g = w.heap.size := ⟨_, rfl⟩
  obtain ⟨w1, e1⟩ : ∃ V : World, V = w.alloc (.cells #[.string (idL x.id), .string (slL x.sl), .string (boL x.bo), .int .i64 x.pr, .int .i64 x.at_, .int .i64 x.un] 35) := ⟨_, rfl⟩
  have hb1 : Below w.heap.size w w1 := by rw [e1]; exact (Below.refl _ _).alloc (Nat.le_refl _) _
  have hg1 : w1.heap[l]? = some (.cells #[.string (idL x.id), .string (slL x.sl), .string (boL x.bo), .int .i64 x.pr, .int .i64 x.at_, .int .i64 x.un] 35 (0, 0)) := by rw [e1, el]; exact heap_new w _
  have hll := (Array.getElem?_eq_some_iff.1 hg1).1
  have HB1 := Lib.hid hb1
  have HQ := Lib.hid (fun (V : World) (hV : Below w1.heap.size w1 V) => show V.cell? ⟨l, 0, none⟩ = some (.string (idL x.id)) ∧ V.cell? ⟨l, 1, none⟩ = some (.string (slL x.sl)) ∧ V.cell? ⟨l, 2, none⟩ = some (.string (boL x.bo)) ∧ V.cell? ⟨l, 3, none⟩ = some (.int .i64 x.pr) ∧ V.cell? ⟨l, 4, none⟩ = some (.int .i64 x.at_) ∧ V.cell? ⟨l, 5, none⟩ = some (.int .i64 x.un) from by
    have hg := (hV.block l hll).trans hg1
    exact ⟨cell_of_blk (j := 0) hg rfl, cell_of_blk (j := 1) hg rfl, cell_of_blk (j := 2) hg rfl, cell_of_blk (j := 3) hg rfl, cell_of_blk (j := 4) hg rfl, cell_of_blk (j := 5) hg rfl⟩)
  have HCL := Lib.hid (fun (V : World) (hV : Below w1.heap.size w1 V) => checkLetter_any x V hx (hT.below (hb1.trans (hV.mono hb1.size))))
  have HTF := Lib.hid (fun (V : World) (hV : Below w1.heap.size w1 V) => timeFaultB V o m ck M p tm x.at_ (h.below (hb1.trans (hV.mono hb1.size))) ht hx.at0 hax)
  unfold olV at HCL
  clear h hp hf hx hT hb1
  unfold olV
  go_enter Tryz.func12, Tryz.ntmps12
  go_upto_region 1 with (fail)
  rw [← el, ← e1]
  clear el e1
  go_upto_region 1 with (fail)
  refine qRegionTail 6 (by kernel_rfl) (by kernel_rfl) ?_
  simp only [List.take_succ_cons, List.take_zero, List.drop_succ_cons, List.drop_zero]
  repeat (first
    | (go_big_quiet_want; refine qVal (fun V hV => (by (obtain ⟨q0, q1, q2, q3, q4, q5⟩ := HQ.out V hV; go_simp; try rfl))) ?_; simp only [Act.put, List.setIfInBounds_toArray, List.set_cons_zero, List.set_cons_succ]; go_big_quiet_on)
    | (go_big_quiet_want
       refine qCall (fun V hV => (by (obtain ⟨q0, q1, q2, q3, q4, q5⟩ := HQ.out V hV; go_simp; exact ⟨rfl, rfl⟩))) (fun V hV => (by first
         | with_reducible exact (HCL.out V hV).mono (fun e w' h => ⟨h.1, hV.trans (h.2.mono hV.size)⟩)
         | with_reducible exact (HTF.out V hV).mono (fun e w' h => ⟨h.1, hV.trans (h.2.mono hV.size)⟩))) ?_
       simp only [Act.put, List.setIfInBounds_toArray, List.set_cons_zero, List.set_cons_succ]; go_big_quiet_on)
    | go_big_quiet_skip)
  refine wpQuiet_nil ?_
  intro w2 hb2
  have HB2 := Lib.hid hb2
  have hcs : Cells (w2.alloc (.cells #[.int .i64 0, .int .i64 0] 30)) w2.heap.size 0 (List.replicate 2 (.int .i64 0)) := Cells.new _ _ _ _ _ rfl
  have HFS := Lib.hid (first_ok 2 2 w2.heap.size _ (by omega) hcs)
  clear hcs hb2
  go_wp2_with (fail)
  refine HFS.out.mono ?_
  rintro e w3 ⟨rfl, ew3⟩
  have hb3 : Below w1.heap.size w1 w3 := by rw [← ew3]; exact HB2.out.alloc HB2.out.size _
  have HB3 := Lib.hid hb3
  have HW3 := Lib.hid (HB1.out.trans (hb3.mono HB1.out.size))
  clear ew3 HFS HCL HTF HB2
  obtain ⟨q0, q1, q2, q3, q4, q5⟩ := HQ.out w3 hb3
  have hll3 : l < w3.heap.size := by have := hb3.size; omega
  have HAG := Lib.hid (aged_any w3 o m ck M p tm x.at_ (HO.out.below HW3.out) HP.out HF.out ht)
  unfold AgPost at HAG
  clear hb3
  go_wp2_with (fail)
  refine HAG.out.mono ?_
  rintro e w4 ⟨m1, ck1, M1, rfl, hm1, hM1, hag, hb4, hlm1⟩
  have HM1 := Lib.hid hm1
  have HK1 := Lib.hid hM1
  have HAD := Lib.hid hag
  have HB4 := Lib.hid (HB3.out.trans (hb4.mono HB3.out.size))
  have HOK := Lib.hid (hag.ok HP.out HF.out ht)
  have hs3 := HW3.out.size
  have hlm : w.heap.size ≤ m1 := by omega
  have hlw : w1.heap.size ≤ m1 := by have := HB3.out.size; omega
  have hol : o < w.heap.size := HO.out.lt
  clear hm1 hM1 hag hb4 HAG q0 q1 q2 q3 q4 q5
  obtain ⟨q0, q1, q2, q3, q4, q5⟩ := HQ.out w4 HB4.out
  have hll4 : l < w4.heap.size := by have := HB4.out.size; omega
  have hlk := look_mp_ok (P := Tryz.prog) (w := w4) Tryz.underlying80 Tryz.underlying9 (zeroOn w4) HX.out.id HK1.out HM1.out
  obtain ⟨f1, ef1⟩ : ∃ f1, f1 = fM M1 := ⟨_, rfl⟩
  have HF1 := Lib.hid ef1
  rw [← ef1] at hlk HAD HOK
  clear ef1
  cases hfx : f1 x.id with
  | some n =>
    rw [hfx] at hlk
    have HPZ := Lib.hid (show putZ p f1 x = 6 from by unfold putZ; rw [hfx]; rfl)
    simp only [noD, onV, Option.isSome] at hlk
    clear hfx
    go_wp2_with (fail)
    go_ret
    exact ⟨f1, m, ck, M, tm, HAD.out, by rw [HPZ.out]; rfl, HO.out.below ((HB1.out.trans (HB4.out.mono HB1.out.size)).alloc (HB1.out.trans (HB4.out.mono HB1.out.size)).size _), grown_belowP ((HB1.out.trans (HB4.out.mono HB1.out.size)).alloc (HB1.out.trans (HB4.out.mono HB1.out.size)).size _), .inr ⟨by rw [HPZ.out]; decide, rfl, rfl⟩⟩
  | none =>
    rw [hfx] at hlk
    have HFX := Lib.hid hfx
    simp only [noD, Option.isSome] at hlk
    clear hfx
    go_upto_region 9 with (fail)
    obtain ⟨w5, e5⟩ : ∃ V : World, V = w4.alloc (.cells #[.string ⟨#[]⟩, .string ⟨#[]⟩, .string ⟨#[]⟩, .int .i64 0, .int .i64 0, .int .i64 0, .int .i64 0, .int .i64 0, .int .i64 0] 40) := ⟨_, rfl⟩
    have hb5 : Below w4.heap.size w4 w5 := by rw [e5]; exact (Below.refl _ _).alloc (Nat.le_refl _) _
    rw [← e5]
    clear e5
    have HB5 := Lib.hid (HB4.out.trans (hb5.mono HB4.out.size))
    have HM5 := Lib.hid (HM1.out.below hb5)
    have hm5 := HM5.out
    unfold MpI at hm5
    have hlm5 := (Array.getElem?_eq_some_iff.1 hm5).1
    have hrg := run_range_map (P := Tryz.prog) w5 80 9 40 m1 _ _ Tryz.underlying80 hm5
    obtain ⟨ri, eri⟩ : ∃ g, g = w5.heap.size := ⟨_, rfl⟩
    obtain ⟨w6, e6⟩ : ∃ V : World, V = w5.alloc (.mapIter (some m1) ck1 #[] ck1) := ⟨_, rfl⟩
    have hb6 : Below w5.heap.size w5 w6 := by rw [e6]; exact (Below.refl _ _).alloc (Nat.le_refl _) _
    have HI6 := Lib.hid (show ItI w6 ri m1 M1 ck1 [] from ItI.new (by rw [e6, eri]; exact heap_new w5 _))
    have hrm : ri ≠ m1 := by omega
    have hwri : w1.heap.size ≤ ri := by have := HB5.out.size; omega
    go_wp2_with (fail)
    rw [← eri, ← e6]
    have HB6 := Lib.hid (HB5.out.trans (hb6.mono HB5.out.size))
    have HM6 := Lib.hid (HM5.out.below hb6)
    have hs6 : ri < w6.heap.size := HI6.out.lt
    clear hrg hm5 eri e6 hb6 hb5 q0 q1 q2 q3 q4 q5 hll4 hlm5
    have hml := mp_len HK1.out
    have hm6 : m1 < w6.heap.size := HM6.out.lt
    go_loopw [9] (fun s wr => ∃ (D : Mp) (r : Option Nat), s = .string (opL r) ∧ Hid (ItI wr ri m1 M1 ck1 D) ∧ Hid (Below w1.heap.size w1 wr ∧ wr.heap[m1]? = w6.heap[m1]?) ∧ Hid (r = none → ∀ q ∈ D, mtB x q.2 = false) ∧ Hid (∀ i, r = some i → ∃ q ∈ D, q.2.l.id = i ∧ mtB x q.2 = true)) (fun _ wr => M1.length - (wr.iterSeen ri).size)
    case atStart => exact ⟨[], none, rfl, HI6, Lib.hid ⟨HB6.out, rfl⟩, Lib.hid (fun _ q hq => by cases hq), Lib.hid (fun i hi => by cases hi)⟩
    case round =>
      obtain ⟨D, r, rfl, HI, HBM, HN, HYE⟩ := hrel
      have HMr := Lib.hid (show MpI wr m1 M1 ck1 from HBM.out.2.trans HM6.out)
      rcases next_mp HK1.out HMr.out HI.out hrm Tryz.prog with ⟨hperm, hrun⟩ | ⟨q, hq, hqD, hlen, w7, hI7, ho7, hrun, hen⟩
      · have HR := Lib.hid (show r = oldO f1 x from by rw [HF1.out]; exact old_of HK1.out hperm (by rw [← HF1.out]; exact HOK.out) HN.out HYE.out)
        have HBr := Lib.hid HBM.out.1
        obtain ⟨q0, q1, q2, q3, q4, q5⟩ := HQ.out wr HBr.out
        have hsr := HBr.out.size
        have hllr : l < wr.heap.size := by omega
        have HWr := Lib.hid (HB1.out.trans (HBr.out.mono HB1.out.size))
        have hob := (HO.out.below HWr.out).blk
        unfold ofB at hob
        have c0 := cell_of_blk (j := 0) hob rfl
        have hlo := (Array.getElem?_eq_some_iff.1 hob).1
        have hrm2 := HP.out.room
        have hwr1 : IntKind.i64.wrap (p.room + 1) = p.room + 1 := by rw [IntKind.wrap_i64]; omega
        have HPN := Lib.hid (pending_any wr m1 ck1 M1 HMr.out HK1.out)
        rw [← HF1.out] at HPN
        clear hperm hob HN HYE hml
        have HLB := Lib.hid (fun (V : World) (hV : Below w1.heap.size w1 V) => (hV.block l hll).trans hg1)
        have hlne : l ≠ m1 := by omega
        obtain ⟨k, ek⟩ : ∃ k, k = pen f1 := ⟨_, rfl⟩
        have HKE := Lib.hid ek
        have hk6 : k ≤ 6 := by
          rw [ek, HF1.out]
          have := mp_len HK1.out
          have := pen_of HK1.out (List.Perm.refl M1)
          have := List.length_filter_le (fun q : Nat × On => peB q.2) M1
          omega
        rw [← ek] at HPN
        clear ek
        cases r with
        | none =>
          have HRO := Lib.hid (show repO f1 x = f1 from by unfold repO; rw [← HR.out])
          have HPQ := Lib.hid (show putZ p f1 x = if p.room ≤ (k : Int) then 12 else 0 from by unfold putZ; rw [HFX.out, ← HR.out, ← HKE.out]; simp)
          simp only [opL]
          go_wp2_with (fail)
          refine HPN.out.mono ?_
          rintro e w7 ⟨rfl, hb7⟩
          have HM7 := Lib.hid (show MpI w7 m1 M1 ck1 ∧ MpOk M1 ck1 from ⟨HMr.out.below hb7, HK1.out⟩)
          have hbl1 := HBr.out.trans (hb7.mono HBr.out.size)
          have HW7 := Lib.hid (HB1.out.trans (hbl1.mono HB1.out.size))
          have hll7 : l < w7.heap.size := by have := hb7.size; omega
          clear hb7 q0 q1 q2 q3 q4 q5 c0 hrun HPN
          obtain ⟨q0, q1, q2, q3, q4, q5⟩ := HQ.out w7 hbl1
          by_cases hge : p.room ≤ (k : Int)
          · have HPZ := Lib.hid (show putZ p f1 x = 12 from by rw [HPQ.out, if_pos hge])
            go_wp2_with (fail)
            go_ret
            exact ⟨f1, m, ck, M, tm, HAD.out, by rw [HPZ.out]; rfl, HO.out.below HW7.out, grown_belowP HW7.out, .inr ⟨by rw [HPZ.out]; decide, rfl, rfl⟩⟩
          · have HPZ := Lib.hid (show putZ p f1 x = 0 from by rw [HPQ.out, if_neg hge])
            have HRX := Lib.hid (show fM M1 = repO f1 x from by rw [HRO.out, HF1.out])
            obtain ⟨wa, Ma, cka, hup, hMa, hKa, hoa, hfa⟩ := upd_mp (P := Tryz.prog) (w := w7) Tryz.underlying80 Tryz.underlying9 (n := ⟨x, 1, 0, x.at_⟩) HX.out.id HM7.out.2 HM7.out.1
            unfold onV at hup
            dsimp only at hup
            have HFA := Lib.hid (show fM Ma = putH f1 x from by rw [hfa, HRX.out]; rfl)
            have HOA := Lib.hid (show OfI wa o m ck M p tm from ((HO.out.below HW7.out).keep (hoa.blk o (by omega)) (hoa.blk m (by have := HO.out.map.lt; omega))))
            have HKA := Lib.hid (keep_any wa o m m1 ck cka M Ma p tm x.at_ HOA.out hMa hKa)
            have HGA := Lib.hid hoa
            have sza := hoa.size
            have hla : l < wa.heap.size := by have := (Array.getElem?_eq_some_iff.1 ((hoa.blk l hlne).trans (show w7.heap[l]? = some _ from HLB.out w7 hbl1))).1; exact this
            have p4 : wa.cell? ⟨l, 4, none⟩ = some (.int .i64 x.at_) := cell_of_blk (j := 4) ((hoa.blk l hlne).trans (HLB.out w7 hbl1)) rfl
            clear hMa hKa hoa hfa
            go_wp2_with (fail)
            refine HKA.out.mono ?_
            rintro e wb ⟨rfl, hofb, hob⟩
            have HFB := Lib.hid (show PutPost w o p (fM M) tm x (.returned (.int .i64 0)) wb from ⟨f1, m1, cka, Ma, x.at_, HAD.out, by rw [HPZ.out], hofb, ⟨hob.os.trans (HGA.out.os.trans HW7.out.os), hob.tape.trans (HGA.out.tape.trans HW7.out.tape), hob.output.trans (HGA.out.output.trans HW7.out.output), by rw [hob.size, HGA.out.size]; exact HW7.out.size, fun b hb hne => (hob.blk b (fun e => hne (by rw [e]))).trans ((HGA.out.blk b (by omega)).trans (HW7.out.block b hb))⟩, .inl ⟨HPZ.out, HFA.out, rfl⟩⟩)
            clear hofb hob
            go_wp2_with (fail)
            go_ret
            exact HFB.out
        | some i =>
          have hsm := List.find?_some (show (List.range 6).find? (fun j => match f1 j with | some n => mtB x n | none => false) = some i from HR.out.symm)
          have hi6 : i < 6 := List.mem_range.1 (List.mem_of_find?_eq_some (show (List.range 6).find? (fun j => match f1 j with | some n => mtB x n | none => false) = some i from HR.out.symm))
          obtain ⟨n, hfn⟩ : ∃ n, f1 i = some n := by
            cases h : f1 i with
            | none => rw [h] at hsm; cases hsm
            | some n => exact ⟨n, rfl⟩
          have HFN := Lib.hid hfn
          have HNI := Lib.hid (show n.l.id = i from HOK.out.id i n hfn)
          have HRO := Lib.hid (show repO f1 x = setO f1 { n with s := 6, c := x.at_ } from by unfold repO; rw [← HR.out]; simp only; rw [hfn])
          have HPQ := Lib.hid (show putZ p f1 x = if p.room + 1 ≤ (k : Int) then 12 else 0 from by unfold putZ; rw [HFX.out, ← HR.out, ← HKE.out]; simp)
          have hie := id_empty i
          simp only [opL]
          clear hsm hfn
          go_wp2_with (fail)
          refine HPN.out.mono ?_
          rintro e w7 ⟨rfl, hb7⟩
          have HM7 := Lib.hid (show MpI w7 m1 M1 ck1 ∧ MpOk M1 ck1 from ⟨HMr.out.below hb7, HK1.out⟩)
          have hbl7 := HBr.out.trans (hb7.mono HBr.out.size)
          have HW7 := Lib.hid (HB1.out.trans (hbl7.mono HB1.out.size))
          have hll7 : l < w7.heap.size := by have := hb7.size; omega
          clear hb7 q0 q1 q2 q3 q4 q5 c0 hrun HPN
          obtain ⟨q0, q1, q2, q3, q4, q5⟩ := HQ.out w7 hbl7
          by_cases hge : p.room + 1 ≤ (k : Int)
          · have HPZ := Lib.hid (show putZ p f1 x = 12 from by rw [HPQ.out, if_pos hge])
            go_wp2_with (fail)
            go_ret
            exact ⟨f1, m, ck, M, tm, HAD.out, by rw [HPZ.out]; rfl, HO.out.below HW7.out, grown_belowP HW7.out, .inr ⟨by rw [HPZ.out]; decide, rfl, rfl⟩⟩
          · have HPZ := Lib.hid (show putZ p f1 x = 0 from by rw [HPQ.out, if_neg hge])
            have hlk2 := look_mp (P := Tryz.prog) (w := w7) Tryz.underlying80 Tryz.underlying9 (zeroOn w7) hi6 HK1.out HM7.out.1
            rw [← HF1.out, HFN.out] at hlk2
            simp only [noD, onV] at hlk2
            go_upto_region 21 with (fail)
            obtain ⟨g, eg⟩ : ∃ z, z = w7.heap.size := ⟨_, rfl⟩
            obtain ⟨w8, e8⟩ : ∃ V : World, V = w7.alloc (.cells #[.string (idL n.l.id), .string (slL n.l.sl), .string (boL n.l.bo), .int .i64 n.l.pr, .int .i64 n.l.at_, .int .i64 n.l.un, .int .i64 n.s, .int .i64 n.t, .int .i64 n.c] 40) := ⟨_, rfl⟩
            have hb8 : Below w7.heap.size w7 w8 := by rw [e8]; exact (Below.refl _ _).alloc (Nat.le_refl _) _
            have hg8 : w8.heap[g]? = some (.cells #[.string (idL n.l.id), .string (slL n.l.sl), .string (boL n.l.bo), .int .i64 n.l.pr, .int .i64 n.l.at_, .int .i64 n.l.un, .int .i64 n.s, .int .i64 n.t, .int .i64 n.c] 40 (0, 0)) := by rw [e8, eg]; exact heap_new w7 _
            have hwg : w7.heap.size ≤ g := by omega
            rw [← eg, ← e8]
            clear eg e8 hlk2 q0 q1 q2 q3 q4 q5
            have hlg8 : g < w8.heap.size := (Array.getElem?_eq_some_iff.1 hg8).1
            have hll8 : l < w8.heap.size := by have := hb8.size; omega
            have hbl8 := hbl7.trans (hb8.mono hbl7.size)
            obtain ⟨q0, q1, q2, q3, q4, q5⟩ := HQ.out w8 hbl8
            have HB8 := Lib.hid hb8
            have k6 := cell_of_blk (j := 6) hg8 rfl
            have k8 := cell_of_blk (j := 8) hg8 rfl
            have g6 : w8.frozen? ⟨g, 6, none⟩ = false := by simp [World.frozen?, hg8]
            have g8 : w8.frozen? ⟨g, 8, none⟩ = false := by simp [World.frozen?, hg8]
            have x6 := setblkO (j := 6) (.int .i64 6) hg8
            have x8 := setblkO (j := 8) (.int .i64 x.at_) hg8
            have HX6 := Lib.hid x6
            have HG8 := Lib.hid hg8
            clear hg8 x6 x8 hb8
            go_region
            obtain ⟨w9, e9⟩ : ∃ V : World, V = ((w8.setCell ⟨g, 6, none⟩ (.int .i64 6)).setCell ⟨g, 8, none⟩ (.int .i64 x.at_)).drew := ⟨_, rfl⟩
            rw [← e9]
            have hg9 : w9.heap[g]? = some (.cells #[.string (idL n.l.id), .string (slL n.l.sl), .string (boL n.l.bo), .int .i64 n.l.pr, .int .i64 n.l.at_, .int .i64 n.l.un, .int .i64 6, .int .i64 n.t, .int .i64 x.at_] 40 (0, 0)) := by rw [e9]; exact (setblkO (j := 8) (.int .i64 x.at_) HX6.out).trans rfl
            have hs9 : w9.heap.size = w8.heap.size := by rw [e9]; simp [World.setCell, World.drew]
            have ho9 : ∀ b, b ≠ g → w9.heap[b]? = w8.heap[b]? := fun b hb => by
              rw [e9]
              show ((w8.setCell ⟨g, 6, none⟩ (.int .i64 6)).setCell ⟨g, 8, none⟩ (.int .i64 x.at_)).heap[b]? = _
              rw [setcO _ _ _ _ _ hb, setcO _ _ _ _ _ hb]
            have hx9 : w9.os = w8.os ∧ w9.tape = w8.tape ∧ w9.output = w8.output := by rw [e9]; exact ⟨rfl, rfl, rfl⟩
            have hb79 : Below w7.heap.size w7 w9 := ⟨hx9.1.trans HB8.out.os, hx9.2.1.trans HB8.out.tape, hx9.2.2.trans HB8.out.output, by rw [hs9]; exact HB8.out.size, fun b hb => (ho9 b (by omega)).trans (HB8.out.block b hb)⟩
            clear e9 q0 q1 q2 q3 q4 q5 k6 k8 g6 g8
            have HM9 := Lib.hid (HM7.out.1.below hb79)
            have hbl1 := hbl7.trans (hb79.mono hbl7.size)
            have HW9 := Lib.hid (HB1.out.trans (hbl1.mono HB1.out.size))
            have hlg9 : g < w9.heap.size := (Array.getElem?_eq_some_iff.1 hg9).1
            have hll9 : l < w9.heap.size := by omega
            have k0 := cell_of_blk (j := 0) hg9 rfl
            have k1 := cell_of_blk (j := 1) hg9 rfl
            have k2 := cell_of_blk (j := 2) hg9 rfl
            have k3 := cell_of_blk (j := 3) hg9 rfl
            have k4 := cell_of_blk (j := 4) hg9 rfl
            have k5 := cell_of_blk (j := 5) hg9 rfl
            have k6 := cell_of_blk (j := 6) hg9 rfl
            have k7 := cell_of_blk (j := 7) hg9 rfl
            have k8 := cell_of_blk (j := 8) hg9 rfl
            obtain ⟨w10, M2, ck2, hup2, hM2, hK2, ho2, hf2⟩ := upd_mp (P := Tryz.prog) (w := w9) Tryz.underlying80 Tryz.underlying9 (n := { n with s := 6, c := x.at_ }) (by show n.l.id < 6; rw [HNI.out]; exact hi6) HM7.out.2 HM9.out
            unfold onV at hup2
            dsimp only at hup2
            have HM10 := Lib.hid (And.intro hM2 hK2)
            have HRX := Lib.hid (show fM M2 = repO f1 x from by rw [hf2, HRO.out, HF1.out])
            have HW10 := Lib.hid (Oth.belowT HW9.out ho2 hlm)
            have hbl10 : Below w1.heap.size w1 w10 := Oth.belowT hbl1 ho2 hlw
            have hll10 : l < w10.heap.size := by rw [ho2.size]; exact hll9
            obtain ⟨q0, q1, q2, q3, q4, q5⟩ := HQ.out w10 hbl10
            rw [← HNI.out]
            clear hg9 hs9 ho9 hx9 hb79 hM2 hK2 ho2 hf2 hwg hie
            have hie := id_empty n.l.id
            obtain ⟨wa, Ma, cka, hup, hMa, hKa, hoa, hfa⟩ := upd_mp (P := Tryz.prog) (w := w10) Tryz.underlying80 Tryz.underlying9 (n := ⟨x, 1, 0, x.at_⟩) HX.out.id HM10.out.2 HM10.out.1
            unfold onV at hup
            dsimp only at hup
            have HFA := Lib.hid (show fM Ma = putH f1 x from by rw [hfa, HRX.out]; rfl)
            have HOA := Lib.hid (show OfI wa o m ck M p tm from ((HO.out.below HW10.out).keep (hoa.blk o (by omega)) (hoa.blk m (by have := HO.out.map.lt; omega))))
            have HKA := Lib.hid (keep_any wa o m m1 ck cka M Ma p tm x.at_ HOA.out hMa hKa)
            have HGA := Lib.hid hoa
            have sza := hoa.size
            have hla : l < wa.heap.size := by have := (Array.getElem?_eq_some_iff.1 ((hoa.blk l hlne).trans (show w10.heap[l]? = some _ from HLB.out w10 hbl10))).1; exact this
            have p4 : wa.cell? ⟨l, 4, none⟩ = some (.int .i64 x.at_) := cell_of_blk (j := 4) ((hoa.blk l hlne).trans (HLB.out w10 hbl10)) rfl
            clear hMa hKa hoa hfa
            go_wp2_with (fail)
            refine HKA.out.mono ?_
            rintro e wb ⟨rfl, hofb, hob⟩
            have HFB := Lib.hid (show PutPost w o p (fM M) tm x (.returned (.int .i64 0)) wb from ⟨f1, m1, cka, Ma, x.at_, HAD.out, by rw [HPZ.out], hofb, ⟨hob.os.trans (HGA.out.os.trans HW10.out.os), hob.tape.trans (HGA.out.tape.trans HW10.out.tape), hob.output.trans (HGA.out.output.trans HW10.out.output), by rw [hob.size, HGA.out.size]; exact HW10.out.size, fun b hb hne => (hob.blk b (fun e => hne (by rw [e]))).trans ((HGA.out.blk b (by omega)).trans (HW10.out.block b hb))⟩, .inl ⟨HPZ.out, HFA.out, rfl⟩⟩)
            clear hofb hob
            go_wp2_with (fail)
            go_ret
            exact HFB.out
      · have HQL := Lib.hid hlen
        have HI7 := Lib.hid hI7
        have HB7 := Lib.hid (Oth.belowT HBM.out.1 ho7 hwri)
        have hE7 : w7.heap[m1]? = w6.heap[m1]? := (ho7.blk m1 (Ne.symm hrm)).trans HBM.out.2
        obtain ⟨n, en⟩ : ∃ z, z = q.2 := ⟨_, rfl⟩
        have HNO := Lib.hid (fun (hno : mtB x n = false) => show r = none → ∀ y ∈ D ++ [q], mtB x y.2 = false from fun hr y hy => by
          rcases List.mem_append.1 hy with hy | hy
          · exact HN.out hr y hy
          · rw [List.mem_singleton] at hy; rw [hy, ← en]; exact hno)
        have HYA := Lib.hid (show ∀ i, r = some i → ∃ y ∈ D ++ [q], y.2.l.id = i ∧ mtB x y.2 = true from fun i hi => by
          obtain ⟨y, hy, h1⟩ := HYE.out i hi
          exact ⟨y, List.mem_append_left _ hy, h1⟩)
        have HYS := Lib.hid (fun (hm : mtB x n = true) => show ∀ i, some n.l.id = some i → ∃ y ∈ D ++ [q], y.2.l.id = i ∧ mtB x y.2 = true from fun i hi => ⟨q, List.mem_append_right _ (List.mem_singleton.2 rfl), by rw [← en]; exact Option.some.inj hi, by rw [← en]; exact hm⟩)
        have hsl3 : n.l.sl < 3 := by
          have hfq : f1 q.2.l.id = some q.2 := by rw [HF1.out]; exact (fM_mem HK1.out.nd).2 ⟨rfl, q.1, hq⟩
          rw [en]; exact (HOK.out.ol _ _ hfq).sl
        rw [← en] at hrun hen
        unfold onV at hrun hen
        clear hq hqD hlen hI7 en hml
        have HS7 := Lib.hid ho7.size
        clear ho7
        go_upto_region 12 with (fail)
        obtain ⟨g, eg⟩ : ∃ z, z = w7.heap.size := ⟨_, rfl⟩
        obtain ⟨w8, e8⟩ : ∃ V : World, V = w7.alloc (.cells #[.string (idL n.l.id), .string (slL n.l.sl), .string (boL n.l.bo), .int .i64 n.l.pr, .int .i64 n.l.at_, .int .i64 n.l.un, .int .i64 n.s, .int .i64 n.t, .int .i64 n.c] 40) := ⟨_, rfl⟩
        have hb8 : Below w7.heap.size w7 w8 := by rw [e8]; exact (Below.refl _ _).alloc (Nat.le_refl _) _
        have hg8 : w8.heap[g]? = some (.cells #[.string (idL n.l.id), .string (slL n.l.sl), .string (boL n.l.bo), .int .i64 n.l.pr, .int .i64 n.l.at_, .int .i64 n.l.un, .int .i64 n.s, .int .i64 n.t, .int .i64 n.c] 40 (0, 0)) := by rw [e8, eg]; exact heap_new w7 _
        rw [← eg, ← e8]
        clear eg e8
        have hlg8 : g < w8.heap.size := (Array.getElem?_eq_some_iff.1 hg8).1
        have k1 := cell_of_blk (j := 1) hg8 rfl
        have k6 := cell_of_blk (j := 6) hg8 rfl
        have k7 := cell_of_blk (j := 7) hg8 rfl
        have hm7 : m1 < w7.heap.size := by have := HMr.out.lt; have := HS7.out; omega
        have HB8 := Lib.hid (show Below w1.heap.size w1 w8 ∧ w8.heap[m1]? = w6.heap[m1]? from ⟨HB7.out.trans (hb8.mono HB7.out.size), (hb8.block m1 hm7).trans hE7⟩)
        have HI8 := Lib.hid (HI7.out.keep (hb8.block ri HI7.out.lt))
        obtain ⟨q0, q1, q2, q3, q4, q5⟩ := HQ.out w8 HB8.out.1
        have hll8 : l < w8.heap.size := by have := hb8.size; have := HS7.out; have := HBM.out.1.size; omega
        clear hb8 hg8 hE7 hm7
        have b0 := sl_empty HX.out.sl
        obtain ⟨b1, b2⟩ := sl_beq hsl3 HX.out.sl
        by_cases hx0 : x.sl = 0
        · have hno : mtB x n = false := by unfold mtB; simp [hx0]
          rw [decide_eq_true hx0] at b0
          clear b1 b2 hx0
          go_wp2_with (fail)
          go_roundw
          case rel => exact ⟨D ++ [q], r, rfl, HI8, HB8, Lib.hid (HNO.out hno), HYA⟩
          case measure => rw [HI8.out.len, HI.out.len]; have := HQL.out; simp; omega
        rw [decide_eq_false hx0] at b0
        by_cases hx1 : n.l.sl = x.sl
        case neg =>
          have hno : mtB x n = false := by unfold mtB; simp [hx1]
          rw [decide_eq_false hx1] at b1 b2
          clear hx1 hx0
          go_wp2_with (fail)
          go_roundw
          case rel => exact ⟨D ++ [q], r, rfl, HI8, HB8, Lib.hid (HNO.out hno), HYA⟩
          case measure => rw [HI8.out.len, HI.out.len]; have := HQL.out; simp; omega
        rw [decide_eq_true hx1] at b1 b2
        by_cases hx2 : n.s = 1
        case neg =>
          have hno : mtB x n = false := by unfold mtB; simp [hx2]
          have b3 : (n.s == 1) = false := by simpa using hx2
          clear hx2 hx1 hx0
          go_wp2_with (fail)
          go_roundw
          case rel => exact ⟨D ++ [q], r, rfl, HI8, HB8, Lib.hid (HNO.out hno), HYA⟩
          case measure => rw [HI8.out.len, HI.out.len]; have := HQL.out; simp; omega
        have b3 : (n.s == 1) = true := by simpa using hx2
        by_cases hx3 : n.t = 0
        case neg =>
          have hno : mtB x n = false := by unfold mtB; simp [hx3]
          have b4 : (n.t == 0) = false := by simpa using hx3
          clear hx3 hx2 hx1 hx0
          go_wp2_with (fail)
          go_roundw
          case rel => exact ⟨D ++ [q], r, rfl, HI8, HB8, Lib.hid (HNO.out hno), HYA⟩
          case measure => rw [HI8.out.len, HI.out.len]; have := HQL.out; simp; omega
        have b4 : (n.t == 0) = true := by simpa using hx3
        have hye : mtB x n = true := (mtB_iff x n).2 ⟨hx0, hx1, hx2, hx3⟩
        clear hx3 hx2 hx1 hx0
        go_wp2_with (fail)
        go_roundw
        case rel => exact ⟨D ++ [q], some n.l.id, rfl, HI8, HB8, Lib.hid (fun h => by cases h), Lib.hid (HYS.out hye)⟩
        case measure => rw [HI8.out.len, HI.out.len]; have := HQL.out; simp; omega
end Go.Proofs.YtnnncddjcdjhoaaGreatDoor
