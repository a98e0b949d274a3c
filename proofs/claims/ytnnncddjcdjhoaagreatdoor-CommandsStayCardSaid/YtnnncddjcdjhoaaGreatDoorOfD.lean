/- aged of offices: the notes behind ageing at a moment, in a new map. -/
import Derived.Test.YtnnncddjcdjhoaaGreatDoorOfG
import Derived.Test.YtnnncddjcdjhoaaGreatDoorOfQ
import Derived.Test.YtnnncddjcdjhoaaGreatDoorOfS
namespace Go.Proofs.YtnnncddjcdjhoaaGreatDoor
open Go.RowKit

theorem Tryz.infoOn : (Tryz.prog.info? 40).map (fun i => (i.zero, i.size, i.bytes)) = some (some (.agg #[.string ⟨#[]⟩, .string ⟨#[]⟩, .string ⟨#[]⟩, .int .i64 0, .int .i64 0, .int .i64 0, .int .i64 0, .int .i64 0, .int .i64 0]), 9, 96) := by kernel_rfl
def AgPost (w : World) (p : Po) (f : Of) (a : Int) (e : Ending) (w' : World) : Prop :=
  ∃ m' ck' M', e = .returned (.map (some m')) ∧ MpI w' m' M' ck' ∧ MpOk M' ck' ∧ Aged p f a (fM M') ∧ Below w.heap.size w w' ∧ w.heap.size ≤ m'
theorem Oth.below {w V V' : World} {m : Nat} (h : Below w.heap.size w V) (ho : Oth V V' m) (hm : w.heap.size ≤ m) : Below w.heap.size w V' :=
  ⟨ho.os.trans h.os, ho.tape.trans h.tape, ho.output.trans h.output, by rw [ho.size]; exact h.size, fun b hb => (ho.blk b (by omega)).trans (h.block b hb)⟩
set_option maxRecDepth 100000 in
set_option maxHeartbeats 8000000 in
theorem aged_any (w : World) (o m ck : Nat) (M : Mp) (p : Po) (tm a : Int) (h : OfI w o m ck M p tm) (hp : PoOk p) (hf : OfOk p (fM M) tm) (ha : tm ≤ a) :
    Calls Tryz.prog 46 #[.pointer (some ⟨o, 0, none⟩), .int .i64 a] w fun e w' => AgPost w p (fM M) a e w' := by
  obtain ⟨i0, hi0, hz0, hz1, hz2⟩ := info_parts Tryz.infoOn
  have hmk := @run_makeMap Tryz.prog
  have HO := Lib.hid h
  have HP := Lib.hid hp
  have HF := Lib.hid hf
  have HA := Lib.hid ha
  clear h hp hf ha
  obtain ⟨mo, emo⟩ : ∃ g, g = w.heap.size := ⟨_, rfl⟩
  obtain ⟨w1, e1⟩ : ∃ V : World, V = w.alloc (.map #[] 0) := ⟨_, rfl⟩
  have hb1 : Below w.heap.size w w1 := by rw [e1]; exact (Below.refl _ _).alloc (Nat.le_refl _) _
  have HM1 := Lib.hid (show MpI w1 mo [] 0 from by unfold MpI; rw [e1, emo]; exact heap_new w _)
  have hwm : w.heap.size ≤ mo := by omega
  have hml1 : mo < w1.heap.size := HM1.out.lt
  go_enter Tryz.func46, Tryz.ntmps46
  go_upto_region 3 with (fail)
  rw [← emo, ← e1]
  clear hmk emo e1
  have HB1 := Lib.hid hb1
  have hb := (HO.out.below hb1).blk
  unfold ofB at hb
  have c4 := cell_of_blk (j := 4) hb rfl
  have hlo := (Array.getElem?_eq_some_iff.1 hb).1
  have hm1 := (HO.out.below hb1).map
  unfold MpI at hm1
  have hrg := run_range_map (P := Tryz.prog) w1 80 9 40 m _ _ Tryz.underlying80 hm1
  have hlm1 := (Array.getElem?_eq_some_iff.1 hm1).1
  clear hb
  obtain ⟨ri, eri⟩ : ∃ g, g = w1.heap.size := ⟨_, rfl⟩
  obtain ⟨w2, e2⟩ : ∃ V : World, V = w1.alloc (.mapIter (some m) ck #[] ck) := ⟨_, rfl⟩
  have hb2 : Below w1.heap.size w1 w2 := by rw [e2]; exact (Below.refl _ _).alloc (Nat.le_refl _) _
  have HI2 := Lib.hid (show ItI w2 ri m M ck [] from ItI.new (by rw [e2, eri]; exact heap_new w1 _))
  have hrm : ri ≠ m := by omega
  have hrmo : ri ≠ mo := by omega
  have hwri : w.heap.size ≤ ri := by have := HB1.out.size; omega
  go_wp2_with (fail)
  rw [← eri, ← e2]
  have hri2 : ri < w2.heap.size := HI2.out.lt
  have HB2 := Lib.hid (HB1.out.trans (hb2.mono HB1.out.size))
  have HM2 := Lib.hid (HM1.out.below hb2)
  have hml2 : mo < w2.heap.size := HM2.out.lt
  clear hrg eri e2 hb2 hb1 hm1 c4 HM1 hml1 hlo hlm1
  have hmo : mo ≠ m := by have := HO.out.map.lt; omega
  go_loopw [6] (fun v wr => ∃ (D Mo : Mp) (co : Nat), Hid (ItI wr ri m M ck D) ∧ Hid (MpI wr mo Mo co ∧ MpOk Mo co ∧ fM Mo = fM (gD p a D)) ∧ Hid (wr.ownsRow w2.heap.size 40 9 v (enD p a D).length (recs onC (enD p a D))) ∧ Hid (Below w.heap.size w wr) ∧ Hid (w2.heap.size ≤ wr.heap.size)) (fun _ wr => M.length - (wr.iterSeen ri).size)
  case atStart => exact ⟨[], [], 0, HI2, Lib.hid ⟨HM2.out, ⟨List.Pairwise.nil, by simp, by simp, List.Pairwise.nil⟩, rfl⟩, Lib.hid (World.ownsRow_nil _ _ _ _), HB2, Lib.hid (Nat.le_refl _)⟩
  case round =>
    obtain ⟨D, Mo, co, HI, HM, HR, HB, HS⟩ := hrel
    have hSz := HS.out
    rcases next_mp HO.out.ok (HO.out.below HB.out).map HI.out hrm Tryz.prog with ⟨hperm, hrun⟩ | ⟨q, hq, hqD, hlen, w3, hI3, ho3, hrun, hen⟩
    · obtain ⟨A, c, rfl⟩ := own_slice HR.out
      have HPM := Lib.hid hperm
      obtain ⟨nE, enE⟩ : ∃ z, z = (enD p a D).length := ⟨_, rfl⟩
      have hnE : nE ≤ 6 := by have := enD_len (p := p) (a := a) (D := D); have := mp_len HO.out.ok; have := hperm.length_eq; omega
      have HSO := Lib.hid (sortE_any (enD p a D) nE c w2.heap.size A wr enE.symm (by omega) (by rw [enE]; exact HR.out))
      rw [← enE]
      have HNE := Lib.hid enE
      clear hperm enE
      go_wp2_with (fail)
      refine HSO.out.mono ?_
      rintro e w4 ⟨rfl, E, hE, hEl, hEs, ho4, hg4⟩
      have HEL := Lib.hid (endL_of HO.out.ok HPM.out hE hEs)
      have HB4 := Lib.hid (HB.out.grown hg4 HB.out.size (fun k hk => by have := (ho4.lt k hk).1; have := HB2.out.size; omega))
      have hs4 := hg4.size
      have HM4 := Lib.hid (show MpI w4 mo Mo co from (hg4.block mo HM.out.1.lt (fun e => by have := (ho4.lt mo e.symm).1; omega)).trans HM.out.1)
      have HG4 := Lib.hid hg4
      have HR4 := Lib.hid ho4
      have hb4 := (HO.out.below HB4.out).blk
      unfold ofB at hb4
      have c3 := cell_of_blk (j := 3) hb4 rfl
      have hlo4 := (Array.getElem?_eq_some_iff.1 hb4).1
      have hk := HP.out.kept
      have hwk : IntKind.i64.wrap ((nE : Int) - p.kept) = (nE : Int) - p.kept := by rw [IntKind.wrap_i64]; omega
      have hcap := own_cap ho4
      clear hE hEs hg4 ho4 hb4
      go_wp2_with (fail)
      obtain ⟨kd, hkd⟩ : ∃ kd : Nat, max 0 ((nE : Int) - p.kept) = (kd : Int) := ⟨nE - p.kept.toNat, by omega⟩
      have HKD := Lib.hid (show outL p E = E.take kd from by unfold outL; rw [hEl]; congr 1; omega)
      have hkn : kd ≤ nE := by omega
      rw [hkd, Int.toNat_natCast]
      have HEN := Lib.hid hEl
      clear hkd hwk hk c3 hEl
      go_loopw [50] (fun s wx => ∃ (i : Nat) (Mi : Mp) (ci : Nat), i ≤ kd ∧ s = .int .i64 (i : Int) ∧ Hid (MpI wx mo Mi ci ∧ MpOk Mi ci ∧ ∀ k, fM Mi k = if k ∈ (E.take i).map (·.l.id) then none else fM (gD p a D) k) ∧ Hid (w4.grownBy wx (some mo))) (fun s _ => kd - (intOf s).toNat)
      case atStart => exact ⟨0, Mo, co, by omega, rfl, Lib.hid ⟨HM4.out, HM.out.2.1, fun k => by rw [HM.out.2.2]; simp⟩, Lib.hid (grown_refl _ _)⟩
      case round =>
        obtain ⟨i, Mi, ci, hi, rfl, HMi, HGi⟩ := hrel
        by_cases hlt : i < kd
        · have hltI : (i : Int) < kd := by omega
          obtain ⟨n, hn⟩ : ∃ n, E[i]? = some n := ⟨_, List.getElem?_eq_getElem (by have := HEN.out; omega)⟩
          obtain ⟨ab, o2, rfl, hab, hC⟩ := (own_row (own_kept HR4.out HGi.out (by omega))).posR onC_len (by omega) (by have := HEN.out; omega)
          have k0 : wr.cell? ⟨ab, o2 + i * 9, none⟩ = some (.string (idL n.l.id)) := rec_cell onC_len hC i n hn 0 _ rfl
          have k1 := rec_cell onC_len hC i n hn 1 _ rfl
          have k2 := rec_cell onC_len hC i n hn 2 _ rfl
          have k3 := rec_cell onC_len hC i n hn 3 _ rfl
          have k4 := rec_cell onC_len hC i n hn 4 _ rfl
          have k5 := rec_cell onC_len hC i n hn 5 _ rfl
          have k6 := rec_cell onC_len hC i n hn 6 _ rfl
          have k7 := rec_cell onC_len hC i n hn 7 _ rfl
          have k8 := rec_cell onC_len hC i n hn 8 _ rfl
          have hbl : ab < wr.heap.size := by omega
          have hid6 : n.l.id < 6 := by
            obtain ⟨j, m', hm', e, _⟩ := (HEL.out.2 n).1 (List.mem_of_getElem? hn)
            rw [e, (gro_cases p m' a).1]
            exact (HF.out.ol _ _ hm').id
          have HNI := Lib.hid hn
          have hin : i < nE := by omega
          clear hC hn
          go_upto_region 14 with (fail)
          obtain ⟨g, eg⟩ : ∃ z, z = wr.heap.size := ⟨_, rfl⟩
          obtain ⟨w5, e5⟩ : ∃ V : World, V = wr.alloc (.cells #[.string (idL n.l.id), .string (slL n.l.sl), .string (boL n.l.bo), .int .i64 n.l.pr, .int .i64 n.l.at_, .int .i64 n.l.un, .int .i64 n.s, .int .i64 n.t, .int .i64 n.c] 40) := ⟨_, rfl⟩
          have hb5 : Below wr.heap.size wr w5 := by rw [e5]; exact (Below.refl _ _).alloc (Nat.le_refl _) _
          have hg5 : w5.heap[g]? = some (.cells #[.string (idL n.l.id), .string (slL n.l.sl), .string (boL n.l.bo), .int .i64 n.l.pr, .int .i64 n.l.at_, .int .i64 n.l.un, .int .i64 n.s, .int .i64 n.t, .int .i64 n.c] 40 (0, 0)) := by rw [e5, eg]; exact heap_new wr _
          rw [← eg, ← e5]
          clear eg e5 k0 k1 k2 k3 k4 k5 k6 k7 k8
          obtain ⟨w6, Mj, hdl, hM6, hK6, ho6, hfM⟩ := del_mp (P := Tryz.prog) (w := w5) Tryz.underlying80 Tryz.underlying9 (i := n.l.id) hid6 HMi.out.2.1 (HMi.out.1.below hb5)
          have d0 := cell_of_blk (j := 0) hg5 rfl
          have hlg5 := (Array.getElem?_eq_some_iff.1 hg5).1
          have HM6 := Lib.hid (show MpI w6 mo Mj ci ∧ MpOk Mj ci ∧ ∀ k, fM Mj k = if k ∈ (E.take (i + 1)).map (·.l.id) then none else fM (gD p a D) k from ⟨hM6, hK6, fun k => by rw [hfM]; exact del_step HNI.out HMi.out.2.2 k⟩)
          have HG6 := Lib.hid (show w4.grownBy w6 (some mo) from grown_trans (grown_below HGi.out hb5) ho6.grown)
          clear hM6 hK6 ho6 hfM hb5 hg5
          go_wp2_with (fail)
          go_roundw
          case rel => exact ⟨i + 1, Mj, ci, by omega, by go_num, HM6, HG6⟩
          case measure => simp [intOf]; omega
        · have hltI : ¬ (i : Int) < kd := by omega
          have HFI := Lib.hid (show AgPost w p (fM M) a (.returned (.map (some mo))) wr from ⟨mo, ci, Mi, rfl, HMi.out.1, HMi.out.2.1, aged_of HO.out.ok HPM.out HEL.out (fun k => by rw [HKD.out, HMi.out.2.2 k, show i = kd by omega]), HB4.out.grown HGi.out HB4.out.size (fun k hk => by cases hk; exact hwm), hwm⟩)
          go_wp2_with (fail)
          refine bodyPost_ret (v := .map (some mo)) (by simp [results, Tryz.results46, go_sem]) rfl HFI.out
    · have HQ := Lib.hid (And.intro hq (And.intro hqD hlen))
      have HI3 := Lib.hid hI3
      have HO3 := Lib.hid ho3
      have hfq : fM M q.2.l.id = some q.2 := (fM_mem HO.out.ok.nd).2 ⟨rfl, q.1, hq⟩
      have HOL := Lib.hid (HF.out.ol _ _ hfq)
      have HC := Lib.hid (show 0 ≤ q.2.c ∧ q.2.c ≤ 100000000 from by have h1 := HF.out.c _ _ hfq; have h2 := HOL.out.un; have h3 := HOL.out.at0; omega)
      have HB3 := Lib.hid (Oth.below HB.out ho3 hwri)
      obtain ⟨n, en⟩ : ∃ z, z = q.2 := ⟨_, rfl⟩
      rw [← en] at hrun hen HOL HC
      have HEN := Lib.hid en
      unfold onV at hrun hen
      clear hq hqD hlen hI3 ho3 hfq en
      go_upto_region 6 with (fail)
      obtain ⟨g, eg⟩ : ∃ z, z = w3.heap.size := ⟨_, rfl⟩
      obtain ⟨w5, e5⟩ : ∃ V : World, V = w3.alloc (.cells #[.string (idL n.l.id), .string (slL n.l.sl), .string (boL n.l.bo), .int .i64 n.l.pr, .int .i64 n.l.at_, .int .i64 n.l.un, .int .i64 n.s, .int .i64 n.t, .int .i64 n.c] 40) := ⟨_, rfl⟩
      have hb5 : Below w3.heap.size w3 w5 := by rw [e5]; exact (Below.refl _ _).alloc (Nat.le_refl _) _
      have hg5 : w5.heap[g]? = some (.cells #[.string (idL n.l.id), .string (slL n.l.sl), .string (boL n.l.bo), .int .i64 n.l.pr, .int .i64 n.l.at_, .int .i64 n.l.un, .int .i64 n.s, .int .i64 n.t, .int .i64 n.c] 40 (0, 0)) := by rw [e5, eg]; exact heap_new w3 _
      have hgw3 : w3.heap.size ≤ g := by omega
      have hs3 : w3.heap.size = wr.heap.size := HO3.out.size
      have hgr : wr.heap.size ≤ g := by omega
      rw [← eg, ← e5]
      clear eg e5
      have hs35 := hb5.size
      have hlg5 : g < w5.heap.size := (Array.getElem?_eq_some_iff.1 hg5).1
      have HB5 := Lib.hid (HB3.out.trans (hb5.mono HB3.out.size))
      have HI5 := Lib.hid (HI3.out.keep (hb5.block ri (by have := HI3.out.lt; omega)))
      have HM5 := Lib.hid (show MpI w5 mo Mo co from MpI.below (show MpI w3 mo Mo co from (HO3.out.blk mo (Ne.symm hrmo)).trans HM.out.1) hb5)
      have HR5 := Lib.hid (own_below (own_oth HR.out HO3.out (fun b hb => by have := (HR.out.lt b hb).1; omega)) hb5)
      have HGR := Lib.hid (grown_any w5 o m ck M p tm a n (HO.out.below HB5.out) HP.out HOL.out HC.out)
      obtain ⟨n2, en2⟩ : ∃ z, z = gro p n a := ⟨_, rfl⟩
      have HN2 := Lib.hid en2
      have HKEY := Lib.hid (show idL n.l.id = idL n2.l.id from by rw [en2, (gro_cases p n a).1])
      have hid6 : n2.l.id < 6 := by rw [en2, (gro_cases p n a).1]; exact HOL.out.id
      rw [← en2] at HGR
      unfold onV at HGR
      clear en2 hb5 hs3
      have k0 := cell_of_blk (j := 0) hg5 rfl
      have k1 := cell_of_blk (j := 1) hg5 rfl
      have k2 := cell_of_blk (j := 2) hg5 rfl
      have k3 := cell_of_blk (j := 3) hg5 rfl
      have k4 := cell_of_blk (j := 4) hg5 rfl
      have k5 := cell_of_blk (j := 5) hg5 rfl
      have k6 := cell_of_blk (j := 6) hg5 rfl
      have k7 := cell_of_blk (j := 7) hg5 rfl
      have k8 := cell_of_blk (j := 8) hg5 rfl
      go_wp2_with (fail)
      refine HGR.out.mono ?_
      rintro e w6 ⟨rfl, hb6⟩
      have hg6 := (hb6.block g hlg5).trans hg5
      have hs56 := hb6.size
      have HB6 := Lib.hid (HB5.out.trans (hb6.mono HB5.out.size))
      have HI6 := Lib.hid (HI5.out.keep (hb6.block ri HI5.out.lt))
      have HM6 := Lib.hid (HM5.out.below hb6)
      have HR6 := Lib.hid (own_below HR5.out hb6)
      clear hb6 HGR k0 k1 k2 k3 k4 k5 k6 k7 k8
      have k0 := cell_of_blk (j := 0) hg6 rfl
      have k1 := cell_of_blk (j := 1) hg6 rfl
      have k2 := cell_of_blk (j := 2) hg6 rfl
      have k3 := cell_of_blk (j := 3) hg6 rfl
      have k4 := cell_of_blk (j := 4) hg6 rfl
      have k5 := cell_of_blk (j := 5) hg6 rfl
      have k6 := cell_of_blk (j := 6) hg6 rfl
      have k7 := cell_of_blk (j := 7) hg6 rfl
      have k8 := cell_of_blk (j := 8) hg6 rfl
      have hf6 : ∀ j, w6.frozen? ⟨g, j, none⟩ = false := by intro j; simp [World.frozen?, hg6]
      have f0 := hf6 0
      have f1 := hf6 1
      have f2 := hf6 2
      have f3 := hf6 3
      have f4 := hf6 4
      have f5 := hf6 5
      have f6 := hf6 6
      have f7 := hf6 7
      have f8 := hf6 8
      have hlg6 : g < w6.heap.size := by omega
      have HG6 := Lib.hid hg6
      clear hg6 hf6 hg5
      go_upto_region 7 with (fail)
      obtain ⟨w7, e7⟩ : ∃ V : World, V = (((((((((w6.setCell ⟨g, 0, none⟩ (.string (idL n2.l.id))).setCell ⟨g, 1, none⟩ (.string (slL n2.l.sl))).setCell ⟨g, 2, none⟩ (.string (boL n2.l.bo))).setCell ⟨g, 3, none⟩ (.int .i64 n2.l.pr)).setCell ⟨g, 4, none⟩ (.int .i64 n2.l.at_)).setCell ⟨g, 5, none⟩ (.int .i64 n2.l.un)).setCell ⟨g, 6, none⟩ (.int .i64 n2.s)).setCell ⟨g, 7, none⟩ (.int .i64 n2.t)).setCell ⟨g, 8, none⟩ (.int .i64 n2.c)) := ⟨_, rfl⟩
      have hW := set9O w6 g 40 (.string (idL n.l.id)) (.string (slL n.l.sl)) (.string (boL n.l.bo)) (.int .i64 n.l.pr) (.int .i64 n.l.at_) (.int .i64 n.l.un) (.int .i64 n.s) (.int .i64 n.t) (.int .i64 n.c) (.string (idL n2.l.id)) (.string (slL n2.l.sl)) (.string (boL n2.l.bo)) (.int .i64 n2.l.pr) (.int .i64 n2.l.at_) (.int .i64 n2.l.un) (.int .i64 n2.s) (.int .i64 n2.t) (.int .i64 n2.c) HG6.out w7 e7
      rw [← e7, HKEY.out]
      clear e7 k0 k1 k2 k3 k4 k5 k6 k7 k8 f0 f1 f2 f3 f4 f5 f6 f7 f8
      have hgmo : g ≠ mo := by omega
      have hgri : g ≠ ri := by omega
      have HO7 := Lib.hid hW.2
      have HB7 := Lib.hid (Oth.below HB6.out hW.2 (by omega))
      have HM7 := Lib.hid (show MpI w7 mo Mo co from (hW.2.blk mo (Ne.symm hgmo)).trans HM6.out)
      obtain ⟨w8, Mo', co', hup, hM8, hK8, ho8, hfM⟩ := upd_mp (P := Tryz.prog) (w := w7) Tryz.underlying80 Tryz.underlying9 (n := n2) hid6 HM.out.2.1 HM7.out
      unfold onV at hup
      have hg7 := hW.1
      have hg8 := (ho8.blk g hgmo).trans hg7
      have k0 := cell_of_blk (j := 0) hg7 rfl
      have k1 := cell_of_blk (j := 1) hg7 rfl
      have k2 := cell_of_blk (j := 2) hg7 rfl
      have k3 := cell_of_blk (j := 3) hg7 rfl
      have k4 := cell_of_blk (j := 4) hg7 rfl
      have k5 := cell_of_blk (j := 5) hg7 rfl
      have k6 := cell_of_blk (j := 6) hg7 rfl
      have k7 := cell_of_blk (j := 7) hg7 rfl
      have k8 := cell_of_blk (j := 8) hg7 rfl
      have l0 := cell_of_blk (j := 0) hg8 rfl
      have l1 := cell_of_blk (j := 1) hg8 rfl
      have l2 := cell_of_blk (j := 2) hg8 rfl
      have l3 := cell_of_blk (j := 3) hg8 rfl
      have l4 := cell_of_blk (j := 4) hg8 rfl
      have l5 := cell_of_blk (j := 5) hg8 rfl
      have l6 := cell_of_blk (j := 6) hg8 rfl
      have l7 := cell_of_blk (j := 7) hg8 rfl
      have l8 := cell_of_blk (j := 8) hg8 rfl
      have hlg8 : g < w8.heap.size := (Array.getElem?_eq_some_iff.1 hg8).1
      have HB8 := Lib.hid (Oth.below HB7.out ho8 hwm)
      have HI8 := Lib.hid (HI6.out.keep ((ho8.blk ri hrmo).trans (HO7.out.blk ri (Ne.symm hgri))))
      have HR8 := Lib.hid (own_oth (own_oth HR6.out HO7.out (fun b hb => by have := (HR.out.lt b hb).2; omega)) ho8 (fun b hb => by have := (HR.out.lt b hb).1; omega))
      have HM8 := Lib.hid (show MpI w8 mo Mo' co' ∧ MpOk Mo' co' ∧ fM Mo' = fM (gD p a (D ++ [q])) from ⟨hM8, hK8, by rw [hfM, HM.out.2.2, HN2.out, HEN.out]; exact setO_snoc (HI3.out.nd HO.out.ok)⟩)
      have hs8 : w7.heap.size = w6.heap.size := HO7.out.size
      have hs9 : w8.heap.size = w7.heap.size := ho8.size
      have HSN := Lib.hid (enD_snoc p a D q)
      rw [← HEN.out, ← HN2.out] at HSN
      have HE1 := Lib.hid (ended_any n2.s)
      clear hM8 hK8 hfM ho8 hg7 hW HM5 HM6 HM7 HR5 HR6 HI5 HI6
      cases hen2 : enB n2.s with
      | false =>
        rw [hen2] at HE1 HSN
        clear hg8 hen2
        go_wp2_with (go_at_call 77; refine (HE1.out _).mono ?_; rintro e w' ⟨rfl, rfl⟩)
        go_roundw
        case rel => exact ⟨D ++ [q], Mo', co', HI8, HM8, Lib.hid (by rw [HSN.out]; exact HR8.out), HB8, Lib.hid (by omega)⟩
        case measure => rw [HI8.out.len, HI.out.len]; have := HQ.out.2.2; simp; omega
      | true =>
        rw [hen2] at HE1 HSN
        clear hg8 hen2
        obtain ⟨tl, etl⟩ : ∃ z, z = (enD p a D).length := ⟨_, rfl⟩
        have htl : tl ≤ 6 := by have := enD_len (p := p) (a := a) (D := D); have := mp_len HO.out.ok; have := HQ.out.2.2; omega
        rw [← etl] at HR8
        have HTL := Lib.hid etl
        clear etl
        go_wp2_with (first | (go_at_call 77; refine (HE1.out _).mono ?_; rintro e w' ⟨rfl, rfl⟩) | (at_builtin; refine wpList_append_own2 _ rfl _ _ 28 rfl w2.heap.size 40 i0 _ 9 96 Tryz.underlying28 hi0 hz0 hz1 hz2 rfl (by decide) _ _ _ rfl (HR8.out.alloc _) ⟨_, 0, none⟩ 1 1 (onC n2) rfl rfl ?c1 ?c2 ?c3 ?c4 ?c5 ?_))
        case c1 => exact cells_add (cells_atO (by rfl) (by omega))
        case c2 => exact onC_one n2
        case c3 => unfold maxLen; omega
        case c4 => omega
        case c5 => first | omega | (simp; omega)
        intro v9 w9 ho9 hg9 hm9
        have hlo : ∀ k, u6.ownBlock = some k → w2.heap.size ≤ k := fun k hk => (HR8.out.lt k hk).1
        have hs28 : w2.heap.size ≤ w8.heap.size := by omega
        have hb89 : Below w2.heap.size w8 w9 := ((Below.refl w2.heap.size w8).alloc hs28 _).grown hg9 (by simp; omega) hlo
        have HI9 := Lib.hid (HI8.out.keep (hb89.block ri (by omega)))
        have HM9 := Lib.hid (show MpI w9 mo Mo' co' ∧ MpOk Mo' co' ∧ fM Mo' = fM (gD p a (D ++ [q])) from ⟨(hb89.block mo (by omega)).trans HM8.out.1, HM8.out.2⟩)
        have HB9 := Lib.hid (show Below w.heap.size w w9 from ⟨hb89.os.trans HB8.out.os, hb89.tape.trans HB8.out.tape, hb89.output.trans HB8.out.output, Nat.le_trans HB8.out.size hb89.size, fun b hb => (hb89.block b (by have := HB2.out.size; omega)).trans (HB8.out.block b hb)⟩)
        have HR9 := Lib.hid (show w9.ownsRow w2.heap.size 40 9 v9 (enD p a (D ++ [q])).length (recs onC (enD p a (D ++ [q]))) from by
          have e := HSN.out
          simp only [if_true] at e
          rw [e, recs_snoc, List.length_append, ← HTL.out]
          exact ho9)
        have hs89 := hb89.size
        clear ho9 hg9 hm9 hlo hb89
        go_wp2_with (fail)
        go_roundw
        case rel => exact ⟨D ++ [q], Mo', co', HI9, HM9, HR9, HB9, Lib.hid (by omega)⟩
        case measure => rw [HI9.out.len, HI.out.len]; have := HQ.out.2.2; simp; omega
end Go.Proofs.YtnnncddjcdjhoaaGreatDoor
