/- Wake and Notes of offices. Printed by gen_OfW.py. -/
import Derived.Test.YtnnncddjcdjhoaaGreatDoorOfV
namespace Go.Proofs.YtnnncddjcdjhoaaGreatDoor
open Go.RowKit

def WakePost (w : World) (o : Nat) (p : Po) (f : Of) (a : Int) (e : Ending) (w' : World) : Prop :=
  ∃ (h : Of) (m' ck' : Nat) (M' : Mp) (k : Int), Aged p f a h ∧ e = .returned (.tuple #[.int .i64 k, .int .i64 0]) ∧ ((k = -1 ∧ ∀ i n, h i = some n → enB n.s = true) ∨ (a < k ∧ ∃ i n, h i = some n ∧ enB n.s = false)) ∧ OfI w' o m' ck' M' p a ∧ w.grownBy w' (some o) ∧ fM M' = h
def NoteL (h : Of) (L : List On) : Prop := L.Pairwise (fun x y => x.l.id < y.l.id) ∧ ∀ n, n ∈ L ↔ ∃ i, h i = some n
def NotesPost (w : World) (o : Nat) (p : Po) (f : Of) (a : Int) (e : Ending) (w' : World) : Prop :=
  ∃ (h : Of) (L : List On) (v : Value) (m' ck' : Nat) (M' : Mp), Aged p f a h ∧ NoteL h L ∧ e = .returned (.tuple #[v, .int .i64 0]) ∧ w'.ownsRow w.heap.size 40 9 v L.length (recs onC L) ∧ OfI w' o m' ck' M' p a ∧ w.grownBy w' (some o) ∧ fM M' = h
theorem noteL_of {M D : Mp} {ck : Nat} {L : List On} (hM : MpOk M ck) (hp : D.Perm M) (hL : L.Perm (D.map (·.2))) (hs : L.Pairwise (fun x y => min x.l.id 5 ≤ min y.l.id 5)) : NoteL (fM M) L := by
  have hD : NdM D := nd_of_sub hM (fun x hx => hp.mem_iff.1 hx) (hp.nodup_iff.2 hM.nodup)
  have hmem : ∀ n, n ∈ L ↔ ∃ q ∈ D, q.2 = n := by
    intro n
    rw [hL.mem_iff, List.mem_map]
  have hid : ∀ n ∈ L, n.l.id < 6 := by
    intro n hn
    obtain ⟨q, hq, rfl⟩ := (hmem n).1 hn
    exact hM.id q (hp.mem_iff.1 hq)
  have hne : L.Pairwise (fun x y => x.l.id ≠ y.l.id) := by
    have h1 : (D.map (·.2)).Pairwise (fun x y => x.l.id ≠ y.l.id) := by
      rw [List.pairwise_map]
      exact hD
    exact (hL.pairwise_iff (fun h => Ne.symm h)).2 h1
  refine ⟨?_, ?_⟩
  · refine List.Pairwise.imp_of_mem ?_ (hs.and hne)
    intro x y hx hy ⟨h1, h2⟩
    have := hid x hx
    have := hid y hy
    omega
  · intro n
    rw [hmem]
    constructor
    · rintro ⟨q, hq, rfl⟩
      exact ⟨q.2.l.id, (fM_mem hM.nd).2 ⟨rfl, q.1, hp.mem_iff.1 hq⟩⟩
    · rintro ⟨i, hi⟩
      obtain ⟨_, b, hb⟩ := (fM_mem hM.nd).1 hi
      exact ⟨(b, n), hp.mem_iff.2 hb, rfl⟩
set_option maxRecDepth 100000 in
set_option maxHeartbeats 8000000 in
theorem notes_any (w : World) (o m ck : Nat) (M : Mp) (p : Po) (tm a : Int) (h : OfI w o m ck M p tm) (hp : PoOk p) (hf : OfOk p (fM M) tm) (ht : tm ≤ a) (ha : 0 ≤ a ∧ a ≤ 10000000) :
    Calls Tryz.prog 13 #[.pointer (some ⟨o, 0, none⟩), .int .i64 a] w fun e w' => NotesPost w o p (fM M) a e w' := by
  obtain ⟨i0, hi0, hz0, hz1, hz2⟩ := info_parts Tryz.infoOn
  have HO := Lib.hid h
  have HP := Lib.hid hp
  have HF := Lib.hid hf
  have HTF := Lib.hid (timeFault_no w o m ck M p tm a h ht ha.1 (by omega))
  have HAG := Lib.hid (aged_any w o m ck M p tm a h hp hf ht)
  unfold AgPost at HAG
  clear h hp hf
  go_enter Tryz.func13, Tryz.ntmps13
  go_wp2_with (go_at_call 45; refine HTF.out.mono ?_; rintro e w' ⟨rfl, rfl⟩)
  refine HAG.out.mono ?_
  rintro e w4 ⟨m1, ck1, M1, rfl, hm1, hM1, hag, hb4, hlm⟩
  have HK1 := Lib.hid hM1
  have HAD := Lib.hid hag
  have HOK := Lib.hid (hag.ok HP.out HF.out ht)
  have HKP := Lib.hid (keep_any w4 o m m1 ck ck1 M M1 p tm a (HO.out.below hb4) hm1 hM1)
  have HB4 := Lib.hid hb4
  clear hm1 hM1 hag hb4 HTF HAG
  go_wp2_with (fail)
  refine HKP.out.mono ?_
  rintro e w5 ⟨rfl, hof, hoo⟩
  have HO5 := Lib.hid hof
  have HG5 := Lib.hid (show w.grownBy w5 (some o) from ⟨hoo.os.trans HB4.out.os, hoo.tape.trans HB4.out.tape, hoo.output.trans HB4.out.output, by rw [hoo.size]; exact HB4.out.size, fun b hb hne => (hoo.blk b (fun e => hne (by rw [e]))).trans (HB4.out.block b hb)⟩)
  have hob := hof.blk
  unfold ofB at hob
  have c4 := cell_of_blk (j := 4) hob rfl
  have hlo := (Array.getElem?_eq_some_iff.1 hob).1
  have hm5 := hof.map
  have hlm5 := hm5.lt
  unfold MpI at hm5
  have hrg := run_range_map (P := Tryz.prog) w5 80 9 40 m1 _ _ Tryz.underlying80 hm5
  obtain ⟨ri, eri⟩ : ∃ g, g = w5.heap.size := ⟨_, rfl⟩
  obtain ⟨w6, e6⟩ : ∃ V : World, V = w5.alloc (.mapIter (some m1) ck1 #[] ck1) := ⟨_, rfl⟩
  have hb6 : Below w5.heap.size w5 w6 := by rw [e6]; exact (Below.refl _ _).alloc (Nat.le_refl _) _
  have HI6 := Lib.hid (show ItI w6 ri m1 M1 ck1 [] from ItI.new (by rw [e6, eri]; exact heap_new w5 _))
  have hrm : ri ≠ m1 := by omega
  have hw5 : w5.heap.size ≤ ri := by omega
  clear hof hoo hob HKP
  go_wp2_with (fail)
  rw [← eri, ← e6]
  have HB6 := Lib.hid hb6
  clear hrg eri e6 hb6 c4 hm5
  have hml := mp_len HK1.out
  obtain ⟨f1, ef1⟩ : ∃ f1, f1 = fM M1 := ⟨_, rfl⟩
  have HF1 := Lib.hid ef1
  rw [← ef1] at HAD HOK
  clear ef1
  go_loopw [7] (fun v wr => ∃ (D : Mp), Hid (ItI wr ri m1 M1 ck1 D) ∧ Hid (Below w5.heap.size w5 wr) ∧ Hid (wr.ownsRow w6.heap.size 40 9 v D.length (recs onC (D.map (·.2)))) ∧ Hid (w6.heap.size ≤ wr.heap.size)) (fun _ wr => M1.length - (wr.iterSeen ri).size)
  case atStart => exact ⟨[], HI6, HB6, Lib.hid (World.ownsRow_nil _ _ _ _), Lib.hid (Nat.le_refl _)⟩
  case round =>
    obtain ⟨D, HI, HB, HR, HS⟩ := hrel
    have hri6 : ri < w6.heap.size := HI6.out.lt
    rcases next_mp HK1.out (HO5.out.below HB.out).map HI.out hrm Tryz.prog with ⟨hperm, hrun⟩ | ⟨q, hq, hqD, hlen, w7, hI7, ho7, hrun, hen⟩
    · obtain ⟨A, c, rfl⟩ := own_slice HR.out
      have HPM := Lib.hid hperm
      obtain ⟨nD, enD⟩ : ∃ z, z = D.length := ⟨_, rfl⟩
      have hnD : nD ≤ 6 := by have := hperm.length_eq; omega
      have HSO := Lib.hid (sortI_any (D.map (·.2)) nD c w6.heap.size A wr (by rw [List.length_map]; exact enD.symm) (by omega) (by rw [enD]; exact HR.out))
      rw [← enD]
      clear hperm enD hml
      go_wp2_with (fail)
      refine HSO.out.mono ?_
      rintro e w8 ⟨rfl, L, hL, hLl, hLs, ho8, hg8⟩
      have HB8 := Lib.hid (show Below w5.heap.size w5 w8 from HB.out.grown hg8 HB.out.size (fun k hk => by have := (ho8.lt k hk).1; have := HB6.out.size; omega))
      have HFI := Lib.hid (show NotesPost w o p (fM M) a (.returned (.tuple #[.slice A nD c, .int .i64 0])) w8 from
        ⟨f1, L, .slice A nD c, m1, ck1, M1, HAD.out, by rw [HF1.out]; exact noteL_of HK1.out HPM.out hL hLs, rfl, own_baseO (by rw [hLl]; exact ho8) (by have := HG5.out.size; have := HB6.out.size; omega), HO5.out.below HB8.out, ⟨HB8.out.os.trans HG5.out.os, HB8.out.tape.trans HG5.out.tape, HB8.out.output.trans HG5.out.output, Nat.le_trans HG5.out.size HB8.out.size, fun b hb hne => (HB8.out.block b (Nat.lt_of_lt_of_le hb HG5.out.size)).trans (HG5.out.block b hb hne)⟩, HF1.out.symm⟩)
      clear hL hLl hLs ho8 hg8
      go_wp2_with (fail)
      exact bodyPost_ret (v := .tuple #[.slice A nD c, .int .i64 0]) (by simp [results, Tryz.results13, go_sem]) rfl HFI.out
    · have HQ := Lib.hid hlen
      have HI7 := Lib.hid hI7
      have HO7 := Lib.hid ho7
      have HB7 := Lib.hid (Oth.belowT HB.out ho7 hw5)
      obtain ⟨n, en⟩ : ∃ z, z = q.2 := ⟨_, rfl⟩
      have hfq : f1 n.l.id = some n := by rw [HF1.out, en]; exact (fM_mem HK1.out.nd).2 ⟨rfl, q.1, hq⟩
      have HEN := Lib.hid en
      have HFQ := Lib.hid hfq
      rw [← en] at hrun hen
      unfold onV at hrun hen
      clear hq hqD hlen hI7 en ho7 hfq
      go_upto_region 9 with (fail)
      obtain ⟨g, eg⟩ : ∃ z, z = w7.heap.size := ⟨_, rfl⟩
      obtain ⟨w8, e8⟩ : ∃ V : World, V = w7.alloc (.cells #[.string (idL n.l.id), .string (slL n.l.sl), .string (boL n.l.bo), .int .i64 n.l.pr, .int .i64 n.l.at_, .int .i64 n.l.un, .int .i64 n.s, .int .i64 n.t, .int .i64 n.c] 40) := ⟨_, rfl⟩
      have hb8 : Below w7.heap.size w7 w8 := by rw [e8]; exact (Below.refl _ _).alloc (Nat.le_refl _) _
      have hg8 : w8.heap[g]? = some (.cells #[.string (idL n.l.id), .string (slL n.l.sl), .string (boL n.l.bo), .int .i64 n.l.pr, .int .i64 n.l.at_, .int .i64 n.l.un, .int .i64 n.s, .int .i64 n.t, .int .i64 n.c] 40 (0, 0)) := by rw [e8, eg]; exact heap_new w7 _
      rw [← eg, ← e8]
      clear eg e8
      have hlg8 : g < w8.heap.size := (Array.getElem?_eq_some_iff.1 hg8).1
      have k0 := cell_of_blk (j := 0) hg8 rfl
      have k1 := cell_of_blk (j := 1) hg8 rfl
      have k2 := cell_of_blk (j := 2) hg8 rfl
      have k3 := cell_of_blk (j := 3) hg8 rfl
      have k4 := cell_of_blk (j := 4) hg8 rfl
      have k5 := cell_of_blk (j := 5) hg8 rfl
      have k6 := cell_of_blk (j := 6) hg8 rfl
      have k7 := cell_of_blk (j := 7) hg8 rfl
      have k8 := cell_of_blk (j := 8) hg8 rfl
      have HI8 := Lib.hid (HI7.out.keep (hb8.block ri HI7.out.lt))
      have HB8 := Lib.hid (show Below w5.heap.size w5 w8 from HB7.out.trans (hb8.mono HB7.out.size))
      have HR8 := Lib.hid (own_below (own_oth HR.out HO7.out (fun b hb => by have := (HR.out.lt b hb).1; omega)) hb8)
      have HS8 := Lib.hid (show w6.heap.size ≤ w8.heap.size from by have := hb8.size; have := HO7.out.size; have := HS.out; omega)
      clear hb8 hg8
      obtain ⟨tl, etl⟩ : ∃ z, z = D.length := ⟨_, rfl⟩
      have htl : tl ≤ 6 := by have := HQ.out; omega
      rw [← etl] at HR8
      have HTL := Lib.hid etl
      clear etl hml
      go_wp2_with (at_builtin; refine wpList_append_own2 _ rfl _ _ 28 rfl w6.heap.size 40 i0 _ 9 96 Tryz.underlying28 hi0 hz0 hz1 hz2 rfl (by decide) _ _ _ rfl (HR8.out.alloc _) ⟨_, 0, none⟩ 1 1 (onC n) rfl rfl ?c1 ?c2 ?c3 ?c4 ?c5 ?_)
      case c1 => exact cells_add (cells_atO (by rfl) (by first | rfl | omega))
      case c2 => exact onC_one n
      case c3 => unfold maxLen; omega
      case c4 => omega
      case c5 => have := HS8.out; first | omega | (simp; omega)
      intro v9 w9 ho9 hg9 hm9
      have hlo : ∀ k, u7.ownBlock = some k → w6.heap.size ≤ k := fun k hk => (HR8.out.lt k hk).1
      have hb89 : Below w6.heap.size w8 w9 := ((Below.refl w6.heap.size w8).alloc HS8.out _).grown hg9 (by have := HS8.out; simp; omega) hlo
      have HI9 := Lib.hid (HI8.out.keep (hb89.block ri hri6))
      have HB9 := Lib.hid (show Below w5.heap.size w5 w9 from ⟨hb89.os.trans HB8.out.os, hb89.tape.trans HB8.out.tape, hb89.output.trans HB8.out.output, Nat.le_trans HB8.out.size hb89.size, fun b hb => (hb89.block b (by have := HB6.out.size; omega)).trans (HB8.out.block b hb)⟩)
      have HR9 := Lib.hid (show w9.ownsRow w6.heap.size 40 9 v9 (D ++ [q]).length (recs onC ((D ++ [q]).map (·.2))) from by
        rw [List.map_append, List.map_singleton, recs_snoc, List.length_append, ← HTL.out, ← HEN.out]
        exact ho9)
      have HS9 := Lib.hid (show w6.heap.size ≤ w9.heap.size from Nat.le_trans HS8.out hb89.size)
      clear ho9 hg9 hm9 hlo hb89
      go_wp2_with (fail)
      go_roundw
      case rel => exact ⟨D ++ [q], HI9, HB9, HR9, HS9⟩
      case measure => rw [HI9.out.len, HI.out.len]; have := HQ.out; simp; omega
end Go.Proofs.YtnnncddjcdjhoaaGreatDoor
