/- Letter of the stream: what it answers. -/
import Derived.Test.YtnnncddjcdjhoaaGreatDoorLrB
namespace Go.Proofs.YtnnncddjcdjhoaaGreatDoor
open Go.RowKit Go.Shelf

def lrB0 : Obj := .cells #[.string ⟨#[]⟩, .string ⟨#[]⟩, .string ⟨#[]⟩, .int .i64 0, .int .i64 0, .int .i64 0] 35 (0, 0)
theorem StB.go {w V V2 : World} {p k k' g : Nat} {xs : LiA} {o : Obj} (h : StB w p k g xs o V) (hgp : g ≠ p) (hs : Strm V2 p xs k') (hg : V.grownBy V2 (some p)) : StB w p k' g xs o V2 := by
  have hl := (Array.getElem?_eq_some_iff.1 h.blk).1
  exact ⟨hs, grown_trans h.gr hg, (hg.block g hl (by intro e; injection e with e; exact hgp e)).trans h.blk⟩
def lrBk (l : Lr) : Obj := .cells #[.string l.id, .string l.sl, .string l.bo, .int .i64 l.pr, .int .i64 l.at_, .int .i64 l.un] 35 (0, 0)
/-- A stream, the block of a result, and a letter in the making. -/
structure Lb (w : World) (p k g h : Nat) (xs : LiA) (l : Lr) (V : World) : Prop where
  st : Strm V p xs k
  gr : w.grownBy V (some p)
  b0 : V.heap[g]? = some lrB0
  b1 : V.heap[h]? = some (lrBk l)
theorem Lb.go {w V V2 : World} {p k k' g h : Nat} {xs : LiA} {l : Lr} (H : Lb w p k g h xs l V) (hgp : g ≠ p) (hhp : h ≠ p) (hs : Strm V2 p xs k') (hg : V.grownBy V2 (some p)) : Lb w p k' g h xs l V2 := by
  have hl := (Array.getElem?_eq_some_iff.1 H.b0).1
  have hl2 := (Array.getElem?_eq_some_iff.1 H.b1).1
  exact ⟨hs, grown_trans H.gr hg, (hg.block g hl (by intro e; injection e with e; exact hgp e)).trans H.b0, (hg.block h hl2 (by intro e; injection e with e; exact hhp e)).trans H.b1⟩
theorem Lb.put {w V : World} {p k g h j : Nat} {xs : LiA} {l l' : Lr} {u : Value} (H : Lb w p k g h xs l V) (hph : p < h) (hgh : g ≠ h) (hwh : w.heap.size ≤ h) (hc : (lrC l).set j u = lrC l') : Lb w p k g h xs l' (V.setCell ⟨h, j, none⟩ u) := by
  have ho : ∀ x, x ≠ h → (V.setCell ⟨h, j, none⟩ u).heap[x]? = V.heap[x]? := fun x hx => Below.heap_setCell V ⟨h, j, none⟩ u x hx
  have hz : (V.setCell ⟨h, j, none⟩ u).heap.size = V.heap.size := by simp [World.setCell]
  refine ⟨H.st.keep (fun b hb => ho b (by omega)), ⟨H.gr.os, H.gr.tape, H.gr.output, by rw [hz]; exact H.gr.size, fun b hb hne => (ho b (by omega)).trans (H.gr.block b hb hne)⟩, (ho g hgh).trans H.b0, ?_⟩
  refine (heap_setCell_same V h j _ 35 u H.b1).trans ?_
  have e : (#[.string l.id, .string l.sl, .string l.bo, .int .i64 l.pr, .int .i64 l.at_, .int .i64 l.un] : Array Value) = (lrC l).toArray := rfl
  have e2 : (#[.string l'.id, .string l'.sl, .string l'.bo, .int .i64 l'.pr, .int .i64 l'.at_, .int .i64 l'.un] : Array Value) = (lrC l').toArray := rfl
  unfold lrBk
  rw [e, e2, List.setIfInBounds_toArray, hc]
def LtPost (w : World) (p k : Nat) (xs : LiA) (a : Int) (e : Ending) (w' : World) : Prop :=
  ∃ (l : Lr) (k' : Nat), ltF xs k a = (l, k') ∧ e = .returned (.agg (lrC l).toArray) ∧ Strm w' p xs k' ∧ w.grownBy w' (some p)
set_option maxRecDepth 100000 in
set_option maxHeartbeats 4000000 in
theorem letter_any (w : World) (p k : Nat) (xs : LiA) (a : Int) (hk : k < 800000) (ha : 0 ≤ a ∧ a ≤ 1000) (hs : Strm w p xs k) :
    Calls Tryz.prog 22 #[.pointer (some ⟨p, 0, none⟩), .int .i64 a] w fun e w' => LtPost w p k xs a e w' := by
  have hplt := hs.lt
  obtain ⟨g, eg⟩ : ∃ g, g = w.heap.size := ⟨_, rfl⟩
  have hgp : g ≠ p := by omega
  have hpg : p < g := by omega
  have hwg : w.heap.size ≤ g := by omega
  have HS0 := Lib.hid (show StB w p k g xs lrB0 (w.alloc (.cells #[.string ⟨#[]⟩, .string ⟨#[]⟩, .string ⟨#[]⟩, .int .i64 0, .int .i64 0, .int .i64 0] 35)) from ⟨hs.alloc _, ⟨rfl, rfl, rfl, by simp, fun i hi _ => Below.heap_alloc w _ i hi⟩, by rw [eg]; exact heap_new w _⟩)
  clear hs
  go_enter Tryz.func22, Tryz.ntmps22
  go_upto_region 1 with (fail)
  rw [← eg]
  clear eg
  generalize w.alloc (.cells #[.string ⟨#[]⟩, .string ⟨#[]⟩, .string ⟨#[]⟩, .int .i64 0, .int .i64 0, .int .i64 0] 35) = w0 at HS0 ⊢
  go_wp2_with (fail)
  refine (rightLetterX_any w0 p k xs a (by omega) (by omega) HS0.out.st).mono ?_
  obtain ⟨l, el⟩ : ∃ l, l = rlF xs k a := ⟨_, rfl⟩
  rw [← el]
  have HEL := Lib.hid el
  clear el
  rintro e w1 ⟨rfl, hs1, hg1⟩
  have HS1 := Lib.hid (HS0.out.go hgp hs1 hg1)
  clear hs1 hg1 HS0
  simp only [lrC]
  obtain ⟨id, sl, bo, pr, at_, un⟩ := l
  simp only
  have hs1 := HS1.out.gr.size
  have hz1 := (Array.getElem?_eq_some_iff.1 HS1.out.blk).1
  obtain ⟨h, eh⟩ : ∃ h, h = w1.heap.size := ⟨_, rfl⟩
  have hph : p < h := by omega
  have hgh : g ≠ h := by omega
  have hhg : h ≠ g := by omega
  have hhp : h ≠ p := by omega
  have hwh : w.heap.size ≤ h := by omega
  have HB0 := Lib.hid (show Lb w p (k + 5) g h xs ⟨id, sl, bo, pr, at_, un⟩ (w1.alloc (.cells #[.string id, .string sl, .string bo, .int .i64 pr, .int .i64 at_, .int .i64 un] 35)) from
    ⟨HS1.out.st.alloc _, grown_trans HS1.out.gr (World.grownBy_alloc _ _ (some p)), (Below.heap_alloc _ _ g (by omega)).trans HS1.out.blk, by rw [eh]; exact heap_new w1 _⟩)
  go_upto_region 2 with (fail)
  rw [← eh]
  clear eh hz1 hs1 HS1
  generalize w1.alloc (.cells #[.string id, .string sl, .string bo, .int .i64 pr, .int .i64 at_, .int .i64 un] 35) = w2 at HB0 ⊢
  go_wp2_with (fail)
  refine (flipD_any w2 p (k + 5) xs 15 (by omega) (by omega) (by omega) HB0.out.st).mono ?_
  obtain ⟨b, eb⟩ : ∃ b : Bool, b = decide (nextV xs (k + 5) 15 = 0) := ⟨_, rfl⟩
  rw [← eb]
  have HBB := Lib.hid eb
  clear eb
  rintro e w3 ⟨rfl, hs3, hg3⟩
  have HB3 := Lib.hid (HB0.out.go hgp hhp hs3 hg3)
  clear hs3 hg3 HB0
  go_upto_if 10 with (fail)
  go_cut [] (fun wx => ∃ (l : Lr) (k' : Nat), Hid (ltF xs k a = (l, k')) ∧ Hid (Lb w p k' g h xs l wx))
  case first =>
    cases b with
    | false =>
      have HL := Lib.hid (show ltF xs k a = (⟨id, sl, bo, pr, at_, un⟩, k + 6) from by unfold ltF; rw [if_neg (by simpa using HBB.out.symm), HEL.out])
      go_wp2_with (fail)
      go_meet
      exact ⟨_, _, HL, HB3⟩
    | true =>
      have h15 : nextV xs (k + 5) 15 = 0 := by simpa using HBB.out.symm
      have HF := Lib.hid (show ltF xs k a = _ from by unfold ltF; rw [if_pos h15, ← HEL.out])
      clear h15
      go_wp2_with (fail)
      refine (next_any w3 p (k + 6) xs 5 (by omega) (by omega) HB3.out.st).mono ?_
      have hn := nextN_lt xs (k + 6) 5 (by omega)
      obtain ⟨n, en⟩ : ∃ n, n = nextN xs (k + 6) 5 := ⟨_, rfl⟩
      rw [show nextV xs (k + 6) 5 = ((nextN xs (k + 6) 5 : Nat) : Int) from nextN_eq xs (k + 6) 5 (by omega), ← en]
      rw [← en] at hn
      have HN := Lib.hid en
      clear en
      rintro e w4 ⟨rfl, hs4, hg4⟩
      have HB4 := Lib.hid (HB3.out.go hgp hhp hs4 hg4)
      clear hs4 hg4 HB3
      have hc : n = 0 ∨ n = 1 ∨ n = 2 ∨ n = 3 ∨ n = 4 := by omega
      rcases hc with rfl | rfl | rfl | rfl | rfl
      · have HF2 := Lib.hid (HF.out.trans (if_pos HN.out.symm))
        clear HF
        go_wp2_with (fail)
        refine (some_any _ p (k + 7) w4.heap.size 2 2 xs wId (by omega) rfl (by omega) (by omega) (HB4.out.st.alloc _) (by have := HB4.out.st.lt; omega) (Cells.new _ _ _ _ _ rfl)).mono ?_
        obtain ⟨v, ev⟩ : ∃ v, v = wId.getD (nextN xs (k + 7) 2) ⟨#[]⟩ := ⟨_, rfl⟩
        rw [← ev]
        have HV := Lib.hid ev
        clear ev
        rintro e w5 ⟨rfl, hs5, hg5⟩
        have HB5 := Lib.hid (HB4.out.go hgp hhp hs5 (grown_of_alloc hg5))
        clear hs5 hg5 HB4
        have HP := Lib.hid (HB5.out.put (j := 0) (u := .string v) (l' := ⟨v, sl, bo, pr, at_, un⟩) hph hgh hwh rfl)
        have HL := Lib.hid (show ltF xs k a = (⟨v, sl, bo, pr, at_, un⟩, k + 8) from by rw [HF2.out, HV.out])
        have hb := HB5.out.b1
        have n0 := cell_of_blk (j := 0) hb rfl
        have f0 : w5.frozen? ⟨h, 0, none⟩ = false := by simp [World.frozen?, hb, lrBk]
        clear hb
        go_wp2_with (fail)
        go_meet
        exact ⟨_, _, HL, HP⟩
      · have HF2 := Lib.hid (HF.out.trans ((if_neg (by rw [← HN.out]; omega)).trans (if_pos HN.out.symm)))
        clear HF
        go_wp2_with (fail)
        refine (some_any _ p (k + 7) w4.heap.size 2 2 xs wSl (by omega) rfl (by omega) (by omega) (HB4.out.st.alloc _) (by have := HB4.out.st.lt; omega) (Cells.new _ _ _ _ _ rfl)).mono ?_
        obtain ⟨v, ev⟩ : ∃ v, v = wSl.getD (nextN xs (k + 7) 2) ⟨#[]⟩ := ⟨_, rfl⟩
        rw [← ev]
        have HV := Lib.hid ev
        clear ev
        rintro e w5 ⟨rfl, hs5, hg5⟩
        have HB5 := Lib.hid (HB4.out.go hgp hhp hs5 (grown_of_alloc hg5))
        clear hs5 hg5 HB4
        have HP := Lib.hid (HB5.out.put (j := 1) (u := .string v) (l' := ⟨id, v, bo, pr, at_, un⟩) hph hgh hwh rfl)
        have HL := Lib.hid (show ltF xs k a = (⟨id, v, bo, pr, at_, un⟩, k + 8) from by rw [HF2.out, HV.out])
        have hb := HB5.out.b1
        have n0 := cell_of_blk (j := 1) hb rfl
        have f0 : w5.frozen? ⟨h, 1, none⟩ = false := by simp [World.frozen?, hb, lrBk]
        clear hb
        go_wp2_with (fail)
        go_meet
        exact ⟨_, _, HL, HP⟩
      · have HF2 := Lib.hid (HF.out.trans (((if_neg (by rw [← HN.out]; omega)).trans (if_neg (by rw [← HN.out]; omega))).trans (if_pos HN.out.symm)))
        clear HF
        go_wp2_with (fail)
        refine (repeatB_any w4).mono ?_
        rintro e w4b ⟨rfl, hb4⟩
        have HB4b := Lib.hid (HB4.out.go hgp hhp (HB4.out.st.below hb4) ⟨hb4.os, hb4.tape, hb4.output, hb4.size, fun b hb _ => hb4.block b hb⟩)
        clear hb4 HB4
        go_wp2_with (fail)
        refine (some_any _ p (k + 7) w4b.heap.size 4 4 xs wBo (by omega) rfl (by omega) (by omega) (HB4b.out.st.alloc _) (by have := HB4b.out.st.lt; omega) (Cells.new _ _ _ _ _ rfl)).mono ?_
        obtain ⟨v, ev⟩ : ∃ v, v = wBo.getD (nextN xs (k + 7) 4) ⟨#[]⟩ := ⟨_, rfl⟩
        rw [← ev]
        have HV := Lib.hid ev
        clear ev
        rintro e w5 ⟨rfl, hs5, hg5⟩
        have HB5 := Lib.hid (HB4b.out.go hgp hhp hs5 (grown_of_alloc hg5))
        clear hs5 hg5 HB4b
        have HP := Lib.hid (HB5.out.put (j := 2) (u := .string v) (l' := ⟨id, sl, v, pr, at_, un⟩) hph hgh hwh rfl)
        have HL := Lib.hid (show ltF xs k a = (⟨id, sl, v, pr, at_, un⟩, k + 8) from by rw [HF2.out, HV.out])
        have hb := HB5.out.b1
        have n0 := cell_of_blk (j := 2) hb rfl
        have f0 : w5.frozen? ⟨h, 2, none⟩ = false := by simp [World.frozen?, hb, lrBk]
        clear hb
        go_wp2_with (fail)
        go_meet
        exact ⟨_, _, HL, HP⟩
      · have HF2 := Lib.hid (HF.out.trans ((((if_neg (by rw [← HN.out]; omega)).trans (if_neg (by rw [← HN.out]; omega))).trans (if_neg (by rw [← HN.out]; omega))).trans (if_pos HN.out.symm)))
        clear HF
        go_wp2_with (fail)
        refine (odR_any 0 9 (by omega) (by omega) (by omega) w4 p (k + 7) xs (by omega) HB4.out.st).mono ?_
        obtain ⟨v, ev⟩ : ∃ v, v = odR 0 9 xs (k + 7) := ⟨_, rfl⟩
        rw [← ev]
        have HV := Lib.hid ev
        clear ev
        rintro e w5 ⟨rfl, hs5, hg5⟩
        have HB5 := Lib.hid (HB4.out.go hgp hhp hs5 hg5)
        clear hs5 hg5 HB4
        have HP := Lib.hid (HB5.out.put (j := 3) (u := .int .i64 v) (l' := ⟨id, sl, bo, v, at_, un⟩) hph hgh hwh rfl)
        have HL := Lib.hid (show ltF xs k a = (⟨id, sl, bo, v, at_, un⟩, k + 9) from by rw [HF2.out, HV.out])
        have hb := HB5.out.b1
        have n0 := cell_of_blk (j := 3) hb rfl
        have f0 : w5.frozen? ⟨h, 3, none⟩ = false := by simp [World.frozen?, hb, lrBk]
        clear hb
        go_wp2_with (fail)
        go_meet
        exact ⟨_, _, HL, HP⟩
      · have HF2 := Lib.hid (HF.out.trans ((((if_neg (by rw [← HN.out]; omega)).trans (if_neg (by rw [← HN.out]; omega))).trans (if_neg (by rw [← HN.out]; omega))).trans (if_neg (by rw [← HN.out]; omega))))
        clear HF
        go_wp2_with (fail)
        refine (odR_any 0 50 (by omega) (by omega) (by omega) w4 p (k + 7) xs (by omega) HB4.out.st).mono ?_
        obtain ⟨v, ev⟩ : ∃ v, v = odR 0 50 xs (k + 7) := ⟨_, rfl⟩
        rw [← ev]
        have HV := Lib.hid ev
        clear ev
        rintro e w5 ⟨rfl, hs5, hg5⟩
        have HB5 := Lib.hid (HB4.out.go hgp hhp hs5 hg5)
        clear hs5 hg5 HB4
        go_wp2_with (fail)
        refine (odR_any 0 100 (by omega) (by omega) (by omega) w5 p (k + 9) xs (by omega) HB5.out.st).mono ?_
        obtain ⟨v2, ev⟩ : ∃ v, v = odR 0 100 xs (k + 9) := ⟨_, rfl⟩
        rw [← ev]
        have HV2 := Lib.hid ev
        clear ev
        rintro e w6 ⟨rfl, hs6, hg6⟩
        have HB6 := Lib.hid (HB5.out.go hgp hhp hs6 hg6)
        clear hs6 hg6 HB5
        have hp1 := HB6.out.put (j := 4) (u := .int .i64 v) (l' := ⟨id, sl, bo, pr, v, un⟩) hph hgh hwh rfl
        have HP1 := Lib.hid hp1
        have HP := Lib.hid (hp1.put (j := 5) (u := .int .i64 v2) (l' := ⟨id, sl, bo, pr, v, v2⟩) hph hgh hwh rfl)
        have HL := Lib.hid (show ltF xs k a = (⟨id, sl, bo, pr, v, v2⟩, k + 11) from by rw [HF2.out, HV.out, HV2.out])
        have hb := HB6.out.b1
        have n0 := cell_of_blk (j := 4) hb rfl
        have n1 := cell_of_blk (j := 5) hb rfl
        have f0 : w6.frozen? ⟨h, 4, none⟩ = false := by simp [World.frozen?, hb, lrBk]
        have f1 : w6.frozen? ⟨h, 5, none⟩ = false := by simp [World.frozen?, hb, lrBk]
        clear hb hp1
        go_wp2_with (fail)
        go_meet
        exact ⟨_, _, HL, HP⟩
  case rest =>
    obtain ⟨l, k', HL, HB⟩ := hcut
    obtain ⟨V, eV⟩ : ∃ V : World, V = wc := ⟨_, rfl⟩
    rw [← eV] at HB ⊢
    clear eV
    have hb := HB.out.b0
    have hb1 := HB.out.b1
    have hlt := (Array.getElem?_eq_some_iff.1 hb).1
    have hlt1 := (Array.getElem?_eq_some_iff.1 hb1).1
    obtain ⟨id, sl, bo, pr, at_, un⟩ := l
    have s0 : (V.setCell ⟨g, 0, none⟩ (.string id)).heap[g]? = some (.cells #[.string id, .string ⟨#[]⟩, .string ⟨#[]⟩, .int .i64 0, .int .i64 0, .int .i64 0] 35 (0, 0)) := (setblkO (j := 0) (.string id) hb).trans rfl
    have s1 : ((V.setCell ⟨g, 0, none⟩ (.string id)).setCell ⟨g, 1, none⟩ (.string sl)).heap[g]? = some (.cells #[.string id, .string sl, .string ⟨#[]⟩, .int .i64 0, .int .i64 0, .int .i64 0] 35 (0, 0)) := (setblkO (j := 1) (.string sl) s0).trans rfl
    have s2 : (((V.setCell ⟨g, 0, none⟩ (.string id)).setCell ⟨g, 1, none⟩ (.string sl)).setCell ⟨g, 2, none⟩ (.string bo)).heap[g]? = some (.cells #[.string id, .string sl, .string bo, .int .i64 0, .int .i64 0, .int .i64 0] 35 (0, 0)) := (setblkO (j := 2) (.string bo) s1).trans rfl
    have s3 : ((((V.setCell ⟨g, 0, none⟩ (.string id)).setCell ⟨g, 1, none⟩ (.string sl)).setCell ⟨g, 2, none⟩ (.string bo)).setCell ⟨g, 3, none⟩ (.int .i64 pr)).heap[g]? = some (.cells #[.string id, .string sl, .string bo, .int .i64 pr, .int .i64 0, .int .i64 0] 35 (0, 0)) := (setblkO (j := 3) (.int .i64 pr) s2).trans rfl
    have s4 : (((((V.setCell ⟨g, 0, none⟩ (.string id)).setCell ⟨g, 1, none⟩ (.string sl)).setCell ⟨g, 2, none⟩ (.string bo)).setCell ⟨g, 3, none⟩ (.int .i64 pr)).setCell ⟨g, 4, none⟩ (.int .i64 at_)).heap[g]? = some (.cells #[.string id, .string sl, .string bo, .int .i64 pr, .int .i64 at_, .int .i64 0] 35 (0, 0)) := (setblkO (j := 4) (.int .i64 at_) s3).trans rfl
    have s5 : ((((((V.setCell ⟨g, 0, none⟩ (.string id)).setCell ⟨g, 1, none⟩ (.string sl)).setCell ⟨g, 2, none⟩ (.string bo)).setCell ⟨g, 3, none⟩ (.int .i64 pr)).setCell ⟨g, 4, none⟩ (.int .i64 at_)).setCell ⟨g, 5, none⟩ (.int .i64 un)).heap[g]? = some (.cells #[.string id, .string sl, .string bo, .int .i64 pr, .int .i64 at_, .int .i64 un] 35 (0, 0)) := (setblkO (j := 5) (.int .i64 un) s4).trans rfl
    have f0 : V.frozen? ⟨g, 0, none⟩ = false := by simp [World.frozen?, hb, lrB0]
    have f1 : V.frozen? ⟨g, 1, none⟩ = false := by simp [World.frozen?, hb, lrB0]
    have f2 : V.frozen? ⟨g, 2, none⟩ = false := by simp [World.frozen?, hb, lrB0]
    have f3 : V.frozen? ⟨g, 3, none⟩ = false := by simp [World.frozen?, hb, lrB0]
    have f4 : V.frozen? ⟨g, 4, none⟩ = false := by simp [World.frozen?, hb, lrB0]
    have f5 : V.frozen? ⟨g, 5, none⟩ = false := by simp [World.frozen?, hb, lrB0]
    have c0 := cell_of_blk (j := 0) hb rfl
    have c1 := cell_of_blk (j := 1) hb rfl
    have c2 := cell_of_blk (j := 2) hb rfl
    have c3 := cell_of_blk (j := 3) hb rfl
    have c4 := cell_of_blk (j := 4) hb rfl
    have c5 := cell_of_blk (j := 5) hb rfl
    have d0 := cell_of_blk (j := 0) hb1 rfl
    have d1 := cell_of_blk (j := 1) hb1 rfl
    have d2 := cell_of_blk (j := 2) hb1 rfl
    have d3 := cell_of_blk (j := 3) hb1 rfl
    have d4 := cell_of_blk (j := 4) hb1 rfl
    have d5 := cell_of_blk (j := 5) hb1 rfl
    simp only at d0 d1 d2 d3 d4 d5
    have HX := Lib.hid s5
    have HQ := Lib.hid (show Strm ((((((V.setCell ⟨g, 0, none⟩ (.string id)).setCell ⟨g, 1, none⟩ (.string sl)).setCell ⟨g, 2, none⟩ (.string bo)).setCell ⟨g, 3, none⟩ (.int .i64 pr)).setCell ⟨g, 4, none⟩ (.int .i64 at_)).setCell ⟨g, 5, none⟩ (.int .i64 un)) p xs k' ∧ w.grownBy ((((((V.setCell ⟨g, 0, none⟩ (.string id)).setCell ⟨g, 1, none⟩ (.string sl)).setCell ⟨g, 2, none⟩ (.string bo)).setCell ⟨g, 3, none⟩ (.int .i64 pr)).setCell ⟨g, 4, none⟩ (.int .i64 at_)).setCell ⟨g, 5, none⟩ (.int .i64 un)) (some p) from by
      have h1 : ∀ x, x ≠ g → ((((((V.setCell ⟨g, 0, none⟩ (.string id)).setCell ⟨g, 1, none⟩ (.string sl)).setCell ⟨g, 2, none⟩ (.string bo)).setCell ⟨g, 3, none⟩ (.int .i64 pr)).setCell ⟨g, 4, none⟩ (.int .i64 at_)).setCell ⟨g, 5, none⟩ (.int .i64 un)).heap[x]? = V.heap[x]? := fun x hx => by rw [setcO _ _ _ _ _ hx, setcO _ _ _ _ _ hx, setcO _ _ _ _ _ hx, setcO _ _ _ _ _ hx, setcO _ _ _ _ _ hx, setcO _ _ _ _ _ hx]
      have h2 : ((((((V.setCell ⟨g, 0, none⟩ (.string id)).setCell ⟨g, 1, none⟩ (.string sl)).setCell ⟨g, 2, none⟩ (.string bo)).setCell ⟨g, 3, none⟩ (.int .i64 pr)).setCell ⟨g, 4, none⟩ (.int .i64 at_)).setCell ⟨g, 5, none⟩ (.int .i64 un)).heap.size = V.heap.size := by simp [World.setCell]
      have hos : ((((((V.setCell ⟨g, 0, none⟩ (.string id)).setCell ⟨g, 1, none⟩ (.string sl)).setCell ⟨g, 2, none⟩ (.string bo)).setCell ⟨g, 3, none⟩ (.int .i64 pr)).setCell ⟨g, 4, none⟩ (.int .i64 at_)).setCell ⟨g, 5, none⟩ (.int .i64 un)).os = V.os := by simp only [World.setCell]
      have htape : ((((((V.setCell ⟨g, 0, none⟩ (.string id)).setCell ⟨g, 1, none⟩ (.string sl)).setCell ⟨g, 2, none⟩ (.string bo)).setCell ⟨g, 3, none⟩ (.int .i64 pr)).setCell ⟨g, 4, none⟩ (.int .i64 at_)).setCell ⟨g, 5, none⟩ (.int .i64 un)).tape = V.tape := by simp only [World.setCell]
      have houtput : ((((((V.setCell ⟨g, 0, none⟩ (.string id)).setCell ⟨g, 1, none⟩ (.string sl)).setCell ⟨g, 2, none⟩ (.string bo)).setCell ⟨g, 3, none⟩ (.int .i64 pr)).setCell ⟨g, 4, none⟩ (.int .i64 at_)).setCell ⟨g, 5, none⟩ (.int .i64 un)).output = V.output := by simp only [World.setCell]
      have hgr := HB.out.gr
      exact ⟨HB.out.st.keep (fun x hx => h1 x (by omega)), ⟨hos.trans hgr.os, htape.trans hgr.tape, houtput.trans hgr.output, by rw [h2]; exact hgr.size, fun x hx hne => (h1 x (by omega)).trans (hgr.block x hx hne)⟩⟩)
    clear hb hb1 s0 s1 s2 s3 s4 s5 HB
    go_wp2_with (fail)
    have r0 := cell_of_blk (j := 0) HX.out rfl
    have r1 := cell_of_blk (j := 1) HX.out rfl
    have r2 := cell_of_blk (j := 2) HX.out rfl
    have r3 := cell_of_blk (j := 3) HX.out rfl
    have r4 := cell_of_blk (j := 4) HX.out rfl
    have r5 := cell_of_blk (j := 5) HX.out rfl
    refine bodyPost_ret (v := .agg #[.string id, .string sl, .string bo, .int .i64 pr, .int .i64 at_, .int .i64 un]) (by simp [results, Tryz.results22, go_sem, r0, r1, r2, r3, r4, r5]) rfl ?_
    exact ⟨_, _, HL.out, rfl, HQ.out⟩
end Go.Proofs.YtnnncddjcdjhoaaGreatDoor
