/- Odd, RightLetter and Letter of the stream: what they answer, as functions of the list. Printed by gen_LrB.py. -/
import Derived.Test.YtnnncddjcdjhoaaGreatDoorLrA
import Derived.Test.YtnnncddjcdjhoaaGreatDoorOfA
import Derived.Test.YtnnncddjcdjhoaaGreatDoorLay105
namespace Go.Proofs.YtnnncddjcdjhoaaGreatDoor
open Go.RowKit Go.Shelf

theorem bld_extraL : Builder.Extra Tryz.prog lay105_ren := {
  sizeBuilder := by kernel_rfl, liesBuilder := by kernel_rfl, t5 := Tryz.underlying5, a5 := Tryz.isAgg5, z5 := Tryz.sizeOf5, v5 := Tryz.zeroValue5,
  infoByte := by kernel_rfl, cellsByte := by kernel_rfl, sizeByte := by kernel_rfl, neB5 := by decide }
theorem repeatB_any (w : World) : Calls Tryz.prog 64 #[.string ⟨#[98]⟩, .int .i64 1001] w fun e w' => e = .returned (.string bLong) ∧ Below w.heap.size w w' :=
  Any.strings_Repeat_main lay105 bld_extraL ⟨#[98]⟩ 1001 w (by omega) (by omega) (by decide) (by decide)
theorem flipD_any (w : World) (p k : Nat) (xs : LiA) (m : Int) (hm : 1 ≤ m) (hm2 : m ≤ 1000) (hk : k < 1000000) (hs : Strm w p xs k) :
    Calls Tryz.prog 24 #[.pointer (some ⟨p, 0, none⟩), .int .i64 m] w fun e w' => e = .returned (.bool (decide (nextV xs k m = 0))) ∧ Strm w' p xs (k + 1) ∧ w.grownBy w' (some p) := by
  have HS := Lib.hid hs
  clear hs
  obtain ⟨v, ev⟩ : ∃ v, v = nextV xs k m := ⟨_, rfl⟩
  have HN := Lib.hid (next_any w p k xs m (by omega) hk HS.out)
  rw [← ev] at HN ⊢
  clear ev
  go_enter Tryz.func24, Tryz.ntmps24
  go_wp2_with (fail)
  refine HN.out.mono ?_
  rintro e w' ⟨rfl, hs', hg'⟩
  have H := Lib.hid (And.intro hs' hg')
  clear hs' hg'
  go_wp2_with (fail)
  go_ret
  exact ⟨rfl, H.out.1, H.out.2⟩
theorem odR_any (lo hi : Int) (h1 : 0 ≤ lo) (h2 : lo ≤ hi) (h3 : hi ≤ 1000) (w : World) (p k : Nat) (xs : LiA) (hk : k < 900000) (hs : Strm w p xs k) :
    Calls Tryz.prog 32 #[.pointer (some ⟨p, 0, none⟩), .int .i64 lo, .int .i64 hi] w fun e w' => e = .returned (.int .i64 (odR lo hi xs k)) ∧ Strm w' p xs (k + 2) ∧ w.grownBy w' (some p) := by
  have hplt := hs.lt
  have HS := Lib.hid hs
  clear hs
  obtain ⟨r, er⟩ : ∃ r, r = odR lo hi xs k := ⟨_, rfl⟩
  rw [← er]
  unfold odR at er
  go_enter Tryz.func32, Tryz.ntmps32
  go_wp2_with (fail)
  refine (flipD_any w p k xs 12 (by omega) (by omega) (by omega) HS.out).mono ?_
  rintro e w1 ⟨rfl, hst1, hg1⟩
  have HST1 := Lib.hid hst1
  have HG1 := Lib.hid hg1
  have hs1 := hg1.size
  clear hst1 hg1
  by_cases h0 : nextV xs k 12 = 0
  · rw [if_pos h0] at er
    rw [decide_eq_true h0]
    have ER := Lib.hid er
    clear h0 er
    go_wp2_with (fail)
    refine (pick_any _ p (k + 1) _ 6 6 xs [lo - 1, hi + 1, lo, hi, -1099511627776, 1099511627776] (by omega) rfl (by omega) (by omega) (HST1.out.alloc _) (by omega) (Cells.new _ _ _ _ _ rfl)).mono ?_
    rw [← ER.out]
    rintro e w2 ⟨rfl, hst2, hg2⟩
    have HF := Lib.hid (And.intro hst2 (grown_trans HG1.out (grown_of_alloc hg2)))
    clear hst2 hg2
    go_wp2_with (fail)
    go_ret
    exact ⟨rfl, HF.out.1, HF.out.2⟩
  · rw [if_neg h0] at er
    rw [decide_eq_false h0]
    have ER := Lib.hid er
    clear h0 er
    go_wp2_with (fail)
    refine (range_any w1 p (k + 1) xs lo hi (by omega) (by omega) (by omega) (by omega) (by omega) HST1.out).mono ?_
    rw [← ER.out]
    rintro e w2 ⟨rfl, hst2, hg2⟩
    have HF := Lib.hid (And.intro hst2 (grown_trans HG1.out hg2))
    clear hst2 hg2
    go_wp2_with (fail)
    go_ret
    exact ⟨rfl, HF.out.1, HF.out.2⟩
set_option maxRecDepth 100000 in
set_option maxHeartbeats 4000000 in
theorem rightLetterX_any (w : World) (p k : Nat) (xs : LiA) (a : Int) (hk : k < 900000) (ha : 0 ≤ a ∧ a ≤ 1000000) (hs : Strm w p xs k) :
    Calls Tryz.prog 62 #[.pointer (some ⟨p, 0, none⟩), .int .i64 a] w fun e w' => e = .returned (.agg (lrC (rlF xs k a)).toArray) ∧ Strm w' p xs (k + 5) ∧ w.grownBy w' (some p) := by
  have hplt := hs.lt
  obtain ⟨g, eg⟩ : ∃ g, g = w.heap.size := ⟨_, rfl⟩
  have hgp : g ≠ p := by omega
  have hpg : p < g := by omega
  have hwg : w.heap.size ≤ g := by omega
  have HS0 := Lib.hid (show StB w p k g xs (.cells #[.string ⟨#[]⟩, .string ⟨#[]⟩, .string ⟨#[]⟩, .int .i64 0, .int .i64 0, .int .i64 0] 35 (0, 0)) (w.alloc (.cells #[.string ⟨#[]⟩, .string ⟨#[]⟩, .string ⟨#[]⟩, .int .i64 0, .int .i64 0, .int .i64 0] 35)) from ⟨hs.alloc _, ⟨rfl, rfl, rfl, by simp, fun i hi _ => Below.heap_alloc w _ i hi⟩, by rw [eg]; exact heap_new w _⟩)
  clear hs
  go_enter Tryz.func62, Tryz.ntmps62
  go_upto_region 1 with (fail)
  rw [← eg]
  clear eg
  generalize w.alloc (.cells #[.string ⟨#[]⟩, .string ⟨#[]⟩, .string ⟨#[]⟩, .int .i64 0, .int .i64 0, .int .i64 0] 35) = w0 at HS0 ⊢
  go_wp2_with (fail)
  refine (some_any _ p k w0.heap.size 6 6 xs cId (by omega) rfl (by omega) (by omega) (HS0.out.st.alloc _) (by have := HS0.out.ne; omega) (Cells.new _ _ _ _ _ rfl)).mono ?_
  obtain ⟨i, ei⟩ : ∃ z, z = cId.getD (nextN xs k 6) ⟨#[]⟩ := ⟨_, rfl⟩
  rw [← ei]
  have Hei := Lib.hid ei
  clear ei
  rintro e w1 ⟨rfl, hs1, hg1⟩
  have HS1 := Lib.hid (HS0.out.step hgp hs1 hg1)
  clear hs1 hg1 HS0
  go_wp2_with (fail)
  refine (some_any _ p (k + 1) w1.heap.size 4 4 xs cSl (by omega) rfl (by omega) (by omega) (HS1.out.st.alloc _) (by have := HS1.out.ne; omega) (Cells.new _ _ _ _ _ rfl)).mono ?_
  obtain ⟨s, es⟩ : ∃ z, z = cSl.getD (nextN xs (k + 1) 4) ⟨#[]⟩ := ⟨_, rfl⟩
  rw [← es]
  have Hes := Lib.hid es
  clear es
  rintro e w2 ⟨rfl, hs2, hg2⟩
  have HS2 := Lib.hid (HS1.out.step hgp hs2 hg2)
  clear hs2 hg2 HS1
  go_wp2_with (fail)
  refine (some_any _ p (k + 2) w2.heap.size 3 3 xs cBo (by omega) rfl (by omega) (by omega) (HS2.out.st.alloc _) (by have := HS2.out.ne; omega) (Cells.new _ _ _ _ _ rfl)).mono ?_
  obtain ⟨b, eb⟩ : ∃ z, z = cBo.getD (nextN xs (k + 2) 3) ⟨#[]⟩ := ⟨_, rfl⟩
  rw [← eb]
  have Heb := Lib.hid eb
  clear eb
  rintro e w3 ⟨rfl, hs3, hg3⟩
  have HS3 := Lib.hid (HS2.out.step hgp hs3 hg3)
  clear hs3 hg3 HS2
  go_wp2_with (fail)
  refine (pick_any _ p (k + 3) w3.heap.size 5 5 xs cPr (by omega) rfl (by omega) (by omega) (HS3.out.st.alloc _) (by have := HS3.out.ne; omega) (Cells.new _ _ _ _ _ rfl)).mono ?_
  have hq := getD_all (fun v : Int => 0 ≤ v ∧ v ≤ 9) 0 cPr (by decide) (nextN xs (k + 3) 5) (nextN_lt _ _ _ (by omega))
  obtain ⟨q, eq⟩ : ∃ z, z = cPr.getD (nextN xs (k + 3) 5) 0 := ⟨_, rfl⟩
  rw [← eq] at hq ⊢
  have HEq := Lib.hid eq
  clear eq
  rintro e w4 ⟨rfl, hs4, hg4⟩
  have HS4 := Lib.hid (HS3.out.step hgp hs4 hg4)
  clear hs4 hg4 HS3
  go_wp2_with (fail)
  refine (pick_any _ p (k + 4) w4.heap.size 6 6 xs cUn (by omega) rfl (by omega) (by omega) (HS4.out.st.alloc _) (by have := HS4.out.ne; omega) (Cells.new _ _ _ _ _ rfl)).mono ?_
  have hu := getD_all (fun v : Int => 1 ≤ v ∧ v ≤ 1000) 0 cUn (by decide) (nextN xs (k + 4) 6) (nextN_lt _ _ _ (by omega))
  obtain ⟨u, eu⟩ : ∃ z, z = cUn.getD (nextN xs (k + 4) 6) 0 := ⟨_, rfl⟩
  rw [← eu] at hu ⊢
  have HEu := Lib.hid eu
  clear eu
  have hw : IntKind.i64.wrap (a + u) = a + u := by rw [IntKind.wrap_i64]; omega
  rintro e w5 ⟨rfl, hs5, hg5⟩
  have HS5 := Lib.hid (HS4.out.step hgp hs5 hg5)
  clear hs5 hg5 HS4
  have hb := HS5.out.blk
  have hlt := HS5.out.lt
  have s0 : (w5.setCell ⟨g, 0, none⟩ (.string i)).heap[g]? = some (.cells #[.string i, .string ⟨#[]⟩, .string ⟨#[]⟩, .int .i64 0, .int .i64 0, .int .i64 0] 35 (0, 0)) := (setblkO (j := 0) (.string i) hb).trans rfl
  have s1 : ((w5.setCell ⟨g, 0, none⟩ (.string i)).setCell ⟨g, 1, none⟩ (.string s)).heap[g]? = some (.cells #[.string i, .string s, .string ⟨#[]⟩, .int .i64 0, .int .i64 0, .int .i64 0] 35 (0, 0)) := (setblkO (j := 1) (.string s) s0).trans rfl
  have s2 : (((w5.setCell ⟨g, 0, none⟩ (.string i)).setCell ⟨g, 1, none⟩ (.string s)).setCell ⟨g, 2, none⟩ (.string b)).heap[g]? = some (.cells #[.string i, .string s, .string b, .int .i64 0, .int .i64 0, .int .i64 0] 35 (0, 0)) := (setblkO (j := 2) (.string b) s1).trans rfl
  have s3 : ((((w5.setCell ⟨g, 0, none⟩ (.string i)).setCell ⟨g, 1, none⟩ (.string s)).setCell ⟨g, 2, none⟩ (.string b)).setCell ⟨g, 3, none⟩ (.int .i64 q)).heap[g]? = some (.cells #[.string i, .string s, .string b, .int .i64 q, .int .i64 0, .int .i64 0] 35 (0, 0)) := (setblkO (j := 3) (.int .i64 q) s2).trans rfl
  have s4 : (((((w5.setCell ⟨g, 0, none⟩ (.string i)).setCell ⟨g, 1, none⟩ (.string s)).setCell ⟨g, 2, none⟩ (.string b)).setCell ⟨g, 3, none⟩ (.int .i64 q)).setCell ⟨g, 4, none⟩ (.int .i64 a)).heap[g]? = some (.cells #[.string i, .string s, .string b, .int .i64 q, .int .i64 a, .int .i64 0] 35 (0, 0)) := (setblkO (j := 4) (.int .i64 a) s3).trans rfl
  have s5 : ((((((w5.setCell ⟨g, 0, none⟩ (.string i)).setCell ⟨g, 1, none⟩ (.string s)).setCell ⟨g, 2, none⟩ (.string b)).setCell ⟨g, 3, none⟩ (.int .i64 q)).setCell ⟨g, 4, none⟩ (.int .i64 a)).setCell ⟨g, 5, none⟩ (.int .i64 (a + u))).heap[g]? = some (.cells #[.string i, .string s, .string b, .int .i64 q, .int .i64 a, .int .i64 (a + u)] 35 (0, 0)) := (setblkO (j := 5) (.int .i64 (a + u)) s4).trans rfl
  have f0 : w5.frozen? ⟨g, 0, none⟩ = false := by simp [World.frozen?, hb]
  have c0 := cell_of_blk (j := 0) hb rfl
  have f1 : w5.frozen? ⟨g, 1, none⟩ = false := by simp [World.frozen?, hb]
  have c1 := cell_of_blk (j := 1) hb rfl
  have f2 : w5.frozen? ⟨g, 2, none⟩ = false := by simp [World.frozen?, hb]
  have c2 := cell_of_blk (j := 2) hb rfl
  have f3 : w5.frozen? ⟨g, 3, none⟩ = false := by simp [World.frozen?, hb]
  have c3 := cell_of_blk (j := 3) hb rfl
  have f4 : w5.frozen? ⟨g, 4, none⟩ = false := by simp [World.frozen?, hb]
  have c4 := cell_of_blk (j := 4) hb rfl
  have f5 : w5.frozen? ⟨g, 5, none⟩ = false := by simp [World.frozen?, hb]
  have c5 := cell_of_blk (j := 5) hb rfl
  have HX := Lib.hid (show ((((((w5.setCell ⟨g, 0, none⟩ (.string i)).setCell ⟨g, 1, none⟩ (.string s)).setCell ⟨g, 2, none⟩ (.string b)).setCell ⟨g, 3, none⟩ (.int .i64 q)).setCell ⟨g, 4, none⟩ (.int .i64 a)).setCell ⟨g, 5, none⟩ (.int .i64 (a + u))).heap[g]? = some (.cells #[.string i, .string s, .string b, .int .i64 q, .int .i64 a, .int .i64 (a + u)] 35 (0, 0)) from s5)
  have HQ := Lib.hid (show Strm ((((((w5.setCell ⟨g, 0, none⟩ (.string i)).setCell ⟨g, 1, none⟩ (.string s)).setCell ⟨g, 2, none⟩ (.string b)).setCell ⟨g, 3, none⟩ (.int .i64 q)).setCell ⟨g, 4, none⟩ (.int .i64 a)).setCell ⟨g, 5, none⟩ (.int .i64 (a + u))) p xs (k + 5) ∧ w.grownBy ((((((w5.setCell ⟨g, 0, none⟩ (.string i)).setCell ⟨g, 1, none⟩ (.string s)).setCell ⟨g, 2, none⟩ (.string b)).setCell ⟨g, 3, none⟩ (.int .i64 q)).setCell ⟨g, 4, none⟩ (.int .i64 a)).setCell ⟨g, 5, none⟩ (.int .i64 (a + u))) (some p) from by
    have h1 : ∀ x, x ≠ g → ((((((w5.setCell ⟨g, 0, none⟩ (.string i)).setCell ⟨g, 1, none⟩ (.string s)).setCell ⟨g, 2, none⟩ (.string b)).setCell ⟨g, 3, none⟩ (.int .i64 q)).setCell ⟨g, 4, none⟩ (.int .i64 a)).setCell ⟨g, 5, none⟩ (.int .i64 (a + u))).heap[x]? = w5.heap[x]? := fun x hx => by rw [setcO _ _ _ _ _ hx, setcO _ _ _ _ _ hx, setcO _ _ _ _ _ hx, setcO _ _ _ _ _ hx, setcO _ _ _ _ _ hx, setcO _ _ _ _ _ hx]
    have h2 : ((((((w5.setCell ⟨g, 0, none⟩ (.string i)).setCell ⟨g, 1, none⟩ (.string s)).setCell ⟨g, 2, none⟩ (.string b)).setCell ⟨g, 3, none⟩ (.int .i64 q)).setCell ⟨g, 4, none⟩ (.int .i64 a)).setCell ⟨g, 5, none⟩ (.int .i64 (a + u))).heap.size = w5.heap.size := by simp [World.setCell]
    have hos : ((((((w5.setCell ⟨g, 0, none⟩ (.string i)).setCell ⟨g, 1, none⟩ (.string s)).setCell ⟨g, 2, none⟩ (.string b)).setCell ⟨g, 3, none⟩ (.int .i64 q)).setCell ⟨g, 4, none⟩ (.int .i64 a)).setCell ⟨g, 5, none⟩ (.int .i64 (a + u))).os = w5.os := by simp only [World.setCell]
    have htape : ((((((w5.setCell ⟨g, 0, none⟩ (.string i)).setCell ⟨g, 1, none⟩ (.string s)).setCell ⟨g, 2, none⟩ (.string b)).setCell ⟨g, 3, none⟩ (.int .i64 q)).setCell ⟨g, 4, none⟩ (.int .i64 a)).setCell ⟨g, 5, none⟩ (.int .i64 (a + u))).tape = w5.tape := by simp only [World.setCell]
    have houtput : ((((((w5.setCell ⟨g, 0, none⟩ (.string i)).setCell ⟨g, 1, none⟩ (.string s)).setCell ⟨g, 2, none⟩ (.string b)).setCell ⟨g, 3, none⟩ (.int .i64 q)).setCell ⟨g, 4, none⟩ (.int .i64 a)).setCell ⟨g, 5, none⟩ (.int .i64 (a + u))).output = w5.output := by simp only [World.setCell]
    have hgr := HS5.out.gr
    exact ⟨HS5.out.st.keep (fun x hx => h1 x (by omega)), ⟨hos.trans hgr.os, htape.trans hgr.tape, houtput.trans hgr.output, by rw [h2]; exact hgr.size, fun x hx hne => (h1 x (by omega)).trans (hgr.block x hx hne)⟩⟩)
  clear HS5 hb s0 s1 s2 s3 s4 s5
  go_wp2_with (fail)
  have r0 := cell_of_blk (j := 0) HX.out rfl
  have r1 := cell_of_blk (j := 1) HX.out rfl
  have r2 := cell_of_blk (j := 2) HX.out rfl
  have r3 := cell_of_blk (j := 3) HX.out rfl
  have r4 := cell_of_blk (j := 4) HX.out rfl
  have r5 := cell_of_blk (j := 5) HX.out rfl
  refine bodyPost_ret (v := .agg #[.string i, .string s, .string b, .int .i64 q, .int .i64 a, .int .i64 (a + u)]) (by simp [results, Tryz.results62, go_sem, r0, r1, r2, r3, r4, r5]) rfl ?_
  refine ⟨?_, HQ.out⟩
  rw [show rlF xs k a = ⟨i, s, b, q, a, a + u⟩ from by unfold rlF; rw [← Hei.out, ← Hes.out, ← Heb.out, ← HEq.out, ← HEu.out]]
  rfl
end Go.Proofs.YtnnncddjcdjhoaaGreatDoor
