/- Posts and letters of the stream; the small functions of offices by their contracts. Printed by gen_OfA.py. -/
import Derived.Test.YtnnncddjcdjhoaaGreatDoorOfI
import Derived.Test.YtnnncddjcdjhoaaGreatDoorSoT
namespace Go.Proofs.YtnnncddjcdjhoaaGreatDoor
open Go.RowKit

def pkRoom : List Int := [1, 2, 3, 5]
def pkTmo : List Int := [1, 5, 10]
def pkTri : List Int := [1, 2, 3]
def pkKept : List Int := [0, 1, 2, 10]
def pkPr : List Int := [0, 0, 1, 5, 9]
def pkUn : List Int := [1, 5, 10, 20, 50, 1000]
theorem pk_all (P : Int → Prop) (vs : List Int) (h : ∀ v ∈ vs, P v) (i : Nat) (hi : i < vs.length) : P (vs.getD i 0) := by
  rw [List.getD_eq_getElem?_getD, List.getElem?_eq_getElem hi]
  exact h _ (List.getElem_mem hi)
def smId : List ByteArray := [⟨#[108, 97]⟩, ⟨#[108, 98]⟩, ⟨#[108, 99]⟩, ⟨#[108, 100]⟩, ⟨#[108, 101]⟩, ⟨#[108, 102]⟩]
def smSl : List ByteArray := [⟨#[]⟩, ⟨#[]⟩, ⟨#[115, 97]⟩, ⟨#[115, 98]⟩]
def smBo : List ByteArray := [⟨#[100, 111]⟩, ⟨#[]⟩, ⟨#[97, 32, 34, 98, 34]⟩]
theorem smId_get (i : Nat) (h : i < 6) : ∃ k, k < 6 ∧ smId.getD i ⟨#[]⟩ = idL k := by
  refine ⟨i, h, ?_⟩
  rcases six_of h with h | h | h | h | h | h <;> subst h <;> rfl
theorem smSl_get (i : Nat) (h : i < 4) : ∃ k, k < 3 ∧ smSl.getD i ⟨#[]⟩ = slL k := by
  have h1 : i = 0 ∨ i = 1 ∨ i = 2 ∨ i = 3 := by omega
  rcases h1 with h | h | h | h <;> subst h
  · exact ⟨0, by omega, rfl⟩
  · exact ⟨0, by omega, rfl⟩
  · exact ⟨1, by omega, rfl⟩
  · exact ⟨2, by omega, rfl⟩
theorem smBo_get (i : Nat) (h : i < 3) : ∃ k, k < 3 ∧ smBo.getD i ⟨#[]⟩ = boL k := by
  have h1 : i = 0 ∨ i = 1 ∨ i = 2 := by omega
  rcases h1 with h | h | h <;> subst h
  · exact ⟨0, by omega, rfl⟩
  · exact ⟨1, by omega, rfl⟩
  · exact ⟨2, by omega, rfl⟩
/-- A stream that goes on beside a new block. -/
structure StB (w : World) (p k g : Nat) (xs : LiA) (o : Obj) (V : World) : Prop where
  st : Strm V p xs k
  gr : w.grownBy V (some p)
  blk : V.heap[g]? = some o
theorem StB.step {w V V2 : World} {p k k' g : Nat} {xs : LiA} {o o2 : Obj} (h : StB w p k g xs o V) (hgp : g ≠ p) (hs : Strm V2 p xs k') (hg : (V.alloc o2).grownBy V2 (some p)) : StB w p k' g xs o V2 := by
  have hg' := grown_of_alloc hg
  have hl := (Array.getElem?_eq_some_iff.1 h.blk).1
  exact ⟨hs, grown_trans h.gr hg', (hg'.block g hl (by intro e; injection e with e; exact hgp e)).trans h.blk⟩
theorem StB.lt {w V : World} {p k g : Nat} {xs : LiA} {o : Obj} (h : StB w p k g xs o V) : g < V.heap.size := (Array.getElem?_eq_some_iff.1 h.blk).1
theorem StB.ne {w V : World} {p k g : Nat} {xs : LiA} {o : Obj} (h : StB w p k g xs o V) : p < V.heap.size := h.st.lt

set_option maxRecDepth 100000 in
set_option maxHeartbeats 4000000 in
theorem rightLetter_any (w : World) (p k : Nat) (xs : LiA) (a : Int) (hk : k < 900000) (ha : 0 ≤ a ∧ a ≤ 1000000) (hs : Strm w p xs k) :
    Calls Tryz.prog 62 #[.pointer (some ⟨p, 0, none⟩), .int .i64 a] w fun e w' => ∃ l : Ol, OlOk l ∧ l.at_ = a ∧ l.un ≤ a + 1000 ∧ e = .returned (olV l) ∧ Strm w' p xs (k + 5) ∧ w.grownBy w' (some p) := by
  have hplt := hs.lt
  obtain ⟨g, eg⟩ : ∃ g, g = w.heap.size := ⟨_, rfl⟩
  have hgp : g ≠ p := by omega
  have hpg : p < g := by omega
  have hwg : w.heap.size ≤ g := by omega
  have HS0 := Lib.hid (show StB w p k g xs (.cells #[.string ⟨#[]⟩, .string ⟨#[]⟩, .string ⟨#[]⟩, .int .i64 0, .int .i64 0, .int .i64 0] 35 (0, 0)) (w.alloc (.cells #[.string ⟨#[]⟩, .string ⟨#[]⟩, .string ⟨#[]⟩, .int .i64 0, .int .i64 0, .int .i64 0] 35)) from ⟨hs.alloc _, ⟨rfl, rfl, rfl, by simp, fun i hi _ => Below.heap_alloc w _ i hi⟩, by rw [eg]; exact heap_new w _⟩)
  clear hs
  go_enter Tryz.func62, Tryz.ntmps62
  go_upto_region 1 with (fail)
  rw [← eg]
  clear eg
  generalize w.alloc (.cells #[.string ⟨#[]⟩, .string ⟨#[]⟩, .string ⟨#[]⟩, .int .i64 0, .int .i64 0, .int .i64 0] 35) = w0 at HS0 ⊢
  go_wp2_with (fail)
  refine (some_any _ p k w0.heap.size 6 6 xs smId (by omega) rfl (by omega) (by omega) (HS0.out.st.alloc _) (by have := HS0.out.ne; omega) (Cells.new _ _ _ _ _ rfl)).mono ?_
  obtain ⟨i, hi, ei⟩ := smId_get (nextN xs k 6) (nextN_lt _ _ _ (by omega))
  rw [ei]
  clear ei
  rintro e w1 ⟨rfl, hs1, hg1⟩
  have HS1 := Lib.hid (HS0.out.step hgp hs1 hg1)
  clear hs1 hg1 HS0
  go_wp2_with (fail)
  refine (some_any _ p (k + 1) w1.heap.size 4 4 xs smSl (by omega) rfl (by omega) (by omega) (HS1.out.st.alloc _) (by have := HS1.out.ne; omega) (Cells.new _ _ _ _ _ rfl)).mono ?_
  obtain ⟨s, hs, es⟩ := smSl_get (nextN xs (k + 1) 4) (nextN_lt _ _ _ (by omega))
  rw [es]
  clear es
  rintro e w2 ⟨rfl, hs2, hg2⟩
  have HS2 := Lib.hid (HS1.out.step hgp hs2 hg2)
  clear hs2 hg2 HS1
  go_wp2_with (fail)
  refine (some_any _ p (k + 2) w2.heap.size 3 3 xs smBo (by omega) rfl (by omega) (by omega) (HS2.out.st.alloc _) (by have := HS2.out.ne; omega) (Cells.new _ _ _ _ _ rfl)).mono ?_
  obtain ⟨b, hb0, eb⟩ := smBo_get (nextN xs (k + 2) 3) (nextN_lt _ _ _ (by omega))
  rw [eb]
  clear eb
  rintro e w3 ⟨rfl, hs3, hg3⟩
  have HS3 := Lib.hid (HS2.out.step hgp hs3 hg3)
  clear hs3 hg3 HS2
  go_wp2_with (fail)
  refine (pick_any _ p (k + 3) w3.heap.size 5 5 xs pkPr (by omega) rfl (by omega) (by omega) (HS3.out.st.alloc _) (by have := HS3.out.ne; omega) (Cells.new _ _ _ _ _ rfl)).mono ?_
  have hq := pk_all (fun v => 0 ≤ v ∧ v ≤ 9) pkPr (by decide) (nextN xs (k + 3) 5) (nextN_lt _ _ _ (by omega))
  obtain ⟨q, eq⟩ : ∃ z, z = pkPr.getD (nextN xs (k + 3) 5) 0 := ⟨_, rfl⟩
  rw [← eq] at hq ⊢
  clear eq
  rintro e w4 ⟨rfl, hs4, hg4⟩
  have HS4 := Lib.hid (HS3.out.step hgp hs4 hg4)
  clear hs4 hg4 HS3
  go_wp2_with (fail)
  refine (pick_any _ p (k + 4) w4.heap.size 6 6 xs pkUn (by omega) rfl (by omega) (by omega) (HS4.out.st.alloc _) (by have := HS4.out.ne; omega) (Cells.new _ _ _ _ _ rfl)).mono ?_
  have hu := pk_all (fun v => 1 ≤ v ∧ v ≤ 1000) pkUn (by decide) (nextN xs (k + 4) 6) (nextN_lt _ _ _ (by omega))
  obtain ⟨u, eu⟩ : ∃ z, z = pkUn.getD (nextN xs (k + 4) 6) 0 := ⟨_, rfl⟩
  rw [← eu] at hu ⊢
  clear eu
  have hw : IntKind.i64.wrap (a + u) = a + u := by rw [IntKind.wrap_i64]; omega
  rintro e w5 ⟨rfl, hs5, hg5⟩
  have HS5 := Lib.hid (HS4.out.step hgp hs5 hg5)
  clear hs5 hg5 HS4
  have hb := HS5.out.blk
  have hlt := HS5.out.lt
  have s0 : (w5.setCell ⟨g, 0, none⟩ (.string (idL i))).heap[g]? = some (.cells #[.string (idL i), .string ⟨#[]⟩, .string ⟨#[]⟩, .int .i64 0, .int .i64 0, .int .i64 0] 35 (0, 0)) := (setblkO (j := 0) (.string (idL i)) hb).trans rfl
  have s1 : ((w5.setCell ⟨g, 0, none⟩ (.string (idL i))).setCell ⟨g, 1, none⟩ (.string (slL s))).heap[g]? = some (.cells #[.string (idL i), .string (slL s), .string ⟨#[]⟩, .int .i64 0, .int .i64 0, .int .i64 0] 35 (0, 0)) := (setblkO (j := 1) (.string (slL s)) s0).trans rfl
  have s2 : (((w5.setCell ⟨g, 0, none⟩ (.string (idL i))).setCell ⟨g, 1, none⟩ (.string (slL s))).setCell ⟨g, 2, none⟩ (.string (boL b))).heap[g]? = some (.cells #[.string (idL i), .string (slL s), .string (boL b), .int .i64 0, .int .i64 0, .int .i64 0] 35 (0, 0)) := (setblkO (j := 2) (.string (boL b)) s1).trans rfl
  have s3 : ((((w5.setCell ⟨g, 0, none⟩ (.string (idL i))).setCell ⟨g, 1, none⟩ (.string (slL s))).setCell ⟨g, 2, none⟩ (.string (boL b))).setCell ⟨g, 3, none⟩ (.int .i64 q)).heap[g]? = some (.cells #[.string (idL i), .string (slL s), .string (boL b), .int .i64 q, .int .i64 0, .int .i64 0] 35 (0, 0)) := (setblkO (j := 3) (.int .i64 q) s2).trans rfl
  have s4 : (((((w5.setCell ⟨g, 0, none⟩ (.string (idL i))).setCell ⟨g, 1, none⟩ (.string (slL s))).setCell ⟨g, 2, none⟩ (.string (boL b))).setCell ⟨g, 3, none⟩ (.int .i64 q)).setCell ⟨g, 4, none⟩ (.int .i64 a)).heap[g]? = some (.cells #[.string (idL i), .string (slL s), .string (boL b), .int .i64 q, .int .i64 a, .int .i64 0] 35 (0, 0)) := (setblkO (j := 4) (.int .i64 a) s3).trans rfl
  have s5 : ((((((w5.setCell ⟨g, 0, none⟩ (.string (idL i))).setCell ⟨g, 1, none⟩ (.string (slL s))).setCell ⟨g, 2, none⟩ (.string (boL b))).setCell ⟨g, 3, none⟩ (.int .i64 q)).setCell ⟨g, 4, none⟩ (.int .i64 a)).setCell ⟨g, 5, none⟩ (.int .i64 (a + u))).heap[g]? = some (.cells #[.string (idL i), .string (slL s), .string (boL b), .int .i64 q, .int .i64 a, .int .i64 (a + u)] 35 (0, 0)) := (setblkO (j := 5) (.int .i64 (a + u)) s4).trans rfl
  have f0 : w5.frozen? ⟨g, 0, none⟩ = false := by simp [World.frozen?, hb]
  have c0 := cell_of_blk (j := 0) hb rfl
  have f1 : w5.frozen? ⟨g, 1, none⟩ = false := by simp [World.frozen?, hb]
  have c1 := cell_of_blk (j := 1) hb rfl
  have f2 : w5.frozen? ⟨g, 2, none⟩ = false := by simp [World.frozen?, hb]
  have c2 := cell_of_blk (j := 2) hb rfl
  have f3 : w5.frozen? ⟨g, 3, none⟩ = false := by simp [World.frozen?, hb]
  have c3 := cell_of_blk (j := 3) hb rfl
  have f4 : w5.frozen? ⟨g, 4, none⟩ = false := by simp [World.frozen?, hb]
  have c4 := cell_of_blk (j := 4) hb rfl
  have f5 : w5.frozen? ⟨g, 5, none⟩ = false := by simp [World.frozen?, hb]
  have c5 := cell_of_blk (j := 5) hb rfl
  have HX := Lib.hid (show ((((((w5.setCell ⟨g, 0, none⟩ (.string (idL i))).setCell ⟨g, 1, none⟩ (.string (slL s))).setCell ⟨g, 2, none⟩ (.string (boL b))).setCell ⟨g, 3, none⟩ (.int .i64 q)).setCell ⟨g, 4, none⟩ (.int .i64 a)).setCell ⟨g, 5, none⟩ (.int .i64 (a + u))).heap[g]? = some (.cells #[.string (idL i), .string (slL s), .string (boL b), .int .i64 q, .int .i64 a, .int .i64 (a + u)] 35 (0, 0)) from s5)
  have HQ := Lib.hid (show Strm ((((((w5.setCell ⟨g, 0, none⟩ (.string (idL i))).setCell ⟨g, 1, none⟩ (.string (slL s))).setCell ⟨g, 2, none⟩ (.string (boL b))).setCell ⟨g, 3, none⟩ (.int .i64 q)).setCell ⟨g, 4, none⟩ (.int .i64 a)).setCell ⟨g, 5, none⟩ (.int .i64 (a + u))) p xs (k + 5) ∧ w.grownBy ((((((w5.setCell ⟨g, 0, none⟩ (.string (idL i))).setCell ⟨g, 1, none⟩ (.string (slL s))).setCell ⟨g, 2, none⟩ (.string (boL b))).setCell ⟨g, 3, none⟩ (.int .i64 q)).setCell ⟨g, 4, none⟩ (.int .i64 a)).setCell ⟨g, 5, none⟩ (.int .i64 (a + u))) (some p) from by
    have h1 : ∀ x, x ≠ g → ((((((w5.setCell ⟨g, 0, none⟩ (.string (idL i))).setCell ⟨g, 1, none⟩ (.string (slL s))).setCell ⟨g, 2, none⟩ (.string (boL b))).setCell ⟨g, 3, none⟩ (.int .i64 q)).setCell ⟨g, 4, none⟩ (.int .i64 a)).setCell ⟨g, 5, none⟩ (.int .i64 (a + u))).heap[x]? = w5.heap[x]? := fun x hx => by rw [setcO _ _ _ _ _ hx, setcO _ _ _ _ _ hx, setcO _ _ _ _ _ hx, setcO _ _ _ _ _ hx, setcO _ _ _ _ _ hx, setcO _ _ _ _ _ hx]
    have h2 : ((((((w5.setCell ⟨g, 0, none⟩ (.string (idL i))).setCell ⟨g, 1, none⟩ (.string (slL s))).setCell ⟨g, 2, none⟩ (.string (boL b))).setCell ⟨g, 3, none⟩ (.int .i64 q)).setCell ⟨g, 4, none⟩ (.int .i64 a)).setCell ⟨g, 5, none⟩ (.int .i64 (a + u))).heap.size = w5.heap.size := by simp [World.setCell]
    have hos : ((((((w5.setCell ⟨g, 0, none⟩ (.string (idL i))).setCell ⟨g, 1, none⟩ (.string (slL s))).setCell ⟨g, 2, none⟩ (.string (boL b))).setCell ⟨g, 3, none⟩ (.int .i64 q)).setCell ⟨g, 4, none⟩ (.int .i64 a)).setCell ⟨g, 5, none⟩ (.int .i64 (a + u))).os = w5.os := by simp only [World.setCell]
    have htape : ((((((w5.setCell ⟨g, 0, none⟩ (.string (idL i))).setCell ⟨g, 1, none⟩ (.string (slL s))).setCell ⟨g, 2, none⟩ (.string (boL b))).setCell ⟨g, 3, none⟩ (.int .i64 q)).setCell ⟨g, 4, none⟩ (.int .i64 a)).setCell ⟨g, 5, none⟩ (.int .i64 (a + u))).tape = w5.tape := by simp only [World.setCell]
    have houtput : ((((((w5.setCell ⟨g, 0, none⟩ (.string (idL i))).setCell ⟨g, 1, none⟩ (.string (slL s))).setCell ⟨g, 2, none⟩ (.string (boL b))).setCell ⟨g, 3, none⟩ (.int .i64 q)).setCell ⟨g, 4, none⟩ (.int .i64 a)).setCell ⟨g, 5, none⟩ (.int .i64 (a + u))).output = w5.output := by simp only [World.setCell]
    have hgr := HS5.out.gr
    exact ⟨HS5.out.st.keep (fun x hx => h1 x (by omega)), ⟨hos.trans hgr.os, htape.trans hgr.tape, houtput.trans hgr.output, by rw [h2]; exact hgr.size, fun x hx hne => (h1 x (by omega)).trans (hgr.block x hx hne)⟩⟩)
  clear HS5 hb s0 s1 s2 s3 s4 s5
  go_wp2_with (fail)
  have r0 := cell_of_blk (j := 0) HX.out rfl
  have r1 := cell_of_blk (j := 1) HX.out rfl
  have r2 := cell_of_blk (j := 2) HX.out rfl
  have r3 := cell_of_blk (j := 3) HX.out rfl
  have r4 := cell_of_blk (j := 4) HX.out rfl
  have r5 := cell_of_blk (j := 5) HX.out rfl
  refine bodyPost_ret (v := .agg #[.string (idL i), .string (slL s), .string (boL b), .int .i64 q, .int .i64 a, .int .i64 (a + u)]) (by simp [results, Tryz.results62, go_sem, r0, r1, r2, r3, r4, r5]) rfl ?_
  exact ⟨⟨i, s, b, q, a, a + u⟩, ⟨hi, hs, hb0, hq, ha.1, ⟨by show a < a + u; omega, by show a + u ≤ 100000000; omega⟩⟩, rfl, by show a + u ≤ a + 1000; omega, rfl, HQ.out⟩
end Go.Proofs.YtnnncddjcdjhoaaGreatDoor
