/- RightVersion and RightImages of the stream, by their contracts. Printed by mdl.py out of gen_WyI.py. -/
import Derived.Test.YtidgicbhgnbidaaGreatDoorMgC
import Derived.Test.YtidgicbhgnbidaaGreatDoorFxF
import Derived.Test.YtidgicbhgnbidaaGreatDoorMgB
import Derived.BigRegion
import Derived.Deep.RegionLawGrows
namespace Go.Proofs.YtidgicbhgnbidaaGreatDoor
open Go.RowKit

def pkMi : List Int := [0, 0, 1, 5, 9999]
def pkPa : List Int := [0, 0, 0, 3, 9999]
def pkSz : List Int := [1, 5, 5, 10]
def pkHi : List Int := [0, 5, 9999]
theorem pkv_all (P : Int → Prop) (vs : List Int) (h : ∀ v ∈ vs, P v) (i : Nat) (hi : i < vs.length) : P (vs.getD i 0) := by
  rw [List.getD_eq_getElem?_getD, List.getElem?_eq_getElem hi]
  exact h _ (List.getElem_mem hi)
set_option maxRecDepth 100000 in
set_option maxHeartbeats 4000000 in
theorem rightVersion_any (w : World) (p k : Nat) (xs : List Int) (hk : k < 900000) (hs : Strm w p xs k) :
    Calls Tryz.prog 7 #[.pointer (some ⟨p, 0, none⟩)] w fun e w' => ∃ v : Ve, VeOk v ∧ e = .returned (veV v) ∧ Strm w' p xs (k + 3) ∧ w.grownBy w' (some p) := by
  have hplt := hs.lt
  obtain ⟨g, eg⟩ : ∃ g, g = w.heap.size := ⟨_, rfl⟩
  obtain ⟨w0, e0⟩ : ∃ V : World, V = w.alloc (.cells #[.int .i64 0, .int .i64 0, .int .i64 0] 29) := ⟨_, rfl⟩
  have hg0 : w0.heap[g]? = some (.cells #[.int .i64 0, .int .i64 0, .int .i64 0] 29 (0, 0)) := by rw [e0, eg]; exact heap_new w _
  have HG0 := Lib.hid (show w0.heap[g]? = some (.cells #[.int .i64 0, .int .i64 0, .int .i64 0] 29 (0, 0)) ∧ w.grownBy w0 (some p) ∧ Strm w0 p xs k from ⟨hg0, by rw [e0]; exact World.grownBy_alloc _ _ (some p), by rw [e0]; exact hs.alloc _⟩)
  have hgp : p < g := by omega
  have hwg : w.heap.size ≤ g := by omega
  have hl0 := (Array.getElem?_eq_some_iff.1 hg0).1
  clear hs hg0
  go_enter Tryz.func7, Tryz.ntmps7
  go_upto_region 1 with (fail)
  rw [← eg, ← e0]
  clear eg e0
  go_wp2_with (fail)
  refine (range_any w0 p k xs 1 4 (by omega) (by omega) (by omega) (by omega) (by omega) HG0.out.2.2).mono ?_
  have hA := nextV_range xs k 4 (by omega)
  obtain ⟨a, ea⟩ : ∃ a, a = 1 + nextV xs k (4 - 1 + 1) := ⟨_, rfl⟩
  have ha : 1 ≤ a ∧ a ≤ 4 := by
    rw [ea]
    have e : (4 : Int) - 1 + 1 = 4 := by omega
    rw [e]; omega
  rw [← ea]
  clear ea hA
  rintro e w1 ⟨rfl, hs1, hg1⟩
  have HG1 := Lib.hid (show w1.heap[g]? = some (.cells #[.int .i64 0, .int .i64 0, .int .i64 0] 29 (0, 0)) ∧ w.grownBy w1 (some p) ∧ Strm w1 p xs (k + 1) from ⟨(hg1.block g hl0 (fun e => by have := Option.some.inj e; omega)).trans HG0.out.1, grown_trans HG0.out.2.1 hg1, hs1⟩)
  have hl1 := (Array.getElem?_eq_some_iff.1 HG1.out.1).1
  clear hs1 hg1 hl0
  go_wp2_with (fail)
  refine (pick_any _ p (k + 1) w1.heap.size 5 5 xs pkMi (by omega) rfl (by omega) (by omega) (HG1.out.2.2.alloc _) (by omega) (Cells.new _ _ _ _ _ rfl)).mono ?_
  have hb := pkv_all (fun v => 0 ≤ v ∧ v ≤ 9999) pkMi (by decide) (nextN xs (k + 1) 5) (nextN_lt _ _ _ (by omega))
  obtain ⟨b, eb⟩ : ∃ z, z = pkMi.getD (nextN xs (k + 1) 5) 0 := ⟨_, rfl⟩
  rw [← eb] at hb ⊢
  clear eb
  rintro e w2 ⟨rfl, hs2, hg2⟩
  have hg2' := grown_of_alloc hg2
  have HG2 := Lib.hid (show w2.heap[g]? = some (.cells #[.int .i64 0, .int .i64 0, .int .i64 0] 29 (0, 0)) ∧ w.grownBy w2 (some p) ∧ Strm w2 p xs (k + 2) from ⟨(hg2'.block g hl1 (fun e => by have := Option.some.inj e; omega)).trans HG1.out.1, grown_trans HG1.out.2.1 hg2', hs2⟩)
  have hl2 := (Array.getElem?_eq_some_iff.1 HG2.out.1).1
  clear hs2 hg2 hg2' hl1
  go_wp2_with (fail)
  refine (pick_any _ p (k + 2) w2.heap.size 5 5 xs pkPa (by omega) rfl (by omega) (by omega) (HG2.out.2.2.alloc _) (by omega) (Cells.new _ _ _ _ _ rfl)).mono ?_
  have hc := pkv_all (fun v => 0 ≤ v ∧ v ≤ 9999) pkPa (by decide) (nextN xs (k + 2) 5) (nextN_lt _ _ _ (by omega))
  obtain ⟨c, ec⟩ : ∃ z, z = pkPa.getD (nextN xs (k + 2) 5) 0 := ⟨_, rfl⟩
  rw [← ec] at hc ⊢
  clear ec
  rintro e w3 ⟨rfl, hs3, hg3⟩
  have hg3' := grown_of_alloc hg3
  have hgb : w3.heap[g]? = some (.cells #[.int .i64 0, .int .i64 0, .int .i64 0] 29 (0, 0)) := (hg3'.block g hl2 (fun e => by have := Option.some.inj e; omega)).trans HG2.out.1
  have HG3 := Lib.hid (show w3.heap[g]? = some (.cells #[.int .i64 0, .int .i64 0, .int .i64 0] 29 (0, 0)) ∧ w.grownBy w3 (some p) ∧ Strm w3 p xs (k + 3) from ⟨hgb, grown_trans HG2.out.2.1 hg3', hs3⟩)
  have hl3 := (Array.getElem?_eq_some_iff.1 hgb).1
  have q0 := cell_of_blk (j := 0) hgb rfl
  have q1 := cell_of_blk (j := 1) hgb rfl
  have q2 := cell_of_blk (j := 2) hgb rfl
  have f0 : w3.frozen? ⟨g, 0, none⟩ = false := by simp [World.frozen?, hgb]
  have f1 : w3.frozen? ⟨g, 1, none⟩ = false := by simp [World.frozen?, hgb]
  have f2 : w3.frozen? ⟨g, 2, none⟩ = false := by simp [World.frozen?, hgb]
  have HX := Lib.hid (show (((w3.setCell ⟨g, 0, none⟩ (.int .i64 a)).setCell ⟨g, 1, none⟩ (.int .i64 b)).setCell ⟨g, 2, none⟩ (.int .i64 c)).heap[g]? = some (.cells #[.int .i64 a, .int .i64 b, .int .i64 c] 29 (0, 0)) ∧ w.grownBy (((w3.setCell ⟨g, 0, none⟩ (.int .i64 a)).setCell ⟨g, 1, none⟩ (.int .i64 b)).setCell ⟨g, 2, none⟩ (.int .i64 c)) (some p) ∧ Strm (((w3.setCell ⟨g, 0, none⟩ (.int .i64 a)).setCell ⟨g, 1, none⟩ (.int .i64 b)).setCell ⟨g, 2, none⟩ (.int .i64 c)) p xs (k + 3) from by
    have h0 : (w3.setCell ⟨g, 0, none⟩ (.int .i64 a)).heap[g]? = some (.cells #[.int .i64 a, .int .i64 0, .int .i64 0] 29 (0, 0)) := (setblkV (j := 0) _ hgb).trans rfl
    have h1 : ((w3.setCell ⟨g, 0, none⟩ (.int .i64 a)).setCell ⟨g, 1, none⟩ (.int .i64 b)).heap[g]? = some (.cells #[.int .i64 a, .int .i64 b, .int .i64 0] 29 (0, 0)) := (setblkV (j := 1) _ h0).trans rfl
    have hk : ∀ z, z ≠ g → (((w3.setCell ⟨g, 0, none⟩ (.int .i64 a)).setCell ⟨g, 1, none⟩ (.int .i64 b)).setCell ⟨g, 2, none⟩ (.int .i64 c)).heap[z]? = w3.heap[z]? := fun z hz => by rw [setcV _ _ _ _ _ hz, setcV _ _ _ _ _ hz, setcV _ _ _ _ _ hz]
    have hgr := HG3.out.2.1
    refine ⟨(setblkV (j := 2) _ h1).trans rfl, ⟨hgr.os, hgr.tape, hgr.output, by simpa [World.setCell] using hgr.size, fun z hz hne => (hk z (by omega)).trans (hgr.block z hz hne)⟩, HG3.out.2.2.keep (fun z hz => hk z (by omega))⟩)
  clear hs3 hg3 hg3' hgb hl2
  go_wp2_with (fail)
  have r0 := cell_of_blk (j := 0) HX.out.1 rfl
  have r1 := cell_of_blk (j := 1) HX.out.1 rfl
  have r2 := cell_of_blk (j := 2) HX.out.1 rfl
  refine bodyPost_ret (v := .agg #[.int .i64 a, .int .i64 b, .int .i64 c]) (by simp [results, Tryz.results7, go_sem, r0, r1, r2]) rfl ?_
  exact ⟨⟨a, b, c⟩, ⟨⟨by show 0 ≤ a; omega, by show a ≤ 9999; omega⟩, hb, hc⟩, rfl, HX.out.2.2, HX.out.2.1⟩
/-- Which block the models of an image lie in, how many they are, and which. -/
def mdG (G : Nat → Nat) : Nat → Nat
  | 0 => G 3
  | 1 => G 4
  | 2 => G 5
  | _ => G 6
def mdN : Nat → Nat
  | 2 => 2
  | _ => 1
def mdMo : Nat → List Nat
  | 2 => [0, 1]
  | 3 => [1]
  | _ => [0]
def mdS (G : Nat → Nat) (z : Nat) : Value := .slice (some ⟨mdG G z, 0, none⟩) (mdN z) (mdN z)
theorem four_of {z : Nat} (h : z < 4) : z = 0 ∨ z = 1 ∨ z = 2 ∨ z = 3 := by omega
abbrev riMs : List ObD := [none, none, none, some (fun _ => .cells #[.string (mdT 0)] 9), some (fun _ => .cells #[.string (mdT 0)] 9), some (fun _ => .cells #[.string (mdT 0), .string (mdT 1)] 9), some (fun _ => .cells #[.string (mdT 1)] 9), some (fun G => .cells #[.slice (some ⟨G 3, 0, none⟩) 1 1, .slice (some ⟨G 4, 0, none⟩) 1 1, .slice (some ⟨G 5, 0, none⟩) 2 2, .slice (some ⟨G 6, 0, none⟩) 1 1] 60), none, none, none, none, none, some (fun _ => .cells #[.int .i64 1, .int .i64 5, .int .i64 5, .int .i64 10] 3), none, none, some (fun _ => .cells #[.int .i64 0, .int .i64 0, .int .i64 0, .slice none 0 0, .slice none 0 0, .int .i64 0] 91)]
abbrev riDs : List (List Nat) := [[], [], [], [3], [4], [5], [6], [7, 3, 4, 5, 6], [], [], [7, 3, 4, 5, 6], [7, 3, 4, 5, 6], [], [13], [13], [3, 4, 5, 6], [16]]
def riV (M mi sz : Int) (p zn : Nat) (G : Nat → Nat) : List Value := [.int .i64 M, .int .i64 mi, .agg #[.int .i64 M, .int .i64 mi, .int .i64 0], .slice (some ⟨G 3, 0, none⟩) 1 1, .slice (some ⟨G 4, 0, none⟩) 1 1, .slice (some ⟨G 5, 0, none⟩) 2 2, .slice (some ⟨G 6, 0, none⟩) 1 1, .slice (some ⟨G 7, 0, none⟩) 4 4, .pointer (some ⟨p, 0, none⟩), .int .i64 (zn : Int), .pointer (some ⟨G 7, zn, none⟩), mdS G zn, .pointer (some ⟨p, 0, none⟩), .slice (some ⟨G 13, 0, none⟩) 4 4, .int .i64 sz, .agg #[.int .i64 M, .int .i64 mi, .int .i64 0, mdS G zn, .slice none 0 0, .int .i64 sz], .pointer (some ⟨G 16, 0, none⟩)]
theorem riDep (M mi sz : Int) (p zn : Nat) : ∀ (k : Nat) (l : List Nat), riDs[k]? = some l → ∀ G G' : Nat → Nat, (∀ j ∈ l, G j = G' j) → gv (riV M mi sz p zn G) k = gv (riV M mi sz p zn G') k
  | 0, _, _, _, _, _ => rfl
  | 1, _, _, _, _, _ => rfl
  | 2, _, _, _, _, _ => rfl
  | 3, _, h, G, G', e => by
    cases h
    have e3 := e 3 (by decide)
    simp only [gv, riV, List.getD_cons_zero, List.getD_cons_succ, mdS, mdG, e3]
  | 4, _, h, G, G', e => by
    cases h
    have e4 := e 4 (by decide)
    simp only [gv, riV, List.getD_cons_zero, List.getD_cons_succ, mdS, mdG, e4]
  | 5, _, h, G, G', e => by
    cases h
    have e5 := e 5 (by decide)
    simp only [gv, riV, List.getD_cons_zero, List.getD_cons_succ, mdS, mdG, e5]
  | 6, _, h, G, G', e => by
    cases h
    have e6 := e 6 (by decide)
    simp only [gv, riV, List.getD_cons_zero, List.getD_cons_succ, mdS, mdG, e6]
  | 7, _, h, G, G', e => by
    cases h
    have e7 := e 7 (by decide)
    have e3 := e 3 (by decide)
    have e4 := e 4 (by decide)
    have e5 := e 5 (by decide)
    have e6 := e 6 (by decide)
    simp only [gv, riV, List.getD_cons_zero, List.getD_cons_succ, mdS, mdG, e7, e3, e4, e5, e6]
  | 8, _, _, _, _, _ => rfl
  | 9, _, _, _, _, _ => rfl
  | 10, _, h, G, G', e => by
    cases h
    have e7 := e 7 (by decide)
    have e3 := e 3 (by decide)
    have e4 := e 4 (by decide)
    have e5 := e 5 (by decide)
    have e6 := e 6 (by decide)
    simp only [gv, riV, List.getD_cons_zero, List.getD_cons_succ, mdS, mdG, e7, e3, e4, e5, e6]
  | 11, _, h, G, G', e => by
    cases h
    have e7 := e 7 (by decide)
    have e3 := e 3 (by decide)
    have e4 := e 4 (by decide)
    have e5 := e 5 (by decide)
    have e6 := e 6 (by decide)
    simp only [gv, riV, List.getD_cons_zero, List.getD_cons_succ, mdS, mdG, e7, e3, e4, e5, e6]
  | 12, _, _, _, _, _ => rfl
  | 13, _, h, G, G', e => by
    cases h
    have e13 := e 13 (by decide)
    simp only [gv, riV, List.getD_cons_zero, List.getD_cons_succ, mdS, mdG, e13]
  | 14, _, h, G, G', e => by
    cases h
    have e13 := e 13 (by decide)
    simp only [gv, riV, List.getD_cons_zero, List.getD_cons_succ, mdS, mdG, e13]
  | 15, _, h, G, G', e => by
    cases h
    have e3 := e 3 (by decide)
    have e4 := e 4 (by decide)
    have e5 := e 5 (by decide)
    have e6 := e 6 (by decide)
    simp only [gv, riV, List.getD_cons_zero, List.getD_cons_succ, mdS, mdG, e3, e4, e5, e6]
  | 16, _, h, G, G', e => by
    cases h
    have e16 := e 16 (by decide)
    simp only [gv, riV, List.getD_cons_zero, List.getD_cons_succ, mdS, mdG, e16]
  | n + 17, _, h, _, _, _ => by simp [riDs] at h
theorem riObj : ∀ (k : Nat) (l : List Nat) (ob : (Nat → Nat) → Obj), riDs[k]? = some l → riMs[k]? = some (some ob) → ∀ G G' : Nat → Nat, (∀ j ∈ l, j ≠ k → G j = G' j) → ob G = ob G'
  | 0, _, _, _, h, _, _, _ => by cases h
  | 1, _, _, _, h, _, _, _ => by cases h
  | 2, _, _, _, h, _, _, _ => by cases h
  | 3, _, _, _, h, _, _, _ => by cases h; rfl
  | 4, _, _, _, h, _, _, _ => by cases h; rfl
  | 5, _, _, _, h, _, _, _ => by cases h; rfl
  | 6, _, _, _, h, _, _, _ => by cases h; rfl
  | 7, _, _, h, h2, G, G', e => by
    cases h
    cases h2
    have e3 := e 3 (by decide) (by decide)
    have e4 := e 4 (by decide) (by decide)
    have e5 := e 5 (by decide) (by decide)
    have e6 := e 6 (by decide) (by decide)
    simp only [e3, e4, e5, e6]
  | 8, _, _, _, h, _, _, _ => by cases h
  | 9, _, _, _, h, _, _, _ => by cases h
  | 10, _, _, _, h, _, _, _ => by cases h
  | 11, _, _, _, h, _, _, _ => by cases h
  | 12, _, _, _, h, _, _, _ => by cases h
  | 13, _, _, _, h, _, _, _ => by cases h; rfl
  | 14, _, _, _, h, _, _, _ => by cases h
  | 15, _, _, _, h, _, _, _ => by cases h
  | 16, _, _, _, h, _, _, _ => by cases h; rfl
  | n + 17, _, _, h, _, _, _, _ => by simp [riDs] at h
theorem Tryz.infoRgI : (Tryz.prog.info? 42).map (fun i => (i.zero, i.size, i.bytes)) = some (some (.agg #[.int .i64 0, .int .i64 0, .int .i64 0, .int .i64 0, .int .i64 0, .int .i64 0]), 6, 48) := by kernel_rfl
/-- The stages of that region. -/
structure KRi (wr W : World) (p kk : Nat) (xs : List Int) (s : Nat) (V : World) : Prop where
  st : Strm V p xs (kk + s)
  gr : wr.grownBy V (some p)
  sz : W.heap.size ≤ V.heap.size
theorem KRi.alloc {wr W V : World} {p kk s : Nat} {xs : List Int} (h : KRi wr W p kk xs s V) (o : Obj) : KRi wr W p kk xs s (V.alloc o) :=
  ⟨h.st.alloc o, grown_trans h.gr (World.grownBy_alloc _ _ (some p)), by have := h.sz; simp; omega⟩
theorem KRi.call {wr W V V' : World} {p kk s : Nat} {xs : List Int} (h : KRi wr W p kk xs s V) (hp : p < W.heap.size) (hg : V.grownBy V' (some p)) (hs : Strm V' p xs (kk + s + 1)) : KRi wr W p kk xs (s + 1) V' ∧ GrN W V V' :=
  ⟨⟨hs, grown_trans h.gr hg, Nat.le_trans h.sz hg.size⟩, hg.size, fun b hb hl => hg.block b hl (fun e => by have := Option.some.inj e; omega)⟩
/-- What belongs to an image as it is made. -/
structure ImO (w : World) (B : Nat) (x : Im) : Prop where
  mo : w.ownsRow B 9 1 (.slice x.ma x.mo.length x.mc) x.mo.length (recs mdC x.mo)
  rs : w.ownsRow B 42 6 (.slice x.fa x.rs.length x.fc) x.rs.length (recs rgC x.rs)
theorem own_of_blk {w : World} {base g n size : Nat} {e : TypeId} {cs : Array Value} (hg : w.heap[g]? = some (.cells cs e (0, 0))) (hb : base ≤ g) (hm : n ≤ maxLen) (hs : cs.size = n * size) :
    w.ownsRow base e size (.slice (some ⟨g, 0, none⟩) n n) n cs.toList :=
  ⟨by simpa using hs, .inr ⟨g, n, cs, rfl, hb, hg, Nat.le_refl _, hm, hs, List.take_of_length_le (by rw [Array.length_toList, hs]; exact Nat.le_refl _)⟩⟩
theorem mdMo_ok (z : Nat) : (mdMo z).length = mdN z ∧ (mdMo z = [0] ∨ mdMo z = [0, 1] ∨ mdMo z = [1]) := by
  match z with
  | 0 => exact ⟨rfl, .inl rfl⟩
  | 1 => exact ⟨rfl, .inl rfl⟩
  | 2 => exact ⟨rfl, .inr (.inl rfl)⟩
  | 3 => exact ⟨rfl, .inr (.inr rfl)⟩
  | n + 4 => exact ⟨rfl, .inl rfl⟩
theorem md_own {w w2 : World} {base zn : Nat} {G : Nat → Nat} (hz : zn < 4) (hb : base ≤ w2.heap.size) (h : ∀ k ob, riMs[k]? = some (some ob) → w2.heap.size ≤ G k ∧ w.heap[G k]? = some (ob G)) : w.ownsRow base 9 1 (mdS G zn) (mdN zn) (recs mdC (mdMo zn)) ∧ w2.heap.size ≤ mdG G zn := by
  rcases four_of hz with e | e | e | e <;> subst e
  · obtain ⟨h1, h2⟩ := h 3 _ rfl
    exact ⟨own_of_blk h2 (Nat.le_trans hb h1) (by decide) rfl, h1⟩
  · obtain ⟨h1, h2⟩ := h 4 _ rfl
    exact ⟨own_of_blk h2 (Nat.le_trans hb h1) (by decide) rfl, h1⟩
  · obtain ⟨h1, h2⟩ := h 5 _ rfl
    exact ⟨own_of_blk h2 (Nat.le_trans hb h1) (by decide) rfl, h1⟩
  · obtain ⟨h1, h2⟩ := h 6 _ rfl
    exact ⟨own_of_blk h2 (Nat.le_trans hb h1) (by decide) rfl, h1⟩
theorem own_apart {w : World} {B1 B2 s1 s2 n1 n2 : Nat} {e1 e2 : TypeId} {v1 v2 : Value} {xs1 xs2 : List Value} (h1 : w.ownsRow B1 e1 s1 v1 n1 xs1) (h2 : w.ownsRow B2 e2 s2 v2 n2 xs2) (he : e1 ≠ e2) : v1.ownBlock = none ∨ v1.ownBlock ≠ v2.ownBlock := by
  rcases h1.2 with ⟨hv, _⟩ | ⟨g, cap, cur, hv, _, hh, _⟩
  · left; rw [hv]; rfl
  · right
    intro e
    rcases h2.2 with ⟨hv2, _⟩ | ⟨g2, cap2, cur2, hv2, _, hh2, _⟩
    · rw [hv, hv2] at e; cases e
    · rw [hv, hv2] at e
      have e3 : g = g2 := Option.some.inj e
      rw [e3, hh2] at hh
      injection (Option.some.inj hh) with _ h5
      exact he h5.symm
theorem ImO.strm {w w' : World} {B p : Nat} {x : Im} (h : ImO w B x) (hg : w.grownBy w' (some p)) (hp : p < B) : ImO w' B x := ⟨own_kept h.mo hg hp, own_kept h.rs hg hp⟩
theorem ImO.out {w w' : World} {B B2 s n : Nat} {v : Value} {xs : List Value} {x : Im} (h : ImO w B x) (ho : w.ownsRow B2 91 s v n xs) (hg : w.grownBy w' v.ownBlock) : ImO w' B x :=
  ⟨h.mo.kept hg (own_apart h.mo ho (by decide)), h.rs.kept hg (own_apart h.rs ho (by decide))⟩
theorem ImO.below {w w' : World} {B : Nat} {x : Im} (h : ImO w B x) (hb : Below w.heap.size w w') : ImO w' B x := ⟨own_below h.mo hb, own_below h.rs hb⟩
/-- The images so far. -/
structure RiS (w : World) (p k0 : Nat) (xs : List Int) (cnt : Nat) (bd : Int) (s : Value) (L : List Im) (k' : Nat) (wx : World) : Prop where
  len : L.length ≤ cnt
  k : k' ≤ k0 + 8 * cnt
  ok : ∀ x ∈ L, ImOk x ∧ vn x.v < bd
  ord : L.Pairwise fun x y => vn x.v < vn y.v
  im : ∀ x ∈ L, ImO wx w.heap.size x
  own : wx.ownsRow w.heap.size 91 6 s L.length (recs imC L)
  st : Strm wx p xs k'
  gr : w.grownBy wx (some p)
def RiRel (w : World) (p k0 : Nat) (xs : List Int) (cnt : Nat) (bd : Int) (s : Value) (wx : World) : Prop := ∃ (L : List Im) (k' : Nat), RiS w p k0 xs cnt bd s L k' wx
theorem RiS.weak {w wx : World} {p k0 k' cnt cnt' : Nat} {xs : List Int} {bd bd' : Int} {s : Value} {L : List Im} (h : RiS w p k0 xs cnt bd s L k' wx) (hc : cnt ≤ cnt') (hb : bd ≤ bd') : RiS w p k0 xs cnt' bd' s L k' wx :=
  ⟨Nat.le_trans h.len hc, by have := h.k; omega, fun x hx => ⟨(h.ok x hx).1, by have := (h.ok x hx).2; omega⟩, h.ord, h.im, h.own, h.st, h.gr⟩
def RiIn (w : World) (p k0 : Nat) (xs : List Int) (M gm : Nat) (s u : Value) (wx : World) : Prop :=
  ∃ i : Nat, i ≤ 2 ∧ u = .int .i64 (i : Int) ∧ RiRel w p k0 xs (2 * (M - 2) + i) (vn ⟨(M : Int), 5 * (i : Int), 0⟩) s wx ∧ wx.heap[gm]? = some (.cells #[.int .i64 0, .int .i64 5] 3 (0, 0))
theorem RiS.below {w wx wy : World} {p k0 k' cnt : Nat} {xs : List Int} {bd : Int} {s : Value} {L : List Im} (h : RiS w p k0 xs cnt bd s L k' wx) (hb : Below wx.heap.size wx wy) : RiS w p k0 xs cnt bd s L k' wy :=
  ⟨h.len, h.k, h.ok, h.ord, fun x hx => (h.im x hx).below hb, own_below h.own hb, h.st.below hb, grown_trans h.gr ⟨hb.os, hb.tape, hb.output, hb.size, fun b hl _ => hb.block b hl⟩⟩
theorem vn_step (M : Int) (i : Int) : vn ⟨M, 5 * i, 0⟩ ≤ vn ⟨M, 5 * (i + 1), 0⟩ := by
  unfold vn
  show (M * 10000 + 5 * i) * 10000 + 0 ≤ (M * 10000 + 5 * (i + 1)) * 10000 + 0
  omega
/-- All but one block stays. -/
structure OtV (w w' : World) (g : Nat) : Prop where
  size : w'.heap.size = w.heap.size
  blk : ∀ b, b ≠ g → w'.heap[b]? = w.heap[b]?
  os : w'.os = w.os
  tape : w'.tape = w.tape
  output : w'.output = w.output
theorem set6V (V : World) (b : Nat) (T : TypeId) (c0 c1 c2 c3 c4 c5 v0 v1 v2 v3 v4 v5 : Value) (h : V.heap[b]? = some (.cells #[c0, c1, c2, c3, c4, c5] T (0, 0))) (W : World) (hW : W = ((((((V.setCell ⟨b, 0, none⟩ v0).setCell ⟨b, 1, none⟩ v1).setCell ⟨b, 2, none⟩ v2).setCell ⟨b, 3, none⟩ v3).setCell ⟨b, 4, none⟩ v4).setCell ⟨b, 5, none⟩ v5)) :
    W.heap[b]? = some (.cells #[v0, v1, v2, v3, v4, v5] T (0, 0)) ∧ OtV V W b := by
  have h0 := (setblkV (j := 0) v0 h)
  have h1 := (setblkV (j := 1) v1 h0)
  have h2 := (setblkV (j := 2) v2 h1)
  have h3 := (setblkV (j := 3) v3 h2)
  have h4 := (setblkV (j := 4) v4 h3)
  have h5 := (setblkV (j := 5) v5 h4)
  subst hW
  refine ⟨h5.trans rfl, ⟨by simp [World.setCell], fun z hz => ?_, by simp only [World.setCell], by simp only [World.setCell], by simp only [World.setCell]⟩⟩
  rw [setcV _ _ _ _ _ hz, setcV _ _ _ _ _ hz, setcV _ _ _ _ _ hz, setcV _ _ _ _ _ hz, setcV _ _ _ _ _ hz, setcV _ _ _ _ _ hz]
theorem grown_otV {a w w' : World} {p g : Nat} (h : a.grownBy w (some p)) (ho : OtV w w' g) (hg : a.heap.size ≤ g) : a.grownBy w' (some p) :=
  ⟨ho.os.trans h.os, ho.tape.trans h.tape, ho.output.trans h.output, by rw [ho.size]; exact h.size, fun b hb hne => (ho.blk b (by omega)).trans (h.block b hb hne)⟩
theorem own_otV {w w' : World} {base g : Nat} {e : TypeId} {size n : Nat} {v : Value} {xs : List Value} (h : w.ownsRow base e size v n xs) (ho : OtV w w' g) (hg : ∀ b, v.ownBlock = some b → b ≠ g) : w'.ownsRow base e size v n xs := by
  refine ⟨h.1, ?_⟩
  rcases h.2 with h | ⟨b, cap, cur, hv, hb, hh, r⟩
  · exact .inl h
  · exact .inr ⟨b, cap, cur, hv, hb, (ho.blk b (hg b (by rw [hv]; rfl))).trans hh, r⟩
/-- An image that is being made. -/
structure RgS (w w2 : World) (p gx gd mn : Nat) (mo : List Nat) (xs : List Int) (M mi sz : Int) (kk : Nat) (F : Value) (wx : World) : Prop where
  st : Strm wx p xs kk
  gr : w2.grownBy wx (some p)
  img : wx.heap[gx]? = some (.cells #[.int .i64 M, .int .i64 mi, .int .i64 0, .slice (some ⟨gd, 0, none⟩) mn mn, F, .int .i64 sz] 91 (0, 0))
  md : wx.ownsRow w.heap.size 9 1 (.slice (some ⟨gd, 0, none⟩) mn mn) mn (recs mdC mo)
  lo : p < w.heap.size ∧ w.heap.size ≤ w2.heap.size ∧ w2.heap.size ≤ gx ∧ w2.heap.size ≤ gd ∧ gd ≠ gx
section
variable {w w2 wx wy : World} {p gx gd mn kk : Nat} {mo : List Nat} {xs : List Int} {M mi sz : Int} {F : Value}
theorem RgS.strm (h : RgS w w2 p gx gd mn mo xs M mi sz kk F wx) {kk' : Nat} (hs : Strm wy p xs kk') (hg : wx.grownBy wy (some p)) : RgS w w2 p gx gd mn mo xs M mi sz kk' F wy := by
  obtain ⟨l1, l2, l3, l4, l5⟩ := h.lo
  exact ⟨hs, grown_trans h.gr hg, (hg.block gx (Array.getElem?_eq_some_iff.1 h.img).1 (fun e => by have := Option.some.inj e; omega)).trans h.img, own_kept h.md hg l1, h.lo⟩
theorem RgS.below (h : RgS w w2 p gx gd mn mo xs M mi sz kk F wx) (hb : Below wx.heap.size wx wy) : RgS w w2 p gx gd mn mo xs M mi sz kk F wy :=
  ⟨h.st.below hb, grown_trans h.gr ⟨hb.os, hb.tape, hb.output, hb.size, fun b hl _ => hb.block b hl⟩, (hb.block gx (Array.getElem?_eq_some_iff.1 h.img).1).trans h.img, own_below h.md hb, h.lo⟩
theorem RgS.other (h : RgS w w2 p gx gd mn mo xs M mi sz kk F wx) {g : Nat} (ho : OtV wx wy g) (h1 : w2.heap.size ≤ g) (h2 : g ≠ gx) (h3 : g ≠ gd) : RgS w w2 p gx gd mn mo xs M mi sz kk F wy := by
  obtain ⟨l1, l2, l3, l4, l5⟩ := h.lo
  exact ⟨h.st.keep (fun b hb => ho.blk b (by omega)), grown_otV h.gr ho h1, (ho.blk gx (fun e => h2 e.symm)).trans h.img, own_otV h.md ho (fun b hb => by cases hb; exact fun e => h3 e.symm), h.lo⟩
/-- The image's ranges are put in. -/
theorem RgS.put (h : RgS w w2 p gx gd mn mo xs M mi sz kk F wx) (F' : Value) : RgS w w2 p gx gd mn mo xs M mi sz kk F' (wx.setCell ⟨gx, 4, none⟩ F') ∧ OtV wx (wx.setCell ⟨gx, 4, none⟩ F') gx := by
  obtain ⟨l1, l2, l3, l4, l5⟩ := h.lo
  have ho : OtV wx (wx.setCell ⟨gx, 4, none⟩ F') gx := ⟨by simp [World.setCell], fun z hz => setcV _ _ _ _ _ hz, by simp only [World.setCell], by simp only [World.setCell], by simp only [World.setCell]⟩
  exact ⟨⟨h.st.keep (fun b hb => ho.blk b (by omega)), grown_otV h.gr ho l3, (setblkV (j := 4) F' h.img).trans rfl, own_otV h.md ho (fun b hb => by cases hb; exact l5), h.lo⟩, ho⟩
/-- A row beside it grows. -/
theorem RgS.row (h : RgS w w2 p gx gd mn mo xs M mi sz kk F wx) {B s n : Nat} {e : TypeId} {v : Value} {ys : List Value} (ho : wx.ownsRow B e s v n ys) (he1 : e ≠ 91) (he2 : e ≠ 9) (hB : w2.heap.size ≤ B) (hg : wx.grownBy wy v.ownBlock) : RgS w w2 p gx gd mn mo xs M mi sz kk F wy := by
  obtain ⟨l1, l2, l3, l4, l5⟩ := h.lo
  have hlo : ∀ b, v.ownBlock = some b → B ≤ b := fun b hb => (ho.lt b hb).1
  have hgx : v.ownBlock ≠ some gx := by
    intro hb
    rcases ho.2 with ⟨hv, _⟩ | ⟨g, cap, cur, hv, _, hh, _⟩
    · rw [hv] at hb; cases hb
    · rw [hv] at hb
      have e3 : g = gx := Option.some.inj hb
      rw [e3, h.img] at hh
      injection (Option.some.inj hh) with _ h5
      exact he1 h5.symm
  exact ⟨h.st.row hg (fun g hgb => by have := hlo g hgb; omega), ⟨hg.os.trans h.gr.os, hg.tape.trans h.gr.tape, hg.output.trans h.gr.output, Nat.le_trans h.gr.size hg.size, fun b hb hne => (hg.block b (Nat.lt_of_lt_of_le hb h.gr.size) (fun e => by have := hlo b e.symm; omega)).trans (h.gr.block b hb hne)⟩, (hg.block gx (Array.getElem?_eq_some_iff.1 h.img).1 (fun e => hgx e.symm)).trans h.img, h.md.kept hg (own_apart h.md ho (fun e => he2 e.symm)), h.lo⟩
end
/-- Whether a first range is put ahead. -/
def RiFl (w w2 : World) (p gx gd mn gr : Nat) (mo : List Nat) (xs : List Int) (M mi sz : Int) (k9 : Nat) (r0 : Rg) (b5 : Bool) (s : Value) (wx : World) : Prop :=
  ∃ b : Bool, s = .bool b ∧ (b = true → b5 = true) ∧ RgS w w2 p gx gd mn mo xs M mi sz k9 (.slice none 0 0) wx ∧ wx.heap[gr]? = some (rgB r0)
theorem RgS.ne {w w2 wx : World} {p gx gd mn kk : Nat} {mo : List Nat} {xs : List Int} {M mi sz : Int} {F : Value} (h : RgS w w2 p gx gd mn mo xs M mi sz kk F wx) {B s n : Nat} {e : TypeId} {v : Value} {ys : List Value} (ho : wx.ownsRow B e s v n ys) (he1 : e ≠ 91) : ∀ b, v.ownBlock = some b → b ≠ gx := by
  intro b hb e2
  subst e2
  rcases ho.2 with ⟨hv, _⟩ | ⟨g, cap, cur, hv, _, hh, _⟩
  · rw [hv] at hb; cases hb
  · rw [hv] at hb
    have e3 : g = b := Option.some.inj hb
    rw [e3, h.img] at hh
    injection (Option.some.inj hh) with _ h5
    exact he1 h5.symm
/-- The image's ranges but the last one, and the last one. -/
def RiMid (w w2 : World) (p gx gd mn gr : Nat) (mo : List Nat) (xs : List Int) (M mi sz : Int) (k9 : Nat) (wx : World) : Prop :=
  ∃ (rs0 : List Rg) (q0 : Nat) (FA : Option Addr) (fc : Nat) (r : Rg) (kk : Nat), RgS w w2 p gx gd mn mo xs M mi sz kk (.slice FA q0 fc) wx ∧ q0 = rs0.length ∧ wx.heap[gr]? = some (rgB r) ∧ wx.ownsRow (gr + 1) 42 6 (.slice FA q0 fc) q0 (recs rgC rs0) ∧
    (rs0 = [] ∨ ∃ q : Rg, rs0 = [q] ∧ RgOk q ∧ q.2.a < r.1.a ∧ vn q.2 < vn r.1 ∧ vn q.2 < vn ⟨M, mi, 0⟩) ∧ RgOk r ∧ vn r.2 < vn ⟨M, mi, 0⟩ ∧ kk ≤ k9
/-- The image is put behind the others. -/
theorem ri_end {w wr w2 w7 w8 w9 : World} {p k0 k' kk cnt gx gd mn q c5 : Nat} {xs : List Int} {bd bd' : Int} {s v9 : Value} {L : List Im} {mo : List Nat} {M mi sz : Int} {A5 : Option Addr} {rs : List Rg} {x : Im} {o : Obj} {gr : Nat}
    (hR : RiS w p k0 xs cnt bd s L k' wr) (h2 : wr.grownBy w2 (some p)) (hI : RgS w w2 p gx gd mn mo xs M mi sz kk (.slice A5 q c5) w7) (hF : w7.ownsRow (gr + 1) 42 6 (.slice A5 q c5) q (recs rgC rs)) (hgr : w2.heap.size ≤ gr) (hmn : mo.length = mn) (hq : q = rs.length)
    (hx : x = ⟨⟨M, mi, 0⟩, some ⟨gd, 0, none⟩, mn, mo, A5, c5, rs, sz⟩) (hok : ImOk x) (hlo : bd ≤ vn x.v) (hhi : vn x.v < bd') (hkk : kk ≤ k' + 8) (h8 : w8 = w7.alloc o)
    (ho : w9.ownsRow w.heap.size 91 6 v9 (L.length + 1) (recs imC L ++ [.int .i64 M, .int .i64 mi, .int .i64 0, .slice (some ⟨gd, 0, none⟩) mn mn, .slice A5 q c5, .int .i64 sz])) (hg : w8.grownBy w9 s.ownBlock) :
    RiS w p k0 xs (cnt + 1) bd' v9 (L ++ [x]) kk w9 := by
  obtain ⟨l1, l2, l3, l4, l5⟩ := hI.lo
  have hb8 : Below w7.heap.size w7 w8 := by rw [h8]; exact (Below.refl _ _).alloc (Nat.le_refl _) _
  have e0 : recs imC (L ++ [x]) = recs imC L ++ [.int .i64 M, .int .i64 mi, .int .i64 0, .slice (some ⟨gd, 0, none⟩) mn mn, .slice A5 q c5, .int .i64 sz] := by
    rw [hx]; simp [recs, imC, hmn, hq]
  have e1 : (L ++ [x]).length = L.length + 1 := by rw [List.length_append]; rfl
  have hs2 := own_kept hR.own h2 l1
  have hs7 := own_kept hs2 hI.gr l1
  have hs8 := own_below hs7 hb8
  have hlo9 : ∀ b, s.ownBlock = some b → w.heap.size ≤ b := fun b hb => (hs8.lt b hb).1
  refine ⟨?_, ?_, ?_, ?_, ?_, ?_, ?_, ?_⟩
  · rw [e1]; have := hR.len; omega
  · have := hR.k; omega
  · intro z hz
    rcases List.mem_append.1 hz with h | h
    · have := (hR.ok z h).2
      exact ⟨(hR.ok z h).1, by omega⟩
    · rw [List.mem_singleton.1 h]; exact ⟨hok, hhi⟩
  · refine List.pairwise_append.2 ⟨hR.ord, List.pairwise_singleton _ _, fun a ha b hb => ?_⟩
    rw [List.mem_singleton.1 hb]
    have := (hR.ok a ha).2
    omega
  · intro z hz
    rcases List.mem_append.1 hz with h | h
    · exact ((((hR.im z h).strm h2 l1).strm hI.gr l1).below hb8).out hs8 hg
    · rw [List.mem_singleton.1 h]
      have hy : ImO w7 w.heap.size x := by
        rw [hx]
        constructor
        · show w7.ownsRow w.heap.size 9 1 (.slice (some ⟨gd, 0, none⟩) mo.length mn) mo.length (recs mdC mo)
          rw [hmn]; exact hI.md
        · show w7.ownsRow w.heap.size 42 6 (.slice A5 rs.length c5) rs.length (recs rgC rs)
          rw [← hq]; exact own_mono hF (by omega)
      exact (hy.below hb8).out hs8 hg
  · rw [e0, e1]; exact ho
  · exact (hI.st.below hb8).row hg (fun g hgb => by have := hlo9 g hgb; omega)
  · have h := grown_trans (grown_trans hR.gr h2) (grown_trans hI.gr ⟨hb8.os, hb8.tape, hb8.output, hb8.size, fun b hl _ => hb8.block b hl⟩)
    exact ⟨hg.os.trans h.os, hg.tape.trans h.tape, hg.output.trans h.output, Nat.le_trans h.size hg.size, fun b hb hne => (hg.block b (Nat.lt_of_lt_of_le hb h.size) (fun e => by have := hlo9 b e.symm; omega)).trans (h.block b hb hne)⟩
def loV (low : Int) (gx : Nat) (G : Nat → Nat) : List Value := [.pointer (some ⟨gx, 4, none⟩), .slice none 0 0, .int .i64 low, veV ⟨low, 0, 0⟩, .int .i64 low, veV ⟨low, 0, 0⟩, .agg #[.int .i64 low, .int .i64 0, .int .i64 0, .int .i64 low, .int .i64 0, .int .i64 0], .slice (some ⟨G 7, 0, none⟩) 1 1]
abbrev loMs (low : Int) : List ObD := [none, none, none, none, none, none, none, some (fun _ => rgB (⟨low, 0, 0⟩, ⟨low, 0, 0⟩))]
abbrev loDs : List (List Nat) := [[], [], [], [], [], [], [], [7]]
theorem loDep (low : Int) (gx : Nat) : ∀ (k : Nat) (l : List Nat), loDs[k]? = some l → ∀ G G' : Nat → Nat, (∀ j ∈ l, G j = G' j) → gv (loV low gx G) k = gv (loV low gx G') k
  | 0, _, _, _, _, _ => rfl
  | 1, _, _, _, _, _ => rfl
  | 2, _, _, _, _, _ => rfl
  | 3, _, _, _, _, _ => rfl
  | 4, _, _, _, _, _ => rfl
  | 5, _, _, _, _, _ => rfl
  | 6, _, _, _, _, _ => rfl
  | 7, _, h, G, G', e => by
    cases h
    have e7 := e 7 (by decide)
    simp only [gv, loV, List.getD_cons_zero, List.getD_cons_succ, e7]
  | n + 8, _, h, _, _, _ => by simp [loDs] at h
theorem loObj (low : Int) : ∀ (k : Nat) (l : List Nat) (ob : (Nat → Nat) → Obj), loDs[k]? = some l → (loMs low)[k]? = some (some ob) → ∀ G G' : Nat → Nat, (∀ j ∈ l, j ≠ k → G j = G' j) → ob G = ob G'
  | 0, _, _, _, h, _, _, _ => by cases h
  | 1, _, _, _, h, _, _, _ => by cases h
  | 2, _, _, _, h, _, _, _ => by cases h
  | 3, _, _, _, h, _, _, _ => by cases h
  | 4, _, _, _, h, _, _, _ => by cases h
  | 5, _, _, _, h, _, _, _ => by cases h
  | 6, _, _, _, h, _, _, _ => by cases h
  | 7, _, _, _, h, _, _, _ => by cases h; rfl
  | n + 8, _, _, h, _, _, _, _ => by simp [loDs] at h
def ImgPost (w : World) (p k0 : Nat) (xs : List Int) (e : Ending) (w' : World) : Prop :=
  ∃ (L : List Im) (A : Option Addr) (c n k' : Nat), e = .returned (.slice A n c) ∧ n = L.length ∧ ImsOk L ∧ (∀ x ∈ L, ImO w' w.heap.size x) ∧ w'.ownsRow w.heap.size 91 6 (.slice A n c) n (recs imC L) ∧ Strm w' p xs k' ∧ k' ≤ k0 + 100 ∧ w.grownBy w' (some p)
set_option maxRecDepth 100000 in
set_option maxHeartbeats 16000000 in
theorem rightImages_any (w : World) (p k : Nat) (xs : List Int) (hk : k < 100000) (hs : Strm w p xs k) :
    Calls Tryz.prog 6 #[.pointer (some ⟨p, 0, none⟩)] w fun e w' => ImgPost w p k xs e w' := by
  obtain ⟨ir0, hir0, hzr0, hzr1, hzr2⟩ := info_parts Tryz.infoRgI
  obtain ⟨ii0, hii0, hzi0, hzi1, hzi2⟩ := info_parts Tryz.infoIm
  have hplt := hs.lt
  have HS0 := Lib.hid (show RiRel w p k xs 0 (vn ⟨2, 0, 0⟩) (.slice none 0 0) w from ⟨[], k, Nat.zero_le _, by omega, (fun x hx => by cases hx), List.Pairwise.nil, (fun x hx => by cases hx), World.ownsRow_nil _ _ _ _, hs, grown_refl _ _⟩)
  clear hs
  go_enter Tryz.func6, Tryz.ntmps6
  go_wp2_with (fail)
  go_loopw [3, 4] (fun s u wx => ∃ M : Nat, 2 ≤ M ∧ M ≤ 6 ∧ u = .int .i64 (M : Int) ∧ RiRel w p k xs (2 * (M - 2)) (vn ⟨(M : Int), 0, 0⟩) s wx) (fun _ u _ => 6 - (intOf u).toNat)
  case atStart => exact ⟨2, by omega, by omega, rfl, HS0.out⟩
  case round =>
    obtain ⟨M, hM2, hM6, rfl, hrr⟩ := hrel
    have HR := Lib.hid hrr
    clear hrr
    by_cases hM : M ≤ 5
    case neg =>
      have hMI : ¬ (M : Int) ≤ 5 := by omega
      obtain ⟨L, k', hR⟩ := HR.out
      obtain ⟨A, c, rfl⟩ := own_slice hR.own
      have HF := Lib.hid (show ImgPost w p k xs (.returned (.slice A L.length c)) wr from
        ⟨L, A, c, L.length, k', rfl, rfl, ⟨by have := hR.len; omega, fun x hx => (hR.ok x hx).1, hR.ord⟩, hR.im, hR.own, hR.st, by have := hR.k; omega, hR.gr⟩)
      clear hR
      go_wp2_with (fail)
      go_ret
      exact HF.out
    case pos =>
    have hMI : (M : Int) ≤ 5 := by omega
    go_upto_region 6 with (fail)
    obtain ⟨gm, egm⟩ : ∃ y, y = wr.heap.size := ⟨_, rfl⟩
    obtain ⟨w1, e1⟩ : ∃ V : World, V = wr.alloc (.cells #[.int .i64 0, .int .i64 5] 3) := ⟨_, rfl⟩
    have hb1 : Below wr.heap.size wr w1 := by rw [e1]; exact (Below.refl _ _).alloc (Nat.le_refl _) _
    have hg1 : w1.heap[gm]? = some (.cells #[.int .i64 0, .int .i64 5] 3 (0, 0)) := by rw [e1, egm]; exact heap_new wr _
    have HI := Lib.hid (show RiIn w p k xs M gm u3 (.int .i64 0) w1 from ⟨0, by omega, rfl, by
      obtain ⟨L, k', hR⟩ := HR.out
      exact ⟨L, k', (hR.below hb1).weak (by omega) (by show vn ⟨(M : Int), 0, 0⟩ ≤ vn ⟨(M : Int), 5 * ((0 : Nat) : Int), 0⟩; exact Int.le_refl _)⟩, hg1⟩)
    have hgmw : w.heap.size ≤ gm := by
      obtain ⟨L, k', hR⟩ := HR.out
      have := hR.gr.size
      omega
    rw [← egm, ← e1]
    clear egm e1 hb1 hg1
    go_wp2_with (fail)
    go_loopw [3, 16] (fun s u wx => RiIn w p k xs M gm s u wx) (fun _ u _ => 2 - (intOf u).toNat)
    case atStart => exact HI.out
    case round =>
      obtain ⟨i, hi2, rfl, ⟨L, k', hR⟩, hgm⟩ := hrel
      by_cases hi : i < 2
      case neg =>
        have hiI : ¬ (i : Int) < 2 := by omega
        have hie : i = 2 := by omega
        have HE := Lib.hid (show RiRel w p k xs (2 * (M + 1 - 2)) (vn ⟨((M + 1 : Nat) : Int), 0, 0⟩) u3 wr from ⟨L, k', hR.weak (by omega) (by
          rw [hie]
          unfold vn
          show ((M : Int) * 10000 + 5 * ((2 : Nat) : Int)) * 10000 + 0 ≤ (((M + 1 : Nat) : Int) * 10000 + 0) * 10000 + 0
          omega)⟩)
        have hwM : IntKind.i64.wrap ((M : Int) + 1) = (M : Int) + 1 := by rw [IntKind.wrap_i64]; omega
        clear hR hgm hie
        go_wp2_with (fail)
        go_roundw
        case rel => exact ⟨M + 1, by omega, by omega, by simp, HE.out⟩
        case measure => simp [intOf]; omega
      case pos =>
      have hiI : (i : Int) < 2 := by omega
      obtain ⟨mi, emi⟩ : ∃ z : Int, z = 5 * (i : Int) := ⟨_, rfl⟩
      have cm : wr.cell? ⟨gm, i, none⟩ = some (.int .i64 mi) := by
        have h1 : i = 0 ∨ i = 1 := by omega
        rcases h1 with h | h <;> subst h <;> rw [emi]
        · exact cell_of_blk (j := 0) hgm rfl
        · exact cell_of_blk (j := 1) hgm rfl
      have hlgm := (Array.getElem?_eq_some_iff.1 hgm).1
      have HRS := Lib.hid hR
      have HGM := Lib.hid hgm
      have HEMI := Lib.hid emi
      have hk' : k' ≤ k + 96 := by have := hR.k; omega
      have hplw : p < wr.heap.size := hR.st.lt
      have hgw := hR.gr.size
      clear hR hgm emi
      go_wp2_with (fail)
      refine (flip_any wr p k' xs 2 (by omega) (by omega) (by omega) HRS.out.st).mono ?_
      rintro e w2 ⟨fb, rfl, hs2, hg2⟩
      have HG2 := Lib.hid (And.intro hs2 hg2)
      have hpgm : p < gm := by omega
      clear hs2 hg2
      cases fb with
      | true =>
        have HE := Lib.hid (show RiIn w p k xs M gm u3 (.int .i64 ((i + 1 : Nat) : Int)) w2 from ⟨i + 1, by omega, rfl, ⟨L, k' + 1, by
          have h := HRS.out
          have hw := h.weak (show 2 * (M - 2) + i ≤ 2 * (M - 2) + (i + 1) by omega) (show vn ⟨(M : Int), 5 * (i : Int), 0⟩ ≤ vn ⟨(M : Int), 5 * ((i + 1 : Nat) : Int), 0⟩ by have := vn_step (M : Int) (i : Int); simpa using this)
          exact ⟨hw.len, by have := h.k; omega, hw.ok, hw.ord, fun x hx => (hw.im x hx).strm HG2.out.2 hplt, own_kept hw.own HG2.out.2 hplt, HG2.out.1, grown_trans hw.gr HG2.out.2⟩⟩, (HG2.out.2.block gm hlgm (fun e => by have := Option.some.inj e; omega)).trans HGM.out⟩)
        clear cm hgw
        go_wp2_with (fail)
        go_roundw
        case rel => exact (by simpa using HE.out)
        case measure => simp [intOf]; omega
      | false =>
        go_upto_region 9 with (fail)
        obtain ⟨zn, hzn, ezn⟩ : ∃ zn : Nat, zn < 4 ∧ nextV xs (k' + 1) 4 = (zn : Int) := by
          have h := nextV_range xs (k' + 1) 4 (by omega)
          exact ⟨(nextV xs (k' + 1) 4).toNat, by omega, by omega⟩
        have HZN := Lib.hid ezn
        obtain ⟨sz, esz⟩ : ∃ z, z = pkSz.getD (nextN xs (k' + 1 + 1) 4) 0 := ⟨_, rfl⟩
        have hsz : 1 ≤ sz ∧ sz ≤ 10 := by rw [esz]; exact pkv_all (fun v => 1 ≤ v ∧ v ≤ 10) pkSz (by decide) _ (nextN_lt _ _ _ (by omega))
        have HSZ := Lib.hid esz.symm
        have hp2 : p < w2.heap.size := by have := HG2.out.2.size; omega
        have HK0 := Lib.hid (show KRi w2 w2 p (k' + 1) xs 0 w2.drew from ⟨HG2.out.1, ⟨rfl, rfl, rfl, Nat.le_refl _, fun _ _ _ => rfl⟩, Nat.le_refl _⟩)
        clear ezn esz cm
        refine qRegionSe 17 (KRi w2 w2 p (k' + 1) xs) (riV (M : Int) mi sz p zn) riMs riDs [0, 0, 0, 0, 0, 0, 0, 0, 0, 1, 0, 0, 0, 0, 2, 0, 0] [2, 2, 2, 2, 2, 2, 2, 2, 2, 2, 2, 2, 2, 2, 2, 2, 2] 2 (by kernel_rfl) (by kernel_rfl) (by kernel_rfl) (fun G => rfl) rfl rfl (by rfl) (riDep _ _ _ _ _) riObj HK0.out (fun s w o h => h.alloc o) ?_ ?_
        · simp only [List.take_succ_cons, List.take_zero]
          refine ⟨?_, ?_, ?_, ?_, ?_, ?_, ?_, ?_, ?_, ?_, ?_, ?_, ?_, ?_, ?_, ?_, ?_, trivial⟩
          · exact OneSd.pure (fun G V => by simp only [riV, putL, Act.put, List.setIfInBounds_toArray, List.set_cons_zero, List.set_cons_succ, gv, List.getD_cons_zero]; go_simp)
          · exact OneSd.pure (fun G V => by simp only [riV, putL, Act.put, List.setIfInBounds_toArray, List.set_cons_zero, List.set_cons_succ, gv, List.getD_cons_zero, List.getD_cons_succ]; go_simp)
          · exact OneSd.pure (fun G V => by simp only [riV, putL, Act.put, List.setIfInBounds_toArray, List.set_cons_zero, List.set_cons_succ, gv, List.getD_cons_zero, List.getD_cons_succ]; go_simp)
          · exact OneSd.lay (fun G V => by simp only [riV, putL, Act.put, List.setIfInBounds_toArray, List.set_cons_zero, List.set_cons_succ, gv, List.getD_cons_zero, List.getD_cons_succ, updG, if_true]; go_simp <;> rfl)
          · exact OneSd.lay (fun G V => by simp only [riV, putL, Act.put, List.setIfInBounds_toArray, List.set_cons_zero, List.set_cons_succ, gv, List.getD_cons_zero, List.getD_cons_succ, updG, if_true]; go_simp <;> rfl)
          · exact OneSd.lay (fun G V => by simp only [riV, putL, Act.put, List.setIfInBounds_toArray, List.set_cons_zero, List.set_cons_succ, gv, List.getD_cons_zero, List.getD_cons_succ, updG, if_true]; go_simp <;> rfl)
          · exact OneSd.lay (fun G V => by simp only [riV, putL, Act.put, List.setIfInBounds_toArray, List.set_cons_zero, List.set_cons_succ, gv, List.getD_cons_zero, List.getD_cons_succ, updG, if_true]; go_simp <;> rfl)
          · exact OneSd.lay (fun G V => by simp only [riV, putL, Act.put, List.setIfInBounds_toArray, List.set_cons_zero, List.set_cons_succ, gv, List.getD_cons_zero, List.getD_cons_succ, updG, if_true]; go_simp <;> rfl)
          · exact OneSd.pure (fun G V => by simp only [riV, putL, Act.put, List.setIfInBounds_toArray, List.set_cons_zero, List.set_cons_succ, gv, List.getD_cons_zero, List.getD_cons_succ]; go_simp)
          · exact OneSd.call (s := 0) (fun G V hK hL => ⟨_, _, by simp only [riV, putL, Act.put, List.setIfInBounds_toArray, List.set_cons_zero, List.set_cons_succ]; go_simp <;> exact ⟨rfl, rfl⟩, (next_any V p (k' + 1) xs 4 (by omega) (by omega) hK.st).mono (fun e w' h => ⟨by rw [h.1, HZN.out]; rfl, hK.call hp2 h.2.2 h.2.1⟩)⟩)
          · exact OneSd.pure (fun G V => by
              rcases four_of hzn with h | h | h | h <;> subst h <;> (simp only [riV, putL, Act.put, List.setIfInBounds_toArray, List.set_cons_zero, List.set_cons_succ, gv, List.getD_cons_zero, List.getD_cons_succ]; go_simp))
          · exact OneSd.load (fun G s V hK hs hL => by
              have h7 := (hL 7 (by decide) (by decide) _ rfl).2
              have hl7 := (Array.getElem?_eq_some_iff.1 h7).1
              have k0 := cell_of_blk (j := 0) h7 rfl
              have k1 := cell_of_blk (j := 1) h7 rfl
              have k2 := cell_of_blk (j := 2) h7 rfl
              have k3 := cell_of_blk (j := 3) h7 rfl
              rcases four_of hzn with h | h | h | h <;> subst h <;> (simp only [riV, putL, Act.put, List.setIfInBounds_toArray, List.set_cons_zero, List.set_cons_succ, gv, List.getD_cons_zero, List.getD_cons_succ]; simp only [mdS, mdG, mdN]; go_simp))
          · exact OneSd.pure (fun G V => by simp only [riV, putL, Act.put, List.setIfInBounds_toArray, List.set_cons_zero, List.set_cons_succ, gv, List.getD_cons_zero, List.getD_cons_succ]; go_simp)
          · exact OneSd.lay (fun G V => by simp only [riV, putL, Act.put, List.setIfInBounds_toArray, List.set_cons_zero, List.set_cons_succ, gv, List.getD_cons_zero, List.getD_cons_succ, updG, if_true]; go_simp <;> rfl)
          · exact OneSd.call (s := 1) (fun G V hK hL => ⟨_, _, by simp only [riV, putL, Act.put, List.setIfInBounds_toArray, List.set_cons_zero, List.set_cons_succ]; go_simp <;> exact ⟨rfl, rfl⟩, by
              obtain ⟨hg1, hg2⟩ := hL 13 (by decide) (by decide) _ rfl
              exact (pick_any V p (k' + 1 + 1) (G 13) 4 4 xs pkSz (by omega) rfl (by omega) (by omega) hK.st (by omega) (cells_blkV hg2 rfl)).mono (fun e w' h => ⟨by rw [h.1, HSZ.out]; rfl, hK.call hp2 h.2.2 h.2.1⟩)⟩)
          · exact OneSd.pure (fun G V => by simp only [riV, putL, Act.put, List.setIfInBounds_toArray, List.set_cons_zero, List.set_cons_succ, gv, List.getD_cons_zero, List.getD_cons_succ, mdS]; go_simp)
          · exact OneSd.lay (fun G V => by simp only [riV, putL, Act.put, List.setIfInBounds_toArray, List.set_cons_zero, List.set_cons_succ, gv, List.getD_cons_zero, List.getD_cons_succ, updG, if_true]; go_simp <;> rfl)
        intro G w3 hK3 hs3 hG3
        have hw2w : w.heap.size ≤ w2.heap.size := by have := HG2.out.2.size; omega
        obtain ⟨hmd, hmdg⟩ := md_own hzn hw2w hG3
        obtain ⟨hgx1, hgx2⟩ := hG3 16 _ rfl
        obtain ⟨gx, egx⟩ : ∃ y, y = G 16 := ⟨_, rfl⟩
        obtain ⟨gd, egd⟩ : ∃ y, y = mdG G zn := ⟨_, rfl⟩
        unfold mdS at hmd
        rw [← egx] at hgx1 hgx2
        rw [← egd] at hmd hmdg
        obtain ⟨hmn, hmo⟩ := mdMo_ok zn
        obtain ⟨mn, emn⟩ : ∃ y, y = mdN zn := ⟨_, rfl⟩
        obtain ⟨mo, emo⟩ : ∃ y, y = mdMo zn := ⟨_, rfl⟩
        rw [← emn] at hmd hmn
        rw [← emo] at hmd hmn hmo
        have HMO := Lib.hid hmo
        have HMN := Lib.hid hmn
        have HS3 := Lib.hid (show Strm w3 p xs (k' + 3) ∧ w2.grownBy w3 (some p) ∧ w3.ownsRow w.heap.size 9 1 (.slice (some ⟨gd, 0, none⟩) mn mn) mn (recs mdC mo) from ⟨hK3.st, hK3.gr, hmd⟩)
        have HG3 := Lib.hid hgx2
        have hlx3 := (Array.getElem?_eq_some_iff.1 hgx2).1
        have hpgx : p < gx := by omega
        have hngd : gd ≠ gx := by
          intro e
          have h := hmd
          rcases h.2 with ⟨hv, _⟩ | ⟨g, cap, cur, hv, _, hh, _⟩
          · cases hv
          · have e1 : gd = g := by injection hv with h1; injection h1 with h1; injection h1
            rw [← e1, e, hgx2] at hh
            cases hh
        have c0 := cell_of_blk (j := 0) hgx2 rfl
        have c1 := cell_of_blk (j := 1) hgx2 rfl
        have c2 := cell_of_blk (j := 2) hgx2 rfl
        have c3 := cell_of_blk (j := 3) hgx2 rfl
        have c4 := cell_of_blk (j := 4) hgx2 rfl
        have c5 := cell_of_blk (j := 5) hgx2 rfl
        have f0 : w3.frozen? ⟨gx, 0, none⟩ = false := by simp [World.frozen?, hgx2]
        have f1 : w3.frozen? ⟨gx, 1, none⟩ = false := by simp [World.frozen?, hgx2]
        have f2 : w3.frozen? ⟨gx, 2, none⟩ = false := by simp [World.frozen?, hgx2]
        have f3 : w3.frozen? ⟨gx, 3, none⟩ = false := by simp [World.frozen?, hgx2]
        have f4 : w3.frozen? ⟨gx, 4, none⟩ = false := by simp [World.frozen?, hgx2]
        have f5 : w3.frozen? ⟨gx, 5, none⟩ = false := by simp [World.frozen?, hgx2]
        simp only [List.take_succ_cons, List.take_zero, List.drop_succ_cons, List.drop_zero, riV, putL, Act.put, List.setIfInBounds_toArray, List.set_cons_zero, List.set_cons_succ, mdS]
        rw [← egx, ← egd, ← emn]
        have hwp := hK3.gr.size
        clear hK3 hG3 hmd hgx2 egx egd emn emo hmn hmo HK0 HZN HSZ hzn hs3
        go_upto_region 10 with (fail)
        obtain ⟨w4, e4⟩ : ∃ V : World, V = ((((((w3.setCell ⟨gx, 0, none⟩ (.int .i64 (M : Int))).setCell ⟨gx, 1, none⟩ (.int .i64 mi)).setCell ⟨gx, 2, none⟩ (.int .i64 0)).setCell ⟨gx, 3, none⟩ (.slice (some ⟨gd, 0, none⟩) mn mn)).setCell ⟨gx, 4, none⟩ (.slice none 0 0)).setCell ⟨gx, 5, none⟩ (.int .i64 sz)) := ⟨_, rfl⟩
        have HI4 := Lib.hid (show RgS w w2 p gx gd mn mo xs (M : Int) mi sz (k' + 3) (.slice none 0 0) w4 from by
          obtain ⟨h1, h2⟩ := set6V _ _ _ _ _ _ _ _ _ _ _ _ _ _ _ HG3.out w4 e4
          exact ⟨HS3.out.1.keep (fun b hb => h2.blk b (by omega)), grown_otV HS3.out.2.1 h2 hgx1, h1, own_otV HS3.out.2.2 h2 (fun b hb => by cases hb; exact hngd), ⟨hplt, hw2w, hgx1, hmdg, hngd⟩⟩)
        rw [← e4]
        clear e4 c0 c1 c2 c3 c4 c5 f0 f1 f2 f3 f4 f5 hlx3 HS3 HG3 hwp
        have hMw : IntKind.i64.wrap ((M : Int) - 1) = (M : Int) - 1 := by rw [IntKind.wrap_i64]; omega
        have hrg := nextV_range xs (k' + 3) ((M : Int) - 1 - 1 + 1) (by omega)
        have HRA := Lib.hid (range_any w4 p (k' + 3) xs 1 ((M : Int) - 1) (by omega) (by omega) (by omega) (by omega) (by omega) HI4.out.st)
        obtain ⟨low, elow⟩ : ∃ z, z = 1 + nextV xs (k' + 3) ((M : Int) - 1 - 1 + 1) := ⟨_, rfl⟩
        rw [← elow] at HRA
        have hlow : 1 ≤ low ∧ low ≤ (M : Int) - 1 := by omega
        clear elow hrg
        go_wp2_with (fail)
        refine HRA.out.mono ?_
        rintro e w5 ⟨rfl, hs5, hg5⟩
        have HI5 := Lib.hid (HI4.out.strm hs5 hg5)
        have HWH := Lib.hid (whole_any low w5)
        unfold veV at HWH
        clear hs5 hg5 HRA HI4
        go_wp2_with (fail)
        refine HWH.out.mono ?_
        rintro e w6 ⟨rfl, hb6⟩
        have HI6 := Lib.hid (HI5.out.below hb6)
        clear hb6 HWH HI5
        have hlt6 := HI6.out.st.lt
        go_wp2_with (fail)
        refine (pick_any _ p (k' + 4) w6.heap.size 3 3 xs pkHi (by omega) rfl (by omega) (by omega) (HI6.out.st.alloc _) (by omega) (Cells.new _ _ _ _ _ rfl)).mono ?_
        have hh := pkv_all (fun v => 0 ≤ v ∧ v ≤ 9999) pkHi (by decide) (nextN xs (k' + 4) 3) (nextN_lt _ _ _ (by omega))
        obtain ⟨hi, ehi⟩ : ∃ z, z = pkHi.getD (nextN xs (k' + 4) 3) 0 := ⟨_, rfl⟩
        rw [← ehi] at hh ⊢
        clear ehi
        rintro e w7 ⟨rfl, hs7, hg7⟩
        have HI7 := Lib.hid (HI6.out.strm hs7 (grown_of_alloc hg7))
        clear hs7 hg7 HI6 hlt6
        obtain ⟨r0, er0⟩ : ∃ r : Rg, r = (⟨low, 0, 0⟩, ⟨(M : Int) - 1, hi, 9999⟩) := ⟨_, rfl⟩
        obtain ⟨gr, egr⟩ : ∃ y, y = w7.heap.size := ⟨_, rfl⟩
        go_upto_region 12 with (fail)
        obtain ⟨w8, e8⟩ : ∃ V : World, V = w7.alloc (.cells #[.int .i64 low, .int .i64 0, .int .i64 0, .int .i64 ((M : Int) - 1), .int .i64 hi, .int .i64 9999] 42) := ⟨_, rfl⟩
        have hb8 : Below w7.heap.size w7 w8 := by rw [e8]; exact (Below.refl _ _).alloc (Nat.le_refl _) _
        have hg8 : w8.heap[gr]? = some (rgB r0) := by rw [e8, egr, er0]; exact heap_new w7 _
        have HI8 := Lib.hid (HI7.out.below hb8)
        have hgr1 : gx < gr ∧ gd < gr ∧ w2.heap.size ≤ gr := by
          have h1 := (Array.getElem?_eq_some_iff.1 HI7.out.img).1
          have h2 := (HI7.out.md.lt gd rfl).2
          have h3 := HI7.out.gr.size
          omega
        rw [← egr, ← e8]
        have hlr8 := (Array.getElem?_eq_some_iff.1 hg8).1
        have HG8 := Lib.hid hg8
        have HR0 := Lib.hid (show RgOk r0 ∧ vn r0.2 < vn ⟨(M : Int), mi, 0⟩ from by
          have hmi : 0 ≤ mi ∧ mi ≤ 5 := by have := HEMI.out; omega
          rw [er0]
          refine ⟨⟨⟨by show 0 ≤ low ∧ low ≤ 9999; omega, by show (0 : Int) ≤ 0 ∧ (0 : Int) ≤ 9999; omega, by show (0 : Int) ≤ 0 ∧ (0 : Int) ≤ 9999; omega⟩, ⟨by show 0 ≤ (M : Int) - 1 ∧ (M : Int) - 1 ≤ 9999; omega, hh, by show (0 : Int) ≤ 9999 ∧ (9999 : Int) ≤ 9999; omega⟩, ?_⟩, ?_⟩
          · unfold vn
            show (low * 10000 + 0) * 10000 + 0 ≤ (((M : Int) - 1) * 10000 + hi) * 10000 + 9999
            omega
          · unfold vn
            show (((M : Int) - 1) * 10000 + hi) * 10000 + 9999 < ((M : Int) * 10000 + mi) * 10000 + 0
            omega)
        clear e8 egr hb8 hg8 HI7 er0
        have h56 : (mi == 5) = decide (i = 1) := by
          have h1 : i = 0 ∨ i = 1 := by omega
          have h2 := HEMI.out
          rcases h1 with h | h <;> rw [h] at h2 <;> rw [h2, h] <;> rfl
        obtain ⟨b5, eb5⟩ : ∃ b, b = (mi == 5) := ⟨_, rfl⟩
        have HB5 := Lib.hid eb5
        go_cut [56] (fun s wx => RiFl w w2 p gx gd mn gr mo xs (M : Int) mi sz (k' + 6) r0 b5 s wx)
        case first =>
          rw [← eb5] at h56
          have h56' := eb5.symm
          clear eb5 h56
          go_wp2_with (fail)
          refine (flip_any w8 p (k' + 5) xs 4 (by omega) (by omega) (by omega) HI8.out.st).mono ?_
          rintro e w9 ⟨fb, rfl, hs9, hg9⟩
          have HF := Lib.hid (show RgS w w2 p gx gd mn mo xs (M : Int) mi sz (k' + 6) (.slice none 0 0) w9 ∧ w9.heap[gr]? = some (rgB r0) from ⟨HI8.out.strm hs9 hg9, (hg9.block gr hlr8 (fun e => by have := Option.some.inj e; omega)).trans HG8.out⟩)
          clear hs9 hg9 HG8 HI8 hlr8
          cases fb with
          | false =>
            go_wp2_with (fail)
            go_meet
            exact ⟨false, rfl, (fun h => by cases h), HF.out⟩
          | true =>
            go_wp2_with (fail)
            go_meet
            exact ⟨b5, rfl, id, HF.out⟩
        case rest =>
        obtain ⟨b56, rfl, hb56, hI9, hg9⟩ := hcut
        obtain ⟨w9, rfl⟩ : ∃ wy : World, wy = wc := ⟨_, rfl⟩
        have HI9 := Lib.hid hI9
        have HG9 := Lib.hid hg9
        have HB56 := Lib.hid hb56
        have hlr9 := (Array.getElem?_eq_some_iff.1 hg9).1
        have hlx9 := (Array.getElem?_eq_some_iff.1 hI9.img).1
        have hw29 := hI9.gr.size
        clear eb5 h56 hI9 hg9 hb56 HG8 HI8 hlr8
        go_upto_if 56 with (fail)
        go_cut [] (fun wx => RiMid w w2 p gx gd mn gr mo xs (M : Int) mi sz (k' + 6) wx)
        case first =>
          cases b56 with
          | false =>
            go_wp2_with (fail)
            go_meet
            exact ⟨[], 0, none, 0, r0, k' + 6, HI9.out, rfl, HG9.out, World.ownsRow_nil _ _ _ _, .inl rfl, HR0.out.1, HR0.out.2, Nat.le_refl _⟩
          | true =>
            have e5 : mi = 5 := by
              have h1 := HB56.out (by rfl)
              rw [HB5.out] at h1
              simpa using h1
            have HE5 := Lib.hid e5
            clear e5 HB56 HB5
            go_upto_region 13 with (fail)
            refine qRegionSe 8 (fun _ V => Below w9.heap.size w9 V) (loV low gx) (loMs low) loDs [0, 0, 0, 0, 0, 0, 0, 0] [0, 0, 0, 0, 0, 0, 0, 0] 0 (by kernel_rfl) (by kernel_rfl) (by kernel_rfl) (fun G => rfl) rfl rfl (by rfl) (loDep _ _) (loObj _) ((Below.refl _ _).drew) (fun s V o h => h.alloc h.size o) ?_ ?_
            · simp only [List.take_succ_cons, List.take_zero]
              refine ⟨?_, ?_, ?_, ?_, ?_, ?_, ?_, ?_, trivial⟩
              · exact OneSd.pure (fun G V => by simp only [loV, putL, Act.put, List.setIfInBounds_toArray, List.set_cons_zero, List.set_cons_succ, gv, List.getD_cons_zero]; go_simp)
              · exact OneSd.load (fun G s V hK hs hL => by
                  have hv := (hK.block gx hlx9).trans HI9.out.img
                  have k4 := cell_of_blk (j := 4) hv rfl
                  simp only [loV, putL, Act.put, List.setIfInBounds_toArray, List.set_cons_zero, List.set_cons_succ, gv, List.getD_cons_zero, List.getD_cons_succ]; go_simp)
              · exact OneSd.pure (fun G V => by simp only [loV, putL, Act.put, List.setIfInBounds_toArray, List.set_cons_zero, List.set_cons_succ, gv, List.getD_cons_zero, List.getD_cons_succ]; go_simp)
              · exact OneSd.still (fun G s V hK hs hL => ⟨_, _, by simp only [loV, putL, Act.put, List.setIfInBounds_toArray, List.set_cons_zero, List.set_cons_succ]; go_simp <;> exact ⟨rfl, rfl⟩, (whole_any low V).mono (fun e w' h => ⟨h.1, hK.trans (h.2.mono hK.size), ⟨h.2.size, fun b _ hl => h.2.block b hl⟩⟩)⟩)
              · exact OneSd.pure (fun G V => by simp only [loV, putL, Act.put, List.setIfInBounds_toArray, List.set_cons_zero, List.set_cons_succ, gv, List.getD_cons_zero, List.getD_cons_succ]; go_simp)
              · exact OneSd.still (fun G s V hK hs hL => ⟨_, _, by simp only [loV, putL, Act.put, List.setIfInBounds_toArray, List.set_cons_zero, List.set_cons_succ]; go_simp <;> exact ⟨rfl, rfl⟩, (whole_any low V).mono (fun e w' h => ⟨h.1, hK.trans (h.2.mono hK.size), ⟨h.2.size, fun b _ hl => h.2.block b hl⟩⟩)⟩)
              · exact OneSd.pure (fun G V => by simp only [loV, veV, putL, Act.put, List.setIfInBounds_toArray, List.set_cons_zero, List.set_cons_succ, gv, List.getD_cons_zero, List.getD_cons_succ]; go_simp)
              · exact OneSd.lay (fun G V => by simp only [loV, putL, Act.put, List.setIfInBounds_toArray, List.set_cons_zero, List.set_cons_succ, gv, List.getD_cons_zero, List.getD_cons_succ, updG, if_true]; go_simp <;> rfl)
            intro G w10 hK10 hs10 hG10
            obtain ⟨ho1, ho2⟩ := hG10 7 _ rfl
            obtain ⟨g7, eg7⟩ : ∃ y, y = G 7 := ⟨_, rfl⟩
            rw [← eg7] at ho1 ho2
            simp only [List.take_succ_cons, List.take_zero, List.drop_succ_cons, List.drop_zero, loV, putL, Act.put, List.setIfInBounds_toArray, List.set_cons_zero, List.set_cons_succ]
            rw [← eg7]
            clear eg7 hG10
            have HI10 := Lib.hid (HI9.out.below hK10)
            have HG10 := Lib.hid ((hK10.block gr hlr9).trans HG9.out)
            have hlr10 : gr < w10.heap.size := by omega
            have hgr10 : gr + 1 ≤ w10.heap.size := by omega
            have HAL := Lib.hid (World.ownsRow_nil w10 (gr + 1) 42 6)
            have HO2 := Lib.hid ho2
            clear hK10 hs10 ho2 ho1 HI9 HG9 hlr9 hlx9
            go_wp2_with (at_builtin; refine wpList_append_own2 _ rfl _ _ 37 rfl (gr + 1) 42 ir0 _ 6 48 Tryz.underlying37 hir0 hzr0 hzr1 hzr2 rfl (by decide) _ _ _ rfl HAL.out ⟨_, 0, none⟩ 1 1 (rgC (⟨low, 0, 0⟩, ⟨low, 0, 0⟩)) rfl rfl ?c1 ?c2 ?c3 ?c4 ?c5 ?_)
            case c1 => exact cells_add (cells_blkV HO2.out rfl)
            case c2 => exact rgC_one _
            case c3 => unfold maxLen; omega
            case c4 => omega
            case c5 => exact hgr10
            intro v11 w11 ho11 hg11 hm11
            obtain ⟨A3, c3, rfl⟩ := own_slice ho11
            have hI11 := HI10.out.row (World.ownsRow_nil w10 (gr + 1) 42 6) (by decide) (by decide) (by omega) hg11
            have HI11 := Lib.hid hI11
            have HG11 := Lib.hid ((hg11.block gr hlr10 (fun e => by cases e)).trans HG10.out)
            have HO11 := Lib.hid (show w11.ownsRow (gr + 1) 42 6 (.slice A3 1 c3) 1 (recs rgC [((⟨low, 0, 0⟩, ⟨low, 0, 0⟩) : Rg)]) from by simpa [recs] using ho11)
            have k4 := cell_of_blk (j := 4) hI11.img rfl
            have hf4 : w11.frozen? ⟨gx, 4, none⟩ = false := by simp [World.frozen?, hI11.img]
            have hlx11 := (Array.getElem?_eq_some_iff.1 hI11.img).1
            clear hI11 hg11 hm11 ho11 HAL HO2 HI10 HG10 hlr10 hgr10
            go_upto_region 14 with (fail)
            obtain ⟨w12, e12⟩ : ∃ V : World, V = w11.setCell ⟨gx, 4, none⟩ (.slice A3 1 c3) := ⟨_, rfl⟩
            have HI12 := Lib.hid (show RgS w w2 p gx gd mn mo xs (M : Int) mi sz (k' + 6) (.slice A3 1 c3) w12 ∧ w12.heap[gr]? = some (rgB r0) ∧ w12.ownsRow (gr + 1) 42 6 (.slice A3 1 c3) 1 (recs rgC [((⟨low, 0, 0⟩, ⟨low, 0, 0⟩) : Rg)]) from by
              obtain ⟨h1, h2⟩ := HI11.out.put (.slice A3 1 c3)
              rw [← e12] at h1 h2
              exact ⟨h1, (h2.blk gr (by omega)).trans HG11.out, own_otV HO11.out h2 (HI11.out.ne HO11.out (by decide))⟩)
            rw [← e12]
            clear e12 k4 hf4 hlx11 HI11 HG11 HO11
            have HWM := Lib.hid (whole_any (M : Int) w12)
            unfold veV at HWM
            go_wp2_with (fail)
            refine HWM.out.mono ?_
            rintro e w13 ⟨rfl, hb13⟩
            have hlr12 := (Array.getElem?_eq_some_iff.1 HI12.out.2.1).1
            have hg13 := (hb13.block gr hlr12).trans HI12.out.2.1
            have HI13 := Lib.hid (show RgS w w2 p gx gd mn mo xs (M : Int) mi sz (k' + 6) (.slice A3 1 c3) w13 ∧ w13.heap[gr]? = some (rgB r0) ∧ w13.ownsRow (gr + 1) 42 6 (.slice A3 1 c3) 1 (recs rgC [((⟨low, 0, 0⟩, ⟨low, 0, 0⟩) : Rg)]) from ⟨HI12.out.1.below hb13, hg13, own_below HI12.out.2.2 hb13⟩)
            have hlr13 := (Array.getElem?_eq_some_iff.1 hg13).1
            have k0 := cell_of_blk (j := 0) hg13 rfl
            have k1 := cell_of_blk (j := 1) hg13 rfl
            have k2 := cell_of_blk (j := 2) hg13 rfl
            have k3 := cell_of_blk (j := 3) hg13 rfl
            have k4 := cell_of_blk (j := 4) hg13 rfl
            have k5 := cell_of_blk (j := 5) hg13 rfl
            have hf0 : w13.frozen? ⟨gr, 0, none⟩ = false := by simp [World.frozen?, hg13, rgB]
            have hf1 : w13.frozen? ⟨gr, 1, none⟩ = false := by simp [World.frozen?, hg13, rgB]
            have hf2 : w13.frozen? ⟨gr, 2, none⟩ = false := by simp [World.frozen?, hg13, rgB]
            have hf3 : w13.frozen? ⟨gr, 3, none⟩ = false := by simp [World.frozen?, hg13, rgB]
            have hf4 : w13.frozen? ⟨gr, 4, none⟩ = false := by simp [World.frozen?, hg13, rgB]
            have hf5 : w13.frozen? ⟨gr, 5, none⟩ = false := by simp [World.frozen?, hg13, rgB]
            clear HWM hb13 hlr12 HI12 hg13
            have HEND := Lib.hid (fun (W : World) (hW : W = ((((((w13.setCell ⟨gr, 0, none⟩ (.int .i64 (M : Int))).setCell ⟨gr, 1, none⟩ (.int .i64 0)).setCell ⟨gr, 2, none⟩ (.int .i64 0)).setCell ⟨gr, 3, none⟩ (.int .i64 (M : Int))).setCell ⟨gr, 4, none⟩ (.int .i64 4)).setCell ⟨gr, 5, none⟩ (.int .i64 9999))) => show RiMid w w2 p gx gd mn gr mo xs (M : Int) mi sz (k' + 6) W from by
              obtain ⟨h1, h2⟩ := set6V _ _ _ _ _ _ _ _ _ _ _ _ _ _ _ HI13.out.2.1 W hW
              refine ⟨[((⟨low, 0, 0⟩, ⟨low, 0, 0⟩) : Rg)], 1, A3, c3, (⟨(M : Int), 0, 0⟩, ⟨(M : Int), 4, 9999⟩), k' + 6, HI13.out.1.other h2 hgr1.2.2 (by omega) (by omega), rfl, h1, own_otV HI13.out.2.2 h2 ?_, .inr ⟨_, rfl, ⟨⟨?_, ?_, ?_⟩, ⟨?_, ?_, ?_⟩, Int.le_refl _⟩, ?_, ?_, ?_⟩, ⟨⟨?_, ?_, ?_⟩, ⟨?_, ?_, ?_⟩, ?_⟩, ?_, Nat.le_refl _⟩
              · intro b hb
                have := (HI13.out.2.2.lt b hb).1
                omega
              all_goals (try (show (0 : Int) ≤ _ ∧ _ ≤ (9999 : Int)))
              all_goals (try (unfold vn))
              all_goals (try rw [HE5.out])
              all_goals (try simp only)
              all_goals omega)
            go_wp2_with (fail)
            go_meet
            exact HEND.out _ rfl
        case rest =>
        obtain ⟨rs0, q0, FA, fc, r, kk, hI14, hq0, hg14, hown, hrs, hrok, hrlt, hkk⟩ := hcut
        obtain ⟨w14, rfl⟩ : ∃ wy : World, wy = wc := ⟨_, rfl⟩
        have HI14 := Lib.hid (show RgS w w2 p gx gd mn mo xs (M : Int) mi sz kk (.slice FA q0 fc) w14 ∧ w14.heap[gr]? = some (rgB r) ∧ w14.ownsRow (gr + 1) 42 6 (.slice FA q0 fc) q0 (recs rgC rs0) from ⟨hI14, hg14, hown⟩)
        have HOK := Lib.hid (show q0 + 1 = (rs0 ++ [r]).length ∧ ImOk ⟨⟨(M : Int), mi, 0⟩, some ⟨gd, 0, none⟩, mn, mo, none, 0, rs0 ++ [r], sz⟩ from by
          have hmi : 0 ≤ mi ∧ mi ≤ 5 := by have := HEMI.out; omega
          have hin : ∀ z ∈ rs0, RgOk z ∧ vn z.2 < vn ⟨(M : Int), mi, 0⟩ ∧ vn z.2 < vn r.1 := by
            intro z hz
            rcases hrs with h | ⟨q, h, h1, h2, h3, h4⟩
            · rw [h] at hz; cases hz
            · rw [h] at hz; rw [List.mem_singleton.1 hz]; exact ⟨h1, h4, h3⟩
          have hl2 : rs0.length ≤ 1 := by
            rcases hrs with h | ⟨q, h, _⟩ <;> simp [h]
          refine ⟨by rw [List.length_append, hq0]; rfl, ⟨⟨⟨?_, ?_⟩, ⟨hmi.1, ?_⟩, ⟨?_, ?_⟩⟩, HMO.out, ?_, ?_, ?_, ?_, hsz⟩⟩
          · show (0 : Int) ≤ (M : Int); omega
          · show (M : Int) ≤ 9999; omega
          · show mi ≤ 9999; omega
          · show (0 : Int) ≤ 0; omega
          · show (0 : Int) ≤ 9999; omega
          · show (rs0 ++ [r]).length ≤ 2
            rw [List.length_append, List.length_singleton]; omega
          · show 0 < (rs0 ++ [r]).length
            rw [List.length_append, List.length_singleton]; omega
          · intro z hz
            rcases List.mem_append.1 hz with h | h
            · exact ⟨(hin z h).1, (hin z h).2.1⟩
            · rw [List.mem_singleton.1 h]; exact ⟨hrok, hrlt⟩
          · refine List.pairwise_append.2 ⟨?_, List.pairwise_singleton _ _, fun a ha b hb => ?_⟩
            · rcases hrs with h | ⟨q, h, _⟩
              · rw [h]; exact List.Pairwise.nil
              · rw [h]; exact List.pairwise_singleton _ _
            · rw [List.mem_singleton.1 hb]; exact (hin a ha).2.2)
        have hq02 : q0 ≤ 1 := by
          rcases hrs with h | ⟨q, h, _⟩ <;> simp [hq0, h]
        have hlx14 := (Array.getElem?_eq_some_iff.1 hI14.img).1
        have hlr14 := (Array.getElem?_eq_some_iff.1 hg14).1
        go_upto_region 15 with (fail)
        go_cut [86] (fun s wx => s = .bool true ∧ Below w14.heap.size w14 wx)
        case first =>
          rcases hrs with hrs | ⟨q, hrs, hqok, hqa, hqr, hqm⟩
          · subst hrs
            have hq00 : q0 = 0 := hq0
            subst hq00
            have HQ := Lib.hid (fun (V : World) (hV : Below w14.heap.size w14 V) => show V.cell? ⟨gx, 4, none⟩ = some (.slice FA 0 fc) from cell_of_blk (j := 4) ((hV.block gx hlx14).trans HI14.out.1.img) rfl)
            clear hq0 hI14 hg14 hown hrok hrlt
            go_upto_region 15 with (fail)
            refine qRegion (by kernel_rfl) (by kernel_rfl) ?_
            repeat (first
              | (go_big_quiet_want; refine qVal (fun V hV => (by (obtain q4 := HQ.out V hV; go_simp; try rfl))) ?_; simp only [Act.put, List.setIfInBounds_toArray, List.set_cons_zero, List.set_cons_succ]; go_big_quiet_on)
              | go_big_quiet_skip)
            refine wpQuiet_nil ?_
            intro V hV
            clear HQ
            go_wp2_with (fail)
            go_meet
            exact ⟨rfl, hV⟩
          · subst hrs
            have hq01 : q0 = 1 := hq0
            subst hq01
            obtain ⟨bo, hbo⟩ : ∃ bo, FA = some ⟨bo, 0, none⟩ := by
              rcases hown.2 with h | h
              · cases h.1
              · obtain ⟨g, cap, cur, hv, _⟩ := h
                injection hv with h1
                exact ⟨g, h1⟩
            subst hbo
            have hCo : ∀ i u, (recs rgC [q])[i]? = some u → w14.cell? ⟨bo, 0 + i, none⟩ = some u := fun i u hi => by have h := HI14.out.2.2.cells (g := bo) rfl i u hi; rw [Addr.add_lit] at h; exact h
            have hbo2 : bo < w14.heap.size := (HI14.out.2.2.lt bo rfl).2
            have HN1 := Lib.hid (fun V => versionOrder_less q.2 r.1 V hqa)
            unfold veV at HN1
            have HQ := Lib.hid (fun (V : World) (hV : Below w14.heap.size w14 V) => show V.cell? ⟨gx, 4, none⟩ = some (.slice (some ⟨bo, 0, none⟩) 1 fc) ∧ V.cell? ⟨bo, 3, none⟩ = some (.int .i64 q.2.a) ∧ V.cell? ⟨bo, 4, none⟩ = some (.int .i64 q.2.b) ∧ V.cell? ⟨bo, 5, none⟩ = some (.int .i64 q.2.c) ∧ V.cell? ⟨gr, 0, none⟩ = some (.int .i64 r.1.a) ∧ V.cell? ⟨gr, 1, none⟩ = some (.int .i64 r.1.b) ∧ V.cell? ⟨gr, 2, none⟩ = some (.int .i64 r.1.c) from by
              have h1 := (hV.block gr hlr14).trans HI14.out.2.1
              have hq : ∀ i u, (recs rgC [q])[i]? = some u → V.cell? ⟨bo, 0 + i, none⟩ = some u := fun i u hi => (hV.cell (p := ⟨bo, 0 + i, none⟩) hbo2).trans (hCo i u hi)
              exact ⟨cell_of_blk (j := 4) ((hV.block gx hlx14).trans HI14.out.1.img) rfl, (by have h := hq 3 _ rfl; simpa using h), (by have h := hq 4 _ rfl; simpa using h), (by have h := hq 5 _ rfl; simpa using h), cell_of_blk (j := 0) h1 rfl, cell_of_blk (j := 1) h1 rfl, cell_of_blk (j := 2) h1 rfl⟩)
            clear hq0 hI14 hg14 hown hrok hrlt hCo hqok hqa hqr hqm
            go_upto_region 15 with (fail)
            refine qRegion (by kernel_rfl) (by kernel_rfl) ?_
            repeat (first
              | (go_big_quiet_want; refine qVal (fun V hV => (by (obtain ⟨q4, p3, p4, p5, s0, s1, s2⟩ := HQ.out V hV; go_simp; try rfl))) ?_; simp only [Act.put, List.setIfInBounds_toArray, List.set_cons_zero, List.set_cons_succ]; go_big_quiet_on)
              | (go_big_quiet_want
                 refine qCall (fun V hV => (by (obtain ⟨q4, p3, p4, p5, s0, s1, s2⟩ := HQ.out V hV; go_simp; exact ⟨rfl, rfl⟩))) (fun V hV => (by first
                   | with_reducible exact (HN1.out V).mono (fun e w' h => ⟨h.1, hV.trans (h.2.mono hV.size)⟩))) ?_
                 simp only [Act.put, List.setIfInBounds_toArray, List.set_cons_zero, List.set_cons_succ]; go_big_quiet_on)
              | go_big_quiet_skip)
            refine wpQuiet_nil ?_
            intro V hV
            clear HQ HN1
            go_wp2_with (fail)
            go_meet
            exact ⟨rfl, hV⟩
        case rest =>
        obtain ⟨rfl, hb15⟩ := hcut
        obtain ⟨w15, rfl⟩ : ∃ wy : World, wy = wc := ⟨_, rfl⟩
        have hI15 := HI14.out.1.below hb15
        have hg15 := (hb15.block gr hlr14).trans HI14.out.2.1
        have HI15 := Lib.hid (And.intro hI15 (own_below HI14.out.2.2 hb15))
        have hl15 := (Array.getElem?_eq_some_iff.1 hI15.img).1
        have hlr15 := (Array.getElem?_eq_some_iff.1 hg15).1
        have k4 := cell_of_blk (j := 4) hI15.img rfl
        have r0 := cell_of_blk (j := 0) hg15 rfl
        have r1 := cell_of_blk (j := 1) hg15 rfl
        have r2 := cell_of_blk (j := 2) hg15 rfl
        have r3 := cell_of_blk (j := 3) hg15 rfl
        have r4 := cell_of_blk (j := 4) hg15 rfl
        have r5 := cell_of_blk (j := 5) hg15 rfl
        have hba : Below w15.heap.size w15 (w15.alloc (.cells #[.int .i64 r.1.a, .int .i64 r.1.b, .int .i64 r.1.c, .int .i64 r.2.a, .int .i64 r.2.b, .int .i64 r.2.c] 42)) := (Below.refl _ _).alloc (Nat.le_refl _) _
        have HAL := Lib.hid (And.intro (hI15.below hba) (own_below HI15.out.2 hba))
        have hbs : gr + 1 ≤ (w15.alloc (.cells #[.int .i64 r.1.a, .int .i64 r.1.b, .int .i64 r.1.c, .int .i64 r.2.a, .int .i64 r.2.b, .int .i64 r.2.c] 42)).heap.size := by have := hba.size; omega
        clear hI14 hg14 hown hrs hrok hrlt hb15 hI15 hg15 hba hlx14 hlr14 HI14 HI15 hq0
        go_wp2_with (at_builtin; refine wpList_append_own2 _ rfl _ _ 37 rfl (gr + 1) 42 ir0 _ 6 48 Tryz.underlying37 hir0 hzr0 hzr1 hzr2 rfl (by decide) _ _ _ rfl HAL.out.2 ⟨_, 0, none⟩ 1 1 (rgC r) rfl rfl ?c1 ?c2 ?c3 ?c4 ?c5 ?_)
        case c1 => first | exact fun j u h => h | exact cells_add (cells_atV (by rfl) rfl)
        case c2 => exact rgC_one r
        case c3 => unfold maxLen; omega
        case c4 => omega
        case c5 => first | exact hbs | omega
        intro v16 w16 ho16 hg16 hm16
        obtain ⟨A5, c5, rfl⟩ := own_slice ho16
        have hI16 := HAL.out.1.row HAL.out.2 (by decide) (by decide) (by omega) hg16
        have HI16 := Lib.hid (show RgS w w2 p gx gd mn mo xs (M : Int) mi sz kk (.slice FA q0 fc) w16 ∧ w16.ownsRow (gr + 1) 42 6 (.slice A5 (q0 + 1) c5) (q0 + 1) (recs rgC (rs0 ++ [r])) from ⟨hI16, by
          have e : recs rgC (rs0 ++ [r]) = recs rgC rs0 ++ rgC r := by simp [recs]
          rw [e]; exact ho16⟩)
        have q4 := cell_of_blk (j := 4) hI16.img rfl
        have hf4 : w16.frozen? ⟨gx, 4, none⟩ = false := by simp [World.frozen?, hI16.img]
        have hl16 := (Array.getElem?_eq_some_iff.1 hI16.img).1
        clear hI16 hg16 hm16 ho16 HAL hbs k4 r0 r1 r2 r3 r4 r5 hl15 hlr15
        go_upto_region 17 with (fail)
        obtain ⟨w17, e17⟩ : ∃ V : World, V = w16.setCell ⟨gx, 4, none⟩ (.slice A5 (q0 + 1) c5) := ⟨_, rfl⟩
        have HI17 := Lib.hid (show RgS w w2 p gx gd mn mo xs (M : Int) mi sz kk (.slice A5 (q0 + 1) c5) w17 ∧ w17.ownsRow (gr + 1) 42 6 (.slice A5 (q0 + 1) c5) (q0 + 1) (recs rgC (rs0 ++ [r])) from by
          obtain ⟨h1, h2⟩ := HI16.out.1.put (.slice A5 (q0 + 1) c5)
          rw [← e17] at h1 h2
          exact ⟨h1, own_otV HI16.out.2 h2 (HI16.out.1.ne HI16.out.2 (by decide))⟩)
        rw [← e17]
        clear e17 q4 hf4 hl16 HI16
        have hl17 := (Array.getElem?_eq_some_iff.1 HI17.out.1.img).1
        have s0 := cell_of_blk (j := 0) HI17.out.1.img rfl
        have s1 := cell_of_blk (j := 1) HI17.out.1.img rfl
        have s2 := cell_of_blk (j := 2) HI17.out.1.img rfl
        have s3 := cell_of_blk (j := 3) HI17.out.1.img rfl
        have s4 := cell_of_blk (j := 4) HI17.out.1.img rfl
        have s5 := cell_of_blk (j := 5) HI17.out.1.img rfl
        have hba : Below w17.heap.size w17 (w17.alloc (.cells #[.int .i64 (M : Int), .int .i64 mi, .int .i64 0, .slice (some ⟨gd, 0, none⟩) mn mn, .slice A5 (q0 + 1) c5, .int .i64 sz] 91)) := (Below.refl _ _).alloc (Nat.le_refl _) _
        have HAL := Lib.hid (own_below (own_kept (own_kept HRS.out.own HG2.out.2 hplt) HI17.out.1.gr hplt) hba)
        have hbs : w.heap.size ≤ (w17.alloc (.cells #[.int .i64 (M : Int), .int .i64 mi, .int .i64 0, .slice (some ⟨gd, 0, none⟩) mn mn, .slice A5 (q0 + 1) c5, .int .i64 sz] 91)).heap.size := by have := hba.size; have := HI17.out.1.gr.size; omega
        have hL8 : L.length ≤ 8 := by have := HRS.out.len; omega
        clear hba
        go_wp2_with (at_builtin; refine wpList_append_own2 _ rfl _ _ 26 rfl w.heap.size 91 ii0 _ 6 80 Tryz.underlying26 hii0 hzi0 hzi1 hzi2 rfl (by decide) _ _ _ rfl HAL.out ⟨_, 0, none⟩ 1 1 [.int .i64 (M : Int), .int .i64 mi, .int .i64 0, .slice (some ⟨gd, 0, none⟩) mn mn, .slice A5 (q0 + 1) c5, .int .i64 sz] rfl rfl ?c1 ?c2 ?c3 ?c4 ?c5 ?_)
        case c1 => first | exact fun j u h => h | exact cells_add (cells_atV (by rfl) rfl)
        case c2 =>
          intro u hu
          simp only [List.mem_cons, List.not_mem_nil, or_false] at hu
          rcases hu with h | h | h | h | h | h <;> rw [h] <;> rfl
        case c3 => unfold maxLen; omega
        case c4 => omega
        case c5 => first | exact hbs | omega
        intro v19 w19 ho19 hg19 hm19
        have HEND := Lib.hid (show RiIn w p k xs M gm v19 (.int .i64 ((i + 1 : Nat) : Int)) w19 from by
          have hv : vn (⟨(M : Int), 5 * (i : Int), 0⟩ : Ve) < vn (⟨(M : Int), 5 * ((i + 1 : Nat) : Int), 0⟩ : Ve) := by
            unfold vn
            show ((M : Int) * 10000 + 5 * (i : Int)) * 10000 + 0 < ((M : Int) * 10000 + 5 * ((i + 1 : Nat) : Int)) * 10000 + 0
            omega
          have hx : vn (⟨(M : Int), mi, 0⟩ : Ve) = vn (⟨(M : Int), 5 * (i : Int), 0⟩ : Ve) := by rw [HEMI.out]
          have hok := HOK.out.2
          have hR := ri_end (x := ⟨⟨(M : Int), mi, 0⟩, some ⟨gd, 0, none⟩, mn, mo, A5, c5, rs0 ++ [r], sz⟩) HRS.out HG2.out.2 HI17.out.1 HI17.out.2 hgr1.2.2 HMN.out HOK.out.1 rfl ⟨hok.v, hok.mo, hok.rl, hok.rn, hok.rs, hok.ro, hok.sz⟩ (by show vn ⟨(M : Int), 5 * (i : Int), 0⟩ ≤ vn ⟨(M : Int), mi, 0⟩; omega) (by show vn ⟨(M : Int), mi, 0⟩ < vn ⟨(M : Int), 5 * ((i + 1 : Nat) : Int), 0⟩; omega) (by omega) rfl ho19 hg19
          refine ⟨i + 1, by omega, rfl, ⟨_, _, hR.weak (by omega) (Int.le_refl _)⟩, ?_⟩
          have h1 := (HG2.out.2.block gm hlgm (fun e => by have := Option.some.inj e; omega)).trans HGM.out
          have hl1 := (Array.getElem?_eq_some_iff.1 h1).1
          have h2 := (HI17.out.1.gr.block gm hl1 (fun e => by have := Option.some.inj e; omega)).trans h1
          have hl2 := (Array.getElem?_eq_some_iff.1 h2).1
          have h3 := (Below.heap_alloc w17 (.cells #[.int .i64 (M : Int), .int .i64 mi, .int .i64 0, .slice (some ⟨gd, 0, none⟩) mn mn, .slice A5 (q0 + 1) c5, .int .i64 sz] 91) gm hl2).trans h2
          have hl3 := (Array.getElem?_eq_some_iff.1 h3).1
          refine (hg19.block gm hl3 ?_).trans h3
          intro e
          rcases HAL.out.2 with ⟨hv, _⟩ | ⟨g, cap, cur, hv, _, hh, _⟩
          · rw [hv] at e; cases e
          · rw [hv] at e
            have e3 : gm = g := Option.some.inj e
            rw [← e3, h3] at hh
            injection (Option.some.inj hh) with _ h5
            exact absurd h5 (by decide))
        clear ho19 hg19 hm19 HAL hbs s0 s1 s2 s3 s4 s5 hl17
        go_wp2_with (fail)
        go_roundw
        case rel => exact (by simpa using HEND.out)
        case measure => simp [intOf]; omega
end Go.Proofs.YtidgicbhgnbidaaGreatDoor
