/- RightRule of the stream by its contract; Odd between -1000000000 and 1000000000. Printed by gen_TeG.py. -/
import Derived.Test.YtlfphndnkgoinaaGreatDoorTeC
import Derived.Test.YtlfphndnkgoinaaGreatDoorMg1
import Derived.Test.YtlfphndnkgoinaaGreatDoorTkR
namespace Go.Proofs.YtlfphndnkgoinaaGreatDoor
open Go.RowKit

def onPk : List Int := [-1000000001, 1000000001, -1000000000, 1000000000, -1099511627776, 1099511627776]
def oddNV (xs : List Int) (k : Nat) : Int := if nextV xs k 12 = 0 then onPk.getD (nextN xs (k + 1) 6) 0 else -1000000000 + nextV xs (k + 1) 2000000001
theorem oddN_any (w : World) (p k : Nat) (xs : List Int) (hk : k < 900000) (hs : Strm w p xs k) :
    Calls Tryz.prog 29 #[.pointer (some ⟨p, 0, none⟩), .int .i64 (-1000000000), .int .i64 1000000000] w fun e w' => e = .returned (.int .i64 (oddNV xs k)) ∧ Strm w' p xs (k + 2) ∧ w.grownBy w' (some p) := by
  have hplt := hs.lt
  have HS := Lib.hid hs
  clear hs
  obtain ⟨r, er⟩ : ∃ r, r = oddNV xs k := ⟨_, rfl⟩
  rw [← er]
  unfold oddNV at er
  go_enter Tryz.func29, Tryz.ntmps29
  go_wp2_with (fail)
  refine (flipD_any w p k xs 12 (by omega) (by omega) (by omega) HS.out).mono ?_
  rintro e w1 ⟨rfl, hst1, hg1⟩
  have HST1 := Lib.hid hst1
  have HG1 := Lib.hid hg1
  have hs1 := hg1.size
  clear hst1 hg1
  by_cases h0 : nextV xs k 12 = 0
  · rw [if_pos h0] at er
    rw [decide_eq_true h0]
    have ER := Lib.hid er
    clear h0 er
    go_wp2_with (fail)
    refine (pick_any _ p (k + 1) _ 6 6 xs onPk (by omega) rfl (by omega) (by omega) (HST1.out.alloc _) (by omega) (Cells.new _ _ _ _ _ rfl)).mono ?_
    rintro e w2 ⟨rfl, hst2, hg2⟩
    have HF := Lib.hid (And.intro hst2 (grown_trans HG1.out (grown_of_alloc hg2)))
    clear hst2 hg2
    go_wp2_with (fail)
    go_ret
    exact ⟨by rw [ER.out]; rfl, HF.out.1, HF.out.2⟩
  · rw [if_neg h0] at er
    rw [decide_eq_false h0]
    have ER := Lib.hid er
    clear h0 er
    go_wp2_with (fail)
    refine (range_any w1 p (k + 1) xs (-1000000000) 1000000000 (by omega) (by omega) (by omega) (by omega) (by omega) HST1.out).mono ?_
    rintro e w2 ⟨rfl, hst2, hg2⟩
    have HF := Lib.hid (And.intro hst2 (grown_trans HG1.out hg2))
    clear hst2 hg2
    go_wp2_with (fail)
    go_ret
    exact ⟨by rw [ER.out]; rfl, HF.out.1, HF.out.2⟩

def loPk : List Int := [5, 20, 50, 100]
theorem loPk_r (j : Nat) (h : j < 4) : 5 ≤ loPk.getD j 0 ∧ loPk.getD j 0 ≤ 100 := by
  have : j = 0 ∨ j = 1 ∨ j = 2 ∨ j = 3 := by omega
  rcases this with h | h | h | h <;> subst h <;> decide
def lmPk : List Int := [0, 2, 5, 8]
theorem lmPk_r (j : Nat) (h : j < 4) : 0 ≤ lmPk.getD j 0 ∧ lmPk.getD j 0 ≤ 8 := by
  have : j = 0 ∨ j = 1 ∨ j = 2 ∨ j = 3 := by omega
  rcases this with h | h | h | h <;> subst h <;> decide
def hoPk : List Int := [0, 0, 5, 15]
theorem hoPk_r (j : Nat) (h : j < 4) : 0 ≤ hoPk.getD j 0 ∧ hoPk.getD j 0 ≤ 15 := by
  have : j = 0 ∨ j = 1 ∨ j = 2 ∨ j = 3 := by omega
  rcases this with h | h | h | h <;> subst h <;> decide
def emPk : List Int := [0, 0, 1, 2]
theorem emPk_r (j : Nat) (h : j < 4) : 0 ≤ emPk.getD j 0 ∧ emPk.getD j 0 ≤ 2 := by
  have : j = 0 ∨ j = 1 ∨ j = 2 ∨ j = 3 := by omega
  rcases this with h | h | h | h <;> subst h <;> decide
def ddPk : List Int := [0, 0, 2, 4]
theorem ddPk_r (j : Nat) (h : j < 4) : 0 ≤ ddPk.getD j 0 ∧ ddPk.getD j 0 ≤ 4 := by
  have : j = 0 ∨ j = 1 ∨ j = 2 ∨ j = 3 := by omega
  rcases this with h | h | h | h <;> subst h <;> decide
theorem setc_s (V : World) (a : Addr) (v : Value) : (V.setCell a v).heap.size = V.heap.size := by simp [World.setCell]
theorem setc_1 (V : World) (a : Addr) (v : Value) : (V.setCell a v).os = V.os := rfl
theorem setc_2 (V : World) (a : Addr) (v : Value) : (V.setCell a v).tape = V.tape := rfl
theorem setc_3 (V : World) (a : Addr) (v : Value) : (V.setCell a v).output = V.output := rfl
theorem setc_o (V : World) (b j : Nat) (v : Value) (b' : Nat) (hb : b' ≠ b) : (V.setCell ⟨b, j, none⟩ v).heap[b']? = V.heap[b']? := Below.heap_setCell _ _ _ _ hb
theorem set10 (V : World) (b : Nat) (T : TypeId) (c0 c1 c2 c3 c4 c5 c6 c7 c8 c9 v0 v1 v2 v3 v4 v5 v6 v7 v8 v9 : Value) (h : V.heap[b]? = some (.cells #[c0, c1, c2, c3, c4, c5, c6, c7, c8, c9] T (0, 0))) (W : World) (hW : W = ((((((((((V.setCell ⟨b, 0, none⟩ v0).setCell ⟨b, 1, none⟩ v1).setCell ⟨b, 2, none⟩ v2).setCell ⟨b, 3, none⟩ v3).setCell ⟨b, 4, none⟩ v4).setCell ⟨b, 5, none⟩ v5).setCell ⟨b, 6, none⟩ v6).setCell ⟨b, 7, none⟩ v7).setCell ⟨b, 8, none⟩ v8).setCell ⟨b, 9, none⟩ v9)) :
    W.heap[b]? = some (.cells #[v0, v1, v2, v3, v4, v5, v6, v7, v8, v9] T (0, 0)) ∧ (∀ b', b' ≠ b → W.heap[b']? = V.heap[b']?) ∧ W.heap.size = V.heap.size ∧ W.os = V.os ∧ W.tape = V.tape ∧ W.output = V.output := by
  have h0 : (V.setCell ⟨b, 0, none⟩ v0).heap[b]? = some (.cells #[v0, c1, c2, c3, c4, c5, c6, c7, c8, c9] T (0, 0)) := (heap_setCell_blk (j := 0) v0 h).trans rfl
  have h1 : ((V.setCell ⟨b, 0, none⟩ v0).setCell ⟨b, 1, none⟩ v1).heap[b]? = some (.cells #[v0, v1, c2, c3, c4, c5, c6, c7, c8, c9] T (0, 0)) := (heap_setCell_blk (j := 1) v1 h0).trans rfl
  have h2 : (((V.setCell ⟨b, 0, none⟩ v0).setCell ⟨b, 1, none⟩ v1).setCell ⟨b, 2, none⟩ v2).heap[b]? = some (.cells #[v0, v1, v2, c3, c4, c5, c6, c7, c8, c9] T (0, 0)) := (heap_setCell_blk (j := 2) v2 h1).trans rfl
  have h3 : ((((V.setCell ⟨b, 0, none⟩ v0).setCell ⟨b, 1, none⟩ v1).setCell ⟨b, 2, none⟩ v2).setCell ⟨b, 3, none⟩ v3).heap[b]? = some (.cells #[v0, v1, v2, v3, c4, c5, c6, c7, c8, c9] T (0, 0)) := (heap_setCell_blk (j := 3) v3 h2).trans rfl
  have h4 : (((((V.setCell ⟨b, 0, none⟩ v0).setCell ⟨b, 1, none⟩ v1).setCell ⟨b, 2, none⟩ v2).setCell ⟨b, 3, none⟩ v3).setCell ⟨b, 4, none⟩ v4).heap[b]? = some (.cells #[v0, v1, v2, v3, v4, c5, c6, c7, c8, c9] T (0, 0)) := (heap_setCell_blk (j := 4) v4 h3).trans rfl
  have h5 : ((((((V.setCell ⟨b, 0, none⟩ v0).setCell ⟨b, 1, none⟩ v1).setCell ⟨b, 2, none⟩ v2).setCell ⟨b, 3, none⟩ v3).setCell ⟨b, 4, none⟩ v4).setCell ⟨b, 5, none⟩ v5).heap[b]? = some (.cells #[v0, v1, v2, v3, v4, v5, c6, c7, c8, c9] T (0, 0)) := (heap_setCell_blk (j := 5) v5 h4).trans rfl
  have h6 : (((((((V.setCell ⟨b, 0, none⟩ v0).setCell ⟨b, 1, none⟩ v1).setCell ⟨b, 2, none⟩ v2).setCell ⟨b, 3, none⟩ v3).setCell ⟨b, 4, none⟩ v4).setCell ⟨b, 5, none⟩ v5).setCell ⟨b, 6, none⟩ v6).heap[b]? = some (.cells #[v0, v1, v2, v3, v4, v5, v6, c7, c8, c9] T (0, 0)) := (heap_setCell_blk (j := 6) v6 h5).trans rfl
  have h7 : ((((((((V.setCell ⟨b, 0, none⟩ v0).setCell ⟨b, 1, none⟩ v1).setCell ⟨b, 2, none⟩ v2).setCell ⟨b, 3, none⟩ v3).setCell ⟨b, 4, none⟩ v4).setCell ⟨b, 5, none⟩ v5).setCell ⟨b, 6, none⟩ v6).setCell ⟨b, 7, none⟩ v7).heap[b]? = some (.cells #[v0, v1, v2, v3, v4, v5, v6, v7, c8, c9] T (0, 0)) := (heap_setCell_blk (j := 7) v7 h6).trans rfl
  have h8 : (((((((((V.setCell ⟨b, 0, none⟩ v0).setCell ⟨b, 1, none⟩ v1).setCell ⟨b, 2, none⟩ v2).setCell ⟨b, 3, none⟩ v3).setCell ⟨b, 4, none⟩ v4).setCell ⟨b, 5, none⟩ v5).setCell ⟨b, 6, none⟩ v6).setCell ⟨b, 7, none⟩ v7).setCell ⟨b, 8, none⟩ v8).heap[b]? = some (.cells #[v0, v1, v2, v3, v4, v5, v6, v7, v8, c9] T (0, 0)) := (heap_setCell_blk (j := 8) v8 h7).trans rfl
  have h9 : ((((((((((V.setCell ⟨b, 0, none⟩ v0).setCell ⟨b, 1, none⟩ v1).setCell ⟨b, 2, none⟩ v2).setCell ⟨b, 3, none⟩ v3).setCell ⟨b, 4, none⟩ v4).setCell ⟨b, 5, none⟩ v5).setCell ⟨b, 6, none⟩ v6).setCell ⟨b, 7, none⟩ v7).setCell ⟨b, 8, none⟩ v8).setCell ⟨b, 9, none⟩ v9).heap[b]? = some (.cells #[v0, v1, v2, v3, v4, v5, v6, v7, v8, v9] T (0, 0)) := (heap_setCell_blk (j := 9) v9 h8).trans rfl
  subst hW
  refine ⟨h9, fun b' hb => ?_, ?_, ?_, ?_, ?_⟩
  · rw [setc_o _ _ _ _ _ hb, setc_o _ _ _ _ _ hb, setc_o _ _ _ _ _ hb, setc_o _ _ _ _ _ hb, setc_o _ _ _ _ _ hb, setc_o _ _ _ _ _ hb, setc_o _ _ _ _ _ hb, setc_o _ _ _ _ _ hb, setc_o _ _ _ _ _ hb, setc_o _ _ _ _ _ hb]
  · rw [setc_s, setc_s, setc_s, setc_s, setc_s, setc_s, setc_s, setc_s, setc_s, setc_s]
  · rw [setc_1, setc_1, setc_1, setc_1, setc_1, setc_1, setc_1, setc_1, setc_1, setc_1]
  · rw [setc_2, setc_2, setc_2, setc_2, setc_2, setc_2, setc_2, setc_2, setc_2, setc_2]
  · rw [setc_3, setc_3, setc_3, setc_3, setc_3, setc_3, setc_3, setc_3, setc_3, setc_3]

def mtPk : List Nat := [0, 0, 1]
theorem mtPk_r (j : Nat) (h : j < 3) : (mtPk.map meT).getD j ⟨#[]⟩ = meT (mtPk.getD j 0) ∧ mtPk.getD j 0 < 2 := by
  have : j = 0 ∨ j = 1 ∨ j = 2 := by omega
  rcases this with h | h | h <;> subst h <;> exact ⟨rfl, by decide⟩
def ruBk (r : Ru) : Obj := .cells #[.string (rkT r.k), .string (meT r.m), .int .i64 r.agg, .int .i64 r.long, .bool r.above, .int .i64 r.on, .int .i64 r.off, .int .i64 r.hold, .int .i64 r.rest, .int .i64 r.empty] 27 (0, 0)
/-- Stages of the region that draws how far Off lies from On. -/
def KRu (W : World) (p kk rb : Nat) (xs : List Int) (r : Ru) (f2 : Int) : Nat → World → Prop
  | 0, w => Strm w p xs kk ∧ w.heap[rb]? = some (ruBk r) ∧ W.grownBy w (some p)
  | 1, w => Strm w p xs (kk + 1) ∧ w.heap[rb]? = some (ruBk r) ∧ W.grownBy w (some p)
  | _, w => Strm w p xs (kk + 1) ∧ w.heap[rb]? = some (ruBk { r with off := f2 }) ∧ ∃ w0, W.grownBy w0 (some p) ∧ GrF w0 w (fun b => b = rb)
section
variable {W w w' : World} {p kk rb s : Nat} {xs : List Int} {r : Ru} {f2 : Int}
theorem KRu.alloc (h : KRu W p kk rb xs r f2 s w) (o : Obj) : KRu W p kk rb xs r f2 s (w.alloc o) := by
  match s, h with
  | 0, h => exact ⟨h.1.alloc o, (Below.heap_alloc _ _ _ (Array.getElem?_eq_some_iff.1 h.2.1).1).trans h.2.1, grown_trans h.2.2 (World.grownBy_alloc _ _ (some p))⟩
  | 1, h => exact ⟨h.1.alloc o, (Below.heap_alloc _ _ _ (Array.getElem?_eq_some_iff.1 h.2.1).1).trans h.2.1, grown_trans h.2.2 (World.grownBy_alloc _ _ (some p))⟩
  | _ + 2, h =>
    obtain ⟨h1, h2, w0, h3, h4⟩ := h
    exact ⟨h1.alloc o, (Below.heap_alloc _ _ _ (Array.getElem?_eq_some_iff.1 h2).1).trans h2, w0, h3, h4.trans ⟨rfl, rfl, rfl, by simp, fun b hb _ => Below.heap_alloc _ _ _ hb⟩⟩
theorem KRu.blk (h : KRu W p kk rb xs r f2 s w) (hs : s ≤ 1) : w.heap[rb]? = some (ruBk r) := by
  match s, h with
  | 0, h => exact h.2.1
  | 1, h => exact h.2.1
  | _ + 2, h => omega
theorem KRu.store (h : KRu W p kk rb xs r f2 1 w) (hpr : p < rb) (hrW : rb < W.heap.size) : KRu W p kk rb xs r f2 2 (w.setCell ⟨rb, 6, none⟩ (.int .i64 f2)) ∧ GrN W w (w.setCell ⟨rb, 6, none⟩ (.int .i64 f2)) := by
  have hset : ∀ b, b ≠ rb → (w.setCell ⟨rb, 6, none⟩ (.int .i64 f2)).heap[b]? = w.heap[b]? := fun b hb => Below.heap_setCell _ _ _ _ hb
  have hsz : (w.setCell ⟨rb, 6, none⟩ (.int .i64 f2)).heap.size = w.heap.size := by simp [World.setCell]
  refine ⟨⟨h.1.keep fun b hb => hset b (by omega), ?_, w, h.2.2, (GrF.refl _ (fun b => b = rb)).set (a := ⟨rb, 6, none⟩) rfl _⟩, by rw [hsz]; exact Nat.le_refl _, fun b hb _ => hset b (by omega)⟩
  have := h.2.1
  unfold ruBk at this ⊢
  rw [heap_setCell_blk _ this]
  rfl
theorem KRu.call (h : KRu W p kk rb xs r f2 0 w) (hst : Strm w' p xs (kk + 1)) (hg : w.grownBy w' (some p)) (hpr : p < rb) (hpW : p < W.heap.size) : KRu W p kk rb xs r f2 1 w' ∧ GrN W w w' :=
  ⟨⟨hst, (hg.block rb (Array.getElem?_eq_some_iff.1 h.2.1).1 (by intro e; injection e with e; omega)).trans h.2.1, grown_trans h.2.2 hg⟩, hg.size, fun b hb hlt => hg.block b hlt (by intro e; injection e with e; omega)⟩
end
theorem ru_cells {w : World} {rb : Nat} {r : Ru} (h : w.heap[rb]? = some (ruBk r)) : w.cell? ⟨rb, 4, none⟩ = some (.bool r.above) ∧ w.cell? ⟨rb, 5, none⟩ = some (.int .i64 r.on) ∧ w.cell? ⟨rb, 6, none⟩ = some (.int .i64 r.off) ∧ w.frozen? ⟨rb, 6, none⟩ = false :=
  ⟨cell_of_blk (j := 4) h rfl, cell_of_blk (j := 5) h rfl, cell_of_blk (j := 6) h rfl, by unfold ruBk at h; simp [World.frozen?, h]⟩
def RuPost (w : World) (p k : Nat) (xs : List Int) (kk : Nat) (e : Ending) (w' : World) : Prop :=
  ∃ r k', e = .returned (ruV r) ∧ RuR r ∧ r.k = kk ∧ Strm w' p xs k' ∧ k' ≤ k + 20 ∧ w.grownBy w' (some p)
def RuNear (r : Ru) : Prop := -100 ≤ r.on ∧ r.on ≤ 100 ∧ -100 ≤ r.off ∧ r.off ≤ 100
def RuPostN (w : World) (p k : Nat) (xs : List Int) (kk : Nat) (e : Ending) (w' : World) : Prop :=
  ∃ r k', e = .returned (ruV r) ∧ (RuR r ∧ RuNear r) ∧ r.k = kk ∧ Strm w' p xs k' ∧ k' ≤ k + 20 ∧ w.grownBy w' (some p)
set_option maxRecDepth 100000 in
set_option maxHeartbeats 4000000 in
theorem rightRule_near (kk : Nat) (w : World) (p k : Nat) (xs : List Int) (hkk : kk < 2) (hk : k < 100000) (hs : Strm w p xs k) :
    Calls Tryz.prog 7 #[.pointer (some ⟨p, 0, none⟩), .string (rkT kk)] w fun e w' => RuPostN w p k xs kk e w' := by
  have hplt := hs.lt
  obtain ⟨w0, e0⟩ : ∃ V : World, V = w.alloc (.cells #[.string ⟨#[]⟩, .string ⟨#[]⟩, .int .i64 0, .int .i64 0, .bool false, .int .i64 0, .int .i64 0, .int .i64 0, .int .i64 0, .int .i64 0] 27) := ⟨_, rfl⟩
  obtain ⟨r4, er4⟩ : ∃ b, b = w.heap.size := ⟨_, rfl⟩
  have HS0 := Lib.hid (show Strm w0 p xs k from by rw [e0]; exact hs.alloc _)
  have HG0 := Lib.hid (show w.grownBy w0 (some p) from by rw [e0]; exact World.grownBy_alloc _ _ (some p))
  have HX0 := Lib.hid (show w0.heap[r4]? = some (.cells #[.string ⟨#[]⟩, .string ⟨#[]⟩, .int .i64 0, .int .i64 0, .bool false, .int .i64 0, .int .i64 0, .int .i64 0, .int .i64 0, .int .i64 0] 27 (0, 0)) from by rw [e0, er4]; exact heap_new w _)
  have hr40 : r4 < w0.heap.size := (Array.getElem?_eq_some_iff.1 HX0.out).1
  have hpr4 : p < r4 := by omega
  have hwr4 : w.heap.size ≤ r4 := by omega
  clear hs
  go_enter Tryz.func7, Tryz.ntmps7
  go_upto_region 1 with (fail)
  rw [← er4, ← e0]
  clear e0 er4
  go_wp2_with (fail)
  refine (some_any _ p (k + 0) w0.heap.size 3 3 xs (mtPk.map meT) (by omega) rfl (by omega) (by omega) (HS0.out.alloc _) (by omega) (Cells.new _ _ _ _ _ rfl)).mono ?_
  have hmt := mtPk_r (nextN xs (k + 0) 3) (nextN_lt _ _ _ (by omega))
  obtain ⟨mt, emt⟩ : ∃ z, z = mtPk.getD (nextN xs (k + 0) 3) 0 := ⟨_, rfl⟩
  rw [hmt.1, ← emt]
  have hmt2 : mt < 2 := emt ▸ hmt.2
  clear hmt emt
  rintro e w1 ⟨rfl, hst1, hg1⟩
  replace hg1 := grown_of_alloc hg1
  have hs1 := hg1.size
  have HS1 := Lib.hid hst1
  have HX1 := Lib.hid ((hg1.block r4 (by omega) (by intro e; injection e with e; omega)).trans HX0.out)
  have HG1 := Lib.hid (grown_trans HG0.out hg1)
  clear hst1 hg1
  go_wp2_with (fail)
  refine (range_any w1 p (k + 1) xs 1 6 (by omega) (by omega) (by omega) (by omega) (by omega) HS1.out).mono ?_
  have hag := nextV_range xs (k + 1) (6 - 1 + 1) (by omega)
  obtain ⟨ag, eag⟩ : ∃ z, z = 1 + nextV xs (k + 1) (6 - 1 + 1) := ⟨_, rfl⟩
  rw [← eag]
  have hag2 : 1 ≤ ag ∧ ag ≤ 6 := by omega
  clear hag eag
  rintro e w2 ⟨rfl, hst2, hg2⟩
  have hs2 := hg2.size
  have HS2 := Lib.hid hst2
  have HX2 := Lib.hid ((hg2.block r4 (by omega) (by intro e; injection e with e; omega)).trans HX1.out)
  have HG2 := Lib.hid (grown_trans HG1.out hg2)
  clear hst2 hg2
  go_wp2_with (fail)
  refine (pick_any _ p (k + 2) w2.heap.size 4 4 xs loPk (by omega) rfl (by omega) (by omega) (HS2.out.alloc _) (by omega) (Cells.new _ _ _ _ _ rfl)).mono ?_
  have hlo := loPk_r (nextN xs (k + 2) 4) (nextN_lt _ _ _ (by omega))
  obtain ⟨lo, elo⟩ : ∃ z, z = loPk.getD (nextN xs (k + 2) 4) 0 := ⟨_, rfl⟩
  rw [← elo] at hlo ⊢
  clear elo
  rintro e w3 ⟨rfl, hst3, hg3⟩
  replace hg3 := grown_of_alloc hg3
  have hs3 := hg3.size
  have HS3 := Lib.hid hst3
  have HX3 := Lib.hid ((hg3.block r4 (by omega) (by intro e; injection e with e; omega)).trans HX2.out)
  have HG3 := Lib.hid (grown_trans HG2.out hg3)
  clear hst3 hg3
  go_wp2_with (fail)
  refine (flipD_any w3 p (k + 3) xs 2 (by omega) (by omega) (by omega) HS3.out).mono ?_
  obtain ⟨ab, eab⟩ : ∃ z, z = decide (nextV xs (k + 3) 2 = 0) := ⟨_, rfl⟩
  rw [← eab]
  clear eab
  rintro e w4 ⟨rfl, hst4, hg4⟩
  have hs4 := hg4.size
  have HS4 := Lib.hid hst4
  have HX4 := Lib.hid ((hg4.block r4 (by omega) (by intro e; injection e with e; omega)).trans HX3.out)
  have HG4 := Lib.hid (grown_trans HG3.out hg4)
  clear hst4 hg4
  go_wp2_with (fail)
  refine (pick_any _ p (k + 4) w4.heap.size 4 4 xs lmPk (by omega) rfl (by omega) (by omega) (HS4.out.alloc _) (by omega) (Cells.new _ _ _ _ _ rfl)).mono ?_
  have hon := lmPk_r (nextN xs (k + 4) 4) (nextN_lt _ _ _ (by omega))
  obtain ⟨on, eon⟩ : ∃ z, z = lmPk.getD (nextN xs (k + 4) 4) 0 := ⟨_, rfl⟩
  rw [← eon] at hon ⊢
  clear eon
  rintro e w5 ⟨rfl, hst5, hg5⟩
  replace hg5 := grown_of_alloc hg5
  have hs5 := hg5.size
  have HS5 := Lib.hid hst5
  have HX5 := Lib.hid ((hg5.block r4 (by omega) (by intro e; injection e with e; omega)).trans HX4.out)
  have HG5 := Lib.hid (grown_trans HG4.out hg5)
  clear hst5 hg5
  go_wp2_with (fail)
  refine (pick_any _ p (k + 5) w5.heap.size 4 4 xs hoPk (by omega) rfl (by omega) (by omega) (HS5.out.alloc _) (by omega) (Cells.new _ _ _ _ _ rfl)).mono ?_
  have hho := hoPk_r (nextN xs (k + 5) 4) (nextN_lt _ _ _ (by omega))
  obtain ⟨ho, eho⟩ : ∃ z, z = hoPk.getD (nextN xs (k + 5) 4) 0 := ⟨_, rfl⟩
  rw [← eho] at hho ⊢
  clear eho
  rintro e w6 ⟨rfl, hst6, hg6⟩
  replace hg6 := grown_of_alloc hg6
  have hs6 := hg6.size
  have HS6 := Lib.hid hst6
  have HX6 := Lib.hid ((hg6.block r4 (by omega) (by intro e; injection e with e; omega)).trans HX5.out)
  have HG6 := Lib.hid (grown_trans HG5.out hg6)
  clear hst6 hg6
  go_wp2_with (fail)
  refine (pick_any _ p (k + 6) w6.heap.size 4 4 xs hoPk (by omega) rfl (by omega) (by omega) (HS6.out.alloc _) (by omega) (Cells.new _ _ _ _ _ rfl)).mono ?_
  have hre := hoPk_r (nextN xs (k + 6) 4) (nextN_lt _ _ _ (by omega))
  obtain ⟨re, ere⟩ : ∃ z, z = hoPk.getD (nextN xs (k + 6) 4) 0 := ⟨_, rfl⟩
  rw [← ere] at hre ⊢
  clear ere
  rintro e w7 ⟨rfl, hst7, hg7⟩
  replace hg7 := grown_of_alloc hg7
  have hs7 := hg7.size
  have HS7 := Lib.hid hst7
  have HX7 := Lib.hid ((hg7.block r4 (by omega) (by intro e; injection e with e; omega)).trans HX6.out)
  have HG7 := Lib.hid (grown_trans HG6.out hg7)
  clear hst7 hg7
  go_wp2_with (fail)
  refine (pick_any _ p (k + 7) w7.heap.size 4 4 xs emPk (by omega) rfl (by omega) (by omega) (HS7.out.alloc _) (by omega) (Cells.new _ _ _ _ _ rfl)).mono ?_
  have hem := emPk_r (nextN xs (k + 7) 4) (nextN_lt _ _ _ (by omega))
  obtain ⟨em, eem⟩ : ∃ z, z = emPk.getD (nextN xs (k + 7) 4) 0 := ⟨_, rfl⟩
  rw [← eem] at hem ⊢
  clear eem
  rintro e w8 ⟨rfl, hst8, hg8⟩
  replace hg8 := grown_of_alloc hg8
  have hs8 := hg8.size
  have HS8 := Lib.hid hst8
  have HX8 := Lib.hid ((hg8.block r4 (by omega) (by intro e; injection e with e; omega)).trans HX7.out)
  have HG8 := Lib.hid (grown_trans HG7.out hg8)
  clear hst8 hg8
  go_upto_region 2 with (fail)
  obtain ⟨r5, er5⟩ : ∃ b, b = w8.heap.size := ⟨_, rfl⟩
  obtain ⟨w9, e9⟩ : ∃ V : World, V = w8.alloc (.cells #[.string (rkT kk), .string (meT mt), .int .i64 ag, .int .i64 lo, .bool ab, .int .i64 on, .int .i64 0, .int .i64 ho, .int .i64 re, .int .i64 em] 27) := ⟨_, rfl⟩
  have HS9 := Lib.hid (show Strm w9 p xs (k + 8) from by rw [e9]; exact HS8.out.alloc _)
  have HG9 := Lib.hid (show w.grownBy w9 (some p) from grown_trans HG8.out (by rw [e9]; exact World.grownBy_alloc _ _ (some p)))
  have HX9 := Lib.hid (show w9.heap[r4]? = some (.cells #[.string ⟨#[]⟩, .string ⟨#[]⟩, .int .i64 0, .int .i64 0, .bool false, .int .i64 0, .int .i64 0, .int .i64 0, .int .i64 0, .int .i64 0] 27 (0, 0)) from by rw [e9]; exact (Below.heap_alloc _ _ _ (by omega)).trans HX8.out)
  have HR9 := Lib.hid (show w9.heap[r5]? = some (ruBk ⟨kk, mt, ag, lo, ab, on, 0, ho, re, em⟩) from by rw [e9, er5]; exact heap_new w8 _)
  have hr59 : r5 < w9.heap.size := (Array.getElem?_eq_some_iff.1 HR9.out).1
  have hpr5 : p < r5 := by omega
  have hr45 : r4 < r5 := by omega
  have hpw9 : p < w9.heap.size := by omega
  rw [← er5, ← e9]
  clear er5 e9
  have hdd := ddPk_r (nextN xs (k + 8) 4) (nextN_lt _ _ _ (by omega))
  obtain ⟨dd, edd⟩ : ∃ z, z = ddPk.getD (nextN xs (k + 8) 4) 0 := ⟨_, rfl⟩
  have HDD := Lib.hid edd
  rw [← edd] at hdd
  clear edd
  have hwd : IntKind.i64.wrap (on - dd) = on - dd := by rw [IntKind.wrap_i64]; omega
  go_cut [] (fun wx => KRu w9 p (k + 8) r5 xs ⟨kk, mt, ag, lo, ab, on, 0, ho, re, em⟩ (on - dd) 2 wx)
  case first =>
    refine qRegionSt (KRu w9 p (k + 8) r5 xs ⟨kk, mt, ag, lo, ab, on, 0, ho, re, em⟩ (on - dd))
      [.pointer (some ⟨r5, 5, none⟩), .int .i64 on, .pointer (some ⟨p, 0, none⟩), undef, .int .i64 dd, .int .i64 (on - dd), .pointer (some ⟨r5, 6, none⟩), .tuple #[]]
      [none, none, none, some (.cells #[.int .i64 0, .int .i64 0, .int .i64 2, .int .i64 4] 3, fun b => .slice (some ⟨b, 0, none⟩) 4 4), none, none, none, none]
      [0, 0, 0, 0, 1, 0, 0, 2]
      [2, 1, 2, 2, 2, 2, 2, 2] 2 (by kernel_rfl) (by kernel_rfl) rfl rfl (by rfl) (show KRu w9 p (k + 8) r5 xs ⟨kk, mt, ag, lo, ab, on, 0, ho, re, em⟩ (on - dd) 0 w9.drew from ⟨HS9.out, HR9.out, ⟨rfl, rfl, rfl, Nat.le_refl _, fun _ _ _ => rfl⟩⟩) (fun s w o h => KRu.alloc h o) ?_ ?_
    · simp only [putL, Act.put, List.setIfInBounds_toArray, List.set_cons_zero, List.set_cons_succ]
      refine ⟨?_, ?_, ?_, ?_, ?_, ?_, ?_, ?_, trivial⟩
      · exact OneSt.pure (fun G V => by simp only [putH, Act.put, List.setIfInBounds_toArray, List.set_cons_zero, List.set_cons_succ]; go_simp)
      · exact OneSt.load (fun G s V hK hs => by have hq := ru_cells (KRu.blk hK (by omega)); obtain ⟨c4, c5, c6, f6⟩ := hq; simp only at c4 c5 c6; simp only [putH, Act.put, List.setIfInBounds_toArray, List.set_cons_zero, List.set_cons_succ]; go_simp)
      · exact OneSt.pure (fun G V => by simp only [putH, Act.put, List.setIfInBounds_toArray, List.set_cons_zero, List.set_cons_succ]; go_simp)
      · exact OneSt.lay (fun G V => by simp only [putH, Act.put, List.setIfInBounds_toArray, List.set_cons_zero, List.set_cons_succ]; go_simp)
      · exact OneSt.call (fun G V hK hL => ⟨_, _, by simp only [putH, Act.put, List.setIfInBounds_toArray, List.set_cons_zero, List.set_cons_succ]; go_simp <;> exact ⟨rfl, rfl⟩, by obtain ⟨hg1, hg2⟩ := hL 3 _ _ rfl (by kernel_rfl); exact (by rw [HDD.out]; refine (pick_any V p (k + 8) (G 3) 4 4 xs ddPk (by omega) rfl (by omega) (by omega) hK.1 (by omega) (cells_blkT hg2 rfl)).mono ?_; rintro e w' ⟨rfl, h1, h2⟩; have hc := KRu.call hK h1 h2 hpr5 hpw9; exact ⟨rfl, hc.1, hc.2⟩)⟩)
      · exact OneSt.pure (fun G V => by simp only [putH, Act.put, List.setIfInBounds_toArray, List.set_cons_zero, List.set_cons_succ]; go_simp)
      · exact OneSt.pure (fun G V => by simp only [putH, Act.put, List.setIfInBounds_toArray, List.set_cons_zero, List.set_cons_succ]; go_simp)
      · exact OneSt.store (fun G V hK hL => by have hq := ru_cells (KRu.blk hK (Nat.le_refl _)); obtain ⟨c4, c5, c6, f6⟩ := hq; simp only at c4 c5 c6; have hs := KRu.store hK hpr5 hr59; refine ⟨_, ?_, rfl, hs.1, hs.2⟩; simp only [putH, Act.put, List.setIfInBounds_toArray, List.set_cons_zero, List.set_cons_succ]; go_simp)
    · intro G W7 hK hsz hG
      have HK7 := Lib.hid hK
      clear hK hG
      simp only [putL, putH, Act.put, List.setIfInBounds_toArray, List.set_cons_zero, List.set_cons_succ]
      go_wp2_with (fail)
      go_meet
      exact HK7.out
  case rest =>
  obtain ⟨w10, ew10⟩ : ∃ z, z = wc := ⟨_, rfl⟩
  rw [← ew10] at hcut ⊢
  clear ew10
  obtain ⟨hst10, hx10, wm, hgm, hfm⟩ := hcut
  have HS10 := Lib.hid hst10
  have HR10 := Lib.hid hx10
  have HX10 := Lib.hid ((hfm.block r4 (by have := hgm.size; omega) (by omega)).trans ((hgm.block r4 (by omega) (by intro e; injection e with e; omega)).trans HX9.out))
  have HG10 := Lib.hid (show w.grownBy w10 (some p) from ⟨hfm.os.trans (hgm.os.trans HG9.out.os), hfm.tape.trans (hgm.tape.trans HG9.out.tape), hfm.output.trans (hgm.output.trans HG9.out.output), by have := HG9.out.size; have := hgm.size; have := hfm.size; omega, fun b hb hn => (hfm.block b (by have := HG9.out.size; have := hgm.size; omega) (by omega)).trans ((hgm.block b (by have := HG9.out.size; omega) hn).trans (HG9.out.block b hb hn))⟩)
  have hs10 : w9.heap.size ≤ w10.heap.size := Nat.le_trans hgm.size hfm.size
  clear hst10 hx10 hgm hfm
  obtain ⟨c4, c5, c6, f6⟩ := ru_cells HR10.out
  simp only at c4 c5 c6
  have hr510 : r5 < w10.heap.size := by omega
  have hr410 : r4 < w10.heap.size := by omega
  go_upto_if 39 with (fail)
  go_cut [] (fun wx => ∃ f, Strm wx p xs (k + 9) ∧ wx.heap[r5]? = some (ruBk ⟨kk, mt, ag, lo, ab, on, f, ho, re, em⟩) ∧ (ab = true → f = on - dd) ∧ (ab = false → f = on + dd) ∧ wx.heap[r4]? = some (.cells #[.string ⟨#[]⟩, .string ⟨#[]⟩, .int .i64 0, .int .i64 0, .bool false, .int .i64 0, .int .i64 0, .int .i64 0, .int .i64 0, .int .i64 0] 27 (0, 0)) ∧ w.grownBy wx (some p))
  case first =>
    cases ab with
    | true =>
      go_wp2_with (fail)
      go_meet
      exact ⟨_, HS10.out, HR10.out, fun _ => rfl, fun h => absurd h (by decide), HX10.out, HG10.out⟩
    | false =>
      have hw2 : IntKind.i64.wrap (2 * on) = 2 * on := by rw [IntKind.wrap_i64]; omega
      have hw3 : IntKind.i64.wrap (2 * on - (on - dd)) = 2 * on - (on - dd) := by rw [IntKind.wrap_i64]; omega
      have HR11 := Lib.hid (show (w10.setCell ⟨r5, 6, none⟩ (.int .i64 (2 * on - (on - dd)))).heap[r5]? = some (ruBk ⟨kk, mt, ag, lo, false, on, 2 * on - (on - dd), ho, re, em⟩) from by
        have := HR10.out
        unfold ruBk at this ⊢
        rw [heap_setCell_blk _ this]
        rfl)
      have HSET := Lib.hid (fun b (hb : b ≠ r5) => show (w10.setCell ⟨r5, 6, none⟩ (.int .i64 (2 * on - (on - dd)))).heap[b]? = w10.heap[b]? from Below.heap_setCell _ _ _ _ hb)
      have hwg := HG10.out.size
      go_wp2_with (fail)
      go_meet
      refine ⟨2 * on - (on - dd), HS10.out.keep fun b hb => HSET.out b (by omega), HR11.out, fun h => absurd h (by decide), fun _ => by omega, (HSET.out r4 (by omega)).trans HX10.out, ⟨HG10.out.os, HG10.out.tape, HG10.out.output, by simp [World.setCell]; exact hwg, fun b hb hn => (HSET.out b (by omega)).trans (HG10.out.block b hb hn)⟩⟩
  case rest =>
  obtain ⟨f, hst, hx5, hf1, hf2, hx4, hgw⟩ := hcut
  obtain ⟨w11, ew11⟩ : ∃ z, z = wc := ⟨_, rfl⟩
  rw [← ew11] at hst hx5 hx4 hgw ⊢
  clear ew11 c4 c5 c6 f6 hr510 hr410
  have HS11 := Lib.hid hst
  have HX5 := Lib.hid hx5
  have HX4 := Lib.hid hx4
  have HG11 := Lib.hid hgw
  have HF := Lib.hid (And.intro hf1 hf2)
  have p0 : w11.cell? ⟨r5, 0, none⟩ = some (.string (rkT kk)) := cell_of_blk (j := 0) hx5 rfl
  have p1 : w11.cell? ⟨r5, 1, none⟩ = some (.string (meT mt)) := cell_of_blk (j := 1) hx5 rfl
  have p2 : w11.cell? ⟨r5, 2, none⟩ = some (.int .i64 ag) := cell_of_blk (j := 2) hx5 rfl
  have p3 : w11.cell? ⟨r5, 3, none⟩ = some (.int .i64 lo) := cell_of_blk (j := 3) hx5 rfl
  have p4 : w11.cell? ⟨r5, 4, none⟩ = some (.bool ab) := cell_of_blk (j := 4) hx5 rfl
  have p5 : w11.cell? ⟨r5, 5, none⟩ = some (.int .i64 on) := cell_of_blk (j := 5) hx5 rfl
  have p6 : w11.cell? ⟨r5, 6, none⟩ = some (.int .i64 f) := cell_of_blk (j := 6) hx5 rfl
  have p7 : w11.cell? ⟨r5, 7, none⟩ = some (.int .i64 ho) := cell_of_blk (j := 7) hx5 rfl
  have p8 : w11.cell? ⟨r5, 8, none⟩ = some (.int .i64 re) := cell_of_blk (j := 8) hx5 rfl
  have p9 : w11.cell? ⟨r5, 9, none⟩ = some (.int .i64 em) := cell_of_blk (j := 9) hx5 rfl
  have z0 : w11.cell? ⟨r4, 0, none⟩ = some (.string ⟨#[]⟩) := cell_of_blk (j := 0) hx4 rfl
  have z1 : w11.cell? ⟨r4, 1, none⟩ = some (.string ⟨#[]⟩) := cell_of_blk (j := 1) hx4 rfl
  have z2 : w11.cell? ⟨r4, 2, none⟩ = some (.int .i64 0) := cell_of_blk (j := 2) hx4 rfl
  have z3 : w11.cell? ⟨r4, 3, none⟩ = some (.int .i64 0) := cell_of_blk (j := 3) hx4 rfl
  have z4 : w11.cell? ⟨r4, 4, none⟩ = some (.bool false) := cell_of_blk (j := 4) hx4 rfl
  have z5 : w11.cell? ⟨r4, 5, none⟩ = some (.int .i64 0) := cell_of_blk (j := 5) hx4 rfl
  have z6 : w11.cell? ⟨r4, 6, none⟩ = some (.int .i64 0) := cell_of_blk (j := 6) hx4 rfl
  have z7 : w11.cell? ⟨r4, 7, none⟩ = some (.int .i64 0) := cell_of_blk (j := 7) hx4 rfl
  have z8 : w11.cell? ⟨r4, 8, none⟩ = some (.int .i64 0) := cell_of_blk (j := 8) hx4 rfl
  have z9 : w11.cell? ⟨r4, 9, none⟩ = some (.int .i64 0) := cell_of_blk (j := 9) hx4 rfl
  have f0 : w11.frozen? ⟨r4, 0, none⟩ = false := by simp [World.frozen?, hx4]
  have f1 : w11.frozen? ⟨r4, 1, none⟩ = false := by simp [World.frozen?, hx4]
  have f2 : w11.frozen? ⟨r4, 2, none⟩ = false := by simp [World.frozen?, hx4]
  have f3 : w11.frozen? ⟨r4, 3, none⟩ = false := by simp [World.frozen?, hx4]
  have f4 : w11.frozen? ⟨r4, 4, none⟩ = false := by simp [World.frozen?, hx4]
  have f5 : w11.frozen? ⟨r4, 5, none⟩ = false := by simp [World.frozen?, hx4]
  have f6 : w11.frozen? ⟨r4, 6, none⟩ = false := by simp [World.frozen?, hx4]
  have f7 : w11.frozen? ⟨r4, 7, none⟩ = false := by simp [World.frozen?, hx4]
  have f8 : w11.frozen? ⟨r4, 8, none⟩ = false := by simp [World.frozen?, hx4]
  have f9 : w11.frozen? ⟨r4, 9, none⟩ = false := by simp [World.frozen?, hx4]
  have hr511 : r5 < w11.heap.size := (Array.getElem?_eq_some_iff.1 hx5).1
  have hr411 : r4 < w11.heap.size := (Array.getElem?_eq_some_iff.1 hx4).1
  clear hst hx5 hx4 hgw hf1 hf2
  go_wp2_with (fail)
  obtain ⟨w12, e12⟩ : ∃ z, z = ((((((((((w11.setCell ⟨r4, 0, none⟩ (.string (rkT kk))).setCell ⟨r4, 1, none⟩ (.string (meT mt))).setCell ⟨r4, 2, none⟩ (.int .i64 ag)).setCell ⟨r4, 3, none⟩ (.int .i64 lo)).setCell ⟨r4, 4, none⟩ (.bool ab)).setCell ⟨r4, 5, none⟩ (.int .i64 on)).setCell ⟨r4, 6, none⟩ (.int .i64 f)).setCell ⟨r4, 7, none⟩ (.int .i64 ho)).setCell ⟨r4, 8, none⟩ (.int .i64 re)).setCell ⟨r4, 9, none⟩ (.int .i64 em)) := ⟨_, rfl⟩
  obtain ⟨hg12, hset, hsz, ho1, ho2, ho3⟩ := set10 w11 r4 27 _ _ _ _ _ _ _ _ _ _ _ _ _ _ _ _ _ _ _ _ HX4.out w12 e12
  have HG12 := Lib.hid (show w12.heap[r4]? = some (ruBk ⟨kk, mt, ag, lo, ab, on, f, ho, re, em⟩) from hg12)
  have HST := Lib.hid (show Strm w12 p xs (k + 9) from HS11.out.keep fun b hb => hset b (by omega))
  have HGW := Lib.hid (show w.grownBy w12 (some p) from ⟨ho1.trans HG11.out.os, ho2.trans HG11.out.tape, ho3.trans HG11.out.output, by rw [hsz]; exact HG11.out.size, fun b hb hn => (hset b (by omega)).trans (HG11.out.block b hb hn)⟩)
  clear ho1 ho2 ho3
  rw [← e12]
  clear e12 hset hsz z0 z1 z2 z3 z4 z5 z6 z7 z8 z9 p0 p1 p2 p3 p4 p5 p6 p7 p8 p9 f0 f1 f2 f3 f4 f5 f6 f7 f8 f9 hg12
  have p0 : w12.cell? ⟨r4, 0, none⟩ = some (.string (rkT kk)) := cell_of_blk (j := 0) HG12.out rfl
  have p1 : w12.cell? ⟨r4, 1, none⟩ = some (.string (meT mt)) := cell_of_blk (j := 1) HG12.out rfl
  have p2 : w12.cell? ⟨r4, 2, none⟩ = some (.int .i64 ag) := cell_of_blk (j := 2) HG12.out rfl
  have p3 : w12.cell? ⟨r4, 3, none⟩ = some (.int .i64 lo) := cell_of_blk (j := 3) HG12.out rfl
  have p4 : w12.cell? ⟨r4, 4, none⟩ = some (.bool ab) := cell_of_blk (j := 4) HG12.out rfl
  have p5 : w12.cell? ⟨r4, 5, none⟩ = some (.int .i64 on) := cell_of_blk (j := 5) HG12.out rfl
  have p6 : w12.cell? ⟨r4, 6, none⟩ = some (.int .i64 f) := cell_of_blk (j := 6) HG12.out rfl
  have p7 : w12.cell? ⟨r4, 7, none⟩ = some (.int .i64 ho) := cell_of_blk (j := 7) HG12.out rfl
  have p8 : w12.cell? ⟨r4, 8, none⟩ = some (.int .i64 re) := cell_of_blk (j := 8) HG12.out rfl
  have p9 : w12.cell? ⟨r4, 9, none⟩ = some (.int .i64 em) := cell_of_blk (j := 9) HG12.out rfl
  have hr412 : r4 < w12.heap.size := (Array.getElem?_eq_some_iff.1 HG12.out).1
  have HRR := Lib.hid (show RuR ⟨kk, mt, ag, lo, ab, on, f, ho, re, em⟩ ∧ RuNear ⟨kk, mt, ag, lo, ab, on, f, ho, re, em⟩ from by
    have h1 := HF.out.1
    have h2 := HF.out.2
    cases ab with
    | true =>
      have := h1 rfl
      refine ⟨⟨hkk, hmt2, hag2, ⟨by show 1 ≤ lo; omega, by show lo ≤ _; omega⟩, ⟨by show _ ≤ on; omega, by show on ≤ _; omega⟩, ⟨by show _ ≤ f; omega, by show f ≤ _; omega⟩, fun _ => (by show f ≤ on; omega), fun h => (by cases h), ⟨by show 0 ≤ ho; omega, by show ho ≤ _; omega⟩, ⟨by show 0 ≤ re; omega, by show re ≤ _; omega⟩, ⟨by show 0 ≤ em; omega, by show em ≤ 2; omega⟩⟩, ⟨by show _ ≤ on; omega, by show on ≤ _; omega, by show _ ≤ f; omega, by show f ≤ _; omega⟩⟩
    | false =>
      have := h2 rfl
      refine ⟨⟨hkk, hmt2, hag2, ⟨by show 1 ≤ lo; omega, by show lo ≤ _; omega⟩, ⟨by show _ ≤ on; omega, by show on ≤ _; omega⟩, ⟨by show _ ≤ f; omega, by show f ≤ _; omega⟩, fun h => (by cases h), fun _ => (by show on ≤ f; omega), ⟨by show 0 ≤ ho; omega, by show ho ≤ _; omega⟩, ⟨by show 0 ≤ re; omega, by show re ≤ _; omega⟩, ⟨by show 0 ≤ em; omega, by show em ≤ 2; omega⟩⟩, ⟨by show _ ≤ on; omega, by show on ≤ _; omega, by show _ ≤ f; omega, by show f ≤ _; omega⟩⟩)
  refine bodyPost_ret (v := ruV ⟨kk, mt, ag, lo, ab, on, f, ho, re, em⟩) (by simp [results, Tryz.results7, go_sem, ruV, p0, p1, p2, p3, p4, p5, p6, p7, p8, p9]) rfl ⟨_, k + 9, rfl, HRR.out, rfl, HST.out, by omega, HGW.out⟩
theorem rightRule_any (kk : Nat) (w : World) (p k : Nat) (xs : List Int) (hkk : kk < 2) (hk : k < 100000) (hs : Strm w p xs k) :
    Calls Tryz.prog 7 #[.pointer (some ⟨p, 0, none⟩), .string (rkT kk)] w fun e w' => RuPost w p k xs kk e w' := by
  refine (rightRule_near kk w p k xs hkk hk hs).mono ?_
  rintro e w' ⟨r, k', h1, h2, h3⟩
  exact ⟨r, k', h1, h2.1, h3⟩
end Go.Proofs.YtlfphndnkgoinaaGreatDoor
