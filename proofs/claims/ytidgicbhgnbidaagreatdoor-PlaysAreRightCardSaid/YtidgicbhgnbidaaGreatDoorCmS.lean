/- Stands: how one device stands, by its contract. -/
import Derived.Test.YtidgicbhgnbidaaGreatDoorCmC
namespace Go.Proofs.YtidgicbhgnbidaaGreatDoor
open Go.RowKit

theorem dvT_beq {i j : Nat} (hi : i < 6) (hj : j < 6) : (dvT i == dvT j) = decide (i = j) ∧ ((dvT i).toList == (dvT j).toList) = decide (i = j) := by
  rcases six_ofD hi with h | h | h | h | h | h <;> subst h <;> rcases six_ofD hj with h | h | h | h | h | h <;> subst h <;> exact ⟨by decide +kernel, by decide +kernel⟩
/-- A mark that is this device's, and in time. -/
def myV (C : Cm) (k : Nat) (t : Int) (m : Mk) : Bool := decide (m.d = k) && (decide (C.at_ ≤ m.at_) && decide (m.at_ ≤ t))
def stF (C : Cm) (k : Nat) (t : Int) (x : Cu) (m : Mk) : Cu := if myV C k t m then foV x m else x
def stV (C : Cm) (d : Dv) (t : Int) (l : List Mk) : Cu := l.foldl (stF C d.k t) (cu0 d)
theorem stF_ok {C : Cm} {k : Nat} {t : Int} {x : Cu} {m : Mk} {n : Nat} (h : CuOk x n) (hm : MkOk m) : CuOk (stF C k t x m) (n + 1) := by
  unfold stF
  split
  · exact h.fo hm
  · exact h.mono (by omega)
theorem stV_snoc {C : Cm} {d : Dv} {t : Int} {l : List Mk} {k : Nat} {m : Mk} (h : l[k]? = some m) : stV C d t (l.take (k + 1)) = stF C d.k t (stV C d t (l.take k)) m := by
  unfold stV
  rw [List.take_add_one, h, List.foldl_append]
  rfl
theorem stV_ok {C : Cm} {d : Dv} {t : Int} (hd : DvOk d) : ∀ (l : List Mk), (∀ m ∈ l, MkOk m) → CuOk (stV C d t l) l.length := by
  intro l hl
  have key : ∀ (l : List Mk) (x : Cu) (n : Nat), CuOk x n → (∀ m ∈ l, MkOk m) → CuOk (l.foldl (stF C d.k t) x) (n + l.length) := by
    intro l
    induction l with
    | nil => intro x n h _; exact h
    | cons m l ih =>
      intro x n h hm
      have := ih (stF C d.k t x m) (n + 1) (stF_ok h (hm m List.mem_cons_self)) (fun y hy => hm y (List.mem_cons_of_mem _ hy))
      rw [List.length_cons, show n + (l.length + 1) = n + 1 + l.length by omega]
      exact this
  have := key l (cu0 d) 0 (cu0_ok hd) hl
  rw [Nat.zero_add] at this
  exact this
def sdV (x : Cu) : Value := .agg #[.int .i64 x.kd, .int .i64 x.si, .int .i64 x.v.a, .int .i64 x.v.b, .int .i64 x.v.c, .int .i64 x.f]
theorem sd_set6 {w : World} {g : Nat} {a b c d e f : Value} (a' b' c' d' e' f' : Value) (h : w.heap[g]? = some (.cells #[a, b, c, d, e, f] 78 (0, 0))) :
    ((((((w.setCell ⟨g, 0, none⟩ a').setCell ⟨g, 1, none⟩ b').setCell ⟨g, 2, none⟩ c').setCell ⟨g, 3, none⟩ d').setCell ⟨g, 4, none⟩ e').setCell ⟨g, 5, none⟩ f').heap[g]? = some (.cells #[a', b', c', d', e', f'] 78 (0, 0)) := by
  have h0 := (setblkV (j := 0) a' h).trans rfl
  have h1 := (setblkV (j := 1) b' h0).trans rfl
  have h2 := (setblkV (j := 2) c' h1).trans rfl
  have h3 := (setblkV (j := 3) d' h2).trans rfl
  have h4 := (setblkV (j := 4) e' h3).trans rfl
  exact (setblkV (j := 5) f' h4).trans rfl
theorem sd_below {B : Nat} {u w : World} {g : Nat} (hb : Below B u w) (hg : B ≤ g) (a' b' c' d' e' f' : Value) : Below B u ((((((w.setCell ⟨g, 0, none⟩ a').setCell ⟨g, 1, none⟩ b').setCell ⟨g, 2, none⟩ c').setCell ⟨g, 3, none⟩ d').setCell ⟨g, 4, none⟩ e').setCell ⟨g, 5, none⟩ f') :=
  (((((hb.setCell hg _).setCell hg _).setCell hg _).setCell hg _).setCell hg _).setCell hg _
set_option maxRecDepth 100000 in
set_option maxHeartbeats 4000000 in
theorem stands_any (C : Cm) (d : Dv) (l : List Mk) (n c : Nat) (A : Option Addr) (t : Int) (w : World) (hC : CmOk C) (hd : DvOk d) (hl : MksOk l) (hn : l.length = n) (ht : 0 ≤ t ∧ t ≤ 1000000)
    (hw : Row w w.heap.size C.wa (recs wvC C.ws)) (hr : Row w w.heap.size A (recs mkC l)) :
    Calls Tryz.prog 29 #[cmV C, dvW d, .slice A n c, .int .i64 t] w fun e w' => e = .returned (.tuple #[sdV (stV C d t l), .int .i64 0]) ∧ Below w.heap.size w w' := by
  obtain ⟨g4, eg4⟩ : ∃ g, g = w.heap.size := ⟨_, rfl⟩
  obtain ⟨g5, eg5⟩ : ∃ g, g = w.heap.size + 1 := ⟨_, rfl⟩
  obtain ⟨g8, eg8⟩ : ∃ g, g = w.heap.size + 1 + 1 := ⟨_, rfl⟩
  obtain ⟨w0, e0⟩ : ∃ V : World, V = ((w.alloc (cmB C)).alloc (dvB d)).alloc (.cells #[.int .i64 0, .int .i64 0, .int .i64 0, .int .i64 0, .int .i64 0, .int .i64 0] 78) := ⟨_, rfl⟩
  have hb0 : Below w.heap.size w w0 := by rw [e0]; exact ((((Below.refl _ _).alloc (Nat.le_refl _) _).alloc (by simp) _).alloc (by simp; omega) _)
  have hg4 : w0.heap[g4]? = some (cmB C) := by rw [e0, eg4, Below.heap_alloc _ _ _ (by simp; omega), Below.heap_alloc _ _ _ (by simp)]; exact heap_new w _
  have hg5 : w0.heap[g5]? = some (dvB d) := by rw [e0, eg5, Below.heap_alloc _ _ _ (by simp)]; have := heap_new (w.alloc (cmB C)) (dvB d); simpa using this
  have hg8 : w0.heap[g8]? = some (.cells #[.int .i64 0, .int .i64 0, .int .i64 0, .int .i64 0, .int .i64 0, .int .i64 0] 78 (0, 0)) := by
    rw [e0, eg8]; have := heap_new ((w.alloc (cmB C)).alloc (dvB d)) (.cells #[.int .i64 0, .int .i64 0, .int .i64 0, .int .i64 0, .int .i64 0, .int .i64 0] 78); simpa using this
  have hl4 := (Array.getElem?_eq_some_iff.1 hg4).1
  have hl5 := (Array.getElem?_eq_some_iff.1 hg5).1
  have hl8 := (Array.getElem?_eq_some_iff.1 hg8).1
  have hw4 : w.heap.size ≤ g4 ∧ g4 < g5 ∧ g5 < g8 := by omega
  have HB0 := Lib.hid hb0
  have HG4 := Lib.hid hg4
  have HG5 := Lib.hid hg5
  have HG8 := Lib.hid hg8
  have HL := Lib.hid hl
  have HD := Lib.hid hd
  have HN := Lib.hid hn
  have hn14 : n ≤ 14 := by rw [← hn]; exact hl.n
  obtain ⟨w1, e1⟩ : ∃ V : World, V = w0.alloc (.cells #[.string (dvT d.k), .string (mdT d.md), .string tnT, .int .i64 d.fw.a, .int .i64 d.fw.b, .int .i64 d.fw.c, .slice none 0 0] 67) := ⟨_, rfl⟩
  have hb1 : Below w0.heap.size w0 w1 := by rw [e1]; exact (Below.refl _ _).alloc (Nat.le_refl _) _
  have hb01 : Below w.heap.size w w1 := hb0.trans (hb1.mono hb0.size)
  have hrd : Row w1 w1.heap.size (some ⟨w0.heap.size, 0, none⟩) (recs dvC [d]) := .inr ⟨w0.heap.size, 0, rfl, by rw [e1]; simp, by
    rw [e1]
    exact Cells.new _ _ _ _ _ rfl⟩
  have HFA := Lib.hid (fault_any C [d] l g4 1 1 n c (some ⟨w0.heap.size, 0, none⟩) A t w1 hC ⟨by simp, by intro x hx; rw [List.mem_singleton] at hx; rw [hx]; exact hd, List.pairwise_singleton _ _⟩ hl rfl hn ht ((hb1.block g4 hl4).trans hg4) ((hw.below hb01).mono hb01.size) hrd ((hr.below hb01).mono hb01.size))
  have HR := Lib.hid hr
  have HB01 := Lib.hid hb1
  have p0 := cell_of_blk (j := 0) hg5 rfl
  have p1 := cell_of_blk (j := 1) hg5 rfl
  have p2 := cell_of_blk (j := 2) hg5 rfl
  have p3 := cell_of_blk (j := 3) hg5 rfl
  have p4 := cell_of_blk (j := 4) hg5 rfl
  have p5 := cell_of_blk (j := 5) hg5 rfl
  have p6 := cell_of_blk (j := 6) hg5 rfl
  unfold cmB dvB at e0
  unfold cmV dvW
  clear hb0 hg4 hg5 hg8 hC hd hl hn hb1 hb01 hrd hw hr
  go_enter Tryz.func29, Tryz.ntmps29
  go_upto_region 1 with (fail)
  rw [← eg8, ← eg5, ← eg4, ← e0]
  clear e0 eg4 eg5 eg8
  go_wp2_with (fail)
  rw [← e1]
  clear e1
  refine HFA.out.mono ?_
  rintro e w2 ⟨rfl, hb2⟩
  have HB2 := Lib.hid (HB01.out.trans (hb2.mono HB01.out.size))
  have hg5 := (HB2.out.block g5 hl5).trans HG5.out
  have hl52 := (Array.getElem?_eq_some_iff.1 hg5).1
  clear p0 p1 p2 p3 p4 p5 p6 hb2 HFA
  have p3 := cell_of_blk (j := 3) hg5 rfl
  have p4 := cell_of_blk (j := 4) hg5 rfl
  have p5 := cell_of_blk (j := 5) hg5 rfl
  clear hg5
  go_upto_region 5 with (fail)
  obtain ⟨gx, egx⟩ : ∃ y, y = w2.heap.size := ⟨_, rfl⟩
  obtain ⟨w3, e3⟩ : ∃ V : World, V = w2.alloc (.cells #[.int .i64 0, .int .i64 0, .int .i64 d.fw.a, .int .i64 d.fw.b, .int .i64 d.fw.c, .int .i64 0, .int .i64 0, .int .i64 0, .int .i64 0] 168) := ⟨_, rfl⟩
  have hb3 : Below w2.heap.size w2 w3 := by rw [e3]; exact (Below.refl _ _).alloc (Nat.le_refl _) _
  have hx3 : w3.heap[gx]? = some (cuB (cu0 d)) := by rw [e3, egx]; exact heap_new w2 _
  rw [← egx, ← e3]
  have HB3 := Lib.hid (HB2.out.trans (hb3.mono HB2.out.size))
  have hs2 := HB2.out.size
  have hgx0 : w0.heap.size ≤ gx := by omega
  have HX3 := Lib.hid (And.intro hx3 (show Below gx w2 w3 from egx ▸ hb3))
  have HEGX := Lib.hid egx
  have hgxs : gx < w3.heap.size := (Array.getElem?_eq_some_iff.1 hx3).1
  have HOKL := Lib.hid (fun k => stV_ok (C := C) (t := t) HD.out (l.take k) (fun m hm => HL.out.ok m (List.mem_of_mem_take hm)))
  clear e3 hb3 hx3 p3 p4 p5 egx hl52
  go_wp2_with (fail)
  go_loopw [30] (fun i wr => ∃ k : Nat, k ≤ n ∧ i = .int .i64 (k : Int) ∧ Hid (wr.heap[gx]? = some (cuB (stV C d t (l.take k))) ∧ Below gx w3 wr)) (fun i _ => n - (intOf i).toNat)
  case atStart => exact ⟨0, Nat.zero_le _, rfl, Lib.hid ⟨HX3.out.1, Below.refl _ _⟩⟩
  case round =>
    obtain ⟨k, hk, rfl, HQ⟩ := hrel
    have hsr := HQ.out.2.size
    have HBR := Lib.hid (HB3.out.trans ((HQ.out.2).mono hgx0))
    have hg4 := (HBR.out.block g4 hl4).trans HG4.out
    have hg5 := (HBR.out.block g5 hl5).trans HG5.out
    have hg8 := (HBR.out.block g8 hl8).trans HG8.out
    by_cases hlt : k < n
    · have hltI : (k : Int) < (n : Int) := by omega
      obtain ⟨m, hm⟩ : ∃ m, l[k]? = some m := ⟨_, List.getElem?_eq_getElem (by have := HN.out; omega)⟩
      have HMO := Lib.hid (HL.out.ok m (List.mem_of_getElem? hm))
      obtain ⟨b, o, rfl, hbw, hCl⟩ := (HR.out.below (HB0.out.trans (HBR.out.mono HB0.out.size))).posR mkC_len (by omega) (by have := HN.out; omega)
      have hbr : b < wr.heap.size := by have := HB0.out.size; have := HBR.out.size; omega
      have e0 : wr.cell? ⟨b, o + k * 6, none⟩ = some (.int .i64 m.at_) := rec_cell mkC_len hCl k m hm 0 _ rfl
      have e1 := rec_cell mkC_len hCl k m hm 1 _ rfl
      have e2 := rec_cell mkC_len hCl k m hm 2 _ rfl
      have e3 := rec_cell mkC_len hCl k m hm 3 _ rfl
      have e4 := rec_cell mkC_len hCl k m hm 4 _ rfl
      have e5 := rec_cell mkC_len hCl k m hm 5 _ rfl
      have HM := Lib.hid (show stV C d t (l.take (k + 1)) = stF C d.k t (stV C d t (l.take k)) m from stV_snoc hm)
      clear hCl hm
      go_upto_region 8 with (fail)
      obtain ⟨gm, egm⟩ : ∃ y, y = wr.heap.size := ⟨_, rfl⟩
      obtain ⟨w5, ew5⟩ : ∃ V : World, V = wr.alloc (.cells #[.int .i64 m.at_, .string (dvT m.d), .int .i64 m.kd, .int .i64 m.v.a, .int .i64 m.v.b, .int .i64 m.v.c] 64) := ⟨_, rfl⟩
      have hb5 : Below wr.heap.size wr w5 := by rw [ew5]; exact (Below.refl _ _).alloc (Nat.le_refl _) _
      have hm5 : w5.heap[gm]? = some (mkB m) := by rw [ew5, egm]; exact heap_new wr _
      rw [← egm, ← ew5]
      have hlx := (Array.getElem?_eq_some_iff.1 HQ.out.1).1
      have hx5 := (hb5.block gx hlx).trans HQ.out.1
      have hlr4 := (Array.getElem?_eq_some_iff.1 hg4).1
      have hlr5 := (Array.getElem?_eq_some_iff.1 hg5).1
      have hg45 := (hb5.block g4 hlr4).trans hg4
      have hg55 := (hb5.block g5 hlr5).trans hg5
      have q4 := cell_of_blk (j := 4) hg45 rfl
      have p0 := cell_of_blk (j := 0) hg55 rfl
      have m0 := cell_of_blk (j := 0) hm5 rfl
      have m1 := cell_of_blk (j := 1) hm5 rfl
      have m2 := cell_of_blk (j := 2) hm5 rfl
      have m3 := cell_of_blk (j := 3) hm5 rfl
      have m4 := cell_of_blk (j := 4) hm5 rfl
      have m5 := cell_of_blk (j := 5) hm5 rfl
      have hl45 := (Array.getElem?_eq_some_iff.1 hg45).1
      have hl55 := (Array.getElem?_eq_some_iff.1 hg55).1
      have hl5m := (Array.getElem?_eq_some_iff.1 hm5).1
      have HX5 := Lib.hid hx5
      have HB5 := Lib.hid ((HQ.out.2).trans (hb5.mono (by omega)))
      obtain ⟨kd1, kd2⟩ := dvT_beq HMO.out.d HD.out.k
      clear egm ew5 hb5 hm5 hx5 hg45 hg55 hg4 hg5 hg8 e0 e1 e2 e3 e4 e5 hlr4 hlr5 hbr
      cases hmy : myV C d.k t m with
      | true =>
        have HFO := Lib.hid (follow_any (stV C d t (l.take k)) m ((l.take k).length) gx w5 (by rw [List.length_take]; omega) (HOKL.out k) HMO.out HX5.out)
        unfold mkW at HFO
        have HNX := Lib.hid (show foV (stV C d t (l.take k)) m = stV C d t (l.take (k + 1)) from by rw [HM.out]; unfold stF; rw [hmy]; rfl)
        unfold myV at hmy
        simp only [Bool.and_eq_true, decide_eq_true_eq] at hmy
        obtain ⟨y1, y2, y3⟩ := hmy
        rw [decide_eq_true y1] at kd1 kd2
        clear y1
        go_wp2_with (fail)
        refine HFO.out.mono ?_
        rintro e w6 ⟨rfl, hx6, hg6⟩
        have HQ6 := Lib.hid (show w6.heap[gx]? = some (cuB (stV C d t (l.take (k + 1)))) ∧ Below gx w3 w6 from ⟨by rw [← HNX.out]; exact hx6, HB5.out.grown hg6 (by have := HB5.out.size; omega) (fun q hq => by cases hq; exact Nat.le_refl _)⟩)
        clear hx6 hg6 HFO
        go_wp2_with (fail)
        go_roundw
        case rel => exact ⟨k + 1, by omega, by go_num, HQ6⟩
        case measure => simp [intOf]; omega
      | false =>
        have HQ6 := Lib.hid (show w5.heap[gx]? = some (cuB (stV C d t (l.take (k + 1)))) ∧ Below gx w3 w5 from ⟨by rw [HM.out]; unfold stF; rw [hmy]; exact HX5.out, HB5.out⟩)
        unfold myV at hmy
        by_cases y1 : m.d = d.k
        · rw [decide_eq_true y1] at kd1 kd2 hmy
          clear y1
          by_cases y2 : C.at_ ≤ m.at_
          · have y3 : ¬ m.at_ ≤ t := fun h => by rw [decide_eq_true y2, decide_eq_true h] at hmy; cases hmy
            go_wp2_with (fail)
            go_roundw
            case rel => exact ⟨k + 1, by omega, by go_num, HQ6⟩
            case measure => simp [intOf]; omega
          · go_wp2_with (fail)
            go_roundw
            case rel => exact ⟨k + 1, by omega, by go_num, HQ6⟩
            case measure => simp [intOf]; omega
        · rw [decide_eq_false y1] at kd1 kd2
          go_wp2_with (fail)
          go_roundw
          case rel => exact ⟨k + 1, by omega, by go_num, HQ6⟩
          case measure => simp [intOf]; omega
    · have hltI : ¬ (k : Int) < (n : Int) := by omega
      have hxr : wr.heap[gx]? = some (cuB (stV C d t l)) := by
        have := HQ.out.1
        rw [List.take_of_length_le (by have := HN.out; omega)] at this
        exact this
      obtain ⟨y, ey⟩ : ∃ y, y = stV C d t l := ⟨_, rfl⟩
      rw [← ey] at hxr
      have HEY := Lib.hid ey
      have HSET := Lib.hid (sd_set6 (.int .i64 y.kd) (.int .i64 y.si) (.int .i64 y.v.a) (.int .i64 y.v.b) (.int .i64 y.v.c) (.int .i64 y.f) hg8)
      have hbw := HB0.out.trans (HBR.out.mono HB0.out.size)
      have HBF := Lib.hid (sd_below hbw (show w.heap.size ≤ g8 by omega) (.int .i64 y.kd) (.int .i64 y.si) (.int .i64 y.v.a) (.int .i64 y.v.b) (.int .i64 y.v.c) (.int .i64 y.f))
      have x0 := cell_of_blk (j := 0) hxr rfl
      have x1 := cell_of_blk (j := 1) hxr rfl
      have x2 := cell_of_blk (j := 2) hxr rfl
      have x3 := cell_of_blk (j := 3) hxr rfl
      have x4 := cell_of_blk (j := 4) hxr rfl
      have x5 := cell_of_blk (j := 5) hxr rfl
      have s0 := cell_of_blk (j := 0) hg8 rfl
      have s1 := cell_of_blk (j := 1) hg8 rfl
      have s2 := cell_of_blk (j := 2) hg8 rfl
      have s3 := cell_of_blk (j := 3) hg8 rfl
      have s4 := cell_of_blk (j := 4) hg8 rfl
      have s5 := cell_of_blk (j := 5) hg8 rfl
      have fr : ∀ j, wr.frozen? ⟨g8, j, none⟩ = false := by intro j; simp [World.frozen?, hg8]
      have f0 := fr 0
      have f1 := fr 1
      have f2 := fr 2
      have f3 := fr 3
      have f4 := fr 4
      have f5 := fr 5
      have hlx := (Array.getElem?_eq_some_iff.1 hxr).1
      have hlg := (Array.getElem?_eq_some_iff.1 hg8).1
      clear fr hxr hg8 hg4 hg5 hbw ey
      go_wp2_with (fail)
      have r0 := cell_of_blk (j := 0) HSET.out rfl
      have r1 := cell_of_blk (j := 1) HSET.out rfl
      have r2 := cell_of_blk (j := 2) HSET.out rfl
      have r3 := cell_of_blk (j := 3) HSET.out rfl
      have r4 := cell_of_blk (j := 4) HSET.out rfl
      have r5 := cell_of_blk (j := 5) HSET.out rfl
      refine bodyPost_ret (v := .tuple #[.agg #[.int .i64 y.kd, .int .i64 y.si, .int .i64 y.v.a, .int .i64 y.v.b, .int .i64 y.v.c, .int .i64 y.f], .int .i64 0]) (by simp [results, Tryz.results29, go_sem, r0, r1, r2, r3, r4, r5]) rfl ?_
      exact ⟨by rw [← HEY.out]; rfl, HBF.out⟩
end Go.Proofs.YtidgicbhgnbidaaGreatDoor
