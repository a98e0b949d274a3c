/- Fences: place.edges and place.where by their contracts. -/
import Derived.Test.YthplhibdapjjgaaGreatDoorFeA
import Derived.Test.YthplhibdapjjgaaGreatDoorMgC
import Derived.BigRegion
import Derived.Deep.DeepCutAuto
namespace Go.Proofs.YthplhibdapjjgaaGreatDoor
open Go.RowKit

theorem pt_cells {w : World} {b o : Nat} {l : List Pt} (h : Cells w b o (recs ptC l)) (k : Nat) (x : Pt) (hx : l[k]? = some x) :
    w.cell? ⟨b, o + k * 2, none⟩ = some (.int .i64 x.1) ∧ w.cell? ⟨b, o + k * 2 + 1, none⟩ = some (.int .i64 x.2) :=
  ⟨rec_cell ptC_len h k x hx 0 _ rfl, rec_cell ptC_len h k x hx 1 _ rfl⟩
theorem gp_some {l : List Pt} {i : Nat} {x : Pt} (h : l[i]? = some x) : gp l i = x := by simp [gp, List.getD, h]
theorem gp_lt {l : List Pt} {i : Nat} (h : i < l.length) : l[i]? = some (gp l i) := by
  rw [List.getElem?_eq_getElem h]; simp [gp, List.getD, List.getElem?_eq_getElem h]

/-- Is F so for one of the first k? -/
def anyN (F : Nat → Bool) : Nat → Bool
  | 0 => false
  | k + 1 => anyN F k || F k
theorem anyN_iff (F : Nat → Bool) (n : Nat) : anyN F n = true ↔ ∃ k, k < n ∧ F k = true := by
  induction n with
  | zero => simp [anyN]
  | succ n ih =>
    simp only [anyN, Bool.or_eq_true, ih]
    constructor
    · rintro (⟨k, h1, h2⟩ | h)
      · exact ⟨k, by omega, h2⟩
      · exact ⟨n, by omega, h⟩
    · rintro ⟨k, h1, h2⟩
      rcases Nat.lt_or_ge k n with h | h
      · exact .inl ⟨k, h, h2⟩
      · obtain rfl : k = n := by omega
        exact .inr h2
theorem anyN_of {F : Nat → Bool} {k n : Nat} (h : k < n) (hk : F k = true) : anyN F n = true := (anyN_iff F n).2 ⟨k, h, hk⟩

set_option maxRecDepth 100000 in
set_option maxHeartbeats 2000000 in
/-- edges stops at the first edge for which the function says yes: I is what is so before an edge. -/
theorem edges_any (N : Nat) (caps : Array Value) (l : List Pt) (n c b o B : Nat) (row : Option Nat) (F : Nat → Bool) (I : Nat → World → Prop) (w : World) (hn : l.length = n) (hn2 : n ≤ 1000)
    (hrun : ∀ (args : Array Value) (V : World), (callFunc N args).run Tryz.prog V = .ok (.enter N args) V) (hrow : ∀ g, row = some g → g < B)
    (h0 : I 0 w) (hI : ∀ k V V', I k V → Below V.heap.size V V' → I k V') (hm : ∀ k V, I k V → Cells V b o (recs ptC l) ∧ b < V.heap.size ∧ B ≤ V.heap.size)
    (hf : ∀ k V, k < n → I k V → Calls Tryz.prog N (#[ptV (ed1 l k), ptV (ed2 l k)] ++ caps) V fun e w' => e = .returned (.bool (F k)) ∧ V.grownBy w' row ∧ I (k + 1) w') :
    Calls Tryz.prog 79 #[.slice (some ⟨b, o, none⟩) n c, .func (.func N) #[] caps] w fun e w' => e = .returned (.bool (anyN F n)) ∧ ∃ k, k ≤ n ∧ I k w' ∧ (anyN F n = false → k = n) := by
  have HI := Lib.hid hI
  have HM := Lib.hid hm
  have HF := Lib.hid hf
  have H0 := Lib.hid h0
  have HROW := Lib.hid hrow
  clear hI hm hf h0 hrow
  go_enter Tryz.func79, Tryz.ntmps79
  go_wp2_with (fail)
  go_loopw [9] (fun i wr => ∃ k : Nat, k ≤ n ∧ i = .int .i64 (k : Int) ∧ I k wr ∧ anyN F k = false) (fun i _ => n - (intOf i).toNat)
  case atStart => exact ⟨0, Nat.zero_le _, rfl, H0.out, rfl⟩
  case round =>
    obtain ⟨k, hk, rfl, hik, hno⟩ := hrel
    have HIK := Lib.hid hik
    have HNO := Lib.hid hno
    by_cases hlt : k < n
    · obtain ⟨hc, hb, hB⟩ := HM.out k wr hik
      have hx := gp_lt (l := l) (i := k) (by omega)
      have hmod : (k + 1) % l.length < l.length := Nat.mod_lt _ (by omega)
      have hy := gp_lt (l := l) (i := (k + 1) % l.length) hmod
      have hmd : ((k : Int) + 1).tmod (n : Int) = (((k + 1) % l.length : Nat) : Int) := by rw [hn, Int.tmod_eq_emod_of_nonneg (by omega)]; simp
      obtain ⟨x, ex⟩ : ∃ x, x = gp l k := ⟨_, rfl⟩
      obtain ⟨y, ey⟩ : ∃ y, y = gp l ((k + 1) % l.length) := ⟨_, rfl⟩
      obtain ⟨m, em⟩ : ∃ m, m = (k + 1) % l.length := ⟨_, rfl⟩
      rw [← ex] at hx
      rw [← ey, ← em] at hy
      rw [← em] at hmod hmd
      obtain ⟨s0, s1⟩ := pt_cells hc k x hx
      obtain ⟨t0, t1⟩ := pt_cells hc m y hy
      obtain ⟨fk, efk⟩ : ∃ fk, fk = F k := ⟨_, rfl⟩
      have HF1 := Lib.hid (show ∀ V, I k V → Calls Tryz.prog N (#[ptV x, ptV y] ++ caps) V fun e w' => e = .returned (.bool fk) ∧ V.grownBy w' row ∧ I (k + 1) w' from by
        rw [ex, ey, efk]; exact fun V hV => HF.out k V hlt hV)
      have HFK := Lib.hid efk
      have HY := Lib.hid hy
      have wk : IntKind.i64.wrap ((k : Int) + 1) = (k : Int) + 1 := by rw [IntKind.wrap_i64]; omega
      have wm : IntKind.i64.wrap (((k : Int) + 1).tmod (n : Int)) = (m : Int) := by rw [hmd, IntKind.wrap_i64]; omega
      have hkI : (k : Int) < (n : Int) := by omega
      have hk0 : (0 : Int) ≤ (k : Int) := by omega
      have hm0 : (0 : Int) ≤ (m : Int) := by omega
      have hmI : (m : Int) < (n : Int) := by omega
      have hn0 : ¬ (n : Int) = 0 := by omega
      have hn0n : ¬ n = 0 := by omega
      obtain ⟨xx, xy⟩ := x
      obtain ⟨yx, yy⟩ := y
      unfold ptV at HF1
      simp only at s0 s1 t0 t1 HF1
      clear hc hx hy em ex ey hik hno efk
      go_upto_region 4 with (fail)
      generalize hV : wr.alloc (.cells #[.int .i64 xx, .int .i64 xy] 37) = V
      have hBV : Below wr.heap.size wr V := hV ▸ (Below.refl _ _).alloc (Nat.le_refl _) _
      have hvb : V.heap[wr.heap.size]? = some (.cells #[.int .i64 xx, .int .i64 xy] 37 (0, 0)) := by rw [← hV]; exact heap_new wr _
      have v0 := cell_of_blk (j := 0) hvb rfl
      have v1 := cell_of_blk (j := 1) hvb rfl
      have u0 := (hBV.cell (p := ⟨b, o + m * 2, none⟩) hb).trans t0
      have u1 := (hBV.cell (p := ⟨b, o + m * 2 + 1, none⟩) hb).trans t1
      have HC := Lib.hid (HF1.out V.drew (HI.out k _ _ HIK.out hBV.drew))
      have HKEEP := Lib.hid (fun (W : World) (hg : V.drew.grownBy W row) (hi : I (k + 1) W) => show W.cell? ⟨wr.heap.size, 0, none⟩ = some (.int .i64 xx) ∧ W.cell? ⟨wr.heap.size, 1, none⟩ = some (.int .i64 xy) ∧ W.cell? ⟨b, o + m * 2, none⟩ = some (.int .i64 yx) ∧ W.cell? ⟨b, o + m * 2 + 1, none⟩ = some (.int .i64 yy) from by
        have hne : some wr.heap.size ≠ row := fun e => by have := HROW.out _ e.symm; omega
        obtain ⟨r0, r1⟩ := pt_cells (HM.out (k + 1) W hi).1 m _ HY.out
        exact ⟨hg.cell v0 hne, hg.cell v1 hne, r0, r1⟩)
      clear hV hBV hvb s0 s1 t0 t1
      go_region_held3 (fun V => V.cell? ⟨wr.heap.size, 0, none⟩ = some (.int .i64 xx) ∧ V.cell? ⟨wr.heap.size, 1, none⟩ = some (.int .i64 xy) ∧ V.cell? ⟨b, o + m * 2, none⟩ = some (.int .i64 yx) ∧ V.cell? ⟨b, o + m * 2 + 1, none⟩ = some (.int .i64 yy))
        (first | go_keep | (exact hS))
        (first | (refine HC.out.mono ?_; rintro e wA ⟨rfl, hgA, hia⟩; have hS := HKEEP.out wA hgA hia))
      all_goals
        have HIA := Lib.hid hia
        clear hia hgA hS
        cases fk with
        | true =>
          go_wp2_with (fail)
          go_ret
          have ht := anyN_of hlt HFK.out.symm
          exact ⟨ret_boolB ht.symm, k + 1, by omega, HIA.out, fun h => by rw [ht] at h; cases h⟩
        | false =>
          go_wp2_with (fail)
          go_roundw
          case rel => exact ⟨k + 1, by omega, by go_num, HIA.out, by simp only [anyN, HNO.out, ← HFK.out, Bool.or_self]⟩
          case measure => simp [intOf]; omega
    · obtain rfl : n = k := by omega
      clear hik hno
      go_wp2_with (fail)
      go_ret
      exact ⟨ret_boolB HNO.out.symm, n, Nat.le_refl _, HIK.out, fun _ => rfl⟩

theorem w1_any (a b s : Pt) (g : Nat) (w : World) (ha : SpB a) (hb : SpB b) (hs : SpB s) (h0 : w.cell? ⟨g, 0, none⟩ = some (.int .i64 s.1)) (h1 : w.cell? ⟨g, 1, none⟩ = some (.int .i64 s.2)) :
    Calls Tryz.prog 120 #[ptV a, ptV b, .pointer (some ⟨g, 0, none⟩)] w fun e w' => e = .returned (.bool (onB a b s)) ∧ Below w.heap.size w w' := by
  have HON := Lib.hid (fun V => on_any a b s V ha hb hs)
  have hgw := World.block_lt_of_cell? w _ h0
  obtain ⟨ax, ay⟩ := a
  obtain ⟨bx, by_⟩ := b
  obtain ⟨sx, sy⟩ := s
  unfold ptV at HON ⊢
  simp only at h0 h1 HON hgw ⊢
  obtain ⟨r, er⟩ : ∃ r, r = onB (ax, ay) (bx, by_) (sx, sy) := ⟨_, rfl⟩
  rw [← er] at HON ⊢
  have hBW : Below w.heap.size w ((w.alloc (.cells #[.int .i64 ax, .int .i64 ay] 37)).alloc (.cells #[.int .i64 bx, .int .i64 by_] 37)) := ((Below.refl _ _).alloc (Nat.le_refl _) _).alloc (by simp) _
  have u0 := (hBW.cell (p := ⟨g, 0, none⟩) hgw).trans h0
  have u1 := (hBW.cell (p := ⟨g, 1, none⟩) hgw).trans h1
  have HBW := Lib.hid hBW
  clear hBW ha hb hs er
  go_enter Tryz.func120, Tryz.ntmps120
  go_wp2_with (fail)
  refine (HON.out _).mono ?_
  rintro e w1 ⟨rfl, hb1⟩
  have HB1 := Lib.hid (HBW.out.trans (hb1.mono (by simp; omega)))
  clear hb1
  go_wp2_with (fail)
  go_ret
  exact ⟨rfl, HB1.out⟩
end Go.Proofs.YthplhibdapjjgaaGreatDoor
