/- The first step of a way, for each model's costs once. -/
import Derived.Test.YtidgicbhgnbidaaGreatDoorCmC
import Derived.Test.YtidgicbhgnbidaaGreatDoorMyF
import Derived.Test.YtidgicbhgnbidaaGreatDoorSmB
import Derived.Test.YtidgicbhgnbidaaGreatDoorMgB
import Derived.BigRegion
import Derived.Deep.RegionHeld3
import Derived.Deep.RegionLawGrows
namespace Go.Proofs.YtidgicbhgnbidaaGreatDoor
open Go.RowKit

set_option maxRecDepth 100000 in
theorem first1_any (x : Im) (y : Ve) (gl b o n c : Nat) (w : World) (hn : 0 < n) (hl : w.cell? ⟨gl, 0, none⟩ = some (.slice (some ⟨b, o, none⟩) n c)) (h0 : w.cell? ⟨b, o, none⟩ = some (.int .i64 y.a)) (h1 : w.cell? ⟨b, o + 1, none⟩ = some (.int .i64 y.b)) (h2 : w.cell? ⟨b, o + 2, none⟩ = some (.int .i64 y.c)) :
    Calls Tryz.prog 160 #[imV x, .pointer (some ⟨gl, 0, none⟩)] w fun e w' => e = .returned (.bool (decide (x.v = y))) ∧ Below w.heap.size w w' := by
  have hgl := World.block_lt_of_cell? w _ hl
  have hb := World.block_lt_of_cell? w _ h0
  simp only at hgl hb
  obtain ⟨gx, egx⟩ : ∃ g, g = w.heap.size := ⟨_, rfl⟩
  obtain ⟨w0, e0⟩ : ∃ V : World, V = w.alloc (imB x) := ⟨_, rfl⟩
  have hb0 : Below w.heap.size w w0 := by rw [e0]; exact (Below.refl _ _).alloc (Nat.le_refl _) _
  have hx0 : w0.heap[gx]? = some (imB x) := by rw [e0, egx]; exact heap_new w _
  have k0 := (hb0.cell (p := ⟨gl, 0, none⟩) hgl).trans hl
  have k1 := (hb0.cell (p := ⟨b, o, none⟩) hb).trans h0
  have k2 := (hb0.cell (p := ⟨b, o + 1, none⟩) hb).trans h1
  have k3 := (hb0.cell (p := ⟨b, o + 2, none⟩) hb).trans h2
  have x0 := cell_of_blk (j := 0) hx0 rfl
  have x1 := cell_of_blk (j := 1) hx0 rfl
  have x2 := cell_of_blk (j := 2) hx0 rfl
  have hlx := (Array.getElem?_eq_some_iff.1 hx0).1
  have hs := hb0.size
  have hgl0 : gl < w0.heap.size := by omega
  have hbl0 : b < w0.heap.size := by omega
  have HB0 := Lib.hid hb0
  have hq := fun W : World => ver_eql x.v y W
  obtain ⟨r, er⟩ : ∃ r, r = decide (x.v = y) := ⟨_, rfl⟩
  simp only [← er] at hq ⊢
  have hnI : (0 : Int) < (n : Int) := by omega
  unfold veV at hq
  unfold imB at e0
  unfold imV
  clear er hl h0 h1 h2 hb0 hx0 hs hgl hb
  go_enter Tryz.func160, Tryz.ntmps160
  go_upto_region 1 with (fail)
  rw [← egx, ← e0]
  clear e0 egx
  go_quiet (fail)
  go_wp2_with (fail)
  go_ret
  exact ⟨rfl, below_drewC HB0.out _⟩
def FxPost (L : List Im) (y : Ve) (e : Ending) : Prop := ∃ (k : Nat) (x : Im), e = .returned (.int .i64 (k : Int)) ∧ L[k]? = some x ∧ x.v = y
set_option maxRecDepth 100000 in
set_option maxHeartbeats 2000000 in
theorem idxI_any (L : List Im) (y : Ve) (N C gl b o n c : Nat) (AL : Option Addr) (w : World) (hI : ImsI w w.heap.size AL L) (hN : L.length = N) (hN8 : N ≤ 8) (hex : ∃ x ∈ L, x.v = y) (hn : 0 < n) (hl : w.cell? ⟨gl, 0, none⟩ = some (.slice (some ⟨b, o, none⟩) n c)) (h0 : w.cell? ⟨b, o, none⟩ = some (.int .i64 y.a)) (h1 : w.cell? ⟨b, o + 1, none⟩ = some (.int .i64 y.b)) (h2 : w.cell? ⟨b, o + 2, none⟩ = some (.int .i64 y.c)) :
    Calls Tryz.prog 159 #[.slice AL N C, .func (.func 160) #[] #[.pointer (some ⟨gl, 0, none⟩)]] w fun e w' => FxPost L y e ∧ Below w.heap.size w w' := by
  have hgl := World.block_lt_of_cell? w _ hl
  have hb := World.block_lt_of_cell? w _ h0
  simp only at hgl hb
  have HR := Lib.hid hI.row
  have HN := Lib.hid hN
  have HEX := Lib.hid hex
  have HK := Lib.hid (fun (V : World) (hV : Below w.heap.size w V) (x : Im) => first1_any x y gl b o n c V hn ((hV.cell (p := ⟨gl, 0, none⟩) hgl).trans hl) ((hV.cell (p := ⟨b, o, none⟩) hb).trans h0) ((hV.cell (p := ⟨b, o + 1, none⟩) hb).trans h1) ((hV.cell (p := ⟨b, o + 2, none⟩) hb).trans h2))
  clear hI hN hex hn hl h0 h1 h2 hgl hb
  go_enter Tryz.func159, Tryz.ntmps159
  go_wp2_with (fail)
  go_loopw [8] (fun i wr => ∃ k : Nat, k ≤ N ∧ i = .int .i64 k ∧ Hid (Below w.heap.size w wr ∧ ∀ m x, m < k → L[m]? = some x → x.v ≠ y)) (fun i _ => N - (intOf i).toNat)
  case atStart => exact ⟨0, Nat.zero_le _, rfl, Lib.hid ⟨Below.refl _ _, fun m x hm _ => by omega⟩⟩
  case round =>
    obtain ⟨k, hk, rfl, HQ⟩ := hrel
    by_cases hlt : k < N
    · have hltI : (k : Int) < (N : Int) := by omega
      obtain ⟨x, hx⟩ : ∃ x, L[k]? = some x := ⟨_, List.getElem?_eq_getElem (by have := HN.out; omega)⟩
      obtain ⟨b2, o2, rfl, hbw, hC⟩ := (HR.out.below HQ.out.1).posR imC_len (by omega) (by have := HN.out; omega)
      have hbr : b2 < wr.heap.size := by have := HQ.out.1.size; omega
      have c0 : wr.cell? ⟨b2, o2 + k * 6, none⟩ = some (.int .i64 x.v.a) := rec_cell imC_len hC k x hx 0 _ rfl
      have c1 := rec_cell imC_len hC k x hx 1 _ rfl
      have c2 := rec_cell imC_len hC k x hx 2 _ rfl
      have c3 := rec_cell imC_len hC k x hx 3 _ rfl
      have c4 := rec_cell imC_len hC k x hx 4 _ rfl
      have c5 := rec_cell imC_len hC k x hx 5 _ rfl
      have HX := Lib.hid hx
      have HC1 := Lib.hid (HK.out wr HQ.out.1 x)
      unfold imV at HC1
      obtain ⟨r, er⟩ : ∃ r, r = decide (x.v = y) := ⟨_, rfl⟩
      rw [← er] at HC1
      have HER := Lib.hid er
      clear hC hx er
      go_wp2_with (fail)
      refine HC1.out.mono ?_
      rintro e w1 ⟨rfl, hb1⟩
      have HB1 := Lib.hid (HQ.out.1.trans (hb1.mono HQ.out.1.size))
      clear hb1 HC1
      cases r with
      | true =>
        have HXY := Lib.hid (show x.v = y from of_decide_eq_true HER.out.symm)
        go_wp2_with (fail)
        go_ret
        exact ⟨⟨k, x, rfl, HX.out, HXY.out⟩, HB1.out⟩
      | false =>
        have HXY := Lib.hid (show x.v ≠ y from of_decide_eq_false HER.out.symm)
        go_wp2_with (fail)
        go_roundw
        case rel =>
          refine ⟨k + 1, by omega, by go_num, Lib.hid ⟨HB1.out, fun m z hm hz => ?_⟩⟩
          by_cases hmk : m = k
          · subst hmk
            have := HX.out
            rw [hz] at this
            cases this
            exact HXY.out
          · exact HQ.out.2 m z (by omega) hz
        case measure => simp [intOf]; omega
    · exfalso
      obtain ⟨x, hxm, hxv⟩ := HEX.out
      obtain ⟨m, hm⟩ := List.getElem?_of_mem hxm
      exact HQ.out.2 m x (by have := (List.getElem?_eq_some_iff.1 hm).1; have := HN.out; omega) hm hxv
theorem zz_heap (w : World) (o : Obj) : (w.alloc o).heap[w.heap.size]? = some o := by
  show (w.heap.push o)[w.heap.size]? = some o
  rw [Array.getElem?_push_size]
theorem zz_bel {B : Nat} {a w w' : World} {o : Obj} (h : Below B a w) (hs : B ≤ w.heap.size) (k : Below (w.alloc o).heap.size (w.alloc o) w') : Below B a w' :=
  (h.alloc hs o).trans (k.mono (Nat.le_trans hs (by simp)))
theorem zz_new {w w' : World} {o : Obj} (k : Below (w.alloc o).heap.size (w.alloc o) w') : w'.heap[w.heap.size]? = some o := (k.block _ (by simp)).trans (zz_heap w o)
theorem zz_bel0 {w w' : World} {o : Obj} (k : Below (w.alloc o).drew.heap.size (w.alloc o).drew w') : Below w.heap.size w w' :=
  (((Below.refl w.heap.size w).alloc (Nat.le_refl _) o).drew).trans (k.mono (by show w.heap.size ≤ (w.alloc o).heap.size; simp))
theorem zz_new0 {w w' : World} {o : Obj} (k : Below (w.alloc o).drew.heap.size (w.alloc o).drew w') : w'.heap[w.heap.size]? = some o :=
  (k.block _ (by show w.heap.size < (w.alloc o).heap.size; simp)).trans (zz_heap w o)
theorem zz_froz {w : World} {g : Nat} {cs : Array Value} {t : TypeId} (h : w.heap[g]? = some (.cells cs t (0, 0))) (j : Nat) : w.frozen? ⟨g, j, none⟩ = false := by simp [World.frozen?, h]
theorem zz_set1 {w : World} {g : Nat} {x u : Value} {t : TypeId} (h : w.heap[g]? = some (.cells #[x] t (0, 0))) : (w.setCell ⟨g, 0, none⟩ u).heap[g]? = some (.cells #[u] t (0, 0)) := (setblkV (j := 0) u h).trans rfl
theorem im_set6 {w : World} {g : Nat} {a b c d e f : Value} (a' b' c' d' e' f' : Value) (h : w.heap[g]? = some (.cells #[a, b, c, d, e, f] 91 (0, 0))) :
    ((((((w.setCell ⟨g, 0, none⟩ a').setCell ⟨g, 1, none⟩ b').setCell ⟨g, 2, none⟩ c').setCell ⟨g, 3, none⟩ d').setCell ⟨g, 4, none⟩ e').setCell ⟨g, 5, none⟩ f').heap[g]? = some (.cells #[a', b', c', d', e', f'] 91 (0, 0)) := by
  have h0 := (setblkV (j := 0) a' h).trans rfl
  have h1 := (setblkV (j := 1) b' h0).trans rfl
  have h2 := (setblkV (j := 2) c' h1).trans rfl
  have h3 := (setblkV (j := 3) d' h2).trans rfl
  have h4 := (setblkV (j := 4) e' h3).trans rfl
  exact (setblkV (j := 5) f' h4).trans rfl
theorem im_below {B : Nat} {u w : World} {g : Nat} (hb : Below B u w) (hg : B ≤ g) (a' b' c' d' e' f' : Value) : Below B u ((((((w.setCell ⟨g, 0, none⟩ a').setCell ⟨g, 1, none⟩ b').setCell ⟨g, 2, none⟩ c').setCell ⟨g, 3, none⟩ d').setCell ⟨g, 4, none⟩ e').setCell ⟨g, 5, none⟩ f') :=
  (((((hb.setCell hg _).setCell hg _).setCell hg _).setCell hg _).setCell hg _).setCell hg _
/-- The ways: images, where to, and for which models the costs are known. -/
structure WyM (B : Nat) (L : List Im) (t : Ve) (AL : Option Addr) (N C gw mc : Nat) (Lc : SmL) (w : World) : Prop where
  gw : w.heap[gw]? = some (.cells #[.slice AL N C, .int .i64 t.a, .int .i64 t.b, .int .i64 t.c, .map (some mc)] 150 (0, 0))
  mp : SmI w mc Lc
  ok : ∀ (j : Nat) (hj : j < 2) (v : Value), smG (mdT j) Lc = some v → ∃ m T, v = .map (some m) ∧ VmI w m T ∧ @CoEnd ⟨j, hj⟩ L t T ∧ m ≠ mc
  im : ImsI w B AL L
  ge : B ≤ mc
  sz : B ≤ w.heap.size
theorem WyM.grown {B : Nat} {L : List Im} {t : Ve} {AL : Option Addr} {N C gw mc : Nat} {Lc : SmL} {w w' : World} (h : WyM B L t AL N C gw mc Lc w) (hb : Below w.heap.size w w') : WyM B L t AL N C gw mc Lc w' :=
  ⟨(hb.block gw (Array.getElem?_eq_some_iff.1 h.gw).1).trans h.gw, h.mp.below hb, fun j hj v hv => by
    obtain ⟨m, T, h1, h2, h3, h4⟩ := h.ok j hj v hv
    exact ⟨m, T, h1, h2.below hb, h3, h4⟩, h.im.below (hb.mono h.sz), h.ge, Nat.le_trans h.sz hb.size⟩
theorem ImsI.keepB {w w' : World} {B : Nat} {AL : Option Addr} {L : List Im} (h : ImsI w B AL L) (hk : ∀ b, b < B → w'.heap[b]? = w.heap[b]?) : ImsI w' B AL L :=
  ⟨h.row.keep hk, fun x hx => ⟨(h.all x hx).mo.keep hk, (h.all x hx).rs.keep hk⟩⟩
/-- The image that is put on first. -/
def firV [Mdl] (T : VmL) (L : List Im) (v t : Ve) : Option Im := if v = t then none else (nxB T (tak L v)).map (·.1)
def FirP [Mdl] (L : List Im) (v t : Ve) (r : Option Im) : Prop := ∃ T, CoEnd L t T ∧ r = firV T L v t
theorem tak_ownI [Mdl] {L : List Im} {v : Ve} {y : Im} (h : y ∈ tak L v) : y ∈ ownI L := by
  obtain ⟨h1, h2, _⟩ := mem_tak.1 h
  exact List.mem_filter.2 ⟨h1, h2⟩
theorem FirP.uniq [Mdl] {L : List Im} {v t : Ve} {r r' : Option Im} (h : FirP L v t r) (h' : FirP L v t r') : r = r' := by
  obtain ⟨T, h1, rfl⟩ := h
  obtain ⟨T', h2, rfl⟩ := h'
  unfold firV nxB
  rw [nxB_same (T := T) (T' := T') none fun y hy => h1.uniq h2 (tak_ownI hy)]
theorem firV_no [Mdl] {T : VmL} {L : List Im} {v t : Ve} (h : CoEnd L t T) (hr : ¬ Rch L t v) : firV T L v t = none := by
  unfold firV
  split
  · rfl
  · rw [nxB_none fun y hy => by
      cases hd : vmG y.v T with
      | none => rfl
      | some d =>
        obtain ⟨h1, h2, _⟩ := mem_tak.1 hy
        exact absurd (.step hy ((h.rc y h1 h2).1 (by rw [hd]; rfl))) hr]
    rfl
theorem nxB_mem {T : VmL} {l : List Im} {z : Im} {b : Co} (h : nxB T l = some (z, b)) : z ∈ l := by
  have key : ∀ (l : List Im) (s : Option (Im × Co)) (z : Im) (b : Co), l.foldl (nxF T) s = some (z, b) → z ∈ l ∨ s = some (z, b) := by
    intro l
    induction l with
    | nil => intro s z b h; exact .inr h
    | cons y l ih =>
      intro s z b h
      rw [List.foldl_cons] at h
      rcases ih _ _ _ h with h1 | h1
      · exact .inl (List.mem_cons_of_mem _ h1)
      · cases hd : vmG y.v T with
        | none => rw [nxF_none hd] at h1; exact .inr h1
        | some d =>
          cases s with
          | none =>
            rw [nxF_one hd] at h1
            injection h1 with h1
            injection h1 with h1 _
            rw [← h1]
            exact .inl List.mem_cons_self
          | some s =>
            obtain ⟨s1, s2⟩ := s
            rw [nxF_some hd] at h1
            split at h1
            · injection h1 with h1
              injection h1 with h1 _
              rw [← h1]
              exact .inl List.mem_cons_self
            · exact .inr h1
  rcases key l none z b h with h | h
  · exact h
  · cases h
/-- What way has answered: it succeeds, and where its row lies; or there is no way. -/
def WkP [Mdl] (T : VmL) (L : List Im) (v t : Ve) (B : Nat) (A : Option Addr) (n c : Nat) (ok : Bool) (w' : World) : Prop := (ok = true → ∃ l, wayV L v l t ∧ n = l.length ∧ n ≤ 8 ∧ w'.ownsRow B 29 3 (.slice A n c) n (recs veC l) ∧ FsV T L v t l t) ∧ (ok = false → ¬ Rch L t v)
def FsR [Mdl] (T : VmL) (L : List Im) (v t : Ve) (W : World) (s u : Value) (wx : World) : Prop :=
  ∃ (g : Nat) (A : Option Addr) (n c : Nat) (ok : Bool), s = .pointer (some ⟨g, 0, none⟩) ∧ u = .bool ok ∧ W.heap.size ≤ g ∧ wx.heap[g]? = some (.cells #[.slice A n c] 33 (0, 0)) ∧ WkP T L v t W.heap.size A n c ok wx ∧ Below W.heap.size W wx
theorem way1_wk [Mdl] {T : VmL} {L : List Im} {v t : Ve} {w w' : World} {e : Ending} (h : Way1Post T L v t w e w') : ∃ (A : Option Addr) (n c : Nat) (ok : Bool), e = .returned (.tuple #[.slice A n c, .bool ok]) ∧ WkP T L v t w.heap.size A n c ok w' ∧ Below w.heap.size w w' := by
  rcases h with ⟨h0, h1, h2⟩ | ⟨l, A, c, n, _, h1, h2, h3, _, h4, h5, h6, h7⟩
  · exact ⟨none, 0, 0, false, h1, ⟨(fun h => by cases h), fun _ => h0⟩, h2⟩
  · exact ⟨A, n, c, true, h4, ⟨fun _ => ⟨l, h1, h2, h3, h5, h7⟩, fun h => by cases h⟩, h6⟩
def FrR [Mdl] (L : List Im) (t : Ve) (AL : Option Addr) (N C gw mc B : Nat) (W : World) (s : Value) (wx : World) : Prop :=
  ∃ (m : Nat) (T : VmL) (Lc : SmL), s = .map (some m) ∧ VmI wx m T ∧ CoEnd L t T ∧ WyM B L t AL N C gw mc Lc wx ∧ W.grownBy wx (some mc)
def ImR [Mdl] (L : List Im) (v t : Ve) (AL : Option Addr) (N C gw mc B : Nat) (w : World) (e : Ending) (w' : World) : Prop :=
  (∃ Lc, WyM B L t AL N C gw mc Lc w') ∧ w.grownBy w' (some mc) ∧ (e = .returned (.tuple #[.agg #[.int .i64 0, .int .i64 0, .int .i64 0, .slice none 0 0, .slice none 0 0, .int .i64 0], .bool false]) ∧ FirP L v t none ∨ ∃ x ∈ L, e = .returned (.tuple #[imV x, .bool true]) ∧ x ∈ tak L v ∧ FirP L v t (some x))
theorem im_ne (w : World) (g : Nat) (a' b' c' d' e' f' : Value) (b : Nat) (hb : b ≠ g) : ((((((w.setCell ⟨g, 0, none⟩ a').setCell ⟨g, 1, none⟩ b').setCell ⟨g, 2, none⟩ c').setCell ⟨g, 3, none⟩ d').setCell ⟨g, 4, none⟩ e').setCell ⟨g, 5, none⟩ f').heap[b]? = w.heap[b]? :=
  (Below.heap_setCell _ _ _ _ hb).trans ((Below.heap_setCell _ _ _ _ hb).trans ((Below.heap_setCell _ _ _ _ hb).trans ((Below.heap_setCell _ _ _ _ hb).trans ((Below.heap_setCell _ _ _ _ hb).trans (Below.heap_setCell _ _ _ _ hb)))))
theorem WyM.aside {B : Nat} {L : List Im} {t : Ve} {AL : Option Addr} {N C gw mc g : Nat} {Lc : SmL} {w w' : World} {cs : Array Value} {f : Nat × Nat} (h : WyM B L t AL N C gw mc Lc w) (hg : w.heap[g]? = some (.cells cs 91 f)) (hm : mc < g) (hs : w.heap.size ≤ w'.heap.size) (hk : ∀ b, b ≠ g → w'.heap[b]? = w.heap[b]?) : WyM B L t AL N C gw mc Lc w' :=
  ⟨(hk gw (by
      intro e
      have h1 := h.gw
      rw [e, hg] at h1
      injection h1 with h1
      cases h1)).trans h.gw, h.mp.keep (hk mc (by omega)), fun j hj v hv => (by
    obtain ⟨m, T, h1, h2, h3, h4⟩ := h.ok j hj v hv
    refine ⟨m, T, h1, h2.keep (hk m ?_), h3, h4⟩
    intro e
    have h5 : w.heap[m]? = some _ := h2
    rw [e, hg] at h5
    injection h5 with h6
    cases h6), h.im.keepB fun b hb => hk b (by have := h.ge; omega), h.ge, Nat.le_trans h.sz hs⟩
theorem grown_over {a b c : World} {r : Option Nat} (h : a.grownBy b r) (k : Below a.heap.size b c) : a.grownBy c r :=
  ⟨k.os.trans h.os, k.tape.trans h.tape, k.output.trans h.output, Nat.le_trans h.size k.size, fun i hi hn => (k.block i hi).trans (h.block i hi hn)⟩
theorem wk_alloc [Mdl] {T : VmL} {L : List Im} {v t : Ve} {B n c : Nat} {A : Option Addr} {ok : Bool} {w : World} (h : WkP T L v t B A n c ok w) (o : Obj) : WkP T L v t B A n c ok (w.alloc o) := ⟨fun hk => by
  obtain ⟨l, h1, h2, h3, h4, h5⟩ := h.1 hk
  exact ⟨l, h1, h2, h3, own_below h4 ((Below.refl _ _).alloc (Nat.le_refl _) o), h5⟩, h.2⟩
theorem wk_set [Mdl] {T : VmL} {L : List Im} {v t : Ve} {B n c g : Nat} {A : Option Addr} {ok : Bool} {w : World} {cs : Array Value} {f : Nat × Nat} (h : WkP T L v t B A n c ok w) (hg : w.heap[g]? = some (.cells cs 33 f)) (u : Value) : WkP T L v t B A n c ok (w.setCell ⟨g, 0, none⟩ u) := ⟨fun hk => by
  obtain ⟨l, h1, h2, h3, h4, h5⟩ := h.1 hk
  exact ⟨l, h1, h2, h3, ownsRow_setCell_other h4 (fun e => own_ne h4 hg (by decide) e.symm) u, h5⟩, h.2⟩
theorem wk_mono [Mdl] {T : VmL} {L : List Im} {v t : Ve} {B B' n c : Nat} {A : Option Addr} {ok : Bool} {w : World} (h : WkP T L v t B A n c ok w) (hb : B' ≤ B) : WkP T L v t B' A n c ok w := ⟨fun hk => by
  obtain ⟨l, h1, h2, h3, h4, h5⟩ := h.1 hk
  exact ⟨l, h1, h2, h3, own_mono h4 hb, h5⟩, h.2⟩
theorem im_uniq {L : List Im} (hL : ImsOk L) {x y : Im} (hx : x ∈ L) (hy : y ∈ L) (h : x.v = y.v) : x = y := by
  obtain ⟨i, hi⟩ := List.getElem?_of_mem hx
  obtain ⟨j, hj⟩ := List.getElem?_of_mem hy
  obtain ⟨hi1, rfl⟩ := List.getElem?_eq_some_iff.1 hi
  obtain ⟨hj1, rfl⟩ := List.getElem?_eq_some_iff.1 hj
  have ho := List.pairwise_iff_getElem.1 hL.ord
  rcases Nat.lt_trichotomy i j with h1 | h1 | h1
  · have := ho i j hi1 hj1 h1
    rw [h] at this
    omega
  · subst h1
    rfl
  · have := ho j i hj1 hi1 h1
    rw [h] at this
    omega
set_option maxRecDepth 100000 in
set_option maxHeartbeats 8000000 in
theorem first_any [Mdl] (L : List Im) (v t : Ve) (AL : Option Addr) (N C gw mc B : Nat) (Lc : SmL) (w : World) (hL : ImsOk L) (hN : L.length = N) (hv : VeOk v) (ht : VeOk t) (h : WyM B L t AL N C gw mc Lc w) :
    Calls Tryz.prog 123 #[.pointer (some ⟨gw, 0, none⟩), .string (mdT Mdl.j), veV v] w fun e w' => ImR L v t AL N C gw mc B w e w' := by
  have HL := Lib.hid hL
  have HN := Lib.hid hN
  have HV := Lib.hid hv
  have HT := Lib.hid ht
  have hN8 : N ≤ 8 := by rw [← hN]; exact hL.len
  obtain ⟨g5, eg5⟩ : ∃ g, g = w.heap.size := ⟨_, rfl⟩
  obtain ⟨g6, eg6⟩ : ∃ g, g = w.heap.size + 1 := ⟨_, rfl⟩
  obtain ⟨w0, e0⟩ : ∃ V : World, V = (w.alloc (veB v)).alloc (.cells #[.int .i64 0, .int .i64 0, .int .i64 0, .slice none 0 0, .slice none 0 0, .int .i64 0] 91) := ⟨_, rfl⟩
  have hb0 : Below w.heap.size w w0 := by rw [e0]; exact ((Below.refl _ _).alloc (Nat.le_refl _) _).alloc (by simp) _
  have hg5 : w0.heap[g5]? = some (veB v) := by rw [e0, eg5, Below.heap_alloc _ _ _ (by simp)]; exact heap_new w _
  have hg6 : w0.heap[g6]? = some (.cells #[.int .i64 0, .int .i64 0, .int .i64 0, .slice none 0 0, .slice none 0 0, .int .i64 0] 91 (0, 0)) := by
    rw [e0, eg6]; have := heap_new (w.alloc (veB v)) (.cells #[.int .i64 0, .int .i64 0, .int .i64 0, .slice none 0 0, .slice none 0 0, .int .i64 0] 91); simpa using this
  have hw56 : w.heap.size ≤ g5 ∧ w.heap.size ≤ g6 := by omega
  have hl5 := (Array.getElem?_eq_some_iff.1 hg5).1
  have hl6 := (Array.getElem?_eq_some_iff.1 hg6).1
  have HM := Lib.hid (h.grown hb0)
  have hmcw := h.mp.lt
  have HB0 := Lib.hid hb0
  have HG5 := Lib.hid hg5
  have HG6 := Lib.hid hg6
  have p4 := cell_of_blk (j := 4) HM.out.gw rfl
  have hlw := (Array.getElem?_eq_some_iff.1 HM.out.gw).1
  have hsz : (mdT Mdl.j).size ≤ maxLen := by
    unfold mdT
    split <;> decide
  have hlk := look_sm_ok (P := Tryz.prog) (w := w0) (z := .map none) Tryz.underlying148 Tryz.underlying9 (by kernel_rfl) hsz HM.out.mp
  obtain ⟨sv, esv⟩ : ∃ v, v = (smG (mdT Mdl.j) Lc).getD (.map none) := ⟨_, rfl⟩
  obtain ⟨sb, esb⟩ : ∃ b, b = (smG (mdT Mdl.j) Lc).isSome := ⟨_, rfl⟩
  rw [← esv, ← esb] at hlk
  have HSV := Lib.hid (And.intro esv esb)
  clear esv esb
  have HSZ := Lib.hid hsz
  unfold veB at e0
  unfold veV
  clear hL hN hv ht h hb0 hg5 hg6 hsz
  go_enter Tryz.func123, Tryz.ntmps123
  go_upto_region 1 with (fail)
  rw [← eg6, ← eg5, ← e0]
  clear e0 eg5 eg6
  go_upto_if 23 with (fail)
  go_cut [8] (fun s wx => FrR L t AL N C gw mc B w0 s wx)
  case first =>
    cases hsm : smG (mdT Mdl.j) Lc with
    | some val =>
      obtain ⟨m, T, rfl, hvm, hco, hne⟩ := HM.out.ok Mdl.j Mdl.lt val hsm
      have hsv := HSV.out
      rw [hsm] at hsv
      obtain ⟨rfl, rfl⟩ := hsv
      simp only [Option.getD_some, Option.isSome_some]
      have HF := Lib.hid (show FrR L t AL N C gw mc B w0 (.map (some m)) w0 from ⟨m, T, Lc, rfl, hvm, hco, HM.out, grown_refl _ _⟩)
      clear hsm hvm hco hne hlk
      go_wp2_with (fail)
      go_meet
      exact HF.out
    | none =>
      have HQ := Lib.hid (fun (V : World) (hV : Below w0.heap.size w0 V) => show V.cell? ⟨gw, 0, none⟩ = some (.slice AL N C) ∧ V.cell? ⟨gw, 1, none⟩ = some (.int .i64 t.a) ∧ V.cell? ⟨gw, 2, none⟩ = some (.int .i64 t.b) ∧ V.cell? ⟨gw, 3, none⟩ = some (.int .i64 t.c) from by
        have h1 := (HM.out.grown hV).gw
        exact ⟨cell_of_blk (j := 0) h1 rfl, cell_of_blk (j := 1) h1 rfl, cell_of_blk (j := 2) h1 rfl, cell_of_blk (j := 3) h1 rfl⟩)
      have hsv := HSV.out
      rw [hsm] at hsv
      obtain ⟨rfl, rfl⟩ := hsv
      simp only [Option.getD_none, Option.isSome_none]
      clear hsm hlk
      go_upto_region 3 with (fail)
      refine qRegionTail 9 (by kernel_rfl) (by kernel_rfl) ?_
      simp only [List.take_succ_cons, List.take_zero, List.drop_succ_cons, List.drop_zero]
      repeat (first
        | (go_big_quiet_want; refine qVal (fun V hV => (by (obtain ⟨q0, q1, q2, q3⟩ := HQ.out V hV; go_simp; try rfl))) ?_; simp only [Act.put, List.setIfInBounds_toArray, List.set_cons_zero, List.set_cons_succ]; go_big_quiet_on)
        | go_big_quiet_skip)
      refine wpQuiet_nil ?_
      intro w1 hb1
      have HM1 := Lib.hid (HM.out.grown hb1)
      have HB1 := Lib.hid hb1
      have HCO := Lib.hid (costs_any L t N C AL w1 (HM1.out.im.mono HM1.out.sz) HN.out HL.out HT.out)
      unfold veV at HCO
      clear hb1 HQ
      go_wp2_with (fail)
      refine HCO.out.mono ?_
      rintro e w2 ⟨m, T, rfl, hvm, hm, hco, hb2⟩
      have HM2 := Lib.hid (HM1.out.grown hb2)
      have HB2 := Lib.hid (HB1.out.trans (hb2.mono HB1.out.size))
      have hup := show (Instr.mapUpdate 148 (.map (some mc)) (.string (mdT Mdl.j)) (.map (some m))).run Tryz.prog w2 = .ok () (smW w2 mc (smU (mdT Mdl.j) (.map (some m)) Lc)) from upd_sm (P := Tryz.prog) Tryz.underlying148 Tryz.underlying9 HSZ.out HM2.out.mp
      have hmc1 : mc < w1.heap.size := HM1.out.mp.lt
      have hgwmc : gw ≠ mc := by
        intro e
        have h1 := HM2.out.gw
        have h2 : w2.heap[mc]? = some _ := HM2.out.mp
        rw [e, h2] at h1
        cases h1
      have p4b := cell_of_blk (j := 4) HM2.out.gw rfl
      have hlw2 := (Array.getElem?_eq_some_iff.1 HM2.out.gw).1
      have HF := Lib.hid (show FrR L t AL N C gw mc B w0 (.map (some m)) (smW w2 mc (smU (mdT Mdl.j) (.map (some m)) Lc)) from by
        have hmm : m ≠ mc := by omega
        refine ⟨m, T, smU (mdT Mdl.j) (.map (some m)) Lc, rfl, hvm.keep (smW_blk _ hmm), hco, ⟨(smW_blk _ hgwmc).trans HM2.out.gw, HM2.out.mp.smW, ?_, ?_, HM2.out.ge, by rw [smW_size]; exact HM2.out.sz⟩, ?_⟩
        · intro j hj v2 hv2
          rw [smG_U] at hv2
          by_cases hjk : mdT j = mdT Mdl.j
          · rw [if_pos hjk] at hv2
            cases hv2
            have hje : j = Mdl.j := by
              have h1 := (md_beq hj Mdl.lt).1
              rw [hjk, ba_beq, decide_eq_true rfl] at h1
              exact of_decide_eq_true h1.symm
            subst hje
            exact ⟨m, T, rfl, hvm.keep (smW_blk _ hmm), hco, hmm⟩
          · rw [if_neg hjk] at hv2
            obtain ⟨m2, T2, h1, h2, h3, h4⟩ := HM2.out.ok j hj v2 hv2
            exact ⟨m2, T2, h1, h2.keep (smW_blk _ h4), h3, h4⟩
        · exact HM2.out.im.keepB fun b hb => smW_blk b (by have := HM2.out.ge; omega)
        · have hg : w2.grownBy (smW w2 mc (smU (mdT Mdl.j) (.map (some m)) Lc)) (some mc) := ⟨rfl, rfl, rfl, by rw [smW_size]; exact Nat.le_refl _, fun b _ hne => smW_blk b (fun e => hne (by rw [e]))⟩
          exact grown_trans ⟨HB2.out.os, HB2.out.tape, HB2.out.output, HB2.out.size, fun b hb _ => HB2.out.block b hb⟩ hg)
      clear hvm hm hco hb2 HCO
      go_wp2_with (fail)
      go_meet
      exact HF.out
  case rest =>
  obtain ⟨m, T, Lc2, rfl, hvm, hco, hwm, hg0⟩ := hcut
  obtain ⟨w3, rfl⟩ : ∃ wy : World, wy = wc := ⟨_, rfl⟩
  have HM3 := Lib.hid hwm
  have HVM := Lib.hid hvm
  have HCO := Lib.hid hco
  have hmcg : mc ≠ g5 ∧ mc ≠ g6 := by omega
  have HG53 := Lib.hid ((hg0.block g5 hl5 (by intro e; injection e with e; exact hmcg.1 e.symm)).trans HG5.out)
  have HG63 := Lib.hid ((hg0.block g6 hl6 (by intro e; injection e with e; exact hmcg.2 e.symm)).trans HG6.out)
  have HGR := Lib.hid (show w.grownBy w3 (some mc) from grown_trans ⟨HB0.out.os, HB0.out.tape, HB0.out.output, HB0.out.size, fun b hb _ => HB0.out.block b hb⟩ hg0)
  clear hwm hvm hco hg0 hlk p4
  have HWY := Lib.hid (fun (V : World) (hV : Below w3.heap.size w3 V) => (way1_any L v t N C m T AL V ((HM3.out.im.below (hV.mono HM3.out.sz)).mono (Nat.le_trans HM3.out.sz hV.size)) HN.out HL.out HV.out HT.out (HVM.out.below hV) HCO.out).mono (fun e w' h => way1_wk h))
  have hv5 := HG53.out
  have hl53 := (Array.getElem?_eq_some_iff.1 hv5).1
  have HKEEP := Lib.hid (fun (V : World) (hV : Below w3.heap.size w3 V) => show V.cell? ⟨gw, 0, none⟩ = some (.slice AL N C) ∧ V.cell? ⟨gw, 1, none⟩ = some (.int .i64 t.a) ∧ V.cell? ⟨gw, 2, none⟩ = some (.int .i64 t.b) ∧ V.cell? ⟨gw, 3, none⟩ = some (.int .i64 t.c) ∧ V.cell? ⟨g5, 0, none⟩ = some (.int .i64 v.a) ∧ V.cell? ⟨g5, 1, none⟩ = some (.int .i64 v.b) ∧ V.cell? ⟨g5, 2, none⟩ = some (.int .i64 v.c) from by
    have h1 := (HM3.out.grown hV).gw
    have h2 := (hV.block g5 hl53).trans hv5
    exact ⟨cell_of_blk (j := 0) h1 rfl, cell_of_blk (j := 1) h1 rfl, cell_of_blk (j := 2) h1 rfl, cell_of_blk (j := 3) h1 rfl, cell_of_blk (j := 0) h2 rfl, cell_of_blk (j := 1) h2 rfl, cell_of_blk (j := 2) h2 rfl⟩)
  have hlw3 := (Array.getElem?_eq_some_iff.1 HM3.out.gw).1
  unfold veV at HWY
  clear hv5
  go_upto_region 5 with (fail)
  go_cut [10, 11] (fun s u wx => FsR T L v t w3 s u wx)
  case first =>
    have hB0 := (Below.refl w3.heap.size w3).drew
    have hA1 := ((Below.refl w3.heap.size w3).alloc (Nat.le_refl _) (.cells #[.slice none 0 0] 33 (0, 0))).drew
    have hA2 := ((Below.refl w3.heap.size w3).drew).alloc (Nat.le_refl _) (.cells #[.slice none 0 0] 33 (0, 0))
    obtain ⟨q0, q1, q2, q3, q4, q5, q6⟩ := HKEEP.out w3 (Below.refl _ _)
    go_region_held3 (fun V => V.cell? ⟨gw, 0, none⟩ = some (.slice AL N C) ∧ V.cell? ⟨gw, 1, none⟩ = some (.int .i64 t.a) ∧ V.cell? ⟨gw, 2, none⟩ = some (.int .i64 t.b) ∧ V.cell? ⟨gw, 3, none⟩ = some (.int .i64 t.c) ∧ V.cell? ⟨g5, 0, none⟩ = some (.int .i64 v.a) ∧ V.cell? ⟨g5, 1, none⟩ = some (.int .i64 v.b) ∧ V.cell? ⟨g5, 2, none⟩ = some (.int .i64 v.c))
      (first | (exact hS) | (with_reducible exact HKEEP.out _ (hB1.setCell hg1 _)) | go_keep)
      (first
        | (go_at_call 38; (first
          | ((with_reducible refine (HWY.out _ hB0).mono ?_); rintro e wA ⟨A, n, c, ok, rfl, hP, hbA⟩; have hB1 := hB0.trans hbA; have hS := HKEEP.out wA hB1)
          | ((with_reducible refine (HWY.out _ hA1).mono ?_); rintro e wA ⟨A, n, c, ok, rfl, hP, hbA⟩; have hB1 := zz_bel0 hbA; have hZ1 := zz_new0 hbA; have hg1 := Nat.le_refl w3.heap.size; have z0 := cell_of_blk (j := 0) hZ1 rfl; have f0 := zz_froz hZ1 0; have hS := HKEEP.out wA hB1)
          | ((with_reducible refine (HWY.out _ hA2).mono ?_); rintro e wA ⟨A, n, c, ok, rfl, hP, hbA⟩; have hB1 := zz_bel hB0 hB0.size hbA; have hZ1 := zz_new hbA; have hg1 := hB0.size; have z0 := cell_of_blk (j := 0) hZ1 rfl; have f0 := zz_froz hZ1 0; have hS := HKEEP.out wA hB1))))
    · have HS1 := Lib.hid (show FsR T L v t w3 (.pointer (some ⟨wA.heap.size, 0, none⟩)) (.bool ok) (wA.alloc (.cells #[.slice A n c] 33 (0, 0))) from
        ⟨wA.heap.size, A, n, c, ok, rfl, rfl, hB1.size, zz_heap _ _, wk_mono (wk_alloc hP _) (Nat.le_refl _), hB1.alloc hB1.size _⟩)
      clear hP hbA
      go_wp2_with (fail)
      go_meet
      exact HS1.out
    · have HS1 := Lib.hid (show FsR T L v t w3 (.pointer (some ⟨w3.heap.size, 0, none⟩)) (.bool ok) (wA.setCell ⟨w3.heap.size, 0, none⟩ (.slice A n c)) from
        ⟨w3.heap.size, A, n, c, ok, rfl, rfl, Nat.le_refl _, zz_set1 hZ1, wk_mono (wk_set hP hZ1 _) (by show w3.heap.size ≤ (w3.alloc _).heap.size; simp), hB1.setCell hg1 _⟩)
      clear hP hbA
      go_wp2_with (fail)
      go_meet
      exact HS1.out
  case rest =>
  obtain ⟨g, A, n, c, ok, rfl, rfl, hge, hg1, hrow, hbx⟩ := hcut
  have HG1 := Lib.hid hg1
  have HROW := Lib.hid hrow
  have HBX := Lib.hid hbx
  have HMX := Lib.hid (HM3.out.grown hbx)
  have HGX := Lib.hid (show w.grownBy wc (some mc) from grown_trans HGR.out ⟨hbx.os, hbx.tape, hbx.output, hbx.size, fun b hb _ => hbx.block b hb⟩)
  have hg6x := (hbx.block g6 (Array.getElem?_eq_some_iff.1 HG63.out).1).trans HG63.out
  have hl6x := (Array.getElem?_eq_some_iff.1 hg6x).1
  have HZ6 := Lib.hid (fun (V : World) (hV : Below wc.heap.size wc V) (a' b' c' d' e' f' : Value) => im_set6 a' b' c' d' e' f' ((hV.block g6 hl6x).trans hg6x))
  have y0 : wc.cell? ⟨g, 0, none⟩ = some (.slice A n c) := cell_of_blk (j := 0) hg1 rfl
  have HS6 := Lib.hid (fun (V : World) (hV : Below wc.heap.size wc V) =>
    have h := (hV.block g6 hl6x).trans hg6x
    show (V.cell? ⟨g6, 0, none⟩ = some (.int .i64 0) ∧ V.cell? ⟨g6, 1, none⟩ = some (.int .i64 0) ∧ V.cell? ⟨g6, 2, none⟩ = some (.int .i64 0) ∧ V.cell? ⟨g6, 3, none⟩ = some (.slice none 0 0) ∧ V.cell? ⟨g6, 4, none⟩ = some (.slice none 0 0) ∧ V.cell? ⟨g6, 5, none⟩ = some (.int .i64 0)) ∧ ∀ j, V.frozen? ⟨g6, j, none⟩ = false from
    ⟨⟨cell_of_blk (j := 0) h rfl, cell_of_blk (j := 1) h rfl, cell_of_blk (j := 2) h rfl, cell_of_blk (j := 3) h rfl, cell_of_blk (j := 4) h rfl, cell_of_blk (j := 5) h rfl⟩, fun j => zz_froz h j⟩)
  have HEND := Lib.hid (fun (V : World) (hV : Below wc.heap.size wc V) (a' b' c' d' e' f' : Value) (W : World) (hW : W = (((((V.setCell ⟨g6, 0, none⟩ a').setCell ⟨g6, 1, none⟩ b').setCell ⟨g6, 2, none⟩ c').setCell ⟨g6, 3, none⟩ d').setCell ⟨g6, 4, none⟩ e').setCell ⟨g6, 5, none⟩ f') =>
    have h := (hV.block g6 hl6x).trans hg6x
    have hB : Below w.heap.size V W := by rw [hW]; exact im_below (Below.refl _ _) hw56.2 _ _ _ _ _ _
    show W.heap[g6]? = some (.cells #[a', b', c', d', e', f'] 91 (0, 0)) ∧ (∃ Lc, WyM B L t AL N C gw mc Lc W) ∧ w.grownBy W (some mc) from
    ⟨by rw [hW]; exact im_set6 _ _ _ _ _ _ h, ⟨Lc2, (HMX.out.grown hV).aside h (by omega) hB.size (fun b hb => by rw [hW]; exact im_ne _ _ _ _ _ _ _ _ b hb)⟩, grown_over (grown_over HGX.out (hV.mono HGX.out.size)) hB⟩)
  have k0 : wc.cell? ⟨gw, 0, none⟩ = some (.slice AL N C) := cell_of_blk (j := 0) HMX.out.gw rfl
  have HBS := Lib.hid hge
  clear hg1 hrow hbx HKEEP HWY hge hg6x HZ6
  cases ok with
  | false =>
    have HFI := Lib.hid (show FirP L v t none from ⟨T, HCO.out, (firV_no HCO.out (HROW.out.2 rfl)).symm⟩)
    obtain ⟨⟨s0, s1, s2, s3, s4, s5⟩, hf⟩ := HS6.out wc (Below.refl _ _)
    have f0 := hf 0
    have f1 := hf 1
    have f2 := hf 2
    have f3 := hf 3
    have f4 := hf 4
    have f5 := hf 5
    clear hf HBX
    go_wp2_with (fail)
    obtain ⟨W6, e6⟩ : ∃ V : World, V = (((((wc.setCell ⟨g6, 0, none⟩ (.int .i64 0)).setCell ⟨g6, 1, none⟩ (.int .i64 0)).setCell ⟨g6, 2, none⟩ (.int .i64 0)).setCell ⟨g6, 3, none⟩ (.slice none 0 0)).setCell ⟨g6, 4, none⟩ (.slice none 0 0)).setCell ⟨g6, 5, none⟩ (.int .i64 0) := ⟨_, rfl⟩
    rw [← e6]
    obtain ⟨hz, hm, hgw⟩ := HEND.out wc (Below.refl _ _) _ _ _ _ _ _ W6 e6
    have HMZ := Lib.hid hm
    have HGZ := Lib.hid hgw
    clear e6 s0 s1 s2 s3 s4 s5 f0 f1 f2 f3 f4 f5 hm hgw y0 k0
    have s0 := cell_of_blk (j := 0) hz rfl
    have s1 := cell_of_blk (j := 1) hz rfl
    have s2 := cell_of_blk (j := 2) hz rfl
    have s3 := cell_of_blk (j := 3) hz rfl
    have s4 := cell_of_blk (j := 4) hz rfl
    have s5 := cell_of_blk (j := 5) hz rfl
    clear hz
    exact bodyPost_ret (v := .tuple #[.agg #[.int .i64 0, .int .i64 0, .int .i64 0, .slice none 0 0, .slice none 0 0, .int .i64 0], .bool false]) (by simp [results, Tryz.results123, go_sem, s0, s1, s2, s3, s4, s5]) rfl ⟨HMZ.out, HGZ.out, .inl ⟨rfl, HFI.out⟩⟩
  | true =>
    obtain ⟨l, hway, hn, hn8, ho, hfs⟩ := HROW.out.1 rfl
    have HWAY := Lib.hid hway
    have HFS := Lib.hid hfs
    clear hfs
    have HNL := Lib.hid hn
    have HO := Lib.hid ho
    clear hway hn ho
    by_cases hn0 : n = 0
    · subst hn0
      have HFI := Lib.hid (show FirP L v t none from ⟨T, HCO.out, by
        have hl0 := List.eq_nil_of_length_eq_zero HNL.out.symm
        unfold firV
        rcases HFS.out with ⟨_, h2⟩ | ⟨_, z, b, _, h3⟩
        · rw [if_pos h2.symm]
        · rw [hl0] at h3; cases h3⟩)
      clear HNL hn8 HWAY HO
      obtain ⟨⟨s0, s1, s2, s3, s4, s5⟩, hf⟩ := HS6.out wc (Below.refl _ _)
      have f0 := hf 0
      have f1 := hf 1
      have f2 := hf 2
      have f3 := hf 3
      have f4 := hf 4
      have f5 := hf 5
      clear hf HBX
      go_wp2_with (fail)
      obtain ⟨W6, e6⟩ : ∃ V : World, V = (((((wc.setCell ⟨g6, 0, none⟩ (.int .i64 0)).setCell ⟨g6, 1, none⟩ (.int .i64 0)).setCell ⟨g6, 2, none⟩ (.int .i64 0)).setCell ⟨g6, 3, none⟩ (.slice none 0 0)).setCell ⟨g6, 4, none⟩ (.slice none 0 0)).setCell ⟨g6, 5, none⟩ (.int .i64 0) := ⟨_, rfl⟩
      rw [← e6]
      obtain ⟨hz, hm, hgw⟩ := HEND.out wc (Below.refl _ _) _ _ _ _ _ _ W6 e6
      have HMZ := Lib.hid hm
      have HGZ := Lib.hid hgw
      clear e6 s0 s1 s2 s3 s4 s5 f0 f1 f2 f3 f4 f5 hm hgw y0 k0
      have s0 := cell_of_blk (j := 0) hz rfl
      have s1 := cell_of_blk (j := 1) hz rfl
      have s2 := cell_of_blk (j := 2) hz rfl
      have s3 := cell_of_blk (j := 3) hz rfl
      have s4 := cell_of_blk (j := 4) hz rfl
      have s5 := cell_of_blk (j := 5) hz rfl
      clear hz
      exact bodyPost_ret (v := .tuple #[.agg #[.int .i64 0, .int .i64 0, .int .i64 0, .slice none 0 0, .slice none 0 0, .int .i64 0], .bool false]) (by simp [results, Tryz.results123, go_sem, s0, s1, s2, s3, s4, s5]) rfl ⟨HMZ.out, HGZ.out, .inl ⟨rfl, HFI.out⟩⟩
    · obtain ⟨y, l', rfl⟩ : ∃ y l', l = y :: l' := by
        cases l with
        | nil => exact absurd HNL.out hn0
        | cons y l' => exact ⟨y, l', rfl⟩
      obtain ⟨b, o, rfl, hbw, hC⟩ := (own_row HO.out).posR veC_len (by omega) (by simp)
      have HFX := Lib.hid (idxI_any L y N C g b o n c AL wc (HMX.out.im.mono HMX.out.sz) HN.out hN8 (by obtain ⟨x, hx, h1⟩ := HWAY.out.1; exact ⟨x, (mem_tak.1 hx).1, h1⟩) (by omega) y0 (rec_cell veC_len hC 0 y rfl 0 _ rfl) (rec_cell veC_len hC 0 y rfl 1 _ rfl) (rec_cell veC_len hC 0 y rfl 2 _ rfl))
      have hnI : ((n : Int) = 0) = False := eq_false (by omega)
      clear hC hbw
      go_wp2_with (fail)
      refine HFX.out.mono ?_
      rintro e w4 ⟨⟨k, x, rfl, hx, hxy⟩, hb4⟩
      have HFI := Lib.hid (show FirP L v t (some x) from ⟨T, HCO.out, by
        unfold firV
        rcases HFS.out with ⟨h2, _⟩ | ⟨h1, z, b, h2, h3⟩
        · cases h2
        · have h4 : y = z.v := by injection h3
          rw [if_neg h1, h2]
          show some x = some z
          rw [im_uniq HL.out (List.mem_of_getElem? hx) (mem_tak.1 (nxB_mem h2)).1 (hxy.trans h4)]⟩)
      have HXT := Lib.hid (show x ∈ L ∧ x ∈ tak L v from by
        have h1 := List.mem_of_getElem? hx
        refine ⟨h1, ?_⟩
        obtain ⟨x', hx', h2⟩ := HWAY.out.1
        rw [im_uniq HL.out h1 (mem_tak.1 hx').1 (hxy.trans h2.symm)]
        exact hx')
      have hkN : k < N := by have := (List.getElem?_eq_some_iff.1 hx).1; have := HN.out; omega
      have hkI : (k : Int) < (N : Int) := by omega
      obtain ⟨b2, o2, rfl, hbw2, hC2⟩ := ((HMX.out.grown hb4).im.row).posR imC_len (by omega) (by have := HN.out; omega)
      have c0 : w4.cell? ⟨b2, o2 + k * 6, none⟩ = some (.int .i64 x.v.a) := rec_cell imC_len hC2 k x hx 0 _ rfl
      have c1 := rec_cell imC_len hC2 k x hx 1 _ rfl
      have c2 := rec_cell imC_len hC2 k x hx 2 _ rfl
      have c3 := rec_cell imC_len hC2 k x hx 3 _ rfl
      have c4 := rec_cell imC_len hC2 k x hx 4 _ rfl
      have c5 := rec_cell imC_len hC2 k x hx 5 _ rfl
      have k4 : w4.cell? ⟨gw, 0, none⟩ = some (.slice (some ⟨b2, o2, none⟩) N C) := cell_of_blk (j := 0) (HMX.out.grown hb4).gw rfl
      obtain ⟨⟨s0, s1, s2, s3, s4, s5⟩, hf⟩ := HS6.out w4 hb4
      have f0 := hf 0
      have f1 := hf 1
      have f2 := hf 2
      have f3 := hf 3
      have f4 := hf 4
      have f5 := hf 5
      have HB4 := Lib.hid hb4
      clear hf hb4 hC2 hx hxy HFX
      go_wp2_with (fail)
      obtain ⟨W6, e6⟩ : ∃ V : World, V = (((((w4.setCell ⟨g6, 0, none⟩ (.int .i64 x.v.a)).setCell ⟨g6, 1, none⟩ (.int .i64 x.v.b)).setCell ⟨g6, 2, none⟩ (.int .i64 x.v.c)).setCell ⟨g6, 3, none⟩ (.slice x.ma x.mo.length x.mc)).setCell ⟨g6, 4, none⟩ (.slice x.fa x.rs.length x.fc)).setCell ⟨g6, 5, none⟩ (.int .i64 x.sz) := ⟨_, rfl⟩
      rw [← e6]
      obtain ⟨hz, hm, hgw⟩ := HEND.out w4 HB4.out _ _ _ _ _ _ W6 e6
      have HMZ := Lib.hid hm
      have HGZ := Lib.hid hgw
      clear e6 s0 s1 s2 s3 s4 s5 f0 f1 f2 f3 f4 f5 hm hgw y0 k0 c0 c1 c2 c3 c4 c5 k4
      have s0 := cell_of_blk (j := 0) hz rfl
      have s1 := cell_of_blk (j := 1) hz rfl
      have s2 := cell_of_blk (j := 2) hz rfl
      have s3 := cell_of_blk (j := 3) hz rfl
      have s4 := cell_of_blk (j := 4) hz rfl
      have s5 := cell_of_blk (j := 5) hz rfl
      clear hz
      exact bodyPost_ret (v := .tuple #[imV x, .bool true]) (by unfold imV; simp [results, Tryz.results123, go_sem, s0, s1, s2, s3, s4, s5]) rfl ⟨HMZ.out, HGZ.out, .inr ⟨x, HXT.out.1, rfl, HXT.out.2, HFI.out⟩⟩
end Go.Proofs.YtidgicbhgnbidaaGreatDoor
