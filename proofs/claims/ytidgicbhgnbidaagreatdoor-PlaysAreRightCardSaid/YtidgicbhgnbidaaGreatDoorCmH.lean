/- Odd of the stream; marks in the making. -/
import Derived.Test.YtidgicbhgnbidaaGreatDoorCmC
import Derived.Test.YtidgicbhgnbidaaGreatDoorMyI
import Derived.Test.YtidgicbhgnbidaaGreatDoorSoS
namespace Go.Proofs.YtidgicbhgnbidaaGreatDoor
open Go.RowKit

/-- A mark, right or not, as the stream makes it. -/
structure MkRw (m : Mk) : Prop where
  at_ : -1099511627776 ≤ m.at_ ∧ m.at_ ≤ 1099511627776
  big : m.at_ ≤ 1000000 ∨ m.at_ = 1099511627776
  d : m.d ≤ 6
  v : VeOk m.v
/-- Odd: nearly always within; never between what is wanted and the far end. -/
def OdP (_lo hi : Int) (z : Int) : Prop := -1099511627776 ≤ z ∧ (z ≤ hi + 1 ∨ z = 1099511627776)
theorem odPk_ok (lo hi : Int) (h1 : 0 ≤ lo) (h2 : lo ≤ hi) (_h3 : hi ≤ 1000) (j : Nat) (h : j < 6) : OdP lo hi (([lo - 1, hi + 1, lo, hi, -1099511627776, 1099511627776] : List Int).getD j 0) := by
  have : j = 0 ∨ j = 1 ∨ j = 2 ∨ j = 3 ∨ j = 4 ∨ j = 5 := by omega
  unfold OdP
  rcases this with h | h | h | h | h | h <;> subst h <;> simp <;> omega
def OddPost (lo hi : Int) (w : World) (p k : Nat) (xs : List Int) (e : Ending) (w' : World) : Prop := ∃ z, OdP lo hi z ∧ e = .returned (.int .i64 z) ∧ Strm w' p xs (k + 2) ∧ w.grownBy w' (some p)
theorem odd_any (lo hi : Int) (h1 : 0 ≤ lo) (h2 : lo ≤ hi) (h3 : hi ≤ 1000) (w : World) (p k : Nat) (xs : List Int) (hk : k < 900000) (hs : Strm w p xs k) :
    Calls Tryz.prog 109 #[.pointer (some ⟨p, 0, none⟩), .int .i64 lo, .int .i64 hi] w fun e w' => OddPost lo hi w p k xs e w' := by
  have hplt := hs.lt
  have HS := Lib.hid hs
  have HV := Lib.hid (nextV_range xs (k + 1) (hi - lo + 1) (by omega))
  have HO := Lib.hid (odPk_ok lo hi h1 h2 h3 (nextN xs (k + 1) 6) (nextN_lt _ _ _ (by omega)))
  clear hs
  go_enter Tryz.func109, Tryz.ntmps109
  go_wp2_with (fail)
  refine (flip_any w p k xs 12 (by omega) (by omega) (by omega) HS.out).mono ?_
  rintro e w1 ⟨b, rfl, hst1, hg1⟩
  have HST1 := Lib.hid hst1
  have HG1 := Lib.hid hg1
  have hs1 := hg1.size
  clear hst1 hg1
  cases b with
  | true =>
    go_wp2_with (fail)
    refine (pick_any _ p (k + 1) _ 6 6 xs [lo - 1, hi + 1, lo, hi, -1099511627776, 1099511627776] (by omega) rfl (by omega) (by omega) (HST1.out.alloc _) (by omega) (Cells.new _ _ _ _ _ rfl)).mono ?_
    rintro e w2 ⟨rfl, hst2, hg2⟩
    have HF := Lib.hid (And.intro hst2 (grown_trans HG1.out (grown_of_alloc hg2)))
    clear hst2 hg2
    go_wp2_with (fail)
    go_ret
    exact ⟨_, HO.out, rfl, HF.out.1, HF.out.2⟩
  | false =>
    go_wp2_with (fail)
    refine (range_any w1 p (k + 1) xs lo hi (by omega) (by omega) (by omega) (by omega) (by omega) HST1.out).mono ?_
    rintro e w2 ⟨rfl, hst2, hg2⟩
    have HF := Lib.hid (And.intro hst2 (grown_trans HG1.out hg2))
    clear hst2 hg2
    go_wp2_with (fail)
    go_ret
    exact ⟨_, by have := HV.out; unfold OdP; omega, rfl, HF.out.1, HF.out.2⟩
/-- A round of the marks: what was made so far, and the mark in the making. -/
structure MrS (w0 : World) (p : Nat) (xs : List Int) (kk n c : Nat) (A : Option Addr) (M : List Mk) (g : Nat) (m : Mk) (wx : World) : Prop where
  st : Strm wx p xs kk
  gr : w0.grownBy wx (some p)
  ow : wx.ownsRow w0.heap.size 64 6 (.slice A n c) n (recs mkC M)
  b : wx.heap[g]? = some (mkB m)
  ok : MkRw m
  lo : p < w0.heap.size ∧ w0.heap.size ≤ g
  ne : ∀ b, (Value.slice A n c).ownBlock = some b → b ≠ g
theorem own_pM {w w' : World} {base n p size : Nat} {ty : TypeId} {v : Value} {xs : List Value} (h : w.ownsRow base ty size v n xs) (hp : p < base) (hg : w.grownBy w' (some p)) : w'.ownsRow base ty size v n xs :=
  h.kept (row := some p) hg (by
    cases hv : v.ownBlock with
    | none => exact .inl rfl
    | some q => exact .inr (fun e => by injection e with e; have := (h.lt q hv).1; omega))
theorem grown_overM {a b c : World} {r : Option Nat} (h : a.grownBy b r) (k : Below a.heap.size b c) : a.grownBy c r :=
  ⟨k.os.trans h.os, k.tape.trans h.tape, k.output.trans h.output, Nat.le_trans h.size k.size, fun i hi hn => (k.block i hi).trans (h.block i hi hn)⟩
theorem blk_pM {w w' : World} {p g : Nat} {o : Obj} (h : w.heap[g]? = some o) (hp : p < g) (hg : w.grownBy w' (some p)) : w'.heap[g]? = some o :=
  (hg.block g (Array.getElem?_eq_some_iff.1 h).1 (fun e => by have := Option.some.inj e; omega)).trans h
section
variable {w0 wx wy : World} {p kk n c g : Nat} {xs : List Int} {A : Option Addr} {M : List Mk} {m : Mk}
theorem MrS.strm (h : MrS w0 p xs kk n c A M g m wx) {kk' : Nat} (hs : Strm wy p xs kk') (hg : wx.grownBy wy (some p)) : MrS w0 p xs kk' n c A M g m wy :=
  ⟨hs, grown_trans h.gr hg, own_pM h.ow h.lo.1 hg, blk_pM h.b (by have := h.lo; omega) hg, h.ok, h.lo, h.ne⟩
theorem MrS.below (h : MrS w0 p xs kk n c A M g m wx) (hb : Below wx.heap.size wx wy) : MrS w0 p xs kk n c A M g m wy :=
  h.strm (h.st.below hb) ⟨hb.os, hb.tape, hb.output, hb.size, fun b hl _ => hb.block b hl⟩
theorem MrS.put (h : MrS w0 p xs kk n c A M g m wx) {m' : Mk} (hb : wy.heap[g]? = some (mkB m')) (hr : MkRw m') (hB : Below w0.heap.size wx wy) (hk : ∀ b, b ≠ g → wy.heap[b]? = wx.heap[b]?) : MrS w0 p xs kk n c A M g m' wy := by
  obtain ⟨l1, l2⟩ := h.lo
  exact ⟨h.st.keep (fun z hz => hk z (by omega)), grown_overM h.gr hB, own_keepS h.ow (fun b hb' => hk b (h.ne b hb')), hb, hr, h.lo, h.ne⟩
theorem MrS.dev (h : MrS w0 p xs kk n c A M g m wx) {d : Nat} (hd : d ≤ 6) : MrS w0 p xs kk n c A M g ⟨m.at_, d, m.kd, m.v⟩ (wx.setCell ⟨g, 1, none⟩ (.string (dvT d))) :=
  h.put (by have hb := h.b; unfold mkB at hb; exact (setblkV (j := 1) _ hb).trans rfl) ⟨h.ok.at_, h.ok.big, hd, h.ok.v⟩ ((Below.refl _ _).setCell h.lo.2 _) fun b hb => Below.heap_setCell _ _ _ _ hb
theorem MrS.kind (h : MrS w0 p xs kk n c A M g m wx) (k : Int) : MrS w0 p xs kk n c A M g ⟨m.at_, m.d, k, m.v⟩ (wx.setCell ⟨g, 2, none⟩ (.int .i64 k)) :=
  h.put (by have hb := h.b; unfold mkB at hb; exact (setblkV (j := 2) _ hb).trans rfl) ⟨h.ok.at_, h.ok.big, h.ok.d, h.ok.v⟩ ((Below.refl _ _).setCell h.lo.2 _) fun b hb => Below.heap_setCell _ _ _ _ hb
theorem MrS.ver (h : MrS w0 p xs kk n c A M g m wx) {v : Ve} (hv : VeOk v) : MrS w0 p xs kk n c A M g ⟨m.at_, m.d, m.kd, v⟩ (((wx.setCell ⟨g, 3, none⟩ (.int .i64 v.a)).setCell ⟨g, 4, none⟩ (.int .i64 v.b)).setCell ⟨g, 5, none⟩ (.int .i64 v.c)) :=
  h.put (by have hb := h.b; unfold mkB at hb; have e1 := (setblkV (j := 3) (.int .i64 v.a) hb).trans rfl; have e2 := (setblkV (j := 4) (.int .i64 v.b) e1).trans rfl; exact (setblkV (j := 5) (.int .i64 v.c) e2).trans rfl) ⟨h.ok.at_, h.ok.big, h.ok.d, hv⟩ ((((Below.refl _ _).setCell h.lo.2 _).setCell h.lo.2 _).setCell h.lo.2 _) fun b hb => (Below.heap_setCell _ _ _ _ hb).trans ((Below.heap_setCell _ _ _ _ hb).trans (Below.heap_setCell _ _ _ _ hb))
theorem MrS.time (h : MrS w0 p xs kk n c A M g m wx) {z : Int} (hz : -1099511627776 ≤ z ∧ z ≤ 1099511627776) (hz2 : z ≤ 1000000 ∨ z = 1099511627776) : MrS w0 p xs kk n c A M g ⟨z, m.d, m.kd, m.v⟩ (wx.setCell ⟨g, 0, none⟩ (.int .i64 z)) :=
  h.put (by have hb := h.b; unfold mkB at hb; exact (setblkV (j := 0) _ hb).trans rfl) ⟨hz, hz2, h.ok.d, h.ok.v⟩ ((Below.refl _ _).setCell h.lo.2 _) fun b hb => Below.heap_setCell _ _ _ _ hb
end
theorem zz_heapM (w : World) (o : Obj) : (w.alloc o).heap[w.heap.size]? = some o := by
  show (w.heap.push o)[w.heap.size]? = some o
  rw [Array.getElem?_push_size]
theorem noFr {w : World} {g : Nat} {m : Mk} (h : w.heap[g]? = some (mkB m)) (j : Nat) : w.frozen? ⟨g, j, none⟩ = false := by
  unfold mkB at h
  simp [World.frozen?, h]
def mkOut (wx : World) (g : Nat) (x : Mk) : World := (((((wx.setCell ⟨g, 0, none⟩ (.int .i64 x.at_)).setCell ⟨g, 1, none⟩ (.string (dvT x.d))).setCell ⟨g, 2, none⟩ (.int .i64 x.kd)).setCell ⟨g, 3, none⟩ (.int .i64 x.v.a)).setCell ⟨g, 4, none⟩ (.int .i64 x.v.b)).setCell ⟨g, 5, none⟩ (.int .i64 x.v.c)
theorem mk_set6 {wx : World} {g : Nat} {m : Mk} (x : Mk) (h : wx.heap[g]? = some (mkB m)) : (mkOut wx g x).heap[g]? = some (mkB x) := by
  unfold mkB at h
  have e0 := (setblkV (j := 0) (.int .i64 x.at_) h).trans rfl
  have e1 := (setblkV (j := 1) (.string (dvT x.d)) e0).trans rfl
  have e2 := (setblkV (j := 2) (.int .i64 x.kd) e1).trans rfl
  have e3 := (setblkV (j := 3) (.int .i64 x.v.a) e2).trans rfl
  have e4 := (setblkV (j := 4) (.int .i64 x.v.b) e3).trans rfl
  exact (setblkV (j := 5) (.int .i64 x.v.c) e4).trans rfl
theorem mkOut_keep (wx : World) (g : Nat) (x : Mk) (b : Nat) (hb : b ≠ g) : (mkOut wx g x).heap[b]? = wx.heap[b]? :=
  (Below.heap_setCell _ _ _ _ hb).trans ((Below.heap_setCell _ _ _ _ hb).trans ((Below.heap_setCell _ _ _ _ hb).trans ((Below.heap_setCell _ _ _ _ hb).trans ((Below.heap_setCell _ _ _ _ hb).trans (Below.heap_setCell _ _ _ _ hb)))))
theorem mkOut_below {B : Nat} (wx : World) (g : Nat) (x : Mk) (hB : B ≤ g) : Below B wx (mkOut wx g x) :=
  ((((((Below.refl B wx).setCell hB _).setCell hB _).setCell hB _).setCell hB _).setCell hB _).setCell hB _
theorem MrS.aside {w0 wx : World} {p kk n c g g2 : Nat} {xs : List Int} {A : Option Addr} {M : List Mk} {m : Mk} (h : MrS w0 p xs kk n c A M g m wx) (x : Mk) (h1 : g2 ≠ g) (h2 : w0.heap.size ≤ g2) (h3 : ∀ b, (Value.slice A n c).ownBlock = some b → b ≠ g2) : MrS w0 p xs kk n c A M g m (mkOut wx g2 x) := by
  obtain ⟨l1, l2⟩ := h.lo
  exact ⟨h.st.keep (fun z hz => mkOut_keep _ _ _ z (by omega)), grown_overM h.gr (mkOut_below _ _ _ h2), own_keepS h.ow (fun b hb' => mkOut_keep _ _ _ b (h3 b hb')), (mkOut_keep _ _ _ g h1.symm).trans h.b, h.ok, h.lo, h.ne⟩
theorem dvT_beq7 {i j : Nat} (hi : i ≤ 6) (hj : j ≤ 6) : (dvT i == dvT j) = decide (i = j) ∧ ((dvT i).toList == (dvT j).toList) = decide (i = j) := by
  have h : ∀ i : Fin 7, ∀ j : Fin 7, ((dvT i == dvT j) = decide (i.1 = j.1) ∧ ((dvT i).toList == (dvT j).toList) = decide (i.1 = j.1)) := by decide +kernel
  exact h ⟨i, by omega⟩ ⟨j, by omega⟩
end Go.Proofs.YtidgicbhgnbidaaGreatDoor
