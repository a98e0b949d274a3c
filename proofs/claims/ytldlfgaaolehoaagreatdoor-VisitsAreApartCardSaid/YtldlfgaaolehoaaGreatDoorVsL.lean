/- VisitsAreApart: the law function. -/
import Derived.Test.YtldlfgaaolehoaaGreatDoorVsU
import Derived.Test.YtldlfgaaolehoaaGreatDoorFeK
import Derived.Test.YtldlfgaaolehoaaGreatDoorFxB
import Derived.Test.YtldlfgaaolehoaaGreatDoorMgA
namespace Go.Proofs.YtldlfgaaolehoaaGreatDoor
open Go.RowKit

theorem Trk.narV {l : List Fx} {j : Nat} {a : Int} (h : Trk l j a) : ∀ x ∈ l, NarF x := fun x hx => by
  have := h.ok x hx
  exact ⟨by omega, by omega, by omega, by omega⟩
theorem fcN_of {l : List Pt} (h : ∀ x ∈ l, B2 x) : FcN l := ⟨fun y hy => by
  have := h y hy
  unfold B2 at this
  exact ⟨by unfold ptF; simp only; omega, by unfold ptF; simp only; omega, by unfold ptF; simp only; omega, by unfold ptF; simp only; omega⟩⟩
theorem FcAt.grownV {w w' : World} {l : List Pt} {n c b o p : Nat} (h : FcAt w l n c b o) (hg : w.grownBy w' (some p)) (hb : b ≠ p) : FcAt w' l n c b o :=
  ⟨h.ok, h.len, h.cap, h.cells.keep (hg.block b h.lt (by intro e; injection e with e; omega)), Nat.lt_of_lt_of_le h.lt hg.size⟩

theorem vs1_any (y : Fx) (v : Int) (g : Nat) (w : World) (h : w.cell? ⟨g, 0, none⟩ = some (.int .i64 v)) :
    Calls Tryz.prog 44 #[fxV y, .pointer (some ⟨g, 0, none⟩)] w fun e w' => e = .returned (.bool (y.1 == v)) ∧ Below w.heap.size w w' := by
  have hg := World.block_lt_of_cell? w _ h
  simp only at hg
  obtain ⟨a, X, Y, E⟩ := y
  unfold fxV
  simp only
  obtain ⟨r, er⟩ : ∃ r, r = (a == v) := ⟨_, rfl⟩
  have HR := Lib.hid er
  rw [← er]
  clear er
  go_enter Tryz.func44, Tryz.ntmps44
  go_wp2_with (fail)
  go_ret
  exact ⟨ret_boolB (by rw [HR.out]), (Below.refl _ _).alloc (Nat.le_refl _) _⟩
theorem vs2_any (y : Fx) (v : Int) (g : Nat) (w : World) (h : w.cell? ⟨g, 1, none⟩ = some (.int .i64 v)) :
    Calls Tryz.prog 46 #[fxV y, .pointer (some ⟨g, 0, none⟩)] w fun e w' => e = .returned (.bool (y.1 == v)) ∧ Below w.heap.size w w' := by
  have hg := World.block_lt_of_cell? w _ h
  simp only at hg
  obtain ⟨a, X, Y, E⟩ := y
  unfold fxV
  simp only
  obtain ⟨r, er⟩ : ∃ r, r = (a == v) := ⟨_, rfl⟩
  have HR := Lib.hid er
  rw [← er]
  clear er
  go_enter Tryz.func46, Tryz.ntmps46
  go_wp2_with (fail)
  go_ret
  exact ⟨ret_boolB (by rw [HR.out]), (Below.refl _ _).alloc (Nat.le_refl _) _⟩
/-- What IndexFunc answers. -/
def IxPost (L : List Fx) (P : Fx → Bool) (w : World) (e : Ending) (w' : World) : Prop :=
  ∃ r : Int, e = .returned (.int .i64 r) ∧ (((∀ y ∈ L, P y = false)) ∨ ∃ (K : Nat) (y : Fx), r = (K : Int) ∧ L[K]? = some y ∧ P y = true) ∧ Below w.heap.size w w'

set_option maxRecDepth 100000 in
set_option maxHeartbeats 2000000 in
theorem idxV_any (F : Nat) (cap : Value) (L : List Fx) (P : Fx → Bool) (n c b o : Nat) (w : World) (hn : L.length = n) (hn5 : n ≤ 5000) (hb : b < w.heap.size) (hc : Cells w b o (recs fxC L))
    (hrun : ∀ (args : Array Value) (V : World), (callFunc F args).run Tryz.prog V = .ok (.enter F args) V)
    (hf : ∀ (V : World) (x : Fx), Below w.heap.size w V → Calls Tryz.prog F #[fxV x, cap] V fun e w' => e = .returned (.bool (P x)) ∧ Below V.heap.size V w') :
    Calls Tryz.prog 43 #[.slice (some ⟨b, o, none⟩) n c, .func (.func F) #[] #[cap]] w fun e w' => IxPost L P w e w' := by
  have HC := Lib.hid hc
  have HF := Lib.hid hf
  have HN := Lib.hid hn
  clear hc hf hn
  go_enter Tryz.func43, Tryz.ntmps43
  go_wp2_with (fail)
  go_loopw [8] (fun i wr => ∃ k : Nat, k ≤ n ∧ i = .int .i64 k ∧ (∀ (j : Nat) (y : Fx), j < k → L[j]? = some y → P y = false) ∧ Below w.heap.size w wr) (fun i _ => n - (intOf i).toNat)
  case atStart => exact ⟨0, Nat.zero_le _, rfl, fun j y hj => by omega, Below.refl _ _⟩
  case round =>
    obtain ⟨k, hk, rfl, hno, hbl⟩ := hrel
    have hsz := hbl.size
    have HBL := Lib.hid hbl
    have HNO := Lib.hid hno
    by_cases hlt : k < n
    · obtain ⟨x, hx⟩ : ∃ x, L[k]? = some x := ⟨_, List.getElem?_eq_getElem (by have := HN.out; omega)⟩
      have hcr := HC.out.keep (hbl.block b hb)
      obtain ⟨c0, c1, c2, c3, c4⟩ := fix_cells hcr k x hx
      have HX := Lib.hid hx
      have HCALL := Lib.hid (HF.out wr x hbl)
      obtain ⟨t, et⟩ : ∃ t, t = P x := ⟨_, rfl⟩
      rw [← et] at HCALL
      have HT := Lib.hid et
      unfold fxV at HCALL
      obtain ⟨a, X, Y, E⟩ := x
      simp only at c1 c2 c3 c4 HCALL
      have hlt' : (k : Int) < (n : Int) := by omega
      have hbw : b < wr.heap.size := by omega
      clear hbl hcr hx hno et
      go_wp2_with (fail)
      refine HCALL.out.mono ?_
      rintro e w' ⟨rfl, hbw'⟩
      have HB3 := Lib.hid (show Below w.heap.size w w' from (HBL.out).trans (hbw'.mono hsz))
      clear hbw'
      cases t with
      | true =>
        go_wp2_with (fail)
        go_ret
        exact ⟨k, rfl, .inr ⟨k, _, rfl, HX.out, HT.out.symm⟩, HB3.out⟩
      | false =>
        go_wp2_with (fail)
        go_roundw
        case rel =>
          refine ⟨k + 1, by omega, by go_num, ?_, HB3.out⟩
          intro j y hj hy
          rcases Nat.lt_or_ge j k with h | h
          · exact HNO.out j y h hy
          · obtain rfl : j = k := by omega
            rw [HX.out] at hy
            injection hy with hy
            rw [← hy]
            exact HT.out.symm
        case measure => simp [intOf]; omega
    · clear hbl hno
      go_wp2_with (fail)
      go_ret
      refine ⟨-1, rfl, .inl ?_, HBL.out⟩
      intro y hy
      obtain ⟨j, hj⟩ := List.mem_iff_getElem?.1 hy
      have := (List.getElem?_eq_some_iff.1 hj).1
      exact HNO.out j y (by have := HN.out; omega) hj
/-- The fix of a moment. -/
theorem at_uniq {L : List Fx} (hg : GoodF L) {i k : Nat} {x y : Fx} (hx : L[i]? = some x) (hy : L[k]? = some y) (h : x.1 = y.1) : x = y := by
  rcases Nat.lt_trichotomy i k with h1 | h1 | h1
  · have := hg.lt h1 hx hy; omega
  · subst h1; rw [hx] at hy; injection hy
  · have := hg.lt h1 hy hx; omega
theorem ix_found {L : List Fx} (hg : GoodF L) {v r : Int} {i : Nat} {x : Fx} (hx : L[i]? = some x) (h : x.1 = v) (hr : ((∀ y ∈ L, (y.1 == v) = false)) ∨ ∃ (K : Nat) (y : Fx), r = (K : Int) ∧ L[K]? = some y ∧ (y.1 == v) = true) : ∃ K : Nat, r = (K : Int) ∧ L[K]? = some x := by
  rcases hr with hr | ⟨K, y, h1, h2, h3⟩
  · have := hr x (List.mem_of_getElem? hx)
    simp [h] at this
  · have e : y.1 = v := by simpa using h3
    have := at_uniq hg hx h2 (by omega)
    exact ⟨K, h1, by rw [this]; exact h2⟩
end Go.Proofs.YtldlfgaaolehoaaGreatDoor
