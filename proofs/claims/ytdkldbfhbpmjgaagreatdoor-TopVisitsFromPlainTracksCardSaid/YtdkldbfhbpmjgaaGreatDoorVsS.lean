/- place.surely, place.Surely by their contracts. -/
import Derived.Test.YtdkldbfhbpmjgaaGreatDoorVsR
import Derived.Test.YtdkldbfhbpmjgaaGreatDoorFeI
import Derived.Test.YtdkldbfhbpmjgaaGreatDoorFxE
namespace Go.Proofs.YtdkldbfhbpmjgaaGreatDoor
open Go.RowKit

theorem less_one (E P Q : Nat) (w : World) (h1 : E < 9223372036854775808) (h2 : P < 9223372036854775808) (h3 : Q < 9223372036854775808) :
    Calls Tryz.prog 27 #[.agg #[.int .i64 (E : Int), .int .i64 1], .agg #[.int .i64 (P : Int), .int .i64 (Q : Int)]] w fun e w' => (∃ t : Bool, e = .returned (.bool t) ∧ (t = true ↔ (E : Int) * (Q : Int) < (P : Int))) ∧ Below w.heap.size w w' := by
  refine Calls.mono (less_any E 1 P Q w h1 (by decide) h2 h3) ?_
  rintro e w' ⟨rfl, hb⟩
  refine ⟨⟨_, rfl, ?_⟩, hb⟩
  rw [decide_eq_true_iff, Nat.mul_one]
  exact_mod_cast Iff.rfl

set_option maxRecDepth 100000 in
set_option maxHeartbeats 4000000 in
theorem surely_any (l : List Pt) (x : Fx) (n c b o : Nat) (w : World) (hn : l.length = n) (hn0 : 0 < n) (hn2 : n ≤ 1000) (hl : ∀ y ∈ l, NarF (ptF y)) (hl2 : ∀ y ∈ l, SpB y) (hx : NarF x) (hxo : OkF x) (hc : Cells w b o (recs ptC l)) (hb : b < w.heap.size) :
    Calls Tryz.prog 32 #[.slice (some ⟨b, o, none⟩) n c, fxV x] w fun e w' => e = .returned (.int .i64 (sureW l x)) ∧ Below w.heap.size w w' := by
  have hsp : SpB (x.2.1, x.2.2.1) := ⟨by have := hx.x0; simp only; omega, by have := hx.x1; simp only; omega, by have := hx.y0; simp only; omega, by have := hx.y1; simp only; omega⟩
  have HWH := Lib.hid (fun (V : World) (hV : Below w.heap.size w V) => where_any l (x.2.1, x.2.2.1) n c b o V hn hn2 hl2 hsp (hc.keep (hV.block b hb)) (by have := hV.size; omega))
  have HFO := Lib.hid (fun (V : World) (hV : Below w.heap.size w V) => farOf_any x.2.2.2 l x n c b o V hn hn0 hn2 hl hx (hc.keep (hV.block b hb)) (by have := hV.size; omega))
  have he0 := hxo.e0
  have he1 := hxo.e1
  have HSW := Lib.hid (show sureW l x = if whI l (x.2.1, x.2.2.1) = 1 then 3 else if anyN (fun k => nearB x.2.2.2 (ptF (ed1 l k)) (ptF (ed2 l k)) x) n = true then 3 else whI l (x.2.1, x.2.2.1) by rw [← hn]; rfl)
  obtain ⟨r, er⟩ : ∃ r, r = sureW l x := ⟨_, rfl⟩
  obtain ⟨wv, ewv⟩ : ∃ r, r = whI l (x.2.1, x.2.2.1) := ⟨_, rfl⟩
  obtain ⟨an, ean⟩ : ∃ r, r = anyN (fun k => nearB x.2.2.2 (ptF (ed1 l k)) (ptF (ed2 l k)) x) n := ⟨_, rfl⟩
  rw [← er] at HSW ⊢
  rw [← ewv] at HWH HSW
  rw [← ean] at HSW HFO
  clear hc hl hl2 hx hxo er ewv ean hsp
  obtain ⟨xa, xx, xy, xe⟩ := x
  unfold fxV
  unfold ptV at HWH
  simp only at HWH HFO he0 he1 ⊢
  have hm := prod_le (a := xe) (b := xe) (A := 10000) (B := 10000) (by omega) (by omega) (by omega) (by omega) (by omega) (by omega)
  have hm0 := Int.mul_nonneg he0 he0
  obtain ⟨E, hE⟩ : ∃ E : Nat, (E : Int) = xe * xe := ⟨(xe * xe).toNat, by omega⟩
  rw [← hE] at hm
  have hw : IntKind.i64.wrap (xe * xe) = (E : Int) := by rw [← hE, IntKind.wrap_i64]; omega
  rw [← hE] at HFO
  clear hE hm0
  go_enter Tryz.func32, Tryz.ntmps32
  go_upto_region 2 with (fail)
  generalize hW : (w.alloc (.cells #[.string ⟨#[100]⟩, .int .i64 xa, .int .i64 xx, .int .i64 xy, .int .i64 xe] 33)).alloc (.cells #[.int .i64 xx, .int .i64 xy] 54) = W
  have hWs : W.heap.size = w.heap.size + 1 + 1 := by rw [← hW]; simp
  have hBW : Below w.heap.size w W := by rw [← hW]; exact ((Below.refl _ _).alloc (Nat.le_refl _) _).alloc (by simp) _
  have ha0 : W.heap[w.heap.size]? = some (.cells #[.string ⟨#[100]⟩, .int .i64 xa, .int .i64 xx, .int .i64 xy, .int .i64 xe] 33 (0, 0)) := by rw [← hW, Below.heap_alloc _ _ _ (by simp)]; exact heap_new w _
  have hb0 : W.heap[w.heap.size + 1]? = some (.cells #[.int .i64 xx, .int .i64 xy] 54 (0, 0)) := by
    rw [← hW]
    have h := heap_new (w.alloc (.cells #[.string ⟨#[100]⟩, .int .i64 xa, .int .i64 xx, .int .i64 xy, .int .i64 xe] 33)) (.cells #[.int .i64 xx, .int .i64 xy] 54)
    rwa [World.size_alloc] at h
  have HQ := Lib.hid (fun (V : World) (hV : Below W.heap.size W V) => show V.cell? ⟨w.heap.size, 4, none⟩ = some (.int .i64 xe) ∧ V.cell? ⟨w.heap.size + 1, 0, none⟩ = some (.int .i64 xx) ∧ V.cell? ⟨w.heap.size + 1, 1, none⟩ = some (.int .i64 xy) from by
    have h0 := (hV.block w.heap.size (by omega)).trans ha0
    have h1 := (hV.block (w.heap.size + 1) (by omega)).trans hb0
    exact ⟨cell_of_blk (j := 4) h0 rfl, cell_of_blk (j := 0) h1 rfl, cell_of_blk (j := 1) h1 rfl⟩)
  have HBW := Lib.hid hBW
  obtain ⟨q0, q1, q2⟩ := HQ.out W (Below.refl _ _)
  clear hW hBW ha0 hb0
  go_wp2_with (fail)
  refine (HWH.out W HBW.out).mono ?_
  rintro e w1 ⟨rfl, hb1⟩
  have HB1 := Lib.hid hb1
  clear hb1 q0 q1 q2
  by_cases hwv : wv = 1
  · have hr : r = 3 := by rw [HSW.out, if_pos hwv]
    subst hwv hr
    clear HSW
    go_upto_region 3 with (fail)
    refine qRegion (by kernel_rfl) (by kernel_rfl) ?_
    repeat (first
      | (go_big_quiet_want; refine qVal (fun V hV => (by (go_simp; try rfl))) ?_; simp only [Act.put, List.setIfInBounds_toArray, List.set_cons_zero, List.set_cons_succ]; go_big_quiet_on)
      | go_big_quiet_skip)
    refine wpQuiet_nil ?_
    intro w9 hb9
    have HB9 := Lib.hid (HBW.out.trans ((HB1.out.trans (hb9.mono HB1.out.size)).mono HBW.out.size))
    clear hb9
    go_wp2_with (fail)
    go_ret
    exact ⟨rfl, HB9.out⟩
  · have hwb : (wv == 1) = false := by simpa using hwv
    have HR := Lib.hid (show r = if an = true then 3 else wv by rw [HSW.out, if_neg hwv])
    have hs1 := HB1.out.size
    have HFV := Lib.hid (fun (V : World) (hV : Below w1.heap.size w1 V) => HFO.out V (HBW.out.trans ((HB1.out.trans (hV.mono hs1)).mono HBW.out.size)))
    have HKEEP := Lib.hid (fun (V : World) (hV : Below w1.heap.size w1 V) => HQ.out V (HB1.out.trans (hV.mono hs1)))
    obtain ⟨q0, q1, q2⟩ := HKEEP.out w1 (Below.refl _ _)
    have HFD := Lib.hid (HFV.out w1.drew ((Below.refl _ _).drew))
    clear HSW hwv HFO HWH
    go_upto_region 3 with (fail)
    go_region_held3 (fun V => V.cell? ⟨w.heap.size, 4, none⟩ = some (.int .i64 xe) ∧ V.cell? ⟨w.heap.size + 1, 0, none⟩ = some (.int .i64 xx) ∧ V.cell? ⟨w.heap.size + 1, 1, none⟩ = some (.int .i64 xy))
      (first | go_keep | (exact hS))
      (first
        | (go_at_call 27; refine (less_one E P Q wA (by omega) (by omega) (by omega)).mono ?_; rintro e wB ⟨⟨t, rfl, ht⟩, hbB⟩; have HT := Lib.hid ht; clear ht; have hbC := hbA.trans (hbB.mono hbA.size); have hS := HKEEP.out wB hbC)
        | (go_at_call 57; refine HFD.out.mono ?_; rintro e wA ⟨⟨P, Q, rfl, hpq, hiff⟩, hbA0⟩; have hbA : Below w1.heap.size w1 wA := ((Below.refl _ _).drew).trans hbA0; have HIF := Lib.hid hiff; clear hiff hbA0; have hS := HKEEP.out wA hbA))
    all_goals
      have HB9 := Lib.hid (HBW.out.trans ((HB1.out.trans (hbC.mono hs1)).mono HBW.out.size))
      clear hbC hbB hbA hS
      cases t with
      | true =>
        have hr : r = wv := by rw [HR.out, HIF.out.1 (HT.out.1 rfl)]; rfl
        subst hr
        go_wp2_with (fail)
        go_ret
        exact ⟨rfl, HB9.out⟩
      | false =>
        have hr : r = 3 := by
          rw [HR.out]
          cases han : an with
          | true => rfl
          | false =>
            have := HT.out.2 (HIF.out.2 han)
            cases this
        subst hr
        go_wp2_with (fail)
        go_ret
        exact ⟨rfl, HB9.out⟩
theorem goodF_one {x : Fx} (h : OkF x) : GoodF [x] := ⟨by simp, fun y hy => by rw [List.mem_singleton] at hy; subst hy; exact h, by simp⟩
/-- A fence and where devices were: all within bounds. -/
structure FcN (l : List Pt) : Prop where
  nar : ∀ y ∈ l, NarF (ptF y)
end Go.Proofs.YtdkldbfhbpmjgaaGreatDoor
