/- rule.spansOf by its contract. -/
import Derived.Test.YtlfphndnkgoinaaGreatDoorTkF
namespace Go.Proofs.YtlfphndnkgoinaaGreatDoor
open Go.RowKit

theorem MemI.self {B : Nat} {w0 w : World} {x : Nat} {v0 v : Nat → Value} {Q0 Q : Nat → Prop} {J : List (Int × Bool) → (Nat → Prop) → World → Prop} {rb : Nat} {r : Ru} {fv : Value} {cs : List (Int × Bool)} {t : Tk}
    (h : MemI B w0 x v0 Q0 J rb r fv cs t v Q w) : MemI B w x v Q J rb r fv cs t v Q w := ⟨h.mem, h.rule, h.j, h.dis, GrF.refl _ _, fun _ hb => hb.elim .inl (fun h => .inr (.inl h))⟩
theorem MemI.belowB {F B : Nat} {w0 w : World} {x : Nat} {v0 v : Nat → Value} {Q0 Q : Nat → Prop} {J : List (Int × Bool) → (Nat → Prop) → World → Prop} {rb : Nat} {r : Ru} {fv : Value} {cs cs0 : List (Int × Bool)} {t t0 : Tk} {caps : Array Value} (hJ : ChJ F caps B J)
    (h0 : TkI B w0 x t0 (rpV rb) fv v0) (hj : J cs0 Q0 w0) (hB : B ≤ w0.heap.size) (h : MemI B w0 x v0 Q0 J rb r fv cs t v Q w) : Below B w0 w :=
  h.gr.below (fun b _ hb => hb.elim (fun h1 => (h0.foot_lt h1).1) (fun h1 => (hJ.lt _ _ _ hj b h1).1)) hB
theorem told_chj (B bx : Nat) : ChJ 82 #[.pointer (some ⟨bx, 0, none⟩)] B (JS B bx) where
  run := fun args V => call_enter Tryz.func82 (by kernel_rfl) (by kernel_rfl) args V
  lt := fun cs Q w h b hb => by
    obtain ⟨S, h1, h2, h3, h4⟩ := h
    rcases (h4 b).1 hb with rfl | h5
    · exact ⟨h3, (Array.getElem?_eq_some_iff.1 h1).1⟩
    · exact h2.lt b h5
  keep := fun cs Q w w' h hk => by
    obtain ⟨S, h1, h2, h3, h4⟩ := h
    exact ⟨S, (hk bx ((h4 bx).2 (.inl rfl))).trans h1, own_keptB h2 fun b hb => hk b ((h4 b).2 (.inr hb)), h3, h4⟩
  call := fun cs Q w at_ up h ht hn => told_any at_ up h ht hn
theorem box_new (B : Nat) (w1 : World) (bx : Nat) (hB : B ≤ bx) (hb : w1.heap[bx]? = some (.cells #[.slice none 0 0] 87 (0, 0))) : JS B bx [] (fun b => b = bx) w1 :=
  ⟨_, hb, World.ownsRow_nil _ _ _ _, hB, fun b => ⟨.inl, fun h => h.elim id (fun h => by cases h)⟩⟩
theorem drop_pair {l : List (Int × Int)} (h : (l.map (·.1)).Pairwise (· < ·)) {k : Nat} {s : Int × Int} (hs : l[k]? = some s) : ∀ y ∈ l.drop (k + 1), s.1 < y.1 := by
  intro y hy
  have hk := (List.getElem?_eq_some_iff.1 hs)
  have e : l.drop k = s :: l.drop (k + 1) := by rw [List.drop_eq_getElem_cons hk.1, hk.2]
  have h2 : ((l.drop k).map (·.1)).Pairwise (· < ·) := h.sublist ((List.drop_sublist k l).map _)
  rw [e] at h2
  exact (List.pairwise_cons.1 h2).1 y.1 (List.mem_map_of_mem hy)
def SpPost (w : World) (r : Ru) (l : List (Int × Int)) (e : Ending) (w' : World) : Prop :=
  ∃ A n c sp, e = .returned (.slice A n c) ∧ SpOf r l sp ∧ n = sp.length ∧ w'.ownsRow w.heap.size 138 2 (.slice A n c) n (recs sqC sp) ∧ Below w.heap.size w w'
set_option maxRecDepth 100000 in
set_option maxHeartbeats 4000000 in
theorem spansOf_any (r : Ru) (l : List (Int × Int)) (rb n c : Nat) (A : Option Addr) (w : World) (hm : RuM w rb r) (hR : RuR r) (hl : SqOk l) (hn : l.length = n) (hn2 : n ≤ 4990) (hr : Row w w.heap.size A (recs sqC l)) :
    Calls Tryz.prog 39 #[.pointer (some ⟨rb, 0, none⟩), .slice A n c] w fun e w' => SpPost w r l e w' := by
  have hrl := hm.lt
  have HM := Lib.hid hm
  have HR := Lib.hid hR
  have HL := Lib.hid hl
  have HN := Lib.hid hn
  have HRW := Lib.hid hr
  clear hm hR hl hn hr
  go_enter Tryz.func39, Tryz.ntmps39
  go_upto_region 2 with (fail)
  generalize hw1 : w.alloc (.cells #[.slice none 0 0] 87) = w1
  obtain ⟨bx, ebx⟩ : ∃ z, z = w.heap.size := ⟨_, rfl⟩
  obtain ⟨B, eB⟩ : ∃ z, z = w.heap.size := ⟨_, rfl⟩
  have hb1 : Below w.heap.size w w1 := hw1 ▸ (Below.refl _ _).alloc (Nat.le_refl _) _
  have HB1 := Lib.hid (show Below B w w1 from eB ▸ hb1)
  have HM1 := Lib.hid (HM.out.below hb1 hrl)
  have HX1 := Lib.hid (show w1.heap[bx]? = some (.cells #[.slice none 0 0] 87 (0, 0)) from by rw [← hw1, ebx]; exact heap_new w _)
  have hbx1 : bx < w1.heap.size := (Array.getElem?_eq_some_iff.1 HX1.out).1
  have hBx : B ≤ bx := by omega
  have hrb : rb < B := by omega
  have HEB := Lib.hid eB
  rw [← ebx]
  clear hw1 hb1 ebx eB
  have HNT := Lib.hid (newTrack_any (F := 82) (caps := #[.pointer (some ⟨bx, 0, none⟩)]) (B := B) HM1.out HR.out (by omega))
  have hfv : fnV 82 #[.pointer (some ⟨bx, 0, none⟩)] = .func (.func 82) #[] #[.pointer (some ⟨bx, 0, none⟩)] := rfl
  have hrp : rpV rb = .pointer (some ⟨rb, 0, none⟩) := rfl
  rw [hfv, hrp] at HNT
  go_wp2_with (fail)
  refine HNT.out.mono ?_
  rintro e w2 ⟨x, v2, rfl, hI2, hb2, hf2⟩
  have HJ := Lib.hid (told_chj B bx)
  have hj2 : JS B bx [] (fun b => b = bx) w2 := box_new B w2 bx hBx ((hb2.block bx hbx1).trans HX1.out)
  have HM2 := Lib.hid (show MemI B w2 x v2 (fun b => b = bx) (JS B bx) rb r (fnV 82 #[.pointer (some ⟨bx, 0, none⟩)]) [] (tk0 r) v2 (fun b => b = bx) w2 from
    ⟨hI2, HM1.out.below hb2 HM1.out.lt, hj2, fun b hf e => by have := hf2 b hf; omega, GrF.refl _ _, fun b hb => hb.elim .inl (fun h => .inr (.inl h))⟩)
  have HB2 := Lib.hid (show Below B w w2 from HB1.out.trans (hb2.mono (by omega)))
  clear hI2 hb2 hf2 hj2 HNT HM1 HX1 HB1 hfv hrp
  go_wp2_with (fail)
  have hnI : (0 : Int) ≤ n := by omega
  go_loopw [14] (fun s wr => ∃ (k : Nat) (tk : Tk) (ck : List (Int × Bool)) (vk : Nat → Value) (Qk : Nat → Prop) (a : Int), k ≤ n ∧ s = .int .i64 (k : Int) ∧ Hid (Run r (tk0 r) (l.take k) ck tk) ∧ Hid (MemI B wr x vk Qk (JS B bx) rb r (fnV 82 #[.pointer (some ⟨bx, 0, none⟩)]) ck tk vk Qk wr) ∧ Hid (TkOk tk k a) ∧ Hid (a ≤ tEnd ∧ ∀ s ∈ l.drop k, a < s.1) ∧ Hid (Turns false ck tk.fi) ∧ Hid (TmOk ck (tkDue r tk)) ∧ Hid (Below B w wr)) (fun s _ => n - (intOf s).toNat)
  case atStart => exact ⟨0, tk0 r, [], v2, _, -1, by omega, rfl, Lib.hid (.nil _), HM2, Lib.hid (tk0_ok r), Lib.hid ⟨by unfold tEnd; omega, fun s hs => by have := (HL.out.ti s hs).1; omega⟩, Lib.hid rfl, Lib.hid (TmOk.nil _), HB2⟩
  case round =>
    obtain ⟨k, tk, ck, vk, Qk, a, hk, rfl, HRk, HMk, HKk, HAk, HTk, HTMk, HBk⟩ := hrel
    have hwB : B ≤ wr.heap.size := by have := HBk.out.size; have := HEB.out; omega
    by_cases hlt : k < n
    · have hltI : (k : Int) < n := by omega
      obtain ⟨s, hs⟩ : ∃ s, l[k]? = some s := ⟨_, List.getElem?_eq_getElem (by have := HN.out; omega)⟩
      have hpos : 0 < l.length := by have := HN.out; omega
      obtain ⟨g, o, eA, hg, hC⟩ := Row.posR sqC_len (by omega) HRW.out hpos
      subst eA
      have hgB : g < B := by have := HEB.out; omega
      have h1 := rec_cell sqC_len hC k s hs 0 _ rfl
      have h2 := rec_cell sqC_len hC k s hs 1 _ rfl
      have q0 : wr.cell? ⟨g, o + k * 2, none⟩ = some (.int .i64 s.1) := (HBk.out.cell (p := ⟨g, o + k * 2, none⟩) hgB).trans h1
      have q1 : wr.cell? ⟨g, o + k * 2 + 1, none⟩ = some (.int .i64 s.2) := (HBk.out.cell (p := ⟨g, o + k * 2 + 1, none⟩) hgB).trans h2
      have hti := HL.out.ti s (List.mem_of_getElem? hs)
      have hva := HL.out.va s (List.mem_of_getElem? hs)
      have has : a < s.1 := HAk.out.2 s (List.mem_of_getElem? (i := 0) (by rw [List.getElem?_drop]; exact hs))
      have HDP := Lib.hid (drop_pair HL.out.so hs)
      have HTK := Lib.hid (show l.take (k + 1) = l.take k ++ [s] from by rw [List.take_add_one, hs]; rfl)
      clear hC h1 h2 hs
      obtain ⟨sa, sv⟩ := s
      simp only at q0 q1 hti hva has HDP
      go_upto_region 6 with (fail)
      generalize hw3 : wr.alloc (.cells #[.int .i64 sa, .int .i64 sv] 142) = w3
      obtain ⟨sb, esb⟩ : ∃ z, z = wr.heap.size := ⟨_, rfl⟩
      have hb3 : Below wr.heap.size wr w3 := hw3 ▸ (Below.refl _ _).alloc (Nat.le_refl _) _
      have HX3 := Lib.hid (show w3.heap[sb]? = some (.cells #[.int .i64 sa, .int .i64 sv] 142 (0, 0)) from by rw [← hw3, esb]; exact heap_new wr _)
      have HM3 := Lib.hid (MemI.self (HMk.out.below HJ.out hb3))
      have HB3 := Lib.hid (show Below B w w3 from HBk.out.trans (hb3.mono hwB))
      have HOUT := Lib.hid (show ∀ b, tkF x vk b ∨ Qk b → b ≠ sb from fun b hb => by
        rcases hb with hb | hb
        · have := (HMk.out.mem.foot_lt hb).2; omega
        · have := (HJ.out.lt _ _ _ HMk.out.j b hb).2; omega)
      have c0 := cell_of_blk (j := 0) HX3.out rfl
      have hsb3 : sb < w3.heap.size := (Array.getElem?_eq_some_iff.1 HX3.out).1
      have hw3B : B ≤ w3.heap.size := by have := hb3.size; omega
      rw [← esb]
      clear hw3 hb3 esb q0 q1 hg
      have HADV := Lib.hid (advance_any sa HJ.out HR.out hrb HM3.out HKk.out (by omega) HAk.out.1 HTk.out HTMk.out)
      go_wp2_with (fail)
      refine HADV.out.mono ?_
      rintro e w4 ⟨rfl, ds, t4, v4, Q4, hadv, hM4, hT4, hTM4⟩
      have HX4 := Lib.hid (show w4.heap[sb]? = some (.cells #[.int .i64 sa, .int .i64 sv] 142 (0, 0)) from (hM4.gr.block sb hsb3 (fun h => HOUT.out sb h rfl)).trans HX3.out)
      have HB4 := Lib.hid (show Below B w w4 from HB3.out.trans (hM4.belowB HJ.out HM3.out.mem HM3.out.j hw3B))
      have HM4 := Lib.hid (MemI.self hM4)
      have HK4 := Lib.hid (TkOk.adv hadv (by have := HR.out.long; omega) HR.out.hold.1 HR.out.rest.1 HKk.out)
      have HADV4 := Lib.hid hadv
      have HT4 := Lib.hid hT4
      have HTM4 := Lib.hid hTM4
      clear hadv hM4 hT4 hTM4 c0 HADV
      have c0 := cell_of_blk (j := 0) HX4.out rfl
      have c1 := cell_of_blk (j := 1) HX4.out rfl
      have hsb4 : sb < w4.heap.size := (Array.getElem?_eq_some_iff.1 HX4.out).1
      have hw4B : B ≤ w4.heap.size := by have := HB4.out.size; have := HEB.out; omega
      have HPUT := Lib.hid (put_any (sa, sv) HM4.out.mem HM4.out.rule HR.out HK4.out (by omega) has hti.1 (Int.le_of_lt hti.2) hva hrb)
      simp only at HPUT
      go_wp2_with (fail)
      refine HPUT.out.mono ?_
      rintro e w5 ⟨rfl, v5, hI5, hG5⟩
      have hM5 := HM4.out.go HJ.out hrb hI5 hG5
      have HB5 := Lib.hid (show Below B w w5 from HB4.out.trans (hM5.belowB HJ.out HM4.out.mem HM4.out.j hw4B))
      have HM5 := Lib.hid (MemI.self hM5)
      have HRN := Lib.hid (show Run r (tk0 r) (l.take (k + 1)) (ck ++ ds) (tkPut r (sa, sv) t4) from by rw [HTK.out]; exact run_snoc HRk.out HADV4.out)
      have HKN := Lib.hid (HK4.out.put (r := r) (sa, sv) hti.1 (Int.le_of_lt hti.2) has hva)
      have HDUE := Lib.hid (show sa ≤ tkDue r t4 from by
        have := adv_due HADV4.out
        rw [minI_eq (by omega)] at this
        exact this)
      have HTMN := Lib.hid (show TmOk (ck ++ ds) (tkDue r (tkPut r (sa, sv) t4)) from by
        have hT := HR.out.t
        obtain ⟨i1, e, i2, i3, i4, _⟩ := run_times HRN.out hT.long hT.hold hT.rest 0 (tk0_due r hT) (HL.out.so.sublist ((List.take_sublist (k + 1) l).map _)) (fun s hs => HL.out.ti s (List.mem_of_mem_take hs))
        exact ⟨i1, fun c hc => ⟨(i4 c hc).1, by have := (i4 c hc).2; omega⟩⟩)
      clear hI5 hG5 hM5 HPUT c0 c1
      have hwk : IntKind.i64.wrap ((k : Int) + 1) = ((k + 1 : Nat) : Int) := by rw [IntKind.wrap_i64]; omega
      go_wp2_with (fail)
      go_roundw
      case rel => exact ⟨k + 1, _, _, v5, Q4, sa, by omega, by simp, HRN, HM5, HKN, Lib.hid ⟨Int.le_of_lt hti.2, HDP.out⟩, Lib.hid (by rw [put_fi]; exact HT4.out), HTMN, HB5⟩
      case measure => simp [intOf]; omega
    · have hkn : k = n := by omega
      have hltI : ¬ (k : Int) < n := by omega
      have HTK := Lib.hid (show l.take k = l from List.take_of_length_le (by have := HN.out; omega))
      have HADV := Lib.hid (advance_any tEnd HJ.out HR.out hrb HMk.out HKk.out (by omega) HAk.out.1 HTk.out HTMk.out)
      unfold tEnd at HADV
      clear hkn
      go_wp2_with (fail)
      refine HADV.out.mono ?_
      rintro e w4 ⟨rfl, ds, t4, v4, Q4, hadv, hM4, hT4, hTM4⟩
      have HB4 := Lib.hid (show Below B w w4 from HBk.out.trans (hM4.belowB HJ.out HMk.out.mem HMk.out.j hwB))
      obtain ⟨S, hbx4, hS4, _, _⟩ := hM4.j
      obtain ⟨SA, sc, rfl⟩ := own_slice hS4
      have c0 := cell_of_blk (j := 0) hbx4 rfl
      have hbl4 := (Array.getElem?_eq_some_iff.1 hbx4).1
      have HSP := Lib.hid (show SpOf r l (spL (ck ++ ds)) from ⟨ck, tk, ds, t4, by rw [← HTK.out]; exact HRk.out, hadv, rfl⟩)
      have HS := Lib.hid hS4
      clear hadv hM4 hT4 hTM4 hbx4 hS4
      go_wp2_with (fail)
      go_ret
      exact ⟨SA, _, sc, _, rfl, HSP.out, rfl, HEB.out ▸ HS.out, HEB.out ▸ HB4.out⟩
end Go.Proofs.YtlfphndnkgoinaaGreatDoor
