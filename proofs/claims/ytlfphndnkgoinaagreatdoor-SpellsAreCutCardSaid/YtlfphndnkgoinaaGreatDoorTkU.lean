/- rule.standing, State by their contracts. Printed by gen_TkU.py. -/
import Derived.Test.YtlfphndnkgoinaaGreatDoorTkT
namespace Go.Proofs.YtlfphndnkgoinaaGreatDoor
open Go.RowKit

theorem MemI.trans {B : Nat} {w0 w w' : World} {x : Nat} {v0 v v' : Nat → Value} {Q0 Q Q' : Nat → Prop} {J : List (Int × Bool) → (Nat → Prop) → World → Prop} {rb : Nat} {r : Ru} {fv : Value} {cs cs' : List (Int × Bool)} {t t' : Tk}
    (h : MemI B w0 x v0 Q0 J rb r fv cs t v Q w) (k : MemI B w x v Q J rb r fv cs' t' v' Q' w') : MemI B w0 x v0 Q0 J rb r fv cs' t' v' Q' w' := by
  have h1 := h.gr.size
  have h2 := k.gr.size
  refine ⟨k.mem, k.rule, k.j, k.dis, ⟨k.gr.os.trans h.gr.os, k.gr.tape.trans h.gr.tape, k.gr.output.trans h.gr.output, Nat.le_trans h1 h2, fun b hb hn => (k.gr.block b (by omega) (fun hf => ?_)).trans (h.gr.block b hb hn)⟩, fun b hb => ?_⟩
  · rcases h.sub b hf with h3 | h3 | h3
    · exact hn (.inl h3)
    · exact hn (.inr h3)
    · omega
  · rcases k.sub b hb with h3 | h3 | h3
    · exact h.sub b (.inl h3)
    · exact h.sub b (.inr h3)
    · exact .inr (.inr (by omega))
def JQ (_cs : List (Int × Bool)) (Q : Nat → Prop) (_w : World) : Prop := ∀ b, ¬ Q b
theorem quiet_chj (B : Nat) : ChJ 85 #[] B JQ where
  run := fun args V => call_enter Tryz.func85 (by kernel_rfl) (by kernel_rfl) args V
  lt := fun cs Q w h b hb => absurd hb (h b)
  keep := fun cs Q w w' h _ => h
  call := fun cs Q w at_ up h _ _ => by
    have HQ := Lib.hid h
    clear h
    show Calls Tryz.prog 85 #[.int .i64 at_, .bool up] w _
    go_enter Tryz.func85, Tryz.ntmps85
    go_wp2_with (fail)
    go_end0
    exact ⟨rfl, Q, HQ.out, GrF.refl _ _, fun b hb => .inl hb⟩
def StPost (w : World) (r : Ru) (l : List (Int × Int)) (x : Int) (e : Ending) (w' : World) : Prop :=
  ∃ tr st, e = .returned (.pointer (some ⟨tr, 0, none⟩)) ∧ w'.cell? ⟨tr, 5, none⟩ = some (.int .i64 st) ∧ StOf r l x st ∧ Below w.heap.size w w'
set_option maxRecDepth 100000 in
set_option maxHeartbeats 4000000 in
theorem standing_any (r : Ru) (L : List Te) (rb n0 c0 d : Nat) (at_ : Int) (A0 : Option Addr) (w : World) (hm : RuM w rb r) (hR : RuR r) (hL : TesOk L) (hn : L.length = n0) (hn2 : n0 ≤ 1000) (hr : Row w w.heap.size A0 (recs teC L)) (hd : d < 2) :
    Calls Tryz.prog 41 #[.pointer (some ⟨rb, 0, none⟩), .slice A0 n0 c0, .string (teT d), .int .i64 at_] w fun e w' => StPost w r (seenL L r.m d) at_ e w' := by
  have hrl := hm.lt
  have HM := Lib.hid hm
  have HR := Lib.hid hR
  have HSE := Lib.hid (fun (V : World) (hV : Below w.heap.size w V) => seen_any L r.m d n0 c0 A0 V hL hR.m hd hn hn2 ((hr.below hV).mono hV.size))
  have HL := Lib.hid (seenL_ok hL r.m d)
  have HLN := Lib.hid (show (seenL L r.m d).length ≤ 1000 from by have := seenL_len L r.m d; omega)
  obtain ⟨l, el⟩ : ∃ z, z = seenL L r.m d := ⟨_, rfl⟩
  rw [← el] at HL HLN ⊢
  have HSL := Lib.hid el
  clear hm hR hL hn hr el
  go_enter Tryz.func41, Tryz.ntmps41
  obtain ⟨B, eB⟩ : ∃ z, z = w.heap.size := ⟨_, rfl⟩
  have hrb : rb < B := by omega
  have HEB := Lib.hid eB
  have HNT := Lib.hid (newTrack_any (F := 85) (caps := #[]) (B := B) HM.out HR.out (by omega))
  clear eB
  have hfv : fnV 85 #[] = .func (.func 85) #[] #[] := rfl
  have hrp : rpV rb = .pointer (some ⟨rb, 0, none⟩) := rfl
  rw [hfv, hrp] at HNT
  go_wp2_with (fail)
  refine HNT.out.mono ?_
  rintro e w1 ⟨x, v2, rfl, hI1, hb1, hf1⟩
  have HJ := Lib.hid (quiet_chj B)
  have HM1 := Lib.hid (show MemI B w1 x v2 (fun _ => False) JQ rb r (fnV 85 #[]) [] (tk0 r) v2 (fun _ => False) w1 from
    ⟨hI1, HM.out.below hb1 hrl, fun b h => h, fun b hf e => e, GrF.refl _ _, fun b hb => hb.elim .inl (fun h => .inr (.inl h))⟩)
  have HB1 := Lib.hid (show Below B w w1 from HEB.out ▸ hb1)
  have HS1 := Lib.hid (HSE.out w1 hb1)
  have q1 : w1.cell? ⟨rb, 1, none⟩ = some (.string (meT r.m)) := HM1.out.rule.cell 1 _ rfl
  have hrl1 : rb < w1.heap.size := HM1.out.rule.lt
  clear hI1 hb1 hf1 HNT hfv hrp
  go_wp2_with (fail)
  refine HS1.out.mono ?_
  rintro e w2 ⟨A, n, c, rfl, hn3, ho3, hb3⟩
  have HM2 := Lib.hid (MemI.self (HM1.out.below HJ.out hb3))
  have HB2 := Lib.hid (show Below B w w2 from HB1.out.trans (hb3.mono (by have := HB1.out.size; have := HEB.out; omega)))
  have HN := Lib.hid (show l.length = n from by rw [HSL.out]; exact hn3.symm)
  have HRW := Lib.hid (show Row w2 w2.heap.size A (recs sqC l) from by rw [HSL.out]; exact own_row ho3)
  have HOW := Lib.hid (show w2.ownsRow w1.heap.size 142 2 (.slice A n c) n (recs sqC l) from by rw [HSL.out]; exact ho3)
  have HX1 := Lib.hid (show ∀ b, tkF x v2 b → b < w1.heap.size from fun b hb => (HM1.out.mem.foot_lt hb).2)
  have hn2' : n ≤ 1000 := by have := HLN.out; have := HN.out; omega
  clear hn3 ho3 hb3 HS1 q1
  go_wp2_with (fail)
  go_loopw [22] (fun s wr => ∃ (k : Nat) (tk : Tk) (ck : List (Int × Bool)) (vk : Nat → Value) (Qk : Nat → Prop) (a : Int), k ≤ n ∧ s = .int .i64 (k : Int) ∧ Hid (Run r (tk0 r) ((l.take k).filter fun s => decide (s.1 ≤ at_)) ck tk) ∧ Hid (MemI B w2 x v2 (fun _ => False) JQ rb r (fnV 85 #[]) ck tk vk Qk wr) ∧ Hid (TkOk tk k a) ∧ Hid (a ≤ tEnd ∧ ∀ s ∈ l.drop k, a < s.1) ∧ Hid (Turns false ck tk.fi) ∧ Hid (TmOk ck (tkDue r tk)) ∧ Hid (Below B w wr)) (fun s _ => n - (intOf s).toNat)
  case atStart => exact ⟨0, tk0 r, [], v2, _, -1, by omega, rfl, Lib.hid (.nil _), HM2, Lib.hid (tk0_ok r), Lib.hid ⟨by unfold tEnd; omega, fun s hs => by have := (HL.out.ti s hs).1; omega⟩, Lib.hid rfl, Lib.hid (TmOk.nil _), HB2⟩
  case round =>
    obtain ⟨k, tk, ck, vk, Qk, a, hk, rfl, HRk, HMk, HKk, HAk, HTk, HTMk, HBk⟩ := hrel
    have hwB : B ≤ wr.heap.size := by have := HBk.out.size; have := HEB.out; omega
    by_cases hlt : k < n
    · have hltI : (k : Int) < n := by omega
      obtain ⟨s, hs⟩ : ∃ s, l[k]? = some s := ⟨_, List.getElem?_eq_getElem (by have := HN.out; omega)⟩
      have hpos : 0 < l.length := by have := HN.out; omega
      obtain ⟨g, o, eA, hg, hC⟩ := Row.posR sqC_len (by omega) HRW.out hpos
      subst eA
      have hgo := HOW.out.lt g rfl
      have hgk : wr.heap[g]? = w2.heap[g]? := HMk.out.gr.block g hgo.2 (fun h => h.elim (fun h => by have := HX1.out g h; omega) id)
      have h1 := rec_cell sqC_len hC k s hs 0 _ rfl
      have h2 := rec_cell sqC_len hC k s hs 1 _ rfl
      have q0 : wr.cell? ⟨g, o + k * 2, none⟩ = some (.int .i64 s.1) := (show wr.cell? ⟨g, o + k * 2, none⟩ = w2.cell? ⟨g, o + k * 2, none⟩ from by simp only [World.cell?, hgk]).trans h1
      have q1 : wr.cell? ⟨g, o + k * 2 + 1, none⟩ = some (.int .i64 s.2) := (show wr.cell? ⟨g, o + k * 2 + 1, none⟩ = w2.cell? ⟨g, o + k * 2 + 1, none⟩ from by simp only [World.cell?, hgk]).trans h2
      have hti := HL.out.ti s (List.mem_of_getElem? hs)
      have hva := HL.out.va s (List.mem_of_getElem? hs)
      have has : a < s.1 := HAk.out.2 s (List.mem_of_getElem? (i := 0) (by rw [List.getElem?_drop]; exact hs))
      have HDP := Lib.hid (drop_pair HL.out.so hs)
      have HTK := Lib.hid (show l.take (k + 1) = l.take k ++ [s] from by rw [List.take_add_one, hs]; rfl)
      clear hC h1 h2 hs hgk
      obtain ⟨sa, sv⟩ := s
      simp only at q0 q1 hti hva has HDP
      go_upto_region 5 with (fail)
      generalize hw3 : wr.alloc (.cells #[.int .i64 sa, .int .i64 sv] 142) = w3
      obtain ⟨sb, esb⟩ : ∃ z, z = wr.heap.size := ⟨_, rfl⟩
      have hb3 : Below wr.heap.size wr w3 := hw3 ▸ (Below.refl _ _).alloc (Nat.le_refl _) _
      have HX3 := Lib.hid (show w3.heap[sb]? = some (.cells #[.int .i64 sa, .int .i64 sv] 142 (0, 0)) from by rw [← hw3, esb]; exact heap_new wr _)
      have HR3 := Lib.hid (HMk.out.below HJ.out hb3)
      have HM3 := Lib.hid (MemI.self HR3.out)
      have HB3 := Lib.hid (show Below B w w3 from HBk.out.trans (hb3.mono hwB))
      have HOUT := Lib.hid (show ∀ b, tkF x vk b ∨ Qk b → b ≠ sb from fun b hb => by
        rcases hb with hb | hb
        · have := (HMk.out.mem.foot_lt hb).2; omega
        · have := (HJ.out.lt _ _ _ HMk.out.j b hb).2; omega)
      have c0 := cell_of_blk (j := 0) HX3.out rfl
      have hsb3 : sb < w3.heap.size := (Array.getElem?_eq_some_iff.1 HX3.out).1
      have hw3B : B ≤ w3.heap.size := by have := hb3.size; omega
      rw [← esb]
      clear hw3 hb3 esb q0 q1
      have hwk : IntKind.i64.wrap ((k : Int) + 1) = ((k + 1 : Nat) : Int) := by rw [IntKind.wrap_i64]; omega
      by_cases hle : sa ≤ at_
      case neg =>
        have HFL := Lib.hid (show (l.take (k + 1)).filter (fun s => decide (s.1 ≤ at_)) = (l.take k).filter (fun s => decide (s.1 ≤ at_)) from by
          rw [HTK.out, List.filter_append, List.filter_cons_of_neg (by simpa using hle)]
          simp)
        go_wp2_with (fail)
        go_roundw
        case rel => exact ⟨k + 1, tk, ck, vk, Qk, sa, by omega, by simp, Lib.hid (by rw [HFL.out]; exact HRk.out), HR3, Lib.hid (HKk.out.mono (by omega) (by omega)), Lib.hid ⟨Int.le_of_lt hti.2, HDP.out⟩, HTk, HTMk, HB3⟩
        case measure => simp [intOf]; omega
      have HFL := Lib.hid (show (l.take (k + 1)).filter (fun s => decide (s.1 ≤ at_)) = (l.take k).filter (fun s => decide (s.1 ≤ at_)) ++ [(sa, sv)] from by
        rw [HTK.out, List.filter_append, List.filter_cons_of_pos (by simpa using hle)]
        simp)
      have HADV := Lib.hid (advance_any sa HJ.out HR.out hrb HM3.out HKk.out (by omega) HAk.out.1 HTk.out HTMk.out)
      go_wp2_with (fail)
      refine HADV.out.mono ?_
      rintro e w4 ⟨rfl, ds, t4, v4, Q4, hadv, hM4, hT4, hTM4⟩
      have HX4 := Lib.hid (show w4.heap[sb]? = some (.cells #[.int .i64 sa, .int .i64 sv] 142 (0, 0)) from (hM4.gr.block sb hsb3 (fun h => HOUT.out sb h rfl)).trans HX3.out)
      have HB4 := Lib.hid (show Below B w w4 from HB3.out.trans (hM4.belowB HJ.out HM3.out.mem HM3.out.j hw3B))
      have HR4 := Lib.hid (HR3.out.trans hM4)
      have HM4 := Lib.hid (MemI.self hM4)
      have HK4 := Lib.hid (TkOk.adv hadv (by have := HR.out.long; omega) HR.out.hold.1 HR.out.rest.1 HKk.out)
      have HADV4 := Lib.hid hadv
      have HT4 := Lib.hid hT4
      have HTM4 := Lib.hid hTM4
      clear hadv hM4 hT4 hTM4 c0 HADV
      have c0 := cell_of_blk (j := 0) HX4.out rfl
      have c1 := cell_of_blk (j := 1) HX4.out rfl
      have hsb4 : sb < w4.heap.size := (Array.getElem?_eq_some_iff.1 HX4.out).1
      have hw4B : B ≤ w4.heap.size := by have := HB4.out.size; have := HEB.out; omega
      have HPUT := Lib.hid (put_any (sa, sv) HM4.out.mem HM4.out.rule HR.out HK4.out (by omega) has hti.1 (Int.le_of_lt hti.2) hva hrb)
      simp only at HPUT
      go_wp2_with (fail)
      refine HPUT.out.mono ?_
      rintro e w5 ⟨rfl, v5, hI5, hG5⟩
      have hM5 := HM4.out.go HJ.out hrb hI5 hG5
      have HB5 := Lib.hid (show Below B w w5 from HB4.out.trans (hM5.belowB HJ.out HM4.out.mem HM4.out.j hw4B))
      have HM5 := Lib.hid (HR4.out.trans hM5)
      have HRN := Lib.hid (show Run r (tk0 r) ((l.take (k + 1)).filter fun s => decide (s.1 ≤ at_)) (ck ++ ds) (tkPut r (sa, sv) t4) from by rw [HFL.out]; exact run_snoc HRk.out HADV4.out)
      have HKN := Lib.hid (HK4.out.put (r := r) (sa, sv) hti.1 (Int.le_of_lt hti.2) has hva)
      have HDUE := Lib.hid (show sa ≤ tkDue r t4 from by
        have := adv_due HADV4.out
        rw [minI_eq (by omega)] at this
        exact this)
      have HTMN := Lib.hid (show TmOk (ck ++ ds) (tkDue r (tkPut r (sa, sv) t4)) from by
        have hT := HR.out.t
        obtain ⟨i1, e, i2, i3, i4, _⟩ := run_times HRN.out hT.long hT.hold hT.rest 0 (tk0_due r hT) (HL.out.so.sublist ((List.filter_sublist.trans (List.take_sublist (k + 1) l)).map _)) (fun s hs => HL.out.ti s (List.mem_of_mem_take (List.mem_filter.1 hs).1))
        exact ⟨i1, fun c hc => ⟨(i4 c hc).1, by have := (i4 c hc).2; omega⟩⟩)
      clear hI5 hG5 hM5 HPUT c0 c1
      go_wp2_with (fail)
      go_roundw
      case rel => exact ⟨k + 1, _, _, v5, Q4, sa, by omega, by simp, HRN, HM5, HKN, Lib.hid ⟨Int.le_of_lt hti.2, HDP.out⟩, Lib.hid (by rw [put_fi]; exact HT4.out), HTMN, HB5⟩
      case measure => simp [intOf]; omega
    · have hkn : k = n := by omega
      have hltI : ¬ (k : Int) < n := by omega
      have HTK := Lib.hid (show l.take k = l from List.take_of_length_le (by have := HN.out; omega))
      have HMs := Lib.hid (MemI.self HMk.out)
      have HADV := Lib.hid (advance_any at_ HJ.out HR.out hrb HMs.out HKk.out (by omega) HAk.out.1 HTk.out HTMk.out)
      clear hkn
      go_wp2_with (fail)
      refine HADV.out.mono ?_
      rintro e w4 ⟨rfl, ds, t4, v4, Q4, hadv, hM4, hT4, hTM4⟩
      have HB4 := Lib.hid (show Below B w w4 from HBk.out.trans (hM4.belowB HJ.out HMs.out.mem HMs.out.j hwB))
      have hw4B : B ≤ w4.heap.size := by have := HB4.out.size; have := HEB.out; omega
      have HK4 := Lib.hid (TkOk.adv hadv (by have := HR.out.long; omega) HR.out.hold.1 HR.out.rest.1 HKk.out)
      have HM4 := Lib.hid (MemI.self hM4)
      have HADV4 := Lib.hid hadv
      clear hadv hM4 hT4 hTM4 HADV
      have HDR := Lib.hid (drop_any at_ HM4.out.mem HM4.out.rule HR.out HK4.out (by omega) HAk.out.1 hrb)
      go_wp2_with (fail)
      refine HDR.out.mono ?_
      rintro e w5 ⟨rfl, v5, hI5, hG5⟩
      have hM5 := HM4.out.go HJ.out hrb hI5 hG5
      have HB5 := Lib.hid (show Below B w w5 from HB4.out.trans (hM5.belowB HJ.out HM4.out.mem HM4.out.j hw4B))
      have HM5 := Lib.hid (MemI.self hM5)
      have HK5 := Lib.hid (HK4.out.drop (r := r) at_)
      have hw5B : B ≤ w5.heap.size := by have := HB5.out.size; have := HEB.out; omega
      clear hI5 hG5 hM5 HDR
      have HUP := Lib.hid (update_any at_ HM5.out.mem HM5.out.rule HR.out HK5.out (by omega))
      go_wp2_with (fail)
      refine HUP.out.mono ?_
      rintro e w6 ⟨rfl, hI6, hG6⟩
      have hM6 := HM5.out.go HJ.out hrb hI6 hG6
      have HB6 := Lib.hid (show Below B w w6 from HB5.out.trans (hM6.belowB HJ.out HM5.out.mem HM5.out.j hw5B))
      have HI6 := Lib.hid hI6
      have HST := Lib.hid (show StOf r l at_ (tkUpd r at_ (tkDrop r at_ t4)).st from ⟨ck, tk, ds, t4, by rw [← HTK.out]; exact HRk.out, HADV4.out, rfl⟩)
      clear hI6 hG6 hM6 HUP
      go_wp2_with (fail)
      go_ret
      exact ⟨x, _, rfl, HI6.out.cell 5 _ rfl, HST.out, HEB.out ▸ HB6.out⟩
set_option maxRecDepth 100000 in
set_option maxHeartbeats 2000000 in
theorem state_any (r : Ru) (l : List Te) (n c d : Nat) (at_ : Int) (A : Option Addr) (w : World) (hR : RuR r) (hl : TesOk l) (hn : l.length = n) (hn2 : n ≤ 1000) (hr : Row w w.heap.size A (recs teC l)) (hd : d < 2) (ha : 0 ≤ at_ ∧ at_ < 345686400000) :
    Calls Tryz.prog 14 #[ruV r, .slice A n c, .string (teT d), .int .i64 at_] w fun e w' => (∃ st, StOf r (seenL l r.m d) at_ st ∧ e = .returned (.tuple #[.int .i64 st, .int .i64 0])) ∧ Below w.heap.size w w' := by
  have HRR := Lib.hid hR
  have HOF := Lib.hid (fun (V : World) (hV : Below w.heap.size w V) => oneFault_any r l n c d at_ A V hR hl hn hn2 ((hr.below hV).mono hV.size) hd ha)
  have HSD := Lib.hid (fun (V : World) (b : Nat) (hV : Below w.heap.size w V) (hm : RuM V b r) => standing_any r l b n c d at_ A V hm hR hl hn hn2 ((hr.below hV).mono hV.size) hd)
  clear hR hl hn hr
  have er : ruV r = .agg #[.string (rkT r.k), .string (meT r.m), .int .i64 r.agg, .int .i64 r.long, .bool r.above, .int .i64 r.on, .int .i64 r.off, .int .i64 r.hold, .int .i64 r.rest, .int .i64 r.empty] := rfl
  rw [er] at *
  clear er
  go_enter Tryz.func14, Tryz.ntmps14
  go_upto_region 1 with (fail)
  obtain ⟨w1, e1⟩ : ∃ V : World, V = w.alloc (.cells #[.string (rkT r.k), .string (meT r.m), .int .i64 r.agg, .int .i64 r.long, .bool r.above, .int .i64 r.on, .int .i64 r.off, .int .i64 r.hold, .int .i64 r.rest, .int .i64 r.empty] 27) := ⟨_, rfl⟩
  obtain ⟨b, eb⟩ : ∃ b, b = w.heap.size := ⟨_, rfl⟩
  have hb1 : Below w.heap.size w w1 := by rw [e1]; exact (Below.refl _ _).alloc (Nat.le_refl _) _
  have hg1 : w1.heap[b]? = some (.cells (ruC r).toArray 27 (0, 0)) := by rw [e1, eb]; exact heap_new w _
  have hlt1 := (Array.getElem?_eq_some_iff.1 hg1).1
  rw [← eb, ← e1]
  have HB1 := Lib.hid hb1
  have p0 : w1.cell? ⟨b, 0, none⟩ = some (.string (rkT r.k)) := cell_of_blk (j := 0) hg1 rfl
  have p1 : w1.cell? ⟨b, 1, none⟩ = some (.string (meT r.m)) := cell_of_blk (j := 1) hg1 rfl
  have p2 : w1.cell? ⟨b, 2, none⟩ = some (.int .i64 r.agg) := cell_of_blk (j := 2) hg1 rfl
  have p3 : w1.cell? ⟨b, 3, none⟩ = some (.int .i64 r.long) := cell_of_blk (j := 3) hg1 rfl
  have p4 : w1.cell? ⟨b, 4, none⟩ = some (.bool r.above) := cell_of_blk (j := 4) hg1 rfl
  have p5 : w1.cell? ⟨b, 5, none⟩ = some (.int .i64 r.on) := cell_of_blk (j := 5) hg1 rfl
  have p6 : w1.cell? ⟨b, 6, none⟩ = some (.int .i64 r.off) := cell_of_blk (j := 6) hg1 rfl
  have p7 : w1.cell? ⟨b, 7, none⟩ = some (.int .i64 r.hold) := cell_of_blk (j := 7) hg1 rfl
  have p8 : w1.cell? ⟨b, 8, none⟩ = some (.int .i64 r.rest) := cell_of_blk (j := 8) hg1 rfl
  have p9 : w1.cell? ⟨b, 9, none⟩ = some (.int .i64 r.empty) := cell_of_blk (j := 9) hg1 rfl
  have HM1 := Lib.hid (show RuM w1 b r from fun j u hu => by rw [Nat.zero_add]; exact cell_of_blk (j := j) hg1 (by simpa using hu))
  clear eb e1 hb1 hg1
  have HF := Lib.hid (HOF.out w1 HB1.out)
  go_wp2_with (fail)
  refine HF.out.mono ?_
  rintro e w2 ⟨rfl, hb2⟩
  have HB2 := Lib.hid (below_step HB1.out hb2)
  have HM2 := Lib.hid (HM1.out.below hb2 hlt1)
  clear hb2 HF HM1 p0 p1 p2 p3 p4 p5 p6 p7 p8 p9
  have HS := Lib.hid (HSD.out w2 b HB2.out HM2.out)
  go_wp2_with (fail)
  refine HS.out.mono ?_
  rintro e w3 ⟨tr, st, rfl, hc, hst, hb3⟩
  have HB3 := Lib.hid (below_step HB2.out hb3)
  have HST := Lib.hid hst
  have htl := World.block_lt_of_cell? w3 _ hc
  clear hst hb3 HS
  go_wp2_with (fail)
  refine bodyPost_ret (v := .tuple #[.int .i64 st, .int .i64 0]) (by simp [results, Tryz.results14, go_sem]) rfl ⟨⟨st, HST.out, rfl⟩, HB3.out⟩
end Go.Proofs.YtlfphndnkgoinaaGreatDoor
