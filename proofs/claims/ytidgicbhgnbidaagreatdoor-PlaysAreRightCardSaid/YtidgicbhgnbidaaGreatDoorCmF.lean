/- mark by its contract: a mark is followed. -/
import Derived.Test.YtidgicbhgnbidaaGreatDoorCmD
namespace Go.Proofs.YtidgicbhgnbidaaGreatDoor
open Go.RowKit

def opN (C : Cm) (s : St) (k : Nat) (x y : Cu) : List Int := if doV C x = doV C y then s.op else if doV C y then s.op.set k (s.op.getD k 0 - 1) else s.op.set k (s.op.getD k 0 + 1)
def spN (C : Cm) (s : St) (k : Nat) (t : Int) (e f : Int) : Int := if s.sp < 0 ∧ ((C.ws[k]?.map (·.ls)).getD 0 ≤ e ∧ (C.ws[k]?.map (·.fl)).getD 0 * e < 1000 * f) then t else s.sp
theorem mkA_eq (wvN : Nat → Nat) (C : Cm) (s : St) (m : Mk) (i : Nat) (x : Cu) : mkA wvN C s m i x =
    if m.kd ≠ 3 ∧ m.kd ≠ 4 then { s with cs := s.cs.set i (foTo x m), op := opN C s (wvN m.d) x (foTo x m) }
    else { s with cs := s.cs.set i (foTo x m), op := opN C s (wvN m.d) x (foTo x m), en := s.en.set (wvN m.d) (s.en.getD (wvN m.d) 0 + 1), fa := (if m.kd = 4 then s.fa.set (wvN m.d) (s.fa.getD (wvN m.d) 0 + 1) else s.fa), sp := spN C s (wvN m.d) m.at_ ((s.en.set (wvN m.d) (s.en.getD (wvN m.d) 0 + 1)).getD (wvN m.d) 0) ((if m.kd = 4 then s.fa.set (wvN m.d) (s.fa.getD (wvN m.d) 0 + 1) else s.fa).getD (wvN m.d) 0) } := rfl
theorem mkV_some {wvN : Nat → Nat} {C : Cm} {F : List Dv} {s : St} {m : Mk} {i : Nat} {x : Cu} (hi : ixF F m.d = some i) (hx : s.cs[i]? = some x) : mkV wvN C F s m = if m.at_ < C.at_ then s else if foOk x m then mkA wvN C s m i x else s := by
  unfold mkV
  rw [hi]
  simp only [hx]
theorem mkV_none {wvN : Nat → Nat} {C : Cm} {F : List Dv} {s : St} {m : Mk} (hi : ixF F m.d = none) : mkV wvN C F s m = s := by
  unfold mkV
  rw [hi]
theorem set_same {α : Type} {l : List α} {i : Nat} {x : α} (h : l[i]? = some x) : l.set i x = l := by
  obtain ⟨hi, rfl⟩ := List.getElem?_eq_some_iff.1 h
  exact List.set_getElem_self hi
section
variable {B : Nat} {C : Cm} {F : List Dv} {wvN : Nat → Nat} {a : StA} {s : St} {w : World}
theorem StI.cells (h : StI B C F wvN a s w) (N : Nat) (hN : N = C.ws.length) : ∃ v, w.heap[a.s]? = some (.cells #[.pointer (some ⟨a.c, 0, none⟩), .map (some a.mo), .map (some a.mw), .slice (some ⟨a.bo, 0, none⟩) N N, .slice (some ⟨a.be, 0, none⟩) N N, .slice (some ⟨a.bf, 0, none⟩) N N, v, .int .i64 s.sp, .int .i64 s.nx] 165 (0, 0)) ∧
    w.heap[a.c]? = some (.cells #[.string (ckT C.key), .int .i64 C.t.a, .int .i64 C.t.b, .int .i64 C.t.c, .int .i64 C.at_, .slice C.wa N C.wc, .int .i64 C.h0, .int .i64 C.h1, .int .i64 C.rm] 53 (0, 0)) := by
  obtain ⟨A, c, h1, _⟩ := h.st
  have h4 := h.cm
  unfold sttB at h1
  unfold cmB at h4
  rw [← hN] at h1 h4
  exact ⟨_, h1, h4⟩
theorem StI.rdy (h : StI B C F wvN a s w) {i b : Nat} {x : Cu} (hb : a.cb[i]? = some b) (hx : s.cs[i]? = some x) :
    Calls Tryz.prog 105 #[.pointer (some ⟨a.s, 0, none⟩), .pointer (some ⟨b, 0, none⟩)] w fun e w' => e = .returned (.bool (rdV C x)) ∧ Below w.heap.size w w' := by
  obtain ⟨v, h1, _⟩ := h.cells C.ws.length rfl
  exact ready_any C x a.s a.c b w (cell_of_blk (j := 0) h1 rfl) h.cm (h.cu i b x hb hx)
theorem StI.outy (h : StI B C F wvN a s w) {i b : Nat} {x : Cu} (hb : a.cb[i]? = some b) (hx : s.cs[i]? = some x) :
    Calls Tryz.prog 107 #[.pointer (some ⟨a.s, 0, none⟩), .pointer (some ⟨b, 0, none⟩)] w fun e w' => e = .returned (.bool (ouV C x)) ∧ Below w.heap.size w w' := by
  obtain ⟨v, h1, _⟩ := h.cells C.ws.length rfl
  exact out_any C x a.s a.c b w (cell_of_blk (j := 0) h1 rfl) h.cm (h.cu i b x hb hx)
/-- What a look-up of a device gives. -/
theorem StI.lookC (h : StI B C F wvN a s w) (hF : ∀ d ∈ F, d.k < 6) {k : Nat} (hk : k < 6) (ok : Bool) : (Instr.lookup 162 (.map (some a.mo)) (.string (dvT k)) ok).run Tryz.prog w =
    .ok (if ok then .tuple #[(((ixF F k).bind fun i => (a.cb[i]?).map fun b => Value.pointer (some ⟨b, 0, none⟩))).getD (.pointer none), .bool (((ixF F k).bind fun i => (a.cb[i]?).map fun b => Value.pointer (some ⟨b, 0, none⟩))).isSome] else (((ixF F k).bind fun i => (a.cb[i]?).map fun b => Value.pointer (some ⟨b, 0, none⟩))).getD (.pointer none)) w := by
  rw [← smG_of hF hk h.lb]
  cases ok with
  | true => exact look_sm_ok (P := Tryz.prog) (z := .pointer none) Tryz.underlying162 Tryz.underlying9 (by kernel_rfl) (dvT_size k) h.of_
  | false => exact look_sm (P := Tryz.prog) (z := .pointer none) Tryz.underlying162 Tryz.underlying9 (by kernel_rfl) (dvT_size k) h.of_
theorem StI.lookW (h : StI B C F wvN a s w) (hF : ∀ d ∈ F, d.k < 6) {k i : Nat} (hk : k < 6) (hi : ixF F k = some i) : (Instr.lookup 163 (.map (some a.mw)) (.string (dvT k)) false).run Tryz.prog w = .ok (.int .i64 (wvN k : Int)) w := by
  have h2 := look_sm (P := Tryz.prog) (z := .int .i64 0) Tryz.underlying163 Tryz.underlying9 (by kernel_rfl) (dvT_size k) h.wv
  rw [smG_wv hF hk, hi] at h2
  exact h2
end
set_option maxRecDepth 100000 in
set_option maxHeartbeats 8000000 in
theorem mark_any (C : Cm) (F : List Dv) (a : StA) (s : St) (B n : Nat) (m : Mk) (w : World) (hC : CmOk C) (hF : FlOk F) (hm : MkOk m) (hn : n ≤ 100) (hS : StO C F n s) (hI : StI B C F (wvN C) a s w) :
    Calls Tryz.prog 67 #[.pointer (some ⟨a.s, 0, none⟩), mkW m] w fun e w' => e = .returned (.tuple #[]) ∧ StI B C F (wvN C) a (mkV (wvN C) C F s m) w' ∧ Below B w w' := by
  obtain ⟨N, hN⟩ : ∃ N, N = C.ws.length := ⟨_, rfl⟩
  have hN3 : 1 ≤ N ∧ N ≤ 3 := by rw [hN]; exact hC.n
  obtain ⟨at_, hat⟩ : ∃ t, t = C.at_ := ⟨_, rfl⟩
  have HN := Lib.hid (And.intro hN hat)
  have HC := Lib.hid hC
  have HF := Lib.hid hF
  have HM := Lib.hid hm
  have HS := Lib.hid hS
  have hF6 : ∀ d ∈ F, d.k < 6 := fun d hd => (hF.ok d hd).k
  have HF6 := Lib.hid hF6
  have hsz := hI.sz
  obtain ⟨gm, egm⟩ : ∃ g, g = w.heap.size := ⟨_, rfl⟩
  obtain ⟨w0, e0⟩ : ∃ V : World, V = w.alloc (mkB m) := ⟨_, rfl⟩
  have hb0 : Below w.heap.size w w0 := by rw [e0]; exact (Below.refl _ _).alloc (Nat.le_refl _) _
  have hm0 : w0.heap[gm]? = some (mkB m) := by rw [e0, egm]; exact heap_new w _
  have hlm0 := (Array.getElem?_eq_some_iff.1 hm0).1
  have HI := Lib.hid (hI.below hb0)
  have HB0 := Lib.hid (show Below B w w0 from hb0.mono hsz)
  have HM0 := Lib.hid hm0
  have hgmB : B ≤ gm := by omega
  have HLT := Lib.hid (show ∀ b ∈ a.all, b < gm from by rw [egm]; exact hI.lt hS.lc)
  obtain ⟨v0, hs0, hc0⟩ := HI.out.cells N hN
  have p1 := cell_of_blk (j := 1) hs0 rfl
  have m1 := cell_of_blk (j := 1) hm0 rfl
  have hls0 := (Array.getElem?_eq_some_iff.1 hs0).1
  have hlk := HI.out.lookC hF6 hm.d true
  simp only [if_true] at hlk
  unfold mkB at e0
  unfold mkW
  clear hC hF hm hS hI hF6 hN hat hb0 hm0 hs0 hc0
  cases hix : ixF F m.d with
  | none =>
    as_aux_lemma =>
      rw [hix] at hlk
      have HV := Lib.hid (mkV_none (wvN := wvN C) (C := C) (s := s) hix)
      have hlk2 : (Instr.lookup 162 (.map (some a.mo)) (.string (dvT m.d)) true).run Tryz.prog w0 = .ok (.tuple #[.pointer none, .bool false]) w0 := hlk
      have HLK := Lib.hid (fun (V : World) (hV : Below w0.heap.size w0 V) => show V.cell? ⟨a.s, 1, none⟩ = some (.map (some a.mo)) ∧ V.cell? ⟨gm, 1, none⟩ = some (.string (dvT m.d)) ∧ (Instr.lookup 162 (.map (some a.mo)) (.string (dvT m.d)) true).run Tryz.prog V = .ok (.tuple #[.pointer none, .bool false]) V from by
        refine ⟨(hV.cell (p := ⟨a.s, 1, none⟩) hls0).trans p1, (hV.cell (p := ⟨gm, 1, none⟩) hlm0).trans m1, ?_⟩
        have h := (HI.out.below hV).lookC HF6.out HM.out.d true
        simp only [if_true] at h
        rw [hix] at h
        exact h)
      clear hlk hix hlk2 p1 m1
      go_enter Tryz.func67, Tryz.ntmps67
      go_upto_region 1 with (fail)
      rw [← egm, ← e0]
      clear e0 egm
      refine qRegion (by kernel_rfl) (by kernel_rfl) ?_
      repeat (first
        | (go_big_quiet_want; refine qVal (fun V hV => (by (obtain ⟨q0, q1, q2⟩ := HLK.out V hV; go_simp; try rfl))) ?_; simp only [Act.put, List.setIfInBounds_toArray, List.set_cons_zero, List.set_cons_succ]; go_big_quiet_on)
        | go_big_quiet_skip)
      refine wpQuiet_nil ?_
      intro w1 hb1
      have HI1 := Lib.hid (HI.out.below hb1)
      have HB1 := Lib.hid (HB0.out.trans (hb1.mono (Nat.le_trans hsz (by have := HB0.out.size; omega))))
      clear hb1 HLK
      go_upto_region 2 with (fail)
      refine qRegion (by kernel_rfl) (by kernel_rfl) ?_
      repeat (first
        | (go_big_quiet_want; refine qVal (fun V hV => (by (go_simp; try rfl))) ?_; simp only [Act.put, List.setIfInBounds_toArray, List.set_cons_zero, List.set_cons_succ]; go_big_quiet_on)
        | go_big_quiet_skip)
      refine wpQuiet_nil ?_
      intro w2 hb2
      have HI2 := Lib.hid (HI1.out.below hb2)
      have HB2 := Lib.hid (HB1.out.trans (hb2.mono HI1.out.sz))
      clear hb2
      go_wp2_with (fail)
      refine bodyPost_ret (v := .tuple #[]) (by simp [results, Tryz.results67, go_sem]) rfl ?_
      exact ⟨rfl, by rw [HV.out]; exact HI2.out, HB2.out⟩
  | some i =>
    have hil : i < F.length := ixF_lt hix
    obtain ⟨b, hb⟩ : ∃ b, a.cb[i]? = some b := ⟨_, List.getElem?_eq_getElem (by rw [HI.out.lb]; exact hil)⟩
    obtain ⟨x, hx⟩ : ∃ x, s.cs[i]? = some x := ⟨_, List.getElem?_eq_getElem (by rw [HS.out.lc]; exact hil)⟩
    have HV := Lib.hid (mkV_some (wvN := wvN C) (C := C) hix hx)
    have HX := Lib.hid (And.intro hb hx)
    have HIX := Lib.hid hix
    have HLK := Lib.hid (fun (V : World) (hV : Below w0.heap.size w0 V) => show V.cell? ⟨a.s, 1, none⟩ = some (.map (some a.mo)) ∧ V.cell? ⟨gm, 1, none⟩ = some (.string (dvT m.d)) ∧ (Instr.lookup 162 (.map (some a.mo)) (.string (dvT m.d)) true).run Tryz.prog V = .ok (.tuple #[.pointer (some ⟨b, 0, none⟩), .bool true]) V from by
      refine ⟨(hV.cell (p := ⟨a.s, 1, none⟩) hls0).trans p1, (hV.cell (p := ⟨gm, 1, none⟩) hlm0).trans m1, ?_⟩
      have h := (HI.out.below hV).lookC HF6.out HM.out.d true
      simp only [if_true] at h
      rw [hix] at h
      simp only [Option.bind_some, hb, Option.map_some, Option.getD_some, Option.isSome_some] at h
      exact h)
    clear hlk hix p1 m1 hb hx hil
    go_enter Tryz.func67, Tryz.ntmps67
    go_upto_region 1 with (fail)
    rw [← egm, ← e0]
    clear e0 egm
    refine qRegion (by kernel_rfl) (by kernel_rfl) ?_
    repeat (first
      | (go_big_quiet_want; refine qVal (fun V hV => (by (obtain ⟨q0, q1, q2⟩ := HLK.out V hV; go_simp; try rfl))) ?_; simp only [Act.put, List.setIfInBounds_toArray, List.set_cons_zero, List.set_cons_succ]; go_big_quiet_on)
      | go_big_quiet_skip)
    refine wpQuiet_nil ?_
    intro w1 hb1
    have HI1 := Lib.hid (HI.out.below hb1)
    have HM1 := Lib.hid ((hb1.block gm hlm0).trans HM0.out)
    have HB1 := Lib.hid (HB0.out.trans (hb1.mono HI.out.sz))
    obtain ⟨v1, hs1, hc1⟩ := HI1.out.cells N HN.out.1
    have hls1 := (Array.getElem?_eq_some_iff.1 hs1).1
    have hlc1 := (Array.getElem?_eq_some_iff.1 hc1).1
    have hlm1 := (Array.getElem?_eq_some_iff.1 HM1.out).1
    have HQ1 := Lib.hid (fun (V : World) (hV : Below w1.heap.size w1 V) => show V.cell? ⟨a.s, 0, none⟩ = some (.pointer (some ⟨a.c, 0, none⟩)) ∧ V.cell? ⟨gm, 0, none⟩ = some (.int .i64 m.at_) ∧ V.cell? ⟨a.c, 4, none⟩ = some (.int .i64 at_) from by
      have h1 := (hV.block a.s hls1).trans hs1
      have h2 := (hV.block gm hlm1).trans HM1.out
      have h3 := (hV.block a.c hlc1).trans hc1
      rw [← HN.out.2] at h3
      exact ⟨cell_of_blk (j := 0) h1 rfl, cell_of_blk (j := 0) h2 rfl, cell_of_blk (j := 4) h3 rfl⟩)
    clear hb1 HLK hs1 hc1 HI HM0
    go_upto_region 2 with (fail)
    by_cases hlt : m.at_ < at_
    · have HE := Lib.hid (show mkV (wvN C) C F s m = s from by rw [HV.out, if_pos (by rw [← HN.out.2]; exact hlt)])
      refine qRegion (by kernel_rfl) (by kernel_rfl) ?_
      repeat (first
        | (go_big_quiet_want; refine qVal (fun V hV => (by (obtain ⟨q0, q1, q2⟩ := HQ1.out V hV; go_simp; try rfl))) ?_; simp only [Act.put, List.setIfInBounds_toArray, List.set_cons_zero, List.set_cons_succ]; go_big_quiet_on)
        | go_big_quiet_skip)
      refine wpQuiet_nil ?_
      intro w2 hb2
      have HI2 := Lib.hid (HI1.out.below hb2)
      have HB2 := Lib.hid (HB1.out.trans (hb2.mono HI1.out.sz))
      clear hb2
      go_wp2_with (fail)
      refine bodyPost_ret (v := .tuple #[]) (by simp [results, Tryz.results67, go_sem]) rfl ?_
      exact ⟨rfl, by rw [HE.out]; exact HI2.out, HB2.out⟩
    have HE := Lib.hid (show mkV (wvN C) C F s m = if foOk x m then mkA (wvN C) C s m i x else s from by rw [HV.out, if_neg (by rw [← HN.out.2]; exact hlt)])
    refine qRegion (by kernel_rfl) (by kernel_rfl) ?_
    repeat (first
      | (go_big_quiet_want; refine qVal (fun V hV => (by (obtain ⟨q0, q1, q2⟩ := HQ1.out V hV; go_simp; try rfl))) ?_; simp only [Act.put, List.setIfInBounds_toArray, List.set_cons_zero, List.set_cons_succ]; go_big_quiet_on)
      | go_big_quiet_skip)
    refine wpQuiet_nil ?_
    intro w2 hb2
    have HI2 := Lib.hid (HI1.out.below hb2)
    have HM2 := Lib.hid ((hb2.block gm hlm1).trans HM1.out)
    have HB2 := Lib.hid (HB1.out.trans (hb2.mono HI1.out.sz))
    obtain ⟨v2, hs2, hc2⟩ := HI2.out.cells N HN.out.1
    have hls2 := (Array.getElem?_eq_some_iff.1 hs2).1
    have hlm2 := (Array.getElem?_eq_some_iff.1 HM2.out).1
    obtain ⟨k, ek⟩ : ∃ k, k = wvN C m.d := ⟨_, rfl⟩
    have hkN : k < N := by rw [ek, HN.out.1]; exact wvN_lt HC.out m.d
    have HK := Lib.hid ek
    have HQ2 := Lib.hid (fun (V : World) (hV : Below w2.heap.size w2 V) => show V.cell? ⟨a.s, 2, none⟩ = some (.map (some a.mw)) ∧ V.cell? ⟨gm, 1, none⟩ = some (.string (dvT m.d)) ∧ (Instr.lookup 163 (.map (some a.mw)) (.string (dvT m.d)) false).run Tryz.prog V = .ok (.int .i64 (k : Int)) V from by
      have h1 := (hV.block a.s hls2).trans hs2
      have h2 := (hV.block gm hlm2).trans HM2.out
      refine ⟨cell_of_blk (j := 2) h1 rfl, cell_of_blk (j := 1) h2 rfl, ?_⟩
      rw [ek]
      exact (HI2.out.below hV).lookW HF6.out HM.out.d HIX.out)
    clear hb2 HQ1 hs2 hc2 HI1 HM1 ek hlt hls1 hlc1 hlm1 HV
    go_upto_region 3 with (fail)
    refine qRegion (by kernel_rfl) (by kernel_rfl) ?_
    repeat (first
      | (go_big_quiet_want; refine qVal (fun V hV => (by (obtain ⟨q0, q1, q2⟩ := HQ2.out V hV; go_simp; try rfl))) ?_; simp only [Act.put, List.setIfInBounds_toArray, List.set_cons_zero, List.set_cons_succ]; go_big_quiet_on)
      | go_big_quiet_skip)
    refine wpQuiet_nil ?_
    intro w3 hb3
    have HI3 := Lib.hid (HI2.out.below hb3)
    have HM3 := Lib.hid ((hb3.block gm hlm2).trans HM2.out)
    have HB3 := Lib.hid (HB2.out.trans (hb3.mono HI2.out.sz))
    clear hb3 HQ2 HI2 HM2 hls2 hlm2
    go_upto_region 4 with (fail)
    obtain ⟨d1, ed1⟩ : ∃ d, d = doV C x := ⟨_, rfl⟩
    have HD1 := Lib.hid ed1
    clear ed1
    go_cut [7] (fun v wx => v = .bool d1 ∧ Below w3.heap.size w3 wx)
    case first =>
      as_aux_lemma =>
        have HR := Lib.hid (HI3.out.rdy HX.out.1 HX.out.2)
        go_wp2_with (fail)
        refine HR.out.mono ?_
        rintro e w4 ⟨rfl, hb4⟩
        have HI4 := Lib.hid (HI3.out.below hb4)
        have HB4 := Lib.hid hb4
        cases hr : rdV C x with
        | true =>
          have HDE := Lib.hid (show d1 = true from by rw [HD1.out]; unfold doV; rw [hr]; rfl)
          clear hr hb4
          go_wp2_with (fail)
          go_meet
          exact ⟨by rw [HDE.out], HB4.out⟩
        | false =>
          have HDE := Lib.hid (show d1 = ouV C x from by rw [HD1.out]; unfold doV; rw [hr]; rfl)
          have HO := Lib.hid (HI4.out.outy HX.out.1 HX.out.2)
          clear hr hb4
          go_wp2_with (fail)
          refine HO.out.mono ?_
          rintro e w5 ⟨rfl, hb5⟩
          have HB5 := Lib.hid (HB4.out.trans (hb5.mono HB4.out.size))
          clear hb5
          go_wp2_with (fail)
          go_meet
          exact ⟨by rw [HDE.out], HB5.out⟩
    case rest =>
    obtain ⟨rfl, hb4⟩ := hcut
    obtain ⟨w4, rfl⟩ : ∃ wy : World, wy = wc := ⟨_, rfl⟩
    have hlm3 := (Array.getElem?_eq_some_iff.1 HM3.out).1
    have HI4 := Lib.hid (HI3.out.below hb4)
    have HM4 := Lib.hid ((hb4.block gm hlm3).trans HM3.out)
    have HB4 := Lib.hid (HB3.out.trans (hb4.mono HI3.out.sz))
    have hm4 := HM4.out
    have hlm4 := (Array.getElem?_eq_some_iff.1 hm4).1
    unfold mkB at hm4
    have m0 := cell_of_blk (j := 0) hm4 rfl
    have m1 := cell_of_blk (j := 1) hm4 rfl
    have m2 := cell_of_blk (j := 2) hm4 rfl
    have m3 := cell_of_blk (j := 3) hm4 rfl
    have m4 := cell_of_blk (j := 4) hm4 rfl
    have m5 := cell_of_blk (j := 5) hm4 rfl
    have hbx := HI4.out.cu i b x HX.out.1 HX.out.2
    have HFO := Lib.hid (follow_any x m n b w4 (by omega) (HS.out.cu x (List.mem_of_getElem? HX.out.2)) HM.out hbx)
    unfold mkW at HFO
    clear hb4 HI3 HM3 hlm3 hm4 hbx
    go_wp2_with (fail)
    refine HFO.out.mono ?_
    rintro e w5 ⟨rfl, hx5, hg5⟩
    have hBb := HI4.out.ge b (StA.cmem HX.out.1)
    have HI5 := Lib.hid (HI4.out.course HX.out.1 hx5 hg5)
    have HB5 := Lib.hid (HB4.out.grown hg5 HI4.out.sz (fun q hq => by cases hq; exact hBb))
    have hgmb : gm ≠ b := by
      have h := HLT.out b (StA.cmem HX.out.1)
      omega
    have HM5 := Lib.hid ((hg5.block gm hlm4 (by intro e; injection e with e; exact hgmb e)).trans HM4.out)
    clear m0 m1 m2 m3 m4 m5 hg5 hx5 HFO HI4 HM4 hlm4
    cases hfo : foOk x m with
    | false =>
      have HF := Lib.hid (show StI B C F (wvN C) a (mkV (wvN C) C F s m) w5 from by
        rw [HE.out, hfo, if_neg (by decide)]
        have h := HI5.out
        unfold foV at h
        rw [hfo, if_neg (by decide), set_same HX.out.2] at h
        exact h)
      clear hfo
      go_wp2_with (fail)
      refine bodyPost_ret (v := .tuple #[]) (by simp [results, Tryz.results67, go_sem]) rfl ?_
      exact ⟨rfl, HF.out, HB5.out⟩
    | true =>
      have HE5 := Lib.hid (show mkV (wvN C) C F s m = mkA (wvN C) C s m i x from by rw [HE.out, hfo, if_pos rfl])
      obtain ⟨y, ey⟩ : ∃ y, y = foTo x m := ⟨_, rfl⟩
      have HY := Lib.hid ey
      have HI6 := Lib.hid (show StI B C F (wvN C) a { s with cs := s.cs.set i y } w5 from by
        have h := HI5.out
        unfold foV at h
        rw [hfo, if_pos rfl, ← ey] at h
        exact h)
      have HXY := Lib.hid (show ({ s with cs := s.cs.set i y } : St).cs[i]? = some y from List.getElem?_set_self (List.getElem?_eq_some_iff.1 HX.out.2).1)
      clear hfo ey HI5 HE
      go_upto_region 6 with (fail)
      obtain ⟨d2, ed2⟩ : ∃ d, d = doV C y := ⟨_, rfl⟩
      have HD2 := Lib.hid ed2
      clear ed2
      go_cut [8] (fun v wx => v = .bool d2 ∧ Below w5.heap.size w5 wx)
      case first =>
        as_aux_lemma =>
          have HR := Lib.hid (HI6.out.rdy HX.out.1 HXY.out)
          go_wp2_with (fail)
          refine HR.out.mono ?_
          rintro e w6 ⟨rfl, hb6⟩
          have HI7 := Lib.hid (HI6.out.below hb6)
          have HB6 := Lib.hid hb6
          cases hr : rdV C y with
          | true =>
            have HDE := Lib.hid (show d2 = true from by rw [HD2.out]; unfold doV; rw [hr]; rfl)
            clear hr hb6
            go_wp2_with (fail)
            go_meet
            exact ⟨by rw [HDE.out], HB6.out⟩
          | false =>
            have HDE := Lib.hid (show d2 = ouV C y from by rw [HD2.out]; unfold doV; rw [hr]; rfl)
            have HO := Lib.hid (HI7.out.outy HX.out.1 HXY.out)
            clear hr hb6
            go_wp2_with (fail)
            refine HO.out.mono ?_
            rintro e w7 ⟨rfl, hb7⟩
            have HB7 := Lib.hid (HB6.out.trans (hb7.mono HB6.out.size))
            clear hb7
            go_wp2_with (fail)
            go_meet
            exact ⟨by rw [HDE.out], HB7.out⟩
      case rest =>
      obtain ⟨rfl, hb6⟩ := hcut
      obtain ⟨w6, rfl⟩ : ∃ wy : World, wy = wc := ⟨_, rfl⟩
      have hlm5 := (Array.getElem?_eq_some_iff.1 HM5.out).1
      have HI7 := Lib.hid (HI6.out.below hb6)
      have HM6 := Lib.hid ((hb6.block gm hlm5).trans HM5.out)
      have HB6 := Lib.hid (HB5.out.trans (hb6.mono HI6.out.sz))
      clear hb6 HI6 HM5 hlm5
      go_upto_if 63 with (fail)
      obtain ⟨op2, eop⟩ : ∃ l, l = opN C s k x y := ⟨_, rfl⟩
      have HOP := Lib.hid eop
      clear eop
      go_cut [] (fun wx => StI B C F (wvN C) a { s with cs := s.cs.set i y, op := op2 } wx ∧ Below B w wx ∧ wx.heap[gm]? = some (mkB m))
      case first =>
        as_aux_lemma =>
          obtain ⟨v6, hs6, _⟩ := HI7.out.cells N HN.out.1
          have p3 := cell_of_blk (j := 3) hs6 rfl
          have hls6 := (Array.getElem?_eq_some_iff.1 hs6).1
          obtain ⟨ov, eov⟩ : ∃ v, v = s.op.getD k 0 := ⟨_, rfl⟩
          have hov : -(n : Int) ≤ ov ∧ ov ≤ 6 + n := by
            rw [eov]
            exact getD_all (P := fun y => -(n : Int) ≤ y ∧ y ≤ 6 + n) (by omega) HS.out.op k
          have ho : w6.cell? ⟨a.bo, k, none⟩ = some (.int .i64 ov) := by
            rw [eov]
            exact inB_cell HI7.out.op (by show k < s.op.length; have := HS.out.lo; have := HN.out.1; omega)
          have hlo := World.block_lt_of_cell? w6 _ ho
          simp only at hlo
          have hkNI : (k : Int) < (N : Int) := by omega
          have kf : w6.frozen? ⟨a.bo, k, none⟩ = false := by simp [World.frozen?, HI7.out.op, inB]
          have hbo := HLT.out a.bo (StA.mem a).2.2.2.2.1
          have HSET := Lib.hid (fun (v : Int) => show StI B C F (wvN C) a { s with cs := s.cs.set i y, op := s.op.set k v } (w6.setCell ⟨a.bo, k, none⟩ (.int .i64 v)) ∧ Below B w (w6.setCell ⟨a.bo, k, none⟩ (.int .i64 v)) ∧ (w6.setCell ⟨a.bo, k, none⟩ (.int .i64 v)).heap[gm]? = some (mkB m) from
            ⟨HI7.out.setOp k v, HB6.out.setCell (p := ⟨a.bo, k, none⟩) (HI7.out.ge _ (StA.mem a).2.2.2.2.1) _, (setK _ _ gm (by show gm ≠ a.bo; omega)).trans HM6.out⟩)
          have HOV := Lib.hid eov
          clear hs6 eov
          cases d1 with
          | true =>
            cases d2 with
            | true =>
              have HO2 := Lib.hid (show op2 = s.op from by rw [HOP.out]; unfold opN; rw [if_pos (by rw [← HD1.out, ← HD2.out])])
              go_wp2_with (fail)
              go_meet
              exact ⟨by rw [HO2.out]; exact HI7.out, HB6.out, HM6.out⟩
            | false =>
              have HO2 := Lib.hid (show op2 = s.op.set k (ov + 1) from by rw [HOP.out]; unfold opN; rw [← HD1.out, ← HD2.out, if_neg (by decide), if_neg (by decide), HOV.out])
              go_wp2_with (fail)
              go_meet
              rw [HO2.out]
              exact HSET.out (ov + 1)
          | false =>
            cases d2 with
            | true =>
              have HO2 := Lib.hid (show op2 = s.op.set k (ov - 1) from by rw [HOP.out]; unfold opN; rw [← HD1.out, ← HD2.out, if_neg (by decide), if_pos rfl, HOV.out])
              go_wp2_with (fail)
              go_meet
              rw [HO2.out]
              exact HSET.out (ov - 1)
            | false =>
              have HO2 := Lib.hid (show op2 = s.op from by rw [HOP.out]; unfold opN; rw [if_pos (by rw [← HD1.out, ← HD2.out])])
              go_wp2_with (fail)
              go_meet
              exact ⟨by rw [HO2.out]; exact HI7.out, HB6.out, HM6.out⟩
      case rest =>
      obtain ⟨hi8, hb8, hm8⟩ := hcut
      obtain ⟨w8, rfl⟩ : ∃ wy : World, wy = wc := ⟨_, rfl⟩
      have HI8 := Lib.hid hi8
      have HB8 := Lib.hid hb8
      have HM8 := Lib.hid hm8
      have m2 := cell_of_blk (j := 2) hm8 rfl
      have hlm8 := (Array.getElem?_eq_some_iff.1 hm8).1
      clear hi8 hb8 hm8 HI7 HM6
      have HMA := Lib.hid (show mkV (wvN C) C F s m = if m.kd ≠ 3 ∧ m.kd ≠ 4 then { s with cs := s.cs.set i y, op := op2 }
          else { s with cs := s.cs.set i y, op := op2, en := s.en.set k (s.en.getD k 0 + 1), fa := (if m.kd = 4 then s.fa.set k (s.fa.getD k 0 + 1) else s.fa), sp := spN C s k m.at_ ((s.en.set k (s.en.getD k 0 + 1)).getD k 0) ((if m.kd = 4 then s.fa.set k (s.fa.getD k 0 + 1) else s.fa).getD k 0) } from by
        rw [HE5.out, mkA_eq, HOP.out, HY.out, HK.out])
      obtain ⟨kd, ekd⟩ : ∃ v, v = m.kd := ⟨_, rfl⟩
      rw [← ekd] at HMA m2
      have HKD := Lib.hid ekd
      clear ekd
      by_cases k34 : ¬ kd = 3 ∧ ¬ kd = 4
      · obtain ⟨k3, k4⟩ := k34
        have HF := Lib.hid (show mkV (wvN C) C F s m = { s with cs := s.cs.set i y, op := op2 } from by rw [HMA.out, if_pos ⟨k3, k4⟩])
        have k3b : (kd != 3) = true := by simp [k3]
        have k4b : (kd != 4) = true := by simp [k4]
        go_wp2_with (fail)
        refine bodyPost_ret (v := .tuple #[]) (by simp [results, Tryz.results67, go_sem]) rfl ?_
        exact ⟨rfl, by rw [HF.out]; exact HI8.out, HB8.out⟩
      · obtain ⟨env, een⟩ : ∃ v, v = s.en.getD k 0 + 1 := ⟨_, rfl⟩
        obtain ⟨fa2, efa⟩ : ∃ l, l = (if kd = 4 then s.fa.set k (s.fa.getD k 0 + 1) else s.fa) := ⟨_, rfl⟩
        have hen := getD_all (P := fun y => 0 ≤ y ∧ y ≤ (n : Int)) (by omega) HS.out.en k
        have hfa := getD_all (P := fun y => 0 ≤ y ∧ y ≤ (n : Int)) (by omega) HS.out.fa k
        have hkl : k < s.en.length ∧ k < s.fa.length := by have := HS.out.le; have := HS.out.lf; have := HN.out.1; omega
        have HFIN := Lib.hid (show mkV (wvN C) C F s m = { s with cs := s.cs.set i y, op := op2, en := s.en.set k env, fa := fa2, sp := spN C s k m.at_ env (fa2.getD k 0) } from by
          rw [HMA.out, if_neg (fun h => k34 h), een, efa]
          congr 2
          rw [List.getD_eq_getElem?_getD, List.getElem?_set_self hkl.1]
          rfl)
        obtain ⟨v8, hs8, _⟩ := HI8.out.cells N HN.out.1
        have p4 := cell_of_blk (j := 4) hs8 rfl
        have hls8 := (Array.getElem?_eq_some_iff.1 hs8).1
        obtain ⟨en0, een0⟩ : ∃ v, v = s.en.getD k 0 := ⟨_, rfl⟩
        rw [← een0] at hen een
        have he : w8.cell? ⟨a.be, k, none⟩ = some (.int .i64 en0) := by
          rw [een0]
          exact inB_cell HI8.out.en hkl.1
        have hle := World.block_lt_of_cell? w8 _ he
        simp only at hle
        have hkNI : (k : Int) < (N : Int) := by omega
        have kf : w8.frozen? ⟨a.be, k, none⟩ = false := by simp [World.frozen?, HI8.out.en, inB]
        have hbe := HLT.out a.be (StA.mem a).2.2.2.2.2.1
        have HSET := Lib.hid (show StI B C F (wvN C) a { s with cs := s.cs.set i y, op := op2, en := s.en.set k env } (w8.setCell ⟨a.be, k, none⟩ (.int .i64 env)) ∧ Below B w (w8.setCell ⟨a.be, k, none⟩ (.int .i64 env)) ∧ (w8.setCell ⟨a.be, k, none⟩ (.int .i64 env)).heap[gm]? = some (mkB m) from
          ⟨HI8.out.setEn k env, HB8.out.setCell (p := ⟨a.be, k, none⟩) (HI8.out.ge _ (StA.mem a).2.2.2.2.2.1) _, (setK _ _ gm (by show gm ≠ a.be; omega)).trans HM8.out⟩)
        have HEN := Lib.hid (And.intro een0 een)
        have HFA := Lib.hid efa
        have henv : 1 ≤ env ∧ env ≤ n + 1 := by omega
        obtain ⟨w9, e9⟩ : ∃ V : World, V = w8.setCell ⟨a.be, k, none⟩ (.int .i64 env) := ⟨_, rfl⟩
        rw [← e9] at HSET
        rw [een] at e9
        have HE9 := Lib.hid e9
        clear hs8 een0 een efa e9
        have hk34 : kd = 3 ∨ kd = 4 := by omega
        have HK34 := Lib.hid k34
        clear k34
        have k34c : ((kd != 3) && (kd != 4)) = false := by rcases hk34 with h | h <;> subst h <;> rfl
        go_upto_region 11 with (fail)
        go_cut [90] (fun v wx => v = .bool false ∧ w8 = wx)
        case first =>
          as_aux_lemma =>
            rcases hk34 with h | h
            · subst h
              go_wp2_with (fail)
              go_meet
              exact ⟨rfl, rfl⟩
            · subst h
              go_wp2_with (fail)
              go_meet
              exact ⟨rfl, rfl⟩
        case rest =>
        obtain ⟨rfl, rfl⟩ := hcut
        go_upto_region 13 with (fail)
        rw [← HE9.out]
        have hm9 := HSET.out.2.2
        have hlm9 := (Array.getElem?_eq_some_iff.1 hm9).1
        have m2 : w9.cell? ⟨gm, 2, none⟩ = some (.int .i64 kd) := by rw [HKD.out]; exact cell_of_blk (j := 2) hm9 rfl
        obtain ⟨v9, hs9, _⟩ := HSET.out.1.cells N HN.out.1
        have p5 := cell_of_blk (j := 5) hs9 rfl
        have hls9 := (Array.getElem?_eq_some_iff.1 hs9).1
        clear hs9 hm9 p4 hls8 he hle kf hlm8 k34c
        go_upto_if 102 with (fail)
        go_cut [] (fun wx => StI B C F (wvN C) a { s with cs := s.cs.set i y, op := op2, en := s.en.set k env, fa := fa2 } wx ∧ Below B w wx ∧ wx.heap[gm]? = some (mkB m))
        case first =>
          as_aux_lemma =>
            rcases hk34 with h | h
            · have HF2 := Lib.hid (show fa2 = s.fa from by rw [HFA.out, if_neg (by omega)])
              subst h
              go_wp2_with (fail)
              go_meet
              exact ⟨by rw [HF2.out]; exact HSET.out.1, HSET.out.2⟩
            · obtain ⟨f0, ef0⟩ : ∃ v, v = s.fa.getD k 0 := ⟨_, rfl⟩
              rw [← ef0] at hfa
              have HF2 := Lib.hid (show fa2 = s.fa.set k (f0 + 1) from by rw [HFA.out, if_pos h, ef0])
              have hf : w9.cell? ⟨a.bf, k, none⟩ = some (.int .i64 f0) := by
                rw [ef0]
                exact inB_cell HSET.out.1.fa hkl.2
              have hlf := World.block_lt_of_cell? w9 _ hf
              simp only at hlf
              have kf : w9.frozen? ⟨a.bf, k, none⟩ = false := by simp [World.frozen?, HSET.out.1.fa, inB]
              have hbf := HLT.out a.bf (StA.mem a).2.2.2.2.2.2
              have HS2 := Lib.hid (show StI B C F (wvN C) a { s with cs := s.cs.set i y, op := op2, en := s.en.set k env, fa := s.fa.set k (f0 + 1) } (w9.setCell ⟨a.bf, k, none⟩ (.int .i64 (f0 + 1))) ∧ Below B w (w9.setCell ⟨a.bf, k, none⟩ (.int .i64 (f0 + 1))) ∧ (w9.setCell ⟨a.bf, k, none⟩ (.int .i64 (f0 + 1))).heap[gm]? = some (mkB m) from
                ⟨HSET.out.1.setFa k (f0 + 1), HSET.out.2.1.setCell (p := ⟨a.bf, k, none⟩) (HI8.out.ge _ (StA.mem a).2.2.2.2.2.2) _, (setK _ _ gm (by show gm ≠ a.bf; omega)).trans HSET.out.2.2⟩)
              subst h
              clear ef0
              go_wp2_with (fail)
              go_meet
              rw [HF2.out]
              exact HS2.out
        case rest =>
        obtain ⟨hi10, hb10, hm10⟩ := hcut
        obtain ⟨wA, rfl⟩ : ∃ wy : World, wy = wc := ⟨_, rfl⟩
        have HIA := Lib.hid hi10
        have HBA := Lib.hid hb10
        have HMA2 := Lib.hid hm10
        obtain ⟨vA, hsA, hcA⟩ := hi10.cells N HN.out.1
        have p0 := cell_of_blk (j := 0) hsA rfl
        have c5 := cell_of_blk (j := 5) hcA rfl
        have hlsA := (Array.getElem?_eq_some_iff.1 hsA).1
        have hlcA := (Array.getElem?_eq_some_iff.1 hcA).1
        obtain ⟨x2, hx2⟩ : ∃ x, C.ws[k]? = some x := ⟨_, List.getElem?_eq_getElem (by have := HN.out.1; omega)⟩
        have hxo := HC.out.w x2 (List.mem_of_getElem? hx2)
        obtain ⟨y5, y6⟩ := hxo.ls
        obtain ⟨y7, y8⟩ := hxo.fl
        obtain ⟨bw, o, ewa, hbw, hCl⟩ := hi10.ws.posR wvC_len (by omega) (by have := HN.out.1; omega)
        have hbr : bw < wA.heap.size := by have := hi10.sz; omega
        have e0 : wA.cell? ⟨bw, o + k * 4, none⟩ = some (.int .i64 x2.pt) := rec_cell wvC_len hCl k x2 hx2 0 _ rfl
        have e1 := rec_cell wvC_len hCl k x2 hx2 1 _ rfl
        have e2 := rec_cell wvC_len hCl k x2 hx2 2 _ rfl
        have e3 := rec_cell wvC_len hCl k x2 hx2 3 _ rfl
        have HX2 := Lib.hid hx2
        rw [ewa] at c5
        clear hCl hx2 hi10 hb10 hm10 hsA hcA m2 p5 hls9 hlm9 hk34 hxo
        go_upto_region 16 with (fail)
        obtain ⟨gw, egw⟩ : ∃ y, y = wA.heap.size := ⟨_, rfl⟩
        obtain ⟨wB, ewB⟩ : ∃ V : World, V = wA.alloc (.cells #[.int .i64 x2.pt, .int .i64 x2.wt, .int .i64 x2.ls, .int .i64 x2.fl] 138) := ⟨_, rfl⟩
        have hbB : Below wA.heap.size wA wB := by rw [ewB]; exact (Below.refl _ _).alloc (Nat.le_refl _) _
        have hwB : wB.heap[gw]? = some (.cells #[.int .i64 x2.pt, .int .i64 x2.wt, .int .i64 x2.ls, .int .i64 x2.fl] 138 (0, 0)) := by rw [ewB, egw]; exact heap_new wA _
        rw [← egw, ← ewB]
        have HIB := Lib.hid (HIA.out.below hbB)
        have HBB := Lib.hid (HBA.out.trans (hbB.mono HIA.out.sz))
        have hmA := HMA2.out
        have HMB := Lib.hid ((hbB.block gm (Array.getElem?_eq_some_iff.1 hmA).1).trans hmA)
        obtain ⟨vB, hsB, hcB⟩ := HIB.out.cells N HN.out.1
        have hlsB := (Array.getElem?_eq_some_iff.1 hsB).1
        have hlwB := (Array.getElem?_eq_some_iff.1 hwB).1
        obtain ⟨sp, esp⟩ : ∃ v, v = s.sp := ⟨_, rfl⟩
        obtain ⟨fv, efv⟩ : ∃ v, v = fa2.getD k 0 := ⟨_, rfl⟩
        have hfv : 0 ≤ fv ∧ fv ≤ n + 1 := by
          rw [efv, HFA.out]
          split
          · rw [List.getD_eq_getElem?_getD, List.getElem?_set_self hkl.2]
            show 0 ≤ s.fa.getD k 0 + 1 ∧ s.fa.getD k 0 + 1 ≤ (n : Int) + 1
            omega
          · omega
        have hfal : k < fa2.length := by
          rw [HFA.out]
          split
          · rw [List.length_set]; exact hkl.2
          · exact hkl.2
        have HQB := Lib.hid (fun (V : World) (hV : Below wB.heap.size wB V) => show V.cell? ⟨a.s, 7, none⟩ = some (.int .i64 sp) ∧ V.cell? ⟨a.s, 4, none⟩ = some (.slice (some ⟨a.be, 0, none⟩) N N) ∧ V.cell? ⟨a.be, k, none⟩ = some (.int .i64 env) ∧ V.cell? ⟨gw, 2, none⟩ = some (.int .i64 x2.ls) ∧ V.cell? ⟨a.s, 5, none⟩ = some (.slice (some ⟨a.bf, 0, none⟩) N N) ∧ V.cell? ⟨a.bf, k, none⟩ = some (.int .i64 fv) ∧ V.cell? ⟨gw, 3, none⟩ = some (.int .i64 x2.fl) from by
          have h1 := (hV.block a.s hlsB).trans hsB
          have h2 := (hV.block gw hlwB).trans hwB
          have h3 := (HIB.out.below hV).en
          have h4 := (HIB.out.below hV).fa
          refine ⟨by rw [esp]; exact cell_of_blk (j := 7) h1 rfl, cell_of_blk (j := 4) h1 rfl, ?_, cell_of_blk (j := 2) h2 rfl, cell_of_blk (j := 5) h1 rfl, ?_, cell_of_blk (j := 3) h2 rfl⟩
          · have h5 := inB_cell (k := k) h3 (by rw [List.length_set]; exact hkl.1)
            rw [h5, List.getD_eq_getElem?_getD, List.getElem?_set_self hkl.1]
            rfl
          · rw [efv]; exact inB_cell h4 hfal)
        have hp1 : 0 ≤ x2.fl * env := Int.mul_nonneg y7 (by omega)
        have hp2 : x2.fl * env ≤ 1000 * 200 := Int.mul_le_mul y8 (by omega) (by omega) (by omega)
        have hpw : IntKind.i64.wrap (x2.fl * env) = x2.fl * env := by rw [IntKind.wrap_i64]; omega
        have hpw2 : IntKind.i64.wrap (1000 * fv) = 1000 * fv := by rw [IntKind.wrap_i64]; omega
        obtain ⟨bb, ebb⟩ : ∃ b, b = decide (sp < 0 ∧ (x2.ls ≤ env ∧ x2.fl * env < 1000 * fv)) := ⟨_, rfl⟩
        have HBO := Lib.hid (show bb = true ↔ (sp < 0 ∧ (x2.ls ≤ env ∧ x2.fl * env < 1000 * fv)) from by rw [ebb]; exact decide_eq_true_iff)
        have HSP := Lib.hid (show spN C s k m.at_ env (fa2.getD k 0) = if bb then m.at_ else sp from by
          unfold spN
          rw [HX2.out, ← efv, ← esp, ebb]
          show (if sp < 0 ∧ (x2.ls ≤ env ∧ x2.fl * env < 1000 * fv) then m.at_ else sp) = _
          by_cases h : sp < 0 ∧ (x2.ls ≤ env ∧ x2.fl * env < 1000 * fv)
          · rw [if_pos h, decide_eq_true h, if_pos rfl]
          · rw [if_neg h, decide_eq_false h, if_neg (by decide)])
        have HES := Lib.hid esp
        clear egw ewB hbB hwB hmA hsB hcB p0 c5 e0 e1 e2 e3 efv esp ebb hfal hkl hlsA hlcA hbr
        go_cut [159] (fun v wx => v = .bool bb ∧ Below wB.heap.size wB wx)
        case first =>
          as_aux_lemma =>
            by_cases a1 : sp < 0
            · by_cases a2 : x2.ls ≤ env
              · by_cases a3 : x2.fl * env < 1000 * fv
                · have HBT := Lib.hid (show bb = true from HBO.out.2 ⟨a1, a2, a3⟩)
                  refine qRegion (by kernel_rfl) (by kernel_rfl) ?_
                  repeat (first
                    | (go_big_quiet_want; refine qVal (fun V hV => (by (obtain ⟨q0, q1, q2, q3, q4, q5, q6⟩ := HQB.out V hV; go_simp; try rfl))) ?_; simp only [Act.put, List.setIfInBounds_toArray, List.set_cons_zero, List.set_cons_succ]; go_big_quiet_on)
                    | go_big_quiet_skip)
                  refine wpQuiet_nil ?_
                  intro wC hbC
                  go_wp2_with (fail)
                  go_meet
                  exact ⟨by rw [HBT.out], hbC⟩
                · have HBT := Lib.hid (show bb = false from Bool.eq_false_iff.2 (fun h => a3 (HBO.out.1 h).2.2))
                  refine qRegion (by kernel_rfl) (by kernel_rfl) ?_
                  repeat (first
                    | (go_big_quiet_want; refine qVal (fun V hV => (by (obtain ⟨q0, q1, q2, q3, q4, q5, q6⟩ := HQB.out V hV; go_simp; try rfl))) ?_; simp only [Act.put, List.setIfInBounds_toArray, List.set_cons_zero, List.set_cons_succ]; go_big_quiet_on)
                    | go_big_quiet_skip)
                  refine wpQuiet_nil ?_
                  intro wC hbC
                  go_wp2_with (fail)
                  go_meet
                  exact ⟨by rw [HBT.out], hbC⟩
              · have HBT := Lib.hid (show bb = false from Bool.eq_false_iff.2 (fun h => a2 (HBO.out.1 h).2.1))
                refine qRegion (by kernel_rfl) (by kernel_rfl) ?_
                repeat (first
                  | (go_big_quiet_want; refine qVal (fun V hV => (by (obtain ⟨q0, q1, q2, q3, q4, q5, q6⟩ := HQB.out V hV; go_simp; try rfl))) ?_; simp only [Act.put, List.setIfInBounds_toArray, List.set_cons_zero, List.set_cons_succ]; go_big_quiet_on)
                  | go_big_quiet_skip)
                refine wpQuiet_nil ?_
                intro wC hbC
                go_wp2_with (fail)
                go_meet
                exact ⟨by rw [HBT.out], hbC⟩
            · have HBT := Lib.hid (show bb = false from Bool.eq_false_iff.2 (fun h => a1 (HBO.out.1 h).1))
              refine qRegion (by kernel_rfl) (by kernel_rfl) ?_
              repeat (first
                | (go_big_quiet_want; refine qVal (fun V hV => (by (obtain ⟨q0, q1, q2, q3, q4, q5, q6⟩ := HQB.out V hV; go_simp; try rfl))) ?_; simp only [Act.put, List.setIfInBounds_toArray, List.set_cons_zero, List.set_cons_succ]; go_big_quiet_on)
                | go_big_quiet_skip)
              refine wpQuiet_nil ?_
              intro wC hbC
              go_wp2_with (fail)
              go_meet
              exact ⟨by rw [HBT.out], hbC⟩
        case rest =>
        obtain ⟨rfl, hbC⟩ := hcut
        obtain ⟨wC, rfl⟩ : ∃ wy : World, wy = wc := ⟨_, rfl⟩
        have HIC := Lib.hid (HIB.out.below hbC)
        have HBC := Lib.hid (HBB.out.trans (hbC.mono HIB.out.sz))
        have hmC := (hbC.block gm (Array.getElem?_eq_some_iff.1 HMB.out).1).trans HMB.out
        have m0 := cell_of_blk (j := 0) hmC rfl
        have hlmC := (Array.getElem?_eq_some_iff.1 hmC).1
        obtain ⟨vC, hsC, _⟩ := HIC.out.cells N HN.out.1
        have p7 := cell_of_blk (j := 7) hsC rfl
        have kf : wC.frozen? ⟨a.s, 7, none⟩ = false := by simp [World.frozen?, hsC]
        have hlsC := (Array.getElem?_eq_some_iff.1 hsC).1
        clear hmC hsC hbC HQB
        cases bb with
        | true =>
          have HF3 := Lib.hid (show StI B C F (wvN C) a (mkV (wvN C) C F s m) (wC.setCell ⟨a.s, 7, none⟩ (.int .i64 m.at_)) from by
            rw [HFIN.out, HSP.out, if_pos rfl]
            exact HIC.out.setSp m.at_)
          have HB3 := Lib.hid (HBC.out.setCell (p := ⟨a.s, 7, none⟩) (HIC.out.ge _ (StA.mem a).1) (.int .i64 m.at_))
          go_wp2_with (fail)
          go_end0
          exact ⟨rfl, HF3.out, HB3.out⟩
        | false =>
          have HF3 := Lib.hid (show StI B C F (wvN C) a (mkV (wvN C) C F s m) wC from by
            rw [HFIN.out, HSP.out, if_neg (by decide), HES.out]
            exact HIC.out)
          go_wp2_with (fail)
          go_end0
          exact ⟨rfl, HF3.out, HBC.out⟩
end Go.Proofs.YtidgicbhgnbidaaGreatDoor
