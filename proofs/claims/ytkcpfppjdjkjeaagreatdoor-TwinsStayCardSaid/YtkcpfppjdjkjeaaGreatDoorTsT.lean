/- twin.twinFault, twin.Take with the stamp 99 z, slices.Clone of cells. Printed by gen_TsT.py. -/
import Derived.Test.YtkcpfppjdjkjeaaGreatDoorCeN
import Derived.Test.YtkcpfppjdjkjeaaGreatDoorPrK
namespace Go.Proofs.YtkcpfppjdjkjeaaGreatDoor
open Go.RowKit

def tkS : Sp := ⟨99, 3, 0⟩
def tkL (c : List Ch) : List Ce := c.map (fun x => (x.1, x.2.2, tkS))
theorem tk_ok {c : List Ch} (h : ChsOk c) : CsOk (tkL c) := by
  refine ⟨?_, fun x hx => ?_⟩
  · unfold tkL
    rw [List.pairwise_map]
    exact h.1
  · unfold tkL at hx
    rw [List.mem_map] at hx
    obtain ⟨y, hy, rfl⟩ := hx
    obtain ⟨h1, _, h3, _⟩ := h.2 y hy
    refine ⟨h1, h3, ?_⟩
    show SpOk tkS
    unfold SpOk tkS
    simp
def Erl (R : List Ce) : Prop := ∀ x ∈ R, x.2.2.at_ ≤ 9
theorem erl_sk {R : List Ce} (hR : CsOk R) (h9 : Erl R) {x : Ce} (hx : x ∈ R) : sk x.2.2 < sk tkS := by
  have h1 := h9 x hx
  obtain ⟨g1, g2, g3, g4, g5⟩ := (hR.2 x hx).2.2
  simp only [sk, tkS]
  omega
theorem tk_sk {c : List Ch} {x : Ce} (h : x ∈ tkL c) : x.2.2 = tkS := by
  unfold tkL at h
  rw [List.mem_map] at h
  obtain ⟨y, _, rfl⟩ := h
  rfl
theorem tk_cfl {R : List Ce} {c : List Ch} (hR : CsOk R) (h9 : Erl R) : cfL R (tkL c) = false := by
  unfold cfL
  rw [List.any_eq_false]
  intro i _ hc
  cases ha : co R i with
  | none => rw [ha, cfl_none_l] at hc; cases hc
  | some a =>
    cases hb : co (tkL c) i with
    | none => rw [hb, cfl_none_r] at hc; cases hc
    | some b =>
      rw [ha, hb, cfl_iff] at hc
      have h1 := erl_sk hR h9 (co_some ha)
      have h2 := tk_sk (co_some hb)
      simp only at h1 h2
      rw [h2] at hc
      omega
set_option maxRecDepth 100000 in
set_option maxHeartbeats 2000000 in
theorem twinFault_any (D R : List Ce) (n m c d : Nat) (A B : Option Addr) (w : World) (hD : CsOk D) (hR : CsOk R) (hn : D.length = n) (hm : R.length = m) (hn7 : n ≤ 100) (hm7 : m ≤ 100) (hra : Row w w.heap.size A (recs ceC D)) (hrb : Row w w.heap.size B (recs ceC R)) (hT : U8T w) :
    Calls Tryz.prog 45 #[.agg #[.slice A n c, .slice B m d]] w fun e w' => e = .returned (.int .i64 0) ∧ Below w.heap.size w w' := by
  have HC1 := Lib.hid (fun V (hV : Below w.heap.size w V) => checkCells_any D n c A V hD hn hn7 ((hra.below hV).mono hV.size) (hT.below hV))
  have HC2 := Lib.hid (fun V (hV : Below w.heap.size w V) => checkCells_any R m d B V hR hm hm7 ((hrb.below hV).mono hV.size) (hT.below hV))
  clear hD hR hn hm hra hrb hT
  go_enter Tryz.func45, Tryz.ntmps45
  go_upto_region 1 with (fail)
  generalize hW : w.alloc (.cells #[.slice A n c, .slice B m d] 49) = W
  have hBW : Below w.heap.size w W := by rw [← hW]; exact (Below.refl _ _).alloc (Nat.le_refl _) _
  have ha0 : W.heap[w.heap.size]? = some (.cells #[.slice A n c, .slice B m d] 49 (0, 0)) := by rw [← hW]; exact heap_new w _
  have hWs : w.heap.size < W.heap.size := by rw [← hW]; simp
  have HBW := Lib.hid hBW
  have HV1 := Lib.hid (fun V (hV : Below W.heap.size W V) => HC1.out V (HBW.out.trans (hV.mono HBW.out.size)))
  have HV2 := Lib.hid (fun V (hV : Below W.heap.size W V) => HC2.out V (HBW.out.trans (hV.mono HBW.out.size)))
  have HQ := Lib.hid (fun (V : World) (hV : Below W.heap.size W V) => show V.cell? ⟨w.heap.size, 0, none⟩ = some (.slice A n c) ∧ V.cell? ⟨w.heap.size, 1, none⟩ = some (.slice B m d) from by
    have h1 := (hV.block w.heap.size (by omega)).trans ha0
    exact ⟨cell_of_blk (j := 0) h1 rfl, cell_of_blk (j := 1) h1 rfl⟩)
  clear hW hBW ha0 HC1 HC2
  go_upto_region 1 with (fail)
  refine qRegionTail 6 (by kernel_rfl) (by kernel_rfl) ?_
  simp only [List.take_succ_cons, List.take_zero, List.drop_succ_cons, List.drop_zero]
  repeat (first
    | (go_big_quiet_want; refine qVal (fun V hV => (by (obtain ⟨a0, a1⟩ := HQ.out V hV; go_simp; try rfl))) ?_; simp only [Act.put, List.setIfInBounds_toArray, List.set_cons_zero, List.set_cons_succ]; go_big_quiet_on)
    | (go_big_quiet_want
       refine qCall (fun V hV => (by (obtain ⟨a0, a1⟩ := HQ.out V hV; go_simp; exact ⟨rfl, rfl⟩))) (fun V hV => (by first
         | with_reducible exact (HV1.out V hV).mono (fun e w' h => ⟨h.1, hV.trans (h.2.mono hV.size)⟩)
         | with_reducible exact (HV2.out V hV).mono (fun e w' h => ⟨h.1, hV.trans (h.2.mono hV.size)⟩))) ?_
       simp only [Act.put, List.setIfInBounds_toArray, List.set_cons_zero, List.set_cons_succ]; go_big_quiet_on)
    | go_big_quiet_skip)
  refine wpQuiet_nil ?_
  intro w1 hb1
  have HB1 := Lib.hid hb1
  clear hb1
  go_wp2_with (go_at_call 30; refine (first_ok 2 2 _ _ (by omega) (Cells.new _ _ _ _ _ rfl)).mono ?_; rintro e w' ⟨rfl, rfl⟩)
  go_ret
  exact ⟨rfl, HBW.out.trans ((HB1.out.alloc HB1.out.size _).mono HBW.out.size)⟩
def tkLate (x : Ce) : Bool := decide (0 ≤ cmpI (sk x.2.2) (sk tkS))
def StB (w : World) (g : Nat) : Prop := w.cell? ⟨g, 0, none⟩ = some (.int .i64 99) ∧ w.cell? ⟨g, 1, none⟩ = some (.string ⟨#[122]⟩) ∧ w.cell? ⟨g, 2, none⟩ = some (.int .i64 0)
set_option maxRecDepth 100000 in
theorem take1_any (x : Ce) (gs : Nat) (w : World) (hx : CvOk x.2) (h : StB w gs) (hlt : gs < w.heap.size) : Calls Tryz.prog 47 #[.agg #[.string (nm x.1), .int .i64 x.2.1.k, .bool x.2.1.f, .int .i64 x.2.1.n, .string x.2.1.s, .int .i64 x.2.2.at_, .string (byT x.2.2.by_), .int .i64 x.2.2.no], .pointer (some ⟨gs, 0, none⟩)] w fun e w' => e = .returned (.bool (tkLate x)) ∧ Below w.heap.size w w' := by
  obtain ⟨h0, h1, h2⟩ := h
  have HBS := Lib.hid (fun V => byStamp_any x.2.2 tkS hx.2 (by unfold SpOk tkS; simp) V)
  have HL := Lib.hid (show tkLate x = decide (0 ≤ cmpI (sk x.2.2) (sk tkS)) from rfl)
  obtain ⟨z, ez⟩ : ∃ z, z = cmpI (sk x.2.2) (sk tkS) := ⟨_, rfl⟩
  rw [← ez] at HBS HL
  clear ez hx
  go_enter Tryz.func47, Tryz.ntmps47
  go_wp2_with (fail)
  refine (HBS.out _).mono ?_
  rintro e w1 ⟨rfl, hb1⟩
  have HB1 := Lib.hid (((Below.refl w.heap.size w).alloc (Nat.le_refl _) (ceBlk x)).trans (hb1.mono (by simp)))
  clear hb1
  go_wp2_with (fail)
  go_ret
  exact ⟨by rw [HL.out]; rfl, HB1.out⟩
def tkPost (l : List Ce) (e : Ending) : Prop := ∃ z : Int, e = .returned (.int .i64 z) ∧ (0 ≤ z ↔ l.any (fun x => tkLate x) = true)
set_option maxRecDepth 100000 in
set_option maxHeartbeats 2000000 in
theorem tkIdx_any (l : List Ce) (gs : Nat) (n c : Nat) (A : Option Addr) (w : World) (hl : ∀ x ∈ l, CvOk x.2) (hn : l.length = n) (hn7 : n ≤ 1000) (hr : Row w w.heap.size A (recs ceC l)) (h : StB w gs) (hgs : gs < w.heap.size) :
    Calls Tryz.prog 71 #[.slice A n c, .func (.func 47) #[] #[.pointer (some ⟨gs, 0, none⟩)]] w fun e w' => tkPost l e ∧ Below w.heap.size w w' := by
  have HR := Lib.hid hr
  have HN := Lib.hid hn
  have HL := Lib.hid hl
  have HH := Lib.hid (fun (x : Ce) (hx : CvOk x.2) (V : World) (hV : Below w.heap.size w V) => take1_any x gs V hx ⟨(hV.cell (p := ⟨gs, 0, none⟩) hgs).trans h.1, (hV.cell (p := ⟨gs, 1, none⟩) hgs).trans h.2.1, (hV.cell (p := ⟨gs, 2, none⟩) hgs).trans h.2.2⟩ (by have := hV.size; omega))
  clear hr hn hl
  go_enter Tryz.func71, Tryz.ntmps71
  go_wp2_with (fail)
  go_loopw [8] (fun i wr => ∃ k : Nat, k ≤ n ∧ i = .int .i64 k ∧ Below w.heap.size w wr ∧ Hid (∀ m x, m < k → l[m]? = some x → (tkLate x) = false)) (fun i _ => n - (intOf i).toNat)
  case atStart => exact ⟨0, Nat.zero_le _, rfl, Below.refl _ _, Lib.hid (fun m x hm _ => by omega)⟩
  case round =>
    obtain ⟨k, hk, rfl, hb, HK⟩ := hrel
    have hbs := hb.size
    have HB := Lib.hid hb
    by_cases hlt : k < n
    · have hltI : (k : Int) < (n : Int) := by omega
      obtain ⟨x, hx⟩ : ∃ x, l[k]? = some x := ⟨_, List.getElem?_eq_getElem (by have := HN.out; omega)⟩
      obtain ⟨b, o, rfl, hbw, hC⟩ := (HR.out.below hb).posR ceC_len (by omega) (by have := HN.out; omega)
      obtain ⟨c0, c1, c2, c3, c4, c5, c6, c7⟩ := ce_cells hC k x hx
      have HX := Lib.hid hx
      have HXO := Lib.hid (HL.out x (List.mem_of_getElem? hx))
      clear hC hx hb
      go_wp2_with (fail)
      refine (HH.out x HXO.out wr HB.out).mono ?_
      rintro e w1 ⟨rfl, hb1⟩
      have HB1 := Lib.hid (HB.out.trans (hb1.mono hbs))
      clear hb1
      cases hu : (tkLate x)
      · have HU := Lib.hid hu
        clear hu
        go_wp2_with (fail)
        go_roundw
        case rel =>
          refine ⟨k + 1, by omega, by simp, HB1.out, Lib.hid (fun m z hm hz => ?_)⟩
          by_cases hmk : m = k
          · subst hmk
            have := HX.out
            rw [hz] at this
            cases this
            exact HU.out
          · exact HK.out m z (by omega) hz
        case measure => simp [intOf]; omega
      · have HU := Lib.hid (show l.any (fun x => tkLate x) = true from by
          rw [List.any_eq_true]
          exact ⟨x, List.mem_of_getElem? HX.out, hu⟩)
        clear hu
        go_wp2_with (fail)
        go_ret
        exact ⟨⟨_, rfl, iff_of_true (by omega) HU.out⟩, HB1.out⟩
    · have hltI : ¬ (k : Int) < (n : Int) := by omega
      have hall := Lib.hid (show l.any (fun x => tkLate x) = false from by
        rw [List.any_eq_false]
        intro q hq
        obtain ⟨m, hm⟩ := List.getElem?_of_mem hq
        rw [HK.out m q (by have := (List.getElem?_eq_some_iff.1 hm).1; have := HN.out; omega) hm]
        simp)
      clear hb
      go_wp2_with (fail)
      go_ret
      exact ⟨⟨_, rfl, iff_of_false (by omega) (by rw [hall.out]; simp)⟩, HB.out⟩
set_option maxRecDepth 100000 in
theorem tkHas_any (l : List Ce) (gs : Nat) (n c : Nat) (A : Option Addr) (w : World) (hl : ∀ x ∈ l, CvOk x.2) (hn : l.length = n) (hn7 : n ≤ 1000) (hr : Row w w.heap.size A (recs ceC l)) (h : StB w gs) (hgs : gs < w.heap.size) :
    Calls Tryz.prog 38 #[.slice A n c, .func (.func 47) #[] #[.pointer (some ⟨gs, 0, none⟩)]] w fun e w' => e = .returned (.bool (l.any (fun x => tkLate x))) ∧ Below w.heap.size w w' := by
  have HI := Lib.hid (tkIdx_any l gs n c A w hl hn hn7 hr h hgs)
  obtain ⟨t, et⟩ : ∃ t, t = l.any (fun x => tkLate x) := ⟨_, rfl⟩
  unfold tkPost at HI
  rw [← et] at HI ⊢
  clear hl hn hr et
  go_enter Tryz.func38, Tryz.ntmps38
  go_wp2_with (fail)
  refine HI.out.mono ?_
  rintro e w1 ⟨⟨z, rfl, hz⟩, hb1⟩
  have HB1 := Lib.hid hb1
  have HZ := Lib.hid hz
  clear hz hb1
  have HD := Lib.hid (show decide (0 ≤ z) = t from by rw [Bool.eq_iff_iff, decide_eq_true_iff]; exact HZ.out)
  go_wp2_with (fail)
  go_ret
  exact ⟨by rw [← HD.out]; rfl, HB1.out⟩
set_option maxRecDepth 100000 in
set_option maxHeartbeats 1000000 in
theorem cloneC_some (b off n c : Nat) (xs : List Value) (w : World) (hl : xs.length = n * 8) (h1 : ∀ u ∈ xs, u.oneCell' = true) (hn : n ≤ 1000000) (hc : Cells w b off xs) :
    Calls Tryz.prog 49 #[.slice (some ⟨b, off, none⟩) n c] w fun e w' => ∃ v', e = .returned v' ∧ w'.ownsRow w.heap.size 41 8 v' n xs ∧ Below w.heap.size w w' := by
  obtain ⟨i0, hi, hz0, hz1, hz2⟩ := info_parts Tryz.infoCe
  have q22 : ∀ (w : World) (a : Option Addr) (n c n' c' : Nat), (binOp .eql 26 (.slice a n c) (.slice none n' c')).run Tryz.prog w = .ok (.bool a.isNone) w := fun w a n c n' c' => Lib.run_eql_slice_nil w _ _ a n c n' c' Tryz.underlying26
  have HC := Lib.hid hc
  have H1 := Lib.hid h1
  have HL := Lib.hid hl
  clear hc h1 hl
  go_enter Tryz.func49, Tryz.ntmps49
  go_wp2_with (at_builtin; refine wpList_append_own _ rfl _ _ 26 rfl w.heap.size 41 i0 _ 8 88 Tryz.underlying26 hi hz0 hz1 hz2 rfl (by decide) _ _ _ rfl (World.ownsRow_made w #[] 0 (Nat.le_refl _) (Nat.zero_le _) rfl) ⟨b, off, none⟩ n c xs rfl ?qc1 ?qc2 ?qc3 ?qc4 ?qc5 ?qc6 ?_)
  case qc1 => exact HL.out
  case qc2 =>
    intro j u hj
    rw [Addr.add_lit]
    exact Lib.cell?_alloc_some _ (HC.out j u hj)
  case qc3 => exact H1.out
  case qc4 => unfold maxLen; omega
  case qc5 => omega
  case qc6 => simp
  intro v' w1 hown hgrow hnil
  go_wp2
  go_ret
  refine ⟨v', rfl, by simpa using hown, ?_⟩
  exact ((Below.refl _ w).alloc (Nat.le_refl _) _).grown hgrow (by simp) (by intro k hk; simp [Value.ownBlock] at hk; omega)
theorem cloneC_nil (n c : Nat) (w : World) : Calls Tryz.prog 49 #[.slice none n c] w fun e w' => e = .returned (.slice none 0 0) ∧ w = w' := by
  have q22 : ∀ (w : World) (a : Option Addr) (n c n' c' : Nat), (binOp .eql 26 (.slice a n c) (.slice none n' c')).run Tryz.prog w = .ok (.bool a.isNone) w := fun w a n c n' c' => Lib.run_eql_slice_nil w _ _ a n c n' c' Tryz.underlying26
  go_enter Tryz.func49, Tryz.ntmps49
  go_wp2
  go_ret
  exact ⟨rfl, rfl⟩
theorem cloneC_any (l : List Ce) (n c : Nat) (A : Option Addr) (w : World) (hn : l.length = n) (hn2 : n ≤ 5000) (ho : Ly w A n c (recs ceC l)) :
    Calls Tryz.prog 49 #[.slice A n c] w fun e w' => ∃ A' c', e = .returned (.slice A' n c') ∧ w'.ownsRow w.heap.size 41 8 (.slice A' n c') n (recs ceC l) ∧ Below w.heap.size w w' := by
  rcases ho with ⟨rfl, rfl, rfl, hx⟩ | ⟨b, o, rfl, hb, hC⟩
  · obtain rfl : l = [] := List.eq_nil_of_length_eq_zero hn
    refine (cloneC_nil 0 0 w).mono ?_
    rintro e w' ⟨rfl, rfl⟩
    exact ⟨none, 0, rfl, by simpa [recs] using World.ownsRow_nil _ _ _ _, Below.refl _ _⟩
  · refine (cloneC_some b o n c (recs ceC l) w (by rw [recs_length ceC_len, hn]) (recs_one ceC_one l) (by omega) hC).mono ?_
    rintro e w' ⟨v', rfl, h1, h2⟩
    obtain ⟨A', c', rfl⟩ := own_slice h1
    exact ⟨A', c', rfl, h1, h2⟩
theorem tk_take {l : List Ch} {k : Nat} {x : Ch} (h : l[k]? = some x) : tkL (l.take (k + 1)) = tkL (l.take k) ++ [(x.1, x.2.2, tkS)] := by
  unfold tkL
  rw [List.take_add_one, h, List.map_append]
  rfl
def TkPost (D R : List Ce) (n : Nat) (ch : List Ch) (w : World) (e : Ending) (w' : World) : Prop :=
  ∃ A B c d m, e = .returned (.tuple #[.agg #[.slice A n c, .slice B m d], .int .i64 0]) ∧ (mgL R (tkL ch)).length = m ∧ w'.ownsRow w.heap.size 41 8 (.slice A n c) n (recs ceC D) ∧ w'.ownsRow w.heap.size 41 8 (.slice B m d) m (recs ceC (mgL R (tkL ch))) ∧ Below w.heap.size w w' ∧ (∀ q q', (Value.slice A n c).ownBlock = some q → (Value.slice B m d).ownBlock = some q' → q' < q)
set_option maxRecDepth 100000 in
set_option maxHeartbeats 8000000 in
theorem take_any (D R : List Ce) (ch : List Ch) (n m q c d e0 : Nat) (A B C : Option Addr) (w : World) (hD : CsOk D) (hR : CsOk R) (h9 : Erl R) (hch : ChsOk ch) (hn : D.length = n) (hm : R.length = m) (hq : ch.length = q) (hn7 : n ≤ 40) (hm7 : m ≤ 40) (hq7 : q ≤ 40) (hmd : m ≤ d) (hra : Ly w A n c (recs ceC D)) (hrb : Ly w B m d (recs ceC R)) (hrc : Row w w.heap.size C (recs chC ch)) (hT : U8T w) :
    Calls Tryz.prog 13 #[.agg #[.slice A n c, .slice B m d], .slice C q e0, .agg #[.int .i64 99, .string ⟨#[122]⟩, .int .i64 0]] w fun e w' => TkPost D R n ch w e w' := by
  obtain ⟨i0, hi0, hz0, hz1, hz2⟩ := info_parts Tryz.infoCe
  have HLA := Lib.hid (fun V (hV : Below w.heap.size w V) => hra.below hV)
  have HLB := Lib.hid (fun V (hV : Below w.heap.size w V) => hrb.below hV)
  have HRC := Lib.hid (fun V (hV : Below w.heap.size w V) => (hrc.below hV).mono hV.size)
  have HT := Lib.hid (fun V (hV : Below w.heap.size w V) => hT.below hV)
  have HD := Lib.hid hD
  have HR := Lib.hid hR
  have HCH := Lib.hid hch
  have HN := Lib.hid hn
  have HM := Lib.hid hm
  have HQ := Lib.hid hq
  have HTOK := Lib.hid (tk_ok hch)
  have HCF := Lib.hid (tk_cfl (c := ch) hR h9)
  have HLATE := Lib.hid (show R.any (fun x => tkLate x) = false from by
    rw [List.any_eq_false]
    intro x hx
    have := erl_sk hR h9 hx
    unfold tkLate cmpI
    rw [if_pos this]
    decide)
  clear hra hrb hrc hT hD hR h9 hch hn hm hq
  go_enter Tryz.func13, Tryz.ntmps13
  go_upto_region 1 with (fail)
  obtain ⟨g0, eg0⟩ : ∃ g, g = w.heap.size := ⟨_, rfl⟩
  generalize hw0 : ((w.alloc (.cells #[.slice A n c, .slice B m d] 49)).alloc (.cells #[.int .i64 99, .string ⟨#[122]⟩, .int .i64 0] 39)).alloc (.cells #[.slice none 0 0, .slice none 0 0] 49) = w0
  have HB0 := Lib.hid (show Below w.heap.size w w0 from by rw [← hw0]; exact (((Below.refl _ _).alloc (Nat.le_refl _) _).alloc (by simp) _).alloc (by simp; omega) _)
  have hx0 : w0.heap[g0]? = some (.cells #[.slice A n c, .slice B m d] 49 (0, 0)) := by
    rw [← hw0, eg0, Below.heap_alloc _ _ _ (by simp; omega), Below.heap_alloc _ _ _ (by simp)]; exact heap_new w _
  have hxs : w0.heap[g0 + 1]? = some (.cells #[.int .i64 99, .string ⟨#[122]⟩, .int .i64 0] 39 (0, 0)) := by
    rw [← hw0, eg0, Below.heap_alloc _ _ _ (by simp)]
    have := heap_new (w.alloc (.cells #[.slice A n c, .slice B m d] 49)) (.cells #[.int .i64 99, .string ⟨#[122]⟩, .int .i64 0] 39)
    simpa using this
  have hxr : w0.heap[g0 + 1 + 1]? = some (.cells #[.slice none 0 0, .slice none 0 0] 49 (0, 0)) := by
    rw [← hw0, eg0]
    have := heap_new ((w.alloc (.cells #[.slice A n c, .slice B m d] 49)).alloc (.cells #[.int .i64 99, .string ⟨#[122]⟩, .int .i64 0] 39)) (.cells #[.slice none 0 0, .slice none 0 0] 49)
    simpa using this
  have hg0 : g0 + 1 + 1 < w0.heap.size := (Array.getElem?_eq_some_iff.1 hxr).1
  have hgw : w.heap.size ≤ g0 := by omega
  rw [← eg0]
  clear hw0 eg0
  have HQ0 := Lib.hid (fun (V : World) (hV : Below w0.heap.size w0 V) => show V.cell? ⟨g0, 0, none⟩ = some (.slice A n c) ∧ V.cell? ⟨g0, 1, none⟩ = some (.slice B m d) ∧ V.cell? ⟨g0 + 1, 0, none⟩ = some (.int .i64 99) ∧ V.cell? ⟨g0 + 1, 1, none⟩ = some (.string ⟨#[122]⟩) ∧ V.cell? ⟨g0 + 1, 2, none⟩ = some (.int .i64 0) from by
    have h1 := (hV.block g0 (by omega)).trans hx0
    have h2 := (hV.block (g0 + 1) (by omega)).trans hxs
    exact ⟨cell_of_blk (j := 0) h1 rfl, cell_of_blk (j := 1) h1 rfl, cell_of_blk (j := 0) h2 rfl, cell_of_blk (j := 1) h2 rfl, cell_of_blk (j := 2) h2 rfl⟩)
  have HXR := Lib.hid (fun (V : World) (hV : Below w0.heap.size w0 V) => (hV.block (g0 + 1 + 1) hg0).trans hxr)
  clear hx0 hxs hxr
  have HV1 := Lib.hid (fun V (hV : Below w0.heap.size w0 V) => twinFault_any D R n m c d A B V HD.out HR.out HN.out HM.out (by omega) (by omega) (HLA.out V (HB0.out.trans (hV.mono HB0.out.size))).row_ (HLB.out V (HB0.out.trans (hV.mono HB0.out.size))).row_ (HT.out V (HB0.out.trans (hV.mono HB0.out.size))))
  have HV2 := Lib.hid (fun V (hV : Below w0.heap.size w0 V) => checkChanges_any ch q e0 C V HCH.out HQ.out (by omega) (HRC.out V (HB0.out.trans (hV.mono HB0.out.size))) (HT.out V (HB0.out.trans (hV.mono HB0.out.size))))
  have HV3 := Lib.hid (fun (V : World) => show Calls Tryz.prog 46 #[.agg #[.int .i64 99, .string ⟨#[122]⟩, .int .i64 0]] V (fun e w' => e = .returned (.int .i64 0) ∧ Below V.heap.size V w') from stampFault_any tkS (by unfold SpOk tkS; simp) V)
  go_upto_region 1 with (fail)
  refine qRegionTail 6 (by kernel_rfl) (by kernel_rfl) ?_
  simp only [List.take_succ_cons, List.take_zero, List.drop_succ_cons, List.drop_zero]
  repeat (first
    | (go_big_quiet_want; refine qVal (fun V hV => (by (obtain ⟨a0, a1, b0, b1, b2⟩ := HQ0.out V hV; go_simp; try rfl))) ?_; simp only [Act.put, List.setIfInBounds_toArray, List.set_cons_zero, List.set_cons_succ]; go_big_quiet_on)
    | (go_big_quiet_want
       refine qCall (fun V hV => (by (obtain ⟨a0, a1, b0, b1, b2⟩ := HQ0.out V hV; go_simp; exact ⟨rfl, rfl⟩))) (fun V hV => (by first
         | with_reducible exact (HV1.out V hV).mono (fun e w' h => ⟨h.1, hV.trans (h.2.mono hV.size)⟩)
         | with_reducible exact (HV2.out V hV).mono (fun e w' h => ⟨h.1, hV.trans (h.2.mono hV.size)⟩)
         | with_reducible exact (HV3.out V).mono (fun e w' h => ⟨h.1, hV.trans (h.2.mono hV.size)⟩))) ?_
       simp only [Act.put, List.setIfInBounds_toArray, List.set_cons_zero, List.set_cons_succ]; go_big_quiet_on)
    | go_big_quiet_skip)
  refine wpQuiet_nil ?_
  intro w1 hb1
  have HB1 := Lib.hid hb1
  clear hb1
  go_upto_region 4 with (go_at_call 30; refine (first_ok 3 3 _ _ (by omega) (Cells.new _ _ _ _ _ rfl)).mono ?_; rintro e w' ⟨rfl, rfl⟩)
  have hb2 : Below w1.heap.size w1 (w1.alloc (.cells #[.int .i64 0, .int .i64 0, .int .i64 0] 30)) := (Below.refl _ _).alloc (Nat.le_refl _) _
  generalize w1.alloc (.cells #[.int .i64 0, .int .i64 0, .int .i64 0] 30) = w2 at hb2 ⊢
  have HB2 := Lib.hid (HB1.out.trans (hb2.mono HB1.out.size))
  have HBw2 := Lib.hid (HB0.out.trans (HB2.out.mono HB0.out.size))
  clear hb2 HV1 HV2 HV3
  obtain ⟨a0, a1, b0, b1, b2⟩ := HQ0.out w2 HB2.out
  have hg2 : g0 + 1 < w2.heap.size := World.block_lt_of_cell? w2 _ b0
  go_wp2_with (fail)
  refine (tkHas_any R (g0 + 1) m d B w2 (fun x hx => (HR.out.2 x hx).2) HM.out (by omega) (HLB.out w2 HBw2.out).row_ ⟨b0, b1, b2⟩ hg2).mono ?_
  rintro e w3 ⟨rfl, hb3⟩
  rw [HLATE.out]
  have HB3 := Lib.hid (HB2.out.trans (hb3.mono HB2.out.size))
  have HBw3 := Lib.hid (HB0.out.trans (HB3.out.mono HB0.out.size))
  clear hb3 a0 a1 b0 b1 b2 HB1 HB2 HBw2
  go_wp2_with (fail)
  go_loopw [9, 33] (fun v s wr => ∃ i : Nat, i ≤ q ∧ s = .int .i64 (i : Int) ∧ wr.ownsRow w3.heap.size 41 8 v i (recs ceC (tkL (ch.take i))) ∧ Below w3.heap.size w3 wr) (fun _ s _ => q - (intOf s).toNat)
  case atStart => exact ⟨0, by omega, rfl, World.ownsRow_nil _ _ _ _, Below.refl _ _⟩
  case round =>
    obtain ⟨i, hiq, rfl, hown, hbr⟩ := hrel
    have hbs := hbr.size
    have HB := Lib.hid hbr
    have HO := Lib.hid hown
    have HBr := Lib.hid (HB3.out.trans (hbr.mono HB3.out.size))
    have HBw := Lib.hid (HBw3.out.trans (hbr.mono HBw3.out.size))
    obtain ⟨a0, a1, b0, b1, b2⟩ := HQ0.out wr HBr.out
    by_cases hlt : i < q
    · have hltI : (i : Int) < q := by omega
      clear hown hbr
      obtain ⟨x, hx⟩ : ∃ x, ch[i]? = some x := ⟨_, List.getElem?_eq_getElem (by have := HQ.out; omega)⟩
      obtain ⟨b, o, rfl, hb, hC⟩ := (HRC.out wr HBw.out).posR chC_len (by omega) (by have := HQ.out; omega)
      obtain ⟨c0, c1, c2, c3, c4, c5, c6, c7, c8⟩ := ch_cells hC i x hx
      have HTK := Lib.hid (tk_take hx)
      have hgr : g0 + 1 < wr.heap.size := World.block_lt_of_cell? wr _ b0
      have hgn : ¬ g0 + 1 = wr.heap.size := by omega
      clear hC hx
      go_upto_region 10 with (fail)
      generalize hWa : wr.alloc (.cells #[.string (nm x.1), .int .i64 x.2.1.k, .bool x.2.1.f, .int .i64 x.2.1.n, .string x.2.1.s, .int .i64 x.2.2.k, .bool x.2.2.f, .int .i64 x.2.2.n, .string x.2.2.s] 81) = Wa
      have hba : Below wr.heap.size wr Wa := by rw [← hWa]; exact (Below.refl _ _).alloc (Nat.le_refl _) _
      have hxa : Wa.heap[wr.heap.size]? = some (.cells #[.string (nm x.1), .int .i64 x.2.1.k, .bool x.2.1.f, .int .i64 x.2.1.n, .string x.2.1.s, .int .i64 x.2.2.k, .bool x.2.2.f, .int .i64 x.2.2.n, .string x.2.2.s] 81 (0, 0)) := by rw [← hWa]; exact heap_new wr _
      have y0 := cell_of_blk (j := 0) hxa rfl
      have y5 := cell_of_blk (j := 5) hxa rfl
      have y6 := cell_of_blk (j := 6) hxa rfl
      have y7 := cell_of_blk (j := 7) hxa rfl
      have y8 := cell_of_blk (j := 8) hxa rfl
      have HBa := Lib.hid (HB.out.trans (hba.mono hbs))
      have HOa := Lib.hid (own_belowP HO.out hba)
      clear a0 a1 b0 b1 b2 c0 c1 c2 c3 c4 c5 c6 c7 c8
      obtain ⟨a0, a1, b0, b1, b2⟩ := HQ0.out Wa (HBr.out.trans (hba.mono HBr.out.size))
      clear hWa hba hxa
      go_wp2_with (at_builtin; refine wpList_append_own2 _ rfl _ _ 26 rfl w3.heap.size 41 i0 _ 8 88 Tryz.underlying26 hi0 hz0 hz1 hz2 rfl (by decide) _ _ _ rfl (HOa.out.alloc _) ⟨_, 0, none⟩ 1 1 (ceC (x.1, x.2.2, tkS)) rfl rfl ?c1 ?c2 ?c3 ?c4 ?c5 ?_)
      case c1 => exact cells_add (cells_atF (by rfl) (by first | rfl | simp))
      case c2 => exact ceC_one _
      case c3 => unfold maxLen; omega
      case c4 => omega
      case c5 => have := HBa.out.size; first | omega | (simp; omega)
      intro v6 w6 ho6 hg6 hm6
      have hlo : ∀ k, u9.ownBlock = some k → w3.heap.size ≤ k := fun k hk => (HOa.out.lt k hk).1
      have HB6 := Lib.hid ((HBa.out.alloc HBa.out.size _).grown hg6 (by have := HBa.out.size; first | omega | (simp; omega)) hlo)
      have HO6 := Lib.hid ho6
      clear ho6 hg6 hm6 hlo a0 a1 b0 b1 b2 y0 y5 y6 y7 y8
      go_wp2_with (fail)
      go_roundw
      case rel =>
        refine ⟨i + 1, by omega, by simp, ?_, HB6.out⟩
        rw [HTK.out, recs_snoc]
        exact HO6.out
      case measure => simp [intOf]; omega
    · have hltI : ¬ (i : Int) < q := by omega
      have hiq' : i = q := by omega
      subst hiq'
      obtain ⟨A1, c1, rfl⟩ := own_slice hown
      rw [List.take_of_length_le (by rw [HQ.out]; exact Nat.le_refl _)] at hown
      have HOt := Lib.hid hown
      have HNt := Lib.hid (show (tkL ch).length = i from by unfold tkL; rw [List.length_map]; exact HQ.out)
      have hcap := own_cap hown
      obtain ⟨w4, e4⟩ : ∃ y, y = wr := ⟨_, rfl⟩
      subst e4
      have HLt := Lib.hid (own_ly hown)
      have hs3 := HBw3.out.size
      clear hown hbr
      go_wp2_with (fail)
      refine (merged_any R (tkL ch) m i d c1 B A1 w4 HR.out HTOK.out HM.out HNt.out hm7 hq7 hmd hcap (HLB.out w4 HBw.out) HLt.out).mono ?_
      rintro e w5 ⟨h, hb5⟩
      rw [HCF.out] at h
      replace h := h.resolve_left (fun k => by cases k.1)
      obtain ⟨_, A5, c5, m5, hl5, rfl, ho5⟩ := h
      have HB5 := Lib.hid (HBr.out.trans (hb5.mono HBr.out.size))
      have HBw5 := Lib.hid (HBw.out.trans (hb5.mono HBw.out.size))
      have HO5 := Lib.hid (own_mono ho5 HBw.out.size)
      have HN5 := Lib.hid hl5
      have hgb : g0 + 1 + 1 < w4.heap.size := by have := HBr.out.size; omega
      have HO5g := Lib.hid (fun k hk => show ¬ k = g0 + 1 + 1 from by have := (ho5.lt k hk).1; omega)
      clear hb5 ho5 hl5 a0 a1 b0 b1 b2 HB HO
      obtain ⟨a0, a1, b0, b1, b2⟩ := HQ0.out w5 HB5.out
      go_wp2_with (fail)
      refine (cloneC_any D n c A w5 HN.out (by omega) (HLA.out w5 HBw5.out)).mono ?_
      rintro e w6 ⟨A6, c6, rfl, ho6, hb6⟩
      have HB6 := Lib.hid (HB5.out.trans (hb6.mono HB5.out.size))
      have HBw6 := Lib.hid (HBw5.out.trans (hb6.mono HBw5.out.size))
      have HDJ := Lib.hid (show ∀ q q', (Value.slice A6 n c6).ownBlock = some q → (Value.slice A5 m5 c5).ownBlock = some q' → q' < q from fun q q' h h' => by have h1 := (ho6.lt q h).1; have h2 := (HO5.out.lt q' h').2; omega)
      have HO6 := Lib.hid (own_mono ho6 HBw5.out.size)
      have HO56 := Lib.hid (own_belowP HO5.out hb6)
      have hs5 := HB5.out.size
      have HO6g := Lib.hid (fun k hk => show ¬ k = g0 + 1 + 1 from by have := (ho6.lt k hk).1; omega)
      have hxr := HXR.out w6 HB6.out
      clear ho6 hb6 a0 a1 b0 b1 b2
      have n0 := cell_of_blk (j := 0) hxr rfl
      have n1 := cell_of_blk (j := 1) hxr rfl
      have fr : ∀ j, w6.frozen? ⟨g0 + 1 + 1, j, none⟩ = false := by intro j; simp [World.frozen?, hxr]
      have f0 := fr 0
      have f1 := fr 1
      have hlt6 : g0 + 1 + 1 < w6.heap.size := (Array.getElem?_eq_some_iff.1 hxr).1
      have HG3 := Lib.hid (grown_set (grown_set (grown_refl w6 (some (g0 + 1 + 1))) (q := ⟨g0 + 1 + 1, 0, none⟩) (.inl rfl) (.slice A6 n c6)) (q := ⟨g0 + 1 + 1, 1, none⟩) (.inl rfl) (.slice A5 m5 c5))
      have HB7 := Lib.hid (show ((w6.setCell ⟨g0 + 1 + 1, 0, none⟩ (.slice A6 n c6)).setCell ⟨g0 + 1 + 1, 1, none⟩ (.slice A5 m5 c5)).heap[g0 + 1 + 1]? = some (.cells #[.slice A6 n c6, .slice A5 m5 c5] 49 (0, 0)) from by simp [World.setCell, Array.getElem?_modify, hxr])
      have HGF := Lib.hid (show Below w.heap.size w ((w6.setCell ⟨g0 + 1 + 1, 0, none⟩ (.slice A6 n c6)).setCell ⟨g0 + 1 + 1, 1, none⟩ (.slice A5 m5 c5)) from (HBw6.out.setCell (by show w.heap.size ≤ g0 + 1 + 1; omega) _).setCell (by show w.heap.size ≤ g0 + 1 + 1; omega) _)
      clear fr hxr
      go_wp2_with (fail)
      have r0 := cell_of_blk (j := 0) HB7.out rfl
      have r1 := cell_of_blk (j := 1) HB7.out rfl
      have hDo := own_neG HO6.out HG3.out (fun k hk => HO6g.out k hk)
      have hRo := own_neG HO56.out HG3.out (fun k hk => HO5g.out k hk)
      exact bodyPost_ret (v := .tuple #[.agg #[.slice A6 n c6, .slice A5 m5 c5], .int .i64 0]) (by simp [results, Tryz.results13, go_sem, r0, r1]) rfl ⟨A6, A5, c6, c5, m5, rfl, HN5.out, hDo, hRo, HGF.out, HDJ.out⟩
end Go.Proofs.YtkcpfppjdjkjeaaGreatDoor
