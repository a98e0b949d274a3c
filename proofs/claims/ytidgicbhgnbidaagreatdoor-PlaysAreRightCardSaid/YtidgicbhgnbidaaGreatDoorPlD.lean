/- Play by its contract. -/
import Derived.Test.YtidgicbhgnbidaaGreatDoorPlK
import Derived.Deep.LoopGhost
namespace Go.Proofs.YtidgicbhgnbidaaGreatDoor
open Go.RowKit

def PlPost (C : Cm) (L : List Im) (F : List Dv) (R : Nat) (w : World) (e : Ending) (w' : World) : Prop :=
  ∃ (A : Option Addr) (n c : Nat), e = .returned (.tuple #[.slice A n c, .int .i64 0]) ∧ n = (plR C L F R C.at_ (nwV (wvN C) C F)).length ∧ n ≤ 6 * R ∧ w'.ownsRow w.heap.size 64 6 (.slice A n c) n (recs mkC (plR C L F R C.at_ (nwV (wvN C) C F))) ∧ Below w.heap.size w w'
/-- A play in the making. -/
structure PlI (B : Nat) (C : Cm) (L : List Im) (F : List Dv) (R : Nat) (a : StA) (AL : Option Addr) (NL CL gw mc g11 : Nat) (AA : Option Addr) (nA cA j n : Nat) (s : St) (rest : List Mk) (w wx : World) : Prop where
  so : StO C F n s
  si : StI B C F (wvN C) a s wx
  wy : ∃ Lc, WyM B L C.t AL NL CL gw mc Lc wx
  mc : mc ∉ a.all
  win : wx.heap[g11]? = some (.cells #[.int .i64 C.at_, .int .i64 (C.at_ + 10 * (R : Int))] 51 (0, 0))
  all : ∃ M : List Mk, wx.ownsRow B 64 6 (.slice AA nA cA) nA (recs mkC M) ∧ M.length = nA ∧ M ++ rest = plR C L F R C.at_ (nwV (wvN C) C F)
  be : Below B w wx
section
variable {B : Nat} {C : Cm} {L : List Im} {F : List Dv} {R : Nat} {a : StA} {AL : Option Addr} {NL CL gw mc g11 : Nat} {AA : Option Addr} {nA cA j n n' : Nat} {s s' : St} {rest : List Mk} {w wx wy : World}
/-- The state has gone on. -/
theorem PlI.goes (h : PlI B C L F R a AL NL CL gw mc g11 AA nA cA j n s rest w wx) (hs : StO C F n' s') (hi : StI B C F (wvN C) a s' wy) (hv : BeV B a wx wy) : PlI B C L F R a AL NL CL gw mc g11 AA nA cA j n' s' rest w wy := by
  have hlc := h.so.lc
  obtain ⟨Lc, hw⟩ := h.wy
  obtain ⟨M, h1, h2, h3⟩ := h.all
  exact ⟨hs, hi, ⟨Lc, hw.mv h.si hlc h.mc hv.be hv.mv⟩, h.mc, hv.mv.keep h.win (h.si.notin hlc h.win (by decide) (by decide) (by decide) (by decide)) (by decide), ⟨M, own_mv h.si hlc hv.mv h1 (by decide) (by decide) (by decide) (by decide), h2, h3⟩, h.be.trans hv.be⟩
theorem PlI.below (h : PlI B C L F R a AL NL CL gw mc g11 AA nA cA j n s rest w wx) (hb : Below wx.heap.size wx wy) : PlI B C L F R a AL NL CL gw mc g11 AA nA cA j n s rest w wy := by
  obtain ⟨Lc, hw⟩ := h.wy
  obtain ⟨M, h1, h2, h3⟩ := h.all
  exact ⟨h.so, h.si.below hb, ⟨Lc, hw.grown hb⟩, h.mc, (hb.block g11 (Array.getElem?_eq_some_iff.1 h.win).1).trans h.win, ⟨M, own_below h1 hb, h2, h3⟩, h.be.trans (hb.mono h.si.sz)⟩
theorem StO.foldm {l : List Mk} : ∀ {n : Nat} {s : St}, StO C F n s → (∀ m ∈ l, MkOk m) → StO C F (n + l.length) (l.foldl (mkV (wvN C) C F) s) := by
  intro n s h hm
  exact StO.fold l h hm
theorem ne_map {m ck g : Nat} {es : Array MapEntry} {cs : Array Value} {ty : TypeId} {f : Nat × Nat} (hm : w.heap[m]? = some (.map es ck)) (hg : w.heap[g]? = some (.cells cs ty f)) : g ≠ m := by
  intro e
  rw [e, hm] at hg
  cases hg
/-- A step was made. -/
theorem PlI.stepped (h : PlI B C L F R a AL NL CL gw mc g11 AA nA cA j n s rest w wx) (hw : ∃ Lc, WyM B L C.t AL NL CL gw mc Lc wy) (hg : wx.grownBy wy (some mc)) : PlI B C L F R a AL NL CL gw mc g11 AA nA cA j n s rest w wy := by
  obtain ⟨Lc, h0⟩ := h.wy
  obtain ⟨M, h1, h2, h3⟩ := h.all
  refine ⟨h.so, h.si.grownM h.so.lc h.mc h0.ge h0.mp hg, hw, h.mc, (hg.block g11 (Array.getElem?_eq_some_iff.1 h.win).1 (fun e => ne_map h0.mp h.win (by injection e))).trans h.win, ⟨M, h1.kept (row := some mc) hg ?_, h2, h3⟩, h.be.grown hg h0.sz (fun q hq => by injection hq with hq; have := h0.ge; omega)⟩
  cases hv : (Value.slice AA nA cA).ownBlock with
  | none => exact .inl rfl
  | some q => exact .inr (fun k => by injection k with k; exact own_neM h1 h0.mp q hv k)
theorem StI.rowG (h : StI B C F (wvN C) a s wx) (hlc : s.cs.length = F.length) {base size n2 : Nat} {v : Value} {xs : List Value} (ho : wx.ownsRow base 64 size v n2 xs) (hB : B ≤ base) (hg : wx.grownBy wy v.ownBlock) : StI B C F (wvN C) a s wy := by
  have hlt := h.lt hlc
  have hnn : ∀ b ∈ a.all, v.ownBlock ≠ some b := by
    intro b hb e
    rcases ho.2 with ⟨h1, _⟩ | ⟨g, cap, cur, hv, hbb, hh, r⟩
    · rw [h1] at e; cases e
    · have hgb : g = b := by rw [hv] at e; simpa [Value.ownBlock] using e
      rw [hgb] at hh
      exact h.notin hlc hh (by decide) (by decide) (by decide) (by decide) hb
  have hk : ∀ b o, b ∈ a.all → wx.heap[b]? = some o → wy.heap[b]? = some o := fun b o hb ho' => (hg.block b (hlt b hb) (fun e => hnn b hb e.symm)).trans ho'
  obtain ⟨A, c, h1, h2, h3⟩ := h.st
  obtain ⟨m1, m2, m3, m4, m5, m6, m7⟩ := a.mem
  exact ⟨h.nd, h.ge, h.lb, Nat.le_trans h.sz hg.size, h.ws.keep fun b hlt => hg.block b (Nat.lt_of_lt_of_le hlt h.sz) (fun e => by have := (ho.lt b e.symm).1; omega), ⟨A, c, hk _ _ m1 h1, h2.kept hg (own_apart h2 ho (by decide)), h3⟩, hk _ _ m2 h.cm, hk _ _ m3 h.of_, hk _ _ m4 h.wv, fun i b x h4 h5 => hk _ _ (StA.cmem h4) (h.cu i b x h4 h5), hk _ _ m5 h.op, hk _ _ m6 h.en, hk _ _ m7 h.fa⟩
/-- The marks of a step are appended. -/
theorem PlI.app {now rest' : List Mk} {A2 : Option Addr} {n2 c2 : Nat} (h : PlI B C L F R a AL NL CL gw mc g11 AA nA cA j n s (now ++ rest') w wx) {M : List Mk} (hM : wx.ownsRow B 64 6 (.slice AA nA cA) nA (recs mkC M)) (hMn : M.length = nA) (hMr : M ++ (now ++ rest') = plR C L F R C.at_ (nwV (wvN C) C F))
    (ho : wy.ownsRow B 64 6 (.slice A2 n2 c2) n2 (recs mkC (M ++ now))) (hn2 : n2 = nA + now.length) (hg : wx.grownBy wy (Value.slice AA nA cA).ownBlock) : PlI B C L F R a AL NL CL gw mc g11 A2 n2 c2 j n s rest' w wy := by
  obtain ⟨Lc, h0⟩ := h.wy
  refine ⟨h.so, h.si.rowG h.so.lc hM (Nat.le_refl _) hg, ⟨Lc, h0.ownG hM (by decide) (Nat.le_refl _) hg⟩, h.mc, (hg.block g11 (Array.getElem?_eq_some_iff.1 h.win).1 (own_ne hM h.win (by decide))).trans h.win, ⟨M ++ now, ho, by rw [List.length_append, hMn, hn2], by rw [List.append_assoc]; exact hMr⟩, h.be.grown hg h0.sz (fun q hq => (hM.lt q hq).1)⟩
end
theorem nowV_ok {C : Cm} {L : List Im} {F : List Dv} {at_ : Int} {s : St} {n : Nat} (hC : CmOk C) (hF : FlOk F) (hL : ImsOk L) (hs : StO C F n s) (ht : 0 ≤ at_ ∧ at_ ≤ 1000000) : (∀ m ∈ nowV C L F at_ s, MkOk m) ∧ (nowV C L F at_ s).length ≤ 6 := by
  have hb : StO C F n (bgA C at_ s) := hs.bg hC ht.2 (by omega) 5
  refine ⟨fun m hm => ?_, ?_⟩
  · unfold nowV stepV at hm
    rw [srtV_perm.mem_iff] at hm
    exact (stepL_mem hF hm).ok hF hL hb.cu ht
  · unfold nowV stepV
    rw [srtV_perm.length_eq]
    exact stepL_len hF
set_option maxRecDepth 100000 in
set_option maxHeartbeats 8000000 in
theorem play_any (C : Cm) (F : List Dv) (L : List Im) (n c NL CL cb R : Nat) (AF AL Ab : Option Addr) (w : World) (hC : CmOk C) (hF : FlOk F) (hL : ImsOk L) (hn : F.length = n) (hNL : L.length = NL) (hR : R ≤ 15)
    (hw : Row w w.heap.size C.wa (recs wvC C.ws)) (hI : ImsI w w.heap.size AL L) (hr : Row w w.heap.size AF (recs dvC F)) (hb : Row w w.heap.size Ab (recs dkC [1])) :
    Calls Tryz.prog 20 #[cmV C, .slice AL NL CL, .slice AF n c, .int .i64 10, .slice Ab 1 cb, .agg #[.int .i64 C.at_, .int .i64 (C.at_ + 10 * (R : Int))]] w fun e w' => PlPost C L F R w e w' := by
  obtain ⟨id0, hid0, hzd0, hzd1, hzd2⟩ := info_parts Tryz.infoMp
  obtain ⟨gc, egc⟩ : ∃ g, g = w.heap.size := ⟨_, rfl⟩
  obtain ⟨g11, eg11⟩ : ∃ g, g = w.heap.size + 1 := ⟨_, rfl⟩
  have hat := hC.at_
  have hRI : (R : Int) ≤ 15 := by omega
  obtain ⟨w0, e0⟩ : ∃ V : World, V = (w.alloc (cmB C)).alloc (.cells #[.int .i64 C.at_, .int .i64 (C.at_ + 10 * (R : Int))] 51) := ⟨_, rfl⟩
  have hb0 : Below w.heap.size w w0 := by rw [e0]; exact ((Below.refl _ _).alloc (Nat.le_refl _) _).alloc (by simp) _
  have hc0 : w0.heap[gc]? = some (cmB C) := by rw [e0, egc, Below.heap_alloc _ _ _ (by simp)]; exact heap_new w _
  have hg0 : w0.heap[g11]? = some (.cells #[.int .i64 C.at_, .int .i64 (C.at_ + 10 * (R : Int))] 51 (0, 0)) := by
    have h := zz_heap (w.alloc (cmB C)) (.cells #[.int .i64 C.at_, .int .i64 (C.at_ + 10 * (R : Int))] 51)
    rw [e0, eg11]
    simpa using h
  have HIF := Lib.hid (fun (V : World) (hV : Below w.heap.size w V) => show Row V V.heap.size C.wa (recs wvC C.ws) ∧ ImsI V V.heap.size AL L ∧ Row V V.heap.size AF (recs dvC F) ∧ Row V V.heap.size Ab (recs dkC [1]) from
    ⟨(hw.below hV).mono hV.size, hI.up hV, (hr.below hV).mono hV.size, (hb.below hV).mono hV.size⟩)
  have HC1 := Lib.hid (fun (V : World) (hV : Below w.heap.size w V) => checkCampaign_any C V hC (HIF.out V hV).1)
  have HC2 := Lib.hid (fun (V : World) (hV : Below w.heap.size w V) => checkImages_any L NL CL AL V (HIF.out V hV).2.1 hNL hL)
  have HC3 := Lib.hid (fun (V : World) (hV : Below w.heap.size w V) => checkFleet_any F n c AF V hF hn (HIF.out V hV).2.2.1)
  have HC := Lib.hid hC
  have HF := Lib.hid hF
  have HL := Lib.hid hL
  have HN := Lib.hid (And.intro hn hNL)
  have HW := Lib.hid hw
  have HI := Lib.hid hI
  have HR := Lib.hid hr
  have HBAD := Lib.hid hb
  have HB0 := Lib.hid hb0
  have HC0 := Lib.hid hc0
  have HG0 := Lib.hid hg0
  have hgl := (Array.getElem?_eq_some_iff.1 hc0).1
  have hgl1 := (Array.getElem?_eq_some_iff.1 hg0).1
  have HGC := Lib.hid (And.intro egc eg11)
  have c0 := cell_of_blk (j := 0) hc0 rfl
  have c1 := cell_of_blk (j := 1) hc0 rfl
  have c2' := cell_of_blk (j := 2) hc0 rfl
  have c3 := cell_of_blk (j := 3) hc0 rfl
  have c4 := cell_of_blk (j := 4) hc0 rfl
  have c5 := cell_of_blk (j := 5) hc0 rfl
  have c6 := cell_of_blk (j := 6) hc0 rfl
  have c7 := cell_of_blk (j := 7) hc0 rfl
  have c8 := cell_of_blk (j := 8) hc0 rfl
  unfold cmB at e0
  unfold cmV at HC1 ⊢
  clear hC hF hL hn hNL hw hI hr hb hb0 hc0 hg0
  go_enter Tryz.func20, Tryz.ntmps20
  go_upto_region 1 with (fail)
  rw [← eg11, ← egc, ← e0]
  clear e0 egc eg11
  go_wp2_with (fail)
  refine (HC1.out _ HB0.out).mono ?_
  rintro e w1 ⟨rfl, hb1⟩
  have HD1 := Lib.hid hb1
  have HB1 := Lib.hid (HB0.out.trans (hb1.mono HB0.out.size))
  clear hb1 HC1 c0 c1 c2' c3 c4 c5 c6 c7 c8
  go_wp2_with (fail)
  refine (HC2.out _ HB1.out).mono ?_
  rintro e w2 ⟨rfl, hb2⟩
  have HD2 := Lib.hid (HD1.out.trans (hb2.mono HD1.out.size))
  have HB2 := Lib.hid (HB1.out.trans (hb2.mono HB1.out.size))
  clear hb2 HC2 HD1
  go_wp2_with (fail)
  refine (HC3.out _ HB2.out).mono ?_
  rintro e w3 ⟨rfl, hb3⟩
  have HD3 := Lib.hid (HD2.out.trans (hb3.mono HD2.out.size))
  have HB3 := Lib.hid (HB2.out.trans (hb3.mono HB2.out.size))
  clear hb3 HC3 HD2
  go_wp2_with (fail)
  refine (first_ok 3 3 w3.heap.size _ (by omega) (Cells.new _ _ _ _ _ rfl)).mono ?_
  rintro e w4 ⟨rfl, rfl⟩
  obtain ⟨wA, eA⟩ : ∃ V : World, V = w3.alloc (Obj.cells { toList := Value.int IntKind.i64 0 :: List.replicate 2 (Value.int IntKind.i64 0) } 34 (0, 0)) := ⟨_, rfl⟩
  rw [← eA]
  have hbA : Below w3.heap.size w3 wA := by rw [eA]; exact (Below.refl _ _).alloc (Nat.le_refl _) _
  have HB4 := Lib.hid (HB3.out.trans (hbA.mono HB3.out.size))
  have HD4 := Lib.hid (HD3.out.trans (hbA.mono HD3.out.size))
  have HC4 := Lib.hid ((HD4.out.block gc hgl).trans HC0.out)
  have HG4 := Lib.hid ((HD4.out.block g11 hgl1).trans HG0.out)
  have hg4 := HG4.out
  have d0 := cell_of_blk (j := 0) hg4 rfl
  have d1 := cell_of_blk (j := 1) hg4 rfl
  have hlg4 := (Array.getElem?_eq_some_iff.1 hg4).1
  clear eA hbA hg4
  go_upto_region 4 with (fail)
  go_wp2_with (first
    | (go_at_call 62; (with_reducible refine (out_no _ _ _ _ (by omega) (by omega)).mono ?_); rintro e w' ⟨rfl, rfl⟩))
  refine (window_yesP _ _ wA (by omega) (by omega) (by omega)).mono ?_
  rintro e w5 ⟨rfl, hb5⟩
  have HB5 := Lib.hid (HB4.out.trans (hb5.mono HB4.out.size))
  have HD5 := Lib.hid (HD4.out.trans (hb5.mono HD4.out.size))
  have HC5 := Lib.hid ((HD5.out.block gc hgl).trans HC0.out)
  have HG5 := Lib.hid ((HD5.out.block g11 hgl1).trans HG0.out)
  have hdv : IntKind.i64.wrap ((C.at_ + 10 * (R : Int) - C.at_ + 10 - 1).tdiv 10) = (10 * (R : Int) + 9) / 10 := by
    rw [Int.tdiv_eq_ediv_of_nonneg (by omega), IntKind.wrap_i64]
    omega
  have d0 := cell_of_blk (j := 0) HG5.out rfl
  have d1 := cell_of_blk (j := 1) HG5.out rfl
  have hlg5 := (Array.getElem?_eq_some_iff.1 HG5.out).1
  clear hb5 hlg4
  go_upto_region 10 with (fail)
  have HNS := Lib.hid (newState_any C F n c gc w.heap.size AF w5 HC.out HF.out HN.out.1 HC5.out (by have := HGC.out.1; omega) (HW.out.below HB5.out) (HIF.out w5 HB5.out).2.2.1)
  clear d0 d1 hdv
  go_wp2_with (fail)
  refine HNS.out.mono ?_
  rintro e w7 ⟨a, rfl, ha, hi7, hb7⟩
  have HI7 := Lib.hid hi7
  have HB7 := Lib.hid (HB5.out.trans (hb7.mono HB5.out.size))
  have HA := Lib.hid ha
  have HG7 := Lib.hid ((hb7.block g11 hlg5).trans HG5.out)
  have hc7 := hi7.cm
  rw [HA.out] at hc7
  have k1 := cell_of_blk (j := 1) hc7 rfl
  have k2 := cell_of_blk (j := 2) hc7 rfl
  have k3 := cell_of_blk (j := 3) hc7 rfl
  have hlc7 := (Array.getElem?_eq_some_iff.1 hc7).1
  clear hb7 hi7 HNS ha hc7
  have hmm := @run_makeMap Tryz.prog
  go_upto_region 12 with (fail)
  obtain ⟨gw, egw⟩ : ∃ g, g = w7.heap.size + 1 := ⟨_, rfl⟩
  obtain ⟨mc, emc⟩ : ∃ g, g = w7.heap.size := ⟨_, rfl⟩
  obtain ⟨W, eW⟩ : ∃ V : World, V = (w7.alloc (Obj.map #[] 0)).alloc (Obj.cells #[Value.slice AL NL CL, Value.int IntKind.i64 C.t.a, Value.int IntKind.i64 C.t.b, Value.int IntKind.i64 C.t.c, Value.map (some w7.heap.size)] 150) := ⟨_, rfl⟩
  have hbW : Below w7.heap.size w7 W := by rw [eW]; exact ((Below.refl _ _).alloc (Nat.le_refl _) _).alloc (by simp) _
  have hgw : W.heap[gw]? = some (.cells #[.slice AL NL CL, .int .i64 C.t.a, .int .i64 C.t.b, .int .i64 C.t.c, .map (some mc)] 150 (0, 0)) := by
    rw [eW, egw, emc]
    have := zz_heap (w7.alloc (Obj.map #[] 0)) (Obj.cells #[Value.slice AL NL CL, Value.int IntKind.i64 C.t.a, Value.int IntKind.i64 C.t.b, Value.int IntKind.i64 C.t.c, Value.map (some w7.heap.size)] 150)
    simpa using this
  have hgm : W.heap[mc]? = some (.map #[] 0) := by
    rw [eW, emc, Below.heap_alloc _ _ _ (by simp)]
    exact zz_heap _ _
  rw [← eW, ← egw, ← emc]
  have hsn := nwV_ok (wvN := wvN C) HC.out HF.out
  have HBW := Lib.hid (HB7.out.trans (hbW.mono HB7.out.size))
  have HP0 := Lib.hid (show PlI w.heap.size C L F R a AL NL CL gw mc g11 none 0 0 0 0 (nwV (wvN C) C F) (plR C L F R C.at_ (nwV (wvN C) C F)) w W from
    ⟨hsn, HI7.out.below hbW, ⟨[], hgw, hgm, (fun j hj v hv => by cases hv), HI.out.below HBW.out, by rw [emc]; exact HB7.out.size, HBW.out.size⟩, fun h => by have := HI7.out.lt hsn.lc _ h; omega, (hbW.block g11 (Array.getElem?_eq_some_iff.1 HG7.out).1).trans HG7.out, ⟨[], World.ownsRow_nil _ _ _ _, rfl, rfl⟩, HBW.out⟩)
  clear eW egw emc hbW hgw hgm hsn k1 k2 k3 hmm hlc7
  have hgW := HP0.out.win
  have d0 := cell_of_blk (j := 0) hgW rfl
  have hlW := (Array.getElem?_eq_some_iff.1 hgW).1
  clear hgW
  go_upto_region 14 with (fail)
  clear d0 hlW
  go_loopw [18, 17] (fun x l wx => ∃ (j nA cA : Nat) (AA : Option Addr), j ≤ R ∧ nA ≤ 6 * j ∧ x = .int .i64 (C.at_ + 10 * (j : Int)) ∧ l = .slice AA nA cA ∧ Hid (∃ s : St, PlI w.heap.size C L F R a AL NL CL gw mc g11 AA nA cA j (6 * j) s (plR C L F (R - j) (C.at_ + 10 * (j : Int)) s) w wx)) (fun x _ _ => (C.at_ + 10 * (R : Int) - intOf x).toNat)
  case atStart => exact ⟨0, 0, 0, none, Nat.zero_le _, Nat.le_refl _, by simp, rfl, Lib.hid ⟨_, by simpa using HP0.out⟩⟩
  case round =>
    obtain ⟨j, nA, cA, AA, hj, hnA, rfl, rfl, HX⟩ := hrel
    obtain ⟨w8, rfl⟩ : ∃ wy : World, wy = wr := ⟨_, rfl⟩
    obtain ⟨s, hP⟩ := HX.out
    have HP := Lib.hid hP
    have hg8 := hP.win
    have d1 := cell_of_blk (j := 1) hg8 rfl
    have hl8 := (Array.getElem?_eq_some_iff.1 hg8).1
    clear hP hg8 HX
    by_cases hlt : j < R
    · have hltI : C.at_ + 10 * (j : Int) < C.at_ + 10 * (R : Int) := by omega
      obtain ⟨x, ex⟩ : ∃ x, x = C.at_ + 10 * (j : Int) := ⟨_, rfl⟩
      have hx : 0 ≤ x ∧ x ≤ 1000 := by omega
      have HXE := Lib.hid ex
      obtain ⟨R2, hR2⟩ : ∃ R2, R - j = R2 + 1 := ⟨R - j - 1, by omega⟩
      have HR2 := Lib.hid hR2
      have HP1 := Lib.hid (show PlI w.heap.size C L F R a AL NL CL gw mc g11 AA nA cA j (6 * j) s (nowV C L F x s ++ plR C L F R2 (x + 10) (nextS C L F x s)) w w8 from by
        have h := HP.out
        rw [hR2, ← ex] at h
        exact h)
      have HBG := Lib.hid (begin2_any C F (wvN C) a s w.heap.size (6 * j) x w8 HC.out HP1.out.so HP1.out.si (by omega))
      rw [← ex] at hltI ⊢
      clear ex hR2 HP
      go_wp2_with (fail)
      refine HBG.out.mono ?_
      rintro e w9 ⟨rfl, hi9, hv9⟩
      have hso9 : StO C F (6 * j) (bgA C x s) := HP1.out.so.bg HC.out (by omega) (by omega) 5
      have HP9 := Lib.hid (HP1.out.goes hso9 hi9 hv9)
      clear hi9 hv9 HBG d1 hl8
      obtain ⟨Lc9, hw9⟩ := HP9.out.wy
      have HST := Lib.hid (step_any C F a (bgA C x s) L w.heap.size n c (6 * j) NL CL gw mc cb Lc9 AF AL Ab x w9 HC.out HF.out HL.out HN.out.1 HN.out.2 ⟨hx.1, by omega⟩ hso9 HP9.out.si hw9 HP9.out.mc (HR.out.below HP9.out.be) (HBAD.out.below HP9.out.be))
      clear hso9 hw9
      go_wp2_with (fail)
      refine HST.out.mono ?_
      rintro e w10 ⟨A2, c2, k2, rfl, hk2, ho2, hw2, hg2⟩
      have HP10 := Lib.hid (HP9.out.stepped hw2 hg2)
      obtain ⟨NW, eNW⟩ : ∃ l, l = nowV C L F x s := ⟨_, rfl⟩
      have HNW := Lib.hid eNW
      have ho2' : w10.ownsRow w9.heap.size 64 6 (.slice A2 k2 c2) k2 (recs mkC NW) := by rw [eNW]; exact ho2
      have HKL := Lib.hid (show NW.length = k2 from by rw [eNW, hk2]; rfl)
      have hnok := nowV_ok HC.out HF.out HL.out HP1.out.so (L := L) (at_ := x) ⟨hx.1, by omega⟩
      rw [← eNW] at hnok
      have HNO := Lib.hid hnok.1
      have hk6 : k2 ≤ 6 := by have := hnok.2; have := HKL.out; omega
      rw [← eNW] at HP10
      obtain ⟨M, hM1, hM2, hM3⟩ := HP10.out.all
      have HM1 := Lib.hid hM1
      have HM23 := Lib.hid (And.intro hM2 hM3)
      have HO2 := Lib.hid ho2'
      have hbs := HP10.out.be.size
      have HDJ := Lib.hid (show ∀ q g, (Value.slice A2 k2 c2).ownBlock = some q → (Value.slice AA nA cA).ownBlock = some g → q ≠ g from fun q g h1 h2 => by
        obtain ⟨M9, h9, _, _⟩ := HP9.out.all
        have h3 := (h9.lt g h2).2
        have h4 := (ho2'.lt q h1).1
        omega)
      clear hk2 ho2 hw2 hg2 eNW ho2' hnok hM1 hM2 hM3 HST
      go_wp2_with (at_builtin; refine wpList_append_ly rfl _ _ 57 rfl w.heap.size 64 id0 _ 6 56 Tryz.underlying57 hid0 hzd0 hzd1 hzd2 rfl (by decide) _ _ _ rfl HM1.out A2 k2 c2 (recs mkC NW) rfl ?c1 ?c2 ?c3 ?c4 ?c5 ?c6 ?_)
      case c1 => rw [recs_length mkC_len, HKL.out]
      case c2 => exact own_ly HO2.out
      case c3 =>
        intro u hu
        simp only [recs, List.mem_flatMap] at hu
        obtain ⟨y, _, hy⟩ := hu
        exact mkC_one y u hy
      case c4 => unfold maxLen; omega
      case c5 => omega
      case c6 => exact hbs
      intro v11 w11 ho11 hg11
      obtain ⟨A3, c3, rfl⟩ := own_slice ho11
      have HP11 := Lib.hid (HP10.out.app HM1.out HM23.out.1 HM23.out.2 (A2 := A3) (n2 := nA + k2) (c2 := c3) (by rw [recs_append]; exact ho11) (by rw [HKL.out]) hg11)
      have HO11 := Lib.hid (HO2.out.kept hg11 (by
        cases hv : (Value.slice A2 k2 c2).ownBlock with
        | none => exact .inl rfl
        | some q => exact .inr (fun e => HDJ.out q q hv e.symm rfl)))
      clear ho11 hg11 hbs HM1 HM23 HO2 HDJ HP10 HP9
      go_upto_region 22 with (fail)
      go_loopw [91] (fun i wx => ∃ ii : Nat, ii ≤ k2 ∧ i = .int .i64 (ii : Int) ∧ Hid (PlI w.heap.size C L F R a AL NL CL gw mc g11 A3 (nA + k2) c3 j (6 * j + ii) ((NW.take ii).foldl (mkV (wvN C) C F) (bgA C x s)) (plR C L F R2 (x + 10) (nextS C L F x s)) w wx ∧ wx.ownsRow w9.heap.size 64 6 (.slice A2 k2 c2) k2 (recs mkC NW))) (fun i _ => k2 - (intOf i).toNat)
      case atStart => exact ⟨0, Nat.zero_le _, rfl, Lib.hid ⟨by simpa using HP11.out, HO11.out⟩⟩
      case round =>
        obtain ⟨ii, hii, rfl, HY⟩ := hrel
        obtain ⟨w12, rfl⟩ : ∃ wy : World, wy = wr := ⟨_, rfl⟩
        by_cases hlt2 : ii < k2
        · have hltI2 : (ii : Int) < (k2 : Int) := by omega
          obtain ⟨m, hm⟩ : ∃ m, NW[ii]? = some m := ⟨_, List.getElem?_eq_getElem (by have := HKL.out; omega)⟩
          obtain ⟨h1, h2, h3⟩ | ⟨gn, rfl, hgn1, hgn2⟩ := own_two HY.out.2
          · omega
          have hcl := own_cells0 HY.out.2
          have e0 : w12.cell? ⟨gn, ii * 6, none⟩ = some (.int .i64 m.at_) := by have := rec_cell mkC_len hcl ii m hm 0 _ rfl; simpa using this
          have e1 : w12.cell? ⟨gn, ii * 6 + 1, none⟩ = some (.string (dvT m.d)) := by have := rec_cell mkC_len hcl ii m hm 1 _ rfl; simpa using this
          have e2 : w12.cell? ⟨gn, ii * 6 + 2, none⟩ = some (.int .i64 m.kd) := by have := rec_cell mkC_len hcl ii m hm 2 _ rfl; simpa using this
          have e3 : w12.cell? ⟨gn, ii * 6 + 3, none⟩ = some (.int .i64 m.v.a) := by have := rec_cell mkC_len hcl ii m hm 3 _ rfl; simpa using this
          have e4 : w12.cell? ⟨gn, ii * 6 + 4, none⟩ = some (.int .i64 m.v.b) := by have := rec_cell mkC_len hcl ii m hm 4 _ rfl; simpa using this
          have e5 : w12.cell? ⟨gn, ii * 6 + 5, none⟩ = some (.int .i64 m.v.c) := by have := rec_cell mkC_len hcl ii m hm 5 _ rfl; simpa using this
          have HMO := Lib.hid (HNO.out m (List.mem_of_getElem? hm))
          have HMM := Lib.hid hm
          obtain ⟨gm, egm⟩ : ∃ g, g = w12.heap.size := ⟨_, rfl⟩
          obtain ⟨w13, e13⟩ : ∃ V : World, V = w12.alloc (mkB m) := ⟨_, rfl⟩
          have hb13 : Below w12.heap.size w12 w13 := by rw [e13]; exact (Below.refl _ _).alloc (Nat.le_refl _) _
          have hg13 : w13.heap[gm]? = some (mkB m) := by rw [e13, egm]; exact zz_heap _ _
          have HP13 := Lib.hid (HY.out.1.below hb13)
          have HO13 := Lib.hid (own_below HY.out.2 hb13)
          have f0 := cell_of_blk (j := 0) hg13 rfl
          have f1 := cell_of_blk (j := 1) hg13 rfl
          have f2 := cell_of_blk (j := 2) hg13 rfl
          have f3 := cell_of_blk (j := 3) hg13 rfl
          have f4 := cell_of_blk (j := 4) hg13 rfl
          have f5 := cell_of_blk (j := 5) hg13 rfl
          have hl13 := (Array.getElem?_eq_some_iff.1 hg13).1
          have HMK := Lib.hid (mark2_any C F a _ w.heap.size (6 * j + ii) m w13 HC.out HF.out HMO.out (by omega) HP13.out.so HP13.out.si)
          unfold mkW at HMK
          unfold mkB at e13
          clear hcl hm hb13 hg13
          go_upto_region 24 with (fail)
          rw [← egm, ← e13]
          clear e13 egm e0 e1 e2 e3 e4 e5
          go_wp2_with (fail)
          refine HMK.out.mono ?_
          rintro e w14 ⟨rfl, hi14, hv14⟩
          have HP14 := Lib.hid (show PlI w.heap.size C L F R a AL NL CL gw mc g11 A3 (nA + k2) c3 j (6 * j + (ii + 1)) ((NW.take (ii + 1)).foldl (mkV (wvN C) C F) (bgA C x s)) (plR C L F R2 (x + 10) (nextS C L F x s)) w w14 from by
            have e : (NW.take (ii + 1)).foldl (mkV (wvN C) C F) (bgA C x s) = mkV (wvN C) C F ((NW.take ii).foldl (mkV (wvN C) C F) (bgA C x s)) m := by
              rw [List.take_add_one, HMM.out, List.foldl_append]
              rfl
            rw [e]
            exact HP13.out.goes (HP13.out.so.mkv HMO.out) hi14 hv14)
          have HO14 := Lib.hid (own_mv HP13.out.si HP13.out.so.lc hv14.mv HO13.out (by decide) (by decide) (by decide) (by decide))
          clear hi14 hv14 HMK
          go_wp2_with (fail)
          go_roundw
          case rel => exact ⟨ii + 1, by omega, by go_num, Lib.hid ⟨HP14.out, HO14.out⟩⟩
          case measure => simp [intOf]; omega
        · have hltI2 : ¬ (ii : Int) < (k2 : Int) := by omega
          have hik : ii = k2 := by omega
          have hso : StO C F (6 * (j + 1)) (NW.foldl (mkV (wvN C) C F) (bgA C x s)) := by
            have h := HY.out.1.so
            rw [List.take_of_length_le (by have := HKL.out; omega)] at h
            exact h.mono (by omega)
          have HSO := Lib.hid hso
          have HP13 := Lib.hid (show PlI w.heap.size C L F R a AL NL CL gw mc g11 A3 (nA + k2) c3 j (6 * (j + 1)) (NW.foldl (mkV (wvN C) C F) (bgA C x s)) (plR C L F R2 (x + 10) (nextS C L F x s)) w w12 from by
            have h := HY.out.1
            rw [List.take_of_length_le (by have := HKL.out; omega)] at h
            exact ⟨HSO.out, h.si, h.wy, h.mc, h.win, h.all, h.be⟩)
          have HBG := Lib.hid (begin2_any C F (wvN C) a _ w.heap.size (6 * (j + 1)) x w12 HC.out HSO.out HP13.out.si (by omega))
          clear hso hik
          go_wp2_with (fail)
          refine HBG.out.mono ?_
          rintro e w14 ⟨rfl, hi14, hv14⟩
          have HP14 := Lib.hid (show PlI w.heap.size C L F R a AL NL CL gw mc g11 A3 (nA + k2) c3 (j + 1) (6 * (j + 1)) (nextS C L F x s) (plR C L F (R - (j + 1)) (C.at_ + 10 * ((j + 1 : Nat) : Int)) (nextS C L F x s)) w w14 from by
            have e : nextS C L F x s = bgA C x (NW.foldl (mkV (wvN C) C F) (bgA C x s)) := by unfold nextS; rw [← HNW.out]
            have e2 : R - (j + 1) = R2 := by have := HR2.out; omega
            have e3 : C.at_ + 10 * ((j + 1 : Nat) : Int) = x + 10 := by have := HXE.out; omega
            rw [e2, e3]
            have hso2 : StO C F (6 * (j + 1)) (nextS C L F x s) := by
              rw [e]
              exact HSO.out.bg HC.out (by omega) (by omega) 5
            have hi2 : StI w.heap.size C F (wvN C) a (nextS C L F x s) w14 := by
              rw [e]
              exact hi14
            have h2 := HP13.out.goes hso2 hi2 hv14
            exact ⟨h2.so, h2.si, h2.wy, h2.mc, h2.win, h2.all, h2.be⟩)
          have hxw : IntKind.i64.wrap (x + 10) = x + 10 := by rw [IntKind.wrap_i64]; omega
          have HXX := Lib.hid (show x + 10 = C.at_ + 10 * ((j + 1 : Nat) : Int) from by have := HXE.out; omega)
          clear hi14 hv14 HBG
          go_wp2_with (fail)
          go_roundw
          case rel => exact ⟨j + 1, nA + k2, c3, A3, by omega, by omega, by rw [HXX.out], rfl, Lib.hid ⟨_, HP14.out⟩⟩
          case measure => simp [intOf]; omega
    · have hltI : ¬ C.at_ + 10 * (j : Int) < C.at_ + 10 * (R : Int) := by omega
      obtain rfl : j = R := by omega
      have HF8 := Lib.hid (show PlPost C L F j w (.returned (.tuple #[.slice AA nA cA, .int .i64 0])) w8 from by
        obtain ⟨M, h1, h2, h3⟩ := HP.out.all
        rw [Nat.sub_self] at h3
        have h4 : M = plR C L F j C.at_ (nwV (wvN C) C F) := by rw [← h3]; show M = M ++ []; rw [List.append_nil]
        rw [h4] at h1 h2
        exact ⟨AA, nA, cA, rfl, h2.symm, hnA, h1, HP.out.be⟩)
      go_wp2_with (fail)
      refine bodyPost_ret (v := .tuple #[.slice AA nA cA, .int .i64 0]) (by simp [results, Tryz.results20, go_sem]) rfl ?_
      exact HF8.out
end Go.Proofs.YtidgicbhgnbidaaGreatDoor
