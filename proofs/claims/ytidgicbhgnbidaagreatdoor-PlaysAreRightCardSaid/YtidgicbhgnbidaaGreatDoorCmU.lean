/- What a campaign offers at a moment. -/
import Derived.Test.YtidgicbhgnbidaaGreatDoorCmO
namespace Go.Proofs.YtidgicbhgnbidaaGreatDoor
open Go.RowKit

/-- An offer: to which device, which version, how large. -/
structure Ofr where
  d : Nat
  v : Ve
  z : Int
def ofC (x : Ofr) : List Value := [.string (dvT x.d), .int .i64 x.v.a, .int .i64 x.v.b, .int .i64 x.v.c, .int .i64 x.z]
theorem ofC_len (x : Ofr) : (ofC x).length = 5 := rfl
theorem ofC_one (x : Ofr) : ∀ u ∈ ofC x, u.oneCell' = true := by
  intro u hu
  simp only [ofC, List.mem_cons, List.not_mem_nil, or_false] at hu
  rcases hu with rfl | rfl | rfl | rfl | rfl <;> rfl
theorem Tryz.infoDv : (Tryz.prog.info? 67).map (fun i => (i.zero, i.size, i.bytes)) = some (some (.agg #[.string ⟨#[]⟩, .string ⟨#[]⟩, .string ⟨#[]⟩, .int .i64 0, .int .i64 0, .int .i64 0, .slice none 0 0]), 7, 96) := by kernel_rfl
theorem Tryz.infoOf : (Tryz.prog.info? 83).map (fun i => (i.zero, i.size, i.bytes)) = some (some (.agg #[.string ⟨#[]⟩, .int .i64 0, .int .i64 0, .int .i64 0, .int .i64 0]), 5, 48) := by kernel_rfl
/-- How many are busy. -/
def bzN (cs : List Cu) : Nat := (cs.filter bzV).length
theorem bzN_snoc {cs : List Cu} {k : Nat} {x : Cu} (h : cs[k]? = some x) : bzN (cs.take (k + 1)) = bzN (cs.take k) + (if bzV x = true then 1 else 0) := by
  unfold bzN
  rw [filter_snoc h, List.length_append]
  split <;> rfl
/-- Who waits and may be offered something. -/
def wtB (C : Cm) (be : Nat) (p : Dv × Cu) : Bool := !bzV p.2 && (decide (wvN C p.1.k < be) && (!rdV C p.2 && !ouV C p.2))
def wtP (C : Cm) (be : Nat) (Z : List (Dv × Cu)) : List Dv := (Z.filter (wtB C be)).map (·.1)
theorem wtP_snoc {C : Cm} {be k : Nat} {Z : List (Dv × Cu)} {p : Dv × Cu} (h : Z[k]? = some p) : wtP C be (Z.take (k + 1)) = wtP C be (Z.take k) ++ (if wtB C be p = true then [p.1] else []) := by
  unfold wtP
  rw [filter_snoc h, List.map_append]
  split <;> rfl
theorem wtP_mem {C : Cm} {be : Nat} {Z : List (Dv × Cu)} {d : Dv} (h : d ∈ wtP C be Z) : ∃ x, (d, x) ∈ Z ∧ wtB C be (d, x) = true := by
  unfold wtP at h
  obtain ⟨⟨d', x⟩, h1, rfl⟩ := List.mem_map.1 h
  exact ⟨x, (List.mem_filter.1 h1).1, (List.mem_filter.1 h1).2⟩
theorem own_neM {w : World} {base m ck : Nat} {es : Array MapEntry} {e : TypeId} {size n : Nat} {v : Value} {xs : List Value} (h : w.ownsRow base e size v n xs) (hm : w.heap[m]? = some (.map es ck)) : ∀ b, v.ownBlock = some b → b ≠ m := by
  intro b hb he
  rcases h.2 with ⟨h1, _⟩ | ⟨g, cap, cur, hv, hbb, hh, r⟩
  · rw [h1] at hb; cases hb
  · rw [hv] at hb
    have : g = b := by simpa [Value.ownBlock] using hb
    rw [← he, ← this, hh] at hm
    cases hm
theorem StI.grownM {B : Nat} {C : Cm} {F : List Dv} {wvN : Nat → Nat} {a : StA} {s : St} {w w' : World} {mc : Nat} {Lm : SmL} (h : StI B C F wvN a s w) (hlc : s.cs.length = F.length) (hm : mc ∉ a.all) (hB : B ≤ mc) (hmp : SmI w mc Lm) (hg : w.grownBy w' (some mc)) : StI B C F wvN a s w' := by
  have hlt := h.lt hlc
  have hk : ∀ b o, b ∈ a.all → w.heap[b]? = some o → w'.heap[b]? = some o := fun b o hb ho => (hg.block b (hlt b hb) (by intro e; injection e with e; exact hm (by rw [← e]; exact hb))).trans ho
  obtain ⟨A, c, h1, h2, h3⟩ := h.st
  obtain ⟨m1, m2, m3, m4, m5, m6, m7⟩ := a.mem
  exact ⟨h.nd, h.ge, h.lb, Nat.le_trans h.sz hg.size, h.ws.keep fun b hlt => hg.block b (Nat.lt_of_lt_of_le hlt h.sz) (by intro e; injection e with e; omega), ⟨A, c, hk _ _ m1 h1, own_keepS h2 fun b hb' => hg.block b (own_ltS h2 hb').2 (by intro e; injection e with e; exact own_neM h2 hmp b hb' e), h3⟩, hk _ _ m2 h.cm, hk _ _ m3 h.of_, hk _ _ m4 h.wv, fun i b x h4 h5 => hk _ _ (StA.cmem h4) (h.cu i b x h4 h5), hk _ _ m5 h.op, hk _ _ m6 h.en, hk _ _ m7 h.fa⟩
theorem WyM.asideB {B : Nat} {L : List Im} {t : Ve} {AL : Option Addr} {N C gw mc g : Nat} {Lc : SmL} {w w' : World} {cs : Array Value} {f : Nat × Nat} {ty : TypeId} (h : WyM B L t AL N C gw mc Lc w) (hg : w.heap[g]? = some (.cells cs ty f)) (hty : ty ≠ 150) (hB : B ≤ g) (hs : w.heap.size ≤ w'.heap.size) (hk : ∀ b, b < w.heap.size → b ≠ g → w'.heap[b]? = w.heap[b]?) : WyM B L t AL N C gw mc Lc w' := by
  have hmne : ∀ m o n, w.heap[m]? = some (.map o n) → m ≠ g := by
    intro m o n h1 e
    rw [e, hg] at h1
    cases h1
  refine ⟨(hk gw (Array.getElem?_eq_some_iff.1 h.gw).1 ?_).trans h.gw, h.mp.keep (hk mc h.mp.lt (hmne _ _ _ h.mp)), ?_, h.im.keepB fun b hb => hk b (by have := h.sz; omega) (by omega), h.ge, Nat.le_trans h.sz hs⟩
  · intro e
    have h1 := h.gw
    rw [e, hg] at h1
    injection h1 with h1
    injection h1 with _ h2
    exact hty h2
  · intro j hj v hv
    obtain ⟨m, T, h1, h2, h3, h4⟩ := h.ok j hj v hv
    exact ⟨m, T, h1, h2.keep (hk m h2.lt (hmne _ _ _ h2)), h3, h4⟩
theorem WyM.ownG {B : Nat} {L : List Im} {t : Ve} {AL : Option Addr} {N C gw mc base size n : Nat} {Lc : SmL} {w w' : World} {ty : TypeId} {v : Value} {xs : List Value} (h : WyM B L t AL N C gw mc Lc w) (ho : w.ownsRow base ty size v n xs) (hty : ty ≠ 150) (hB : B ≤ base) (hg : w.grownBy w' v.ownBlock) : WyM B L t AL N C gw mc Lc w' := by
  cases hv : v.ownBlock with
  | none =>
    rw [hv] at hg
    exact h.grown ⟨hg.os, hg.tape, hg.output, hg.size, fun b hb => hg.block b hb (by simp)⟩
  | some g =>
    rw [hv] at hg
    rcases ho.2 with ⟨h1, _⟩ | ⟨g', cap, cur, h1, hbb, hh, _⟩
    · rw [h1] at hv; cases hv
    · have : g' = g := by rw [h1] at hv; simpa [Value.ownBlock] using hv
      subst this
      exact h.asideB hh hty (by omega) hg.size fun b hb hne => hg.block b hb (by intro e; injection e with e; exact hne e)
theorem gr_of_below {w w' : World} {r : Option Nat} (h : Below w.heap.size w w') : w.grownBy w' r := ⟨h.os, h.tape, h.output, h.size, fun b hb _ => h.block b hb⟩
theorem cmpD_eq {C : Cm} {F : List Dv} (hF : FlOk F) {x y : Dv} (hx : x ∈ F) (hy : y ∈ F) (h1 : ¬ cmpD C x y < 0) (h2 : ¬ cmpD C y x < 0) : x = y := by
  have a := dvT_cmp (hF.ok x hx).k (hF.ok y hy).k
  have b := dvT_cmp (hF.ok y hy).k (hF.ok x hx).k
  unfold cmpD at h1 h2
  rw [lexI, a, cmpI_lt] at h1
  rw [lexI, b, cmpI_lt] at h2
  have hk : x.k = y.k := by omega
  obtain ⟨i, hi⟩ := List.getElem?_of_mem hx
  obtain ⟨j, hj⟩ := List.getElem?_of_mem hy
  have e1 := ixF_at hF.ord hi
  have e2 := ixF_at hF.ord hj
  rw [hk, e2] at e1
  have e3 := Option.some.inj e1
  rw [e3, hi] at hj
  exact Option.some.inj hj
/-- The image that is put on first, as a value. -/
noncomputable def frU (L : List Im) (t : Ve) (j : Nat) (v : Ve) : Option Im := by
  classical
  exact if h : ∃ r : Option Im, ∃ hj : j < 2, @FirP ⟨j, hj⟩ L v t r then Classical.choose h else none
theorem frU_eq {L : List Im} {t : Ve} {j : Nat} {v : Ve} {r : Option Im} (hj : j < 2) (h : @FirP ⟨j, hj⟩ L v t r) : frU L t j v = r := by
  have hx : ∃ r : Option Im, ∃ hj : j < 2, @FirP ⟨j, hj⟩ L v t r := ⟨r, hj, h⟩
  unfold frU
  rw [dif_pos hx]
  obtain ⟨_, h2⟩ := Classical.choose_spec hx
  exact @FirP.uniq ⟨j, hj⟩ _ _ _ _ _ h2 h
/-- The course of a device. -/
def cxF (F : List Dv) (cs : List Cu) (d : Dv) : Cu := ((ixF F d.k).bind fun i => cs[i]?).getD (cu0 d)
/-- What is offered to those that wait. -/
noncomputable def ofR (L : List Im) (t : Ve) (F : List Dv) (cs : List Cu) (room : Int) : List Dv → Int → List Ofr
  | [], _ => []
  | d :: l, r => if room ≤ r then [] else match frU L t d.md (cxF F cs d).v with
    | none => ofR L t F cs room l r
    | some im => ⟨d.k, im.v, im.sz⟩ :: ofR L t F cs room l (r + 1)
noncomputable def ofV (C : Cm) (L : List Im) (F : List Dv) (be : Nat) (cs : List Cu) (sp t : Int) : List Ofr :=
  if 0 ≤ sp ∨ inV C t = false then [] else ofR L C.t F cs (C.rm - (bzN cs : Int)) (srtV (fun x y => cmpD C x y < 0) (wtP C be (F.zip cs))) 0
theorem ofR_full {L : List Im} {t : Ve} {F : List Dv} {cs : List Cu} {room r : Int} (h : room ≤ r) : ∀ l, ofR L t F cs room l r = []
  | [] => rfl
  | d :: l => by rw [ofR, if_pos h]
theorem ofR_no {L : List Im} {t : Ve} {F : List Dv} {cs : List Cu} {room r : Int} {l : List Dv} {j : Nat} {d : Dv} (hd : l[j]? = some d) (h : ¬ room ≤ r) (hf : frU L t d.md (cxF F cs d).v = none) : ofR L t F cs room (l.drop j) r = ofR L t F cs room (l.drop (j + 1)) r := by
  obtain ⟨hl, e⟩ := List.getElem?_eq_some_iff.1 hd
  rw [List.drop_eq_getElem_cons hl, e, ofR, if_neg h, hf]
theorem ofR_yes {L : List Im} {t : Ve} {F : List Dv} {cs : List Cu} {room r : Int} {l : List Dv} {j : Nat} {d : Dv} {im : Im} (hd : l[j]? = some d) (h : ¬ room ≤ r) (hf : frU L t d.md (cxF F cs d).v = some im) : ofR L t F cs room (l.drop j) r = ⟨d.k, im.v, im.sz⟩ :: ofR L t F cs room (l.drop (j + 1)) (r + 1) := by
  obtain ⟨hl, e⟩ := List.getElem?_eq_some_iff.1 hd
  rw [List.drop_eq_getElem_cons hl, e, ofR, if_neg h, hf]
/-- What first has answered, in one form. -/
def FwC [Mdl] (L : List Im) (v t : Ve) (q0 q1 q2 q5 : Int) (ok : Bool) : Prop := ∃ r : Option Im, FirP L v t r ∧ ok = r.isSome ∧ ∀ x, r = some x → x ∈ tak L v ∧ x.v = ⟨q0, q1, q2⟩ ∧ x.sz = q5
def FwP [Mdl] (L : List Im) (v t : Ve) (AL : Option Addr) (N C gw mc B : Nat) (w : World) (e : Ending) (w' : World) : Prop :=
  ∃ (q0 q1 q2 : Int) (A3 A4 : Option Addr) (n3 c3 n4 c4 : Nat) (q5 : Int) (ok : Bool), e = .returned (.tuple #[.agg #[.int .i64 q0, .int .i64 q1, .int .i64 q2, .slice A3 n3 c3, .slice A4 n4 c4, .int .i64 q5], .bool ok]) ∧ FwC L v t q0 q1 q2 q5 ok ∧ (∃ Lc, WyM B L t AL N C gw mc Lc w') ∧ w.grownBy w' (some mc)
theorem im_fw [Mdl] {L : List Im} {v t : Ve} {AL : Option Addr} {N C gw mc B : Nat} {w w' : World} {e : Ending} (h : ImR L v t AL N C gw mc B w e w') : FwP L v t AL N C gw mc B w e w' := by
  obtain ⟨h1, h2, h3 | ⟨x, hx, h3, h4⟩⟩ := h
  · exact ⟨0, 0, 0, none, none, 0, 0, 0, 0, 0, false, h3.1, ⟨none, h3.2, rfl, fun x h => by cases h⟩, h1, h2⟩
  · exact ⟨x.v.a, x.v.b, x.v.c, x.ma, x.fa, x.mo.length, x.mc, x.rs.length, x.fc, x.sz, true, h3, ⟨some x, h4.2, rfl, fun y h => by cases h; exact ⟨h4.1, rfl, rfl⟩⟩, h1, h2⟩
/-- Behind the call of first and the image's copy. -/
def OrR [Mdl] (L : List Im) (v t : Ve) (AL : Option Addr) (N C gw mc B : Nat) (W : World) (s u : Value) (wx : World) : Prop :=
  ∃ (g : Nat) (q0 q1 q2 : Int) (A3 A4 : Option Addr) (n3 c3 n4 c4 : Nat) (q5 : Int) (ok : Bool), s = .pointer (some ⟨g, 0, none⟩) ∧ u = .bool ok ∧ W.heap.size ≤ g ∧ wx.heap[g]? = some (.cells #[.int .i64 q0, .int .i64 q1, .int .i64 q2, .slice A3 n3 c3, .slice A4 n4 c4, .int .i64 q5] 91 (0, 0)) ∧ FwC L v t q0 q1 q2 q5 ok ∧ (∃ Lc, WyM B L t AL N C gw mc Lc wx) ∧ W.grownBy wx (some mc)
theorem zg_alloc {w w' : World} {o : Obj} {mc : Nat} (k : (w.alloc o).grownBy w' (some mc)) : w.grownBy w' (some mc) :=
  ⟨k.os, k.tape, k.output, Nat.le_trans (by simp) k.size, fun i hi hn => (k.block i (by simp; omega) hn).trans (Below.heap_alloc w o i hi)⟩
theorem zg_new {w w' : World} {o : Obj} {mc : Nat} (h : mc < w.heap.size) (k : (w.alloc o).grownBy w' (some mc)) : w'.heap[w.heap.size]? = some o :=
  (k.block _ (by simp) (by intro e; injection e with e; omega)).trans (zz_heap w o)
theorem zg_set6 {u w : World} {g mc : Nat} (h : u.grownBy w (some mc)) (hg : u.heap.size ≤ g) (a' b' c' d' e' f' : Value) : u.grownBy ((((((w.setCell ⟨g, 0, none⟩ a').setCell ⟨g, 1, none⟩ b').setCell ⟨g, 2, none⟩ c').setCell ⟨g, 3, none⟩ d').setCell ⟨g, 4, none⟩ e').setCell ⟨g, 5, none⟩ f') (some mc) :=
  grown_over h (im_below (Below.refl _ _) hg _ _ _ _ _ _)
def OfOk (C : Cm) (F : List Dv) (be : Nat) (cs : List Cu) (L : List Im) (O : List Ofr) : Prop :=
  (∀ y ∈ O, ∃ d x, (d, x) ∈ F.zip cs ∧ y.d = d.k ∧ bzV x = false ∧ wvN C d.k < be ∧ ∃ h : d.md < 2, ∃ im ∈ @tak ⟨d.md, h⟩ L x.v, im.v = y.v) ∧ (O ≠ [] → (bzN cs : Int) + (O.length : Int) ≤ C.rm)
theorem OfOk.nil {C : Cm} {F : List Dv} {be : Nat} {cs : List Cu} {L : List Im} : OfOk C F be cs L [] := ⟨fun _ h => absurd h List.not_mem_nil, fun h => absurd rfl h⟩
def OfPost (B : Nat) (C : Cm) (F : List Dv) (be : Nat) (cs : List Cu) (sp t : Int) (L : List Im) (AL : Option Addr) (NL CL gw mc : Nat) (w : World) (e : Ending) (w' : World) : Prop :=
  ∃ (A : Option Addr) (c k : Nat) (O : List Ofr), e = .returned (.slice A k c) ∧ k = O.length ∧ OfOk C F be cs L O ∧ w'.ownsRow B 83 5 (.slice A k c) k (recs ofC O) ∧ Below B w w' ∧ O = ofV C L F be cs sp t ∧ w'.ownsRow w.heap.size 83 5 (.slice A k c) k (recs ofC O) ∧ (∃ Lc, WyM B L C.t AL NL CL gw mc Lc w') ∧ w.grownBy w' (some mc)
set_option maxRecDepth 100000 in
set_option maxHeartbeats 8000000 in
theorem offers_any (C : Cm) (F : List Dv) (a : StA) (s : St) (L : List Im) (B n c ns NL CL gw mc : Nat) (Lc : SmL) (AF AL : Option Addr) (t : Int) (w : World) (hC : CmOk C) (hF : FlOk F) (hL : ImsOk L) (hn : F.length = n) (hNL : L.length = NL)
    (ht : 0 ≤ t ∧ t ≤ 1000000) (hS : StO C F ns s) (hI : StI B C F (wvN C) a s w) (hM : WyM B L C.t AL NL CL gw mc Lc w) (hmc : mc ∉ a.all) (hr : Row w B AF (recs dvC F)) :
    Calls Tryz.prog 77 #[.pointer (some ⟨a.s, 0, none⟩), .pointer (some ⟨gw, 0, none⟩), .slice AF n c, .int .i64 0, .int .i64 t] w fun e w' => OfPost B C F s.be.length s.cs s.sp t L AL NL CL gw mc w e w' := by
  obtain ⟨id0, hid0, hzd0, hzd1, hzd2⟩ := info_parts Tryz.infoDv
  obtain ⟨io0, hio0, hzo0, hzo1, hzo2⟩ := info_parts Tryz.infoOf
  have hn6 : n ≤ 6 := by rw [← hn]; exact hF.n
  obtain ⟨be, ebe⟩ : ∃ k, k = s.be.length := ⟨_, rfl⟩
  obtain ⟨cs, ecs⟩ : ∃ k, k = s.cs := ⟨_, rfl⟩
  obtain ⟨rm, erm⟩ : ∃ k, k = C.rm := ⟨_, rfl⟩
  have hrm := hC.rm
  rw [← ebe, ← ecs]
  rw [← erm] at hrm
  have HE := Lib.hid (And.intro ebe (And.intro ecs erm))
  have hF6 : ∀ d ∈ F, d.k < 6 := fun d hd => (hF.ok d hd).k
  obtain ⟨g5, eg5⟩ : ∃ g, g = w.heap.size := ⟨_, rfl⟩
  obtain ⟨w0, e0⟩ : ∃ V : World, V = w.alloc (.cells #[.pointer (some ⟨a.s, 0, none⟩)] 144) := ⟨_, rfl⟩
  have hb0 : Below w.heap.size w w0 := by rw [e0]; exact (Below.refl _ _).alloc (Nat.le_refl _) _
  have hg0 : w0.heap[g5]? = some (.cells #[.pointer (some ⟨a.s, 0, none⟩)] 144 (0, 0)) := by rw [e0, eg5]; exact heap_new w _
  have HI := Lib.hid (hI.below hb0)
  have HM := Lib.hid (hM.grown hb0)
  have HB0 := Lib.hid (show Below B w w0 from hb0.mono hI.sz)
  have HG0 := Lib.hid hg0
  have HR := Lib.hid (hr.below (hb0.mono hI.sz))
  have HC := Lib.hid hC
  have HF := Lib.hid hF
  have HL := Lib.hid hL
  have HN := Lib.hid (And.intro hn hNL)
  have HS := Lib.hid hS
  have HMC := Lib.hid hmc
  have HF6 := Lib.hid hF6
  have hsz := HI.out.sz
  have hB := hI.sz
  have hlc : F.length = cs.length := by rw [ecs]; exact hS.lc.symm
  have HLC := Lib.hid hlc
  have HLT := Lib.hid (show ∀ b ∈ a.all, b < g5 from by rw [eg5]; exact hI.lt hS.lc)
  have hHR := inHours_any C a.c t
  obtain ⟨v6, hs0, hc0⟩ := HI.out.cells C.ws.length rfl
  have p7 : w0.cell? ⟨a.s, 7, none⟩ = some (.int .i64 s.sp) := cell_of_blk (j := 7) hs0 rfl
  have p0 : w0.cell? ⟨a.s, 0, none⟩ = some (.pointer (some ⟨a.c, 0, none⟩)) := cell_of_blk (j := 0) hs0 rfl
  have p5 : w0.cell? ⟨g5, 0, none⟩ = some (.pointer (some ⟨a.s, 0, none⟩)) := cell_of_blk (j := 0) hg0 rfl
  have hls := (Array.getElem?_eq_some_iff.1 hs0).1
  have hl5 := (Array.getElem?_eq_some_iff.1 hg0).1
  obtain ⟨sp, esp⟩ : ∃ k, k = s.sp := ⟨_, rfl⟩
  rw [← esp] at p7
  have HIH := Lib.hid (inHours_any C a.c t w0 hC ht HI.out.cm)
  obtain ⟨ih, eih⟩ : ∃ k, k = inV C t := ⟨_, rfl⟩
  rw [← eih] at HIH
  rw [← esp]
  have HIN := Lib.hid eih
  have HG00 := Lib.hid (show Below w.heap.size w w0 from hb0)
  have HNIL := Lib.hid (fun (V : World) (hV : Below w0.heap.size w0 V) (hq : 0 ≤ sp ∨ ih = false) => show OfPost B C F be cs sp t L AL NL CL gw mc w (.returned (.slice none 0 0)) V from ⟨none, 0, 0, [], rfl, rfl, OfOk.nil, World.ownsRow_nil _ _ _ _, HB0.out.trans (hV.mono hsz), by unfold ofV; rw [if_pos (by rw [← eih]; exact hq)], World.ownsRow_nil _ _ _ _, ⟨Lc, HM.out.grown hV⟩, gr_of_below (HG00.out.trans (hV.mono HG00.out.size))⟩)
  clear hC hF hL hn hNL hS hI hM hmc hr hF6 hb0 hg0 ebe ecs erm hs0 hc0 hlc esp eih hHR
  go_enter Tryz.func77, Tryz.ntmps77
  go_upto_region 1 with (fail)
  rw [← eg5, ← e0]
  clear e0 eg5
  by_cases hsp : 0 ≤ sp
  · go_wp2_with (fail)
    go_ret
    exact HNIL.out _ (Below.refl _ _) (.inl hsp)
  go_wp2_with (fail)
  refine HIH.out.mono ?_
  rintro e w1 ⟨rfl, hb1⟩
  cases ih with
  | false =>
    go_wp2_with (fail)
    go_ret
    exact HNIL.out _ hb1 (.inr (by simp))
  | true =>
  have hi1 := HI.out.below hb1
  obtain ⟨v61, hs1, hc1⟩ := hi1.cells C.ws.length rfl
  have q0 : w1.cell? ⟨a.s, 0, none⟩ = some (.pointer (some ⟨a.c, 0, none⟩)) := cell_of_blk (j := 0) hs1 rfl
  have q5 : w1.cell? ⟨g5, 0, none⟩ = some (.pointer (some ⟨a.s, 0, none⟩)) := (hb1.cell (p := ⟨g5, 0, none⟩) hl5).trans p5
  have q8 : w1.cell? ⟨a.c, 8, none⟩ = some (.int .i64 rm) := by rw [HE.out.2.2]; exact cell_of_blk (j := 8) hc1 rfl
  have HB1 := Lib.hid hb1
  have hlc1 := (Array.getElem?_eq_some_iff.1 hc1).1
  have hls1 := (Array.getElem?_eq_some_iff.1 hs1).1
  have hl51 : g5 < w1.heap.size := Nat.lt_of_lt_of_le hl5 hb1.size
  clear hi1 hs1 hc1 hb1 p0 p5 p7 HIH
  go_wp2_with (fail)
  clear q0 q5 q8 hlc1 hls1
  go_loopw [45, 11, 12] (fun i r l wr => ∃ (k m cl bn : Nat) (Al : Option Addr), k ≤ n ∧ m ≤ k ∧ bn ≤ k ∧ i = .int .i64 (k : Int) ∧ r = .int .i64 (rm - (bn : Int)) ∧ l = .slice Al m cl ∧ Hid (bzN (cs.take k) = bn ∧ (wtP C be ((F.zip cs).take k)).length = m ∧ wr.ownsRow w0.heap.size 67 7 (.slice Al m cl) m (recs dvC (wtP C be ((F.zip cs).take k))) ∧ Below w0.heap.size w0 wr)) (fun i _ _ _ => n - (intOf i).toNat)
  case atStart => exact ⟨0, 0, 0, 0, none, Nat.zero_le _, Nat.le_refl _, Nat.le_refl _, rfl, by simp, rfl, Lib.hid ⟨rfl, rfl, World.ownsRow_nil _ _ _ _, HB1.out⟩⟩
  case round =>
    obtain ⟨k, m, cl, bn, Al, hk, hmk, hbk, rfl, rfl, rfl, HW⟩ := hrel
    by_cases hlt : k < n
    · have hltI : (k : Int) < (n : Int) := by omega
      obtain ⟨d, hd⟩ : ∃ d, F[k]? = some d := ⟨_, List.getElem?_eq_getElem (by have := HN.out.1; omega)⟩
      obtain ⟨x, hx⟩ : ∃ x, cs[k]? = some x := ⟨_, List.getElem?_eq_getElem (by have := HN.out.1; have := HLC.out; omega)⟩
      obtain ⟨b, hbc⟩ : ∃ b, a.cb[k]? = some b := ⟨_, List.getElem?_eq_getElem (by rw [HI.out.lb]; have := HN.out.1; omega)⟩
      have hzp : (F.zip cs)[k]? = some (d, x) := by rw [List.getElem?_zip_eq_some]; exact ⟨hd, hx⟩
      have hd6 := HF6.out d (List.mem_of_getElem? hd)
      have hix := ixF_at HF.out.ord hd
      obtain ⟨bf, o, rfl, hbw, hCl⟩ := (HR.out.below (HW.out.2.2.2.mono hsz)).posR dvC_len (by omega) (by have := HN.out.1; omega)
      have hbr : bf < wr.heap.size := by have := HW.out.2.2.2.size; omega
      have c0 : wr.cell? ⟨bf, o + k * 7, none⟩ = some (.string (dvT d.k)) := rec_cell dvC_len hCl k d hd 0 _ rfl
      have c1 := rec_cell dvC_len hCl k d hd 1 _ rfl
      have c2 := rec_cell dvC_len hCl k d hd 2 _ rfl
      have c3 := rec_cell dvC_len hCl k d hd 3 _ rfl
      have c4 := rec_cell dvC_len hCl k d hd 4 _ rfl
      have c5 := rec_cell dvC_len hCl k d hd 5 _ rfl
      have c7 := rec_cell dvC_len hCl k d hd 6 _ rfl
      have HX := Lib.hid (And.intro hbc (And.intro (show s.cs[k]? = some x by rw [← HE.out.2.1]; exact hx) (And.intro hd6 hix)))
      have HSB := Lib.hid (bzN_snoc hx)
      have HSW := Lib.hid (wtP_snoc (C := C) (be := be) hzp)
      clear hCl hd hx hbc hzp hd6 hix
      go_upto_region 8 with (fail)
      obtain ⟨gx, egx⟩ : ∃ y, y = wr.heap.size := ⟨_, rfl⟩
      obtain ⟨w2, e2⟩ : ∃ V : World, V = wr.alloc (.cells #[.string (dvT d.k), .string (mdT d.md), .string tnT, .int .i64 d.fw.a, .int .i64 d.fw.b, .int .i64 d.fw.c, .slice none 0 0] 67) := ⟨_, rfl⟩
      have hb2 : Below wr.heap.size wr w2 := by rw [e2]; exact (Below.refl _ _).alloc (Nat.le_refl _) _
      have hg2 : w2.heap[gx]? = some (dvB d) := by rw [e2, egx]; exact heap_new wr _
      have HW2 := Lib.hid (show w2.ownsRow w0.heap.size 67 7 (.slice Al m cl) m (recs dvC (wtP C be ((F.zip cs).take k))) ∧ Below w0.heap.size w0 w2 from ⟨own_below HW.out.2.2.1 hb2, HW.out.2.2.2.trans (hb2.mono HW.out.2.2.2.size)⟩)
      have hgs := HW.out.2.2.2.size
      have hgx : w0.heap.size ≤ gx := by omega
      rw [← egx, ← e2]
      have HG2 := Lib.hid hg2
      have hlg2 := (Array.getElem?_eq_some_iff.1 hg2).1
      have hi2 := HI.out.below HW2.out.2
      have HI2 := Lib.hid hi2
      obtain ⟨A6, c6, h61, _⟩ := hi2.st
      have hl61 := (Array.getElem?_eq_some_iff.1 h61).1
      have HQ := Lib.hid (fun (V : World) (hV : Below w2.heap.size w2 V) => show V.cell? ⟨g5, 0, none⟩ = some (.pointer (some ⟨a.s, 0, none⟩)) ∧ V.cell? ⟨a.s, 1, none⟩ = some (.map (some a.mo)) ∧ V.cell? ⟨a.s, 2, none⟩ = some (.map (some a.mw)) ∧ V.cell? ⟨a.s, 6, none⟩ = some (.slice A6 be c6) ∧ V.cell? ⟨gx, 0, none⟩ = some (.string (dvT d.k)) ∧ (Instr.lookup 162 (.map (some a.mo)) (.string (dvT d.k)) false).run Tryz.prog V = .ok (.pointer (some ⟨b, 0, none⟩)) V ∧ (Instr.lookup 163 (.map (some a.mw)) (.string (dvT d.k)) false).run Tryz.prog V = .ok (.int .i64 (wvN C d.k : Int)) V from by
        have hi := HI2.out.below hV
        have h1 := (hV.block a.s hl61).trans h61
        have h2 := hi.lookC HF6.out HX.out.2.2.1 false
        rw [HX.out.2.2.2] at h2
        simp only [Option.bind_some, HX.out.1, Option.map_some, Option.getD_some] at h2
        have h5 := ((HW2.out.2.trans (hV.mono HW2.out.2.size)).block g5 hl5).trans HG0.out
        exact ⟨cell_of_blk (j := 0) h5 rfl, cell_of_blk (j := 1) h1 rfl, cell_of_blk (j := 2) h1 rfl, by rw [HE.out.1]; exact cell_of_blk (j := 6) h1 rfl, cell_of_blk (j := 0) ((hV.block gx hlg2).trans HG2.out) rfl, h2, hi.lookW HF6.out HX.out.2.2.1 HX.out.2.2.2⟩)
      have HX5 := Lib.hid (fun (V : World) (hV : Below w2.heap.size w2 V) => show V.heap[b]? = some (cuB x) from (HI2.out.below hV).cu k b x HX.out.1 HX.out.2.1)
      clear egx e2 hb2 hg2 c0 c1 c2 c3 c4 c5 c7 hbr hi2 h61
      refine qRegion (by kernel_rfl) (by kernel_rfl) ?_
      repeat (first
        | (go_big_quiet_want; refine qVal (fun V hV => (by (obtain ⟨q0, q1, q2, q3, q4, q5, q6⟩ := HQ.out V hV; go_simp; try rfl))) ?_; simp only [Act.put, List.setIfInBounds_toArray, List.set_cons_zero, List.set_cons_succ]; go_big_quiet_on)
        | go_big_quiet_skip)
      refine wpQuiet_nil ?_
      intro w3 hb3
      have HBZ := Lib.hid (busy_any x b w3 (HX5.out w3 hb3))
      obtain ⟨bz, ebz⟩ : ∃ z, z = bzV x := ⟨_, rfl⟩
      rw [← ebz] at HBZ
      rw [← ebz] at HSB
      have HEZ := Lib.hid ebz
      have HB3 := Lib.hid hb3
      clear hb3 ebz
      go_wp2_with (fail)
      refine HBZ.out.mono ?_
      rintro e w4 ⟨rfl, hb4⟩
      have HB4 := Lib.hid (HB3.out.trans (hb4.mono HB3.out.size))
      clear hb4 HBZ
      cases bz with
      | true =>
        have HK := Lib.hid (show bzN (cs.take (k + 1)) = bn + 1 ∧ wtP C be ((F.zip cs).take (k + 1)) = wtP C be ((F.zip cs).take k) from ⟨by rw [HSB.out, HW.out.1]; rfl, by rw [HSW.out]; unfold wtB; rw [← HEZ.out]; simp⟩)
        go_wp2_with (fail)
        go_roundw
        case rel => exact ⟨k + 1, m, cl, bn + 1, Al, by omega, by omega, by omega, by go_num, by congr 1; omega, rfl, Lib.hid ⟨HK.out.1, by rw [HK.out.2]; exact HW.out.2.1, by rw [HK.out.2]; exact own_below HW2.out.1 HB4.out, HW2.out.2.trans (HB4.out.mono HW2.out.2.size)⟩⟩
        case measure => simp [intOf]; omega
      | false =>
        have HK := Lib.hid (show bzN (cs.take (k + 1)) = bn by rw [HSB.out, HW.out.1]; rfl)
        obtain ⟨p1, ep1⟩ : ∃ p, p = decide (wvN C d.k < be) := ⟨_, rfl⟩
        obtain ⟨p2, ep2⟩ : ∃ p, p = rdV C x := ⟨_, rfl⟩
        obtain ⟨p3, ep3⟩ : ∃ p, p = ouV C x := ⟨_, rfl⟩
        have HWB := Lib.hid (show wtB C be (d, x) = (p1 && (!p2 && !p3)) by unfold wtB; rw [← HEZ.out, ep1, ep2, ep3]; simp)
        have HP := Lib.hid (show p1 = decide ((wvN C d.k : Int) < (be : Int)) by rw [ep1]; exact decide_eq_decide.2 (by omega))
        clear ep1
        go_upto_if 61 with (fail)
        have HQ4 := Lib.hid (fun (V : World) (hV : Below w4.heap.size w4 V) => HQ.out V (HB4.out.trans (hV.mono HB4.out.size)))
        have HRD := Lib.hid (fun (V : World) (hV : Below w4.heap.size w4 V) => (HI2.out.below (HB4.out.trans (hV.mono HB4.out.size))).rdy HX.out.1 HX.out.2.1)
        have HOU := Lib.hid (fun (V : World) (hV : Below w4.heap.size w4 V) => (HI2.out.below (HB4.out.trans (hV.mono HB4.out.size))).outy HX.out.1 HX.out.2.1)
        rw [← ep2] at HRD
        rw [← ep3] at HOU
        clear ep2 ep3
        go_cut [61] (fun s wx => s = .bool (p1 && (!p2 && !p3)) ∧ Below w4.heap.size w4 wx)
        case first =>
          have hp1 := HP.out
          cases p1 with
          | false =>
            have hlt1 : ¬ (wvN C d.k : Int) < (be : Int) := of_decide_eq_false hp1.symm
            clear hp1
            refine qRegion (by kernel_rfl) (by kernel_rfl) ?_
            repeat (first
              | (go_big_quiet_want; refine qVal (fun V hV => (by (obtain ⟨q0, q1, q2, q3, q4, q5, q6⟩ := HQ4.out V hV; go_simp; try rfl))) ?_; simp only [Act.put, List.setIfInBounds_toArray, List.set_cons_zero, List.set_cons_succ]; go_big_quiet_on)
              | go_big_quiet_skip)
            refine wpQuiet_nil ?_
            intro w5 hb5
            go_wp2_with (fail)
            go_meet
            exact ⟨rfl, hb5⟩
          | true =>
            have hlt1 : (wvN C d.k : Int) < (be : Int) := of_decide_eq_true hp1.symm
            clear hp1
            cases p2 with
            | true =>
              refine qRegion (by kernel_rfl) (by kernel_rfl) ?_
              repeat (first
                | (go_big_quiet_want; refine qVal (fun V hV => (by (obtain ⟨q0, q1, q2, q3, q4, q5, q6⟩ := HQ4.out V hV; go_simp; try rfl))) ?_; simp only [Act.put, List.setIfInBounds_toArray, List.set_cons_zero, List.set_cons_succ]; go_big_quiet_on)
                | (go_big_quiet_want
                   refine qCall (fun V hV => (by (obtain ⟨q0, q1, q2, q3, q4, q5, q6⟩ := HQ4.out V hV; go_simp; exact ⟨rfl, rfl⟩))) (fun V hV => (by first
                     | with_reducible exact (HRD.out V hV).mono (fun e w' h => ⟨h.1, hV.trans (h.2.mono hV.size)⟩))) ?_
                   simp only [Act.put, List.setIfInBounds_toArray, List.set_cons_zero, List.set_cons_succ]; go_big_quiet_on)
                | go_big_quiet_skip)
              refine wpQuiet_nil ?_
              intro w5 hb5
              go_wp2_with (fail)
              go_meet
              exact ⟨rfl, hb5⟩
            | false =>
              cases p3 with
              | true =>
                refine qRegion (by kernel_rfl) (by kernel_rfl) ?_
                repeat (first
                  | (go_big_quiet_want; refine qVal (fun V hV => (by (obtain ⟨q0, q1, q2, q3, q4, q5, q6⟩ := HQ4.out V hV; go_simp; try rfl))) ?_; simp only [Act.put, List.setIfInBounds_toArray, List.set_cons_zero, List.set_cons_succ]; go_big_quiet_on)
                  | (go_big_quiet_want
                     refine qCall (fun V hV => (by (obtain ⟨q0, q1, q2, q3, q4, q5, q6⟩ := HQ4.out V hV; go_simp; exact ⟨rfl, rfl⟩))) (fun V hV => (by first
                       | with_reducible exact (HRD.out V hV).mono (fun e w' h => ⟨h.1, hV.trans (h.2.mono hV.size)⟩)
                       | with_reducible exact (HOU.out V hV).mono (fun e w' h => ⟨h.1, hV.trans (h.2.mono hV.size)⟩))) ?_
                     simp only [Act.put, List.setIfInBounds_toArray, List.set_cons_zero, List.set_cons_succ]; go_big_quiet_on)
                  | go_big_quiet_skip)
                refine wpQuiet_nil ?_
                intro w5 hb5
                go_wp2_with (fail)
                go_meet
                exact ⟨rfl, hb5⟩
              | false =>
                refine qRegion (by kernel_rfl) (by kernel_rfl) ?_
                repeat (first
                  | (go_big_quiet_want; refine qVal (fun V hV => (by (obtain ⟨q0, q1, q2, q3, q4, q5, q6⟩ := HQ4.out V hV; go_simp; try rfl))) ?_; simp only [Act.put, List.setIfInBounds_toArray, List.set_cons_zero, List.set_cons_succ]; go_big_quiet_on)
                  | (go_big_quiet_want
                     refine qCall (fun V hV => (by (obtain ⟨q0, q1, q2, q3, q4, q5, q6⟩ := HQ4.out V hV; go_simp; exact ⟨rfl, rfl⟩))) (fun V hV => (by first
                       | with_reducible exact (HRD.out V hV).mono (fun e w' h => ⟨h.1, hV.trans (h.2.mono hV.size)⟩)
                       | with_reducible exact (HOU.out V hV).mono (fun e w' h => ⟨h.1, hV.trans (h.2.mono hV.size)⟩))) ?_
                     simp only [Act.put, List.setIfInBounds_toArray, List.set_cons_zero, List.set_cons_succ]; go_big_quiet_on)
                  | go_big_quiet_skip)
                refine wpQuiet_nil ?_
                intro w5 hb5
                go_wp2_with (fail)
                go_meet
                exact ⟨rfl, hb5⟩
        case rest =>
        obtain ⟨rfl, hb⟩ := hcut
        obtain ⟨w5, rfl⟩ : ∃ wy : World, wy = wc := ⟨_, rfl⟩
        have HB5 := Lib.hid (HB4.out.trans (hb.mono HB4.out.size))
        have hwb := HWB.out
        have hsw := HSW.out
        rw [hwb] at hsw
        have HB05 := Lib.hid (HW2.out.2.trans (HB5.out.mono HW2.out.2.size))
        clear hb HQ4 HRD HOU HQ hwb HSW
        cases hpp : (p1 && (!p2 && !p3)) with
        | false =>
          rw [hpp] at hsw
          have HK2 := Lib.hid (show wtP C be ((F.zip cs).take (k + 1)) = wtP C be ((F.zip cs).take k) from hsw.trans (by simp))
          clear hsw
          go_wp2_with (fail)
          go_roundw
          case rel => exact ⟨k + 1, m, cl, bn, Al, by omega, by omega, by omega, by go_num, rfl, rfl, Lib.hid ⟨HK.out, by rw [HK2.out]; exact HW.out.2.1, by rw [HK2.out]; exact own_below HW2.out.1 HB5.out, HB05.out⟩⟩
          case measure => simp [intOf]; omega
        | true =>
          rw [hpp] at hsw
          have HK2 := Lib.hid (show wtP C be ((F.zip cs).take (k + 1)) = wtP C be ((F.zip cs).take k) ++ [d] from hsw.trans (by simp))
          clear hsw
          have hg5 := (HB5.out.block gx hlg2).trans HG2.out
          have k0 := cell_of_blk (j := 0) hg5 rfl
          have k1 := cell_of_blk (j := 1) hg5 rfl
          have k2 := cell_of_blk (j := 2) hg5 rfl
          have k3 := cell_of_blk (j := 3) hg5 rfl
          have k4 := cell_of_blk (j := 4) hg5 rfl
          have k5 := cell_of_blk (j := 5) hg5 rfl
          have k6 := cell_of_blk (j := 6) hg5 rfl
          have hlg5 := (Array.getElem?_eq_some_iff.1 hg5).1
          have hba : Below w5.heap.size w5 (w5.alloc (dvB d)) := (Below.refl _ _).alloc (Nat.le_refl _) _
          have HAL := Lib.hid (own_below (own_below HW2.out.1 HB5.out) hba)
          have HBA := Lib.hid (HB05.out.trans (hba.mono HB05.out.size))
          have hbs : w0.heap.size ≤ (w5.alloc (dvB d)).heap.size := HBA.out.size
          clear hg5 hba
          unfold dvB at hbs HAL
          go_wp2_with (at_builtin; refine wpList_append_own2 _ rfl _ _ 55 rfl w0.heap.size 67 id0 _ 7 96 Tryz.underlying55 hid0 hzd0 hzd1 hzd2 rfl (by decide) _ _ _ rfl HAL.out ⟨_, 0, none⟩ 1 1 (dvC d) rfl rfl ?c1 ?c2 ?c3 ?c4 ?c5 ?_)
          case c1 => exact cells_add (Cells.new _ _ _ _ _ rfl)
          case c2 => exact dvC_one d
          case c3 => unfold maxLen; omega
          case c4 => omega
          case c5 => (have := HB05.out.size; omega)
          intro v13 w13 ho13 hg13 hm13
          obtain ⟨A3, c3, rfl⟩ := own_slice ho13
          have HB3 := Lib.hid (HBA.out.grown hg13 HBA.out.size (fun q hq => (HAL.out.lt q hq).1))
          have HR3 := Lib.hid (show bzN (cs.take (k + 1)) = bn ∧ (wtP C be ((F.zip cs).take (k + 1))).length = m + 1 ∧ w13.ownsRow w0.heap.size 67 7 (.slice A3 (m + 1) c3) (m + 1) (recs dvC (wtP C be ((F.zip cs).take (k + 1)))) ∧ Below w0.heap.size w0 w13 from ⟨HK.out, by rw [HK2.out, List.length_append, HW.out.2.1]; rfl, by
            have e : recs dvC (wtP C be ((F.zip cs).take (k + 1))) = recs dvC (wtP C be ((F.zip cs).take k)) ++ dvC d := by rw [HK2.out]; simp [recs]
            rw [e]; exact ho13, HB3.out⟩)
          clear ho13 hg13 hm13 hbs HAL HBA k0 k1 k2 k3 k4 k5 k6
          go_wp2_with (fail)
          go_roundw
          case rel => exact ⟨k + 1, m + 1, c3, bn, A3, by omega, by omega, by omega, by go_num, rfl, rfl, HR3⟩
          case measure => simp [intOf]; omega
    · have hltI : ¬ (k : Int) < (n : Int) := by omega
      obtain rfl : k = n := by omega
      obtain ⟨WL, eWL⟩ : ∃ l, l = wtP C be ((F.zip cs).take k) := ⟨_, rfl⟩
      have hzip : (F.zip cs).take k = F.zip cs := List.take_of_length_le (by rw [List.length_zip]; have := HN.out.1; omega)
      have hWF : ∀ d ∈ WL, ∃ x, (d, x) ∈ F.zip cs ∧ wtB C be (d, x) = true := fun d hd => by
        rw [eWL, hzip] at hd
        exact wtP_mem hd
      have hbz : bzN cs = bn := by
        have h := HW.out.1
        rw [List.take_of_length_le (by rw [← HLC.out]; have := HN.out.1; omega)] at h
        exact h
      have HWF := Lib.hid hWF
      have HBN := Lib.hid hbz
      have HWL := Lib.hid (show WL = wtP C be (F.zip cs) from by rw [eWL, hzip])
      have hw2 := HW.out.2
      rw [← eWL] at hw2
      have HW2 := Lib.hid hw2
      have hiW := HI.out.below HW2.out.2.2
      obtain ⟨A6, c6, h61, _⟩ := hiW.st
      have h5W := (HW2.out.2.2.block g5 hl5).trans HG0.out
      have HSO := Lib.hid (sortD_any C F a WL m cl w0.heap.size g5 Al wr HF.out (fun d hd => by obtain ⟨x, h1, _⟩ := HWF.out d hd; exact (List.of_mem_zip h1).1) HW2.out.1 HW2.out.2.1 (fun b hb => by
        have h1 := (HW2.out.2.1.lt b hb).1
        obtain ⟨m1, m2, m3, m4, m5, m6, m7⟩ := a.mem
        have h2 := HLT.out _ m1
        have h3 := HLT.out _ m2
        have h4 := HLT.out _ m4
        omega) (cell_of_blk (j := 0) h5W rfl) (cell_of_blk (j := 0) h61 rfl) (cell_of_blk (j := 2) h61 rfl) hiW.cm hiW.wv (by omega))
      clear eWL hzip hWF hbz hw2 HW hiW h61 h5W
      go_wp2_with (fail)
      refine HSO.out.mono ?_
      rintro e w4 ⟨rfl, DL, hpm, hDm, hoD, hgD, hsoD⟩
      have HDS := Lib.hid (show DL = srtV (fun x y => cmpD C x y < 0) (wtP C be (F.zip cs)) from by
        rw [← HWL.out]
        refine srtV_eq (fun x hx y hy h1 h2 => ?_) hpm hsoD
        obtain ⟨_, hx1, _⟩ := HWF.out x hx
        obtain ⟨_, hy1, _⟩ := HWF.out y hy
        exact cmpD_eq HF.out (List.of_mem_zip hx1).1 (List.of_mem_zip hy1).1 h1 h2)
      clear hsoD
      have HB4 := Lib.hid (HW2.out.2.2.grown hgD HW2.out.2.2.size (fun q hq => (HW2.out.2.1.lt q hq).1))
      have HDL := Lib.hid (And.intro hDm (show ∀ d ∈ DL, ∃ x, (d, x) ∈ F.zip cs ∧ wtB C be (d, x) = true from fun d hd => HWF.out d (hpm.subset hd)))
      have HOD := Lib.hid hoD
      have HI4 := Lib.hid (HI.out.below HB4.out)
      have HM4 := Lib.hid (HM.out.grown HB4.out)
      have h54 := (HB4.out.block g5 hl5).trans HG0.out
      have hl54 := (Array.getElem?_eq_some_iff.1 h54).1
      have HG54 := Lib.hid h54
      clear hpm hDm hoD hgD HSO h54
      go_wp2_with (fail)
      go_loopw [97, 16] (fun i l wx => ∃ (j r co : Nat) (Ao : Option Addr), j ≤ m ∧ r ≤ j ∧ i = .int .i64 (j : Int) ∧ l = .slice Ao r co ∧ Hid (∃ (O : List Ofr) (Lc : SmL), O.length = r ∧ OfOk C F be cs L O ∧ WyM B L C.t AL NL CL gw mc Lc wx ∧ w4.grownBy wx (some mc) ∧ wx.ownsRow w4.heap.size 83 5 (.slice Ao r co) r (recs ofC O) ∧ O ++ ofR L C.t F cs (rm - (bn : Int)) (DL.drop j) r = ofR L C.t F cs (rm - (bn : Int)) DL 0)) (fun i _ _ => m - (intOf i).toNat)
      case atStart => exact ⟨0, 0, 0, none, Nat.zero_le _, Nat.le_refl _, rfl, rfl, Lib.hid ⟨[], Lc, rfl, OfOk.nil, HM4.out, grown_refl _ _, World.ownsRow_nil _ _ _ _, rfl⟩⟩
      case round =>
        obtain ⟨j, r, co, Ao, hj, hrj, rfl, rfl, HO⟩ := hrel
        obtain ⟨O, Lx, hOr, hOk, hMx, hGx, hoO, hof⟩ := HO.out
        have HOF := Lib.hid hof
        clear hof
        have HEND := Lib.hid (fun (V : World) (hV : Below wr.heap.size wr V) (hq : ofR L C.t F cs (rm - (bn : Int)) (DL.drop j) r = []) => show OfPost B C F be cs sp t L AL NL CL gw mc w (.returned (.slice Ao r co)) V from ⟨Ao, co, r, O, rfl, hOr.symm, hOk, own_mono (own_below hoO hV) (by have := HB4.out.size; omega),
          (HB0.out.trans (HB4.out.mono hsz)).grown (grown_below hGx hV) HI4.out.sz (fun q hq => by injection hq with hq; have := HM4.out.ge; omega), by
          have h1 := HOF.out
          rw [hq, List.append_nil] at h1
          rw [h1]
          unfold ofV
          rw [if_neg (by rw [← HIN.out]; rintro (h | h) <;> first | omega | cases h), ← HDS.out, HBN.out, ← HE.out.2.2], own_mono (own_below hoO hV) (Nat.le_trans HG00.out.size HB4.out.size), ⟨Lx, hMx.grown hV⟩, grown_trans (gr_of_below (HG00.out.trans (HB4.out.mono HG00.out.size))) (grown_below hGx hV)⟩)
        have HOk := Lib.hid (And.intro hOr hOk)
        have HMX := Lib.hid hMx
        have HGX := Lib.hid hGx
        have HOO := Lib.hid hoO
        clear hOr hOk hMx hGx hoO HO
        by_cases hlt2 : j < m
        · have hltI2 : (j : Int) < (m : Int) := by omega
          obtain ⟨d, hd⟩ : ∃ d, DL[j]? = some d := ⟨_, List.getElem?_eq_getElem (by have := HDL.out.1; omega)⟩
          obtain ⟨x, hzx, hwt⟩ := HDL.out.2 d (List.mem_of_getElem? hd)
          obtain ⟨i, hi⟩ := List.getElem?_of_mem hzx
          rw [List.getElem?_zip_eq_some] at hi
          obtain ⟨hFi, hci⟩ := hi
          have hdo := HF.out.ok d (List.mem_of_getElem? hFi)
          obtain ⟨b, hbc⟩ : ∃ b, a.cb[i]? = some b := ⟨_, List.getElem?_eq_getElem (by rw [HI.out.lb]; exact (List.getElem?_eq_some_iff.1 hFi).1)⟩
          have hroD := HOD.out.kept (row := some mc) HGX.out (by
            cases hv : (Value.slice Al m cl).ownBlock with
            | none => exact .inl rfl
            | some q => exact .inr (fun k => by injection k with k; exact own_neM HOD.out HM4.out.mp q hv k))
          obtain ⟨bf, o, rfl, hbw, hCl⟩ := (own_row hroD).posR dvC_len (by omega) (by have := HDL.out.1; omega)
          have c0 : wr.cell? ⟨bf, o + j * 7, none⟩ = some (.string (dvT d.k)) := rec_cell dvC_len hCl j d hd 0 _ rfl
          have c1 := rec_cell dvC_len hCl j d hd 1 _ rfl
          have c2 := rec_cell dvC_len hCl j d hd 2 _ rfl
          have c3 := rec_cell dvC_len hCl j d hd 3 _ rfl
          have c4 := rec_cell dvC_len hCl j d hd 4 _ rfl
          have c5 := rec_cell dvC_len hCl j d hd 5 _ rfl
          have c7 := rec_cell dvC_len hCl j d hd 6 _ rfl
          have HX := Lib.hid (And.intro hbc (And.intro (show s.cs[i]? = some x by rw [← HE.out.2.1]; exact hci) (And.intro hdo (ixF_at HF.out.ord hFi))))
          have HZX := Lib.hid (And.intro hzx hwt)
          have HCX := Lib.hid (show cxF F cs d = x from by unfold cxF; rw [HX.out.2.2.2, HE.out.2.1]; simp only [Option.bind_some, HX.out.2.1, Option.getD_some])
          have HDJ := Lib.hid hd
          clear hd hzx hwt hFi hci hdo hbc hroD hCl
          go_upto_region 19 with (fail)
          obtain ⟨gx, egx⟩ : ∃ y, y = wr.heap.size := ⟨_, rfl⟩
          obtain ⟨w5, e5⟩ : ∃ V : World, V = wr.alloc (.cells #[.string (dvT d.k), .string (mdT d.md), .string tnT, .int .i64 d.fw.a, .int .i64 d.fw.b, .int .i64 d.fw.c, .slice none 0 0] 67) := ⟨_, rfl⟩
          have hb5 : Below wr.heap.size wr w5 := by rw [e5]; exact (Below.refl _ _).alloc (Nat.le_refl _) _
          have hg5 : w5.heap[gx]? = some (dvB d) := by rw [e5, egx]; exact heap_new wr _
          rw [← egx, ← e5]
          have HB5 := Lib.hid hb5
          have HG5 := Lib.hid hg5
          have HGX5 := Lib.hid (grown_below HGX.out hb5)
          have HMX5 := Lib.hid (HMX.out.grown hb5)
          have HI5 := Lib.hid (HI4.out.grownM HS.out.lc HMC.out HM4.out.ge HM4.out.mp HGX5.out)
          clear egx e5 hb5 hg5 c0 c1 c2 c3 c4 c5 c7
          by_cases hrr : rm - (bn : Int) ≤ (r : Int)
          · go_wp2_with (fail)
            go_ret
            exact HEND.out _ HB5.out (ofR_full hrr _)
          go_upto_region 20 with (fail)
          have hroom : ¬ rm - (bn : Int) ≤ (r : Int) := hrr
          have hmcs : ∀ b ∈ a.all, b ≠ mc := fun b hb e => HMC.out (e ▸ hb)
          have hxv := (HS.out.cu x (List.mem_of_getElem? HX.out.2.1)).v
          have hmc5 : mc < w5.heap.size := HMX5.out.mp.lt
          have hl55 : g5 < w5.heap.size := Nat.lt_of_lt_of_le hl54 HGX5.out.size
          have hg5mc : g5 ≠ mc := by
            intro e
            have h1 := HG54.out
            have h2 : w4.heap[mc]? = some _ := HM4.out.mp
            rw [e, h2] at h1
            cases h1
          have hlgx := (Array.getElem?_eq_some_iff.1 HG5.out).1
          have hgxmc : gx ≠ mc := by
            intro e
            have h1 := HG5.out
            have h2 : w5.heap[mc]? = some _ := HMX5.out.mp
            rw [e, h2] at h1
            cases h1
          have HG55 := Lib.hid ((HGX5.out.block g5 hl54 (by intro e; injection e with e; exact hg5mc e)).trans HG54.out)
          have HKEEP := Lib.hid (fun (V : World) (hV : w5.grownBy V (some mc)) => show V.cell? ⟨g5, 0, none⟩ = some (.pointer (some ⟨a.s, 0, none⟩)) ∧ V.cell? ⟨a.s, 1, none⟩ = some (.map (some a.mo)) ∧ V.cell? ⟨gx, 0, none⟩ = some (.string (dvT d.k)) ∧ V.cell? ⟨gx, 1, none⟩ = some (.string (mdT d.md)) ∧ (Instr.lookup 162 (.map (some a.mo)) (.string (dvT d.k)) false).run Tryz.prog V = .ok (.pointer (some ⟨b, 0, none⟩)) V ∧ V.cell? ⟨b, 2, none⟩ = some (.int .i64 x.v.a) ∧ V.cell? ⟨b, 3, none⟩ = some (.int .i64 x.v.b) ∧ V.cell? ⟨b, 4, none⟩ = some (.int .i64 x.v.c) from by
            have hi := HI5.out.grownM HS.out.lc HMC.out HM4.out.ge HMX5.out.mp hV
            obtain ⟨A6, c6, h1, _⟩ := hi.st
            have h2 := hi.lookC HF6.out HX.out.2.2.1.k false
            rw [HX.out.2.2.2] at h2
            simp only [Option.bind_some, HX.out.1, Option.map_some, Option.getD_some] at h2
            have h3 := (hV.block g5 hl55 (by intro e; injection e with e; exact hg5mc e)).trans HG55.out
            have h4 := (hV.block gx hlgx (by intro e; injection e with e; exact hgxmc e)).trans HG5.out
            have h5 := hi.cu i b x HX.out.1 HX.out.2.1
            exact ⟨cell_of_blk (j := 0) h3 rfl, cell_of_blk (j := 1) h1 rfl, cell_of_blk (j := 0) h4 rfl, cell_of_blk (j := 1) h4 rfl, h2, cell_of_blk (j := 2) h5 rfl, cell_of_blk (j := 3) h5 rfl, cell_of_blk (j := 4) h5 rfl⟩)
          have HFW := Lib.hid (fun (V : World) (Lq : SmL) (hV : WyM B L C.t AL NL CL gw mc Lq V) => show Calls Tryz.prog 123 #[.pointer (some ⟨gw, 0, none⟩), .string (mdT d.md), veV x.v] V (fun e w' => @FwP ⟨d.md, HX.out.2.2.1.md⟩ L x.v C.t AL NL CL gw mc B V e w') from (@first_any ⟨d.md, HX.out.2.2.1.md⟩ L x.v C.t AL NL CL gw mc B Lq V HL.out HN.out.2 hxv HC.out.t hV).mono (fun e w' h => @im_fw ⟨d.md, HX.out.2.2.1.md⟩ _ _ _ _ _ _ _ _ _ _ _ _ h))
          unfold veV at HFW
          go_cut [19, 20] (fun s u wx => @OrR ⟨d.md, HX.out.2.2.1.md⟩ L x.v C.t AL NL CL gw mc B w5 s u wx)
          case first =>
            have hK0 : w5.grownBy w5.drew (some mc) := ⟨rfl, rfl, rfl, Nat.le_refl _, fun _ _ _ => rfl⟩
            have hK1 : w5.grownBy (w5.alloc (.cells #[.int .i64 0, .int .i64 0, .int .i64 0, .slice none 0 0, .slice none 0 0, .int .i64 0] 91 (0, 0))).drew (some mc) := grown_below hK0 ((Below.refl _ _).alloc (Nat.le_refl _) (.cells #[.int .i64 0, .int .i64 0, .int .i64 0, .slice none 0 0, .slice none 0 0, .int .i64 0] 91 (0, 0)))
            have hK2 : w5.grownBy (w5.drew.alloc (.cells #[.int .i64 0, .int .i64 0, .int .i64 0, .slice none 0 0, .slice none 0 0, .int .i64 0] 91 (0, 0))) (some mc) := grown_below hK0 ((Below.refl _ _).alloc (Nat.le_refl _) (.cells #[.int .i64 0, .int .i64 0, .int .i64 0, .slice none 0 0, .slice none 0 0, .int .i64 0] 91 (0, 0)))
            have hM0 : WyM B L C.t AL NL CL gw mc Lx w5.drew := HMX5.out.grown ((Below.refl _ _).drew)
            have hM1 : WyM B L C.t AL NL CL gw mc Lx (w5.alloc (.cells #[.int .i64 0, .int .i64 0, .int .i64 0, .slice none 0 0, .slice none 0 0, .int .i64 0] 91 (0, 0))).drew := HMX5.out.grown (((Below.refl _ _).alloc (Nat.le_refl _) (.cells #[.int .i64 0, .int .i64 0, .int .i64 0, .slice none 0 0, .slice none 0 0, .int .i64 0] 91 (0, 0))).drew)
            have hM2 : WyM B L C.t AL NL CL gw mc Lx (w5.drew.alloc (.cells #[.int .i64 0, .int .i64 0, .int .i64 0, .slice none 0 0, .slice none 0 0, .int .i64 0] 91 (0, 0))) := hM0.grown ((Below.refl _ _).alloc (Nat.le_refl _) (.cells #[.int .i64 0, .int .i64 0, .int .i64 0, .slice none 0 0, .slice none 0 0, .int .i64 0] 91 (0, 0)))
            go_region_held3 (fun V => V.cell? ⟨g5, 0, none⟩ = some (.pointer (some ⟨a.s, 0, none⟩)) ∧ V.cell? ⟨a.s, 1, none⟩ = some (.map (some a.mo)) ∧ V.cell? ⟨gx, 0, none⟩ = some (.string (dvT d.k)) ∧ V.cell? ⟨gx, 1, none⟩ = some (.string (mdT d.md)) ∧ (Instr.lookup 162 (.map (some a.mo)) (.string (dvT d.k)) false).run Tryz.prog V = .ok (.pointer (some ⟨b, 0, none⟩)) V ∧ V.cell? ⟨b, 2, none⟩ = some (.int .i64 x.v.a) ∧ V.cell? ⟨b, 3, none⟩ = some (.int .i64 x.v.b) ∧ V.cell? ⟨b, 4, none⟩ = some (.int .i64 x.v.c))
              (first | (with_reducible exact hS) | (with_reducible exact HKEEP.out _ hK0) | (with_reducible exact HKEEP.out _ hK1) | (with_reducible exact HKEEP.out _ hK2) | (with_reducible exact HKEEP.out _ (zg_set6 hG1 hg1 _ _ _ _ _ _)) | (with_reducible exact HKEEP.out _ (grown_below hG1 ((Below.refl _ _).alloc (Nat.le_refl _) _))) | go_keep)
              (first
                | (go_at_call 123; (first
                  | ((with_reducible refine (HFW.out _ _ hM0).mono ?_); rintro e wA ⟨q0, q1, q2, A3, A4, n3, c3, n4, c4, q5, ok, rfl, hP, ⟨Ly, hMy⟩, hbA⟩; have hG1 := grown_trans hK0 hbA; have hS := HKEEP.out wA hG1)
                  | ((with_reducible refine (HFW.out _ _ hM1).mono ?_); rintro e wA ⟨q0, q1, q2, A3, A4, n3, c3, n4, c4, q5, ok, rfl, hP, ⟨Ly, hMy⟩, hbA⟩; have hG1 := grown_trans hK1 hbA; have hS := HKEEP.out wA hG1; have hg1 := Nat.le_refl w5.heap.size; have hZ1 := zg_new (w := w5) hmc5 ⟨hbA.os, hbA.tape, hbA.output, hbA.size, hbA.block⟩; have z0 := cell_of_blk (j := 0) hZ1 rfl; have z1 := cell_of_blk (j := 1) hZ1 rfl; have z2 := cell_of_blk (j := 2) hZ1 rfl; have z3 := cell_of_blk (j := 3) hZ1 rfl; have z4 := cell_of_blk (j := 4) hZ1 rfl; have z5 := cell_of_blk (j := 5) hZ1 rfl; have f0 := zz_froz hZ1 0; have f1 := zz_froz hZ1 1; have f2 := zz_froz hZ1 2; have f3 := zz_froz hZ1 3; have f4 := zz_froz hZ1 4; have f5 := zz_froz hZ1 5)
                  | ((with_reducible refine (HFW.out _ _ hM2).mono ?_); rintro e wA ⟨q0, q1, q2, A3, A4, n3, c3, n4, c4, q5, ok, rfl, hP, ⟨Ly, hMy⟩, hbA⟩; have hG1 := grown_trans hK2 hbA; have hS := HKEEP.out wA hG1; have hg1 := Nat.le_refl w5.heap.size; have hZ1 := zg_new (w := w5) hmc5 ⟨hbA.os, hbA.tape, hbA.output, hbA.size, hbA.block⟩; have z0 := cell_of_blk (j := 0) hZ1 rfl; have z1 := cell_of_blk (j := 1) hZ1 rfl; have z2 := cell_of_blk (j := 2) hZ1 rfl; have z3 := cell_of_blk (j := 3) hZ1 rfl; have z4 := cell_of_blk (j := 4) hZ1 rfl; have z5 := cell_of_blk (j := 5) hZ1 rfl; have f0 := zz_froz hZ1 0; have f1 := zz_froz hZ1 1; have f2 := zz_froz hZ1 2; have f3 := zz_froz hZ1 3; have f4 := zz_froz hZ1 4; have f5 := zz_froz hZ1 5))))
            · have HS1 := Lib.hid (show @OrR ⟨d.md, HX.out.2.2.1.md⟩ L x.v C.t AL NL CL gw mc B w5 (.pointer (some ⟨wA.heap.size, 0, none⟩)) (.bool ok) (wA.alloc (.cells #[.int .i64 q0, .int .i64 q1, .int .i64 q2, .slice A3 n3 c3, .slice A4 n4 c4, .int .i64 q5] 91 (0, 0))) from
                ⟨wA.heap.size, q0, q1, q2, A3, A4, n3, c3, n4, c4, q5, ok, rfl, rfl, hG1.size, zz_heap _ _, hP, ⟨Ly, hMy.grown ((Below.refl _ _).alloc (Nat.le_refl _) _)⟩, grown_below hG1 ((Below.refl _ _).alloc (Nat.le_refl _) _)⟩)
              clear hP hMy hbA hS hG1 hK0 hK1 hK2 hM0 hM1 hM2
              go_wp2_with (fail)
              go_meet
              exact HS1.out
            · have HS1 := Lib.hid (show @OrR ⟨d.md, HX.out.2.2.1.md⟩ L x.v C.t AL NL CL gw mc B w5 (.pointer (some ⟨w5.heap.size, 0, none⟩)) (.bool ok) ((((((wA.setCell ⟨w5.heap.size, 0, none⟩ (.int .i64 q0)).setCell ⟨w5.heap.size, 1, none⟩ (.int .i64 q1)).setCell ⟨w5.heap.size, 2, none⟩ (.int .i64 q2)).setCell ⟨w5.heap.size, 3, none⟩ (.slice A3 n3 c3)).setCell ⟨w5.heap.size, 4, none⟩ (.slice A4 n4 c4)).setCell ⟨w5.heap.size, 5, none⟩ (.int .i64 q5)) from
                ⟨w5.heap.size, q0, q1, q2, A3, A4, n3, c3, n4, c4, q5, ok, rfl, rfl, Nat.le_refl _, im_set6 _ _ _ _ _ _ hZ1, hP, ⟨Ly, hMy.asideB hZ1 (by decide) HMX5.out.sz (im_below (Below.refl 0 wA) (Nat.zero_le _) _ _ _ _ _ _).size (fun b _ hb => im_ne _ _ _ _ _ _ _ _ b hb)⟩, zg_set6 hG1 hg1 _ _ _ _ _ _⟩)
              clear hP hMy hbA hS hG1 z0 z1 z2 z3 z4 z5 f0 f1 f2 f3 f4 f5 hZ1 hg1 hK0 hK1 hK2 hM0 hM1 hM2
              go_wp2_with (fail)
              go_meet
              exact HS1.out
            · have HS1 := Lib.hid (show @OrR ⟨d.md, HX.out.2.2.1.md⟩ L x.v C.t AL NL CL gw mc B w5 (.pointer (some ⟨w5.heap.size, 0, none⟩)) (.bool ok) ((((((wA.setCell ⟨w5.heap.size, 0, none⟩ (.int .i64 q0)).setCell ⟨w5.heap.size, 1, none⟩ (.int .i64 q1)).setCell ⟨w5.heap.size, 2, none⟩ (.int .i64 q2)).setCell ⟨w5.heap.size, 3, none⟩ (.slice A3 n3 c3)).setCell ⟨w5.heap.size, 4, none⟩ (.slice A4 n4 c4)).setCell ⟨w5.heap.size, 5, none⟩ (.int .i64 q5)) from
                ⟨w5.heap.size, q0, q1, q2, A3, A4, n3, c3, n4, c4, q5, ok, rfl, rfl, Nat.le_refl _, im_set6 _ _ _ _ _ _ hZ1, hP, ⟨Ly, hMy.asideB hZ1 (by decide) HMX5.out.sz (im_below (Below.refl 0 wA) (Nat.zero_le _) _ _ _ _ _ _).size (fun b _ hb => im_ne _ _ _ _ _ _ _ _ b hb)⟩, zg_set6 hG1 hg1 _ _ _ _ _ _⟩)
              clear hP hMy hbA hS hG1 z0 z1 z2 z3 z4 z5 f0 f1 f2 f3 f4 f5 hZ1 hg1 hK0 hK1 hK2 hM0 hM1 hM2
              go_wp2_with (fail)
              go_meet
              exact HS1.out
          case rest =>
          obtain ⟨g, q0, q1, q2, A3, A4, n3, c3, n4, c4, q5, ok, rfl, rfl, hge, hg, hP, ⟨Ly, hMy⟩, hgw⟩ := hcut
          obtain ⟨w6, rfl⟩ : ∃ wy : World, wy = wc := ⟨_, rfl⟩
          have hlg := (Array.getElem?_eq_some_iff.1 hg).1
          have hro5 := own_below HOO.out HB5.out
          have HRO := Lib.hid (hro5.kept (row := some mc) hgw (by
            cases hv : (Value.slice Ao r co).ownBlock with
            | none => exact .inl rfl
            | some q => exact .inr (fun k => by injection k with k; exact own_neM hro5 HMX5.out.mp q hv k)))
          have HG6 := Lib.hid hg
          have HGW := Lib.hid (grown_trans HGX5.out hgw)
          have HMY := Lib.hid hMy
          have HPP := Lib.hid hP
          have hx6 := (hgw.block gx hlgx (by intro e; injection e with e; exact hgxmc e)).trans HG5.out
          have hlx6 := (Array.getElem?_eq_some_iff.1 hx6).1
          have HX6 := Lib.hid hx6
          clear hg hro5 hgw hMy hP hx6 HKEEP HFW
          cases ok with
          | false =>
            go_wp2_with (fail)
            go_roundw
            case rel => exact ⟨j + 1, r, co, Ao, by omega, by omega, by go_num, rfl, Lib.hid ⟨O, Ly, HOk.out.1, HOk.out.2, HMY.out, HGW.out, HRO.out, by
              rw [← HOF.out]
              obtain ⟨ro, h1, h2, _⟩ := HPP.out
              have h3 : ro = none := by cases ro with | none => rfl | some z => cases h2
              rw [h3] at h1
              rw [ofR_no HDJ.out hroom (by rw [HCX.out]; exact frU_eq HX.out.2.2.1.md h1)]⟩⟩
            case measure => simp [intOf]; omega
          | true =>
            have k0 := cell_of_blk (j := 0) HX6.out rfl
            have k1 := cell_of_blk (j := 0) HG6.out rfl
            have k2 := cell_of_blk (j := 1) HG6.out rfl
            have k3 := cell_of_blk (j := 2) HG6.out rfl
            have k4 := cell_of_blk (j := 5) HG6.out rfl
            have k5 := cell_of_blk (j := 3) HG6.out rfl
            have k6 := cell_of_blk (j := 4) HG6.out rfl
            obtain ⟨y, ey⟩ : ∃ y : Ofr, y = ⟨d.k, ⟨q0, q1, q2⟩, q5⟩ := ⟨_, rfl⟩
            have hyC : ofC y = [.string (dvT d.k), .int .i64 q0, .int .i64 q1, .int .i64 q2, .int .i64 q5] := by rw [ey]; rfl
            obtain ⟨w7, e7⟩ : ∃ V : World, V = w6.alloc (.cells #[.string (dvT d.k), .int .i64 q0, .int .i64 q1, .int .i64 q2, .int .i64 q5] 83) := ⟨_, rfl⟩
            have hba : Below w6.heap.size w6 w7 := by rw [e7]; exact (Below.refl _ _).alloc (Nat.le_refl _) _
            have h7 : w7.heap[w6.heap.size]? = some (.cells #[.string (dvT d.k), .int .i64 q0, .int .i64 q1, .int .i64 q2, .int .i64 q5] 83 (0, 0)) := by rw [e7]; exact zz_heap _ _
            have HC7 := Lib.hid (show Cells w7 w6.heap.size 0 (ofC y) from by rw [hyC, e7]; exact Cells.new _ _ _ _ _ rfl)
            have HAL := Lib.hid (own_below HRO.out hba)
            have HG7 := Lib.hid (grown_below HGW.out hba)
            have HM7 := Lib.hid (HMY.out.grown hba)
            have hs6 := HGW.out.size
            have HIMX := Lib.hid (show ∃ im ∈ @tak ⟨d.md, HX.out.2.2.1.md⟩ L x.v, im.v = ⟨q0, q1, q2⟩ from by
              obtain ⟨ro, h1, h2, h3⟩ := HPP.out
              cases ro with
              | none => cases h2
              | some z => exact ⟨z, (h3 z rfl).1, (h3 z rfl).2.1⟩)
            have HOFY := Lib.hid (show (O ++ [y]) ++ ofR L C.t F cs (rm - (bn : Int)) (DL.drop (j + 1)) ((r : Int) + 1) = ofR L C.t F cs (rm - (bn : Int)) DL 0 from by
              obtain ⟨ro, h1, h2, h3⟩ := HPP.out
              cases ro with
              | none => cases h2
              | some z =>
                obtain ⟨_, h5, h6⟩ := h3 z rfl
                have h7 := HOF.out
                rw [ofR_yes HDJ.out hroom (by rw [HCX.out]; exact frU_eq HX.out.2.2.1.md h1), h5, h6, ← ey] at h7
                rw [List.append_assoc]
                exact h7)
            have HOY := Lib.hid (show OfOk C F be cs L (O ++ [y]) from by
              refine ⟨fun z hz => ?_, fun _ => ?_⟩
              · rcases List.mem_append.1 hz with h | h
                · exact HOk.out.2.1 z h
                · rw [List.mem_singleton] at h
                  subst h
                  have hw := HZX.out.2
                  unfold wtB at hw
                  simp only [Bool.and_eq_true, Bool.not_eq_true', decide_eq_true_eq] at hw
                  obtain ⟨im, him, hiv⟩ := HIMX.out
                  exact ⟨d, x, HZX.out.1, by rw [ey], hw.1, hw.2.1, HX.out.2.2.1.md, im, him, by rw [ey]; exact hiv⟩
              · rw [List.length_append, HOk.out.1, HBN.out, ← HE.out.2.2]
                simp only [List.length_singleton]
                omega)
            have HYC := Lib.hid hyC
            clear hba h7 ey hyC
            subst e7
            have hbs : w4.heap.size ≤ (w6.alloc (.cells #[.string (dvT d.k), .int .i64 q0, .int .i64 q1, .int .i64 q2, .int .i64 q5] 83)).heap.size := HG7.out.size
            go_wp2_with (at_builtin; refine wpList_append_own2 _ rfl _ _ 72 rfl w4.heap.size 83 io0 _ 5 48 Tryz.underlying72 hio0 hzo0 hzo1 hzo2 rfl (by decide) _ _ _ rfl HAL.out ⟨_, 0, none⟩ 1 1 (ofC y) rfl rfl ?c1 ?c2 ?c3 ?c4 ?c5 ?_)
            case c1 => exact fun j u h => by rw [HYC.out] at h; exact h
            case c2 => exact ofC_one y
            case c3 => unfold maxLen; omega
            case c4 => omega
            case c5 => omega
            intro v13 w13 ho13 hg13 hm13
            obtain ⟨A3, c3, rfl⟩ := own_slice ho13
            have HR3 := Lib.hid (show ∃ (O : List Ofr) (Lc : SmL), O.length = r + 1 ∧ OfOk C F be cs L O ∧ WyM B L C.t AL NL CL gw mc Lc w13 ∧ w4.grownBy w13 (some mc) ∧ w13.ownsRow w4.heap.size 83 5 (.slice A3 (r + 1) c3) (r + 1) (recs ofC O) ∧ O ++ ofR L C.t F cs (rm - (bn : Int)) (DL.drop (j + 1)) ((r + 1 : Nat) : Int) = ofR L C.t F cs (rm - (bn : Int)) DL 0 from
              ⟨O ++ [y], Ly, by rw [List.length_append, HOk.out.1]; rfl, HOY.out, HM7.out.ownG HAL.out (by decide) HI4.out.sz hg13, grown_over HG7.out ((Below.refl _ _).grown hg13 hbs (fun q hq => (HAL.out.lt q hq).1)), by
                have e : recs ofC (O ++ [y]) = recs ofC O ++ ofC y := by simp [recs]
                rw [e]; exact ho13, by rw [show ((r + 1 : Nat) : Int) = (r : Int) + 1 by omega]; exact HOFY.out⟩)
            clear ho13 hg13 hm13 hbs HAL HC7 HG7 HM7 k0 k1 k2 k3 k4 k5 k6
            go_wp2_with (fail)
            go_roundw
            case rel => exact ⟨j + 1, r + 1, c3, A3, by omega, by omega, by go_num, rfl, HR3⟩
            case measure => simp [intOf]; omega
        · have hltI2 : ¬ (j : Int) < (m : Int) := by omega
          go_wp2_with (fail)
          go_ret
          exact HEND.out _ (Below.refl _ _) (by rw [List.drop_eq_nil_of_le (by have := HDL.out.1; omega)]; rfl)
end Go.Proofs.YtidgicbhgnbidaaGreatDoor
