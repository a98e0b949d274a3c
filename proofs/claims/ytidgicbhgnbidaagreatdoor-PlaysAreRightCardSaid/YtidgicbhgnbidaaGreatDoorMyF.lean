/- Next, way and Way: the versions that come next, and the ways, by their contracts. Printed by mdl.py out of gen_WyF.py. Changed by mdl2.py. -/
import Derived.Test.YtidgicbhgnbidaaGreatDoorMyE
import Derived.Test.YtidgicbhgnbidaaGreatDoorMyC
import Derived.BigRegion
import Derived.Deep.RegionLawGrows
namespace Go.Proofs.YtidgicbhgnbidaaGreatDoor
open Go.RowKit

theorem Tryz.infoVe : (Tryz.prog.info? 29).map (fun i => (i.zero, i.size, i.bytes)) = some (some (.agg #[.int .i64 0, .int .i64 0, .int .i64 0]), 3, 24) := by kernel_rfl
def tkV [Mdl] (L : List Im) (v : Ve) : List Ve := (tak L v).map (·.v)
def NexPost [Mdl] (L : List Im) (v : Ve) (w : World) (e : Ending) (w' : World) : Prop :=
  ∃ (A : Option Addr) (c n : Nat), n = (tkV L v).length ∧ e = .returned (.tuple #[.slice A n c, .int .i64 0]) ∧ w'.ownsRow w.heap.size 29 3 (.slice A n c) n (recs veC (tkV L v)) ∧ Below w.heap.size w w'
theorem tak_len [Mdl] {L : List Im} {v : Ve} : (tak L v).length ≤ L.length := List.length_filter_le _ _
set_option maxRecDepth 100000 in
set_option maxHeartbeats 4000000 in
theorem next_im [Mdl] (L : List Im) (v : Ve) (N C : Nat) (AL : Option Addr) (w : World) (hI : ImsI w w.heap.size AL L) (hN : L.length = N) (hL : ImsOk L) (hv : VeOk v) :
    Calls Tryz.prog 15 #[.slice AL N C, .string (mdT Mdl.j), veV v] w fun e w' => NexPost L v w e w' := by
  obtain ⟨iv0, hiv0, hzv0, hzv1, hzv2⟩ := info_parts Tryz.infoVe
  have hN8 : N ≤ 8 := by have := hL.len; omega
  obtain ⟨g5, eg5⟩ : ∃ g, g = w.heap.size := ⟨_, rfl⟩
  obtain ⟨w0, e0⟩ : ∃ V : World, V = w.alloc (veB v) := ⟨_, rfl⟩
  have hb0 : Below w.heap.size w w0 := by rw [e0]; exact (Below.refl _ _).alloc (Nat.le_refl _) _
  have hg0 : w0.heap[g5]? = some (veB v) := by rw [e0, eg5]; exact heap_new w _
  have hl0 := (Array.getElem?_eq_some_iff.1 hg0).1
  have HI := Lib.hid (hI.up hb0)
  have HB0 := Lib.hid hb0
  have HG0 := Lib.hid hg0
  have HN := Lib.hid hN
  have HL := Lib.hid hL
  have HV := Lib.hid hv
  obtain ⟨w1, e1⟩ : ∃ V : World, V = w0.alloc (.cells #[.int .i64 v.a, .int .i64 v.b, .int .i64 v.c] 29) := ⟨_, rfl⟩
  have hb1 : Below w0.heap.size w0 w1 := by rw [e1]; exact (Below.refl _ _).alloc (Nat.le_refl _) _
  have hr1 : Row w1 w1.heap.size (some ⟨w0.heap.size, 0, none⟩) (recs veC [v]) := .inr ⟨w0.heap.size, 0, rfl, by rw [e1]; simp, by
    rw [e1]
    exact Cells.new _ _ _ _ _ rfl⟩
  have HMF := Lib.hid (modelFault_any L N C AL [v] 1 1 (some ⟨w0.heap.size, 0, none⟩) w1 (HI.out.up hb1) hN hL rfl (by omega) hr1 (by intro u hu; rw [List.mem_singleton] at hu; rw [hu]; exact hv))
  have HB1 := Lib.hid hb1
  have q0 := cell_of_blk (j := 0) hg0 rfl
  have q1 := cell_of_blk (j := 1) hg0 rfl
  have q2 := cell_of_blk (j := 2) hg0 rfl
  unfold veB at e0
  unfold veV
  clear hb0 hg0 hN hL hv hI hb1 hr1
  go_enter Tryz.func15, Tryz.ntmps15
  go_upto_region 1 with (fail)
  rw [← eg5, ← e0]
  clear e0 eg5
  go_wp2_with (fail)
  rw [← e1]
  clear e1
  refine HMF.out.mono ?_
  rintro e w2 ⟨rfl, hb2⟩
  have HB2 := Lib.hid (HB1.out.trans (hb2.mono HB1.out.size))
  have hg2 := (HB2.out.block g5 hl0).trans HG0.out
  have HI2 := Lib.hid (HI.out.up HB2.out)
  have HTK := Lib.hid (taken_any L v N C AL w2 HI2.out HN.out HL.out HV.out)
  unfold TakPost veV at HTK
  have hl2 := (Array.getElem?_eq_some_iff.1 hg2).1
  clear q0 q1 q2 hb2 HMF
  have q0 := cell_of_blk (j := 0) hg2 rfl
  have q1 := cell_of_blk (j := 1) hg2 rfl
  have q2 := cell_of_blk (j := 2) hg2 rfl
  clear hg2
  go_wp2_with (fail)
  refine HTK.out.mono ?_
  rintro e w3 ⟨A3, c3, n3, hn3, rfl, ho3, hb3⟩
  have HR := Lib.hid (own_row ho3)
  have HI3 := Lib.hid (HI2.out.up hb3)
  have HB3 := Lib.hid (HB2.out.trans (hb3.mono HB2.out.size))
  have hn38 : n3 ≤ 8 := by have := HL.out.len; have := @tak_len _ L v; omega
  have HN3 := Lib.hid hn3
  clear q0 q1 q2 ho3 hb3 hn3 HTK hl2
  go_wp2_with (fail)
  go_loopw [9, 25] (fun s u wx => ∃ (k : Nat) (A : Option Addr) (c : Nat), k ≤ n3 ∧ u = .int .i64 (k : Int) ∧ s = .slice A k c ∧ Hid (wx.ownsRow w3.heap.size 29 3 (.slice A k c) k (recs veC ((tkV L v).take k)) ∧ Below w3.heap.size w3 wx)) (fun _ u _ => n3 - (intOf u).toNat)
  case atStart => exact ⟨0, none, 0, Nat.zero_le _, rfl, rfl, Lib.hid ⟨World.ownsRow_nil _ _ _ _, Below.refl _ _⟩⟩
  case round =>
    obtain ⟨k, A, c, hk, rfl, rfl, HQ⟩ := hrel
    by_cases hlt : k < n3
    · have hltI : (k : Int) < (n3 : Int) := by omega
      obtain ⟨x, hx⟩ : ∃ x, (tak L v)[k]? = some x := ⟨_, List.getElem?_eq_getElem (by have := HN3.out; omega)⟩
      obtain ⟨b, o, rfl, hbw, hC⟩ := (HR.out.below HQ.out.2).posR imC_len (by omega) (by have := HN3.out; omega)
      have hbr : b < wr.heap.size := by have := HQ.out.2.size; omega
      have c0 : wr.cell? ⟨b, o + k * 6, none⟩ = some (.int .i64 x.v.a) := rec_cell imC_len hC k x hx 0 _ rfl
      have c1 := rec_cell imC_len hC k x hx 1 _ rfl
      have c2 := rec_cell imC_len hC k x hx 2 _ rfl
      have c3 := rec_cell imC_len hC k x hx 3 _ rfl
      have c4 := rec_cell imC_len hC k x hx 4 _ rfl
      have c5 := rec_cell imC_len hC k x hx 5 _ rfl
      have HE := Lib.hid (show (tkV L v).take (k + 1) = (tkV L v).take k ++ [x.v] from by
        unfold tkV
        rw [List.take_add_one, List.getElem?_map, hx]
        rfl)
      clear hC hx
      go_upto_region 8 with (fail)
      obtain ⟨gx, egx⟩ : ∃ y, y = wr.heap.size := ⟨_, rfl⟩
      obtain ⟨w4, e4⟩ : ∃ V : World, V = wr.alloc (.cells #[.int .i64 x.v.a, .int .i64 x.v.b, .int .i64 x.v.c, .slice x.ma x.mo.length x.mc, .slice x.fa x.rs.length x.fc, .int .i64 x.sz] 91) := ⟨_, rfl⟩
      have hb4 : Below wr.heap.size wr w4 := by rw [e4]; exact (Below.refl _ _).alloc (Nat.le_refl _) _
      have hg4 : w4.heap[gx]? = some (imB x) := by rw [e4, egx]; exact heap_new wr _
      rw [← egx, ← e4]
      have hl4 := (Array.getElem?_eq_some_iff.1 hg4).1
      have q0 := cell_of_blk (j := 0) hg4 rfl
      have q1 := cell_of_blk (j := 1) hg4 rfl
      have q2 := cell_of_blk (j := 2) hg4 rfl
      have hba : Below w4.heap.size w4 (w4.alloc (.cells #[.int .i64 x.v.a, .int .i64 x.v.b, .int .i64 x.v.c] 29)) := (Below.refl _ _).alloc (Nat.le_refl _) _
      have HAL := Lib.hid (own_below (own_below HQ.out.1 hb4) hba)
      have HBA := Lib.hid ((HQ.out.2.trans (hb4.mono HQ.out.2.size)).trans (hba.mono (by have := HQ.out.2.size; have := hb4.size; omega)))
      have hbs := HBA.out.size
      have hbs2 := HQ.out.2.size
      have hbs3 := hb4.size
      clear egx e4 hb4 hg4 c0 c1 c2 c3 c4 c5 hbr hba
      go_wp2_with (at_builtin; refine wpList_append_own2 _ rfl _ _ 33 rfl w3.heap.size 29 iv0 _ 3 24 Tryz.underlying33 hiv0 hzv0 hzv1 hzv2 rfl (by decide) _ _ _ rfl HAL.out ⟨_, 0, none⟩ 1 1 (veC x.v) rfl rfl ?c1 ?c2 ?c3 ?c4 ?c5 ?_)
      case c1 => first | exact fun j u h => h | exact cells_add (cells_atV (by rfl) rfl)
      case c2 => exact veC_one x.v
      case c3 => unfold maxLen; omega
      case c4 => omega
      case c5 => first | exact hbs | omega
      intro v13 w13 ho13 hg13 hm13
      obtain ⟨A4, c4, rfl⟩ := own_slice ho13
      have HQ3 := Lib.hid (show w13.ownsRow w3.heap.size 29 3 (.slice A4 (k + 1) c4) (k + 1) (recs veC ((tkV L v).take (k + 1))) ∧ Below w3.heap.size w3 w13 from ⟨by
        have e : recs veC ((tkV L v).take (k + 1)) = recs veC ((tkV L v).take k) ++ veC x.v := by rw [HE.out]; simp [recs]
        rw [e]; exact ho13, HBA.out.grown hg13 HBA.out.size (fun q hq => (HAL.out.lt q hq).1)⟩)
      clear ho13 hg13 hm13 hbs hbs2 hbs3 HAL HBA q0 q1 q2
      go_wp2_with (fail)
      go_roundw
      case rel => exact ⟨k + 1, A4, c4, by omega, by go_num, rfl, HQ3⟩
      case measure => simp [intOf]; omega
    · have hltI : ¬ (k : Int) < (n3 : Int) := by omega
      have hln : (tkV L v).length = n3 := by unfold tkV; rw [List.length_map]; exact HN3.out.symm
      have HF := Lib.hid (show NexPost L v w (.returned (.tuple #[.slice A k c, .int .i64 0])) wr from by
        have hkn : k = n3 := by omega
        have hb := HB0.out.trans (HB3.out.mono HB0.out.size)
        refine ⟨A, c, k, by omega, rfl, ?_, hb.trans (HQ.out.2.mono hb.size)⟩
        have h := HQ.out.1
        rw [List.take_of_length_le (by omega)] at h
        exact own_mono h hb.size)
      clear hln
      go_wp2_with (fail)
      refine bodyPost_ret (v := .tuple #[.slice A k c, .int .i64 0]) (by simp [results, Tryz.results15, go_sem]) rfl ?_
      exact HF.out
theorem own_keepV {w w' : World} {base : Nat} {e : TypeId} {size n : Nat} {v : Value} {xs : List Value} (h : w.ownsRow base e size v n xs) (hk : ∀ b, base ≤ b → b < w.heap.size → w'.heap[b]? = w.heap[b]?) : w'.ownsRow base e size v n xs := by
  refine ⟨h.1, ?_⟩
  rcases h.2 with h | ⟨g, cap, cur, hv, hb, hh, r⟩
  · exact .inl h
  · exact .inr ⟨g, cap, cur, hv, hb, (hk g hb (Array.getElem?_eq_some_iff.1 hh).1).trans hh, r⟩
/-- An append to an owned row as a step of a drawn region; where the row lies behind it. -/
theorem step_append_rowV {P : Program} {ops : Array Oper} {o : Oper} {a : Act} {w : World} {K : Act → World → Prop} {Q : Exit → Act → World → Prop} {E : Prop}
    (hg : o.guard = none) (s x : Operand) (t : TypeId) (hop : o.op = Op.call { callee := Callee.builtin Builtin.append, args := #[s, x], argTypes := #[t, t] })
    (base : Nat) (e : TypeId) (i : TypeInfo) (z : Value) (size bytes : Nat) (h1 : P.underlying t = some (.slice e)) (h2 : P.info? e = some i) (h3 : i.zero = some z) (h4 : i.size = size) (h5 : i.bytes = bytes) (h6 : z.cells.size = size) (h7 : 0 < size)
    (v : Value) (n : Nat) (xs : List Value) (hs : a.eval s = v) (hown : w.ownsRow base e size v n xs)
    (ad : Addr) (m c : Nat) (news : List Value) (hx : a.eval x = .slice (some ad) m c) (hn : news.length = m * size) (hc : ∀ j u, news[j]? = some u → w.cell? (ad.add j) = some u) (h1c : ∀ u ∈ news, u.oneCell' = true)
    (b1 : n + m ≤ maxLen) (b2 : (n + m) * bytes ≤ 140737488355328) (hb : base ≤ w.heap.size)
    (hK : ∀ v' w', w'.ownsRow base e size v' (n + m) (xs ++ news) → w.grownBy w' v.ownBlock → Moved w v v' → K (a.put o.dst v') w') :
    if Region.wanted o (yielded ops a.tmps) = true then Oper.wp P o a w K Q else E := by
  have hw : Region.wanted o (yielded ops a.tmps) = true := by simp [Region.wanted, hg]
  rw [if_pos hw]
  obtain ⟨v', w', hrun, r1, r2, r3⟩ := run_append_own2 (P := P) w base t o.type e i z size bytes h1 h2 h3 h4 h5 h6 h7 v n xs hown ad m c news hn hc h1c b1 b2 hb
  unfold Oper.wp
  simp [execOp, hop, resolve, invoke, builtin, hs, hx, hrun, Result.andThen]
  exact hK v' w' r1 r2 r3
/-- The first version of a way. -/
def FsV [Mdl] (T : VmL) (L : List Im) (v t : Ve) (l : List Ve) (u : Ve) : Prop := (l = [] ∧ u = v) ∨ (v ≠ t ∧ ∃ z b, nxB T (tak L v) = some (z, b) ∧ l.head? = some z.v)
/-- The best next image so far. -/
def NbOk (T : VmL) (l : List Im) (fd : Bool) (nx : Ve) (bs : Co) : Prop := (nxB T l = none ∧ fd = false) ∨ ∃ z, nxB T l = some (z, bs) ∧ fd = true ∧ nx = z.v
theorem nxF_none {T : VmL} {s : Option (Im × Co)} {y : Im} (h : vmG y.v T = none) : nxF T s y = s := by unfold nxF; rw [h]
theorem nxF_one {T : VmL} {y : Im} {d : Co} (h : vmG y.v T = some d) : nxF T none y = some (y, nxC d y) := by unfold nxF; rw [h]
theorem nxF_some {T : VmL} {y z : Im} {d b : Co} (h : vmG y.v T = some d) : nxF T (some (z, b)) y = if cmpC (nxC d y) b < 0 then some (y, nxC d y) else some (z, b) := by unfold nxF; rw [h]
theorem NbOk.no {T : VmL} {l : List Im} {j : Nat} {y : Im} {fd hY : Bool} {nx : Ve} {bs d0 nc : Co} (h : NbOk T (l.take j) fd nx bs) (hy : l[j]? = some y) (h1 : hY = (vmG y.v T).isSome) (h2 : d0 = (vmG y.v T).getD (0, 0)) (h3 : nc = nxC d0 y) (h4 : false = (hY && (!fd || decide (cmpC nc bs < 0)))) : NbOk T (l.take (j + 1)) fd nx bs := by
  unfold NbOk
  rw [nxB_snoc hy]
  cases hd : vmG y.v T with
  | none => rw [nxF_none hd]; exact h
  | some d =>
    rw [hd] at h1 h2
    have e1 : d0 = d := h2
    have e2 : hY = true := h1
    rw [e2, Bool.true_and] at h4
    rw [e1] at h3
    rw [h3] at h4
    rcases h with ⟨a, b⟩ | ⟨z, a, b, c⟩
    · rw [b] at h4; simp at h4
    · rw [b] at h4
      have h5 : ¬ cmpC (nxC d y) bs < 0 := by simpa using h4
      rw [a, nxF_some hd, if_neg h5]
      exact .inr ⟨z, rfl, b, c⟩
theorem NbOk.yes {T : VmL} {l : List Im} {j : Nat} {y : Im} {fd hY : Bool} {nx : Ve} {bs d0 nc : Co} (h : NbOk T (l.take j) fd nx bs) (hy : l[j]? = some y) (h1 : hY = (vmG y.v T).isSome) (h2 : d0 = (vmG y.v T).getD (0, 0)) (h3 : nc = nxC d0 y) (h4 : true = (hY && (!fd || decide (cmpC nc bs < 0)))) : NbOk T (l.take (j + 1)) true y.v nc := by
  unfold NbOk
  rw [nxB_snoc hy]
  cases hd : vmG y.v T with
  | none =>
    rw [hd] at h1
    have e2 : hY = false := h1
    rw [e2, Bool.false_and] at h4
    cases h4
  | some d =>
    rw [hd] at h1 h2
    have e1 : d0 = d := h2
    have e2 : hY = true := h1
    rw [e2, Bool.true_and] at h4
    rw [e1] at h3
    rw [h3] at h4 ⊢
    rcases h with ⟨a, b⟩ | ⟨z, a, b, c⟩
    · rw [a, nxF_one hd]
      exact .inr ⟨y, rfl, rfl, rfl⟩
    · rw [b] at h4
      have h5 : cmpC (nxC d y) bs < 0 := by simpa using h4
      rw [a, nxF_some hd, if_pos h5]
      exact .inr ⟨y, rfl, rfl, rfl⟩
theorem FsV.next [Mdl] {T : VmL} {L : List Im} {v t u nx : Ve} {l : List Ve} {bs : Co} (h : FsV T L v t l u) (hut : u ≠ t) (hn : NbOk T (tak L u) true nx bs) : FsV T L v t (l ++ [nx]) nx := by
  rcases h with ⟨rfl, rfl⟩ | ⟨h1, z, b, h2, h3⟩
  · rcases hn with ⟨_, h⟩ | ⟨z, h1, _, h2⟩
    · cases h
    · exact .inr ⟨hut, z, bs, h1, by rw [h2]; rfl⟩
  · refine .inr ⟨h1, z, b, h2, ?_⟩
    rw [List.head?_append, h3]
    rfl
def Way1Post [Mdl] (T : VmL) (L : List Im) (v t : Ve) (w : World) (e : Ending) (w' : World) : Prop :=
  (¬ Rch L t v ∧ e = .returned (.tuple #[.slice none 0 0, .bool false]) ∧ Below w.heap.size w w') ∨
  ∃ (l : List Ve) (A : Option Addr) (c n : Nat), Rch L t v ∧ wayV L v l t ∧ n = l.length ∧ n ≤ 8 ∧ (∀ u ∈ l, VeOk u) ∧ e = .returned (.tuple #[.slice A n c, .bool true]) ∧ w'.ownsRow w.heap.size 29 3 (.slice A n c) n (recs veC l) ∧ Below w.heap.size w w' ∧ FsV T L v t l t
/-- How the search for a way stands. -/
def WyRel [Mdl] (T : VmL) (L : List Im) (v t : Ve) (w0 : World) (gk : Nat) (s p : Value) (wx : World) : Prop :=
  ∃ (u : Ve) (l : List Ve) (A : Option Addr) (c n gv : Nat), s = .slice A n c ∧ p = .pointer (some ⟨gv, 0, none⟩) ∧ VeOk u ∧ n = l.length ∧ (∀ u ∈ l, VeOk u) ∧ wayV L v l u ∧ (Rch L t v ↔ Rch L t u) ∧ n + upN L u ≤ 8 ∧ upN L u < gk ∧
    wx.heap[gv]? = some (veB u) ∧ w0.heap.size ≤ gv ∧ (∀ b, (Value.slice A n c).ownBlock = some b → b ≠ gv) ∧ wx.ownsRow w0.heap.size 29 3 (.slice A n c) n (recs veC l) ∧ Below w0.heap.size w0 wx ∧ FsV T L v t l u
/-- How the search for the best next image stands. -/
def NxRel [Mdl] (L : List Im) (u : Ve) (T : VmL) (g14 g15 J : Nat) (w3 w6 : World) (s q : Value) (wx : World) : Prop :=
  ∃ (j : Nat) (fd : Bool) (nx : Ve) (bs : Co), j ≤ J ∧ s = .bool fd ∧ q = .int .i64 (j : Int) ∧ wx.heap[g14]? = some (veB nx) ∧ wx.heap[g15]? = some (coB bs) ∧
    (((fd = false ∧ ∀ y ∈ (tak L u).take j, vmG y.v T = none) ∨ (fd = true ∧ ∃ y ∈ tak L u, nx = y.v ∧ (vmG y.v T).isSome = true)) ∧ NbOk T ((tak L u).take j) fd nx bs) ∧
    Below g14 w3 wx ∧ (∀ b, g15 < b → b < w6.heap.size → wx.heap[b]? = w6.heap[b]?) ∧ w6.heap.size ≤ wx.heap.size
set_option maxRecDepth 100000 in
set_option maxHeartbeats 16000000 in
theorem way1_any [Mdl] (L : List Im) (v t : Ve) (N C m : Nat) (T : VmL) (AL : Option Addr) (w : World) (hI : ImsI w w.heap.size AL L) (hN : L.length = N) (hL : ImsOk L) (hv : VeOk v) (ht : VeOk t) (hm : VmI w m T) (hT : CoEnd L t T) :
    Calls Tryz.prog 38 #[.slice AL N C, .string (mdT Mdl.j), veV v, veV t, .map (some m)] w fun e w' => Way1Post T L v t w e w' := by
  obtain ⟨iv0, hiv0, hzv0, hzv1, hzv2⟩ := info_parts Tryz.infoVe
  have hN8 : N ≤ 8 := by have := hL.len; omega
  obtain ⟨g7, eg7⟩ : ∃ g, g = w.heap.size := ⟨_, rfl⟩
  obtain ⟨g8, eg8⟩ : ∃ g, g = w.heap.size + 1 := ⟨_, rfl⟩
  obtain ⟨w0, e0⟩ : ∃ V : World, V = (w.alloc (veB v)).alloc (veB t) := ⟨_, rfl⟩
  have hb0 : Below w.heap.size w w0 := by rw [e0]; exact ((Below.refl _ _).alloc (Nat.le_refl _) _).alloc (by simp) _
  have hg7 : w0.heap[g7]? = some (veB v) := by rw [e0, eg7, Below.heap_alloc _ _ _ (by simp)]; exact heap_new w _
  have hg8 : w0.heap[g8]? = some (veB t) := by rw [e0, eg8]; have := heap_new (w.alloc (veB v)) (veB t); simpa using this
  have hl7 := (Array.getElem?_eq_some_iff.1 hg7).1
  have hl8 := (Array.getElem?_eq_some_iff.1 hg8).1
  have HI := Lib.hid (hI.up hb0)
  have HB0 := Lib.hid hb0
  have HG8 := Lib.hid hg8
  have HN := Lib.hid hN
  have HL := Lib.hid hL
  have HV := Lib.hid hv
  have HTV := Lib.hid ht
  have HM := Lib.hid (hm.below hb0)
  have HT := Lib.hid hT
  obtain ⟨g13, eg13⟩ : ∃ g, g = w0.heap.size := ⟨_, rfl⟩
  obtain ⟨w1, e1⟩ : ∃ V : World, V = w0.alloc (.cells #[.int .i64 v.a, .int .i64 v.b, .int .i64 v.c] 29) := ⟨_, rfl⟩
  have hb1 : Below w0.heap.size w0 w1 := by rw [e1]; exact (Below.refl _ _).alloc (Nat.le_refl _) _
  have hg13 : w1.heap[g13]? = some (veB v) := by rw [e1, eg13]; exact heap_new w0 _
  have hup0 : upN L v ≤ 8 := Nat.le_trans (upN_le L v) hL.len
  have HR0 := Lib.hid (show WyRel T L v t w0 9 (.slice none 0 0) (.pointer (some ⟨g13, 0, none⟩)) w1 from
    ⟨v, [], none, 0, 0, g13, rfl, rfl, hv, rfl, (fun u hu => by cases hu), rfl, Iff.rfl, by omega, by omega, hg13, by omega, (fun b hb => by cases hb), World.ownsRow_nil _ _ _ _, hb1, .inl ⟨rfl, rfl⟩⟩)
  have q0 := cell_of_blk (j := 0) hg7 rfl
  have q1 := cell_of_blk (j := 1) hg7 rfl
  have q2 := cell_of_blk (j := 2) hg7 rfl
  unfold veB at e0
  unfold veV
  clear hb0 hg7 hg8 hN hL hv ht hI hm hT hb1 hg13 hup0
  go_enter Tryz.func38, Tryz.ntmps38
  go_upto_region 2 with (fail)
  rw [← eg8, ← eg7, ← e0]
  clear e0 eg7 eg8
  go_wp2_with (fail)
  rw [← e1, ← eg13]
  clear e1 eg13 q0 q1 q2
  go_loopg [12, 13] 9 (fun gk s p wx => WyRel T L v t w0 gk s p wx)
  case atStart => exact HR0.out
  case round =>
    obtain ⟨u, l, A, c, n, gv, rfl, rfl, hu, hn, hlo, hway, hrch, hnu, hgk, hgv, hgvb, hne, hrow, hbel, hfs⟩ := hrel
    have HU := Lib.hid hu
    have HFS := Lib.hid hfs
    clear hfs
    have HNL := Lib.hid hn
    have HLO := Lib.hid hlo
    have HWAY := Lib.hid hway
    have HRCH := Lib.hid hrch
    have HGV := Lib.hid hgv
    have HNE := Lib.hid hne
    have HROW := Lib.hid hrow
    have HB := Lib.hid hbel
    have hlv := (Array.getElem?_eq_some_iff.1 hgv).1
    have hg8r := (hbel.block g8 hl8).trans HG8.out
    have hl8r := (Array.getElem?_eq_some_iff.1 hg8r).1
    have q0 := cell_of_blk (j := 0) hgv rfl
    have q1 := cell_of_blk (j := 1) hgv rfl
    have q2 := cell_of_blk (j := 2) hgv rfl
    have r0 := cell_of_blk (j := 0) hg8r rfl
    have r1 := cell_of_blk (j := 1) hg8r rfl
    have r2 := cell_of_blk (j := 2) hg8r rfl
    clear hu hn hlo hway hrch hne hrow hbel hgv hg8r
    by_cases hut : u = t
    · have hq : ∀ W : World, (binOp .neq 29 (veV u) (veV t)).run Tryz.prog W = .ok (.bool false) W := fun W => by rw [ver_neq, decide_eq_true hut]; rfl
      unfold veV at hq
      have HF := Lib.hid (show Way1Post T L v t w (.returned (.tuple #[.slice A n c, .bool true])) wr from
        .inr ⟨l, A, c, n, HRCH.out.2 (by rw [hut]; exact .self), by have := HWAY.out; rw [hut] at this; exact this, HNL.out, by omega, HLO.out, rfl, own_mono HROW.out HB0.out.size, HB0.out.trans (HB.out.mono HB0.out.size), by have := HFS.out; rw [hut] at this; exact this⟩)
      clear hut
      go_wp2_with (fail)
      refine bodyPost_ret (v := .tuple #[.slice A n c, .bool true]) (by simp [results, Tryz.results38, go_sem]) rfl ?_
      exact HF.out
    · have hq : ∀ W : World, (binOp .neq 29 (veV u) (veV t)).run Tryz.prog W = .ok (.bool true) W := fun W => by rw [ver_neq, decide_eq_false hut]; rfl
      unfold veV at hq
      have HUT := Lib.hid hut
      clear hut
      go_upto_region 7 with (fail)
      clear hq
      obtain ⟨w3, ew3⟩ : ∃ V : World, V = wr := ⟨_, rfl⟩
      rw [← ew3] at HGV HROW HB hlv q0 q1 q2 r0 r1 r2 hl8r ⊢
      clear ew3
      obtain ⟨g14, eg14⟩ : ∃ y, y = w3.heap.size := ⟨_, rfl⟩
      obtain ⟨g15, eg15⟩ : ∃ y, y = w3.heap.size + 1 := ⟨_, rfl⟩
      obtain ⟨w5, e5⟩ : ∃ V : World, V = (w3.alloc (.cells #[.int .i64 0, .int .i64 0, .int .i64 0] 29)).alloc (.cells #[.int .i64 0, .int .i64 0] 99) := ⟨_, rfl⟩
      have hb5 : Below w3.heap.size w3 w5 := by rw [e5]; exact ((Below.refl _ _).alloc (Nat.le_refl _) _).alloc (by simp) _
      have hg14 : w5.heap[g14]? = some (veB ⟨0, 0, 0⟩) := by rw [e5, eg14, Below.heap_alloc _ _ _ (by simp)]; exact heap_new w3 _
      have hg15 : w5.heap[g15]? = some (coB (0, 0)) := by
        have h := heap_new (w3.alloc (.cells #[.int .i64 0, .int .i64 0, .int .i64 0] 29)) (.cells #[.int .i64 0, .int .i64 0] 99)
        rw [show (w3.alloc (.cells #[.int .i64 0, .int .i64 0, .int .i64 0] 29)).heap.size = w3.heap.size + 1 by simp] at h
        rw [e5, eg15]
        exact h
      have hs5 : w5.heap.size = g15 + 1 := by rw [e5, eg15]; simp
      rw [← eg15, ← eg14, ← e5]
      have h1415 : g15 = g14 + 1 := by omega
      have hlv14 : gv < g14 := by omega
      have hl14 : w0.heap.size ≤ g14 := by have := HB.out.size; omega
      have HW3 := Lib.hid (show g14 = w3.heap.size ∧ g15 = g14 + 1 ∧ w5.heap.size = g15 + 1 from ⟨eg14, h1415, hs5⟩)
      have HB5 := Lib.hid (show Below g14 w3 w5 from by rw [eg14]; exact hb5)
      have hgv5 := (hb5.block gv hlv).trans HGV.out
      have HG5 := Lib.hid (And.intro hg14 hg15)
      have HI5 := Lib.hid ((HI.out.up HB.out).up hb5)
      have HTK := Lib.hid (taken_any L u N C AL w5 HI5.out HN.out HL.out HU.out)
      unfold TakPost veV at HTK
      have hl5 := (Array.getElem?_eq_some_iff.1 hgv5).1
      clear q0 q1 q2 r0 r1 r2 e5 hb5 hg14 hg15 hs5 eg14 eg15 hl8r
      have q0 := cell_of_blk (j := 0) hgv5 rfl
      have q1 := cell_of_blk (j := 1) hgv5 rfl
      have q2 := cell_of_blk (j := 2) hgv5 rfl
      have h1415b : g14 < g15 := by omega
      clear hgv5 h1415
      go_wp2_with (fail)
      refine HTK.out.mono ?_
      rintro e w6 ⟨A6, c6, J, hJ, rfl, ho6, hb6⟩
      have hJ8 : J ≤ 8 := by have := @tak_len _ L u; have := HL.out.len; omega
      have hs6 : g15 < w6.heap.size := by have := hb6.size; have := HW3.out; omega
      have HJ := Lib.hid hJ
      have HO6 := Lib.hid (show w6.ownsRow (g15 + 1) 91 6 (.slice A6 J c6) J (recs imC (tak L u)) from by rw [← HW3.out.2.2]; exact ho6)
      have HN0 := Lib.hid (show NxRel L u T g14 g15 J w3 w6 (.bool false) (.int .i64 0) w6 from
        ⟨0, false, ⟨0, 0, 0⟩, (0, 0), Nat.zero_le _, rfl, rfl, (hb6.block g14 (by have := HW3.out; omega)).trans HG5.out.1, (hb6.block g15 (by have := HW3.out; omega)).trans HG5.out.2, ⟨.inl ⟨rfl, (fun y hy => by simp at hy)⟩, .inl ⟨rfl, rfl⟩⟩,
          HB5.out.trans (hb6.mono (by have := HW3.out; omega)), fun b _ _ => rfl, Nat.le_refl _⟩)
      have HMM := Lib.hid (show m < g14 ∧ VmI w3 m T from by
        have h1 := HM.out.below HB.out
        exact ⟨by have := h1.lt; have := HW3.out; omega, h1⟩)
      clear hb6 ho6 hJ HTK q0 q1 q2 HB5 HG5 HI5 hl5
      go_wp2_with (fail)
      go_loopw [16, 30] (fun s q wx => NxRel L u T g14 g15 J w3 w6 s q wx) (fun _ q _ => J - (intOf q).toNat)
      case atStart => exact HN0.out
      case round =>
        obtain ⟨j, fd, nx, bs, hj, rfl, rfl, hqq⟩ := hrel
        have HQ := Lib.hid hqq
        clear hqq
        have hsz := HQ.out.2.2.2.2.2
        by_cases hlj : j < J
        case neg =>
          have hljI : ¬ (j : Int) < (J : Int) := by omega
          have hJj : (tak L u).length ≤ j := by have := HJ.out; omega
          cases fd with
          | false =>
            have HF := Lib.hid (show Way1Post T L v t w (.returned (.tuple #[.slice none 0 0, .bool false])) wr from .inl ⟨by
              rw [HRCH.out, Rch.cases_iff]
              rintro (h | ⟨y, hy, hr⟩)
              · exact HUT.out h
              · rcases HQ.out.2.2.1.1 with ⟨_, h1⟩ | ⟨h1, _⟩
                · have h2 := h1 y (by rw [List.take_of_length_le hJj]; exact hy)
                  obtain ⟨g1, g2, _⟩ := mem_tak.1 hy
                  have h3 := (HT.out.rc y g1 g2).2 hr
                  rw [h2] at h3; cases h3
                · exact absurd h1 (by decide), rfl, by
              have h1 := HB.out.trans (HQ.out.2.2.2.1.mono hl14)
              exact HB0.out.trans (h1.mono HB0.out.size)⟩)
            clear hsz
            go_wp2_with (fail)
            refine bodyPost_ret (v := .tuple #[.slice none 0 0, .bool false]) (by simp [results, Tryz.results38, go_sem]) rfl ?_
            exact HF.out
          | true =>
            have hq3 := HQ.out.2.2.1.1
            have HNB := Lib.hid (show NbOk T (tak L u) true nx bs from by have := HQ.out.2.2.1.2; rw [List.take_of_length_le hJj] at this; exact this)
            obtain ⟨y, hy, hny, hys⟩ : ∃ y ∈ tak L u, nx = y.v ∧ (vmG y.v T).isSome = true := by
              rcases hq3 with ⟨h, _⟩ | ⟨_, h⟩
              · cases h
              · exact h
            obtain ⟨g1, g2, g3⟩ := mem_tak.1 hy
            have hyok := HL.out.ok y g1
            have hry := (HT.out.rc y g1 g2).1 hys
            have hupy := upN_lt g1 (cov_lt hyok g3)
            rw [← hny] at hupy hry
            have HWN := Lib.hid (show wayV L v (l ++ [nx]) nx from by rw [hny]; exact HWAY.out.snoc hy)
            have HRN := Lib.hid (show Rch L t v ↔ Rch L t nx from iff_of_true (HRCH.out.2 (.step hy (by rw [← hny]; exact hry))) hry)
            have HNX := Lib.hid (show VeOk nx from by rw [hny]; exact hyok.v)
            have hw3 := HW3.out
            have hgvw := (HQ.out.2.2.2.1.block gv hlv14).trans HGV.out
            have HRO := Lib.hid (show wr.ownsRow w0.heap.size 29 3 (.slice A n c) n (recs veC l) from own_keepV HROW.out (fun b _ hb => HQ.out.2.2.2.1.block b (by omega)))
            have HBW := Lib.hid (show Below w0.heap.size w0 wr from HB.out.trans (HQ.out.2.2.2.1.mono hl14))
            have hg14w := HQ.out.1
            have hl14w := (Array.getElem?_eq_some_iff.1 hg14w).1
            have hlvw := (Array.getElem?_eq_some_iff.1 hgvw).1
            have hbw0 := HBW.out.size
            have z0 := cell_of_blk (j := 0) hg14w rfl
            have z1 := cell_of_blk (j := 1) hg14w rfl
            have z2 := cell_of_blk (j := 2) hg14w rfl
            have q0 := cell_of_blk (j := 0) hgvw rfl
            have q1 := cell_of_blk (j := 1) hgvw rfl
            have q2 := cell_of_blk (j := 2) hgvw rfl
            have f0 : wr.frozen? ⟨gv, 0, none⟩ = false := by simp [World.frozen?, hgvw, veB]
            have f1 : wr.frozen? ⟨gv, 1, none⟩ = false := by simp [World.frozen?, hgvw, veB]
            have f2 : wr.frozen? ⟨gv, 2, none⟩ = false := by simp [World.frozen?, hgvw, veB]
            have HOB := Lib.hid (show ∀ b, (Value.slice A n c).ownBlock = some b → b < g14 ∧ b ≠ gv from fun b hb => ⟨by have := (HROW.out.lt b hb).2; omega, HNE.out b hb⟩)
            have HGVW := Lib.hid hgvw
            have HG14 := Lib.hid hg14w
            clear hq3 hgvw hg14w hsz hw3 hny hys hy g1 g2 g3 hry
            go_upto_region 17 with (fail)
            go_region_law (first
                | (refine step_append_rowV rfl (.tmp 67) (.tmp 69) 33 rfl w0.heap.size 29 iv0 _ 3 24 Tryz.underlying33 hiv0 hzv0 hzv1 hzv2 rfl (by decide) (.slice A n c) n (recs veC l) (by simp [Act.eval]) (HRO.out.alloc _) ⟨wr.heap.size, 0, none⟩ 1 1 (veC nx) (by simp [Act.eval]) rfl (cells_add (Cells.new _ _ _ _ _ rfl)) (veC_one _) (by unfold maxLen; omega) (by omega) (by simp; omega) ?_
                   intro v9 w9 ho9 hg9 hm9
                   have hk9 : ∀ b, b < wr.heap.size → (Value.slice A n c).ownBlock ≠ some b → w9.heap[b]? = wr.heap[b]? := fun b hb hne => (hg9.block b (by simp; omega) (fun e => hne e.symm)).trans (Below.heap_alloc _ _ _ hb)
                   have z9 := (hk9 g14 hl14w (fun e => by have := (HOB.out g14 e).1; omega)).trans HG14.out
                   have y9 := (hk9 gv hlvw (fun e => (HOB.out gv e).2 rfl)).trans HGVW.out
                   have z0' := cell_of_blk (j := 0) z9 rfl
                   have z1' := cell_of_blk (j := 1) z9 rfl
                   have z2' := cell_of_blk (j := 2) z9 rfl
                   have x0' := cell_of_blk (j := 0) y9 rfl
                   have x1' := cell_of_blk (j := 1) y9 rfl
                   have x2' := cell_of_blk (j := 2) y9 rfl
                   have f0' : w9.frozen? ⟨gv, 0, none⟩ = false := by simp [World.frozen?, y9, veB]
                   have f1' : w9.frozen? ⟨gv, 1, none⟩ = false := by simp [World.frozen?, y9, veB]
                   have f2' : w9.frozen? ⟨gv, 2, none⟩ = false := by simp [World.frozen?, y9, veB]))
            all_goals
              obtain ⟨A9, c9, hv9⟩ := own_slice ho9
              obtain ⟨w10, e10⟩ : ∃ V : World, V = ((w9.setCell ⟨gv, 0, none⟩ (.int .i64 nx.a)).setCell ⟨gv, 1, none⟩ (.int .i64 nx.b)).setCell ⟨gv, 2, none⟩ (.int .i64 nx.c) := ⟨_, rfl⟩
              subst hv9
              have hs10 : w10.heap.size = w9.heap.size := by rw [e10]; simp [World.setCell]
              have hg10 : w10.heap[gv]? = some (veB nx) := by
                rw [e10]
                have h0 : (w9.setCell ⟨gv, 0, none⟩ (.int .i64 nx.a)).heap[gv]? = some (.cells #[.int .i64 nx.a, .int .i64 u.b, .int .i64 u.c] 29 (0, 0)) := (setblkV (j := 0) _ y9).trans rfl
                have h1 : ((w9.setCell ⟨gv, 0, none⟩ (.int .i64 nx.a)).setCell ⟨gv, 1, none⟩ (.int .i64 nx.b)).heap[gv]? = some (.cells #[.int .i64 nx.a, .int .i64 nx.b, .int .i64 u.c] 29 (0, 0)) := (setblkV (j := 1) _ h0).trans rfl
                exact (setblkV (j := 2) _ h1).trans rfl
              have hk10 : ∀ b, b ≠ gv → w10.heap[b]? = w9.heap[b]? := fun b hb => by rw [e10, setcV _ _ _ _ _ hb, setcV _ _ _ _ _ hb, setcV _ _ _ _ _ hb]
              have hne9 : ∀ b, (Value.slice A9 (n + 1) c9).ownBlock = some b → b ≠ gv := by
                intro b hb e
                rcases hm9 with hm | ⟨g, hm, hl⟩
                · rw [hm] at hb; exact (HOB.out b hb).2 e
                · rw [hb] at hm; cases hm; simp at hl; omega
              have hg9s := hg9.size
              have hs9 : wr.heap.size ≤ w9.heap.size := by simp at hg9s; omega
              obtain ⟨w11, e11⟩ : ∃ V : World, V = w10.alloc (.cells #[.int .i64 nx.a, .int .i64 nx.b, .int .i64 nx.c] 29) := ⟨_, rfl⟩
              have hb11 : Below w10.heap.size w10 w11 := by rw [e11]; exact (Below.refl _ _).alloc (Nat.le_refl _) _
              have hb9 : Below w0.heap.size w0 w9 := (HBW.out.alloc HBW.out.size _).drew.grown hg9 (by simp; omega) (fun q hq => (HROW.out.lt q hq).1)
              have hb10 : Below w0.heap.size w0 w10 := by rw [e10]; exact ((hb9.setCell (show w0.heap.size ≤ gv by omega) _).setCell (show w0.heap.size ≤ gv by omega) _).setCell (show w0.heap.size ≤ gv by omega) _
              have ho10 : w10.ownsRow w0.heap.size 29 3 (.slice A9 (n + 1) c9) (n + 1) (recs veC l ++ veC nx) := by
                refine ⟨ho9.1, ?_⟩
                rcases ho9.2 with h | ⟨g, cap, cur, hv, hb, hh, r⟩
                · exact .inl h
                · exact .inr ⟨g, cap, cur, hv, hb, (hk10 g (hne9 g (by rw [hv]; rfl))).trans hh, r⟩
              have HEND := Lib.hid (show WyRel T L v t w0 (upN L u) (.slice A9 (n + 1) c9) (.pointer (some ⟨w10.heap.size, 0, none⟩)) w11 from
                ⟨nx, l ++ [nx], A9, c9, n + 1, w10.heap.size, rfl, rfl, HNX.out, by rw [List.length_append, HNL.out]; rfl, (fun z hz => by
                  rcases List.mem_append.1 hz with h | h
                  · exact HLO.out z h
                  · rw [List.mem_singleton] at h; rw [h]; exact HNX.out), HWN.out, HRN.out, by omega, by omega, by rw [e11]; exact heap_new w10 _, hb10.size, (fun b hb e => by
                  have h1 := (ho10.lt b hb).2
                  omega), by
                  have e : recs veC (l ++ [nx]) = recs veC l ++ veC nx := by simp [recs]
                  rw [e]; exact own_below ho10 hb11, hb10.trans (hb11.mono hb10.size), HFS.out.next HUT.out HNB.out⟩)
              have hl10 : gv < w10.heap.size := (Array.getElem?_eq_some_iff.1 hg10).1
              rw [← e10]
              have p0 := cell_of_blk (j := 0) hg10 rfl
              have p1 := cell_of_blk (j := 1) hg10 rfl
              have p2 := cell_of_blk (j := 2) hg10 rfl
              clear e10 ho9 hg9 hm9 hk9 z9 y9 z0' z1' z2' x0' x1' x2' f0' f1' f2' hs10 hg10 hk10 hne9 hg9s hs9 hb11 hb9 hb10 ho10 z0 z1 z2 q0 q1 q2 f0 f1 f2 hl14w hlvw hbw0
              go_wp2_with (fail)
              rw [← e11]
              clear e11
              go_roundg (upN L u)
              case rel => exact HEND.out
              case measure => exact hgk
        case pos =>
        have hljI : (j : Int) < (J : Int) := by omega
        obtain ⟨y, hy⟩ : ∃ y, (tak L u)[j]? = some y := ⟨_, List.getElem?_eq_getElem (by have := HJ.out; omega)⟩
        have hrw := own_row (own_keepV HO6.out (fun b hb1 hb2 => HQ.out.2.2.2.2.1 b (by omega) hb2))
        obtain ⟨b2, o2, eA2, hbw2, hC⟩ := hrw.posR imC_len (by omega) (by have := HJ.out; omega)
        have c0 : wr.cell? ⟨b2, o2 + j * 6, none⟩ = some (.int .i64 y.v.a) := rec_cell imC_len hC j y hy 0 _ rfl
        have c1 := rec_cell imC_len hC j y hy 1 _ rfl
        have c2 := rec_cell imC_len hC j y hy 2 _ rfl
        have c3 := rec_cell imC_len hC j y hy 3 _ rfl
        have c4 := rec_cell imC_len hC j y hy 4 _ rfl
        have c5 := rec_cell imC_len hC j y hy 5 _ rfl
        have hyt := List.mem_of_getElem? hy
        have HY := Lib.hid (HL.out.ok y (mem_tak.1 hyt).1)
        have HYT := Lib.hid hyt
        have HYE := Lib.hid hy
        have hmr : VmI wr m T := HMM.out.2.keep (HQ.out.2.2.2.1.block m HMM.out.1)
        have hls := HQ.out.2.2.2.1.size
        have hlw : g14 < wr.heap.size ∧ g15 < wr.heap.size ∧ w6.heap.size ≤ wr.heap.size := ⟨(Array.getElem?_eq_some_iff.1 HQ.out.1).1, (Array.getElem?_eq_some_iff.1 HQ.out.2.1).1, hsz⟩
        rw [eA2]
        clear hrw hC hy hyt
        go_upto_region 10 with (fail)
        obtain ⟨gy, egy⟩ : ∃ y, y = wr.heap.size := ⟨_, rfl⟩
        obtain ⟨w8, e8⟩ : ∃ V : World, V = wr.alloc (.cells #[.int .i64 y.v.a, .int .i64 y.v.b, .int .i64 y.v.c, .slice y.ma y.mo.length y.mc, .slice y.fa y.rs.length y.fc, .int .i64 y.sz] 91) := ⟨_, rfl⟩
        have hb8 : Below wr.heap.size wr w8 := by rw [e8]; exact (Below.refl _ _).alloc (Nat.le_refl _) _
        have hg8 : w8.heap[gy]? = some (imB y) := by rw [e8, egy]; exact heap_new wr _
        rw [← egy, ← e8]
        have hm8 := hmr.below hb8
        have HQ8 := Lib.hid (show Below wr.heap.size wr w8 ∧ w8.heap[gy]? = some (imB y) from ⟨hb8, hg8⟩)
        have hl8 := (Array.getElem?_eq_some_iff.1 hg8).1
        have hgcy : g15 < gy ∧ g14 < gy ∧ w6.heap.size ≤ gy ∧ wr.heap.size ≤ gy := by omega
        have hlk := look_vm (k := y.v) hm8
        obtain ⟨dY, edY⟩ : ∃ d, d = vmG y.v T := ⟨_, rfl⟩
        have HDY := Lib.hid edY
        obtain ⟨d0, ed0⟩ : ∃ d, d = dY.getD (0, 0) := ⟨_, rfl⟩
        obtain ⟨hY, ehY⟩ : ∃ d, d = dY.isSome := ⟨_, rfl⟩
        rw [← edY, ← ed0, ← ehY] at hlk
        have hd0 : (0 ≤ d0.1 ∧ d0.1 ≤ 8) ∧ 0 ≤ d0.2 ∧ d0.2 ≤ 80 := by
          cases hd : dY with
          | none => rw [hd] at ed0; rw [ed0]; exact ⟨⟨Int.le_refl _, by show (0 : Int) ≤ 8; omega⟩, Int.le_refl _, by show (0 : Int) ≤ 80; omega⟩
          | some d =>
            rw [hd] at ed0
            have e1 : d0 = d := ed0
            rw [e1]
            exact HT.out.ok _ d (by rw [← HDY.out]; exact hd)
        have HHY := Lib.hid ehY
        have HD0 := Lib.hid ed0
        unfold veV coV at hlk
        have q0 := cell_of_blk (j := 0) hg8 rfl
        have q1 := cell_of_blk (j := 1) hg8 rfl
        have q2 := cell_of_blk (j := 2) hg8 rfl
        clear egy e8 hb8 hg8 hm8 edY ed0 ehY c0 c1 c2 c3 c4 c5 hmr
        go_upto_region 11 with (fail)
        obtain ⟨gd, egd⟩ : ∃ y, y = w8.heap.size := ⟨_, rfl⟩
        obtain ⟨w9, e9⟩ : ∃ V : World, V = w8.alloc (.cells #[.int .i64 d0.1, .int .i64 d0.2] 99) := ⟨_, rfl⟩
        have hb9 : Below w8.heap.size w8 w9 := by rw [e9]; exact (Below.refl _ _).alloc (Nat.le_refl _) _
        have hg9 : w9.heap[gd]? = some (.cells #[.int .i64 d0.1, .int .i64 d0.2] 99 (0, 0)) := by rw [e9, egd]; exact heap_new w8 _
        rw [← egd, ← e9]
        have hgyd : gy < gd ∧ wr.heap.size ≤ gd := by have := HQ8.out.1.size; omega
        have HQ9 := Lib.hid (show Below wr.heap.size wr w9 ∧ w9.heap[gy]? = some (imB y) from ⟨HQ8.out.1.trans (hb9.mono HQ8.out.1.size), (hb9.block gy hl8).trans HQ8.out.2⟩)
        have hl9 := (Array.getElem?_eq_some_iff.1 hg9).1
        have hsy := HY.out.sz
        have hw1 : IntKind.i64.wrap (d0.1 + 1) = d0.1 + 1 := by rw [IntKind.wrap_i64]; omega
        have hw2 : IntKind.i64.wrap (d0.2 + y.sz) = d0.2 + y.sz := by rw [IntKind.wrap_i64]; omega
        have d0' := cell_of_blk (j := 0) hg9 rfl
        have d1' := cell_of_blk (j := 1) hg9 rfl
        have y5 := cell_of_blk (j := 5) HQ9.out.2 rfl
        have f0 : w9.frozen? ⟨gd, 0, none⟩ = false := by simp [World.frozen?, hg9]
        have f1 : w9.frozen? ⟨gd, 1, none⟩ = false := by simp [World.frozen?, hg9]
        have hly := (Array.getElem?_eq_some_iff.1 HQ9.out.2).1
        obtain ⟨w10, e10⟩ : ∃ V : World, V = (w9.setCell ⟨gd, 0, none⟩ (.int .i64 (d0.1 + 1))).setCell ⟨gd, 1, none⟩ (.int .i64 (d0.2 + y.sz)) := ⟨_, rfl⟩
        have hg10 : w10.heap[gd]? = some (coB (nxC d0 y)) := by
          rw [e10]
          have h1 : (w9.setCell ⟨gd, 0, none⟩ (.int .i64 (d0.1 + 1))).heap[gd]? = some (.cells #[.int .i64 (d0.1 + 1), .int .i64 d0.2] 99 (0, 0)) := (setblkV (j := 0) _ hg9).trans rfl
          exact (setblkV (j := 1) _ h1).trans rfl
        have hk10 : ∀ b, b ≠ gd → w10.heap[b]? = w9.heap[b]? := fun b hb => by rw [e10, setcV _ _ _ _ _ hb, setcV _ _ _ _ _ hb]
        have HQ10 := Lib.hid (show Below wr.heap.size wr w10 ∧ w10.heap[gy]? = some (imB y) ∧ w10.heap[gd]? = some (coB (nxC d0 y)) from
          ⟨by rw [e10]; exact (HQ9.out.1.setCell (show wr.heap.size ≤ gd by omega) _).setCell (show wr.heap.size ≤ gd by omega) _, (hk10 gy (by omega)).trans HQ9.out.2, hg10⟩)
        have hl10 := (Array.getElem?_eq_some_iff.1 hg10).1
        clear hlk q0 q1 q2 egd e9 hb9 hg9 hl8 HQ8 hk10 hg10
        go_upto_region 12 with (fail)
        rw [← e10]
        clear e10 d0' d1' y5 f0 f1 hly hl9 HQ9 hw1 hw2
        obtain ⟨nc, enc⟩ : ∃ z, z = nxC d0 y := ⟨_, rfl⟩
        rw [← enc] at HQ10
        have HNC := Lib.hid enc
        clear enc hsy hd0
        go_cut [60] (fun s wx => s = .bool (hY && (!fd || decide (cmpC nc bs < 0))) ∧ Below w10.heap.size w10 wx)
        case first =>
          cases hY with
          | false =>
            go_wp2_with (fail)
            go_meet
            exact ⟨by rw [Bool.false_and], Below.refl _ _⟩
          | true =>
            cases fd with
            | false =>
              go_wp2_with (fail)
              go_meet
              exact ⟨by rfl, Below.refl _ _⟩
            | true =>
              have hgd := HQ10.out.2.2
              have hgc := (HQ10.out.1.block g15 hlw.2.1).trans HQ.out.2.1
              have k0 := cell_of_blk (j := 0) hgd rfl
              have k1 := cell_of_blk (j := 1) hgd rfl
              have r0 := cell_of_blk (j := 0) hgc rfl
              have r1 := cell_of_blk (j := 1) hgc rfl
              have hlc2 := (Array.getElem?_eq_some_iff.1 hgc).1
              have HBC := Lib.hid (byCost_any nc bs w10)
              unfold coV at HBC
              clear hgd hgc
              go_wp2_with (fail)
              refine HBC.out.mono ?_
              rintro e wz ⟨rfl, hbz⟩
              go_wp2_with (fail)
              go_meet
              exact ⟨by simp, hbz⟩
        case rest =>
          obtain ⟨rfl, hb11⟩ := hcut
          obtain ⟨w11, rfl⟩ : ∃ wy : World, wy = wc := ⟨_, rfl⟩
          have hs11 := hb11.size
          have hs10 := HQ10.out.1.size
          have HQ11 := Lib.hid (show Below wr.heap.size wr w11 ∧ w11.heap[gy]? = some (imB y) ∧ w11.heap[gd]? = some (coB nc) from ⟨HQ10.out.1.trans (hb11.mono hs10), (hb11.block gy (by omega)).trans HQ10.out.2.1, (hb11.block gd hl10).trans HQ10.out.2.2⟩)
          have HQW := Lib.hid (show w11.heap[g14]? = some (veB nx) ∧ w11.heap[g15]? = some (coB bs) ∧ Below g14 w3 w11 ∧ (∀ b, g15 < b → b < w6.heap.size → w11.heap[b]? = w6.heap[b]?) ∧ w6.heap.size ≤ w11.heap.size from
            ⟨(HQ11.out.1.block g14 hlw.1).trans HQ.out.1, (HQ11.out.1.block g15 hlw.2.1).trans HQ.out.2.1, HQ.out.2.2.2.1.trans (HQ11.out.1.mono (by omega)), fun b h1 h2 => (HQ11.out.1.block b (by omega)).trans (HQ.out.2.2.2.2.1 b h1 h2), by omega⟩)
          clear hb11 HQ10 hls
          obtain ⟨cd, ecd⟩ : ∃ z, z = (hY && (!fd || decide (cmpC nc bs < 0))) := ⟨_, rfl⟩
          rw [← ecd]
          have HCD := Lib.hid ecd
          clear ecd
          cases cd with
          | false =>
            have HE := Lib.hid (show NxRel L u T g14 g15 J w3 w6 (.bool fd) (.int .i64 ((j + 1 : Nat) : Int)) w11 from
              ⟨j + 1, fd, nx, bs, by omega, rfl, rfl, HQW.out.1, HQW.out.2.1, ⟨(by
                rcases HQ.out.2.2.1.1 with ⟨h1, h2⟩ | h1
                · refine .inl ⟨h1, fun z hz => ?_⟩
                  rcases mem_take_succ HYE.out hz with hz | rfl
                  · exact h2 z hz
                  · have h3 := HCD.out
                    rw [h1, Bool.not_false, Bool.true_or, Bool.and_true] at h3
                    have h4 := HHY.out
                    rw [← h3, HDY.out] at h4
                    cases h5 : vmG z.v T with
                    | none => rfl
                    | some d => rw [h5] at h4; cases h4
                · exact .inr h1), HQ.out.2.2.1.2.no HYE.out (by rw [HHY.out, HDY.out]) (by rw [HD0.out, HDY.out]) HNC.out HCD.out⟩, HQW.out.2.2⟩)
            clear hsz
            go_wp2_with (fail)
            go_roundw
            case rel => exact (by simpa using HE.out)
            case measure => simp [intOf]; omega
          | true =>
            have hgx11 := HQ11.out.2.1
            have hgd11 := HQ11.out.2.2
            have h14 := HQW.out.1
            have h15 := HQW.out.2.1
            have k0 := cell_of_blk (j := 0) hgx11 rfl
            have k1 := cell_of_blk (j := 1) hgx11 rfl
            have k2 := cell_of_blk (j := 2) hgx11 rfl
            have m0 := cell_of_blk (j := 0) hgd11 rfl
            have m1 := cell_of_blk (j := 1) hgd11 rfl
            have z0 := cell_of_blk (j := 0) h14 rfl
            have z1 := cell_of_blk (j := 1) h14 rfl
            have z2 := cell_of_blk (j := 2) h14 rfl
            have x0 := cell_of_blk (j := 0) h15 rfl
            have x1 := cell_of_blk (j := 1) h15 rfl
            have f0 : w11.frozen? ⟨g14, 0, none⟩ = false := by simp [World.frozen?, h14, veB]
            have f1 : w11.frozen? ⟨g14, 1, none⟩ = false := by simp [World.frozen?, h14, veB]
            have f2 : w11.frozen? ⟨g14, 2, none⟩ = false := by simp [World.frozen?, h14, veB]
            have e0 : w11.frozen? ⟨g15, 0, none⟩ = false := by simp [World.frozen?, h15, coB]
            have e1 : w11.frozen? ⟨g15, 1, none⟩ = false := by simp [World.frozen?, h15, coB]
            have hl14 := (Array.getElem?_eq_some_iff.1 h14).1
            have hl15 := (Array.getElem?_eq_some_iff.1 h15).1
            have hlgy := (Array.getElem?_eq_some_iff.1 hgx11).1
            have hlgd := (Array.getElem?_eq_some_iff.1 hgd11).1
            clear hgx11 hgd11 h14 h15 hsz
            go_upto_region 13 with (fail)
            go_region
            obtain ⟨w12, e12⟩ : ∃ V : World, V = (((((w11.setCell ⟨g14, 0, none⟩ (.int .i64 y.v.a)).setCell ⟨g14, 1, none⟩ (.int .i64 y.v.b)).setCell ⟨g14, 2, none⟩ (.int .i64 y.v.c)).setCell ⟨g15, 0, none⟩ (.int .i64 nc.1)).setCell ⟨g15, 1, none⟩ (.int .i64 nc.2)).drew := ⟨_, rfl⟩
            rw [← e12]
            have HE := Lib.hid (show NxRel L u T g14 g15 J w3 w6 (.bool true) (.int .i64 ((j + 1 : Nat) : Int)) w12 from by
              have s1 : (w11.setCell ⟨g14, 0, none⟩ (.int .i64 y.v.a)).heap[g14]? = some (.cells #[.int .i64 y.v.a, .int .i64 nx.b, .int .i64 nx.c] 29 (0, 0)) := (setblkV (j := 0) _ HQW.out.1).trans rfl
              have s2 : ((w11.setCell ⟨g14, 0, none⟩ (.int .i64 y.v.a)).setCell ⟨g14, 1, none⟩ (.int .i64 y.v.b)).heap[g14]? = some (.cells #[.int .i64 y.v.a, .int .i64 y.v.b, .int .i64 nx.c] 29 (0, 0)) := (setblkV (j := 1) _ s1).trans rfl
              have s3 : (((w11.setCell ⟨g14, 0, none⟩ (.int .i64 y.v.a)).setCell ⟨g14, 1, none⟩ (.int .i64 y.v.b)).setCell ⟨g14, 2, none⟩ (.int .i64 y.v.c)).heap[g14]? = some (veB y.v) := (setblkV (j := 2) _ s2).trans rfl
              have t3 : (((w11.setCell ⟨g14, 0, none⟩ (.int .i64 y.v.a)).setCell ⟨g14, 1, none⟩ (.int .i64 y.v.b)).setCell ⟨g14, 2, none⟩ (.int .i64 y.v.c)).heap[g15]? = some (coB bs) := by
                rw [setcV _ _ _ _ _ (by omega), setcV _ _ _ _ _ (by omega), setcV _ _ _ _ _ (by omega)]
                exact HQW.out.2.1
              have t4 : ((((w11.setCell ⟨g14, 0, none⟩ (.int .i64 y.v.a)).setCell ⟨g14, 1, none⟩ (.int .i64 y.v.b)).setCell ⟨g14, 2, none⟩ (.int .i64 y.v.c)).setCell ⟨g15, 0, none⟩ (.int .i64 nc.1)).heap[g15]? = some (.cells #[.int .i64 nc.1, .int .i64 bs.2] 99 (0, 0)) := (setblkV (j := 0) _ t3).trans rfl
              have t5 : (((((w11.setCell ⟨g14, 0, none⟩ (.int .i64 y.v.a)).setCell ⟨g14, 1, none⟩ (.int .i64 y.v.b)).setCell ⟨g14, 2, none⟩ (.int .i64 y.v.c)).setCell ⟨g15, 0, none⟩ (.int .i64 nc.1)).setCell ⟨g15, 1, none⟩ (.int .i64 nc.2)).heap[g15]? = some (coB nc) := (setblkV (j := 1) _ t4).trans rfl
              have s5 : (((((w11.setCell ⟨g14, 0, none⟩ (.int .i64 y.v.a)).setCell ⟨g14, 1, none⟩ (.int .i64 y.v.b)).setCell ⟨g14, 2, none⟩ (.int .i64 y.v.c)).setCell ⟨g15, 0, none⟩ (.int .i64 nc.1)).setCell ⟨g15, 1, none⟩ (.int .i64 nc.2)).heap[g14]? = some (veB y.v) := by
                rw [setcV _ _ _ _ _ (by omega), setcV _ _ _ _ _ (by omega)]
                exact s3
              have hk : ∀ b, b ≠ g14 → b ≠ g15 → (((((w11.setCell ⟨g14, 0, none⟩ (.int .i64 y.v.a)).setCell ⟨g14, 1, none⟩ (.int .i64 y.v.b)).setCell ⟨g14, 2, none⟩ (.int .i64 y.v.c)).setCell ⟨g15, 0, none⟩ (.int .i64 nc.1)).setCell ⟨g15, 1, none⟩ (.int .i64 nc.2)).heap[b]? = w11.heap[b]? := fun b h1 h2 => by
                rw [setcV _ _ _ _ _ h2, setcV _ _ _ _ _ h2, setcV _ _ _ _ _ h1, setcV _ _ _ _ _ h1, setcV _ _ _ _ _ h1]
              have hs : (((((w11.setCell ⟨g14, 0, none⟩ (.int .i64 y.v.a)).setCell ⟨g14, 1, none⟩ (.int .i64 y.v.b)).setCell ⟨g14, 2, none⟩ (.int .i64 y.v.c)).setCell ⟨g15, 0, none⟩ (.int .i64 nc.1)).setCell ⟨g15, 1, none⟩ (.int .i64 nc.2)).heap.size = w11.heap.size := by simp [World.setCell]
              rw [e12]
              refine ⟨j + 1, true, y.v, nc, by omega, rfl, rfl, s5, t5, ⟨.inr ⟨rfl, y, HYT.out, rfl, ?_⟩, HQ.out.2.2.1.2.yes HYE.out (by rw [HHY.out, HDY.out]) (by rw [HD0.out, HDY.out]) HNC.out HCD.out⟩, ?_, fun b h1 h2 => (hk b (by omega) (by omega)).trans (HQW.out.2.2.2.1 b h1 h2), ?_⟩
              · have h3 := HCD.out
                cases hh : hY with
                | false => rw [hh, Bool.false_and] at h3; cases h3
                | true =>
                  have h4 := HHY.out
                  rw [hh, HDY.out] at h4
                  exact h4.symm
              · exact (((((HQW.out.2.2.1.setCell (Nat.le_refl g14) _).setCell (Nat.le_refl g14) _).setCell (Nat.le_refl g14) _).setCell (show g14 ≤ g15 by omega) _).setCell (show g14 ≤ g15 by omega) _).drew
              · have := HQW.out.2.2.2.2
                show w6.heap.size ≤ (((((w11.setCell ⟨g14, 0, none⟩ (.int .i64 y.v.a)).setCell ⟨g14, 1, none⟩ (.int .i64 y.v.b)).setCell ⟨g14, 2, none⟩ (.int .i64 y.v.c)).setCell ⟨g15, 0, none⟩ (.int .i64 nc.1)).setCell ⟨g15, 1, none⟩ (.int .i64 nc.2)).heap.size
                omega)
            clear e12 k0 k1 k2 m0 m1 z0 z1 z2 x0 x1 f0 f1 f2 e0 e1 hl14 hl15 hlgy hlgd
            go_wp2_with (fail)
            go_roundw
            case rel => exact (by simpa using HE.out)
            case measure => simp [intOf]; omega
end Go.Proofs.YtidgicbhgnbidaaGreatDoor
