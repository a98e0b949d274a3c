/- Reach, by its contract. Printed by gen_WyH.py. -/
import Derived.Test.YtidgicbhgnbidaaGreatDoorWyG
namespace Go.Proofs.YtidgicbhgnbidaaGreatDoor
open Go.RowKit

theorem Tryz.infoRg : (Tryz.prog.info? 42).map (fun i => (i.zero, i.size, i.bytes)) = some (some (.agg #[.int .i64 0, .int .i64 0, .int .i64 0, .int .i64 0, .int .i64 0, .int .i64 0]), 6, 48) := by kernel_rfl
theorem recs_consV {α : Type} (f : α → List Value) (x : α) (l : List α) : recs f (x :: l) = f x ++ recs f l := by simp [recs]
theorem recs_cellV {α : Type} {f : α → List Value} {k : Nat} (hf : ∀ x, (f x).length = k) : ∀ (l : List α) (i j : Nat) (x x' : α) (u : Value), i < l.length → j < k → (f x).set j u = f x' → (recs f (l.set i x)).set (i * k + j) u = recs f (l.set i x')
  | [], i, j, x, x', u, h, _, _ => by simp at h
  | y :: l, 0, j, x, x', u, _, hj, h => by
    rw [List.set_cons_zero, List.set_cons_zero, recs_consV, recs_consV, Nat.zero_mul, Nat.zero_add, List.set_append_left _ _ (by rw [hf]; exact hj), h]
  | y :: l, i + 1, j, x, x', u, hi, hj, h => by
    rw [List.set_cons_succ, List.set_cons_succ, recs_consV, recs_consV, List.set_append_right _ _ (by rw [hf, Nat.succ_mul]; omega), hf, show (i + 1) * k + j - k = i * k + j by rw [Nat.succ_mul]; omega, recs_cellV hf l i j x x' u (by simpa using hi) hj h]
theorem recs_hi {O : List Rg} {j : Nat} {p : Rg} (v : Ve) (h : O[j]? = some p) : (((recs rgC O).set (j * 6 + 3) (.int .i64 v.a)).set (j * 6 + 4) (.int .i64 v.b)).set (j * 6 + 5) (.int .i64 v.c) = recs rgC (O.set j (p.1, v)) := by
  have hl := (List.getElem?_eq_some_iff.1 h).1
  have h0 : O.set j p = O := by
    have := (List.getElem?_eq_some_iff.1 h).2
    rw [← this]
    exact List.set_getElem_self hl
  have h1 := recs_cellV rgC_len O j 3 p (p.1, ⟨v.a, p.2.b, p.2.c⟩) (.int .i64 v.a) hl (by omega) rfl
  have h2 := recs_cellV rgC_len O j 4 (p.1, ⟨v.a, p.2.b, p.2.c⟩) (p.1, ⟨v.a, v.b, p.2.c⟩) (.int .i64 v.b) hl (by omega) rfl
  have h3 := recs_cellV rgC_len O j 5 (p.1, ⟨v.a, v.b, p.2.c⟩) (p.1, v) (.int .i64 v.c) hl (by omega) rfl
  rw [h0] at h1
  rw [h1, h2, h3]
/-- Is a range joined to the last one? -/
def jnR (O : List Rg) (r : Rg) : Bool := match O.getLast? with
  | none => false
  | some p => decide (vn r.1 ≤ vn p.2 + 1)
def ReaPost (L : List Im) (t : Ve) (w : World) (e : Ending) (w' : World) : Prop :=
  ∃ (O : List Rg) (A : Option Addr) (c n : Nat), n = O.length ∧ n ≤ 17 ∧ (∀ r ∈ O, RgOk r) ∧ (∀ v, VeOk v → ((O.any fun r => inR r v) = true ↔ Rch L t v)) ∧ e = .returned (.tuple #[.slice A n c, .int .i64 0]) ∧ w'.ownsRow w.heap.size 42 6 (.slice A n c) n (recs rgC O) ∧ Below w.heap.size w w'
theorem cells_addO {w : World} {b o : Nat} {xs : List Value} (h : Cells w b o xs) : ∀ j u, xs[j]? = some u → w.cell? ((⟨b, o, none⟩ : Addr).add j) = some u := by
  intro j u hj
  rw [Addr.add_lit]
  exact h j u hj
set_option maxRecDepth 100000 in
set_option maxHeartbeats 16000000 in
theorem reach_any (L : List Im) (t : Ve) (N C : Nat) (AL : Option Addr) (w : World) (hI : ImsI w w.heap.size AL L) (hN : L.length = N) (hL : ImsOk L) (ht : VeOk t) :
    Calls Tryz.prog 11 #[.slice AL N C, .string ⟨#[109]⟩, veV t] w fun e w' => ReaPost L t w e w' := by
  obtain ⟨ir0, hir0, hzr0, hzr1, hzr2⟩ := info_parts Tryz.infoRg
  have hN8 : N ≤ 8 := by have := hL.len; omega
  obtain ⟨g5, eg5⟩ : ∃ g, g = w.heap.size := ⟨_, rfl⟩
  obtain ⟨w0, e0⟩ : ∃ V : World, V = w.alloc (veB t) := ⟨_, rfl⟩
  have hb0 : Below w.heap.size w w0 := by rw [e0]; exact (Below.refl _ _).alloc (Nat.le_refl _) _
  have hg0 : w0.heap[g5]? = some (veB t) := by rw [e0, eg5]; exact heap_new w _
  have hl0 := (Array.getElem?_eq_some_iff.1 hg0).1
  have HI := Lib.hid (hI.up hb0)
  have HB0 := Lib.hid hb0
  have HG0 := Lib.hid hg0
  have HN := Lib.hid hN
  have HL := Lib.hid hL
  have HTV := Lib.hid ht
  obtain ⟨w1, e1⟩ : ∃ V : World, V = w0.alloc (.cells #[.int .i64 t.a, .int .i64 t.b, .int .i64 t.c] 29) := ⟨_, rfl⟩
  have hb1 : Below w0.heap.size w0 w1 := by rw [e1]; exact (Below.refl _ _).alloc (Nat.le_refl _) _
  have hr1 : Row w1 w1.heap.size (some ⟨w0.heap.size, 0, none⟩) (recs veC [t]) := .inr ⟨w0.heap.size, 0, rfl, by rw [e1]; simp, by
    rw [e1]
    exact Cells.new _ _ _ _ _ rfl⟩
  have HMF := Lib.hid (modelFault_any L N C AL [t] 1 1 (some ⟨w0.heap.size, 0, none⟩) w1 (HI.out.up hb1) hN hL rfl (by omega) hr1 (by intro u hu; rw [List.mem_singleton] at hu; rw [hu]; exact ht))
  have HB1 := Lib.hid hb1
  have q0 := cell_of_blk (j := 0) hg0 rfl
  have q1 := cell_of_blk (j := 1) hg0 rfl
  have q2 := cell_of_blk (j := 2) hg0 rfl
  unfold veB at e0
  unfold veV
  clear hb0 hg0 hN hL ht hI hb1 hr1
  go_enter Tryz.func11, Tryz.ntmps11
  go_upto_region 1 with (fail)
  rw [← eg5, ← e0]
  clear e0 eg5
  go_wp2_with (fail)
  rw [← e1]
  clear e1
  refine HMF.out.mono ?_
  rintro e w2 ⟨rfl, hb2⟩
  have HB2 := Lib.hid (HB1.out.trans (hb2.mono HB1.out.size))
  have HG2 := Lib.hid ((HB2.out.block g5 hl0).trans HG0.out)
  have hg2 := HG2.out
  have HI2 := Lib.hid (HI.out.up HB2.out)
  have HCO := Lib.hid (costs_any L t N C AL w2 HI2.out HN.out HL.out HTV.out)
  unfold CosPost veV at HCO
  have hl2 := (Array.getElem?_eq_some_iff.1 hg2).1
  clear q0 q1 q2 hb2 HMF
  have q0 := cell_of_blk (j := 0) hg2 rfl
  have q1 := cell_of_blk (j := 1) hg2 rfl
  have q2 := cell_of_blk (j := 2) hg2 rfl
  clear hg2
  go_wp2_with (fail)
  refine HCO.out.mono ?_
  rintro e w3 ⟨m, T, rfl, hm, hmw, hT, hb3⟩
  have HT := Lib.hid hT
  have HM3 := Lib.hid hm
  have HI3 := Lib.hid (HI2.out.up hb3)
  have HB3 := Lib.hid (HB2.out.trans (hb3.mono HB2.out.size))
  have hg3 := (hb3.block g5 hl2).trans HG2.out
  have hl3 := (Array.getElem?_eq_some_iff.1 hg3).1
  obtain ⟨w4, e4⟩ : ∃ V : World, V = w3.alloc (.cells #[.int .i64 t.a, .int .i64 t.b, .int .i64 t.c, .int .i64 t.a, .int .i64 t.b, .int .i64 t.c] 42) := ⟨_, rfl⟩
  have hb4 : Below w3.heap.size w3 w4 := by rw [e4]; exact (Below.refl _ _).alloc (Nat.le_refl _) _
  obtain ⟨g10, eg10⟩ : ∃ y, y = w3.heap.size := ⟨_, rfl⟩
  have HO4 := Lib.hid (show w4.ownsRow w3.heap.size 42 6 (.slice (some ⟨g10, 0, none⟩) 1 1) 1 (recs rgC (alR (L.take 0) T t)) from by
    rw [e4, eg10]
    exact World.ownsRow_lit w3 #[.int .i64 t.a, .int .i64 t.b, .int .i64 t.c, .int .i64 t.a, .int .i64 t.b, .int .i64 t.c] 1 (Nat.le_refl _) (by unfold maxLen; omega) (by rfl))
  have HB4 := Lib.hid hb4
  clear q0 q1 q2 hm hT hb3 HCO hb4 hmw
  have q0 := cell_of_blk (j := 0) hg3 rfl
  have q1 := cell_of_blk (j := 1) hg3 rfl
  have q2 := cell_of_blk (j := 2) hg3 rfl
  clear hg3
  go_upto_region 6 with (fail)
  rw [← eg10, ← e4]
  clear e4 eg10 q0 q1 q2
  go_wp2_with (fail)
  go_loopw [10, 37] (fun s u wx => ∃ (k : Nat) (A : Option Addr) (c n : Nat), k ≤ N ∧ n ≤ 1 + 2 * k ∧ u = .int .i64 (k : Int) ∧ s = .slice A n c ∧ Hid ((alR (L.take k) T t).length = n ∧ wx.ownsRow w3.heap.size 42 6 (.slice A n c) n (recs rgC (alR (L.take k) T t)) ∧ Below w3.heap.size w3 wx)) (fun _ u _ => N - (intOf u).toNat)
  case atStart => exact ⟨0, some ⟨g10, 0, none⟩, 1, 1, Nat.zero_le _, by omega, rfl, rfl, Lib.hid ⟨rfl, HO4.out, HB4.out⟩⟩
  case round =>
    obtain ⟨k, A, c, n, hk, hnk, rfl, rfl, HR⟩ := hrel
    have hrs := HR.out.2.2.size
    by_cases hlt : k < N
    case pos =>
      have hltI : (k : Int) < (N : Int) := by omega
      obtain ⟨x, hx⟩ : ∃ x, L[k]? = some x := ⟨_, List.getElem?_eq_getElem (by have := HN.out; omega)⟩
      have hrw := (HI3.out.row.below HR.out.2.2)
      obtain ⟨b, o, rfl, hbw, hC⟩ := hrw.posR imC_len (by omega) (by have := HN.out; omega)
      have hbr : b < wr.heap.size := by omega
      have c0 : wr.cell? ⟨b, o + k * 6, none⟩ = some (.int .i64 x.v.a) := rec_cell imC_len hC k x hx 0 _ rfl
      have c1 := rec_cell imC_len hC k x hx 1 _ rfl
      have c2 := rec_cell imC_len hC k x hx 2 _ rfl
      have c3 := rec_cell imC_len hC k x hx 3 _ rfl
      have c4 := rec_cell imC_len hC k x hx 4 _ rfl
      have c5 := rec_cell imC_len hC k x hx 5 _ rfl
      have hxm := List.mem_of_getElem? hx
      have HX := Lib.hid (HL.out.ok x hxm)
      have HXE := Lib.hid hx
      have HXI := Lib.hid (((HI3.out.all x hxm).below HR.out.2.2).mono hrs)
      have hmr := HM3.out.below HR.out.2.2
      clear hrw hC hx
      go_upto_region 9 with (fail)
      obtain ⟨gx, egx⟩ : ∃ y, y = wr.heap.size := ⟨_, rfl⟩
      obtain ⟨w5, e5⟩ : ∃ V : World, V = wr.alloc (.cells #[.int .i64 x.v.a, .int .i64 x.v.b, .int .i64 x.v.c, .slice x.ma x.mo.length x.mc, .slice x.fa x.rs.length x.fc, .int .i64 x.sz] 91) := ⟨_, rfl⟩
      have hb5 : Below wr.heap.size wr w5 := by rw [e5]; exact (Below.refl _ _).alloc (Nat.le_refl _) _
      have hg5 : w5.heap[gx]? = some (imB x) := by rw [e5, egx]; exact heap_new wr _
      rw [← egx, ← e5]
      have hl5 := (Array.getElem?_eq_some_iff.1 hg5).1
      have hlk := look_vm (k := x.v) (hmr.below hb5)
      obtain ⟨d0, ed0⟩ : ∃ d, d = (vmG x.v T).getD (0, 0) := ⟨_, rfl⟩
      obtain ⟨hY, ehY⟩ : ∃ d, d = (vmG x.v T).isSome := ⟨_, rfl⟩
      rw [← ed0, ← ehY] at hlk
      have HHY := Lib.hid ehY
      have HB5 := Lib.hid hb5
      have HG5 := Lib.hid hg5
      unfold veV coV at hlk
      have q0 := cell_of_blk (j := 0) hg5 rfl
      have q1 := cell_of_blk (j := 1) hg5 rfl
      have q2 := cell_of_blk (j := 2) hg5 rfl
      clear egx e5 hb5 hg5 hmr ed0 ehY c0 c1 c2 c3 c4 c5 hbr
      go_upto_region 10 with (fail)
      obtain ⟨w6, e6⟩ : ∃ V : World, V = w5.alloc (.cells #[.int .i64 d0.1, .int .i64 d0.2] 99) := ⟨_, rfl⟩
      have hb6 : Below w5.heap.size w5 w6 := by rw [e6]; exact (Below.refl _ _).alloc (Nat.le_refl _) _
      rw [← e6]
      have HB6 := Lib.hid (HB5.out.trans (hb6.mono HB5.out.size))
      have hg6 := (hb6.block gx hl5).trans HG5.out
      have hl6 := (Array.getElem?_eq_some_iff.1 hg6).1
      have HG6 := Lib.hid hg6
      have HXI6 := Lib.hid (HXI.out.up HB6.out)
      have k3 : w6.cell? ⟨gx, 3, none⟩ = some (.slice x.ma x.mo.length x.mc) := cell_of_blk hg6 rfl
      have HCM := Lib.hid (contM_any x.mo x.mo.length x.mc 0 x.ma w6 rfl (by have := (mo_lt HX.out).1; omega) (mo_lt HX.out).2 (by omega) HXI6.out.mo)
      rw [hasM_mem] at HCM
      unfold mdT at HCM
      clear e6 hb6 hg6 hlk q0 q1 q2 hl5
      go_cut [54] (fun s wx => s = .bool (hY && hasM x) ∧ Hid (wx = w6))
      case first =>
        cases hY with
        | false =>
          go_wp2_with (fail)
          go_meet
          exact ⟨by rw [Bool.false_and], Lib.hid rfl⟩
        | true =>
          go_wp2_with (fail)
          refine HCM.out.mono ?_
          rintro e wz ⟨rfl, rfl⟩
          go_wp2_with (fail)
          go_meet
          exact ⟨by rw [Bool.true_and], Lib.hid rfl⟩
      case rest =>
      obtain ⟨rfl, HWC⟩ := hcut
      have hwc := HWC.out
      subst hwc
      obtain ⟨w7, rfl⟩ : ∃ wy : World, wy = wc := ⟨_, rfl⟩
      have HSN := Lib.hid (show alR (L.take (k + 1)) T t = alR (L.take k) T t ++ (if (hY && hasM x) = true then x.rs else []) from by rw [alR_snoc HXE.out]; unfold rkI; rw [HHY.out])
      have HR7 := Lib.hid (show w7.ownsRow w3.heap.size 42 6 (.slice A n c) n (recs rgC (alR (L.take k) T t)) ∧ Below w3.heap.size w3 w7 from ⟨own_below HR.out.2.1 HB6.out, HR.out.2.2.trans (HB6.out.mono hrs)⟩)
      clear HCM k3
      cases hmc : (hY && hasM x) with
      | false =>
        rw [hmc] at HSN
        have HE := Lib.hid (show alR (L.take (k + 1)) T t = alR (L.take k) T t from HSN.out.trans (by simp))
        clear hrs
        go_wp2_with (fail)
        go_roundw
        case rel => exact ⟨k + 1, A, c, n, by omega, by omega, by go_num, rfl, Lib.hid (by rw [HE.out]; exact ⟨HR.out.1, HR7.out⟩)⟩
        case measure => simp [intOf]; omega
      | true =>
        rw [hmc] at HSN
        have HE := Lib.hid (show alR (L.take (k + 1)) T t = alR (L.take k) T t ++ x.rs from HSN.out.trans (by simp))
        have hg7 := HG6.out
        obtain ⟨Q, eQ⟩ : ∃ Q, Q = x.rs.length := ⟨_, rfl⟩
        have hQ2 : Q ≤ 2 ∧ 0 < Q := by have := HX.out.rl; have := HX.out.rn; omega
        have HQE := Lib.hid eQ
        obtain ⟨b7, o7, efa, hb7, hC7⟩ := HXI6.out.rs.posR rgC_len (by omega) HX.out.rn
        have k4 : w7.cell? ⟨gx, 4, none⟩ = some (.slice (some ⟨b7, o7, none⟩) Q x.fc) := by
          have h : w7.cell? ⟨gx, 4, none⟩ = some (.slice x.fa x.rs.length x.fc) := cell_of_blk hg7 rfl
          rw [efa, ← eQ] at h
          exact h
        have HC7 := Lib.hid hC7
        have hbs := HR7.out.2.size
        clear hg7 eQ efa hC7 hrs
        go_wp2_with (at_builtin; refine wpList_append_own2 _ rfl _ _ 37 rfl w3.heap.size 42 ir0 _ 6 48 Tryz.underlying37 hir0 hzr0 hzr1 hzr2 rfl (by decide) _ _ _ rfl HR7.out.1 ⟨b7, o7, none⟩ Q x.fc (recs rgC x.rs) rfl ?c1 ?c2 ?c3 ?c4 ?c5 ?c6 ?_)
        case c1 => rw [recs_length rgC_len, HQE.out]
        case c2 => exact HC7.out
        case c3 => exact recs_one rgC_one _
        case c4 => unfold maxLen; omega
        case c5 => omega
        try (case c6 => exact hbs)
        intro v13 w13 ho13 hg13 hm13
        obtain ⟨A3, c3, rfl⟩ := own_slice ho13
        have HR3 := Lib.hid (show (alR (L.take (k + 1)) T t).length = n + Q ∧ w13.ownsRow w3.heap.size 42 6 (.slice A3 (n + Q) c3) (n + Q) (recs rgC (alR (L.take (k + 1)) T t)) ∧ Below w3.heap.size w3 w13 from ⟨by rw [HE.out, List.length_append, HR.out.1, HQE.out], by
          have e : recs rgC (alR (L.take (k + 1)) T t) = recs rgC (alR (L.take k) T t) ++ recs rgC x.rs := by rw [HE.out]; simp [recs]
          rw [e]; exact ho13, HR7.out.2.grown hg13 HR7.out.2.size (fun q hq => (HR7.out.1.lt q hq).1)⟩)
        clear ho13 hg13 hm13 hbs k4
        go_wp2_with (fail)
        go_roundw
        case rel => exact ⟨k + 1, A3, c3, n + Q, by omega, by omega, by go_num, rfl, HR3⟩
        case measure => simp [intOf]; omega
    case neg =>
      have hltI : ¬ (k : Int) < (N : Int) := by omega
      have hkN : L.take k = L := List.take_of_length_le (by have := HN.out; omega)
      obtain ⟨P, eP⟩ : ∃ P, P = alR L T t := ⟨_, rfl⟩
      have HP := Lib.hid eP
      have HRP := Lib.hid (show P.length = n ∧ wr.ownsRow w3.heap.size 42 6 (.slice A n c) n (recs rgC P) ∧ Below w3.heap.size w3 wr from by
        have h := HR.out
        rw [hkN, ← eP] at h
        exact h)
      obtain ⟨w5, ew5⟩ : ∃ V : World, V = wr := ⟨_, rfl⟩
      rw [← ew5] at HRP ⊢
      have hn17 : n ≤ 17 := by omega
      have HSO := Lib.hid (sortR_any P n c w3.heap.size A w5 HRP.out.1 (by omega) HRP.out.2.1)
      unfold SortRPost at HSO
      clear eP hkN HR ew5 hrs
      go_wp2_with (fail)
      refine HSO.out.mono ?_
      rintro e w6 ⟨rfl, S, hperm, hSn, hsort, hoS, hgS⟩
      have HS := Lib.hid (show S.length = n ∧ (∀ r ∈ S, RgOk r) ∧ S.Pairwise (fun x y => vn x.1 ≤ vn y.1) ∧ (∀ v, VeOk v → ((S.any fun r => inR r v) = true ↔ Rch L t v)) from by
        have hok : ∀ r ∈ S, RgOk r := fun r hr => alR_ok HL.out HTV.out r (by rw [← HP.out]; exact hperm.mem_iff.1 hr)
        refine ⟨hSn, hok, ?_, fun v hv => ?_⟩
        · refine List.Pairwise.imp_of_mem ?_ hsort
          intro x y hx hy h
          have := cmpV_lt (hok y hy).lo (hok x hx).lo
          omega
        · rw [perm_any hperm, HP.out]
          exact alR_any HL.out HTV.out hv HT.out)
      have hg6s := hgS.size
      have HRS := Lib.hid (own_row hoS)
      have HB6 := Lib.hid (show Below w.heap.size w w6 from by
        have h1 := HRP.out.2.2.grown hgS HRP.out.2.2.size (fun q hq => (HRP.out.2.1.lt q hq).1)
        exact HB0.out.trans ((HB3.out.trans (h1.mono HB3.out.size)).mono HB0.out.size))
      clear hperm hSn hsort hoS hgS HSO hg6s
      go_wp2_with (fail)
      go_loopw [15, 64] (fun s u wx => ∃ (k : Nat) (O : List Rg) (A : Option Addr) (c q : Nat), k ≤ n ∧ q ≤ k ∧ u = .int .i64 (k : Int) ∧ s = .slice A q c ∧ Hid (O.length = q ∧ MgI (S.take k) O ∧ wx.ownsRow w6.heap.size 42 6 (.slice A q c) q (recs rgC O) ∧ Below w6.heap.size w6 wx)) (fun _ u _ => n - (intOf u).toNat)
      case atStart => exact ⟨0, [], none, 0, 0, Nat.zero_le _, Nat.zero_le _, rfl, rfl, Lib.hid ⟨rfl, MgI.nil, World.ownsRow_nil _ _ _ _, Below.refl _ _⟩⟩
      case round =>
        obtain ⟨k, O, Ao, co, q, hk, hqk, rfl, rfl, HR⟩ := hrel
        have hrs := HR.out.2.2.2.size
        by_cases hlt : k < n
        case neg =>
          have hltI : ¬ (k : Int) < (n : Int) := by omega
          have HF := Lib.hid (show ReaPost L t w (.returned (.tuple #[.slice Ao q co, .int .i64 0])) wr from by
            have h1 := HR.out.2.1
            rw [List.take_of_length_le (by have := HS.out.1; omega)] at h1
            exact ⟨O, Ao, co, q, HR.out.1.symm, by omega, h1.ok, fun v hv => by rw [h1.eq]; exact HS.out.2.2.2 v hv, rfl, own_mono HR.out.2.2.1 HB6.out.size, HB6.out.trans (HR.out.2.2.2.mono HB6.out.size)⟩)
          clear hrs
          go_wp2_with (fail)
          refine bodyPost_ret (v := .tuple #[.slice Ao q co, .int .i64 0]) (by simp [results, Tryz.results11, go_sem]) rfl ?_
          exact HF.out
        case pos =>
        have hltI : (k : Int) < (n : Int) := by omega
        obtain ⟨r, hr⟩ : ∃ r, S[k]? = some r := ⟨_, List.getElem?_eq_getElem (by have := HS.out.1; omega)⟩
        obtain ⟨b, o, eA, hbw, hC⟩ := (HRS.out.below HR.out.2.2.2).posR rgC_len (by omega) (by have := HS.out.1; omega)
        have hbr : b < wr.heap.size := by omega
        have c0 : wr.cell? ⟨b, o + k * 6, none⟩ = some (.int .i64 r.1.a) := rec_cell rgC_len hC k r hr 0 _ rfl
        have c1 := rec_cell rgC_len hC k r hr 1 _ rfl
        have c2 := rec_cell rgC_len hC k r hr 2 _ rfl
        have c3 := rec_cell rgC_len hC k r hr 3 _ rfl
        have c4 := rec_cell rgC_len hC k r hr 4 _ rfl
        have c5 := rec_cell rgC_len hC k r hr 5 _ rfl
        have HRE := Lib.hid hr
        have HROK := Lib.hid (HS.out.2.1 r (List.mem_of_getElem? hr))
        have HLOW := Lib.hid (show ∀ p ∈ S.take k, vn p.1 ≤ vn r.1 from fun p hp => by
          obtain ⟨j, hj⟩ := List.getElem?_of_mem hp
          rw [List.getElem?_take] at hj
          split at hj
          · have h1 := (List.pairwise_iff_getElem.1 HS.out.2.2.1) j k (List.getElem?_eq_some_iff.1 hj).1 (List.getElem?_eq_some_iff.1 hr).1 (by omega)
            rw [(List.getElem?_eq_some_iff.1 hj).2, (List.getElem?_eq_some_iff.1 hr).2] at h1
            exact h1
          · cases hj)
        have HTAK := Lib.hid (show S.take (k + 1) = S.take k ++ [r] from by rw [List.take_add_one, hr]; rfl)
        rw [eA]
        clear hC hr
        go_upto_region 18 with (fail)
        obtain ⟨g17, eg17⟩ : ∃ y, y = wr.heap.size := ⟨_, rfl⟩
        obtain ⟨w7, e7⟩ : ∃ V : World, V = wr.alloc (.cells #[.int .i64 r.1.a, .int .i64 r.1.b, .int .i64 r.1.c, .int .i64 r.2.a, .int .i64 r.2.b, .int .i64 r.2.c] 42) := ⟨_, rfl⟩
        have hb7 : Below wr.heap.size wr w7 := by rw [e7]; exact (Below.refl _ _).alloc (Nat.le_refl _) _
        have hg7 : w7.heap[g17]? = some (rgB r) := by rw [e7, eg17]; exact heap_new wr _
        rw [← eg17, ← e7]
        have hl7 := (Array.getElem?_eq_some_iff.1 hg7).1
        have HG7 := Lib.hid hg7
        have HR7 := Lib.hid (show w7.ownsRow w6.heap.size 42 6 (.slice Ao q co) q (recs rgC O) ∧ Below w6.heap.size w6 w7 from ⟨own_below HR.out.2.2.1 hb7, HR.out.2.2.2.trans (hb7.mono hrs)⟩)
        have h1767 : w6.heap.size ≤ g17 := by omega
        have HOB := Lib.hid (show ∀ z, (Value.slice Ao q co).ownBlock = some z → z < g17 from fun z hz => by have := (HR.out.2.2.1.lt z hz).2; omega)
        have hq17 : q ≤ 17 := by omega
        clear eg17 e7 hb7 hg7 c0 c1 c2 c3 c4 c5 hbr hrs
        have hqlen := HR.out.1
        rcases own_two HR7.out.1 with ⟨eAo, hq0, eco⟩ | ⟨bo, eAo, hbo, hlo⟩
        · subst eAo hq0 eco
          have hO : O = [] := List.eq_nil_of_length_eq_zero hqlen
          clear hqlen
          go_upto_region 19 with (fail)
          go_upto_region 19 with (fail)
          refine qRegion (by kernel_rfl) (by kernel_rfl) ?_
          repeat (first
            | (go_big_quiet_want; refine qVal (fun V hV => (by (go_simp; try rfl))) ?_; simp only [Act.put, List.setIfInBounds_toArray, List.set_cons_zero, List.set_cons_succ]; go_big_quiet_on)
            | go_big_quiet_skip)
          refine wpQuiet_nil ?_
          intro w8 hb8
          have hg8 := (hb8.block g17 hl7).trans HG7.out
          have hl8 := (Array.getElem?_eq_some_iff.1 hg8).1
          have HR8 := Lib.hid (show w8.ownsRow w6.heap.size 42 6 (.slice none 0 0) 0 (recs rgC O) ∧ Below w6.heap.size w6 w8 from ⟨own_below HR7.out.1 hb8, HR7.out.2.trans (hb8.mono HR7.out.2.size)⟩)
          clear hb8 hO
          have HMG := Lib.hid (show MgI (S.take (k + 1)) (O ++ [r]) from by rw [HTAK.out]; exact HR.out.2.1.push HROK.out)
          have k0 := cell_of_blk (j := 0) hg8 rfl
          have k1 := cell_of_blk (j := 1) hg8 rfl
          have k2 := cell_of_blk (j := 2) hg8 rfl
          have k3 := cell_of_blk (j := 3) hg8 rfl
          have k4 := cell_of_blk (j := 4) hg8 rfl
          have k5 := cell_of_blk (j := 5) hg8 rfl
          have hba : Below w8.heap.size w8 (w8.alloc (.cells #[.int .i64 r.1.a, .int .i64 r.1.b, .int .i64 r.1.c, .int .i64 r.2.a, .int .i64 r.2.b, .int .i64 r.2.c] 42)) := (Below.refl _ _).alloc (Nat.le_refl _) _
          have HAL := Lib.hid (own_below HR8.out.1 hba)
          have HBA := Lib.hid (HR8.out.2.trans (hba.mono HR8.out.2.size))
          have hbs := HBA.out.size
          have hbs2 := HR8.out.2.size
          clear hg8 hba
          go_wp2_with (at_builtin; refine wpList_append_own2 _ rfl _ _ 37 rfl w6.heap.size 42 ir0 _ 6 48 Tryz.underlying37 hir0 hzr0 hzr1 hzr2 rfl (by decide) _ _ _ rfl HAL.out ⟨_, 0, none⟩ 1 1 (rgC r) rfl rfl ?c1 ?c2 ?c3 ?c4 ?c5 ?_)
          case c1 => first | exact fun j u h => h | exact cells_add (cells_atV (by rfl) rfl)
          case c2 => exact rgC_one r
          case c3 => unfold maxLen; omega
          case c4 => omega
          case c5 => first | exact hbs | omega
          intro v13 w13 ho13 hg13 hm13
          obtain ⟨A3, c3, rfl⟩ := own_slice ho13
          have HE := Lib.hid (show (O ++ [r]).length = 0 + 1 ∧ MgI (S.take (k + 1)) (O ++ [r]) ∧ w13.ownsRow w6.heap.size 42 6 (.slice A3 (0 + 1) c3) (0 + 1) (recs rgC (O ++ [r])) ∧ Below w6.heap.size w6 w13 from ⟨by rw [List.length_append, HR.out.1]; rfl, HMG.out, by
            have e : recs rgC (O ++ [r]) = recs rgC O ++ rgC r := by simp [recs]
            rw [e]; exact ho13, HBA.out.grown hg13 HBA.out.size (fun z hz => (HAL.out.lt z hz).1)⟩)
          clear ho13 hg13 hm13 hbs hbs2 HAL HBA k0 k1 k2 k3 k4 k5
          go_wp2_with (fail)
          go_roundw
          case rel => exact ⟨k + 1, O ++ [r], A3, c3, 0 + 1, by omega, by omega, by go_num, rfl, HE⟩
          case measure => simp [intOf]; omega
        subst eAo
        go_upto_region 19 with (fail)
        go_cut [18, 85] (fun a2 s wx => a2 = .int .i64 ((q : Int) - 1) ∧ s = .bool (jnR O r) ∧ Below w7.heap.size w7 wx)
        case first =>
          rcases List.eq_nil_or_concat O with hO | ⟨O', p, hO⟩
          · have hq0 : q = 0 := by rw [← hqlen, hO]; rfl
            have HJ := Lib.hid (show jnR O r = false from by rw [hO]; rfl)
            subst hq0
            clear hO hqlen
            go_upto_region 19 with (fail)
            refine qRegion (by kernel_rfl) (by kernel_rfl) ?_
            repeat (first
              | (go_big_quiet_want; refine qVal (fun V hV => (by (go_simp; try rfl))) ?_; simp only [Act.put, List.setIfInBounds_toArray, List.set_cons_zero, List.set_cons_succ]; go_big_quiet_on)
              | go_big_quiet_skip)
            refine wpQuiet_nil ?_
            intro w8 hb8
            go_wp2_with (fail)
            go_meet
            exact ⟨by first | rfl | (congr 1) | (congr 1; omega), by rw [HJ.out], hb8⟩
          · obtain ⟨j, hj⟩ : ∃ j, j = O'.length := ⟨_, rfl⟩
            have hq0 : q = j + 1 := by rw [← hqlen, hO, List.concat_eq_append, List.length_append, ← hj]; rfl
            have hjn : jnR O r = decide (vn r.1 ≤ vn p.2 + 1) := by
              rw [hO]
              unfold jnR
              simp
            have hpO : O[j]? = some p := by rw [hO, hj]; simp
            have hpok := HR.out.2.1.ok p (List.mem_of_getElem? hpO)
            subst hq0
            have hCo : Cells w7 bo 0 (recs rgC O) := fun i u hi => by have h := HR7.out.1.cells (g := bo) rfl i u hi; rw [Addr.add_lit] at h; exact h
            have hbo2 : bo < w7.heap.size := (HR7.out.1.lt bo rfl).2
            have HN1 := Lib.hid (fun V => number_any r.1 V HROK.out.lo)
            have HN2 := Lib.hid (fun V => number_any p.2 V hpok.hi)
            unfold veV at HN1 HN2
            have hw1 : IntKind.i64.wrap ((j : Int) + 1 - 1) = (j : Int) := by rw [IntKind.wrap_i64]; omega
            have hw2 : IntKind.i64.wrap (j : Int) = (j : Int) := by rw [IntKind.wrap_i64]; omega
            have hpr := vn_range hpok.hi
            obtain ⟨pn, epn⟩ : ∃ z, z = vn p.2 := ⟨_, rfl⟩
            obtain ⟨rn, ern⟩ : ∃ z, z = vn r.1 := ⟨_, rfl⟩
            rw [← epn] at HN2 hpr hjn
            rw [← ern] at HN1 hjn
            have HJ := Lib.hid hjn
            have hw3 : IntKind.i64.wrap (pn + 1) = pn + 1 := by rw [IntKind.wrap_i64]; omega
            have hjI : (j : Int) < ((j + 1 : Nat) : Int) := by omega
            have hjI2 : (j : Int) < (j : Int) + 1 := by omega
            have hj0 : (0 : Int) ≤ (j : Int) := by omega
            have hjN : j < j + 1 := by omega
            have HQ := Lib.hid (fun (V : World) (hV : Below w7.heap.size w7 V) => show V.cell? ⟨g17, 0, none⟩ = some (.int .i64 r.1.a) ∧ V.cell? ⟨g17, 1, none⟩ = some (.int .i64 r.1.b) ∧ V.cell? ⟨g17, 2, none⟩ = some (.int .i64 r.1.c) ∧ V.cell? ⟨bo, j * 6 + 3, none⟩ = some (.int .i64 p.2.a) ∧ V.cell? ⟨bo, j * 6 + 4, none⟩ = some (.int .i64 p.2.b) ∧ V.cell? ⟨bo, j * 6 + 5, none⟩ = some (.int .i64 p.2.c) from by
              have h1 := (hV.block g17 hl7).trans HG7.out
              have hq : ∀ i u, (recs rgC O)[i]? = some u → V.cell? ⟨bo, 0 + i, none⟩ = some u := fun i u hi => (hV.cell (p := ⟨bo, 0 + i, none⟩) hbo2).trans (hCo i u hi)
              exact ⟨cell_of_blk (j := 0) h1 rfl, cell_of_blk (j := 1) h1 rfl, cell_of_blk (j := 2) h1 rfl, (by have h := rec_cell rgC_len hq j p hpO 3 _ rfl; simpa using h), (by have h := rec_cell rgC_len hq j p hpO 4 _ rfl; simpa using h), (by have h := rec_cell rgC_len hq j p hpO 5 _ rfl; simpa using h)⟩)
            clear hO hqlen hpO hCo hj epn ern hjn hbo hlo
            go_upto_region 19 with (fail)
            refine qRegion (by kernel_rfl) (by kernel_rfl) ?_
            repeat (first
              | (go_big_quiet_want; refine qVal (fun V hV => (by (obtain ⟨q0, q1, q2, p3, p4, p5⟩ := HQ.out V hV; go_simp; try rfl))) ?_; simp only [Act.put, List.setIfInBounds_toArray, List.set_cons_zero, List.set_cons_succ]; go_big_quiet_on)
              | (go_big_quiet_want
                 refine qCall (fun V hV => (by (obtain ⟨q0, q1, q2, p3, p4, p5⟩ := HQ.out V hV; go_simp; exact ⟨rfl, rfl⟩))) (fun V hV => (by first
                   | with_reducible exact (HN1.out V).mono (fun e w' h => ⟨h.1, hV.trans (h.2.mono hV.size)⟩)
                   | with_reducible exact (HN2.out V).mono (fun e w' h => ⟨h.1, hV.trans (h.2.mono hV.size)⟩))) ?_
                 simp only [Act.put, List.setIfInBounds_toArray, List.set_cons_zero, List.set_cons_succ]; go_big_quiet_on)
              | go_big_quiet_skip)
            refine wpQuiet_nil ?_
            intro w8 hb8
            clear HQ HN1 HN2
            go_wp2_with (fail)
            go_meet
            exact ⟨by first | rfl | (congr 1) | (congr 1; omega), by rw [HJ.out], hb8⟩
        case rest =>
        obtain ⟨rfl, rfl, hb8⟩ := hcut
        obtain ⟨w8, rfl⟩ : ∃ wy : World, wy = wc := ⟨_, rfl⟩
        have hg8 := (hb8.block g17 hl7).trans HG7.out
        have hl8 := (Array.getElem?_eq_some_iff.1 hg8).1
        have HG8 := Lib.hid hg8
        have HR8 := Lib.hid (show w8.ownsRow w6.heap.size 42 6 (.slice (some ⟨bo, 0, none⟩) q co) q (recs rgC O) ∧ Below w6.heap.size w6 w8 from ⟨own_below HR7.out.1 hb8, HR7.out.2.trans (hb8.mono HR7.out.2.size)⟩)
        clear hb8 hqlen
        obtain ⟨jn, ejn⟩ : ∃ z, z = jnR O r := ⟨_, rfl⟩
        rw [← ejn]
        have HJN := Lib.hid ejn
        clear ejn
        cases jn with
        | false =>
          have HMG := Lib.hid (show MgI (S.take (k + 1)) (O ++ [r]) from by rw [HTAK.out]; exact HR.out.2.1.push HROK.out)
          have k0 := cell_of_blk (j := 0) hg8 rfl
          have k1 := cell_of_blk (j := 1) hg8 rfl
          have k2 := cell_of_blk (j := 2) hg8 rfl
          have k3 := cell_of_blk (j := 3) hg8 rfl
          have k4 := cell_of_blk (j := 4) hg8 rfl
          have k5 := cell_of_blk (j := 5) hg8 rfl
          have hba : Below w8.heap.size w8 (w8.alloc (.cells #[.int .i64 r.1.a, .int .i64 r.1.b, .int .i64 r.1.c, .int .i64 r.2.a, .int .i64 r.2.b, .int .i64 r.2.c] 42)) := (Below.refl _ _).alloc (Nat.le_refl _) _
          have HAL := Lib.hid (own_below HR8.out.1 hba)
          have HBA := Lib.hid (HR8.out.2.trans (hba.mono HR8.out.2.size))
          have hbs := HBA.out.size
          have hbs2 := HR8.out.2.size
          clear hg8 hba
          go_wp2_with (at_builtin; refine wpList_append_own2 _ rfl _ _ 37 rfl w6.heap.size 42 ir0 _ 6 48 Tryz.underlying37 hir0 hzr0 hzr1 hzr2 rfl (by decide) _ _ _ rfl HAL.out ⟨_, 0, none⟩ 1 1 (rgC r) rfl rfl ?c1 ?c2 ?c3 ?c4 ?c5 ?_)
          case c1 => first | exact fun j u h => h | exact cells_add (cells_atV (by rfl) rfl)
          case c2 => exact rgC_one r
          case c3 => unfold maxLen; omega
          case c4 => omega
          case c5 => first | exact hbs | omega
          intro v13 w13 ho13 hg13 hm13
          obtain ⟨A3, c3, rfl⟩ := own_slice ho13
          have HE := Lib.hid (show (O ++ [r]).length = q + 1 ∧ MgI (S.take (k + 1)) (O ++ [r]) ∧ w13.ownsRow w6.heap.size 42 6 (.slice A3 (q + 1) c3) (q + 1) (recs rgC (O ++ [r])) ∧ Below w6.heap.size w6 w13 from ⟨by rw [List.length_append, HR.out.1]; rfl, HMG.out, by
            have e : recs rgC (O ++ [r]) = recs rgC O ++ rgC r := by simp [recs]
            rw [e]; exact ho13, HBA.out.grown hg13 HBA.out.size (fun z hz => (HAL.out.lt z hz).1)⟩)
          clear ho13 hg13 hm13 hbs hbs2 HAL HBA k0 k1 k2 k3 k4 k5
          go_wp2_with (fail)
          go_roundw
          case rel => exact ⟨k + 1, O ++ [r], A3, c3, q + 1, by omega, by omega, by go_num, rfl, HE⟩
          case measure => simp [intOf]; omega
        | true =>
          obtain ⟨O', p, hO⟩ : ∃ O' p, O = O' ++ [p] := by
            rcases List.eq_nil_or_concat O with hO | ⟨O', p, hO⟩
            · have h := HJN.out
              rw [hO] at h
              cases h
            · exact ⟨O', p, by rw [hO, List.concat_eq_append]⟩
          have hjn : vn r.1 ≤ vn p.2 + 1 := by
            have h := HJN.out
            rw [hO] at h
            unfold jnR at h
            simp at h
            exact h
          have HMG := Lib.hid (show MgI (S.take (k + 1)) (O' ++ [(p.1, vd (max (vn p.2) (vn r.2)))]) from by
            rw [HTAK.out]
            have h := HR.out.2.1
            rw [hO] at h
            exact h.join HROK.out HLOW.out hjn)
          obtain ⟨j, hj⟩ : ∃ j, j = O'.length := ⟨_, rfl⟩
          have hq0 : q = j + 1 := by rw [← HR.out.1, hO, List.length_append, ← hj]; rfl
          have hpO : O[j]? = some p := by rw [hO, hj]; simp
          have hset : ∀ v, O.set j (p.1, v) = O' ++ [(p.1, v)] := by intro v; rw [hO, hj]; simp
          have hpok := HR.out.2.1.ok p (List.mem_of_getElem? hpO)
          subst hq0
          have hCo : Cells w8 bo 0 (recs rgC O) := fun i u hi => by have h := HR8.out.1.cells (g := bo) rfl i u hi; rw [Addr.add_lit] at h; exact h
          have hbo2 : bo < w8.heap.size := (HR8.out.1.lt bo rfl).2
          have HN1 := Lib.hid (fun V => number_any p.2 V hpok.hi)
          have HN2 := Lib.hid (fun V => number_any r.2 V HROK.out.hi)
          have hpr := vn_range hpok.hi
          have hrr := vn_range HROK.out.hi
          have HNM := Lib.hid (fun V => numbered_any (max (vn p.2) (vn r.2)) V (by omega))
          obtain ⟨vm, evm⟩ : ∃ z, z = vd (max (vn p.2) (vn r.2)) := ⟨_, rfl⟩
          rw [← evm] at HNM HMG
          unfold veV at HN1 HN2 HNM
          have HSET := Lib.hid (recs_hi vm hpO)
          rw [hset] at HSET
          have HLEN := Lib.hid (show (O' ++ [(p.1, vm)]).length = j + 1 from by rw [List.length_append, ← hj]; rfl)
          have hw1 : IntKind.i64.wrap ((j : Int) + 1 - 1) = (j : Int) := by rw [IntKind.wrap_i64]; omega
          have hw2 : IntKind.i64.wrap (j : Int) = (j : Int) := by rw [IntKind.wrap_i64]; omega
          have hjI : (j : Int) < ((j + 1 : Nat) : Int) := by omega
          have hjI2 : (j : Int) < (j : Int) + 1 := by omega
          have hj0 : (0 : Int) ≤ (j : Int) := by omega
          have hjN : j < j + 1 := by omega
          have hol : (recs rgC O).length = (j + 1) * 6 := by rw [recs_length rgC_len, HR.out.1]
          have HQ := Lib.hid (fun (V : World) (hV : Below w8.heap.size w8 V) => show V.cell? ⟨g17, 3, none⟩ = some (.int .i64 r.2.a) ∧ V.cell? ⟨g17, 4, none⟩ = some (.int .i64 r.2.b) ∧ V.cell? ⟨g17, 5, none⟩ = some (.int .i64 r.2.c) ∧ V.cell? ⟨bo, j * 6 + 3, none⟩ = some (.int .i64 p.2.a) ∧ V.cell? ⟨bo, j * 6 + 4, none⟩ = some (.int .i64 p.2.b) ∧ V.cell? ⟨bo, j * 6 + 5, none⟩ = some (.int .i64 p.2.c) from by
            have h1 := (hV.block g17 hl8).trans HG8.out
            have hq : ∀ i u, (recs rgC O)[i]? = some u → V.cell? ⟨bo, 0 + i, none⟩ = some u := fun i u hi => (hV.cell (p := ⟨bo, 0 + i, none⟩) hbo2).trans (hCo i u hi)
            exact ⟨cell_of_blk (j := 3) h1 rfl, cell_of_blk (j := 4) h1 rfl, cell_of_blk (j := 5) h1 rfl, (by have h := rec_cell rgC_len hq j p hpO 3 _ rfl; simpa using h), (by have h := rec_cell rgC_len hq j p hpO 4 _ rfl; simpa using h), (by have h := rec_cell rgC_len hq j p hpO 5 _ rfl; simpa using h)⟩)
          clear hO hpO hCo hj hjn hg8 hset evm
          go_wp2_with (fail)
          go_upto_region 20 with (fail)
          refine qRegionTail 13 (by kernel_rfl) (by kernel_rfl) ?_
          simp only [List.take_succ_cons, List.take_zero, List.drop_succ_cons, List.drop_zero]
          repeat (first
            | (go_big_quiet_want; refine qVal (fun V hV => (by (obtain ⟨q3, q4, q5, p3, p4, p5⟩ := HQ.out V hV; go_simp; try rfl))) ?_; simp only [Act.put, List.setIfInBounds_toArray, List.set_cons_zero, List.set_cons_succ]; go_big_quiet_on)
            | (go_big_quiet_want
               refine qCall (fun V hV => (by (obtain ⟨q3, q4, q5, p3, p4, p5⟩ := HQ.out V hV; go_simp; exact ⟨rfl, rfl⟩))) (fun V hV => (by first
                 | with_reducible exact (HN1.out V).mono (fun e w' h => ⟨h.1, hV.trans (h.2.mono hV.size)⟩)
                 | with_reducible exact (HN2.out V).mono (fun e w' h => ⟨h.1, hV.trans (h.2.mono hV.size)⟩)
                 | with_reducible exact (HNM.out V).mono (fun e w' h => ⟨h.1, hV.trans (h.2.mono hV.size)⟩))) ?_
               simp only [Act.put, List.setIfInBounds_toArray, List.set_cons_zero, List.set_cons_succ]; go_big_quiet_on)
            | go_big_quiet_skip)
          refine wpQuiet_nil ?_
          intro w9 hb9
          obtain ⟨q3, q4, q5, p3, p4, p5⟩ := HQ.out w9 hb9
          have HR9 := Lib.hid (show w9.ownsRow w6.heap.size 42 6 (.slice (some ⟨bo, 0, none⟩) (j + 1) co) (j + 1) (recs rgC O) ∧ Below w6.heap.size w6 w9 from ⟨own_below HR8.out.1 hb9, HR8.out.2.trans (hb9.mono HR8.out.2.size)⟩)
          have f3 := HR9.out.1.frozenAt (j * 6 + 3)
          have f4 := HR9.out.1.frozenAt (j * 6 + 4)
          have f5 := HR9.out.1.frozenAt (j * 6 + 5)
          have hbo9 : bo < w9.heap.size := (HR9.out.1.lt bo rfl).2
          obtain ⟨w10, e10⟩ : ∃ V : World, V = ((w9.setCell ⟨bo, j * 6 + 3, none⟩ (.int .i64 vm.a)).setCell ⟨bo, j * 6 + 4, none⟩ (.int .i64 vm.b)).setCell ⟨bo, j * 6 + 5, none⟩ (.int .i64 vm.c) := ⟨_, rfl⟩
          have HR10 := Lib.hid (show w10.ownsRow w6.heap.size 42 6 (.slice (some ⟨bo, 0, none⟩) (j + 1) co) (j + 1) (recs rgC (O' ++ [(p.1, vm)])) ∧ Below w6.heap.size w6 w10 from by
            have h1 := (HR9.out.1.stored (j * 6 + 3) (.int .i64 vm.a)).1
            have h2 := (h1.stored (j * 6 + 4) (.int .i64 vm.b)).1
            have h3 := (h2.stored (j * 6 + 5) (.int .i64 vm.c)).1
            rw [HSET.out] at h3
            rw [e10]
            exact ⟨h3, ((HR9.out.2.setCell (show w6.heap.size ≤ bo from hbo) _).setCell (show w6.heap.size ≤ bo from hbo) _).setCell (show w6.heap.size ≤ bo from hbo) _⟩)
          clear hb9 HQ HN1 HN2 HNM
          go_wp2_with (fail)
          rw [← e10]
          clear e10 q3 q4 q5 p3 p4 p5 f3 f4 f5
          go_roundw
          case rel => exact ⟨k + 1, O' ++ [(p.1, vm)], some ⟨bo, 0, none⟩, co, j + 1, by omega, by omega, by go_num, rfl, Lib.hid ⟨HLEN.out, HMG.out, HR10.out⟩⟩
          case measure => simp [intOf]; omega

end Go.Proofs.YtidgicbhgnbidaaGreatDoor
