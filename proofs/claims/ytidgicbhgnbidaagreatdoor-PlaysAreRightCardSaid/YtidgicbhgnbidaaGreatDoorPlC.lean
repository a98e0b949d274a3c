/- A step of a play by its contract. -/
import Derived.Test.YtidgicbhgnbidaaGreatDoorPlP
import Derived.Test.YtidgicbhgnbidaaGreatDoorPlA
import Derived.Test.YtidgicbhgnbidaaGreatDoorPlB
import Derived.BigRegion
namespace Go.Proofs.YtidgicbhgnbidaaGreatDoor
open Go.RowKit

def StPost (C : Cm) (F : List Dv) (s : St) (L : List Im) (B NL CL gw mc : Nat) (AL : Option Addr) (t : Int) (w : World) (e : Ending) (w' : World) : Prop :=
  ∃ (A' : Option Addr) (c' k : Nat), e = .returned (.slice A' k c') ∧ k = (stepV C L F s.be.length s.cs s.sp t).length ∧ w'.ownsRow w.heap.size 64 6 (.slice A' k c') k (recs mkC (stepV C L F s.be.length s.cs s.sp t)) ∧ (∃ Lc, WyM B L C.t AL NL CL gw mc Lc w') ∧ w.grownBy w' (some mc)
theorem fm_snoc {α β : Type} {f : α → Option β} {l : List α} {k : Nat} {x : α} (h : l[k]? = some x) : (l.take (k + 1)).filterMap f = (l.take k).filterMap f ++ (f x).toList := by
  rw [List.take_add_one, h, List.filterMap_append]
  congr 1
/-- The mark of a device in the making. -/
def StM (w3 : World) (m : Mk) (g : Nat) (wx : World) : Prop := wx.heap[g]? = some (mkB m) ∧ w3.heap.size ≤ g ∧ Below w3.heap.size w3 wx
def StMx (w3 : World) (m : Mk) (s : Value) (wx : World) : Prop := ∃ g, s = .pointer (some ⟨g, 0, none⟩) ∧ StM w3 m g wx
theorem StM.kind {w3 wx : World} {m : Mk} {g : Nat} (h : StM w3 m g wx) (k : Int) : StM w3 ⟨m.at_, m.d, k, m.v⟩ g (wx.setCell ⟨g, 2, none⟩ (.int .i64 k)) :=
  ⟨by have hb := h.1; unfold mkB at hb; exact (setblkV (j := 2) _ hb).trans rfl, h.2.1, h.2.2.setCell h.2.1 _⟩
theorem StM.below {w3 wx wy : World} {m : Mk} {g : Nat} (h : StM w3 m g wx) (hb : Below wx.heap.size wx wy) : StM w3 m g wy :=
  ⟨(hb.block g (Array.getElem?_eq_some_iff.1 h.1).1).trans h.1, h.2.1, h.2.2.trans (hb.mono h.2.2.size)⟩
theorem Tryz.infoMp : (Tryz.prog.info? 64).map (fun i => (i.zero, i.size, i.bytes)) = some (some (.agg #[.int .i64 0, .string ⟨#[]⟩, .int .i64 0, .int .i64 0, .int .i64 0, .int .i64 0]), 6, 56) := by kernel_rfl
set_option maxRecDepth 100000 in
set_option maxHeartbeats 8000000 in
theorem step_any (C : Cm) (F : List Dv) (a : StA) (s : St) (L : List Im) (B n c ns NL CL gw mc cb : Nat) (Lc : SmL) (AF AL Ab : Option Addr) (t : Int) (w : World) (hC : CmOk C) (hF : FlOk F) (hL : ImsOk L) (hn : F.length = n) (hNL : L.length = NL)
    (ht : 0 ≤ t ∧ t ≤ 1000000) (hS : StO C F ns s) (hI : StI B C F (wvN C) a s w) (hM : WyM B L C.t AL NL CL gw mc Lc w) (hmc : mc ∉ a.all) (hr : Row w B AF (recs dvC F)) (hb : Row w B Ab (recs dkC [1])) :
    Calls Tryz.prog 66 #[.pointer (some ⟨a.s, 0, none⟩), .pointer (some ⟨gw, 0, none⟩), .slice AF n c, .slice Ab 1 cb, .int .i64 t] w fun e w' => StPost C F s L B NL CL gw mc AL t w e w' := by
  obtain ⟨id0, hid0, hzd0, hzd1, hzd2⟩ := info_parts Tryz.infoMp
  have hn6 : n ≤ 6 := by rw [← hn]; exact hF.n
  obtain ⟨cs, ecs⟩ : ∃ k, k = s.cs := ⟨_, rfl⟩
  obtain ⟨be, ebe⟩ : ∃ k, k = s.be.length := ⟨_, rfl⟩
  obtain ⟨sp, esp⟩ : ∃ k, k = s.sp := ⟨_, rfl⟩
  have hlc : F.length = cs.length := by rw [ecs]; exact hS.lc.symm
  have HLC := Lib.hid hlc
  have HE := Lib.hid (And.intro ecs (And.intro ebe esp))
  have hF6 : ∀ d ∈ F, d.k < 6 := fun d hd => (hF.ok d hd).k
  have HI := Lib.hid hI
  have HM := Lib.hid hM
  have HR := Lib.hid hr
  have HBAD := Lib.hid hb
  have HC := Lib.hid hC
  have HF := Lib.hid hF
  have HL := Lib.hid hL
  have HN := Lib.hid (And.intro hn hNL)
  have HS := Lib.hid hS
  have HMC := Lib.hid hmc
  have HF6 := Lib.hid hF6
  have HT := Lib.hid ht
  have hB := hI.sz
  clear hC hF hL hn hNL hS hI hM hmc hr hF6 hb ecs ebe esp hlc
  go_enter Tryz.func66, Tryz.ntmps66
  go_upto_region 3 with (fail)
  go_loopw [20, 11] (fun i l wr => ∃ (k m cl : Nat) (Al : Option Addr), k ≤ n ∧ m ≤ k ∧ i = .int .i64 (k : Int) ∧ l = .slice Al m cl ∧ Hid ((((F.zip cs).take k).filterMap (busyM t)).length = m ∧ wr.ownsRow w.heap.size 64 6 (.slice Al m cl) m (recs mkC (((F.zip cs).take k).filterMap (busyM t))) ∧ Below w.heap.size w wr)) (fun i _ _ => n - (intOf i).toNat)
  case atStart => exact ⟨0, 0, 0, none, Nat.zero_le _, Nat.le_refl _, rfl, rfl, Lib.hid ⟨rfl, World.ownsRow_nil _ _ _ _, Below.refl _ _⟩⟩
  case round =>
    obtain ⟨k, m, cl, Al, hk, hmk, rfl, rfl, HW⟩ := hrel
    by_cases hlt : k < n
    · have hltI : (k : Int) < (n : Int) := by omega
      obtain ⟨d, hd⟩ : ∃ d, F[k]? = some d := ⟨_, List.getElem?_eq_getElem (by have := HN.out.1; omega)⟩
      obtain ⟨x, hx⟩ : ∃ x, cs[k]? = some x := ⟨_, List.getElem?_eq_getElem (by have := HN.out.1; have := HLC.out; omega)⟩
      obtain ⟨b, hbc⟩ : ∃ b, a.cb[k]? = some b := ⟨_, List.getElem?_eq_getElem (by rw [HI.out.lb]; have := HN.out.1; omega)⟩
      have hzp : (F.zip cs)[k]? = some (d, x) := by rw [List.getElem?_zip_eq_some]; exact ⟨hd, hx⟩
      have hd6 := HF6.out d (List.mem_of_getElem? hd)
      have hix := ixF_at HF.out.ord hd
      obtain ⟨bf, o, rfl, hbw, hCl⟩ := (HR.out.below (HW.out.2.2.mono hB)).posR dvC_len (by omega) (by have := HN.out.1; omega)
      have hbr : bf < wr.heap.size := by have := HW.out.2.2.size; omega
      have c0 : wr.cell? ⟨bf, o + k * 7, none⟩ = some (.string (dvT d.k)) := rec_cell dvC_len hCl k d hd 0 _ rfl
      have c1 := rec_cell dvC_len hCl k d hd 1 _ rfl
      have c2 := rec_cell dvC_len hCl k d hd 2 _ rfl
      have c3 := rec_cell dvC_len hCl k d hd 3 _ rfl
      have c4 := rec_cell dvC_len hCl k d hd 4 _ rfl
      have c5 := rec_cell dvC_len hCl k d hd 5 _ rfl
      have c7 := rec_cell dvC_len hCl k d hd 6 _ rfl
      have HX := Lib.hid (And.intro hbc (And.intro (show s.cs[k]? = some x by rw [← HE.out.1]; exact hx) (And.intro hd6 hix)))
      have HSN := Lib.hid (fm_snoc (f := busyM t) hzp)
      clear hCl hd hx hbc hzp hd6 hix
      go_upto_region 5 with (fail)
      obtain ⟨gx, egx⟩ : ∃ y, y = wr.heap.size := ⟨_, rfl⟩
      obtain ⟨w2, e2⟩ : ∃ V : World, V = wr.alloc (.cells #[.string (dvT d.k), .string (mdT d.md), .string tnT, .int .i64 d.fw.a, .int .i64 d.fw.b, .int .i64 d.fw.c, .slice none 0 0] 67) := ⟨_, rfl⟩
      have hb2 : Below wr.heap.size wr w2 := by rw [e2]; exact (Below.refl _ _).alloc (Nat.le_refl _) _
      have hg2 : w2.heap[gx]? = some (dvB d) := by rw [e2, egx]; exact heap_new wr _
      have HW2 := Lib.hid (show w2.ownsRow w.heap.size 64 6 (.slice Al m cl) m (recs mkC (((F.zip cs).take k).filterMap (busyM t))) ∧ Below w.heap.size w w2 from ⟨own_below HW.out.2.1 hb2, HW.out.2.2.trans (hb2.mono HW.out.2.2.size)⟩)
      rw [← egx, ← e2]
      have HG2 := Lib.hid hg2
      have hlg2 := (Array.getElem?_eq_some_iff.1 hg2).1
      have HI2 := Lib.hid (HI.out.below HW2.out.2)
      obtain ⟨A6, c6, h61, _⟩ := HI2.out.st
      have hl61 := (Array.getElem?_eq_some_iff.1 h61).1
      have HQ := Lib.hid (fun (V : World) (hV : Below w2.heap.size w2 V) => show V.cell? ⟨a.s, 1, none⟩ = some (.map (some a.mo)) ∧ V.cell? ⟨gx, 0, none⟩ = some (.string (dvT d.k)) ∧ (Instr.lookup 162 (.map (some a.mo)) (.string (dvT d.k)) false).run Tryz.prog V = .ok (.pointer (some ⟨b, 0, none⟩)) V from by
        have hi := HI2.out.below hV
        have h1 := (hV.block a.s hl61).trans h61
        have h2 := hi.lookC HF6.out HX.out.2.2.1 false
        rw [HX.out.2.2.2] at h2
        simp only [Option.bind_some, HX.out.1, Option.map_some, Option.getD_some] at h2
        exact ⟨cell_of_blk (j := 1) h1 rfl, cell_of_blk (j := 0) ((hV.block gx hlg2).trans HG2.out) rfl, h2⟩)
      have HX5 := Lib.hid (fun (V : World) (hV : Below w2.heap.size w2 V) => show V.heap[b]? = some (cuB x) from (HI2.out.below hV).cu k b x HX.out.1 HX.out.2.1)
      clear egx e2 hb2 hg2 c0 c1 c2 c3 c4 c5 c7 hbr h61
      refine qRegion (by kernel_rfl) (by kernel_rfl) ?_
      repeat (first
        | (go_big_quiet_want; refine qVal (fun V hV => (by (obtain ⟨q0, q1, q2⟩ := HQ.out V hV; go_simp; try rfl))) ?_; simp only [Act.put, List.setIfInBounds_toArray, List.set_cons_zero, List.set_cons_succ]; go_big_quiet_on)
        | go_big_quiet_skip)
      refine wpQuiet_nil ?_
      intro w3 hb3
      have hx3 := HX5.out w3 hb3
      have hg3 := (hb3.block gx hlg2).trans HG2.out
      have x0 := cell_of_blk (j := 0) hx3 rfl
      have x6 := cell_of_blk (j := 6) hx3 rfl
      have x7 := cell_of_blk (j := 7) hx3 rfl
      have x8 := cell_of_blk (j := 8) hx3 rfl
      have g0 := cell_of_blk (j := 0) hg3 rfl
      have hlx3 := (Array.getElem?_eq_some_iff.1 hx3).1
      have hlg3 := (Array.getElem?_eq_some_iff.1 hg3).1
      have HB3 := Lib.hid hb3
      clear hb3
      obtain ⟨m0, em0⟩ : ∃ m : Mk, m = ⟨t, d.k, 0, x.o⟩ := ⟨_, rfl⟩
      have HEM := Lib.hid em0
      go_upto_region 6 with (fail)
      go_cut [15] (fun s wx => StMx w3 m0 s wx)
      case first =>
        have HF0 := Lib.hid (show StMx w3 m0 (.pointer (some ⟨w3.heap.size, 0, none⟩)) ((w3.alloc (.cells #[.int .i64 t, .string (dvT d.k), .int .i64 0, .int .i64 x.o.a, .int .i64 x.o.b, .int .i64 x.o.c] 64)).drew) from by
          rw [em0]
          exact ⟨_, rfl, zz_heap _ _, Nat.le_refl _, ((Below.refl _ _).alloc (Nat.le_refl _) _).drew⟩)
        clear em0
        go_region
        all_goals
          go_wp2_with (fail)
          go_meet
          exact HF0.out
      case rest =>
      obtain ⟨gm, rfl, hm⟩ := hcut
      obtain ⟨w4, rfl⟩ : ∃ wy : World, wy = wc := ⟨_, rfl⟩
      have HM4 := Lib.hid hm
      have hb4 := hm.2.2
      have hx4 := (hb4.block b hlx3).trans hx3
      have hg4 := (hb4.block gx hlg3).trans hg3
      have HB4 := Lib.hid (HB3.out.trans (hb4.mono HB3.out.size))
      clear x0 x6 x7 x8 g0 em0
      have x0 := cell_of_blk (j := 0) hx4 rfl
      have g0 := cell_of_blk (j := 0) hg4 rfl
      have hlx4 := (Array.getElem?_eq_some_iff.1 hx4).1
      have hlg4 := (Array.getElem?_eq_some_iff.1 hg4).1
      have HG4 := Lib.hid hg4
      have hbm := hm.1
      have hlm := (Array.getElem?_eq_some_iff.1 hbm).1
      have hwm := hm.2.1
      have m2 := cell_of_blk (j := 2) hbm rfl
      have mf := noFr hbm 2
      clear hm hb4 hx4 hg4 hbm hx3 hg3
      by_cases hk2 : x.kd = 2
      · rw [hk2] at x0
        obtain ⟨mz, emz⟩ : ∃ m : Mk, m = ⟨t, d.k, if d.k = 1 then 4 else 3, x.o⟩ := ⟨_, rfl⟩
        have HBU := Lib.hid (show busyM t (d, x) = some mz from by unfold busyM; rw [if_pos hk2, emz])
        have HM5 := Lib.hid (show StM w3 ⟨t, d.k, 3, x.o⟩ gm (w4.setCell ⟨gm, 2, none⟩ (.int .i64 3)) from by have := HM4.out.kind 3; rw [HEM.out] at this; exact this)
        obtain ⟨w5, e5⟩ : ∃ V : World, V = w4.setCell ⟨gm, 2, none⟩ (.int .i64 3) := ⟨_, rfl⟩
        rw [← e5] at HM5
        have g05 : w5.cell? ⟨gx, 0, none⟩ = some (.string (dvT d.k)) := by
          have h1 : w5.heap[gx]? = w4.heap[gx]? := by rw [e5]; exact Below.heap_setCell _ _ _ _ (by show gx ≠ gm; omega)
          exact cell_of_blk (j := 0) (h1.trans HG4.out) rfl
        have hlg5 : gx < w5.heap.size := by rw [e5]; simpa [World.setCell] using hlg4
        have hw5 := HM5.out.2.2.size
        have HB5 := Lib.hid (HB3.out.trans (HM5.out.2.2.mono HB3.out.size))
        have HBB5 := Lib.hid (HW2.out.2.trans (HB5.out.mono HW2.out.2.size))
        have HCK := Lib.hid (contK_any [1] 1 cb d.k Ab w5 rfl (by omega) (by simp) HX.out.2.2.1 ((HBAD.out.below (HBB5.out.mono hB)).mono (Nat.le_trans hB HBB5.out.size)))
        obtain ⟨q, eq⟩ : ∃ q, q = decide (d.k ∈ [1]) := ⟨_, rfl⟩
        rw [← eq] at HCK
        have HQE := Lib.hid eq
        clear hk2 eq
        go_upto_region 10 with (fail)
        rw [← e5]
        clear e5 x0 g0 m2 mf
        go_wp2_with (fail)
        refine HCK.out.mono ?_
        rintro e w6 ⟨rfl, rfl⟩
        clear HCK
        have m2 := cell_of_blk (j := 2) HM5.out.1 rfl
        have mf := noFr HM5.out.1 2
        have hlm5 := (Array.getElem?_eq_some_iff.1 HM5.out.1).1
        go_upto_if 50 with (fail)
        go_cut [] (fun wx => StM w3 mz gm wx)
        case first =>
          have HF := Lib.hid (show (q = true → StM w3 mz gm (w5.setCell ⟨gm, 2, none⟩ (.int .i64 4))) ∧ (q = false → StM w3 mz gm w5) from by
            rw [emz]
            have eq := HQE.out
            constructor
            · intro h
              rw [h] at eq
              have h1 : d.k = 1 := by simpa using eq
              have := HM5.out.kind 4
              rw [if_pos h1]
              exact this
            · intro h
              rw [h] at eq
              have h1 : ¬ d.k = 1 := by simpa using eq
              rw [if_neg h1]
              exact HM5.out)
          clear HQE emz
          cases q with
          | true =>
            go_wp2_with (fail)
            go_meet
            exact HF.out.1 (by simp)
          | false =>
            go_wp2_with (fail)
            go_meet
            exact HF.out.2 (by simp)
        case rest =>
        obtain ⟨w7, rfl⟩ : ∃ wy : World, wy = wc := ⟨_, rfl⟩
        have HMZ := Lib.hid hcut
        clear hcut HQE emz m2 mf
        have hbz := HMZ.out.1
        have f0 := cell_of_blk (j := 0) hbz rfl
        have f1 := cell_of_blk (j := 1) hbz rfl
        have f2 := cell_of_blk (j := 2) hbz rfl
        have f3 := cell_of_blk (j := 3) hbz rfl
        have f4 := cell_of_blk (j := 4) hbz rfl
        have f5 := cell_of_blk (j := 5) hbz rfl
        have hlz := (Array.getElem?_eq_some_iff.1 hbz).1
        have HBW := Lib.hid (HW2.out.2.trans ((HB3.out.trans (HMZ.out.2.2.mono HB3.out.size)).mono HW2.out.2.size))
        have hba : Below w7.heap.size w7 (w7.alloc (.cells #[.int .i64 mz.at_, .string (dvT mz.d), .int .i64 mz.kd, .int .i64 mz.v.a, .int .i64 mz.v.b, .int .i64 mz.v.c] 64)) := (Below.refl _ _).alloc (Nat.le_refl _) _
        have HAL := Lib.hid (own_below (own_below HW2.out.1 (HB3.out.trans (HMZ.out.2.2.mono HB3.out.size))) hba)
        have HBA := Lib.hid (HBW.out.trans (hba.mono HBW.out.size))
        have hbs := HBA.out.size
        have hwz := HBW.out.size
        clear hba hbz
        go_wp2_with (at_builtin; refine wpList_append_own2 _ rfl _ _ 57 rfl w.heap.size 64 id0 _ 6 56 Tryz.underlying57 hid0 hzd0 hzd1 hzd2 rfl (by decide) _ _ _ rfl HAL.out ⟨_, 0, none⟩ 1 1 (mkC mz) rfl rfl ?c1 ?c2 ?c3 ?c4 ?c5 ?_)
        case c1 => exact fun j u h => cells_add (Cells.new _ _ _ _ _ rfl) j u h
        case c2 => exact mkC_one mz
        case c3 => unfold maxLen; omega
        case c4 => omega
        case c5 => first | omega | (simp only [World.size_alloc] at *; omega)
        intro v16 w16 ho16 hg16 hm16
        obtain ⟨A3, c3, rfl⟩ := own_slice ho16
        have HR3 := Lib.hid (show (((F.zip cs).take (k + 1)).filterMap (busyM t)).length = m + 1 ∧ w16.ownsRow w.heap.size 64 6 (.slice A3 (m + 1) c3) (m + 1) (recs mkC (((F.zip cs).take (k + 1)).filterMap (busyM t))) ∧ Below w.heap.size w w16 from by
          have e := HSN.out
          rw [HBU.out] at e
          rw [e]
          refine ⟨by rw [List.length_append, HW.out.1]; rfl, ?_, HBA.out.grown hg16 hbs (fun q hq => (HAL.out.lt q hq).1)⟩
          have e2 : recs mkC (((F.zip cs).take k).filterMap (busyM t) ++ (some mz).toList) = recs mkC (((F.zip cs).take k).filterMap (busyM t)) ++ mkC mz := by simp [recs]
          rw [e2]; exact ho16)
        clear ho16 hg16 hm16 hbs HAL HBA
        go_wp2_with (fail)
        go_roundw
        case rel => exact ⟨k + 1, m + 1, c3, A3, by omega, by omega, by go_num, rfl, HR3⟩
        case measure => simp [intOf]; omega
      · by_cases hk1 : x.kd = 1
        · rw [hk1] at x0
          obtain ⟨mz, emz⟩ : ∃ m : Mk, m = ⟨t, d.k, 2, x.o⟩ := ⟨_, rfl⟩
          have HBU := Lib.hid (show busyM t (d, x) = some mz from by unfold busyM; rw [if_neg hk2, if_pos hk1, emz])
          have HMZ := Lib.hid (show StM w3 mz gm (w4.setCell ⟨gm, 2, none⟩ (.int .i64 2)) from by have := HM4.out.kind 2; rw [HEM.out] at this; rw [emz]; exact this)
          obtain ⟨w5, e5⟩ : ∃ V : World, V = w4.setCell ⟨gm, 2, none⟩ (.int .i64 2) := ⟨_, rfl⟩
          rw [← e5] at HMZ
          clear hk2 hk1 emz
          go_upto_region 15 with (fail)
          rw [← e5]
          clear e5 x0 g0 m2 mf
          have hbz := HMZ.out.1
          have f0 := cell_of_blk (j := 0) hbz rfl
          have f1 := cell_of_blk (j := 1) hbz rfl
          have f2 := cell_of_blk (j := 2) hbz rfl
          have f3 := cell_of_blk (j := 3) hbz rfl
          have f4 := cell_of_blk (j := 4) hbz rfl
          have f5 := cell_of_blk (j := 5) hbz rfl
          have hlz := (Array.getElem?_eq_some_iff.1 hbz).1
          have HBW := Lib.hid (HW2.out.2.trans ((HB3.out.trans (HMZ.out.2.2.mono HB3.out.size)).mono HW2.out.2.size))
          have hba : Below w5.heap.size w5 (w5.alloc (.cells #[.int .i64 mz.at_, .string (dvT mz.d), .int .i64 mz.kd, .int .i64 mz.v.a, .int .i64 mz.v.b, .int .i64 mz.v.c] 64)) := (Below.refl _ _).alloc (Nat.le_refl _) _
          have HAL := Lib.hid (own_below (own_below HW2.out.1 (HB3.out.trans (HMZ.out.2.2.mono HB3.out.size))) hba)
          have HBA := Lib.hid (HBW.out.trans (hba.mono HBW.out.size))
          have hbs := HBA.out.size
          have hwz := HBW.out.size
          clear hba hbz
          go_wp2_with (at_builtin; refine wpList_append_own2 _ rfl _ _ 57 rfl w.heap.size 64 id0 _ 6 56 Tryz.underlying57 hid0 hzd0 hzd1 hzd2 rfl (by decide) _ _ _ rfl HAL.out ⟨_, 0, none⟩ 1 1 (mkC mz) rfl rfl ?c1 ?c2 ?c3 ?c4 ?c5 ?_)
          case c1 => exact fun j u h => cells_add (Cells.new _ _ _ _ _ rfl) j u h
          case c2 => exact mkC_one mz
          case c3 => unfold maxLen; omega
          case c4 => omega
          case c5 => first | omega | (simp only [World.size_alloc] at *; omega)
          intro v16 w16 ho16 hg16 hm16
          obtain ⟨A3, c3, rfl⟩ := own_slice ho16
          have HR3 := Lib.hid (show (((F.zip cs).take (k + 1)).filterMap (busyM t)).length = m + 1 ∧ w16.ownsRow w.heap.size 64 6 (.slice A3 (m + 1) c3) (m + 1) (recs mkC (((F.zip cs).take (k + 1)).filterMap (busyM t))) ∧ Below w.heap.size w w16 from by
            have e := HSN.out
            rw [HBU.out] at e
            rw [e]
            refine ⟨by rw [List.length_append, HW.out.1]; rfl, ?_, HBA.out.grown hg16 hbs (fun q hq => (HAL.out.lt q hq).1)⟩
            have e2 : recs mkC (((F.zip cs).take k).filterMap (busyM t) ++ (some mz).toList) = recs mkC (((F.zip cs).take k).filterMap (busyM t)) ++ mkC mz := by simp [recs]
            rw [e2]; exact ho16)
          clear ho16 hg16 hm16 hbs HAL HBA
          go_wp2_with (fail)
          go_roundw
          case rel => exact ⟨k + 1, m + 1, c3, A3, by omega, by omega, by go_num, rfl, HR3⟩
          case measure => simp [intOf]; omega
        · have HN2 := Lib.hid (show ((F.zip cs).take (k + 1)).filterMap (busyM t) = ((F.zip cs).take k).filterMap (busyM t) from by
            rw [HSN.out]
            unfold busyM
            simp [hk1, hk2])
          have HO := Lib.hid (own_below HW2.out.1 HB4.out)
          have HBB := Lib.hid (HW2.out.2.trans (HB4.out.mono HW2.out.2.size))
          go_wp2_with (fail)
          go_roundw
          case rel => exact ⟨k + 1, m, cl, Al, by omega, by omega, by go_num, rfl, Lib.hid ⟨by rw [HN2.out]; exact HW.out.1, by rw [HN2.out]; exact HO.out, HBB.out⟩⟩
          case measure => simp [intOf]; omega
    · have hltI : ¬ (k : Int) < (n : Int) := by omega
      obtain ⟨BL, eBL⟩ : ∃ l, l = (F.zip cs).filterMap (busyM t) := ⟨_, rfl⟩
      have hW := HW.out
      rw [show (F.zip cs).take k = F.zip cs from List.take_of_length_le (by rw [List.length_zip]; have := HN.out.1; omega), ← eBL] at hW
      have HW2 := Lib.hid hW
      have HBL := Lib.hid eBL
      have hwz := hW.2.2.size
      have HI2 := Lib.hid (HI.out.below hW.2.2)
      have HOF := Lib.hid (offers_any C F a s L B n c ns NL CL gw mc Lc AF AL t wr HC.out HF.out HL.out HN.out.1 HN.out.2 HT.out HS.out HI2.out (HM.out.grown hW.2.2) HMC.out (HR.out.below (hW.2.2.mono hB)))
      clear hW HW eBL
      go_wp2_with (fail)
      refine HOF.out.mono ?_
      rintro e w5 ⟨AO, cO, kO, O, rfl, hkO, hok, _, hb5, hOV, hoO, ⟨Ly, hMy⟩, hg5⟩
      have hmw : mc < wr.heap.size := (HM.out.grown HW2.out.2.2).mp.lt
      have HMK := Lib.hid (HW2.out.2.1.kept (row := some mc) hg5 (by
        cases hv : (Value.slice Al m cl).ownBlock with
        | none => exact .inl rfl
        | some q => exact .inr (fun k => by injection k with k; exact own_neM HW2.out.2.1 (HM.out.grown HW2.out.2.2).mp q hv k)))
      have HOO := Lib.hid hoO
      have HMY := Lib.hid hMy
      have HG5 := Lib.hid (grown_trans (gr_of_below HW2.out.2.2) hg5)
      have HKO := Lib.hid (And.intro hkO (show O = ofV C L F be cs sp t by rw [HE.out.1, HE.out.2.1, HE.out.2.2]; exact hOV))
      have hO6 : kO ≤ 6 := by
        have h1 := stepL_len (C := C) (L := L) (F := F) (be := be) (cs := cs) (sp := sp) (at_ := t) HF.out
        unfold stepL at h1
        rw [List.length_append, List.length_map, ← HKO.out.2, ← hkO] at h1
        omega
      have hOL : wr.heap.size ≤ w5.heap.size := hg5.size
      clear hkO hok hb5 hOV hoO hMy hg5 HOF
      go_upto_region 18 with (fail)
      go_loopw [70, 11] (fun i l wx => ∃ (j r2 c2 : Nat) (A2 : Option Addr), j ≤ kO ∧ r2 = m + j ∧ i = .int .i64 (j : Int) ∧ l = .slice A2 r2 c2 ∧ Hid (wx.ownsRow w.heap.size 64 6 (.slice A2 r2 c2) r2 (recs mkC (BL ++ (O.take j).map (offM t))) ∧ wx.ownsRow wr.heap.size 83 5 (.slice AO kO cO) kO (recs ofC O) ∧ (∃ Lc, WyM B L C.t AL NL CL gw mc Lc wx) ∧ w.grownBy wx (some mc))) (fun i _ _ => kO - (intOf i).toNat)
      case atStart => exact ⟨0, m, cl, Al, Nat.zero_le _, rfl, rfl, rfl, Lib.hid ⟨by simpa using HMK.out, HOO.out, ⟨Ly, HMY.out⟩, HG5.out⟩⟩
      case round =>
        obtain ⟨j, r2, c2, A2, hj, hr2, rfl, rfl, HX⟩ := hrel
        have HR2 := Lib.hid hr2
        have hr2b : r2 ≤ 100 := by omega
        clear hr2
        obtain ⟨w6, rfl⟩ : ∃ wy : World, wy = wr := ⟨_, rfl⟩
        by_cases hlt2 : j < kO
        · have hltI2 : (j : Int) < (kO : Int) := by omega
          obtain ⟨y, hy⟩ : ∃ y, O[j]? = some y := ⟨_, List.getElem?_eq_getElem (by have := HKO.out.1; omega)⟩
          obtain ⟨h1, h2, h3⟩ | ⟨go, rfl, hgo1, hgo2⟩ := own_two HX.out.2.1
          · omega
          have hcl := own_cells0 HX.out.2.1
          have o0 : w6.cell? ⟨go, j * 5, none⟩ = some (.string (dvT y.d)) := by have := rec_cell ofC_len hcl j y hy 0 _ rfl; simpa using this
          have o1 : w6.cell? ⟨go, j * 5 + 1, none⟩ = some (.int .i64 y.v.a) := by have := rec_cell ofC_len hcl j y hy 1 _ rfl; simpa using this
          have o2 : w6.cell? ⟨go, j * 5 + 2, none⟩ = some (.int .i64 y.v.b) := by have := rec_cell ofC_len hcl j y hy 2 _ rfl; simpa using this
          have o3 : w6.cell? ⟨go, j * 5 + 3, none⟩ = some (.int .i64 y.v.c) := by have := rec_cell ofC_len hcl j y hy 3 _ rfl; simpa using this
          have o4 : w6.cell? ⟨go, j * 5 + 4, none⟩ = some (.int .i64 y.z) := by have := rec_cell ofC_len hcl j y hy 4 _ rfl; simpa using this
          have HY := Lib.hid hy
          clear hcl hy
          go_upto_region 20 with (fail)
          obtain ⟨gy, egy⟩ : ∃ q, q = w6.heap.size := ⟨_, rfl⟩
          obtain ⟨w7, e7⟩ : ∃ V : World, V = w6.alloc (.cells #[.string (dvT y.d), .int .i64 y.v.a, .int .i64 y.v.b, .int .i64 y.v.c, .int .i64 y.z] 83) := ⟨_, rfl⟩
          have hb7 : Below w6.heap.size w6 w7 := by rw [e7]; exact (Below.refl _ _).alloc (Nat.le_refl _) _
          have hg7 : w7.heap[gy]? = some (.cells #[.string (dvT y.d), .int .i64 y.v.a, .int .i64 y.v.b, .int .i64 y.v.c, .int .i64 y.z] 83 (0, 0)) := by rw [e7, egy]; exact zz_heap _ _
          rw [← egy, ← e7]
          have y0 := cell_of_blk (j := 0) hg7 rfl
          have y1 := cell_of_blk (j := 1) hg7 rfl
          have y2 := cell_of_blk (j := 2) hg7 rfl
          have y3 := cell_of_blk (j := 3) hg7 rfl
          have hl7 := (Array.getElem?_eq_some_iff.1 hg7).1
          have hba : Below w7.heap.size w7 (w7.alloc (.cells #[.int .i64 t, .string (dvT y.d), .int .i64 1, .int .i64 y.v.a, .int .i64 y.v.b, .int .i64 y.v.c] 64)) := (Below.refl _ _).alloc (Nat.le_refl _) _
          have hb67 := hb7.trans (hba.mono hb7.size)
          have HAL := Lib.hid (own_below HX.out.1 hb67)
          have HAO := Lib.hid (own_below HX.out.2.1 hb67)
          have HAG := Lib.hid (grown_below HX.out.2.2.2 hb67)
          obtain ⟨Lz, hLz⟩ := HX.out.2.2.1
          have HAW := Lib.hid (hLz.grown hb67)
          have hbs := HAG.out.size
          have hsw := HX.out.2.2.2.size
          obtain ⟨mz, emz⟩ : ∃ m : Mk, m = offM t y := ⟨_, rfl⟩
          have HMC2 := Lib.hid (show mkC mz = [.int .i64 t, .string (dvT y.d), .int .i64 1, .int .i64 y.v.a, .int .i64 y.v.b, .int .i64 y.v.c] from by rw [emz]; rfl)
          have HME := Lib.hid emz
          clear e7 egy hb7 hg7 hba hb67 hLz emz o0 o1 o2 o3 o4
          go_wp2_with (at_builtin; refine wpList_append_own2 _ rfl _ _ 57 rfl w.heap.size 64 id0 _ 6 56 Tryz.underlying57 hid0 hzd0 hzd1 hzd2 rfl (by decide) _ _ _ rfl HAL.out ⟨_, 0, none⟩ 1 1 (mkC mz) rfl rfl ?c1 ?c2 ?c3 ?c4 ?c5 ?_)
          case c1 => exact fun j u h => by rw [HMC2.out] at h; exact cells_add (Cells.new _ _ _ _ _ rfl) j u h
          case c2 => exact mkC_one mz
          case c3 => unfold maxLen; omega
          case c4 => omega
          case c5 => first | omega | (simp only [World.size_alloc] at *; omega)
          intro v16 w16 ho16 hg16 hm16
          obtain ⟨A3, c3, rfl⟩ := own_slice ho16
          have HR3 := Lib.hid (show w16.ownsRow w.heap.size 64 6 (.slice A3 (r2 + 1) c3) (r2 + 1) (recs mkC (BL ++ (O.take (j + 1)).map (offM t))) ∧ w16.ownsRow wr.heap.size 83 5 (.slice (some ⟨go, 0, none⟩) kO cO) kO (recs ofC O) ∧ (∃ Lc, WyM B L C.t AL NL CL gw mc Lc w16) ∧ w.grownBy w16 (some mc) from by
            refine ⟨?_, HAO.out.kept hg16 (own_apart HAO.out HAL.out (by decide)), ⟨Lz, HAW.out.ownG HAL.out (by decide) hB hg16⟩, grown_over HAG.out ((Below.refl _ _).grown hg16 hbs (fun q hq => (HAL.out.lt q hq).1))⟩
            have e : recs mkC (BL ++ (O.take (j + 1)).map (offM t)) = recs mkC (BL ++ (O.take j).map (offM t)) ++ mkC mz := by
              rw [List.take_add_one, HY.out, HME.out]
              simp [recs]
            rw [e]
            first
              | exact ho16
              | (rw [List.map_take]; exact ho16))
          clear ho16 hg16 hm16 hbs HAL HAO HAG HAW
          go_wp2_with (fail)
          go_roundw
          case rel => exact ⟨j + 1, r2 + 1, c3, A3, by omega, by have := HR2.out; omega, by go_num, rfl, HR3⟩
          case measure => simp [intOf]; omega
        · have hltI2 : ¬ (j : Int) < (kO : Int) := by omega
          have hjk : j = kO := by omega
          have HS2 := Lib.hid (show BL ++ (O.take j).map (offM t) = stepL C L F be cs sp t from by
            unfold stepL
            rw [← HBL.out, ← HKO.out.2, List.take_of_length_le (by have := HKO.out.1; omega)])
          have hx1 := HX.out.1
          rw [HS2.out] at hx1
          have hlen : (stepL C L F be cs sp t).length = r2 := by
            rw [← HS2.out, List.length_append, List.length_map, List.length_take, HR2.out]
            have h1 := HW2.out.1
            have h2 := HKO.out.1
            rw [h1]
            omega
          have h6 := stepL_len (C := C) (L := L) (F := F) (be := be) (cs := cs) (sp := sp) (at_ := t) HF.out
          have HSO := Lib.hid (sortW_any (stepL C L F be cs sp t) r2 c2 w.heap.size A2 w6 (fun q hq => ((stepL_mem HF.out hq).ok HF.out HL.out (by rw [HE.out.1]; exact HS.out.cu) HT.out).rw_) hlen (by omega) hx1)
          obtain ⟨Lz, hLz⟩ := HX.out.2.2.1
          have HLZ := Lib.hid hLz
          have hsw := HX.out.2.2.2.size
          clear hx1 hlen h6 hLz
          go_wp2_with (fail)
          refine HSO.out.mono ?_
          rintro e w7 ⟨rfl, M2, hp2, hl2, ho2, hg2, hs2⟩
          have HEQ := Lib.hid (step_srt HF.out hp2 hs2)
          have HF7 := Lib.hid (show StPost C F s L B NL CL gw mc AL t w (.returned (.slice A2 r2 c2)) w7 from by
            refine ⟨A2, c2, r2, rfl, ?_, ?_, ⟨Lz, HLZ.out.ownG HX.out.1 (by decide) hB hg2⟩, grown_over HX.out.2.2.2 ((Below.refl _ _).grown hg2 hsw (fun q hq => (HX.out.1.lt q hq).1))⟩
            · rw [← HE.out.1, ← HE.out.2.1, ← HE.out.2.2, ← HEQ.out, hl2]
            · rw [← HE.out.1, ← HE.out.2.1, ← HE.out.2.2, ← HEQ.out]
              exact ho2)
          clear hp2 hl2 ho2 hg2 hs2 HEQ
          go_wp2_with (fail)
          go_ret
          exact HF7.out
end Go.Proofs.YtidgicbhgnbidaaGreatDoor
