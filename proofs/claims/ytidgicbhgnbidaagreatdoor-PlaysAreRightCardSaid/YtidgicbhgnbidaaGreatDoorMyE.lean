/- costs: the table of costs of the images, by its contract. Printed by mdl.py out of gen_WyE.py. Changed by mdl2.py. -/
import Derived.Test.YtidgicbhgnbidaaGreatDoorMgC
import Derived.Deep.LoopGhost
namespace Go.Proofs.YtidgicbhgnbidaaGreatDoor
open Go.RowKit

theorem Tryz.infoIms : (Tryz.prog.info? 26).map (fun i => (i.zero, i.size, i.bytes)) = some (some (.slice none 0 0), 1, 24) := by kernel_rfl
theorem madeCells_sl (n : Nat) : madeCells (Value.slice none 0 0).cells (n * 1) = (List.replicate n (Value.slice none 0 0)).toArray := by
  have hz : (Value.slice none 0 0).cells = #[.slice none 0 0] := rfl
  rw [hz, Nat.mul_one]
  apply Array.ext
  · simp [madeCells]
  · intro i h1 h2
    simp [madeCells, Nat.mod_one]
theorem below_setV {B m : Nat} {a w : World} (h : Below B a w) (hm : B ≤ m) (o : Obj) : Below B a { w with heap := w.heap.setIfInBounds m o } :=
  ⟨h.os, h.tape, h.output, by simpa using h.size, fun b hb => by
    have := h.block b hb
    rw [← this]
    exact Array.getElem?_setIfInBounds_ne (by omega)⟩
theorem rowOf {w : World} {base : Nat} {e : TypeId} {size n c : Nat} {A : Option Addr} {xs : List Value} (h : w.ownsRow base e size (.slice A n c) n xs) : Row w w.heap.size A xs := own_row h
/-- The lists of the images that can follow each one. -/
def NxI [Mdl] (w : World) (B : Nat) (O : List Im) (nx : List Value) (i : Nat) : Prop :=
  nx.length = O.length ∧ ∀ j x, j < i → O[j]? = some x → ∃ A c, nx[j]? = some (.slice A (tak O x.v).length c) ∧ w.ownsRow B 91 6 (.slice A (tak O x.v).length c) (tak O x.v).length (recs imC (tak O x.v))
theorem NxI.below [Mdl] {w w' : World} {B : Nat} {O : List Im} {nx : List Value} {i : Nat} (h : NxI w B O nx i) (hb : Below w.heap.size w w') : NxI w' B O nx i :=
  ⟨h.1, fun j x hj hx => by obtain ⟨A, c, h1, h2⟩ := h.2 j x hj hx; exact ⟨A, c, h1, own_below h2 hb⟩⟩
theorem NxI.set [Mdl] {w w' : World} {B : Nat} {O : List Im} {nx : List Value} {i : Nat} {x : Im} {A : Option Addr} {c : Nat} (h : NxI w B O nx i) (hk : ∀ b, B ≤ b → w'.heap[b]? = w.heap[b]?) (_hs : w.heap.size ≤ w'.heap.size) (hx : O[i]? = some x) (hr : w.ownsRow B 91 6 (.slice A (tak O x.v).length c) (tak O x.v).length (recs imC (tak O x.v))) :
    NxI w' B O (nx.set i (.slice A (tak O x.v).length c)) (i + 1) := by
  have hkeep : ∀ {A : Option Addr} {c n : Nat} {xs : List Value}, w.ownsRow B 91 6 (.slice A n c) n xs → w'.ownsRow B 91 6 (.slice A n c) n xs := by
    intro A c n xs h
    refine ⟨h.1, ?_⟩
    rcases h.2 with h | ⟨g, cap, cur, hv, hb, hh, r⟩
    · exact .inl h
    · exact .inr ⟨g, cap, cur, hv, hb, (hk g hb).trans hh, r⟩
  refine ⟨by rw [List.length_set]; exact h.1, fun j y hj hy => ?_⟩
  by_cases hji : j = i
  · subst hji
    rw [hx] at hy
    have e := Option.some.inj hy
    subst e
    have hl := (List.getElem?_eq_some_iff.1 hx).1
    exact ⟨A, c, by rw [List.getElem?_set_self (by rw [h.1]; exact hl)], hkeep hr⟩
  · obtain ⟨A', c', h1, h2⟩ := h.2 j y (by omega) hy
    exact ⟨A', c', by rw [List.getElem?_set_ne (by omega)]; exact h1, hkeep h2⟩
/-- How the pass stands. -/
def PsRel [Mdl] (O : List Im) (t : Ve) (T : VmL) (gM n : Nat) (w3 : World) (s u : Value) (wx : World) : Prop :=
  ∃ (i : Nat) (T1 : VmL) (b : Bool), i ≤ n ∧ s = .bool b ∧ u = .int .i64 (i : Int) ∧ PsI O t T T1 i b ∧ VmI wx gM T1 ∧ Below gM w3 wx
/-- How the search for an image's best cost stands. -/
def BeRel [Mdl] (O : List Im) (t : Ve) (T1 : VmL) (x : Im) (b : Bool) (gM gx gc J : Nat) (w3 : World) (s v u : Value) (wx : World) : Prop :=
  ∃ (j : Nat) (is b' : Bool) (c : Co), j ≤ J ∧ s = .bool b' ∧ v = .bool is ∧ u = .int .i64 (j : Int) ∧ BeI O t T1 x j b is c b' ∧ VmI wx gM T1 ∧ Below gM w3 wx ∧ wx.heap[gx]? = some (imB x) ∧ wx.heap[gc]? = some (coB c)
def CosPost [Mdl] (L : List Im) (t : Ve) (w : World) (e : Ending) (w' : World) : Prop :=
  ∃ (m : Nat) (T : VmL), e = .returned (.map (some m)) ∧ VmI w' m T ∧ w.heap.size ≤ m ∧ CoEnd L t T ∧ Below w.heap.size w w'
set_option maxRecDepth 100000 in
set_option maxHeartbeats 16000000 in
theorem costs_any [Mdl] (L : List Im) (t : Ve) (N C : Nat) (AL : Option Addr) (w : World) (hI : ImsI w w.heap.size AL L) (hN : L.length = N) (hL : ImsOk L) (ht : VeOk t) :
    Calls Tryz.prog 39 #[.slice AL N C, .string (mdT Mdl.j), veV t] w fun e w' => CosPost L t w e w' := by
  obtain ⟨ii0, hii0, hzi0, hzi1, hzi2⟩ := info_parts Tryz.infoIm
  obtain ⟨is0, his0, hzs0, hzs1, hzs2⟩ := info_parts Tryz.infoIms
  have hN8 : N ≤ 8 := by have := hL.len; omega
  obtain ⟨g5, eg5⟩ : ∃ g, g = w.heap.size := ⟨_, rfl⟩
  obtain ⟨w0, e0⟩ : ∃ V : World, V = w.alloc (veB t) := ⟨_, rfl⟩
  have hb0 : Below w.heap.size w w0 := by rw [e0]; exact (Below.refl _ _).alloc (Nat.le_refl _) _
  have hg0 : w0.heap[g5]? = some (veB t) := by rw [e0, eg5]; exact heap_new w _
  have hl0 := (Array.getElem?_eq_some_iff.1 hg0).1
  have HI := Lib.hid (hI.up hb0)
  have HB0 := Lib.hid hb0
  have HG0 := Lib.hid hg0
  have HN := Lib.hid hN
  have HL := Lib.hid hL
  have HT := Lib.hid ht
  unfold veB at e0
  unfold veV
  clear hb0 hg0 hN hL ht hI
  go_enter Tryz.func39, Tryz.ntmps39
  go_upto_region 1 with (fail)
  rw [← eg5, ← e0]
  clear e0 eg5
  go_wp2_with (fail)
  go_loopw [7, 25] (fun s u wx => ∃ (k : Nat) (A : Option Addr) (c n : Nat), k ≤ N ∧ n ≤ k ∧ u = .int .i64 (k : Int) ∧ s = .slice A n c ∧ Hid ((ownI (L.take k)).length = n ∧ wx.ownsRow w0.heap.size 91 6 (.slice A n c) n (recs imC (ownI (L.take k))) ∧ Below w0.heap.size w0 wx)) (fun _ u _ => N - (intOf u).toNat)
  case atStart => exact ⟨0, none, 0, 0, Nat.zero_le _, Nat.zero_le _, rfl, rfl, Lib.hid ⟨rfl, World.ownsRow_nil _ _ _ _, Below.refl _ _⟩⟩
  case round =>
    obtain ⟨k, A, c, n, hk, hnk, rfl, rfl, HR⟩ := hrel
    by_cases hlt : k < N
    · have hltI : (k : Int) < (N : Int) := by omega
      obtain ⟨x, hx⟩ : ∃ x, L[k]? = some x := ⟨_, List.getElem?_eq_getElem (by have := HN.out; omega)⟩
      have hrw := (HI.out.row.below HR.out.2.2)
      obtain ⟨b, o, rfl, hbw, hC⟩ := hrw.posR imC_len (by omega) (by have := HN.out; omega)
      have hbr : b < wr.heap.size := by have := HR.out.2.2.size; omega
      have c0 : wr.cell? ⟨b, o + k * 6, none⟩ = some (.int .i64 x.v.a) := rec_cell imC_len hC k x hx 0 _ rfl
      have c1 := rec_cell imC_len hC k x hx 1 _ rfl
      have c2 := rec_cell imC_len hC k x hx 2 _ rfl
      have c3 := rec_cell imC_len hC k x hx 3 _ rfl
      have c4 := rec_cell imC_len hC k x hx 4 _ rfl
      have c5 := rec_cell imC_len hC k x hx 5 _ rfl
      have hxm := List.mem_of_getElem? hx
      have HX := Lib.hid (HL.out.ok x hxm)
      have HXE := Lib.hid hx
      have HXI := Lib.hid (((HI.out.all x hxm).below HR.out.2.2).mono HR.out.2.2.size)
      clear hrw hC hx
      go_upto_region 5 with (fail)
      obtain ⟨gx, egx⟩ : ∃ y, y = wr.heap.size := ⟨_, rfl⟩
      obtain ⟨w1, e1⟩ : ∃ V : World, V = wr.alloc (.cells #[.int .i64 x.v.a, .int .i64 x.v.b, .int .i64 x.v.c, .slice x.ma x.mo.length x.mc, .slice x.fa x.rs.length x.fc, .int .i64 x.sz] 91) := ⟨_, rfl⟩
      have hb1 : Below wr.heap.size wr w1 := by rw [e1]; exact (Below.refl _ _).alloc (Nat.le_refl _) _
      have hg1 : w1.heap[gx]? = some (imB x) := by rw [e1, egx]; exact heap_new wr _
      rw [← egx, ← e1]
      have HR1 := Lib.hid (show (ownI (L.take k)).length = n ∧ w1.ownsRow w0.heap.size 91 6 (.slice A n c) n (recs imC (ownI (L.take k))) ∧ Below w0.heap.size w0 w1 from ⟨HR.out.1, own_below HR.out.2.1 hb1, HR.out.2.2.trans (hb1.mono HR.out.2.2.size)⟩)
      have HXI1 := Lib.hid (HXI.out.up hb1)
      have HG1 := Lib.hid hg1
      have hl1 := (Array.getElem?_eq_some_iff.1 hg1).1
      clear egx e1 hb1 c0 c1 c2 c3 c4 c5 hbr
      have k3 : w1.cell? ⟨gx, 3, none⟩ = some (.slice x.ma x.mo.length x.mc) := cell_of_blk hg1 rfl
      have HCM := Lib.hid (contM_any x.mo x.mo.length x.mc Mdl.j x.ma w1 rfl (by have := (mo_lt HX.out).1; omega) (mo_lt HX.out).2 Mdl.lt HXI1.out.mo)
      rw [hasM_mem] at HCM
      clear hg1
      have HSN := Lib.hid (show ownI (L.take (k + 1)) = ownI (L.take k) ++ (if hasM x = true then [x] else []) from filter_snoc HXE.out)
      go_wp2_with (fail)
      refine HCM.out.mono ?_
      rintro e w2 ⟨rfl, ew2⟩
      subst ew2
      clear k3 HCM
      cases hmc : hasM x with
      | false =>
        rw [hmc] at HSN
        have HE := Lib.hid (show ownI (L.take (k + 1)) = ownI (L.take k) from HSN.out.trans (by simp))
        go_wp2_with (fail)
        go_roundw
        case rel => exact ⟨k + 1, A, c, n, by omega, by omega, by go_num, rfl, Lib.hid (by rw [HE.out]; exact HR1.out)⟩
        case measure => simp [intOf]; omega
      | true =>
        rw [hmc] at HSN
        have HE := Lib.hid (show ownI (L.take (k + 1)) = ownI (L.take k) ++ [x] from HSN.out.trans (by simp))
        have hg2 := HG1.out
        have k0 := cell_of_blk (j := 0) hg2 rfl
        have k1 := cell_of_blk (j := 1) hg2 rfl
        have k2 := cell_of_blk (j := 2) hg2 rfl
        have k3 := cell_of_blk (j := 3) hg2 rfl
        have k4 := cell_of_blk (j := 4) hg2 rfl
        have k5 := cell_of_blk (j := 5) hg2 rfl
        have hba : Below w1.heap.size w1 (w1.alloc (imB x)) := (Below.refl _ _).alloc (Nat.le_refl _) _
        have HAL := Lib.hid (own_below HR1.out.2.1 hba)
        have HBA := Lib.hid (HR1.out.2.2.trans (hba.mono HR1.out.2.2.size))
        have hbs : w0.heap.size ≤ (w1.alloc (imB x)).heap.size := HBA.out.size
        have hbs2 := HR1.out.2.2.size
        clear hg2 hba
        unfold imB at HAL hbs
        go_wp2_with (at_builtin; refine wpList_append_own2 _ rfl _ _ 26 rfl w0.heap.size 91 ii0 _ 6 80 Tryz.underlying26 hii0 hzi0 hzi1 hzi2 rfl (by decide) _ _ _ rfl HAL.out ⟨_, 0, none⟩ 1 1 (imC x) rfl rfl ?c1 ?c2 ?c3 ?c4 ?c5 ?_)
        case c1 => first | exact fun j u h => h | exact cells_add (cells_atV (by rfl) rfl)
        case c2 => exact imC_one x
        case c3 => unfold maxLen; omega
        case c4 => omega
        case c5 => first | exact hbs | omega
        intro v13 w13 ho13 hg13 hm13
        obtain ⟨A3, c3, rfl⟩ := own_slice ho13
        have HB3 := Lib.hid (HBA.out.grown hg13 HBA.out.size (fun q hq => (HAL.out.lt q hq).1))
        have HR3 := Lib.hid (show (ownI (L.take (k + 1))).length = n + 1 ∧ w13.ownsRow w0.heap.size 91 6 (.slice A3 (n + 1) c3) (n + 1) (recs imC (ownI (L.take (k + 1)))) ∧ Below w0.heap.size w0 w13 from ⟨by rw [HE.out, List.length_append, HR1.out.1]; rfl, by
          have e : recs imC (ownI (L.take (k + 1))) = recs imC (ownI (L.take k)) ++ imC x := by rw [HE.out]; simp [recs]
          rw [e]; exact ho13, HB3.out⟩)
        clear ho13 hg13 hm13 HAL HBA hbs hbs2 k0 k1 k2 k3 k4 k5
        go_wp2_with (fail)
        go_roundw
        case rel => exact ⟨k + 1, A3, c3, n + 1, by omega, by omega, by go_num, rfl, HR3⟩
        case measure => simp [intOf]; omega
    · have hltI : ¬ (k : Int) < (N : Int) := by omega
      have hkN : L.take k = L := List.take_of_length_le (by have := HN.out; omega)
      obtain ⟨O, eO⟩ : ∃ O, O = ownI L := ⟨_, rfl⟩
      have HO := Lib.hid eO
      have HR0 := Lib.hid (show O.length = n ∧ wr.ownsRow w0.heap.size 91 6 (.slice A n c) n (recs imC O) ∧ Below w0.heap.size w0 wr from by
        have h := HR.out
        rw [hkN, ← eO] at h
        exact h)
      have HOK := Lib.hid (show ImsOk O from by rw [eO]; exact HL.out.filter _)
      have HOM := Lib.hid (show ∀ x ∈ O, x ∈ L from fun x hx => by rw [eO] at hx; exact (List.mem_filter.1 hx).1)
      have hn8 : n ≤ 8 := by omega
      obtain ⟨w1, ew1⟩ : ∃ V : World, V = wr := ⟨_, rfl⟩
      rw [← ew1] at HR0 ⊢
      clear eO hkN HR ew1
      have hmk : ∀ V : World, (Instr.makeSlice 173 (.int .i64 (n : Int)) (.int .i64 (n : Int))).run Tryz.prog V = .ok (.slice (some ⟨V.heap.size, 0, none⟩) n n) (V.alloc (.cells (List.replicate n (Value.slice none 0 0)).toArray 26)) := by
        intro V
        have h := run_make (P := Tryz.prog) V 173 26 is0 (.slice none 0 0) Tryz.underlying173 his0 hzs0 .i64 .i64 (n : Int) (n : Int) (by omega) (Int.le_refl _) (by rw [hzs2]; omega) (by omega)
        rw [Int.toNat_natCast, hzs1, madeCells_sl] at h
        exact h
      go_upto_region 9 with (fail)
      obtain ⟨gN, egN⟩ : ∃ y, y = w1.heap.size := ⟨_, rfl⟩
      obtain ⟨w2, e2⟩ : ∃ V : World, V = w1.alloc (.cells (Array.replicate n (Value.slice none 0 0)) 26) := ⟨_, rfl⟩
      have hb2 : Below w1.heap.size w1 w2 := by rw [e2]; exact (Below.refl _ _).alloc (Nat.le_refl _) _
      have hrn : w2.ownsRow gN 26 1 (.slice (some ⟨gN, 0, none⟩) n n) n (List.replicate n (Value.slice none 0 0)) := by
        rw [e2, egN]
        have h := World.ownsRow_lit (base := w1.heap.size) (e := 26) (size := 1) w1 (Array.replicate n (Value.slice none 0 0)) n (Nat.le_refl _) (by unfold maxLen; omega) (by simp)
        simpa using h
      rw [← egN, ← e2]
      have HB2 := Lib.hid (show Below gN w1 w2 from by rw [egN]; exact hb2)
      have hw01 : w0.heap.size ≤ gN := by rw [egN]; exact HR0.out.2.2.size
      have hg5N : g5 < gN := by omega
      have HG5 := Lib.hid (show w1.heap[g5]? = some (veB t) from (HR0.out.2.2.block g5 hl0).trans HG0.out)
      have HIO := Lib.hid (show ImsI w1 gN A O from by
        rw [egN]
        exact ⟨rowOf HR0.out.2.1, fun x hx => ((HI.out.all x (HOM.out x hx)).below HR0.out.2.2).mono HR0.out.2.2.size⟩)
      have HOL := Lib.hid HR0.out.1
      have HW1 := Lib.hid (HB0.out.trans (HR0.out.2.2.mono HB0.out.size))
      have hgN1 : gN = w1.heap.size := egN
      have HRN := Lib.hid hrn
      have HN0 := Lib.hid (show NxI w2 (gN + 1) O (List.replicate n (Value.slice none 0 0)) 0 from ⟨by simp [HR0.out.1], fun j x hj => by omega⟩)
      clear hb2 hrn e2 egN HR0
      have HGN1 := Lib.hid hgN1
      clear hgN1
      go_wp2_with (fail)
      go_loopw [43] (fun u wx => ∃ (i : Nat) (nx : List Value), i ≤ n ∧ u = .int .i64 (i : Int) ∧ Hid (wx.ownsRow gN 26 1 (.slice (some ⟨gN, 0, none⟩) n n) n nx ∧ NxI wx (gN + 1) O nx i ∧ Below gN w1 wx)) (fun u _ => n - (intOf u).toNat)
      case atStart => exact ⟨0, _, Nat.zero_le _, rfl, Lib.hid ⟨HRN.out, HN0.out, HB2.out⟩⟩
      case round =>
        obtain ⟨i, nx, hi, rfl, HR⟩ := hrel
        have hgNr : gN < wr.heap.size := (HR.out.1.lt gN rfl).2
        by_cases hli : i < n
        · have hliI : (i : Int) < (n : Int) := by omega
          obtain ⟨x, hx⟩ : ∃ x, O[i]? = some x := ⟨_, List.getElem?_eq_getElem (by have := HOL.out; omega)⟩
          have hrw := (HIO.out.row.below HR.out.2.2)
          obtain ⟨b, o, rfl, hbw, hC⟩ := hrw.posR imC_len (by omega) (by have := HOL.out; omega)
          have hbr : b < wr.heap.size := by omega
          have c0 : wr.cell? ⟨b, o + i * 6, none⟩ = some (.int .i64 x.v.a) := rec_cell imC_len hC i x hx 0 _ rfl
          have c1 := rec_cell imC_len hC i x hx 1 _ rfl
          have c2 := rec_cell imC_len hC i x hx 2 _ rfl
          have c3 := rec_cell imC_len hC i x hx 3 _ rfl
          have c4 := rec_cell imC_len hC i x hx 4 _ rfl
          have c5 := rec_cell imC_len hC i x hx 5 _ rfl
          have HX := Lib.hid (HOK.out.ok x (List.mem_of_getElem? hx))
          have HXE := Lib.hid hx
          clear hrw hC hx
          go_upto_region 12 with (fail)
          obtain ⟨gx, egx⟩ : ∃ y, y = wr.heap.size := ⟨_, rfl⟩
          obtain ⟨w3, e3⟩ : ∃ V : World, V = wr.alloc (.cells #[.int .i64 x.v.a, .int .i64 x.v.b, .int .i64 x.v.c, .slice x.ma x.mo.length x.mc, .slice x.fa x.rs.length x.fc, .int .i64 x.sz] 91) := ⟨_, rfl⟩
          have hb3 : Below wr.heap.size wr w3 := by rw [e3]; exact (Below.refl _ _).alloc (Nat.le_refl _) _
          have hg3 : w3.heap[gx]? = some (imB x) := by rw [e3, egx]; exact heap_new wr _
          rw [← egx, ← e3]
          have HR3 := Lib.hid (show w3.ownsRow gN 26 1 (.slice (some ⟨gN, 0, none⟩) n n) n nx ∧ NxI w3 (gN + 1) O nx i ∧ Below gN w1 w3 from ⟨own_below HR.out.1 hb3, HR.out.2.1.below hb3, HR.out.2.2.trans (hb3.mono (by omega))⟩)
          have hl3 := (Array.getElem?_eq_some_iff.1 hg3).1
          have q0 := cell_of_blk (j := 0) hg3 rfl
          have q1 := cell_of_blk (j := 1) hg3 rfl
          have q2 := cell_of_blk (j := 2) hg3 rfl
          have hgN3 : gN < w3.heap.size := by have := hb3.size; omega
          have HTK := Lib.hid (taken_any O x.v n c (some ⟨b, o, none⟩) w3 ((HIO.out.below HR3.out.2.2).mono (by omega)) HOL.out HOK.out HX.out.v)
          unfold TakPost veV at HTK
          clear egx e3 hb3 hg3 c0 c1 c2 c3 c4 c5 hbr HR
          go_wp2_with (fail)
          refine HTK.out.mono ?_
          rintro e w4 ⟨A4, c4, n4, hn4, rfl, ho4, hb4⟩
          have HR4 := Lib.hid (show w4.ownsRow gN 26 1 (.slice (some ⟨gN, 0, none⟩) n n) n nx ∧ NxI w4 (gN + 1) O nx i ∧ Below gN w1 w4 from ⟨own_below HR3.out.1 hb4, HR3.out.2.1.below hb4, HR3.out.2.2.trans (hb4.mono (by omega))⟩)
          have hgN4 : gN < w4.heap.size := by have := hb4.size; omega
          have HO4 := Lib.hid (show w4.ownsRow (gN + 1) 91 6 (.slice A4 (tak O x.v).length c4) (tak O x.v).length (recs imC (tak O x.v)) from by rw [← hn4]; exact own_mono ho4 (by omega))
          have hst := HR4.out.1.stored i (.slice A4 (tak O x.v).length c4)
          rw [← hn4] at hst
          have HST := Lib.hid hst
          have hfr := HR4.out.1.frozenAt i
          have hcl : (w4.cell? ⟨gN, i, none⟩).isSome = true := by rw [HR4.out.1.cellAt i (by omega), List.getElem?_eq_getElem (by have := HR4.out.2.1.1; have := HOL.out; omega)]; rfl
          obtain ⟨u0, hu0⟩ := Option.isSome_iff_exists.1 hcl
          have HN4 := Lib.hid hn4
          obtain ⟨w5, e5⟩ : ∃ V : World, V = w4.setCell ⟨gN, i, none⟩ (.slice A4 n4 c4) := ⟨_, rfl⟩
          have HR5 := Lib.hid (show w5.ownsRow gN 26 1 (.slice (some ⟨gN, 0, none⟩) n n) n (nx.set i (.slice A4 n4 c4)) ∧ NxI w5 (gN + 1) O (nx.set i (.slice A4 n4 c4)) (i + 1) ∧ Below gN w1 w5 from by
            refine ⟨by rw [e5]; exact HST.out.1, ?_, by rw [e5]; exact HR4.out.2.2.setCell (Nat.le_refl _) _⟩
            rw [hn4]
            exact HR4.out.2.1.set (fun b hb => by rw [e5]; exact setcV _ _ _ _ _ (by omega)) (by rw [e5]; simp [World.setCell]) HXE.out HO4.out)
          clear ho4 hb4 hst hn4 hcl HTK HR3 q0 q1 q2 hl3 hgN3
          go_wp2_with (fail)
          rw [← e5]
          clear e5
          go_roundw
          case rel => exact ⟨i + 1, _, by omega, by go_num, HR5⟩
          case measure => simp [intOf]; omega
        · have hliI : ¬ (i : Int) < (n : Int) := by omega
          have hin : i = n := by omega
          obtain ⟨w3, ew3⟩ : ∃ V : World, V = wr := ⟨_, rfl⟩
          rw [← ew3] at HR hgNr ⊢
          have HIO3 := Lib.hid ((HIO.out.below HR.out.2.2).mono (Nat.le_of_lt hgNr))
          have HG53 := Lib.hid (show w3.heap[g5]? = some (veB t) from (HR.out.2.2.block g5 hg5N).trans HG5.out)
          have HNX := Lib.hid (show ∀ (j : Nat) (u : Value), nx[j]? = some u → w3.cell? ⟨gN, j, none⟩ = some u from fun j u hj => by have h := HR.out.1.cells (g := gN) rfl j u hj; rw [Addr.add_lit, Nat.zero_add] at h; exact h)
          have hgN3 : gN < w3.heap.size := hgNr
          have HNE := Lib.hid (show ∀ (j : Nat) (x : Im), O[j]? = some x → ∃ (A : Option Addr) (c : Nat), nx[j]? = some (Value.slice A (tak O x.v).length c) ∧ ImsI w3 w3.heap.size A (tak O x.v) from fun j x hx => by
            obtain ⟨A', c', h1, h2⟩ := HR.out.2.1.2 j x (by have := (List.getElem?_eq_some_iff.1 hx).1; have := HOL.out; omega) hx
            exact ⟨A', c', h1, ⟨rowOf h2, fun y hy => HIO3.out.all y (mem_tak.1 hy).1⟩⟩)
          have HW3 := Lib.hid (HW1.out.trans (HR.out.2.2.mono (by have := HW1.out.size; have := HGN1.out; omega)))
          have hg5l := (Array.getElem?_eq_some_iff.1 HG53.out).1
          have q0 := cell_of_blk (j := 0) HG53.out rfl
          have q1 := cell_of_blk (j := 1) HG53.out rfl
          have q2 := cell_of_blk (j := 2) HG53.out rfl
          clear HR ew3 hin HN0 HRN HB2 HIO HG5 HW1 HGN1 hmk hgNr
          obtain ⟨gM, egM⟩ : ∃ y, y = w3.heap.size := ⟨_, rfl⟩
          obtain ⟨w4, e4⟩ : ∃ V : World, w3.alloc (.map #[] 0) = V := ⟨_, rfl⟩
          have hb4 : Below w3.heap.size w3 w4 := by rw [← e4]; exact (Below.refl _ _).alloc (Nat.le_refl _) _
          have hm4 : VmI w4 gM [] := by rw [← e4, egM]; exact heap_new w3 _
          have hup := upd_vm (k := t) (v := (0, 0)) hm4
          have hm5 := hm4.upd (k := t) (v := (0, 0))
          have hb5 := below_setV (hb4.mono (Nat.le_of_eq egM)) (Nat.le_refl gM) (.map (vmE 0 (vmU t (0, 0) [])).toArray (vmU t (0, 0) []).length)
          obtain ⟨w5, e5⟩ : ∃ V : World, V = { w4 with heap := w4.heap.setIfInBounds gM (.map (vmE 0 (vmU t (0, 0) [])).toArray (vmU t (0, 0) []).length) } := ⟨_, rfl⟩
          rw [← e5] at hup hm5 hb5
          have hg54 := (hb4.block g5 hg5l).trans HG53.out
          unfold veV coV at hup
          have HM5 := Lib.hid hm5
          have HB5 := Lib.hid hb5
          have HEGM := Lib.hid egM
          rw [egM] at hup
          have hmm := @run_makeMap Tryz.prog
          have hgNM : gN < gM := by omega
          clear q0 q1 q2 hm4 hm5 hb5 e5 hb4
          have q0 := cell_of_blk (j := 0) hg54 rfl
          have q1 := cell_of_blk (j := 1) hg54 rfl
          have q2 := cell_of_blk (j := 2) hg54 rfl
          have hg5l4 := (Array.getElem?_eq_some_iff.1 hg54).1
          clear hg54 egM
          go_upto_region 15 with (fail)
          rw [← HEGM.out]
          have HT0 := Lib.hid (TbOk.init O t)
          obtain ⟨T0, eT0⟩ : ∃ T0, T0 = vmU t (0, 0) [] := ⟨_, rfl⟩
          rw [← eT0] at HM5 HT0
          clear eT0 hup e4 q0 q1 q2 hg5l4 hmm
          go_wp2_with (fail)
          go_loopg [14] (phT O T0 + 1) (fun gk s wx => ∃ (T : VmL) (b : Bool), s = .bool b ∧ Hid (VmI wx gM T ∧ Below gM w3 wx ∧ TbOk O t T ∧ (b = false → CoEnd L t T) ∧ (b = true → phT O T < gk)))
          case atStart => exact ⟨T0, true, rfl, Lib.hid ⟨HM5.out, HB5.out, HT0.out, (fun h => by cases h), fun _ => by omega⟩⟩
          case round =>
            obtain ⟨T, b, rfl, HW⟩ := hrel
            cases b with
            | false =>
              have hwm : w.heap.size ≤ gM := by have := HW3.out.size; have := HEGM.out; omega
              have HF := Lib.hid (show CosPost L t w (.returned (.map (some gM))) wr from ⟨gM, T, rfl, HW.out.1, hwm, HW.out.2.2.2.1 rfl, HW3.out.trans (HW.out.2.1.mono hwm)⟩)
              go_wp2_with (fail)
              go_ret
              exact HF.out
            | true =>
              obtain ⟨wo, ewo⟩ : ∃ V : World, V = wr := ⟨_, rfl⟩
              rw [← ewo] at HW ⊢
              clear ewo
              go_wp2_with (fail)
              go_loopw [14, 64] (fun s u wx => PsRel O t T gM n w3 s u wx) (fun _ u _ => n - (intOf u).toNat)
              case atStart => exact ⟨0, T, false, Nat.zero_le _, rfl, rfl, PsI.zero HW.out.2.2.1, HW.out.1, HW.out.2.1⟩
              case round =>
                obtain ⟨i, T1, b, hi, rfl, rfl, hp⟩ := hrel
                have HP := Lib.hid hp
                clear hp
                have hws := HP.out.2.2.size
                have hwm : gM ≤ w3.heap.size ∧ w3.heap.size ≤ gM := by have := HEGM.out; omega
                by_cases hli : i < n
                case neg =>
                  have hliI : ¬ (i : Int) < (n : Int) := by omega
                  have hin : n ≤ i := by omega
                  have HE := Lib.hid (show VmI wr gM T1 ∧ Below gM w3 wr ∧ TbOk O t T1 ∧ (b = false → CoEnd L t T1) ∧ (b = true → phT O T1 < phT O T) from
                    ⟨HP.out.2.1, HP.out.2.2, HP.out.1.ok, fun hb => by subst hb; have h := HP.out.1; rw [HO.out] at h; exact PsI.done HL.out h (by have := HOL.out; rw [HO.out] at this; omega), HP.out.1.lt⟩)
                  have hph : phT O T < gk := by simpa using HW.out.2.2.2.2
                  clear hws hwm
                  go_wp2_with (fail)
                  go_roundg (phT O T)
                  case rel => exact ⟨T1, b, rfl, HE⟩
                  case measure => exact hph
                case pos =>
                have hliI : (i : Int) < (n : Int) := by omega
                obtain ⟨x, hx⟩ : ∃ x, O[i]? = some x := ⟨_, List.getElem?_eq_getElem (by have := HOL.out; omega)⟩
                have hrw := HIO3.out.row.below (HP.out.2.2.mono (hwm.2))
                obtain ⟨b1, o1, eA, hbw, hC⟩ := hrw.posR imC_len (by omega) (by have := HOL.out; omega)
                have hbr : b1 < wr.heap.size := by omega
                have c0 : wr.cell? ⟨b1, o1 + i * 6, none⟩ = some (.int .i64 x.v.a) := rec_cell imC_len hC i x hx 0 _ rfl
                have c1 := rec_cell imC_len hC i x hx 1 _ rfl
                have c2 := rec_cell imC_len hC i x hx 2 _ rfl
                have c3 := rec_cell imC_len hC i x hx 3 _ rfl
                have c4 := rec_cell imC_len hC i x hx 4 _ rfl
                have c5 := rec_cell imC_len hC i x hx 5 _ rfl
                have HX := Lib.hid (HOK.out.ok x (List.mem_of_getElem? hx))
                have HXE := Lib.hid hx
                have HNXE := Lib.hid (HNE.out i x hx)
                rw [eA]
                clear hrw hC hx
                go_upto_region 21 with (fail)
                obtain ⟨gx, egx⟩ : ∃ y, y = wr.heap.size := ⟨_, rfl⟩
                obtain ⟨w6, e6⟩ : ∃ V : World, V = wr.alloc (.cells #[.int .i64 x.v.a, .int .i64 x.v.b, .int .i64 x.v.c, .slice x.ma x.mo.length x.mc, .slice x.fa x.rs.length x.fc, .int .i64 x.sz] 91) := ⟨_, rfl⟩
                have hb6 : Below wr.heap.size wr w6 := by rw [e6]; exact (Below.refl _ _).alloc (Nat.le_refl _) _
                have hg6 : w6.heap[gx]? = some (imB x) := by rw [e6, egx]; exact heap_new wr _
                rw [← egx, ← e6]
                have hm6 := HP.out.2.1.below hb6
                have HP6 := Lib.hid (show VmI w6 gM T1 ∧ Below gM w3 w6 from ⟨hm6, HP.out.2.2.trans (hb6.mono (by omega))⟩)
                have hl6 := (Array.getElem?_eq_some_iff.1 hg6).1
                have hgxm : gM ≤ gx := by omega
                have HG6 := Lib.hid hg6
                have hlk := look_vm (k := x.v) hm6
                have HB0 := Lib.hid (@BeI.zero _ O t T1 x b)
                obtain ⟨c0', ec0⟩ : ∃ c, c = (vmG x.v T1).getD (0, 0) := ⟨_, rfl⟩
                obtain ⟨is0, eis⟩ : ∃ c, c = (vmG x.v T1).isSome := ⟨_, rfl⟩
                rw [← ec0, ← eis] at hlk HB0
                unfold veV coV at hlk
                have q0 := cell_of_blk (j := 0) hg6 rfl
                have q1 := cell_of_blk (j := 1) hg6 rfl
                have q2 := cell_of_blk (j := 2) hg6 rfl
                clear egx e6 hb6 hg6 hm6 ec0 eis c0 c1 c2 c3 c4 c5 hbr
                go_upto_region 22 with (fail)
                obtain ⟨gc, egc⟩ : ∃ y, y = w6.heap.size := ⟨_, rfl⟩
                obtain ⟨w7, e7⟩ : ∃ V : World, V = w6.alloc (.cells #[.int .i64 c0'.1, .int .i64 c0'.2] 99) := ⟨_, rfl⟩
                have hb7 : Below w6.heap.size w6 w7 := by rw [e7]; exact (Below.refl _ _).alloc (Nat.le_refl _) _
                have hg7 : w7.heap[gc]? = some (coB c0') := by rw [e7, egc]; exact heap_new w6 _
                rw [← egc, ← e7]
                have hgxc : gx < gc := by omega
                have HP7 := Lib.hid (show VmI w7 gM T1 ∧ Below gM w3 w7 ∧ w7.heap[gx]? = some (imB x) ∧ w7.heap[gc]? = some (coB c0') from ⟨HP6.out.1.below hb7, HP6.out.2.trans (hb7.mono (by omega)), (hb7.block gx hl6).trans HG6.out, hg7⟩)
                have hs7 := (Array.getElem?_eq_some_iff.1 hg7).1
                obtain ⟨Ai, ci, hnxi, hIi⟩ := HNXE.out
                obtain ⟨J, eJ⟩ : ∃ J, J = (tak O x.v).length := ⟨_, rfl⟩
                have HJ := Lib.hid eJ
                have hJ8 : J ≤ 8 := by have h1 := List.length_filter_le (fun y => hasM y && cov y x.v) O; have := HOL.out; unfold tak at eJ; omega
                rw [← eJ] at hnxi
                have HII := Lib.hid hIi
                have cn : w7.cell? ⟨gN, i, none⟩ = some (.slice Ai J ci) := (HP7.out.2.1.cell (p := ⟨gN, i, none⟩) hgNM).trans (HNX.out i _ hnxi)
                have hgN7 : gN < w7.heap.size := by omega
                clear eJ hnxi hIi egc e7 hb7 hg7 hlk q0 q1 q2 HP6 HG6 hl6
                go_wp2_with (fail)
                go_loopw [14, 18, 81] (fun s v u wx => BeRel O t T1 x b gM gx gc J w3 s v u wx) (fun _ _ u _ => J - (intOf u).toNat)
                case atStart => exact ⟨0, is0, b, c0', Nat.zero_le _, rfl, rfl, rfl, HB0.out, HP7.out⟩
                case round =>
                  obtain ⟨j, is, b', c, hj, rfl, rfl, rfl, hq⟩ := hrel
                  have HQ := Lib.hid hq
                  clear hq
                  have hls := HQ.out.2.2.1.size
                  have hlc := (Array.getElem?_eq_some_iff.1 HQ.out.2.2.2.2).1
                  by_cases hlj : j < J
                  case neg =>
                    have hljI : ¬ (j : Int) < (J : Int) := by omega
                    have hjJ : (tak O x.v).length ≤ j := by have := HJ.out; omega
                    cases is with
                    | false =>
                      have HE := Lib.hid (show PsI O t T T1 (i + 1) b' ∧ VmI wr gM T1 ∧ Below gM w3 wr from ⟨HP.out.1.none HXE.out hjJ HQ.out.1, HQ.out.2.1, HQ.out.2.2.1⟩)
                      clear hwm
                      go_wp2_with (fail)
                      go_roundw
                      case rel => exact ⟨i + 1, T1, b', by omega, rfl, by go_num, HE.out⟩
                      case measure => simp [intOf]; omega
                    | true =>
                      have hgxx := HQ.out.2.2.2.1
                      have hgcc := HQ.out.2.2.2.2
                      have q0 := cell_of_blk (j := 0) hgxx rfl
                      have q1 := cell_of_blk (j := 1) hgxx rfl
                      have q2 := cell_of_blk (j := 2) hgxx rfl
                      have r0 := cell_of_blk (j := 0) hgcc rfl
                      have r1 := cell_of_blk (j := 1) hgcc rfl
                      have hlx := (Array.getElem?_eq_some_iff.1 hgxx).1
                      have hup := upd_vm (k := x.v) (v := c) HQ.out.2.1
                      have hm8 := HQ.out.2.1.upd (k := x.v) (v := c)
                      have hb8 := below_setV HQ.out.2.2.1 (Nat.le_refl gM) (.map (vmE 0 (vmU x.v c T1)).toArray (vmU x.v c T1).length)
                      obtain ⟨w8, e8⟩ : ∃ V : World, V = { wr with heap := wr.heap.setIfInBounds gM (.map (vmE 0 (vmU x.v c T1)).toArray (vmU x.v c T1).length) } := ⟨_, rfl⟩
                      rw [← e8] at hup hm8 hb8
                      unfold veV coV at hup
                      have HE := Lib.hid (show PsI O t T (vmU x.v c T1) (i + 1) b' ∧ VmI w8 gM (vmU x.v c T1) ∧ Below gM w3 w8 from ⟨HP.out.1.put HOK.out HXE.out hjJ HQ.out.1, hm8, hb8⟩)
                      clear hm8 hb8 e8 hgxx hgcc hwm
                      go_wp2_with (fail)
                      go_roundw
                      case rel => exact ⟨i + 1, _, b', by omega, rfl, by go_num, HE.out⟩
                      case measure => simp [intOf]; omega
                  case pos =>
                  have hljI : (j : Int) < (J : Int) := by omega
                  obtain ⟨y, hy⟩ : ∃ y, (tak O x.v)[j]? = some y := ⟨_, List.getElem?_eq_getElem (by have := HJ.out; omega)⟩
                  have hrw := HII.out.row.below (HQ.out.2.2.1.mono (hwm.2))
                  obtain ⟨b2, o2, eA2, hbw2, hC⟩ := hrw.posR imC_len (by omega) (by have := HJ.out; omega)
                  have hbr : b2 < wr.heap.size := by omega
                  have c0 : wr.cell? ⟨b2, o2 + j * 6, none⟩ = some (.int .i64 y.v.a) := rec_cell imC_len hC j y hy 0 _ rfl
                  have c1 := rec_cell imC_len hC j y hy 1 _ rfl
                  have c2 := rec_cell imC_len hC j y hy 2 _ rfl
                  have c3 := rec_cell imC_len hC j y hy 3 _ rfl
                  have c4 := rec_cell imC_len hC j y hy 4 _ rfl
                  have c5 := rec_cell imC_len hC j y hy 5 _ rfl
                  have hyt := List.mem_of_getElem? hy
                  have HY := Lib.hid (HOK.out.ok y (mem_tak.1 hyt).1)
                  have HYT := Lib.hid hyt
                  have HYE := Lib.hid hy
                  rw [eA2]
                  clear hrw hC hy hyt
                  go_upto_region 25 with (fail)
                  obtain ⟨gy, egy⟩ : ∃ y, y = wr.heap.size := ⟨_, rfl⟩
                  obtain ⟨w8, e8⟩ : ∃ V : World, V = wr.alloc (.cells #[.int .i64 y.v.a, .int .i64 y.v.b, .int .i64 y.v.c, .slice y.ma y.mo.length y.mc, .slice y.fa y.rs.length y.fc, .int .i64 y.sz] 91) := ⟨_, rfl⟩
                  have hb8 : Below wr.heap.size wr w8 := by rw [e8]; exact (Below.refl _ _).alloc (Nat.le_refl _) _
                  have hg8 : w8.heap[gy]? = some (imB y) := by rw [e8, egy]; exact heap_new wr _
                  rw [← egy, ← e8]
                  have hm8 := HQ.out.2.1.below hb8
                  have HQ8 := Lib.hid (show VmI w8 gM T1 ∧ Below gM w3 w8 ∧ w8.heap[gx]? = some (imB x) ∧ w8.heap[gc]? = some (coB c) ∧ w8.heap[gy]? = some (imB y) from ⟨hm8, HQ.out.2.2.1.trans (hb8.mono (by omega)), (hb8.block gx (by omega)).trans HQ.out.2.2.2.1, (hb8.block gc hlc).trans HQ.out.2.2.2.2, hg8⟩)
                  have hl8 := (Array.getElem?_eq_some_iff.1 hg8).1
                  have hgcy : gc < gy := by omega
                  have hlk := look_vm (k := y.v) hm8
                  obtain ⟨dY, edY⟩ : ∃ d, d = vmG y.v T1 := ⟨_, rfl⟩
                  have HDY := Lib.hid edY
                  obtain ⟨d0, ed0⟩ : ∃ d, d = dY.getD (0, 0) := ⟨_, rfl⟩
                  obtain ⟨hY, ehY⟩ : ∃ d, d = dY.isSome := ⟨_, rfl⟩
                  rw [← edY, ← ed0, ← ehY] at hlk
                  have hd0 : (0 ≤ d0.1 ∧ d0.1 ≤ 8) ∧ 0 ≤ d0.2 ∧ d0.2 ≤ 80 := by
                    cases hd : dY with
                    | none => rw [hd] at ed0; rw [ed0]; exact ⟨⟨Int.le_refl _, by show (0 : Int) ≤ 8; omega⟩, Int.le_refl _, by show (0 : Int) ≤ 80; omega⟩
                    | some d =>
                      rw [hd] at ed0
                      have e1 : d0 = d := ed0
                      have h1 := HP.out.1.ok.ok _ d (by rw [← HDY.out]; exact hd)
                      have h2 := phC_le HOK.out h1
                      rw [e1]
                      exact ⟨⟨h1.s, h2.2.1⟩, h1.z.1, h2.2.2⟩
                  have HD0 := Lib.hid ed0
                  have HHY := Lib.hid ehY
                  unfold veV coV at hlk
                  have q0 := cell_of_blk (j := 0) hg8 rfl
                  have q1 := cell_of_blk (j := 1) hg8 rfl
                  have q2 := cell_of_blk (j := 2) hg8 rfl
                  clear egy e8 hb8 hg8 hm8 edY ed0 ehY c0 c1 c2 c3 c4 c5 hbr hls
                  go_upto_region 26 with (fail)
                  obtain ⟨gd, egd⟩ : ∃ y, y = w8.heap.size := ⟨_, rfl⟩
                  obtain ⟨w9, e9⟩ : ∃ V : World, V = w8.alloc (.cells #[.int .i64 d0.1, .int .i64 d0.2] 99) := ⟨_, rfl⟩
                  have hb9 : Below w8.heap.size w8 w9 := by rw [e9]; exact (Below.refl _ _).alloc (Nat.le_refl _) _
                  have hg9 : w9.heap[gd]? = some (.cells #[.int .i64 d0.1, .int .i64 d0.2] 99 (0, 0)) := by rw [e9, egd]; exact heap_new w8 _
                  rw [← egd, ← e9]
                  have hgyd : gy < gd := by omega
                  have HQ9 := Lib.hid (show VmI w9 gM T1 ∧ Below gM w3 w9 ∧ w9.heap[gx]? = some (imB x) ∧ w9.heap[gc]? = some (coB c) ∧ w9.heap[gy]? = some (imB y) from ⟨HQ8.out.1.below hb9, HQ8.out.2.1.trans (hb9.mono (by omega)), (hb9.block gx (by omega)).trans HQ8.out.2.2.1, (hb9.block gc (by omega)).trans HQ8.out.2.2.2.1, (hb9.block gy hl8).trans HQ8.out.2.2.2.2⟩)
                  have hl9 := (Array.getElem?_eq_some_iff.1 hg9).1
                  have hsz := HY.out.sz
                  have hw1 : IntKind.i64.wrap (d0.1 + 1) = d0.1 + 1 := by rw [IntKind.wrap_i64]; omega
                  have hw2 : IntKind.i64.wrap (d0.2 + y.sz) = d0.2 + y.sz := by rw [IntKind.wrap_i64]; omega
                  have d0' := cell_of_blk (j := 0) hg9 rfl
                  have d1' := cell_of_blk (j := 1) hg9 rfl
                  have y5 := cell_of_blk (j := 5) HQ9.out.2.2.2.2 rfl
                  have f0 : w9.frozen? ⟨gd, 0, none⟩ = false := by simp [World.frozen?, hg9]
                  have f1 : w9.frozen? ⟨gd, 1, none⟩ = false := by simp [World.frozen?, hg9]
                  have hly := (Array.getElem?_eq_some_iff.1 HQ9.out.2.2.2.2).1
                  obtain ⟨w10, e10⟩ : ∃ V : World, V = (w9.setCell ⟨gd, 0, none⟩ (.int .i64 (d0.1 + 1))).setCell ⟨gd, 1, none⟩ (.int .i64 (d0.2 + y.sz)) := ⟨_, rfl⟩
                  have hg10 : w10.heap[gd]? = some (coB (nxC d0 y)) := by
                    rw [e10]
                    have h1 : (w9.setCell ⟨gd, 0, none⟩ (.int .i64 (d0.1 + 1))).heap[gd]? = some (.cells #[.int .i64 (d0.1 + 1), .int .i64 d0.2] 99 (0, 0)) := (setblkV (j := 0) _ hg9).trans rfl
                    exact (setblkV (j := 1) _ h1).trans rfl
                  have hk10 : ∀ b, b ≠ gd → w10.heap[b]? = w9.heap[b]? := fun b hb => by rw [e10, setcV _ _ _ _ _ hb, setcV _ _ _ _ _ hb]
                  have HQ10 := Lib.hid (show VmI w10 gM T1 ∧ Below gM w3 w10 ∧ w10.heap[gx]? = some (imB x) ∧ w10.heap[gc]? = some (coB c) ∧ w10.heap[gd]? = some (coB (nxC d0 y)) from
                    ⟨HQ9.out.1.keep (hk10 gM (by omega)), by rw [e10]; exact (HQ9.out.2.1.setCell (show gM ≤ gd by omega) _).setCell (show gM ≤ gd by omega) _, (hk10 gx (by omega)).trans HQ9.out.2.2.1, (hk10 gc (by omega)).trans HQ9.out.2.2.2.1, hg10⟩)
                  have hl10 := (Array.getElem?_eq_some_iff.1 hg10).1
                  clear hlk q0 q1 q2 egd e9 hb9 hg9 hl8 HQ8 hk10 hg10
                  go_upto_region 27 with (fail)
                  rw [← e10]
                  clear e10 d0' d1' y5 f0 f1 hly hl9 HQ9 hw1 hw2
                  obtain ⟨nc, enc⟩ : ∃ z, z = nxC d0 y := ⟨_, rfl⟩
                  rw [← enc] at HQ10
                  have HNC := Lib.hid enc
                  clear enc hsz hd0
                  go_cut [111] (fun s wx => s = .bool (hY && (!is || decide (cmpC nc c < 0))) ∧ Below w10.heap.size w10 wx)
                  case first =>
                    clear hwm
                    cases hY with
                    | false =>
                      go_wp2_with (fail)
                      go_meet
                      exact ⟨by rw [Bool.false_and], Below.refl _ _⟩
                    | true =>
                      cases is with
                      | false =>
                        go_wp2_with (fail)
                        go_meet
                        exact ⟨by rfl, Below.refl _ _⟩
                      | true =>
                        have hgd := HQ10.out.2.2.2.2
                        have hgc := HQ10.out.2.2.2.1
                        have k0 := cell_of_blk (j := 0) hgd rfl
                        have k1 := cell_of_blk (j := 1) hgd rfl
                        have r0 := cell_of_blk (j := 0) hgc rfl
                        have r1 := cell_of_blk (j := 1) hgc rfl
                        have hlc2 := (Array.getElem?_eq_some_iff.1 hgc).1
                        have HBC := Lib.hid (byCost_any nc c w10)
                        unfold coV at HBC
                        clear hgd hgc
                        go_wp2_with (fail)
                        refine HBC.out.mono ?_
                        rintro e wz ⟨rfl, hbz⟩
                        go_wp2_with (fail)
                        go_meet
                        exact ⟨by simp, hbz⟩
                  case rest =>
                    obtain ⟨rfl, hb11⟩ := hcut
                    obtain ⟨w11, rfl⟩ : ∃ wy : World, wy = wc := ⟨_, rfl⟩
                    have hs11 := hb11.size
                    have HQ11 := Lib.hid (show VmI w11 gM T1 ∧ Below gM w3 w11 ∧ w11.heap[gx]? = some (imB x) ∧ w11.heap[gc]? = some (coB c) ∧ w11.heap[gd]? = some (coB nc) from ⟨HQ10.out.1.below hb11, HQ10.out.2.1.trans (hb11.mono (by omega)), (hb11.block gx (by omega)).trans HQ10.out.2.2.1, (hb11.block gc (by omega)).trans HQ10.out.2.2.2.1, (hb11.block gd hl10).trans HQ10.out.2.2.2.2⟩)
                    clear hb11 HQ10
                    obtain ⟨cd, ecd⟩ : ∃ z, z = (hY && (!is || decide (cmpC nc c < 0))) := ⟨_, rfl⟩
                    rw [← ecd]
                    have HCD := Lib.hid ecd
                    clear ecd
                    cases cd with
                    | false =>
                      have HE := Lib.hid (show BeI O t T1 x (j + 1) b is c b' from HQ.out.1.skip HYE.out (fun d hd => by
                        have h2 := HCD.out
                        have h4 := HD0.out
                        rw [HHY.out, HDY.out, hd] at h2
                        rw [HDY.out, hd] at h4
                        have h5 := HNC.out
                        rw [show d0 = d from h4] at h5
                        rw [← h5]
                        cases is with
                        | true =>
                          refine ⟨rfl, ?_⟩
                          simpa using h2
                        | false => simp at h2))
                      clear hwm
                      go_wp2_with (fail)
                      go_roundw
                      case rel => exact ⟨j + 1, is, b', c, by omega, rfl, rfl, by go_num, HE.out, HQ11.out.1, HQ11.out.2.1, HQ11.out.2.2.1, HQ11.out.2.2.2.1⟩
                      case measure => simp [intOf]; omega
                    | true =>
                      have HE := Lib.hid (show BeI O t T1 x (j + 1) b true nc true from by
                        have h2 := HCD.out
                        cases hh : hY with
                        | false => rw [hh, Bool.false_and] at h2; cases h2
                        | true =>
                          rw [hh, Bool.true_and] at h2
                          have h3 := HHY.out
                          rw [hh] at h3
                          obtain ⟨d, hd⟩ := Option.isSome_iff_exists.1 h3.symm
                          have h4 := HD0.out
                          rw [hd] at h4
                          have e1 : d0 = d := h4
                          have h5 := HNC.out
                          rw [e1] at h5
                          rw [h5]
                          refine HQ.out.1.take HOK.out HP.out.1.ok HYT.out (by rw [← HDY.out]; exact hd) ?_
                          rw [← h5]
                          cases is with
                          | false => exact .inl rfl
                          | true =>
                            rw [Bool.not_true, Bool.false_or] at h2
                            exact .inr (of_decide_eq_true h2.symm))
                      have hgd := HQ11.out.2.2.2.2
                      have hgc := HQ11.out.2.2.2.1
                      have k0 := cell_of_blk (j := 0) hgd rfl
                      have k1 := cell_of_blk (j := 1) hgd rfl
                      have r0 := cell_of_blk (j := 0) hgc rfl
                      have r1 := cell_of_blk (j := 1) hgc rfl
                      have f0 : w11.frozen? ⟨gc, 0, none⟩ = false := by simp [World.frozen?, hgc, coB]
                      have f1 : w11.frozen? ⟨gc, 1, none⟩ = false := by simp [World.frozen?, hgc, coB]
                      have hlc2 := (Array.getElem?_eq_some_iff.1 hgc).1
                      have hld2 := (Array.getElem?_eq_some_iff.1 hgd).1
                      obtain ⟨w12, e12⟩ : ∃ V : World, V = (w11.setCell ⟨gc, 0, none⟩ (.int .i64 nc.1)).setCell ⟨gc, 1, none⟩ (.int .i64 nc.2) := ⟨_, rfl⟩
                      have hg12 : w12.heap[gc]? = some (coB nc) := by
                        rw [e12]
                        have h1 : (w11.setCell ⟨gc, 0, none⟩ (.int .i64 nc.1)).heap[gc]? = some (.cells #[.int .i64 nc.1, .int .i64 c.2] 99 (0, 0)) := (setblkV (j := 0) _ hgc).trans rfl
                        exact (setblkV (j := 1) _ h1).trans rfl
                      have hk12 : ∀ b, b ≠ gc → w12.heap[b]? = w11.heap[b]? := fun b hb => by rw [e12, setcV _ _ _ _ _ hb, setcV _ _ _ _ _ hb]
                      have HQ12 := Lib.hid (show VmI w12 gM T1 ∧ Below gM w3 w12 ∧ w12.heap[gx]? = some (imB x) ∧ w12.heap[gc]? = some (coB nc) from
                        ⟨HQ11.out.1.keep (hk12 gM (by omega)), by rw [e12]; exact (HQ11.out.2.1.setCell (show gM ≤ gc by omega) _).setCell (show gM ≤ gc by omega) _, (hk12 gx (by omega)).trans HQ11.out.2.2.1, hg12⟩)
                      clear hgd hgc hg12 hk12 hwm
                      go_wp2_with (fail)
                      rw [← e12]
                      clear e12
                      go_roundw
                      case rel => exact ⟨j + 1, true, true, nc, by omega, rfl, rfl, by go_num, HE.out, HQ12.out⟩
                      case measure => simp [intOf]; omega

end Go.Proofs.YtidgicbhgnbidaaGreatDoor
