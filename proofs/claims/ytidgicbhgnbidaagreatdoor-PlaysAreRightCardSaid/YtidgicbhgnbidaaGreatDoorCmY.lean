/- slices.CompactFunc of marks, right or not. Printed by gen_CmY.py out of XSgF. -/
import Derived.Test.YtidgicbhgnbidaaGreatDoorCmT
import Derived.Test.YtidgicbhgnbidaaGreatDoorDl2
import Derived.Test.YtidgicbhgnbidaaGreatDoorMgB
namespace Go.Proofs.YtidgicbhgnbidaaGreatDoor
open Go.RowKit Go.Shelf Go.Sort

theorem grown_more {w w1 w2 : World} {r row : Option Nat} (h : w.grownBy w1 r) (h2 : w1.grownBy w2 row) (hr : ∀ g, row = some g → w.heap.size ≤ g) : w.grownBy w2 r :=
  ⟨h2.os.trans h.os, h2.tape.trans h.tape, h2.output.trans h.output, Nat.le_trans h.size h2.size, fun k hk hne => (h2.block k (by have := h.size; omega) (by intro e; have := hr _ e.symm; omega)).trans (h.block k hk hne)⟩
theorem grown_belowP {w w' : World} {r : Option Nat} (hb : Below w.heap.size w w') : w.grownBy w' r := ⟨hb.os, hb.tape, hb.output, hb.size, fun i hi _ => hb.block i hi⟩
def MkAt (V : World) (b o : Nat) (x : Mk) : Prop :=
  V.cell? ⟨b, o, none⟩ = some (.int .i64 x.at_) ∧ V.cell? ⟨b, o + 1, none⟩ = some (.string (dvT x.d)) ∧ V.cell? ⟨b, o + 2, none⟩ = some (.int .i64 x.kd) ∧ V.cell? ⟨b, o + 3, none⟩ = some (.int .i64 x.v.a) ∧ V.cell? ⟨b, o + 4, none⟩ = some (.int .i64 x.v.b) ∧ V.cell? ⟨b, o + 5, none⟩ = some (.int .i64 x.v.c)
theorem mk_cells {w : World} {b o : Nat} {l : List Mk} (h : Cells w b o (recs mkC l)) (i : Nat) (x : Mk) (hx : l[i]? = some x) : MkAt w b (o + i * 6) x :=
  ⟨rec_cell mkC_len h i x hx 0 _ rfl, rec_cell mkC_len h i x hx 1 _ rfl, rec_cell mkC_len h i x hx 2 _ rfl, rec_cell mkC_len h i x hx 3 _ rfl, rec_cell mkC_len h i x hx 4 _ rfl, rec_cell mkC_len h i x hx 5 _ rfl⟩
theorem MkAt.below {V V' : World} {b o : Nat} {x : Mk} {B : Nat} (h : MkAt V b o x) (hb : Below B V V') (hB : b < B) : MkAt V' b o x := by
  obtain ⟨h0, h1, h2, h3, h4, h5⟩ := h
  exact ⟨(hb.cell (p := ⟨b, o, none⟩) hB).trans h0, (hb.cell (p := ⟨b, o + 1, none⟩) hB).trans h1, (hb.cell (p := ⟨b, o + 2, none⟩) hB).trans h2, (hb.cell (p := ⟨b, o + 3, none⟩) hB).trans h3, (hb.cell (p := ⟨b, o + 4, none⟩) hB).trans h4, (hb.cell (p := ⟨b, o + 5, none⟩) hB).trans h5⟩
def MkAt2 (V : World) (b o : Nat) (x : Mk) (o2 : Nat) (y : Mk) : Prop :=
  V.cell? ⟨b, o, none⟩ = some (.int .i64 x.at_) ∧ V.cell? ⟨b, o + 1, none⟩ = some (.string (dvT x.d)) ∧ V.cell? ⟨b, o + 2, none⟩ = some (.int .i64 x.kd) ∧ V.cell? ⟨b, o + 3, none⟩ = some (.int .i64 x.v.a) ∧ V.cell? ⟨b, o + 4, none⟩ = some (.int .i64 x.v.b) ∧ V.cell? ⟨b, o + 5, none⟩ = some (.int .i64 x.v.c) ∧ V.cell? ⟨b, o2, none⟩ = some (.int .i64 y.at_) ∧ V.cell? ⟨b, o2 + 1, none⟩ = some (.string (dvT y.d)) ∧ V.cell? ⟨b, o2 + 2, none⟩ = some (.int .i64 y.kd) ∧ V.cell? ⟨b, o2 + 3, none⟩ = some (.int .i64 y.v.a) ∧ V.cell? ⟨b, o2 + 4, none⟩ = some (.int .i64 y.v.b) ∧ V.cell? ⟨b, o2 + 5, none⟩ = some (.int .i64 y.v.c)
theorem mkAt2 {V : World} {b o o2 : Nat} {x y : Mk} (h : MkAt V b o x) (k : MkAt V b o2 y) : MkAt2 V b o x o2 y :=
  ⟨h.1, h.2.1, h.2.2.1, h.2.2.2.1, h.2.2.2.2.1, h.2.2.2.2.2, k.1, k.2.1, k.2.2.1, k.2.2.2.1, k.2.2.2.2.1, k.2.2.2.2.2⟩
set_option maxRecDepth 100000 in
theorem sameM_any (x y : Mk) (w : World) (hx : MkRw x) (hy : MkRw y) : Calls Tryz.prog 113 #[.agg #[.int .i64 x.at_, .string (dvT x.d), .int .i64 x.kd, .int .i64 x.v.a, .int .i64 x.v.b, .int .i64 x.v.c], .agg #[.int .i64 y.at_, .string (dvT y.d), .int .i64 y.kd, .int .i64 y.v.a, .int .i64 y.v.b, .int .i64 y.v.c]] w fun e w' => ∃ t : Bool, e = .returned (.bool t) ∧ Below w.heap.size w w' := by
  have HG := Lib.hid (fun V => show Calls Tryz.prog 111 #[.agg #[.int .i64 x.at_, .string (dvT x.d), .int .i64 x.kd, .int .i64 x.v.a, .int .i64 x.v.b, .int .i64 x.v.c], .agg #[.int .i64 y.at_, .string (dvT y.d), .int .i64 y.kd, .int .i64 y.v.a, .int .i64 y.v.b, .int .i64 y.v.c]] V _ from markOrder_gr x y V hx hy)
  generalize cmpM x y = r at HG
  go_enter Tryz.func113, Tryz.ntmps113
  go_wp2_with (fail)
  refine (HG.out _).mono ?_
  rintro e w1 ⟨rfl, q, os, rfl⟩
  have hb := Lib.hid (fun (V : World) (hV : Below w.heap.size w V) => show Below w.heap.size w (grow (V.drewN q) os) from hV.trans ((grow_below V q os).mono hV.size))
  go_wp2_with (fail)
  go_ret
  exact ⟨_, rfl, hb.out _ (((Below.refl _ _).alloc (Nat.le_refl _) _).alloc (by simp) _)⟩
section
variable {α : Type}
/-- What is kept after j elements. -/
def CsI (l P : List α) : Prop := ∀ x ∈ P, x ∈ l
/-- What the row holds. -/
def csR (l P : List α) : List α := P ++ l.drop P.length
theorem csR_len {l P : List α} (h : P.length ≤ l.length) : (csR l P).length = l.length := by
  unfold csR
  rw [List.length_append, List.length_drop]; omega
theorem csR_get {l P : List α} {j : Nat} (h : P.length ≤ j) : (csR l P)[j]? = l[j]? := by
  unfold csR
  rw [List.getElem?_append_right h, List.getElem?_drop]
  congr 1; omega
theorem csR_take (l : List α) (k : Nat) (h : k ≤ l.length) : csR l (l.take k) = l := by
  unfold csR
  rw [List.length_take, Nat.min_eq_left h, List.take_append_drop]
theorem csR_set {l P : List α} {x : α} (h : P.length < l.length) : (csR l P).set P.length x = csR l (P ++ [x]) := by
  unfold csR
  rw [List.set_append_right _ _ (Nat.le_refl _), Nat.sub_self, List.length_append, List.length_singleton, List.append_assoc]
  congr 1
  rw [List.drop_eq_getElem_cons h, List.set_cons_zero]
  rfl
theorem CsI.new {l P : List α} {j : Nat} {x : α} (h : CsI l P) (hx : l[j]? = some x) : CsI l (P ++ [x]) := by
  intro a ha
  rw [List.mem_append, List.mem_singleton] at ha
  rcases ha with ha | rfl
  · exact h a ha
  · exact List.mem_of_getElem? hx
theorem CsI.take (l : List α) (k : Nat) : CsI l (l.take k) := fun _ h => List.mem_of_mem_take h
end
/-- One element stored anew. -/
theorem mk_store {W : World} {base g n cap : Nat} {L : List Mk} (h : W.ownsRow base 64 6 (.slice (some ⟨g, 0, none⟩) n cap) n (recs mkC L)) (hL : L.length = n) (i : Nat) (hi : i < n) (x : Mk) :
    ((((((W.setCell ⟨g, i * 6, none⟩ (.int .i64 x.at_)).setCell ⟨g, i * 6 + 1, none⟩ (.string (dvT x.d))).setCell ⟨g, i * 6 + 2, none⟩ (.int .i64 x.kd)).setCell ⟨g, i * 6 + 3, none⟩ (.int .i64 x.v.a)).setCell ⟨g, i * 6 + 4, none⟩ (.int .i64 x.v.b)).setCell ⟨g, i * 6 + 5, none⟩ (.int .i64 x.v.c)).ownsRow base 64 6 (.slice (some ⟨g, 0, none⟩) n cap) n (recs mkC (L.set i x)) ∧
    W.grownBy ((((((W.setCell ⟨g, i * 6, none⟩ (.int .i64 x.at_)).setCell ⟨g, i * 6 + 1, none⟩ (.string (dvT x.d))).setCell ⟨g, i * 6 + 2, none⟩ (.int .i64 x.kd)).setCell ⟨g, i * 6 + 3, none⟩ (.int .i64 x.v.a)).setCell ⟨g, i * 6 + 4, none⟩ (.int .i64 x.v.b)).setCell ⟨g, i * 6 + 5, none⟩ (.int .i64 x.v.c)) (some g) := by
  have h2 := own_setCells (mkC x) (i * 6) W (recs mkC L) h (by rw [recs_length mkC_len, mkC_len, hL]; omega)
  rw [recs_set mkC_len L i x (by omega)] at h2
  exact h2
def CsPost2 (l : List Mk) (n c base : Nat) (A : Option Addr) (w : World) (e : Ending) (w' : World) : Prop :=
  ∃ (m : List Mk) (k : Nat), e = .returned (.slice A k c) ∧ m.length = k ∧ k ≤ n ∧ (∀ x ∈ m, x ∈ l) ∧ w'.ownsRow base 64 6 (.slice A k c) k (recs mkC m) ∧ w.grownBy w' (Value.slice A n c).ownBlock
set_option maxRecDepth 100000 in
set_option maxHeartbeats 4000000 in
theorem compactM_any (l : List Mk) (n c base : Nat) (A : Option Addr) (w : World) (hl : ∀ m ∈ l, MkRw m) (hn : l.length = n) (hn20 : n ≤ 100) (ho : w.ownsRow base 64 6 (.slice A n c) n (recs mkC l)) :
    Calls Tryz.prog 112 #[.slice A n c, .func (.func 113) #[] #[]] w fun e w' => CsPost2 l n c base A w e w' := by
  have hcap := own_cap ho
  have HL := Lib.hid hn
  have HLM := Lib.hid hl
  clear hl
  have HO := Lib.hid ho
  by_cases h2 : n < 2
  · have h2I : (n : Int) < 2 := by omega
    have HF := Lib.hid (show CsPost2 l n c base A w (.returned (.slice A n c)) w from ⟨l, n, rfl, hn, Nat.le_refl _, fun x hx => hx, ho, grown_refl _ _⟩)
    clear ho hn
    go_enter Tryz.func112, Tryz.ntmps112
    go_wp2_with (fail)
    go_ret
    exact HF.out
  · have h2I : ¬ (n : Int) < 2 := by omega
    rcases own_two ho with ⟨_, hn0, _⟩ | ⟨g, rfl, hbg, hlt⟩
    · omega
    have HCl := Lib.hid (own_cells0 ho)
    have HST := Lib.hid (CsI.take l 1)
    clear ho hn
    go_enter Tryz.func112, Tryz.ntmps112
    go_wp2_with (fail)
    go_loopw [5] (fun s wr => ∃ k : Nat, 1 ≤ k ∧ k ≤ n ∧ s = .int .i64 (k : Int) ∧ Below w.heap.size w wr ∧ Hid (CsI l (l.take k))) (fun s _ => n - (intOf s).toNat)
    case atStart => exact ⟨1, Nat.le_refl _, by omega, rfl, Below.refl _ _, HST⟩
    case round =>
      obtain ⟨k, hk1, hkn, rfl, hbr, HK⟩ := hrel
      have hbs := hbr.size
      have HB := Lib.hid hbr
      clear hbr
      by_cases hlt2 : k < n
      · have hltI : (k : Int) < n := by omega
        obtain ⟨x, hx⟩ : ∃ x, l[k]? = some x := ⟨_, List.getElem?_eq_getElem (by have := HL.out; omega)⟩
        obtain ⟨y, hy⟩ : ∃ y, l[k - 1]? = some y := ⟨_, List.getElem?_eq_getElem (by have := HL.out; omega)⟩
        have HQ := Lib.hid (fun (V : World) (hV : Below wr.heap.size wr V) => show MkAt2 V g (k * 6) x ((k - 1) * 6) y from by
          have h1 := mk_cells HCl.out k x hx
          have h2 := mk_cells HCl.out (k - 1) y hy
          rw [Nat.zero_add] at h1 h2
          have hb := HB.out.trans (hV.mono hbs)
          exact mkAt2 (h1.below hb hlt) (h2.below hb hlt))
        have HX := Lib.hid hx
        have HY := Lib.hid hy
        have hwrap : (k : Int) - 1 = ((k - 1 : Nat) : Int) := by omega
        have hwr : IntKind.i64.wrap ((k - 1 : Nat) : Int) = ((k - 1 : Nat) : Int) := by rw [IntKind.wrap_i64]; omega
        have hxI : ((k - 1 : Nat) : Int) < (n : Int) := by omega
        have hxN : k - 1 < n := by omega
        clear hx hy
        go_upto_region 6 with (fail)
        refine qRegionTail 10 (by kernel_rfl) (by kernel_rfl) ?_
        simp only [List.take_succ_cons, List.take_zero, List.drop_succ_cons, List.drop_zero]
        repeat (first
          | (go_big_quiet_want; refine qVal (fun V hV => (by (obtain ⟨q0, q1, q2, q3, q4, q5, p0, p1, p2, p3, p4, p5⟩ := HQ.out V hV; go_simp; try rfl))) ?_; simp only [Act.put, List.setIfInBounds_toArray, List.set_cons_zero, List.set_cons_succ]; go_big_quiet_on)
          | go_big_quiet_skip)
        refine wpQuiet_nil ?_
        intro w1 hb1
        have hs1 := hb1.size
        have HB1 := Lib.hid (HB.out.trans (hb1.mono hbs))
        clear hb1
        go_wp2_with (fail)
        refine (sameM_any x y w1 (HLM.out x (List.mem_of_getElem? HX.out)) (HLM.out y (List.mem_of_getElem? HY.out))).mono ?_
        rintro e w2 ⟨bb, rfl, hb2⟩
        have hs2 := hb2.size
        have HB2 := Lib.hid (HB1.out.trans (hb2.mono (by omega)))
        clear hb2 hwr hwrap
        cases bb
        case true =>
          have HK2 := Lib.hid ((HK.out))
          have hck : ¬ c = k := by omega
          have hgb : w.heap.size ≤ w2.heap.size := by omega
          have HO2 := Lib.hid (show w2.ownsRow base 64 6 (.slice (some ⟨g, 0, none⟩) n c) n (recs mkC (csR l (l.take k))) from by
            rw [csR_take l k (by have := HL.out; omega)]
            exact own_below HO.out HB2.out)
          have htk : (l.take k).length = k := by rw [List.length_take]; have := HL.out; omega
          have HG2 := Lib.hid (show w.grownBy w2 (some g) from grown_belowP HB2.out)
          go_wp2_with (fail)
          go_loopw [5, 7] (fun s t wx => ∃ (j : Nat) (P : List Mk), 1 ≤ j ∧ j ≤ n - k ∧ t = .int .i64 (j : Int) ∧ s = .int .i64 (P.length : Int) ∧ 1 ≤ P.length ∧ P.length + 1 ≤ k + j ∧ Hid (CsI l P) ∧ wx.ownsRow base 64 6 (.slice (some ⟨g, 0, none⟩) n c) n (recs mkC (csR l P)) ∧ w.grownBy wx (some g)) (fun _ t _ => n - k - (intOf t).toNat)
          case atStart => exact ⟨1, l.take k, Nat.le_refl _, by omega, rfl, by rw [htk], by omega, by omega, HK2, HO2.out, HG2.out⟩
          case round =>
            obtain ⟨j, P, hj1, hjn, rfl, rfl, hP1, hPk, HKP, hown, hgr⟩ := hrel
            have HOW := Lib.hid hown
            have HGR := Lib.hid hgr
            have hgs := hgr.size
            obtain ⟨pl, epl⟩ : ∃ pl, pl = P.length := ⟨_, rfl⟩
            rw [← epl] at hP1 hPk ⊢
            have HPL := Lib.hid epl.symm
            clear hown hgr epl
            by_cases hltj : j < n - k
            · have hltI2 : (j : Int) < ((n - k : Nat) : Int) := by omega
              obtain ⟨x2, hx2⟩ : ∃ x, l[k + j]? = some x := ⟨_, List.getElem?_eq_getElem (by have := HL.out; omega)⟩
              obtain ⟨y2, hy2⟩ : ∃ y, l[k + j - 1]? = some y := ⟨_, List.getElem?_eq_getElem (by have := HL.out; omega)⟩
              have HCw := Lib.hid (own_cells0 HOW.out)
              have HQ2 := Lib.hid (fun (V : World) (hV : Below wr.heap.size wr V) => show MkAt2 V g (k * 6 + j * 6) x2 (k * 6 + (j - 1) * 6) y2 from by
                have h1 := mk_cells HCw.out (k + j) x2 (by rw [csR_get (by have := HPL.out; omega)]; exact hx2)
                have h2 := mk_cells HCw.out (k + j - 1) y2 (by rw [csR_get (by have := HPL.out; omega)]; exact hy2)
                rw [Nat.zero_add, Nat.add_mul] at h1
                rw [Nat.zero_add, show (k + j - 1) * 6 = k * 6 + (j - 1) * 6 by omega] at h2
                exact mkAt2 (h1.below hV (by omega)) (h2.below hV (by omega)))
              have HX2 := Lib.hid hx2
              have HY2 := Lib.hid hy2
              have hwrap : (j : Int) - 1 = ((j - 1 : Nat) : Int) := by omega
              have hwr : IntKind.i64.wrap ((j - 1 : Nat) : Int) = ((j - 1 : Nat) : Int) := by rw [IntKind.wrap_i64]; omega
              have hxI : ((j - 1 : Nat) : Int) < ((n - k : Nat) : Int) := by omega
              have hxN : j - 1 < n - k := by omega
              clear hx2 hy2
              go_upto_region 11 with (fail)
              refine qRegionTail 10 (by kernel_rfl) (by kernel_rfl) ?_
              simp only [List.take_succ_cons, List.take_zero, List.drop_succ_cons, List.drop_zero]
              repeat (first
                | (go_big_quiet_want; refine qVal (fun V hV => (by (obtain ⟨q0, q1, q2, q3, q4, q5, p0, p1, p2, p3, p4, p5⟩ := HQ2.out V hV; go_simp; try rfl))) ?_; simp only [Act.put, List.setIfInBounds_toArray, List.set_cons_zero, List.set_cons_succ]; go_big_quiet_on)
                | go_big_quiet_skip)
              refine wpQuiet_nil ?_
              intro w3 hb3
              have hs3 := hb3.size
              have HB3 := Lib.hid hb3
              clear hb3
              go_wp2_with (fail)
              refine (sameM_any x2 y2 w3 (HLM.out x2 (List.mem_of_getElem? HX2.out)) (HLM.out y2 (List.mem_of_getElem? HY2.out))).mono ?_
              rintro e w4 ⟨bb, rfl, hb4⟩
              have hs4 := hb4.size
              have HB4 := Lib.hid (HB3.out.trans (hb4.mono (by omega)))
              clear hb4 hwr hwrap
              have HG4 := Lib.hid (grown_more HGR.out (grown_belowP (r := none) HB4.out) (by simp))
              have HO4 := Lib.hid (own_below HOW.out HB4.out)
              cases bb
              case true =>
                have HK4 := Lib.hid (HKP.out)
                go_wp2_with (fail)
                go_roundw
                case rel => exact ⟨j + 1, P, by omega, by omega, by simp, by rw [HPL.out], by have := HPL.out; omega, by have := HPL.out; omega, HK4, HO4.out, HG4.out⟩
                case measure => simp [intOf]; omega
              case false =>
                have HK4 := Lib.hid (HKP.out.new HX2.out)
                obtain ⟨z, hz⟩ : ∃ z, (csR l P)[pl]? = some z := ⟨_, List.getElem?_eq_getElem (by rw [csR_len (by have := HPL.out; have := HL.out; omega)]; have := HL.out; omega)⟩
                have hzc := mk_cells (own_cells0 HO4.out) pl z hz
                rw [Nat.zero_add] at hzc
                obtain ⟨z0, z1, z2, z3, z4, z5⟩ := hzc
                obtain ⟨q0, q1, q2, q3, q4, q5, _⟩ := HQ2.out w4 HB4.out
                obtain ⟨cs, hcs⟩ := own_blk HO4.out
                have fr : ∀ j, w4.frozen? ⟨g, j, none⟩ = false := by intro j; simp [World.frozen?, hcs]
                have fr0 := fr (pl * 6)
                have fr1 := fr (pl * 6 + 1)
                have fr2 := fr (pl * 6 + 2)
                have fr3 := fr (pl * 6 + 3)
                have fr4 := fr (pl * 6 + 4)
                have fr5 := fr (pl * 6 + 5)
                have hpn : pl < n := by omega
                have hpI : (pl : Int) < (n : Int) := by omega
                clear fr hcs hz
                have HSET := Lib.hid (mk_store HO4.out (by rw [csR_len (by have := HPL.out; have := HL.out; omega)]; exact HL.out) pl hpn x2)
                go_upto_region 13 with (fail)
                generalize hW5 : (((((w4.setCell ⟨g, pl * 6, none⟩ (.int .i64 x2.at_)).setCell ⟨g, pl * 6 + 1, none⟩ (.string (dvT x2.d))).setCell ⟨g, pl * 6 + 2, none⟩ (.int .i64 x2.kd)).setCell ⟨g, pl * 6 + 3, none⟩ (.int .i64 x2.v.a)).setCell ⟨g, pl * 6 + 4, none⟩ (.int .i64 x2.v.b)).setCell ⟨g, pl * 6 + 5, none⟩ (.int .i64 x2.v.c) = w5 at HSET ⊢
                have HO5 := Lib.hid (show w5.ownsRow base 64 6 (.slice (some ⟨g, 0, none⟩) n c) n (recs mkC (csR l (P ++ [x2]))) from by
                  have h := HSET.out.1
                  rw [← HPL.out, csR_set (by have := HPL.out; have := HL.out; omega)] at h
                  exact h)
                have HG5 := Lib.hid (grown_trans HG4.out HSET.out.2)
                have HPL5 := Lib.hid (show (P ++ [x2]).length = pl + 1 from by rw [List.length_append, HPL.out]; rfl)
                clear hW5 HSET z0 z1 z2 z3 z4 z5 q0 q1 q2 q3 q4 q5 fr0 fr1 fr2 fr3 fr4 fr5
                go_wp2_with (fail)
                go_roundw
                case rel => exact ⟨j + 1, P ++ [x2], by omega, by omega, by simp, by rw [HPL5.out]; simp, by rw [HPL5.out]; omega, by rw [HPL5.out]; omega, HK4, HO5.out, HG5.out⟩
                case measure => simp [intOf]; omega
            · have hltI2 : ¬ (j : Int) < ((n - k : Nat) : Int) := by omega
              have hjn2 : j = n - k := by omega
              have hcp : ¬ c = pl := by omega
              have hpn : pl ≤ n := by omega
              have hpI : (pl : Int) ≤ (n : Int) := by omega
              obtain ⟨cs, hcs⟩ := own_blk HOW.out
              obtain ⟨vs, hvl, hcl⟩ := run_clear_n (P := Tryz.prog) wr 57 64 _ [.int .i64 0, .string ⟨#[]⟩, .int .i64 0, .int .i64 0, .int .i64 0, .int .i64 0] (n - pl) Tryz.underlying57 Tryz.zeroValue64 rfl (by simp) (by intro u hu; simp at hu; rcases hu with rfl | rfl | rfl | rfl | rfl | rfl <;> rfl) g (pl * 6)
                (fun i hi => by
                  simp at hi
                  rw [HOW.out.cellAt _ (by omega), List.getElem?_eq_getElem (by rw [recs_length mkC_len, csR_len (by have := HPL.out; have := HL.out; omega), HL.out]; omega)]
                  rfl)
                (fun i _ => HOW.out.frozenAt _)
              have hvl6 : vs.length = (n - pl) * 6 := by rw [hvl]; rfl
              have HSET := Lib.hid (own_setCells vs (pl * 6) wr (recs mkC (csR l P)) HOW.out (by rw [recs_length mkC_len, csR_len (by have := HPL.out; have := HL.out; omega), hvl6, HL.out]; omega))
              have HF := Lib.hid (show CsPost2 l n c base (some ⟨g, 0, none⟩) w (.returned (.slice (some ⟨g, 0, none⟩) pl c)) (wr.setCells g (pl * 6) vs) from by
                refine ⟨P, pl, rfl, HPL.out, hpn, HKP.out, ?_, grown_trans HGR.out HSET.out.2⟩
                have h := own_shrink HSET.out.1 pl hpn
                rw [List.append_assoc, List.take_append_of_le_length (by rw [List.length_take, recs_length mkC_len, csR_len (by have := HPL.out; have := HL.out; omega), HL.out]; omega), List.take_take, Nat.min_self] at h
                have h3 : (recs mkC (csR l P)).take (pl * 6) = recs mkC P := by
                  have h4 := recs_append mkC P (l.drop P.length)
                  unfold csR
                  rw [h4, List.take_append_of_le_length (by rw [recs_length mkC_len, HPL.out]; exact Nat.le_refl _), List.take_of_length_le (by rw [recs_length mkC_len, HPL.out]; exact Nat.le_refl _)]
                rw [h3] at h
                exact h)
              have hsl : ∀ ty, (Builtin.clear_ #[57] ty #[.slice (some ⟨g, pl * 6, none⟩) (n - pl) (c - pl)]).run Tryz.prog wr = .ok (.tuple #[]) (wr.setCells g (pl * 6) vs) := fun ty => hcl ty (c - pl)
              clear hcl HSET hcs hvl hvl6
              obtain ⟨W6, e6⟩ : ∃ W6, W6 = wr.setCells g (pl * 6) vs := ⟨_, rfl⟩
              rw [← e6] at hsl HF
              clear e6
              go_wp2_with (fail)
              go_ret
              exact HF.out
        case false =>
          have HK2 := Lib.hid (CsI.take l (k + 1))
          go_wp2_with (fail)
          go_roundw
          case rel => exact ⟨k + 1, by omega, by omega, by simp, HB2.out, HK2⟩
          case measure => simp [intOf]; omega
      · have hltI : ¬ (k : Int) < n := by omega
        have hkn' : k = n := by omega
        subst hkn'
        have HF := Lib.hid (show CsPost2 l k c base (some ⟨g, 0, none⟩) w (.returned (.slice (some ⟨g, 0, none⟩) k c)) wr from by
          exact ⟨l, k, rfl, HL.out, Nat.le_refl _, fun x hx => hx, own_below HO.out HB.out, grown_belowP HB.out⟩)
        go_wp2_with (fail)
        go_ret
        exact HF.out
end Go.Proofs.YtidgicbhgnbidaaGreatDoor
