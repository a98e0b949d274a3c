/- slices.CompactFunc of sorted cells by its contract. -/
import Derived.Test.YtkcpfppjdjkjeaaGreatDoorMgD
import Derived.Test.YtkcpfppjdjkjeaaGreatDoorDl2
import Derived.Test.YtkcpfppjdjkjeaaGreatDoorMgB
import Derived.Test.YtkcpfppjdjkjeaaGreatDoorQtt
namespace Go.Proofs.YtkcpfppjdjkjeaaGreatDoor
open Go.RowKit

def CeAt (V : World) (b o : Nat) (x : Ce) : Prop :=
  V.cell? ⟨b, o, none⟩ = some (.string (nm x.1)) ∧ V.cell? ⟨b, o + 1, none⟩ = some (.int .i64 x.2.1.k) ∧ V.cell? ⟨b, o + 2, none⟩ = some (.bool x.2.1.f) ∧ V.cell? ⟨b, o + 3, none⟩ = some (.int .i64 x.2.1.n) ∧ V.cell? ⟨b, o + 4, none⟩ = some (.string x.2.1.s) ∧ V.cell? ⟨b, o + 5, none⟩ = some (.int .i64 x.2.2.at_) ∧ V.cell? ⟨b, o + 6, none⟩ = some (.string (byT x.2.2.by_)) ∧ V.cell? ⟨b, o + 7, none⟩ = some (.int .i64 x.2.2.no)
theorem ce_cells {w : World} {b o : Nat} {l : List Ce} (h : Cells w b o (recs ceC l)) (i : Nat) (x : Ce) (hx : l[i]? = some x) : CeAt w b (o + i * 8) x :=
  ⟨rec_cell ceC_len h i x hx 0 _ rfl, rec_cell ceC_len h i x hx 1 _ rfl, rec_cell ceC_len h i x hx 2 _ rfl, rec_cell ceC_len h i x hx 3 _ rfl, rec_cell ceC_len h i x hx 4 _ rfl, rec_cell ceC_len h i x hx 5 _ rfl, rec_cell ceC_len h i x hx 6 _ rfl, rec_cell ceC_len h i x hx 7 _ rfl⟩
theorem CeAt.below {V V' : World} {b o : Nat} {x : Ce} {B : Nat} (h : CeAt V b o x) (hb : Below B V V') (hB : b < B) : CeAt V' b o x := by
  obtain ⟨h0, h1, h2, h3, h4, h5, h6, h7⟩ := h
  exact ⟨(hb.cell (p := ⟨b, o, none⟩) hB).trans h0, (hb.cell (p := ⟨b, o + 1, none⟩) hB).trans h1, (hb.cell (p := ⟨b, o + 2, none⟩) hB).trans h2, (hb.cell (p := ⟨b, o + 3, none⟩) hB).trans h3, (hb.cell (p := ⟨b, o + 4, none⟩) hB).trans h4, (hb.cell (p := ⟨b, o + 5, none⟩) hB).trans h5, (hb.cell (p := ⟨b, o + 6, none⟩) hB).trans h6, (hb.cell (p := ⟨b, o + 7, none⟩) hB).trans h7⟩
def CeAt2 (V : World) (b o : Nat) (x : Ce) (o2 : Nat) (y : Ce) : Prop :=
  V.cell? ⟨b, o, none⟩ = some (.string (nm x.1)) ∧ V.cell? ⟨b, o + 1, none⟩ = some (.int .i64 x.2.1.k) ∧ V.cell? ⟨b, o + 2, none⟩ = some (.bool x.2.1.f) ∧ V.cell? ⟨b, o + 3, none⟩ = some (.int .i64 x.2.1.n) ∧ V.cell? ⟨b, o + 4, none⟩ = some (.string x.2.1.s) ∧ V.cell? ⟨b, o + 5, none⟩ = some (.int .i64 x.2.2.at_) ∧ V.cell? ⟨b, o + 6, none⟩ = some (.string (byT x.2.2.by_)) ∧ V.cell? ⟨b, o + 7, none⟩ = some (.int .i64 x.2.2.no) ∧ V.cell? ⟨b, o2, none⟩ = some (.string (nm y.1)) ∧ V.cell? ⟨b, o2 + 1, none⟩ = some (.int .i64 y.2.1.k) ∧ V.cell? ⟨b, o2 + 2, none⟩ = some (.bool y.2.1.f) ∧ V.cell? ⟨b, o2 + 3, none⟩ = some (.int .i64 y.2.1.n) ∧ V.cell? ⟨b, o2 + 4, none⟩ = some (.string y.2.1.s) ∧ V.cell? ⟨b, o2 + 5, none⟩ = some (.int .i64 y.2.2.at_) ∧ V.cell? ⟨b, o2 + 6, none⟩ = some (.string (byT y.2.2.by_)) ∧ V.cell? ⟨b, o2 + 7, none⟩ = some (.int .i64 y.2.2.no)
theorem ceAt2 {V : World} {b o o2 : Nat} {x y : Ce} (h : CeAt V b o x) (k : CeAt V b o2 y) : CeAt2 V b o x o2 y :=
  ⟨h.1, h.2.1, h.2.2.1, h.2.2.2.1, h.2.2.2.2.1, h.2.2.2.2.2.1, h.2.2.2.2.2.2.1, h.2.2.2.2.2.2.2, k.1, k.2.1, k.2.2.1, k.2.2.2.1, k.2.2.2.2.1, k.2.2.2.2.2.1, k.2.2.2.2.2.2.1, k.2.2.2.2.2.2.2⟩
def CeAt3 (V : World) (b o : Nat) (x : Ce) (b2 o2 : Nat) (y : Ce) : Prop :=
  V.cell? ⟨b, o, none⟩ = some (.string (nm x.1)) ∧ V.cell? ⟨b, o + 1, none⟩ = some (.int .i64 x.2.1.k) ∧ V.cell? ⟨b, o + 2, none⟩ = some (.bool x.2.1.f) ∧ V.cell? ⟨b, o + 3, none⟩ = some (.int .i64 x.2.1.n) ∧ V.cell? ⟨b, o + 4, none⟩ = some (.string x.2.1.s) ∧ V.cell? ⟨b, o + 5, none⟩ = some (.int .i64 x.2.2.at_) ∧ V.cell? ⟨b, o + 6, none⟩ = some (.string (byT x.2.2.by_)) ∧ V.cell? ⟨b, o + 7, none⟩ = some (.int .i64 x.2.2.no) ∧ V.cell? ⟨b2, o2, none⟩ = some (.string (nm y.1)) ∧ V.cell? ⟨b2, o2 + 1, none⟩ = some (.int .i64 y.2.1.k) ∧ V.cell? ⟨b2, o2 + 2, none⟩ = some (.bool y.2.1.f) ∧ V.cell? ⟨b2, o2 + 3, none⟩ = some (.int .i64 y.2.1.n) ∧ V.cell? ⟨b2, o2 + 4, none⟩ = some (.string y.2.1.s) ∧ V.cell? ⟨b2, o2 + 5, none⟩ = some (.int .i64 y.2.2.at_) ∧ V.cell? ⟨b2, o2 + 6, none⟩ = some (.string (byT y.2.2.by_)) ∧ V.cell? ⟨b2, o2 + 7, none⟩ = some (.int .i64 y.2.2.no)
theorem ceAt3 {V : World} {b o b2 o2 : Nat} {x y : Ce} (h : CeAt V b o x) (k : CeAt V b2 o2 y) : CeAt3 V b o x b2 o2 y :=
  ⟨h.1, h.2.1, h.2.2.1, h.2.2.2.1, h.2.2.2.2.1, h.2.2.2.2.2.1, h.2.2.2.2.2.2.1, h.2.2.2.2.2.2.2, k.1, k.2.1, k.2.2.1, k.2.2.2.1, k.2.2.2.2.1, k.2.2.2.2.2.1, k.2.2.2.2.2.2.1, k.2.2.2.2.2.2.2⟩
theorem nm_eqv (i j : Nat) (hi : i < 7) (hj : j < 7) : ((nm i).toList == (nm j).toList) = decide (i = j) := by
  rw [Lib.toList_data, Lib.toList_data]
  have h1 : i = 0 ∨ i = 1 ∨ i = 2 ∨ i = 3 ∨ i = 4 ∨ i = 5 ∨ i = 6 := by omega
  have h2 : j = 0 ∨ j = 1 ∨ j = 2 ∨ j = 3 ∨ j = 4 ∨ j = 5 ∨ j = 6 := by omega
  rcases h1 with h | h | h | h | h | h | h <;> subst h <;> rcases h2 with h | h | h | h | h | h | h <;> subst h <;> decide
set_option maxRecDepth 100000 in
theorem same_any (x y : Ce) (hx : x.1 < 7) (hy : y.1 < 7) (w : World) : Calls Tryz.prog 25 #[.agg #[.string (nm x.1), .int .i64 x.2.1.k, .bool x.2.1.f, .int .i64 x.2.1.n, .string x.2.1.s, .int .i64 x.2.2.at_, .string (byT x.2.2.by_), .int .i64 x.2.2.no], .agg #[.string (nm y.1), .int .i64 y.2.1.k, .bool y.2.1.f, .int .i64 y.2.1.n, .string y.2.1.s, .int .i64 y.2.2.at_, .string (byT y.2.2.by_), .int .i64 y.2.2.no]] w fun e w' => e = .returned (.bool (decide (x.1 = y.1))) ∧ Below w.heap.size w w' := by
  have he := Lib.hid (nm_eqv x.1 y.1 hx hy)
  go_enter Tryz.func25, Tryz.ntmps25
  go_wp2_with (fail)
  go_ret
  exact ⟨by rw [← he.out]; rfl, ((Below.refl _ _).alloc (Nat.le_refl _) _).alloc (by simp) _⟩
/-- One element stored anew. -/
theorem ce_store {W : World} {base g n cap : Nat} {L : List Ce} (h : W.ownsRow base 41 8 (.slice (some ⟨g, 0, none⟩) n cap) n (recs ceC L)) (hL : L.length = n) (i : Nat) (hi : i < n) (x : Ce) :
    ((((((((W.setCell ⟨g, i * 8, none⟩ (.string (nm x.1))).setCell ⟨g, i * 8 + 1, none⟩ (.int .i64 x.2.1.k)).setCell ⟨g, i * 8 + 2, none⟩ (.bool x.2.1.f)).setCell ⟨g, i * 8 + 3, none⟩ (.int .i64 x.2.1.n)).setCell ⟨g, i * 8 + 4, none⟩ (.string x.2.1.s)).setCell ⟨g, i * 8 + 5, none⟩ (.int .i64 x.2.2.at_)).setCell ⟨g, i * 8 + 6, none⟩ (.string (byT x.2.2.by_))).setCell ⟨g, i * 8 + 7, none⟩ (.int .i64 x.2.2.no)).ownsRow base 41 8 (.slice (some ⟨g, 0, none⟩) n cap) n (recs ceC (L.set i x)) ∧
    W.grownBy ((((((((W.setCell ⟨g, i * 8, none⟩ (.string (nm x.1))).setCell ⟨g, i * 8 + 1, none⟩ (.int .i64 x.2.1.k)).setCell ⟨g, i * 8 + 2, none⟩ (.bool x.2.1.f)).setCell ⟨g, i * 8 + 3, none⟩ (.int .i64 x.2.1.n)).setCell ⟨g, i * 8 + 4, none⟩ (.string x.2.1.s)).setCell ⟨g, i * 8 + 5, none⟩ (.int .i64 x.2.2.at_)).setCell ⟨g, i * 8 + 6, none⟩ (.string (byT x.2.2.by_))).setCell ⟨g, i * 8 + 7, none⟩ (.int .i64 x.2.2.no)) (some g) := by
  have h2 := own_setCells (ceC x) (i * 8) W (recs ceC L) h (by rw [recs_length ceC_len, ceC_len, hL]; omega)
  rw [recs_set ceC_len L i x (by omega)] at h2
  exact h2
def ceSm (x y : Ce) : Bool := decide (x.1 = y.1)
/-- What is kept after j elements, as a function too. -/
def CpJ (l P : List Ce) (j : Nat) : Prop := CpI l P j ∧ P = csN ceSm l j
theorem CpJ.start {l : List Ce} {x : Ce} (h : l[0]? = some x) : CpJ l (l.take 1) 1 := ⟨CpI.start h, (csN_one ceSm l).symm⟩
theorem CpJ.same {l P : List Ce} {j : Nat} (hs : l.Pairwise (fun x y => x.1 ≤ y.1)) (h : CpJ l P j) (hj : 1 ≤ j) {x y : Ce} (hx : l[j]? = some x) (hy : l[j - 1]? = some y) (e : x.1 = y.1) : CpJ l P (j + 1) :=
  ⟨CpI.same hs h.1 hj hx hy, by rw [csN_same hj hx hy (decide_eq_true e)]; exact h.2⟩
theorem CpJ.new {l P : List Ce} {j : Nat} (hs : l.Pairwise (fun x y => x.1 ≤ y.1)) (h : CpJ l P j) (hj : 1 ≤ j) {x y : Ce} (hx : l[j]? = some x) (hy : l[j - 1]? = some y) (hne : x.1 ≠ y.1) : CpJ l (P ++ [x]) (j + 1) :=
  ⟨CpI.new hs h.1 hj hx hy hne, by rw [csN_new hx hy (decide_eq_false hne), ← h.2]⟩
def CmPost (l : List Ce) (n c base : Nat) (A : Option Addr) (w : World) (e : Ending) (w' : World) : Prop :=
  ∃ (m : List Ce) (k : Nat), e = .returned (.slice A k c) ∧ m.length = k ∧ k ≤ n ∧ m.Pairwise (fun x y => x.1 < y.1) ∧ (∀ x ∈ m, x ∈ l) ∧ w'.ownsRow base 41 8 (.slice A k c) k (recs ceC m) ∧ w.grownBy w' (Value.slice A n c).ownBlock ∧ m = csN ceSm l n
set_option maxRecDepth 100000 in
set_option maxHeartbeats 4000000 in
theorem compactC_any (l : List Ce) (n c base : Nat) (A : Option Addr) (w : World) (hs : l.Pairwise (fun x y => x.1 ≤ y.1)) (h7 : ∀ x ∈ l, x.1 < 7) (hn : l.length = n) (hn20 : n ≤ 100) (ho : w.ownsRow base 41 8 (.slice A n c) n (recs ceC l)) :
    Calls Tryz.prog 24 #[.slice A n c, .func (.func 25) #[] #[]] w fun e w' => CmPost l n c base A w e w' := by
  have hcap := own_cap ho
  have HL := Lib.hid hn
  have H7 := Lib.hid h7
  have HS := Lib.hid hs
  have HO := Lib.hid ho
  by_cases h2 : n < 2
  · have h2I : (n : Int) < 2 := by omega
    have hm : l.Pairwise (fun x y => x.1 < y.1) := by
      match l, hn with
      | [], _ => exact List.Pairwise.nil
      | [x], _ => exact List.pairwise_singleton _ _
      | x :: y :: r, hn => simp at hn; omega
    have HF := Lib.hid (show CmPost l n c base A w (.returned (.slice A n c)) w from ⟨l, n, rfl, hn, Nat.le_refl _, hm, fun x hx => hx, ho, grown_refl _ _, by rw [← hn]; exact csN_few ceSm (by omega)⟩)
    clear ho hs h7 hn hm
    go_enter Tryz.func24, Tryz.ntmps24
    go_wp2_with (fail)
    go_ret
    exact HF.out
  · have h2I : ¬ (n : Int) < 2 := by omega
    rcases own_two ho with ⟨_, hn0, _⟩ | ⟨g, rfl, hbg, hlt⟩
    · omega
    have HCl := Lib.hid (own_cells0 ho)
    obtain ⟨x0, hx0⟩ : ∃ x, l[0]? = some x := ⟨_, List.getElem?_eq_getElem (by omega)⟩
    have HST := Lib.hid (CpJ.start hx0)
    clear ho hs h7 hn hx0
    go_enter Tryz.func24, Tryz.ntmps24
    go_wp2_with (fail)
    go_loopw [5] (fun s wr => ∃ k : Nat, 1 ≤ k ∧ k ≤ n ∧ s = .int .i64 (k : Int) ∧ Below w.heap.size w wr ∧ Hid (CpJ l (l.take k) k)) (fun s _ => n - (intOf s).toNat)
    case atStart => exact ⟨1, Nat.le_refl _, by omega, rfl, Below.refl _ _, HST⟩
    case round =>
      obtain ⟨k, hk1, hkn, rfl, hbr, HK⟩ := hrel
      have hbs := hbr.size
      have HB := Lib.hid hbr
      clear hbr
      by_cases hlt2 : k < n
      · have hltI : (k : Int) < n := by omega
        obtain ⟨x, hx⟩ : ∃ x, l[k]? = some x := ⟨_, List.getElem?_eq_getElem (by have := HL.out; omega)⟩
        obtain ⟨y, hy⟩ : ∃ y, l[k - 1]? = some y := ⟨_, List.getElem?_eq_getElem (by have := HL.out; omega)⟩
        have hx7 := H7.out x (List.mem_of_getElem? hx)
        have hy7 := H7.out y (List.mem_of_getElem? hy)
        have HQ := Lib.hid (fun (V : World) (hV : Below wr.heap.size wr V) => show CeAt2 V g (k * 8) x ((k - 1) * 8) y from by
          have h1 := ce_cells HCl.out k x hx
          have h2 := ce_cells HCl.out (k - 1) y hy
          rw [Nat.zero_add] at h1 h2
          have hb := HB.out.trans (hV.mono hbs)
          exact ceAt2 (h1.below hb hlt) (h2.below hb hlt))
        have HX := Lib.hid hx
        have HY := Lib.hid hy
        have hwrap : (k : Int) - 1 = ((k - 1 : Nat) : Int) := by omega
        have hwr : IntKind.i64.wrap ((k - 1 : Nat) : Int) = ((k - 1 : Nat) : Int) := by rw [IntKind.wrap_i64]; omega
        have hxI : ((k - 1 : Nat) : Int) < (n : Int) := by omega
        have hxN : k - 1 < n := by omega
        clear hx hy
        go_upto_region 6 with (fail)
        refine qRegionTail 10 (by kernel_rfl) (by kernel_rfl) ?_
        simp only [List.take_succ_cons, List.take_zero, List.drop_succ_cons, List.drop_zero]
        repeat (first
          | (go_big_quiet_want; refine qVal (fun V hV => (by (obtain ⟨q0, q1, q2, q3, q4, q5, q6, q7, p0, p1, p2, p3, p4, p5, p6, p7⟩ := HQ.out V hV; go_simp; try rfl))) ?_; simp only [Act.put, List.setIfInBounds_toArray, List.set_cons_zero, List.set_cons_succ]; go_big_quiet_on)
          | go_big_quiet_skip)
        refine wpQuiet_nil ?_
        intro w1 hb1
        have hs1 := hb1.size
        have HB1 := Lib.hid (HB.out.trans (hb1.mono hbs))
        clear hb1
        go_wp2_with (fail)
        refine (same_any x y hx7 hy7 w1).mono ?_
        rintro e w2 ⟨rfl, hb2⟩
        have hs2 := hb2.size
        have HB2 := Lib.hid (HB1.out.trans (hb2.mono (by omega)))
        clear hb2 hwr hwrap
        by_cases hxy : x.1 = y.1
        · rw [decide_eq_true hxy]
          have HK2 := Lib.hid ((CpJ.same HS.out HK.out hk1 HX.out HY.out hxy))
          clear hxy
          have hck : ¬ c = k := by omega
          have hgb : w.heap.size ≤ w2.heap.size := by omega
          have HO2 := Lib.hid (show w2.ownsRow base 41 8 (.slice (some ⟨g, 0, none⟩) n c) n (recs ceC (cpR l (l.take k))) from by
            rw [cpR_take l k (by have := HL.out; omega)]
            exact own_belowP HO.out HB2.out)
          have htk : (l.take k).length = k := by rw [List.length_take]; have := HL.out; omega
          have HG2 := Lib.hid (show w.grownBy w2 (some g) from grown_belowP HB2.out)
          go_wp2_with (fail)
          go_loopw [5, 7] (fun s t wx => ∃ (j : Nat) (P : List Ce), 1 ≤ j ∧ j ≤ n - k ∧ t = .int .i64 (j : Int) ∧ s = .int .i64 (P.length : Int) ∧ 1 ≤ P.length ∧ P.length + 1 ≤ k + j ∧ Hid (CpJ l P (k + j)) ∧ wx.ownsRow base 41 8 (.slice (some ⟨g, 0, none⟩) n c) n (recs ceC (cpR l P)) ∧ w.grownBy wx (some g)) (fun _ t _ => n - k - (intOf t).toNat)
          case atStart => exact ⟨1, l.take k, Nat.le_refl _, by omega, rfl, by rw [htk], by omega, by omega, HK2, HO2.out, HG2.out⟩
          case round =>
            obtain ⟨j, P, hj1, hjn, rfl, rfl, hP1, hPk, HKP, hown, hgr⟩ := hrel
            have HOW := Lib.hid hown
            have HGR := Lib.hid hgr
            have hgs := hgr.size
            obtain ⟨pl, epl⟩ : ∃ pl, pl = P.length := ⟨_, rfl⟩
            rw [← epl] at hP1 hPk ⊢
            have HPL := Lib.hid epl.symm
            clear hown hgr epl
            by_cases hltj : j < n - k
            · have hltI2 : (j : Int) < ((n - k : Nat) : Int) := by omega
              obtain ⟨x2, hx2⟩ : ∃ x, l[k + j]? = some x := ⟨_, List.getElem?_eq_getElem (by have := HL.out; omega)⟩
              obtain ⟨y2, hy2⟩ : ∃ y, l[k + j - 1]? = some y := ⟨_, List.getElem?_eq_getElem (by have := HL.out; omega)⟩
              have hx27 := H7.out x2 (List.mem_of_getElem? hx2)
              have hy27 := H7.out y2 (List.mem_of_getElem? hy2)
              have HCw := Lib.hid (own_cells0 HOW.out)
              have HQ2 := Lib.hid (fun (V : World) (hV : Below wr.heap.size wr V) => show CeAt2 V g (k * 8 + j * 8) x2 (k * 8 + (j - 1) * 8) y2 from by
                have h1 := ce_cells HCw.out (k + j) x2 (by rw [cpR_get (by have := HPL.out; omega)]; exact hx2)
                have h2 := ce_cells HCw.out (k + j - 1) y2 (by rw [cpR_get (by have := HPL.out; omega)]; exact hy2)
                rw [Nat.zero_add, Nat.add_mul] at h1
                rw [Nat.zero_add, show (k + j - 1) * 8 = k * 8 + (j - 1) * 8 by omega] at h2
                exact ceAt2 (h1.below hV (by omega)) (h2.below hV (by omega)))
              have HX2 := Lib.hid hx2
              have HY2 := Lib.hid hy2
              have hwrap : (j : Int) - 1 = ((j - 1 : Nat) : Int) := by omega
              have hwr : IntKind.i64.wrap ((j - 1 : Nat) : Int) = ((j - 1 : Nat) : Int) := by rw [IntKind.wrap_i64]; omega
              have hxI : ((j - 1 : Nat) : Int) < ((n - k : Nat) : Int) := by omega
              have hxN : j - 1 < n - k := by omega
              clear hx2 hy2
              go_upto_region 11 with (fail)
              refine qRegionTail 10 (by kernel_rfl) (by kernel_rfl) ?_
              simp only [List.take_succ_cons, List.take_zero, List.drop_succ_cons, List.drop_zero]
              repeat (first
                | (go_big_quiet_want; refine qVal (fun V hV => (by (obtain ⟨q0, q1, q2, q3, q4, q5, q6, q7, p0, p1, p2, p3, p4, p5, p6, p7⟩ := HQ2.out V hV; go_simp; try rfl))) ?_; simp only [Act.put, List.setIfInBounds_toArray, List.set_cons_zero, List.set_cons_succ]; go_big_quiet_on)
                | go_big_quiet_skip)
              refine wpQuiet_nil ?_
              intro w3 hb3
              have hs3 := hb3.size
              have HB3 := Lib.hid hb3
              clear hb3
              go_wp2_with (fail)
              refine (same_any x2 y2 hx27 hy27 w3).mono ?_
              rintro e w4 ⟨rfl, hb4⟩
              have hs4 := hb4.size
              have HB4 := Lib.hid (HB3.out.trans (hb4.mono (by omega)))
              clear hb4 hwr hwrap
              have HG4 := Lib.hid (grown_more HGR.out (grown_belowP (r := none) HB4.out) (by simp))
              have HO4 := Lib.hid (own_belowP HOW.out HB4.out)
              by_cases hxy2 : x2.1 = y2.1
              · rw [decide_eq_true hxy2]
                have HK4 := Lib.hid (CpJ.same HS.out HKP.out (by omega) HX2.out HY2.out hxy2)
                clear hxy2
                go_wp2_with (fail)
                go_roundw
                case rel => exact ⟨j + 1, P, by omega, by omega, by simp, by rw [HPL.out], by have := HPL.out; omega, by have := HPL.out; omega, HK4, HO4.out, HG4.out⟩
                case measure => simp [intOf]; omega
              · rw [decide_eq_false hxy2]
                have HK4 := Lib.hid (CpJ.new HS.out HKP.out (by omega) HX2.out HY2.out hxy2)
                clear hxy2
                obtain ⟨z, hz⟩ : ∃ z, (cpR l P)[pl]? = some z := ⟨_, List.getElem?_eq_getElem (by rw [cpR_len (by have := HPL.out; have := HL.out; omega)]; have := HL.out; omega)⟩
                have hzc := ce_cells (own_cells0 HO4.out) pl z hz
                rw [Nat.zero_add] at hzc
                obtain ⟨z0, z1, z2, z3, z4, z5, z6, z7⟩ := hzc
                obtain ⟨q0, q1, q2, q3, q4, q5, q6, q7, _⟩ := HQ2.out w4 HB4.out
                obtain ⟨cs, hcs⟩ := own_blk HO4.out
                have fr : ∀ j, w4.frozen? ⟨g, j, none⟩ = false := by intro j; simp [World.frozen?, hcs]
                have fr0 := fr (pl * 8)
                have fr1 := fr (pl * 8 + 1)
                have fr2 := fr (pl * 8 + 2)
                have fr3 := fr (pl * 8 + 3)
                have fr4 := fr (pl * 8 + 4)
                have fr5 := fr (pl * 8 + 5)
                have fr6 := fr (pl * 8 + 6)
                have fr7 := fr (pl * 8 + 7)
                have hpn : pl < n := by omega
                have hpI : (pl : Int) < (n : Int) := by omega
                clear fr hcs hz
                have HSET := Lib.hid (ce_store HO4.out (by rw [cpR_len (by have := HPL.out; have := HL.out; omega)]; exact HL.out) pl hpn x2)
                go_upto_region 13 with (fail)
                generalize hW5 : (((((((w4.setCell ⟨g, pl * 8, none⟩ (.string (nm x2.1))).setCell ⟨g, pl * 8 + 1, none⟩ (.int .i64 x2.2.1.k)).setCell ⟨g, pl * 8 + 2, none⟩ (.bool x2.2.1.f)).setCell ⟨g, pl * 8 + 3, none⟩ (.int .i64 x2.2.1.n)).setCell ⟨g, pl * 8 + 4, none⟩ (.string x2.2.1.s)).setCell ⟨g, pl * 8 + 5, none⟩ (.int .i64 x2.2.2.at_)).setCell ⟨g, pl * 8 + 6, none⟩ (.string (byT x2.2.2.by_))).setCell ⟨g, pl * 8 + 7, none⟩ (.int .i64 x2.2.2.no) = w5 at HSET ⊢
                have HO5 := Lib.hid (show w5.ownsRow base 41 8 (.slice (some ⟨g, 0, none⟩) n c) n (recs ceC (cpR l (P ++ [x2]))) from by
                  have h := HSET.out.1
                  rw [← HPL.out, cpR_set (by have := HPL.out; have := HL.out; omega)] at h
                  exact h)
                have HG5 := Lib.hid (grown_trans HG4.out HSET.out.2)
                have HPL5 := Lib.hid (show (P ++ [x2]).length = pl + 1 from by rw [List.length_append, HPL.out]; rfl)
                clear hW5 HSET z0 z1 z2 z3 z4 z5 z6 z7 q0 q1 q2 q3 q4 q5 q6 q7 fr0 fr1 fr2 fr3 fr4 fr5 fr6 fr7
                go_wp2_with (fail)
                go_roundw
                case rel => exact ⟨j + 1, P ++ [x2], by omega, by omega, by simp, by rw [HPL5.out]; simp, by rw [HPL5.out]; omega, by rw [HPL5.out]; omega, HK4, HO5.out, HG5.out⟩
                case measure => simp [intOf]; omega
            · have hltI2 : ¬ (j : Int) < ((n - k : Nat) : Int) := by omega
              have hjn2 : j = n - k := by omega
              have hcp : ¬ c = pl := by omega
              have hpn : pl ≤ n := by omega
              have hpI : (pl : Int) ≤ (n : Int) := by omega
              obtain ⟨cs, hcs⟩ := own_blk HOW.out
              obtain ⟨vs, hvl, hcl⟩ := run_clear_n (P := Tryz.prog) wr 26 41 _ [.string ⟨#[]⟩, .int .i64 0, .bool false, .int .i64 0, .string ⟨#[]⟩, .int .i64 0, .string ⟨#[]⟩, .int .i64 0] (n - pl) Tryz.underlying26 Tryz.zeroValue41 rfl (by simp) (by intro u hu; simp at hu; rcases hu with rfl | rfl | rfl | rfl | rfl | rfl | rfl | rfl <;> rfl) g (pl * 8)
                (fun i hi => by
                  simp at hi
                  rw [HOW.out.cellAt _ (by omega), List.getElem?_eq_getElem (by rw [recs_length ceC_len, cpR_len (by have := HPL.out; have := HL.out; omega), HL.out]; omega)]
                  rfl)
                (fun i _ => HOW.out.frozenAt _)
              have hvl8 : vs.length = (n - pl) * 8 := by rw [hvl]; rfl
              have HSET := Lib.hid (own_setCells vs (pl * 8) wr (recs ceC (cpR l P)) HOW.out (by rw [recs_length ceC_len, cpR_len (by have := HPL.out; have := HL.out; omega), hvl8, HL.out]; omega))
              have HF := Lib.hid (show CmPost l n c base (some ⟨g, 0, none⟩) w (.returned (.slice (some ⟨g, 0, none⟩) pl c)) (wr.setCells g (pl * 8) vs) from by
                have hfn := HKP.out.2
                rw [show k + j = n by omega] at hfn
                refine ⟨P, pl, rfl, HPL.out, hpn, HKP.out.1.1, HKP.out.1.2.1, ?_, grown_trans HGR.out HSET.out.2, hfn⟩
                have h := own_shrink HSET.out.1 pl hpn
                rw [List.append_assoc, List.take_append_of_le_length (by rw [List.length_take, recs_length ceC_len, cpR_len (by have := HPL.out; have := HL.out; omega), HL.out]; omega), List.take_take, Nat.min_self] at h
                have h3 : (recs ceC (cpR l P)).take (pl * 8) = recs ceC P := by
                  have h4 := recs_append ceC P (l.drop P.length)
                  unfold cpR
                  rw [h4, List.take_append_of_le_length (by rw [recs_length ceC_len, HPL.out]; exact Nat.le_refl _), List.take_of_length_le (by rw [recs_length ceC_len, HPL.out]; exact Nat.le_refl _)]
                rw [h3] at h
                exact h)
              have hsl : ∀ ty, (Builtin.clear_ #[26] ty #[.slice (some ⟨g, pl * 8, none⟩) (n - pl) (c - pl)]).run Tryz.prog wr = .ok (.tuple #[]) (wr.setCells g (pl * 8) vs) := fun ty => hcl ty (c - pl)
              clear hcl HSET hcs hvl hvl8
              obtain ⟨W6, e6⟩ : ∃ W6, W6 = wr.setCells g (pl * 8) vs := ⟨_, rfl⟩
              rw [← e6] at hsl HF
              clear e6
              go_wp2_with (fail)
              go_ret
              exact HF.out
        · rw [decide_eq_false hxy]
          have HK2 := Lib.hid (show CpJ l (l.take (k + 1)) (k + 1) from by
            have h := CpJ.new HS.out HK.out hk1 HX.out HY.out hxy
            rwa [show l.take k ++ [x] = l.take (k + 1) by rw [List.take_add_one, HX.out]; rfl] at h)
          clear hxy
          go_wp2_with (fail)
          go_roundw
          case rel => exact ⟨k + 1, by omega, by omega, by simp, HB2.out, HK2⟩
          case measure => simp [intOf]; omega
      · have hltI : ¬ (k : Int) < n := by omega
        have hkn' : k = n := by omega
        subst hkn'
        have HF := Lib.hid (show CmPost l k c base (some ⟨g, 0, none⟩) w (.returned (.slice (some ⟨g, 0, none⟩) k c)) wr from by
          have h := HK.out
          rw [List.take_of_length_le (by rw [HL.out]; exact Nat.le_refl _)] at h
          exact ⟨l, k, rfl, HL.out, Nat.le_refl _, h.1.1, h.1.2.1, own_belowP HO.out HB.out, grown_belowP HB.out, h.2⟩)
        go_wp2_with (fail)
        go_ret
        exact HF.out
end Go.Proofs.YtkcpfppjdjkjeaaGreatDoor
