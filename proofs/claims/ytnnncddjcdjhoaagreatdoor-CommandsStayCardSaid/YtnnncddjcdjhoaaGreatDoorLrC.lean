/- SortStableFunc of letters by name, CompactFunc of letters of one name: what they make. Printed by gen_LrC.py. -/
import Derived.Test.YtnnncddjcdjhoaaGreatDoorLrA
import Derived.Test.YtnnncddjcdjhoaaGreatDoorLaySL
import Derived.Test.YtnnncddjcdjhoaaGreatDoorDl2
import Derived.Test.YtnnncddjcdjhoaaGreatDoorPrZ
import Derived.Test.YtnnncddjcdjhoaaGreatDoorQtt
namespace Go.Proofs.YtnnncddjcdjhoaaGreatDoor
open Go.RowKit Go.Shelf Go.Sort

theorem bel_grown {w w' : World} (h : Below w.heap.size w w') (row : Option Nat) : w.grownBy w' row := ⟨h.os, h.tape, h.output, h.size, fun k hk _ => h.block k hk⟩
set_option maxRecDepth 100000 in
theorem ord1_grow (x y : Lr) (w : World) : Calls Tryz.prog 26 #[.agg (lrC x).toArray, .agg (lrC y).toArray] w fun e w' => e = .returned (.int .i64 (cfI x y)) ∧ ∃ q os', w' = grow (w.drewN q) os' := by
  have HD := Lib.hid (fun V => scompare_any x.id y.id V)
  show Calls Tryz.prog 26 #[.agg #[.string x.id, .string x.sl, .string x.bo, .int .i64 x.pr, .int .i64 x.at_, .int .i64 x.un], .agg #[.string y.id, .string y.sl, .string y.bo, .int .i64 y.pr, .int .i64 y.at_, .int .i64 y.un]] w _
  unfold cfI cbY
  obtain ⟨x0, x1, x2, x3, x4, x5⟩ := x
  obtain ⟨y0, y1, y2, y3, y4, y5⟩ := y
  simp only at HD ⊢
  generalize Lib.compareBytes x0.data.toList y0.data.toList = r at HD ⊢
  go_enter Tryz.func26, Tryz.ntmps26
  go_upto_region 1 with (fail)
  generalize hW : ((w.alloc (.cells #[.string x0, .string x1, .string x2, .int .i64 x3, .int .i64 x4, .int .i64 x5] 35)).alloc (.cells #[.string y0, .string y1, .string y2, .int .i64 y3, .int .i64 y4, .int .i64 y5] 35)) = W
  have hG : W = grow (w.drewN 0) #[.cells #[.string x0, .string x1, .string x2, .int .i64 x3, .int .i64 x4, .int .i64 x5] 35, .cells #[.string y0, .string y1, .string y2, .int .i64 y3, .int .i64 y4, .int .i64 y5] 35] := by rw [← hW, alloc_eq_grow, alloc_eq_grow, grow_grow]; rfl
  have hx : W.heap[w.heap.size]? = some (.cells #[.string x0, .string x1, .string x2, .int .i64 x3, .int .i64 x4, .int .i64 x5] 35) := by
    rw [← hW, Below.heap_alloc _ _ _ (by simp)]; exact heap_new w _
  have hy : W.heap[w.heap.size + 1]? = some (.cells #[.string y0, .string y1, .string y2, .int .i64 y3, .int .i64 y4, .int .i64 y5] 35) := by
    rw [← hW]; have := heap_new (w.alloc (.cells #[.string x0, .string x1, .string x2, .int .i64 x3, .int .i64 x4, .int .i64 x5] 35)) (.cells #[.string y0, .string y1, .string y2, .int .i64 y3, .int .i64 y4, .int .i64 y5] 35); simpa using this
  have p0 : W.cell? ⟨w.heap.size, 0, none⟩ = some (.string x0) := cell_of_blk hx rfl
  have q0 : W.cell? ⟨w.heap.size + 1, 0, none⟩ = some (.string y0) := cell_of_blk hy rfl
  have HG := Lib.hid hG
  clear hW hx hy hG
  go_wp2_with (fail)
  refine (HD.out W).mono ?_
  rintro e w' ⟨rfl, rfl⟩
  go_wp2_with (fail)
  go_ret
  exact ⟨rfl, 0, _, HG.out⟩
theorem insR_none (p : Option Addr) (cap : Nat) (fv : Value) (w : World) : Calls Tryz.prog 97 #[.slice p 0 cap, .int .i64 0, .int .i64 0, fv] w fun e w' => e = .returned (.tuple #[]) ∧ w' = w := by
  go_enter Tryz.func97, Tryz.ntmps97
  go_wp2_with (fail)
  refine wp_loop_rounds 1 ?_
  rw [rounds_succ]
  go_wp2_with (fail)
  go_end0
  exact ⟨rfl, rfl⟩
def SortRPost (l : List Lr) (n base : Nat) (v : Value) (w : World) (e : Ending) (w' : World) : Prop :=
  e = .returned (.tuple #[]) ∧ ∃ m : List Lr, m.Perm l ∧ m.length = n ∧ w'.ownsRow base 35 6 v n (recs lrC m) ∧ w.grownBy w' v.ownBlock ∧ m = srtL l
theorem insR_any (l : List Lr) (n c base : Nat) (A : Option Addr) (w : World) (hn : l.length = n) (h12 : n ≤ 19) (ho : w.ownsRow base 35 6 (.slice A n c) n (recs lrC l)) :
    Calls Tryz.prog 97 #[.slice A n c, .int .i64 0, .int .i64 (n : Int), .func (.func 26) #[] #[]] w fun e w' => SortRPost l n base (.slice A n c) w e w' := by
  rcases own_two ho with ⟨rfl, rfl, rfl⟩ | ⟨b, rfl, hb, hlt⟩
  · refine (insR_none none 0 _ w).mono ?_
    rintro e w' ⟨rfl, rfl⟩
    have hl := List.eq_nil_of_length_eq_zero hn
    subst hl
    exact ⟨rfl, [], List.Perm.refl _, rfl, ho, grown_refl _ _, by simp [srtL, Sort.insertionSort, Sort.insOuter]⟩
  · have eg : ∀ args w, (callFunc 26 args).run Tryz.prog w = .ok (.enter 26 args) w := enters_of Tryz.func26 (by kernel_rfl) rfl
    have hcmp : CmpLays Tryz.prog 26 #[] lrC 6 cfI b 0 l.toArray.size w := fun m os dk _ x y => ord1_grow x y _
    have h := AnyQ.insertionSortCmpFunc { laySL with } 6 Tryz.isAgg35 Tryz.sizeOf35 lrC lrC_len lrC_one cfI 26 #[] b 0 c 0 l.toArray.size l.toArray w eg hcmp (holdsK_of_own lrC_len ho hn) hlt (Nat.zero_le _) (Nat.le_refl _) (by simp; omega)
    have hsz : l.toArray.size = n := by simpa using hn
    have hins := insertionSort_holds (lt := ltOf cfI) cfI_ok.swo l.toArray 0 l.toArray.size (Nat.zero_le _) (Nat.le_refl _)
    rw [hsz] at h
    refine h.mono ?_
    rintro e w' ⟨rfl, q, os, rfl⟩
    obtain ⟨h1, h2, h3⟩ := sorted_list hins.1 hins.2
    rw [hsz] at h1 h2 h3
    obtain ⟨m, hm⟩ : ∃ m : List Lr, Sort.insertionSort (ltOf cfI) l.toArray 0 n = m.toArray := ⟨(Sort.insertionSort (ltOf cfI) l.toArray 0 n).toList, by simp⟩
    have hsr : m = srtL l := by unfold srtL; rw [hn, hm]
    rw [hm] at h1 h2 h3 ⊢
    exact ⟨rfl, m, by simpa using h1, by simpa [hn] using h2, own_sortedK lrC_len ho (by simpa [hn] using h2) q os, grown_sortedK _, hsr⟩
set_option maxRecDepth 100000 in
theorem sortStableL_any (l : List Lr) (n c base : Nat) (A : Option Addr) (w : World) (hn : l.length = n) (h12 : n ≤ 19) (ho : w.ownsRow base 35 6 (.slice A n c) n (recs lrC l)) :
    Calls Tryz.prog 25 #[.slice A n c, .func (.func 26) #[] #[]] w fun e w' => SortRPost l n base (.slice A n c) w e w' := by
  have HI := Lib.hid (insR_any l n c base A w hn h12 ho)
  have h1 : ¬ (20 : Int) ≤ n := by omega
  have h2 : ¬ (20 : Int) < n := by omega
  clear ho hn
  go_enter Tryz.func25, Tryz.ntmps25
  go_wp2_with (fail)
  go_enter Tryz.func65, Tryz.ntmps65
  go_wp2_with (fail)
  refine wp_loop_rounds 1 ?_
  rw [rounds_succ]
  go_wp2_with (fail)
  refine HI.out.mono ?_
  rintro e w1 ⟨rfl, hp⟩
  have HP := Lib.hid hp
  clear hp
  go_wp2_with (fail)
  refine wp_loop_rounds 1 ?_
  rw [rounds_succ]
  go_wp2_with (fail)
  go_end0
  exact ⟨rfl, HP.out⟩
def LrAt (V : World) (b o : Nat) (x : Lr) : Prop :=
  V.cell? ⟨b, o, none⟩ = some (.string x.id) ∧ V.cell? ⟨b, o + 1, none⟩ = some (.string x.sl) ∧ V.cell? ⟨b, o + 2, none⟩ = some (.string x.bo) ∧ V.cell? ⟨b, o + 3, none⟩ = some (.int .i64 x.pr) ∧ V.cell? ⟨b, o + 4, none⟩ = some (.int .i64 x.at_) ∧ V.cell? ⟨b, o + 5, none⟩ = some (.int .i64 x.un)
theorem lr_cells {w : World} {b o : Nat} {l : List Lr} (h : Cells w b o (recs lrC l)) (i : Nat) (x : Lr) (hx : l[i]? = some x) : LrAt w b (o + i * 6) x :=
  ⟨rec_cell lrC_len h i x hx 0 _ rfl, rec_cell lrC_len h i x hx 1 _ rfl, rec_cell lrC_len h i x hx 2 _ rfl, rec_cell lrC_len h i x hx 3 _ rfl, rec_cell lrC_len h i x hx 4 _ rfl, rec_cell lrC_len h i x hx 5 _ rfl⟩
theorem LrAt.below {V V' : World} {b o : Nat} {x : Lr} {B : Nat} (h : LrAt V b o x) (hb : Below B V V') (hB : b < B) : LrAt V' b o x := by
  obtain ⟨h0, h1, h2, h3, h4, h5⟩ := h
  exact ⟨(hb.cell (p := ⟨b, o, none⟩) hB).trans h0, (hb.cell (p := ⟨b, o + 1, none⟩) hB).trans h1, (hb.cell (p := ⟨b, o + 2, none⟩) hB).trans h2, (hb.cell (p := ⟨b, o + 3, none⟩) hB).trans h3, (hb.cell (p := ⟨b, o + 4, none⟩) hB).trans h4, (hb.cell (p := ⟨b, o + 5, none⟩) hB).trans h5⟩
def LrAt2 (V : World) (b o : Nat) (x : Lr) (o2 : Nat) (y : Lr) : Prop :=
  V.cell? ⟨b, o, none⟩ = some (.string x.id) ∧ V.cell? ⟨b, o + 1, none⟩ = some (.string x.sl) ∧ V.cell? ⟨b, o + 2, none⟩ = some (.string x.bo) ∧ V.cell? ⟨b, o + 3, none⟩ = some (.int .i64 x.pr) ∧ V.cell? ⟨b, o + 4, none⟩ = some (.int .i64 x.at_) ∧ V.cell? ⟨b, o + 5, none⟩ = some (.int .i64 x.un) ∧ V.cell? ⟨b, o2, none⟩ = some (.string y.id) ∧ V.cell? ⟨b, o2 + 1, none⟩ = some (.string y.sl) ∧ V.cell? ⟨b, o2 + 2, none⟩ = some (.string y.bo) ∧ V.cell? ⟨b, o2 + 3, none⟩ = some (.int .i64 y.pr) ∧ V.cell? ⟨b, o2 + 4, none⟩ = some (.int .i64 y.at_) ∧ V.cell? ⟨b, o2 + 5, none⟩ = some (.int .i64 y.un)
theorem lrAt2 {V : World} {b o o2 : Nat} {x y : Lr} (h : LrAt V b o x) (k : LrAt V b o2 y) : LrAt2 V b o x o2 y :=
  ⟨h.1, h.2.1, h.2.2.1, h.2.2.2.1, h.2.2.2.2.1, h.2.2.2.2.2, k.1, k.2.1, k.2.2.1, k.2.2.2.1, k.2.2.2.2.1, k.2.2.2.2.2⟩
set_option maxRecDepth 100000 in
theorem sameL_any (x y : Lr) (w : World) : Calls Tryz.prog 29 #[.agg #[.string x.id, .string x.sl, .string x.bo, .int .i64 x.pr, .int .i64 x.at_, .int .i64 x.un], .agg #[.string y.id, .string y.sl, .string y.bo, .int .i64 y.pr, .int .i64 y.at_, .int .i64 y.un]] w fun e w' => ∃ t : Bool, t = lrSm x y ∧ e = .returned (.bool t) ∧ Below w.heap.size w w' := by
  unfold lrSm
  obtain ⟨x0, x1, x2, x3, x4, x5⟩ := x
  obtain ⟨y0, y1, y2, y3, y4, y5⟩ := y
  simp only
  go_enter Tryz.func29, Tryz.ntmps29
  go_wp2_with (fail)
  go_ret
  exact ⟨_, rfl, rfl, ((Below.refl _ _).alloc (Nat.le_refl _) _).alloc (by simp) _⟩
/-- One element stored anew. -/
theorem lr_store {W : World} {base g n cap : Nat} {L : List Lr} (h : W.ownsRow base 35 6 (.slice (some ⟨g, 0, none⟩) n cap) n (recs lrC L)) (hL : L.length = n) (i : Nat) (hi : i < n) (x : Lr) :
    ((((((W.setCell ⟨g, i * 6, none⟩ (.string x.id)).setCell ⟨g, i * 6 + 1, none⟩ (.string x.sl)).setCell ⟨g, i * 6 + 2, none⟩ (.string x.bo)).setCell ⟨g, i * 6 + 3, none⟩ (.int .i64 x.pr)).setCell ⟨g, i * 6 + 4, none⟩ (.int .i64 x.at_)).setCell ⟨g, i * 6 + 5, none⟩ (.int .i64 x.un)).ownsRow base 35 6 (.slice (some ⟨g, 0, none⟩) n cap) n (recs lrC (L.set i x)) ∧
    W.grownBy ((((((W.setCell ⟨g, i * 6, none⟩ (.string x.id)).setCell ⟨g, i * 6 + 1, none⟩ (.string x.sl)).setCell ⟨g, i * 6 + 2, none⟩ (.string x.bo)).setCell ⟨g, i * 6 + 3, none⟩ (.int .i64 x.pr)).setCell ⟨g, i * 6 + 4, none⟩ (.int .i64 x.at_)).setCell ⟨g, i * 6 + 5, none⟩ (.int .i64 x.un)) (some g) := by
  have h2 := own_setCells (lrC x) (i * 6) W (recs lrC L) h (by rw [recs_length lrC_len, lrC_len, hL]; omega)
  rw [recs_set lrC_len L i x (by omega)] at h2
  exact h2
def CsPostL (l : List Lr) (n c base : Nat) (A : Option Addr) (w : World) (e : Ending) (w' : World) : Prop :=
  ∃ (m : List Lr) (k : Nat), e = .returned (.slice A k c) ∧ m.length = k ∧ k ≤ n ∧ (∀ x ∈ m, x ∈ l) ∧ w'.ownsRow base 35 6 (.slice A k c) k (recs lrC m) ∧ w.grownBy w' (Value.slice A n c).ownBlock ∧ m = csN lrSm l n
set_option maxRecDepth 100000 in
set_option maxHeartbeats 4000000 in
theorem compactL_any (l : List Lr) (n c base : Nat) (A : Option Addr) (w : World) (hn : l.length = n) (hn20 : n ≤ 100) (ho : w.ownsRow base 35 6 (.slice A n c) n (recs lrC l)) :
    Calls Tryz.prog 28 #[.slice A n c, .func (.func 29) #[] #[]] w fun e w' => CsPostL l n c base A w e w' := by
  have hcap := own_cap ho
  have HL := Lib.hid hn
  have HO := Lib.hid ho
  by_cases h2 : n < 2
  · have h2I : (n : Int) < 2 := by omega
    have HF := Lib.hid (show CsPostL l n c base A w (.returned (.slice A n c)) w from ⟨l, n, rfl, hn, Nat.le_refl _, fun x hx => hx, ho, grown_refl _ _, by rw [← hn]; exact csN_few lrSm (by omega)⟩)
    clear ho hn
    go_enter Tryz.func28, Tryz.ntmps28
    go_wp2_with (fail)
    go_ret
    exact HF.out
  · have h2I : ¬ (n : Int) < 2 := by omega
    rcases own_two ho with ⟨_, hn0, _⟩ | ⟨g, rfl, hbg, hlt⟩
    · omega
    have HCl := Lib.hid (own_cells0 ho)
    have HST := Lib.hid (CsJ.one lrSm l)
    clear ho hn
    go_enter Tryz.func28, Tryz.ntmps28
    go_wp2_with (fail)
    go_loopw [5] (fun s wr => ∃ k : Nat, 1 ≤ k ∧ k ≤ n ∧ s = .int .i64 (k : Int) ∧ Below w.heap.size w wr ∧ Hid (CsJ lrSm l (l.take k) k)) (fun s _ => n - (intOf s).toNat)
    case atStart => exact ⟨1, Nat.le_refl _, by omega, rfl, Below.refl _ _, HST⟩
    case round =>
      obtain ⟨k, hk1, hkn, rfl, hbr, HK⟩ := hrel
      have hbs := hbr.size
      have HB := Lib.hid hbr
      clear hbr
      by_cases hlt2 : k < n
      · have hltI : (k : Int) < n := by omega
        obtain ⟨x, hx⟩ : ∃ x, l[k]? = some x := ⟨_, List.getElem?_eq_getElem (by have := HL.out; omega)⟩
        obtain ⟨y, hy⟩ : ∃ y, l[k - 1]? = some y := ⟨_, List.getElem?_eq_getElem (by have := HL.out; omega)⟩
        have HQ := Lib.hid (fun (V : World) (hV : Below wr.heap.size wr V) => show LrAt2 V g (k * 6) x ((k - 1) * 6) y from by
          have h1 := lr_cells HCl.out k x hx
          have h2 := lr_cells HCl.out (k - 1) y hy
          rw [Nat.zero_add] at h1 h2
          have hb := HB.out.trans (hV.mono hbs)
          exact lrAt2 (h1.below hb hlt) (h2.below hb hlt))
        have HX := Lib.hid hx
        have HY := Lib.hid hy
        have hwrap : (k : Int) - 1 = ((k - 1 : Nat) : Int) := by omega
        have hwr : IntKind.i64.wrap ((k - 1 : Nat) : Int) = ((k - 1 : Nat) : Int) := by rw [IntKind.wrap_i64]; omega
        have hxI : ((k - 1 : Nat) : Int) < (n : Int) := by omega
        have hxN : k - 1 < n := by omega
        clear hx hy
        go_upto_region 6 with (fail)
        refine qRegionTail 10 (by kernel_rfl) (by kernel_rfl) ?_
        simp only [List.take_succ_cons, List.take_zero, List.drop_succ_cons, List.drop_zero]
        repeat (first
          | (go_big_quiet_want; refine qVal (fun V hV => (by (obtain ⟨q0, q1, q2, q3, q4, q5, p0, p1, p2, p3, p4, p5⟩ := HQ.out V hV; go_simp; try rfl))) ?_; simp only [Act.put, List.setIfInBounds_toArray, List.set_cons_zero, List.set_cons_succ]; go_big_quiet_on)
          | go_big_quiet_skip)
        refine wpQuiet_nil ?_
        intro w1 hb1
        have hs1 := hb1.size
        have HB1 := Lib.hid (HB.out.trans (hb1.mono hbs))
        clear hb1
        go_wp2_with (fail)
        refine (sameL_any x y w1).mono ?_
        rintro e w2 ⟨bb, hbb, rfl, hb2⟩
        have HBB := Lib.hid (show bb = lrSm x y from hbb)
        clear hbb
        have hs2 := hb2.size
        have HB2 := Lib.hid (HB1.out.trans (hb2.mono (by omega)))
        clear hb2 hwr hwrap
        cases bb
        case true =>
          have HK2 := Lib.hid (HK.out.same hk1 HX.out HY.out HBB.out)
          have hck : ¬ c = k := by omega
          have hgb : w.heap.size ≤ w2.heap.size := by omega
          have HO2 := Lib.hid (show w2.ownsRow base 35 6 (.slice (some ⟨g, 0, none⟩) n c) n (recs lrC (csR l (l.take k))) from by
            rw [csR_take l k (by have := HL.out; omega)]
            exact own_belowP HO.out HB2.out)
          have htk : (l.take k).length = k := by rw [List.length_take]; have := HL.out; omega
          have HG2 := Lib.hid (show w.grownBy w2 (some g) from grown_belowP HB2.out)
          go_wp2_with (fail)
          go_loopw [5, 7] (fun s t wx => ∃ (j : Nat) (P : List Lr), 1 ≤ j ∧ j ≤ n - k ∧ t = .int .i64 (j : Int) ∧ s = .int .i64 (P.length : Int) ∧ 1 ≤ P.length ∧ P.length + 1 ≤ k + j ∧ Hid (CsJ lrSm l P (k + j)) ∧ wx.ownsRow base 35 6 (.slice (some ⟨g, 0, none⟩) n c) n (recs lrC (csR l P)) ∧ w.grownBy wx (some g)) (fun _ t _ => n - k - (intOf t).toNat)
          case atStart => exact ⟨1, l.take k, Nat.le_refl _, by omega, rfl, by rw [htk], by omega, by omega, HK2, HO2.out, HG2.out⟩
          case round =>
            obtain ⟨j, P, hj1, hjn, rfl, rfl, hP1, hPk, HKP, hown, hgr⟩ := hrel
            have HOW := Lib.hid hown
            have HGR := Lib.hid hgr
            have hgs := hgr.size
            obtain ⟨pl, epl⟩ : ∃ pl, pl = P.length := ⟨_, rfl⟩
            rw [← epl] at hP1 hPk ⊢
            have HPL := Lib.hid epl.symm
            clear hown hgr epl
            by_cases hltj : j < n - k
            · have hltI2 : (j : Int) < ((n - k : Nat) : Int) := by omega
              obtain ⟨x2, hx2⟩ : ∃ x, l[k + j]? = some x := ⟨_, List.getElem?_eq_getElem (by have := HL.out; omega)⟩
              obtain ⟨y2, hy2⟩ : ∃ y, l[k + j - 1]? = some y := ⟨_, List.getElem?_eq_getElem (by have := HL.out; omega)⟩
              have HCw := Lib.hid (own_cells0 HOW.out)
              have HQ2 := Lib.hid (fun (V : World) (hV : Below wr.heap.size wr V) => show LrAt2 V g (k * 6 + j * 6) x2 (k * 6 + (j - 1) * 6) y2 from by
                have h1 := lr_cells HCw.out (k + j) x2 (by rw [csR_get (by have := HPL.out; omega)]; exact hx2)
                have h2 := lr_cells HCw.out (k + j - 1) y2 (by rw [csR_get (by have := HPL.out; omega)]; exact hy2)
                rw [Nat.zero_add, Nat.add_mul] at h1
                rw [Nat.zero_add, show (k + j - 1) * 6 = k * 6 + (j - 1) * 6 by omega] at h2
                exact lrAt2 (h1.below hV (by omega)) (h2.below hV (by omega)))
              have HX2 := Lib.hid hx2
              have HY2 := Lib.hid hy2
              have hwrap : (j : Int) - 1 = ((j - 1 : Nat) : Int) := by omega
              have hwr : IntKind.i64.wrap ((j - 1 : Nat) : Int) = ((j - 1 : Nat) : Int) := by rw [IntKind.wrap_i64]; omega
              have hxI : ((j - 1 : Nat) : Int) < ((n - k : Nat) : Int) := by omega
              have hxN : j - 1 < n - k := by omega
              clear hx2 hy2
              go_upto_region 11 with (fail)
              refine qRegionTail 10 (by kernel_rfl) (by kernel_rfl) ?_
              simp only [List.take_succ_cons, List.take_zero, List.drop_succ_cons, List.drop_zero]
              repeat (first
                | (go_big_quiet_want; refine qVal (fun V hV => (by (obtain ⟨q0, q1, q2, q3, q4, q5, p0, p1, p2, p3, p4, p5⟩ := HQ2.out V hV; go_simp; try rfl))) ?_; simp only [Act.put, List.setIfInBounds_toArray, List.set_cons_zero, List.set_cons_succ]; go_big_quiet_on)
                | go_big_quiet_skip)
              refine wpQuiet_nil ?_
              intro w3 hb3
              have hs3 := hb3.size
              have HB3 := Lib.hid hb3
              clear hb3
              go_wp2_with (fail)
              refine (sameL_any x2 y2 w3).mono ?_
              rintro e w4 ⟨bb, hbb, rfl, hb4⟩
              have HBB2 := Lib.hid (show bb = lrSm x2 y2 from hbb)
              clear hbb
              have hs4 := hb4.size
              have HB4 := Lib.hid (HB3.out.trans (hb4.mono (by omega)))
              clear hb4 hwr hwrap
              have HG4 := Lib.hid (grown_more HGR.out (grown_belowP (r := none) HB4.out) (by simp))
              have HO4 := Lib.hid (own_belowP HOW.out HB4.out)
              cases bb
              case true =>
                have HK4 := Lib.hid (HKP.out.same (by omega) HX2.out HY2.out HBB2.out)
                go_wp2_with (fail)
                go_roundw
                case rel => exact ⟨j + 1, P, by omega, by omega, by simp, by rw [HPL.out], by have := HPL.out; omega, by have := HPL.out; omega, HK4, HO4.out, HG4.out⟩
                case measure => simp [intOf]; omega
              case false =>
                have HK4 := Lib.hid (HKP.out.new HX2.out HY2.out HBB2.out)
                obtain ⟨z, hz⟩ : ∃ z, (csR l P)[pl]? = some z := ⟨_, List.getElem?_eq_getElem (by rw [csR_len (by have := HPL.out; have := HL.out; omega)]; have := HL.out; omega)⟩
                have hzc := lr_cells (own_cells0 HO4.out) pl z hz
                rw [Nat.zero_add] at hzc
                obtain ⟨z0, z1, z2, z3, z4, z5⟩ := hzc
                obtain ⟨q0, q1, q2, q3, q4, q5, _⟩ := HQ2.out w4 HB4.out
                obtain ⟨cs, hcs⟩ := own_blk HO4.out
                have fr : ∀ j, w4.frozen? ⟨g, j, none⟩ = false := by intro j; simp [World.frozen?, hcs]
                have fr0 := fr (pl * 6)
                have fr1 := fr (pl * 6 + 1)
                have fr2 := fr (pl * 6 + 2)
                have fr3 := fr (pl * 6 + 3)
                have fr4 := fr (pl * 6 + 4)
                have fr5 := fr (pl * 6 + 5)
                have hpn : pl < n := by omega
                have hpI : (pl : Int) < (n : Int) := by omega
                clear fr hcs hz
                have HSET := Lib.hid (lr_store HO4.out (by rw [csR_len (by have := HPL.out; have := HL.out; omega)]; exact HL.out) pl hpn x2)
                go_upto_region 13 with (fail)
                generalize hW5 : (((((w4.setCell ⟨g, pl * 6, none⟩ (.string x2.id)).setCell ⟨g, pl * 6 + 1, none⟩ (.string x2.sl)).setCell ⟨g, pl * 6 + 2, none⟩ (.string x2.bo)).setCell ⟨g, pl * 6 + 3, none⟩ (.int .i64 x2.pr)).setCell ⟨g, pl * 6 + 4, none⟩ (.int .i64 x2.at_)).setCell ⟨g, pl * 6 + 5, none⟩ (.int .i64 x2.un) = w5 at HSET ⊢
                have HO5 := Lib.hid (show w5.ownsRow base 35 6 (.slice (some ⟨g, 0, none⟩) n c) n (recs lrC (csR l (P ++ [x2]))) from by
                  have h := HSET.out.1
                  rw [← HPL.out, csR_set (by have := HPL.out; have := HL.out; omega)] at h
                  exact h)
                have HG5 := Lib.hid (grown_trans HG4.out HSET.out.2)
                have HPL5 := Lib.hid (show (P ++ [x2]).length = pl + 1 from by rw [List.length_append, HPL.out]; rfl)
                clear hW5 HSET z0 z1 z2 z3 z4 z5 q0 q1 q2 q3 q4 q5 fr0 fr1 fr2 fr3 fr4 fr5
                go_wp2_with (fail)
                go_roundw
                case rel => exact ⟨j + 1, P ++ [x2], by omega, by omega, by simp, by rw [HPL5.out]; simp, by rw [HPL5.out]; omega, by rw [HPL5.out]; omega, HK4, HO5.out, HG5.out⟩
                case measure => simp [intOf]; omega
            · have hltI2 : ¬ (j : Int) < ((n - k : Nat) : Int) := by omega
              have hjn2 : j = n - k := by omega
              have hcp : ¬ c = pl := by omega
              have hpn : pl ≤ n := by omega
              have hpI : (pl : Int) ≤ (n : Int) := by omega
              obtain ⟨cs, hcs⟩ := own_blk HOW.out
              obtain ⟨vs, hvl, hcl⟩ := run_clear_n (P := Tryz.prog) wr 26 35 _ [.string ⟨#[]⟩, .string ⟨#[]⟩, .string ⟨#[]⟩, .int .i64 0, .int .i64 0, .int .i64 0] (n - pl) Tryz.underlying26 Tryz.zeroValue35 rfl (by simp) (by intro u hu; simp at hu; rcases hu with rfl | rfl | rfl | rfl | rfl | rfl <;> rfl) g (pl * 6)
                (fun i hi => by
                  simp at hi
                  rw [HOW.out.cellAt _ (by omega), List.getElem?_eq_getElem (by rw [recs_length lrC_len, csR_len (by have := HPL.out; have := HL.out; omega), HL.out]; omega)]
                  rfl)
                (fun i _ => HOW.out.frozenAt _)
              have hvl6 : vs.length = (n - pl) * 6 := by rw [hvl]; rfl
              have HSET := Lib.hid (own_setCells vs (pl * 6) wr (recs lrC (csR l P)) HOW.out (by rw [recs_length lrC_len, csR_len (by have := HPL.out; have := HL.out; omega), hvl6, HL.out]; omega))
              have HF := Lib.hid (show CsPostL l n c base (some ⟨g, 0, none⟩) w (.returned (.slice (some ⟨g, 0, none⟩) pl c)) (wr.setCells g (pl * 6) vs) from by
                refine ⟨P, pl, rfl, HPL.out, hpn, HKP.out.1, ?_, grown_trans HGR.out HSET.out.2, by have h := HKP.out.2; rw [show k + j = n by omega] at h; exact h⟩
                have h := own_shrink HSET.out.1 pl hpn
                rw [List.append_assoc, List.take_append_of_le_length (by rw [List.length_take, recs_length lrC_len, csR_len (by have := HPL.out; have := HL.out; omega), HL.out]; omega), List.take_take, Nat.min_self] at h
                have h3 : (recs lrC (csR l P)).take (pl * 6) = recs lrC P := by
                  have h4 := recs_append lrC P (l.drop P.length)
                  unfold csR
                  rw [h4, List.take_append_of_le_length (by rw [recs_length lrC_len, HPL.out]; exact Nat.le_refl _), List.take_of_length_le (by rw [recs_length lrC_len, HPL.out]; exact Nat.le_refl _)]
                rw [h3] at h
                exact h)
              have hsl : ∀ ty, (Builtin.clear_ #[26] ty #[.slice (some ⟨g, pl * 6, none⟩) (n - pl) (c - pl)]).run Tryz.prog wr = .ok (.tuple #[]) (wr.setCells g (pl * 6) vs) := fun ty => hcl ty (c - pl)
              clear hcl HSET hcs hvl hvl6
              obtain ⟨W6, e6⟩ : ∃ W6, W6 = wr.setCells g (pl * 6) vs := ⟨_, rfl⟩
              rw [← e6] at hsl HF
              clear e6
              go_wp2_with (fail)
              go_ret
              exact HF.out
        case false =>
          have HK2 := Lib.hid (HK.out.newT HX.out HY.out HBB.out)
          go_wp2_with (fail)
          go_roundw
          case rel => exact ⟨k + 1, by omega, by omega, by simp, HB2.out, HK2⟩
          case measure => simp [intOf]; omega
      · have hltI : ¬ (k : Int) < n := by omega
        have hkn' : k = n := by omega
        subst hkn'
        have HF := Lib.hid (show CsPostL l k c base (some ⟨g, 0, none⟩) w (.returned (.slice (some ⟨g, 0, none⟩) k c)) wr from by
          exact ⟨l, k, rfl, HL.out, Nat.le_refl _, fun x hx => hx, own_belowP HO.out HB.out, grown_belowP HB.out, by have h := HK.out.2; rw [List.take_of_length_le (by rw [HL.out]; exact Nat.le_refl _)] at h; exact h⟩)
        go_wp2_with (fail)
        go_ret
        exact HF.out
end Go.Proofs.YtnnncddjcdjhoaaGreatDoor
