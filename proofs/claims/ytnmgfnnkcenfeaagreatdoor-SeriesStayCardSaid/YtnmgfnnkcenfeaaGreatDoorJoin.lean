/- series.Join of good buckets, those of the first list not behind those of the second. -/
import Derived.Test.YtnmgfnnkcenfeaaGreatDoorJoinP
import Derived.Test.YtnmgfnnkcenfeaaGreatDoorMgB
import Derived.Test.YtnmgfnnkcenfeaaGreatDoorMgA
import Derived.Deep.RegionHeld3
namespace Go.Proofs.YtnmgfnnkcenfeaaGreatDoor
open Go.RowKit

/-- What is left of a list of buckets from its number i on, as a slice. -/
def Rest (w : World) (B : Nat) (l : List Bkt) (i : Nat) (v : Value) : Prop :=
  ∃ A p c, v = .slice A p c ∧ i + p = l.length ∧ p ≤ c ∧ Row w B A (bCells (l.drop i))
def lenV : Value → Nat
  | .slice _ n _ => n
  | _ => 0
theorem Rest.keep {w w' : World} {B : Nat} {l : List Bkt} {i : Nat} {v : Value} (h : Rest w B l i v) (hb : Below B w w') : Rest w' B l i v := by
  obtain ⟨A, p, c, h1, h2, h3, h4⟩ := h
  exact ⟨A, p, c, h1, h2, h3, h4.below hb⟩
theorem Rest.next {w : World} {B b o : Nat} {l : List Bkt} {i : Nat} {x : Bkt} (hx : l[i]? = some x) (hb : b < B) (hc : Cells w b o (bCells (l.drop i))) : Row w B (some ⟨b, o + 8, none⟩) (bCells (l.drop (i + 1))) := by
  refine .inr ⟨b, o + 8, rfl, hb, fun j v hv => ?_⟩
  have hd : l.drop i = x :: l.drop (i + 1) := by
    obtain ⟨h1, h2⟩ := List.getElem?_eq_some_iff.1 hx
    rw [List.drop_eq_getElem_cons h1, h2]
  have := hc (8 + j) v (by rw [hd]; simp only [bCells, List.flatMap_cons]; rw [List.getElem?_append_right (by simp [bktC])]; simpa [bktC, bCells] using hv)
  rw [show o + 8 + j = o + (8 + j) by omega]
  exact this
theorem Rest.last {w : World} {B : Nat} {l : List Bkt} {i : Nat} (hi : i + 1 = l.length) (A : Option Addr) : Row w B A (bCells (l.drop (i + 1))) := by
  left; rw [List.drop_of_length_le (by omega)]; rfl
theorem bkt_cell0 {w : World} {b o : Nat} {l : List Bkt} {i : Nat} {x : Bkt} (hx : l[i]? = some x) (h : Cells w b o (bCells (l.drop i))) (j : Nat) (v : Value) (hj : (bktC x)[j]? = some v) : w.cell? ⟨b, o + j, none⟩ = some v := by
  have hd : l.drop i = x :: l.drop (i + 1) := by
    obtain ⟨h1, h2⟩ := List.getElem?_eq_some_iff.1 hx
    rw [List.drop_eq_getElem_cons h1, h2]
  refine h j v ?_
  rw [hd]
  simp only [bCells, List.flatMap_cons]
  rw [List.getElem?_append_left (List.getElem?_eq_some_iff.1 hj).1]
  exact hj

set_option maxRecDepth 100000 in
set_option maxHeartbeats 4000000 in
theorem join_any (a b : List Bkt) (n m ca cb k : Nat) (A B : Option Addr) (L : Int) (w : World) (hL : 1 ≤ L) (hL2 : L ≤ 345686400000) (hn : a.length = n) (hm : b.length = m) (hna : n ≤ ca) (hmb : m ≤ cb) (hga : GoodBs L a) (hgb : GoodBs L b)
    (hok : ∀ x ∈ a ++ b, BOk L k x) (hab : ∀ x ∈ a, ∀ y ∈ b, x.fr ≤ y.fr) (hk : (n + m) * k ≤ 1000) (hk0 : k ≤ 1000) (hnm : n + m ≤ 900) (hra : Row w w.heap.size A (bCells a)) (hrb : Row w w.heap.size B (bCells b)) :
    Calls Tryz.prog 11 #[.slice A n ca, .slice B m cb] w fun e w' => ∃ v, e = .returned (.tuple #[v, .int .i64 0]) ∧ w'.ownsRow w.heap.size 46 8 v (joinB [] (a ++ b)).length (bCells (joinB [] (a ++ b))) ∧ Below w.heap.size w w' := by
  have HRA := Lib.hid hra
  have HRB := Lib.hid hrb
  have HGA := Lib.hid hga
  have HGB := Lib.hid hgb
  have HN := Lib.hid hn
  have HM := Lib.hid hm
  have HOK := Lib.hid hok
  have HAB := Lib.hid hab
  have HK := Lib.hid hk
  clear hra hrb hga hgb hn hm hok hab hk
  go_enter Tryz.func11, Tryz.ntmps11
  go_wp2_with (fail)
  refine (checkB_any a n ca A L w hL hL2 HN.out HGA.out HRA.out).mono ?_
  rintro e w1 ⟨rfl, hb1⟩
  have hs1 := hb1.size
  have HB1 := Lib.hid hb1
  clear hb1
  go_wp2_with (fail)
  refine (checkB_any b m cb B L w1 hL hL2 HM.out HGB.out ((HRB.out.below HB1.out).mono hs1)).mono ?_
  rintro e w2 ⟨rfl, hb2⟩
  have hs2 := hb2.size
  have HB2 := Lib.hid (HB1.out.trans (hb2.mono hs1))
  clear hb2
  have HF := Lib.hid (Cells.new w2 #[.int .i64 0, .int .i64 0] 32 (0, 0) (List.replicate 2 (.int .i64 0)) rfl)
  have HBF := Lib.hid (HB2.out.alloc (by omega) (.cells #[.int .i64 0, .int .i64 0] 32))
  go_upto_region 4 with (go_at_call 27; refine (first_ok 2 2 _ _ (by omega) HF.out).mono ?_; rintro e w' ⟨rfl, rfl⟩)
  go_cut [31] (fun s31 wx => s31 = .bool false ∧ Below w.heap.size w wx)
  case first =>
    rcases Nat.eq_zero_or_pos n with h0 | h0
    · subst h0
      go_wp2_with (fail)
      go_meet
      exact ⟨rfl, HBF.out⟩
    · rcases Nat.eq_zero_or_pos m with h1 | h1
      · subst h1
        go_wp2_with (fail)
        go_meet
        exact ⟨rfl, HBF.out⟩
      · generalize hW : w2.alloc (.cells #[.int .i64 0, .int .i64 0] 32) = W at HBF ⊢
        have hWs : w.heap.size ≤ W.heap.size := HBF.out.size
        clear hW HF
        obtain ⟨ba, oa, rfl, hba, hca⟩ := Row.posB HRA.out (by have := HN.out; omega)
        obtain ⟨bb, ob, rfl, hbb, hcb⟩ := Row.posB HRB.out (by have := HM.out; omega)
        obtain ⟨x, hx⟩ : ∃ x, a[0]? = some x := ⟨_, List.getElem?_eq_getElem (by have := HN.out; omega)⟩
        obtain ⟨y, hy⟩ : ∃ y, b[0]? = some y := ⟨_, List.getElem?_eq_getElem (by have := HM.out; omega)⟩
        have xg := HGA.out.each 0 x hx
        have yg := HGB.out.each 0 y hy
        have x0 := (bkt_cells (hca.keep (HBF.out.block ba hba)) 0 x hx 0 (by omega)).trans rfl
        have x1 := (bkt_cells (hca.keep (HBF.out.block ba hba)) 0 x hx 1 (by omega)).trans rfl
        have y0 := (bkt_cells (hcb.keep (HBF.out.block bb hbb)) 0 y hy 0 (by omega)).trans rfl
        have y1 := (bkt_cells (hcb.keep (HBF.out.block bb hbb)) 0 y hy 1 (by omega)).trans rfl
        simp only [bktC, List.getElem?_cons_zero, List.getElem?_cons_succ, Nat.add_zero, Nat.zero_mul] at x0 x1 y0 y1
        have HX := Lib.hid (length_some x n ca ba oa L W h0 hL hL2 xg.f0 xg.f1 xg.to_ x0 x1)
        have HY := Lib.hid (fun (V : World) (hV : Below W.heap.size W V) => length_some y m cb bb ob L V h1 hL hL2 yg.f0 yg.f1 yg.to_ ((hV.cell (p := ⟨bb, ob, none⟩) (by show bb < _; omega)).trans y0) ((hV.cell (p := ⟨bb, ob + 1, none⟩) (by show bb < _; omega)).trans y1))
        have hn0 : (0 : Int) < (n : Int) := by omega
        have hm0 : (0 : Int) < (m : Int) := by omega
        clear hca hcb hx hy xg yg x0 x1 y0 y1
        go_wp2_with (fail)
        refine HX.out.mono ?_
        rintro e w3 ⟨rfl, hb3⟩
        have HB3 := Lib.hid hb3
        clear hb3
        go_wp2_with (fail)
        refine (HY.out w3 HB3.out).mono ?_
        rintro e w4 ⟨rfl, hb4⟩
        have HB4 := Lib.hid (HBF.out.trans ((HB3.out.trans (hb4.mono HB3.out.size)).mono hWs))
        clear hb4
        go_wp2_with (fail)
        go_meet
        exact ⟨rfl, HB4.out⟩
  case rest =>
    obtain ⟨rfl, hbw⟩ := hcut
    have HBW := Lib.hid hbw
    clear hbw HF HBF HB1 HB2
    go_wp2_with (fail)
    have R0 : ∀ (V : World), Below w.heap.size w V → Rest V w.heap.size a 0 (.slice A n ca) ∧ Rest V w.heap.size b 0 (.slice B m cb) := fun V hV => ⟨⟨A, n, ca, rfl, by rw [HN.out]; omega, hna, by simpa using HRA.out.below hV⟩, ⟨B, m, cb, rfl, by rw [HM.out]; omega, hmb, by simpa using HRB.out.below hV⟩⟩
    have HR0 := Lib.hid (R0 wc HBW.out)
    clear R0
    go_loopw [0, 1, 7] (fun x y v wr => ∃ i j z : Nat, i ≤ n ∧ j ≤ m ∧ (j = 0 ∨ i = n) ∧ Rest wr w.heap.size a i x ∧ Rest wr w.heap.size b j y ∧ z = (joinB [] (a.take i ++ b.take j)).length ∧ wr.ownsRow w.heap.size 46 8 v z (bCells (joinB [] (a.take i ++ b.take j))) ∧ Below w.heap.size w wr) (fun x y _ _ => lenV x + lenV y)
    case atStart => exact ⟨0, 0, 0, by omega, by omega, by omega, HR0.out.1, HR0.out.2, rfl, by simpa [joinB, bCells] using World.ownsRow_nil _ _ _ _, HBW.out⟩
    case round =>
      clear HR0 HRA HRB HBW
      obtain ⟨i, j, z, hi, hj, hij, ⟨A1, p, c1, rfl, hp, hpc, hra⟩, ⟨B1, q, c2, rfl, hq, hqc, hrb⟩, hz, hown, hbl⟩ := hrel
      rw [HN.out] at hp
      rw [HM.out] at hq
      have hsz := hbl.size
      have HBL := Lib.hid hbl
      have HOWN := Lib.hid hown
      have HZ := Lib.hid hz
      have HRA := Lib.hid hra
      have HRB := Lib.hid hrb
      clear hbl hown hz hra hrb
      have hz9 : z ≤ 900 := by
        have h1 := HZ.out
        have h2 := joinB_length (a.take i ++ b.take j)
        simp only [List.length_append, List.length_take] at h2
        omega
      have HJK := Lib.hid (show ∀ y ∈ joinB [] (a.take i ++ b.take j), BOk L 1000 y from fun y hy => by
        refine (joinB_ok (k := k) (a.take i ++ b.take j) (fun x hx => HOK.out x ?_) y hy).mono ?_
        · rw [List.mem_append] at hx ⊢
          exact hx.imp List.mem_of_mem_take List.mem_of_mem_take
        · refine Nat.le_trans (Nat.mul_le_mul_right k ?_) HK.out
          simp only [List.length_append, List.length_take]
          omega)
      rcases Nat.eq_zero_or_pos p with h0 | h0
      · subst h0
        rcases Nat.eq_zero_or_pos q with h1 | h1
        · subst h1
          obtain rfl : i = n := by omega
          obtain rfl : j = m := by omega
          have HT := Lib.hid (show a.take i ++ b.take j = a ++ b by rw [List.take_of_length_le (by have := HN.out; omega), List.take_of_length_le (by have := HM.out; omega)])
          have hown := HOWN.out
          have hz := HZ.out
          rw [HT.out] at hown hz
          obtain ⟨Ao, co, rfl⟩ := own_slice hown
          have HO := Lib.hid hown
          have HZ2 := Lib.hid hz
          have hlen : (a ++ b).length = i + j := by rw [List.length_append, HN.out, HM.out]
          have hzn : z ≤ 900 := by have := joinB_length (a ++ b); omega
          clear hown hz
          go_wp2_with (fail)
          refine (bounded_any (joinB [] (a ++ b)) z co Ao wr HZ2.out.symm (by omega) ?_ ((own_row HO.out))).mono ?_
          · intro t x hx
            have h := joinB_ok (a ++ b) HOK.out x (List.mem_of_getElem? hx)
            have h1 := h.c1
            rw [hlen] at h1
            have h2 := HK.out
            omega
          rintro e w5 ⟨rfl, hb5⟩
          have HO5 := Lib.hid (own_below HO.out hb5)
          have HB5 := Lib.hid (HBL.out.trans (hb5.mono hsz))
          clear hb5
          go_wp2_with (fail)
          go_ret2
          refine ⟨_, rfl, ?_, HB5.out⟩
          rw [← HZ2.out]
          exact HO5.out
        · have hin : i = n := by omega
          have hjl : j < b.length := by have := HM.out; omega
          obtain ⟨bb, ob, rfl, hbb, hcs⟩ := Row.posB HRB.out (by rw [List.length_drop]; omega)
          obtain ⟨x, hx⟩ : ∃ x, b[j]? = some x := ⟨_, List.getElem?_eq_getElem hjl⟩
          have hbw : bb < wr.heap.size := by omega
          have hq0 : (q : Int) ≠ 0 := by omega
          have hqe : ((q : Int) == 0) = false := by simp; omega
          have hq1 : (0 : Int) < (q : Int) := by omega
          have HTK := Lib.hid (show joinB [] (a.take i ++ b.take (j + 1)) = addB (joinB [] (a.take i ++ b.take j)) x by rw [List.take_add_one, hx, ← List.append_assoc]; exact joinB_snoc _ _ _)
          have HXK := Lib.hid (HOK.out x (List.mem_append_right _ (List.mem_of_getElem? hx)))
          have C := fun i v h => bkt_cell0 hx hcs i v h
          obtain ⟨fr, to_, cnt, sum, mn, mx, fi, la⟩ := x
          have c0c := C 0 _ rfl
          have c1c := C 1 _ rfl
          have c2c := C 2 _ rfl
          have c3c := C 3 _ rfl
          have c4c := C 4 _ rfl
          have c5c := C 5 _ rfl
          have c6c := C 6 _ rfl
          have c7c := C 7 _ rfl
          simp only [Nat.add_zero] at c0c c1c c2c c3c c4c c5c c6c c7c
          have HNX : Hid (∀ W : World, Below w.heap.size wr W → Row W w.heap.size (some ⟨bb, ob + 8, none⟩) (bCells (b.drop (j + 1)))) := Lib.hid fun W hW => (Rest.next hx hbb hcs).below hW
          clear hcs hx C
          go_wp2_with (fail)
          go_quiet (fail)
          go_wp2_with (fail)
          generalize hV : wr.drewN nq = V
          have hBV : Below wr.heap.size wr V := by rw [← hV]; exact below_drewN (Below.refl _ _) _
          have hown := own_below HOWN.out hBV
          have hVs : V.heap.size = wr.heap.size := by rw [← hV]; rfl
          have hAD := added_any V.drew w.heap.size z 1000 L _ ⟨fr, to_, cnt, sum, mn, mx, fi, la⟩ _ HZ.out.symm (by omega) (Nat.le_refl _) (by show _ ≤ V.heap.size; omega) hown HJK.out (HXK.out.mono hk0)
          have AD := Lib.hid hAD
          have HBV := Lib.hid hBV
          have k0 := (hBV.cell (p := ⟨bb, ob, none⟩) hbw).trans c0c
          have k1 := (hBV.cell (p := ⟨bb, ob + 1, none⟩) hbw).trans c1c
          have k2 := (hBV.cell (p := ⟨bb, ob + 2, none⟩) hbw).trans c2c
          have k3 := (hBV.cell (p := ⟨bb, ob + 3, none⟩) hbw).trans c3c
          have k4 := (hBV.cell (p := ⟨bb, ob + 4, none⟩) hbw).trans c4c
          have k5 := (hBV.cell (p := ⟨bb, ob + 5, none⟩) hbw).trans c5c
          have k6 := (hBV.cell (p := ⟨bb, ob + 6, none⟩) hbw).trans c6c
          have k7 := (hBV.cell (p := ⟨bb, ob + 7, none⟩) hbw).trans c7c
          have hne : some bb ≠ u7.ownBlock := fun e => by have := (HOWN.out.lt bb e.symm).1; omega
          have HS := Lib.hid (fun (w4 : World) (h2 : V.drew.grownBy w4 u7.ownBlock) => And.intro (h2.cell k0 hne) (And.intro (h2.cell k1 hne) (And.intro (h2.cell k2 hne) (And.intro (h2.cell k3 hne) (And.intro (h2.cell k4 hne) (And.intro (h2.cell k5 hne) (And.intro (h2.cell k6 hne) (h2.cell k7 hne))))))))
          clear hV hBV hown hAD hne c0c c1c c2c c3c c4c c5c c6c c7c
          have hqc' : (q : Int) ≤ (c2 : Int) := by omega
          have hq3 : (1 : Int) ≤ (q : Int) := by omega
          have hq2 : 1 ≤ q := by omega
          by_cases hc1 : c2 = 1
          · have hq1e : q = 1 := by omega
            subst hc1
            subst hq1e
            go_region_held3 (fun w' => w'.cell? ⟨bb, ob, none⟩ = some (.int .i64 fr) ∧ w'.cell? ⟨bb, ob + 1, none⟩ = some (.int .i64 to_) ∧ w'.cell? ⟨bb, ob + 2, none⟩ = some (.int .i64 cnt) ∧ w'.cell? ⟨bb, ob + 3, none⟩ = some (.int .i64 sum) ∧ w'.cell? ⟨bb, ob + 4, none⟩ = some (.int .i64 mn) ∧ w'.cell? ⟨bb, ob + 5, none⟩ = some (.int .i64 mx) ∧ w'.cell? ⟨bb, ob + 6, none⟩ = some (.int .i64 fi) ∧ w'.cell? ⟨bb, ob + 7, none⟩ = some (.int .i64 la))
              (first | go_keep | (exact hS))
              ((go_at_call 44; refine AD.out.mono ?_; rintro e w4 ⟨v', rfl, h1, h2, h3⟩; have hS := HS.out w4 h2))
            have HB4 := Lib.hid (((HBL.out.trans (HBV.out.mono hsz)).drew).grown h2 (by show _ ≤ V.heap.size; omega) (fun g hg => (HOWN.out.lt g hg).1))
            have HW4 := Lib.hid ((((HBV.out.mono hsz)).drew).grown h2 (by show _ ≤ V.heap.size; omega) (fun g hg => (HOWN.out.lt g hg).1))
            rw [← HTK.out] at h1
            have HO4 := Lib.hid h1
            clear h1 h2 h3 hS HS k0 k1 k2 k3 k4 k5 k6 k7
            go_wp2_with (fail)
            go_roundw
            case rel => exact ⟨i, j + 1, _, by omega, by omega, by omega, ⟨_, 0, c1, rfl, by have := HN.out; omega, by omega, HRA.out.below HW4.out⟩, ⟨_, 0, 0, rfl, by have := HM.out; omega, by omega, Rest.last (by have := HM.out; omega) _⟩, rfl, HO4.out, HB4.out⟩
            case measure => simp [lenV]
          · have hc2 : 1 < c2 := by omega
            go_region_held3 (fun w' => w'.cell? ⟨bb, ob, none⟩ = some (.int .i64 fr) ∧ w'.cell? ⟨bb, ob + 1, none⟩ = some (.int .i64 to_) ∧ w'.cell? ⟨bb, ob + 2, none⟩ = some (.int .i64 cnt) ∧ w'.cell? ⟨bb, ob + 3, none⟩ = some (.int .i64 sum) ∧ w'.cell? ⟨bb, ob + 4, none⟩ = some (.int .i64 mn) ∧ w'.cell? ⟨bb, ob + 5, none⟩ = some (.int .i64 mx) ∧ w'.cell? ⟨bb, ob + 6, none⟩ = some (.int .i64 fi) ∧ w'.cell? ⟨bb, ob + 7, none⟩ = some (.int .i64 la))
              (first | go_keep | (exact hS))
              ((go_at_call 44; refine AD.out.mono ?_; rintro e w4 ⟨v', rfl, h1, h2, h3⟩; have hS := HS.out w4 h2))
            have HB4 := Lib.hid (((HBL.out.trans (HBV.out.mono hsz)).drew).grown h2 (by show _ ≤ V.heap.size; omega) (fun g hg => (HOWN.out.lt g hg).1))
            have HW4 := Lib.hid ((((HBV.out.mono hsz)).drew).grown h2 (by show _ ≤ V.heap.size; omega) (fun g hg => (HOWN.out.lt g hg).1))
            rw [← HTK.out] at h1
            have HO4 := Lib.hid h1
            clear h1 h2 h3 hS HS k0 k1 k2 k3 k4 k5 k6 k7
            go_wp2_with (fail)
            go_roundw
            case rel => exact ⟨i, j + 1, _, by omega, by omega, by omega, ⟨_, 0, c1, rfl, by have := HN.out; omega, by omega, HRA.out.below HW4.out⟩, ⟨_, q - 1, c2 - 1, rfl, by have := HM.out; omega, by omega, HNX.out w4 HW4.out⟩, rfl, HO4.out, HB4.out⟩
            case measure => simp [lenV]; omega
      · rcases Nat.eq_zero_or_pos q with h1 | h1
        · subst h1
          have hj0 : j = 0 := by omega
          subst hj0
          have hjl : i < a.length := by have := HN.out; omega
          obtain ⟨ba, oa, rfl, hbb, hcs⟩ := Row.posB HRA.out (by rw [List.length_drop]; omega)
          obtain ⟨x, hx⟩ : ∃ x, a[i]? = some x := ⟨_, List.getElem?_eq_getElem hjl⟩
          have hbw : ba < wr.heap.size := by omega
          have hq0 : (p : Int) ≠ 0 := by omega
          have hqe : ((p : Int) == 0) = false := by simp; omega
          have hq1 : (0 : Int) < (p : Int) := by omega
          have HTK := Lib.hid (show joinB [] (a.take (i + 1) ++ b.take 0) = addB (joinB [] (a.take i ++ b.take 0)) x by simp only [List.take_zero, List.append_nil]; rw [List.take_add_one, hx]; exact joinB_snoc _ _ _)
          have HXK := Lib.hid (HOK.out x (List.mem_append_left _ (List.mem_of_getElem? hx)))
          have C := fun i v h => bkt_cell0 hx hcs i v h
          obtain ⟨fr, to_, cnt, sum, mn, mx, fi, la⟩ := x
          have c0c := C 0 _ rfl
          have c1c := C 1 _ rfl
          have c2c := C 2 _ rfl
          have c3c := C 3 _ rfl
          have c4c := C 4 _ rfl
          have c5c := C 5 _ rfl
          have c6c := C 6 _ rfl
          have c7c := C 7 _ rfl
          simp only [Nat.add_zero] at c0c c1c c2c c3c c4c c5c c6c c7c
          have HNX : Hid (∀ W : World, Below w.heap.size wr W → Row W w.heap.size (some ⟨ba, oa + 8, none⟩) (bCells (a.drop (i + 1)))) := Lib.hid fun W hW => (Rest.next hx hbb hcs).below hW
          clear hcs hx C
          go_wp2_with (fail)
          go_quiet (fail)
          go_wp2_with (fail)
          generalize hV : wr.drewN nq = V
          have hBV : Below wr.heap.size wr V := by rw [← hV]; exact below_drewN (Below.refl _ _) _
          have hown := own_below HOWN.out hBV
          have hVs : V.heap.size = wr.heap.size := by rw [← hV]; rfl
          have hAD := added_any V.drew w.heap.size z 1000 L _ ⟨fr, to_, cnt, sum, mn, mx, fi, la⟩ _ HZ.out.symm (by omega) (Nat.le_refl _) (by show _ ≤ V.heap.size; omega) hown HJK.out (HXK.out.mono hk0)
          have AD := Lib.hid hAD
          have HBV := Lib.hid hBV
          have k0 := (hBV.cell (p := ⟨ba, oa, none⟩) hbw).trans c0c
          have k1 := (hBV.cell (p := ⟨ba, oa + 1, none⟩) hbw).trans c1c
          have k2 := (hBV.cell (p := ⟨ba, oa + 2, none⟩) hbw).trans c2c
          have k3 := (hBV.cell (p := ⟨ba, oa + 3, none⟩) hbw).trans c3c
          have k4 := (hBV.cell (p := ⟨ba, oa + 4, none⟩) hbw).trans c4c
          have k5 := (hBV.cell (p := ⟨ba, oa + 5, none⟩) hbw).trans c5c
          have k6 := (hBV.cell (p := ⟨ba, oa + 6, none⟩) hbw).trans c6c
          have k7 := (hBV.cell (p := ⟨ba, oa + 7, none⟩) hbw).trans c7c
          have hne : some ba ≠ u7.ownBlock := fun e => by have := (HOWN.out.lt ba e.symm).1; omega
          have HS := Lib.hid (fun (w4 : World) (h2 : V.drew.grownBy w4 u7.ownBlock) => And.intro (h2.cell k0 hne) (And.intro (h2.cell k1 hne) (And.intro (h2.cell k2 hne) (And.intro (h2.cell k3 hne) (And.intro (h2.cell k4 hne) (And.intro (h2.cell k5 hne) (And.intro (h2.cell k6 hne) (h2.cell k7 hne))))))))
          clear hV hBV hown hAD hne c0c c1c c2c c3c c4c c5c c6c c7c
          have hqc' : (p : Int) ≤ (c1 : Int) := by omega
          have hq3 : (1 : Int) ≤ (p : Int) := by omega
          have hq2 : 1 ≤ p := by omega
          by_cases hc1 : c1 = 1
          · have hq1e : p = 1 := by omega
            subst hc1
            subst hq1e
            go_region_held3 (fun w' => w'.cell? ⟨ba, oa, none⟩ = some (.int .i64 fr) ∧ w'.cell? ⟨ba, oa + 1, none⟩ = some (.int .i64 to_) ∧ w'.cell? ⟨ba, oa + 2, none⟩ = some (.int .i64 cnt) ∧ w'.cell? ⟨ba, oa + 3, none⟩ = some (.int .i64 sum) ∧ w'.cell? ⟨ba, oa + 4, none⟩ = some (.int .i64 mn) ∧ w'.cell? ⟨ba, oa + 5, none⟩ = some (.int .i64 mx) ∧ w'.cell? ⟨ba, oa + 6, none⟩ = some (.int .i64 fi) ∧ w'.cell? ⟨ba, oa + 7, none⟩ = some (.int .i64 la))
              (first | go_keep | (exact hS))
              ((go_at_call 44; refine AD.out.mono ?_; rintro e w4 ⟨v', rfl, h1, h2, h3⟩; have hS := HS.out w4 h2))
            have HB4 := Lib.hid (((HBL.out.trans (HBV.out.mono hsz)).drew).grown h2 (by show _ ≤ V.heap.size; omega) (fun g hg => (HOWN.out.lt g hg).1))
            have HW4 := Lib.hid ((((HBV.out.mono hsz)).drew).grown h2 (by show _ ≤ V.heap.size; omega) (fun g hg => (HOWN.out.lt g hg).1))
            rw [← HTK.out] at h1
            have HO4 := Lib.hid h1
            clear h1 h2 h3 hS HS k0 k1 k2 k3 k4 k5 k6 k7
            go_wp2_with (fail)
            go_roundw
            case rel => exact ⟨i + 1, 0, _, by omega, by omega, by omega, ⟨_, 0, 0, rfl, by have := HN.out; omega, by omega, Rest.last (by have := HN.out; omega) _⟩, ⟨_, 0, c2, rfl, by have := HM.out; omega, by omega, HRB.out.below HW4.out⟩, rfl, HO4.out, HB4.out⟩
            case measure => simp [lenV]
          · have hc2 : 1 < c1 := by omega
            go_region_held3 (fun w' => w'.cell? ⟨ba, oa, none⟩ = some (.int .i64 fr) ∧ w'.cell? ⟨ba, oa + 1, none⟩ = some (.int .i64 to_) ∧ w'.cell? ⟨ba, oa + 2, none⟩ = some (.int .i64 cnt) ∧ w'.cell? ⟨ba, oa + 3, none⟩ = some (.int .i64 sum) ∧ w'.cell? ⟨ba, oa + 4, none⟩ = some (.int .i64 mn) ∧ w'.cell? ⟨ba, oa + 5, none⟩ = some (.int .i64 mx) ∧ w'.cell? ⟨ba, oa + 6, none⟩ = some (.int .i64 fi) ∧ w'.cell? ⟨ba, oa + 7, none⟩ = some (.int .i64 la))
              (first | go_keep | (exact hS))
              ((go_at_call 44; refine AD.out.mono ?_; rintro e w4 ⟨v', rfl, h1, h2, h3⟩; have hS := HS.out w4 h2))
            have HB4 := Lib.hid (((HBL.out.trans (HBV.out.mono hsz)).drew).grown h2 (by show _ ≤ V.heap.size; omega) (fun g hg => (HOWN.out.lt g hg).1))
            have HW4 := Lib.hid ((((HBV.out.mono hsz)).drew).grown h2 (by show _ ≤ V.heap.size; omega) (fun g hg => (HOWN.out.lt g hg).1))
            rw [← HTK.out] at h1
            have HO4 := Lib.hid h1
            clear h1 h2 h3 hS HS k0 k1 k2 k3 k4 k5 k6 k7
            go_wp2_with (fail)
            go_roundw
            case rel => exact ⟨i + 1, 0, _, by omega, by omega, by omega, ⟨_, p - 1, c1 - 1, rfl, by have := HN.out; omega, by omega, HNX.out w4 HW4.out⟩, ⟨_, 0, c2, rfl, by have := HM.out; omega, by omega, HRB.out.below HW4.out⟩, rfl, HO4.out, HB4.out⟩
            case measure => simp [lenV]; omega
        · have hj0 : j = 0 := by omega
          subst hj0
          have hjl : i < a.length := by have := HN.out; omega
          obtain ⟨ba, oa, rfl, hbb, hcs⟩ := Row.posB HRA.out (by rw [List.length_drop]; omega)
          obtain ⟨x, hx⟩ : ∃ x, a[i]? = some x := ⟨_, List.getElem?_eq_getElem hjl⟩
          have hbw : ba < wr.heap.size := by omega
          have hq0 : (p : Int) ≠ 0 := by omega
          have hqe : ((p : Int) == 0) = false := by simp; omega
          have hq1 : (0 : Int) < (p : Int) := by omega
          have HTK := Lib.hid (show joinB [] (a.take (i + 1) ++ b.take 0) = addB (joinB [] (a.take i ++ b.take 0)) x by simp only [List.take_zero, List.append_nil]; rw [List.take_add_one, hx]; exact joinB_snoc _ _ _)
          have HXK := Lib.hid (HOK.out x (List.mem_append_left _ (List.mem_of_getElem? hx)))
          have C := fun i v h => bkt_cell0 hx hcs i v h
          obtain ⟨bb, ob, rfl, hbb2, hcs2⟩ := Row.posB HRB.out (by rw [List.length_drop]; have := HM.out; omega)
          obtain ⟨y, hy⟩ : ∃ y, b[0]? = some y := ⟨_, List.getElem?_eq_getElem (by have := HM.out; omega)⟩
          have hbw2 : bb < wr.heap.size := by omega
          have hq0' : (q : Int) ≠ 0 := by omega
          have hqe' : ((q : Int) == 0) = false := by simp; omega
          have hq1' : (0 : Int) < (q : Int) := by omega
          have hle := HAB.out x (List.mem_of_getElem? hx) y (List.mem_of_getElem? hy)
          have d0 := bkt_cell0 hy hcs2 0 _ rfl
          obtain ⟨gr, gto_, gcnt, gsum, gmn, gmx, gfi, gla⟩ := y
          simp only [Nat.add_zero] at d0
          obtain ⟨fr, to_, cnt, sum, mn, mx, fi, la⟩ := x
          simp only at hle
          have c0c := C 0 _ rfl
          have c1c := C 1 _ rfl
          have c2c := C 2 _ rfl
          have c3c := C 3 _ rfl
          have c4c := C 4 _ rfl
          have c5c := C 5 _ rfl
          have c6c := C 6 _ rfl
          have c7c := C 7 _ rfl
          simp only [Nat.add_zero] at c0c c1c c2c c3c c4c c5c c6c c7c
          have HNX : Hid (∀ W : World, Below w.heap.size wr W → Row W w.heap.size (some ⟨ba, oa + 8, none⟩) (bCells (a.drop (i + 1)))) := Lib.hid fun W hW => (Rest.next hx hbb hcs).below hW
          clear hcs hx C hcs2 hy
          go_wp2_with (fail)
          go_quiet (fail)
          go_wp2_with (fail)
          generalize hV : wr.drewN nq = V
          have hBV : Below wr.heap.size wr V := by rw [← hV]; exact below_drewN (Below.refl _ _) _
          have hown := own_below HOWN.out hBV
          have hVs : V.heap.size = wr.heap.size := by rw [← hV]; rfl
          have hAD := added_any V.drew w.heap.size z 1000 L _ ⟨fr, to_, cnt, sum, mn, mx, fi, la⟩ _ HZ.out.symm (by omega) (Nat.le_refl _) (by show _ ≤ V.heap.size; omega) hown HJK.out (HXK.out.mono hk0)
          have AD := Lib.hid hAD
          have HBV := Lib.hid hBV
          have k0 := (hBV.cell (p := ⟨ba, oa, none⟩) hbw).trans c0c
          have k1 := (hBV.cell (p := ⟨ba, oa + 1, none⟩) hbw).trans c1c
          have k2 := (hBV.cell (p := ⟨ba, oa + 2, none⟩) hbw).trans c2c
          have k3 := (hBV.cell (p := ⟨ba, oa + 3, none⟩) hbw).trans c3c
          have k4 := (hBV.cell (p := ⟨ba, oa + 4, none⟩) hbw).trans c4c
          have k5 := (hBV.cell (p := ⟨ba, oa + 5, none⟩) hbw).trans c5c
          have k6 := (hBV.cell (p := ⟨ba, oa + 6, none⟩) hbw).trans c6c
          have k7 := (hBV.cell (p := ⟨ba, oa + 7, none⟩) hbw).trans c7c
          have hne : some ba ≠ u7.ownBlock := fun e => by have := (HOWN.out.lt ba e.symm).1; omega
          have HS := Lib.hid (fun (w4 : World) (h2 : V.drew.grownBy w4 u7.ownBlock) => And.intro (h2.cell k0 hne) (And.intro (h2.cell k1 hne) (And.intro (h2.cell k2 hne) (And.intro (h2.cell k3 hne) (And.intro (h2.cell k4 hne) (And.intro (h2.cell k5 hne) (And.intro (h2.cell k6 hne) (h2.cell k7 hne))))))))
          clear hV hBV hown hAD hne c0c c1c c2c c3c c4c c5c c6c c7c d0 hle
          have hqc' : (p : Int) ≤ (c1 : Int) := by omega
          have hq3 : (1 : Int) ≤ (p : Int) := by omega
          have hq2 : 1 ≤ p := by omega
          by_cases hc1 : c1 = 1
          · have hq1e : p = 1 := by omega
            subst hc1
            subst hq1e
            go_region_held3 (fun w' => w'.cell? ⟨ba, oa, none⟩ = some (.int .i64 fr) ∧ w'.cell? ⟨ba, oa + 1, none⟩ = some (.int .i64 to_) ∧ w'.cell? ⟨ba, oa + 2, none⟩ = some (.int .i64 cnt) ∧ w'.cell? ⟨ba, oa + 3, none⟩ = some (.int .i64 sum) ∧ w'.cell? ⟨ba, oa + 4, none⟩ = some (.int .i64 mn) ∧ w'.cell? ⟨ba, oa + 5, none⟩ = some (.int .i64 mx) ∧ w'.cell? ⟨ba, oa + 6, none⟩ = some (.int .i64 fi) ∧ w'.cell? ⟨ba, oa + 7, none⟩ = some (.int .i64 la))
              (first | go_keep | (exact hS))
              ((go_at_call 44; refine AD.out.mono ?_; rintro e w4 ⟨v', rfl, h1, h2, h3⟩; have hS := HS.out w4 h2))
            have HB4 := Lib.hid (((HBL.out.trans (HBV.out.mono hsz)).drew).grown h2 (by show _ ≤ V.heap.size; omega) (fun g hg => (HOWN.out.lt g hg).1))
            have HW4 := Lib.hid ((((HBV.out.mono hsz)).drew).grown h2 (by show _ ≤ V.heap.size; omega) (fun g hg => (HOWN.out.lt g hg).1))
            rw [← HTK.out] at h1
            have HO4 := Lib.hid h1
            clear h1 h2 h3 hS HS k0 k1 k2 k3 k4 k5 k6 k7
            go_wp2_with (fail)
            go_roundw
            case rel => exact ⟨i + 1, 0, _, by omega, by omega, by omega, ⟨_, 0, 0, rfl, by have := HN.out; omega, by omega, Rest.last (by have := HN.out; omega) _⟩, ⟨_, q, c2, rfl, by have := HM.out; omega, by omega, HRB.out.below HW4.out⟩, rfl, HO4.out, HB4.out⟩
            case measure => simp [lenV]
          · have hc2 : 1 < c1 := by omega
            go_region_held3 (fun w' => w'.cell? ⟨ba, oa, none⟩ = some (.int .i64 fr) ∧ w'.cell? ⟨ba, oa + 1, none⟩ = some (.int .i64 to_) ∧ w'.cell? ⟨ba, oa + 2, none⟩ = some (.int .i64 cnt) ∧ w'.cell? ⟨ba, oa + 3, none⟩ = some (.int .i64 sum) ∧ w'.cell? ⟨ba, oa + 4, none⟩ = some (.int .i64 mn) ∧ w'.cell? ⟨ba, oa + 5, none⟩ = some (.int .i64 mx) ∧ w'.cell? ⟨ba, oa + 6, none⟩ = some (.int .i64 fi) ∧ w'.cell? ⟨ba, oa + 7, none⟩ = some (.int .i64 la))
              (first | go_keep | (exact hS))
              ((go_at_call 44; refine AD.out.mono ?_; rintro e w4 ⟨v', rfl, h1, h2, h3⟩; have hS := HS.out w4 h2))
            have HB4 := Lib.hid (((HBL.out.trans (HBV.out.mono hsz)).drew).grown h2 (by show _ ≤ V.heap.size; omega) (fun g hg => (HOWN.out.lt g hg).1))
            have HW4 := Lib.hid ((((HBV.out.mono hsz)).drew).grown h2 (by show _ ≤ V.heap.size; omega) (fun g hg => (HOWN.out.lt g hg).1))
            rw [← HTK.out] at h1
            have HO4 := Lib.hid h1
            clear h1 h2 h3 hS HS k0 k1 k2 k3 k4 k5 k6 k7
            go_wp2_with (fail)
            go_roundw
            case rel => exact ⟨i + 1, 0, _, by omega, by omega, by omega, ⟨_, p - 1, c1 - 1, rfl, by have := HN.out; omega, by omega, HNX.out w4 HW4.out⟩, ⟨_, q, c2, rfl, by have := HM.out; omega, by omega, HRB.out.below HW4.out⟩, rfl, HO4.out, HB4.out⟩
            case measure => simp [lenV]; omega
end Go.Proofs.YtnmgfnnkcenfeaaGreatDoor
