/- series.rises, Grown of a good series of values from 0 on. -/
import Derived.Test.YtaglkaphlekmoaaGreatDoorSer3
import Derived.Test.YtaglkaphlekmoaaGreatDoorCntD
import Derived.Test.YtaglkaphlekmoaaGreatDoorAppend
import Derived.Deep.RegionHeld3
namespace Go.Proofs.YtaglkaphlekmoaaGreatDoor
open Go.RowKit

theorem rises1_no (x : Smp) (w : World) (hx : 0 ≤ x.2) : Calls Tryz.prog 92 #[smpV x] w fun e w' => e = .returned (.bool false) ∧ Below w.heap.size w w' := by
  obtain ⟨a, v⟩ := x
  simp only at hx
  unfold smpV
  go_enter Tryz.func92, Tryz.ntmps92
  go_wp2_with (fail)
  go_ret
  exact ⟨by simp; omega, (Below.refl _ _).alloc (Nat.le_refl _) _⟩

set_option maxRecDepth 100000 in
set_option maxHeartbeats 1000000 in
/-- slices.IndexFunc with this function, where it says no everywhere. -/
theorem indexFunc_noR (g : Nat) (cb : Array Value) (l : List Smp) (n c b o : Nat) (w : World) (hn : l.length = n) (hn5 : n ≤ 5000) (hb : b < w.heap.size) (hc : Cells w b o (cellsOf l)) (hg : g = 92)
    (hp : ∀ (k : Nat) (x : Smp) (w' : World), l[k]? = some x → Below w.heap.size w w' → Calls Tryz.prog g (#[smpV x] ++ cb) w' fun e w'' => e = .returned (.bool false) ∧ Below w'.heap.size w' w'') :
    Calls Tryz.prog 52 #[.slice (some ⟨b, o, none⟩) n c, .func (.func g) #[] cb] w fun e w' => e = .returned (.int .i64 (-1)) ∧ Below w.heap.size w w' := by
  have HC := Lib.hid hc
  have HP := Lib.hid hp
  clear hc hp
  subst hg
  go_enter Tryz.func52, Tryz.ntmps52
  go_wp2_with (fail)
  go_loopw [8] (fun i wr => ∃ k : Nat, k ≤ n ∧ i = .int .i64 k ∧ Below w.heap.size w wr) (fun i _ => n - (intOf i).toNat)
  case atStart => exact ⟨0, Nat.zero_le _, rfl, Below.refl _ _⟩
  case round =>
    obtain ⟨k, hk, rfl, hbl⟩ := hrel
    have hsz := hbl.size
    by_cases hlt : k < n
    · obtain ⟨x, hx⟩ : ∃ x, l[k]? = some x := ⟨_, List.getElem?_eq_getElem (by omega)⟩
      have hcr : Cells wr b o (cellsOf l) := HC.out.keep (hbl.block b hb)
      obtain ⟨c0, c1, c2, c3⟩ := smp_cells hcr k x hx
      have HBL := Lib.hid hbl
      have HCALL := Lib.hid (HP.out k x wr hx hbl)
      obtain ⟨a, v⟩ := x
      simp only at c2 c3
      clear hbl hcr hx
      go_wp2_with (fail)
      refine HCALL.out.mono ?_
      rintro e w' ⟨rfl, hbw⟩
      have HB3 := Lib.hid (show Below w.heap.size w w' from (HBL.out).trans (hbw.mono hsz))
      clear hbw
      go_wp2_with (fail)
      go_roundw
      case rel => exact ⟨k + 1, by omega, by go_num, HB3.out⟩
      case measure => simp [intOf]; omega
    · have HBL := Lib.hid hbl
      clear hbl
      go_wp2_with (fail)
      go_ret
      exact ⟨rfl, HBL.out⟩


/-- Neither is it so of an empty series. -/
theorem hasFunc_noR (cb : Array Value) (l : List Smp) (n c : Nat) (A : Option Addr) (w : World) (hn : l.length = n) (hn5 : n ≤ 5000) (hr : Row w w.heap.size A (cellsOf l))
    (hp : ∀ (k : Nat) (x : Smp) (w' : World), l[k]? = some x → Below w.heap.size w w' → Calls Tryz.prog 92 (#[smpV x] ++ cb) w' fun e w'' => e = .returned (.bool false) ∧ Below w'.heap.size w' w'') :
    Calls Tryz.prog 17 #[.slice A n c, .func (.func 92) #[] cb] w fun e w' => e = .returned (.bool false) ∧ Below w.heap.size w w' := by
  have H : Hid (Calls Tryz.prog 52 #[.slice A n c, .func (.func 92) #[] cb] w fun e w' => e = .returned (.int .i64 (-1)) ∧ Below w.heap.size w w') := by
    refine Lib.hid ?_
    rcases Nat.eq_zero_or_pos n with h0 | h0
    · rw [h0]; exact indexFunc_empty _ A c w
    · obtain ⟨b, o, rfl, hb, hc⟩ := hr.pos (by omega)
      exact indexFunc_noR 92 cb l n c b o w hn hn5 hb hc rfl hp
  clear hr hp
  go_enter Tryz.func17, Tryz.ntmps17
  go_wp2_with (fail)
  refine H.out.mono ?_
  rintro e w' ⟨rfl, hbw⟩
  have HB := Lib.hid hbw
  clear hbw
  go_wp2_with (fail)
  go_ret
  exact ⟨rfl, HB.out⟩

theorem own_far {w w' : World} {base q : Nat} {e : TypeId} {size n : Nat} {v : Value} {xs : List Value} (h : w.ownsRow base e size v n xs) (hg : w.grownBy w' (some q)) (hq : ∀ g, v.ownBlock = some g → g ≠ q) : w'.ownsRow base e size v n xs := by
  refine h.kept hg ?_
  cases hv : v.ownBlock with
  | none => exact .inl rfl
  | some b => exact .inr (fun e => hq b hv (by injection e))
theorem Tryz.infoRise : (Tryz.prog.info? 118).map (fun i => (i.zero, i.size, i.bytes)) = some (some (.agg #[.int .i64 0, .int .i64 0, .int .i64 0, .bool false]), 4, 32) := by kernel_rfl

set_option maxRecDepth 100000 in
set_option maxHeartbeats 2000000 in
theorem rises_any (l : List Smp) (n c : Nat) (A : Option Addr) (w : World) (hn : l.length = n) (hn2 : n ≤ 1000) (hg : GoodS l) (hv : ∀ s ∈ l, 0 ≤ s.2) (hr : Row w w.heap.size A (cellsOf l)) :
    Calls Tryz.prog 49 #[.slice A n c] w fun e w' => ∃ v, e = .returned (.tuple #[v, .int .i64 0]) ∧ w'.ownsRow w.heap.size 118 4 v (n - 1) (rCells (risK l (n - 1))) ∧ Below w.heap.size w w' := by
  obtain ⟨i0, hi, hz0, hz1, hz2⟩ := info_parts Tryz.infoRise
  have HR := Lib.hid hr
  have HG := Lib.hid hg
  have HN := Lib.hid hn
  have HC := Lib.hid (hasFunc_noR #[] l n c A w hn (by omega) hr (fun k x w' hx _ => by have := rises1_no x w' (hv x (List.mem_of_getElem? hx)); simpa using this))
  clear hr hg hn hv
  go_enter Tryz.func49, Tryz.ntmps49
  go_wp2_with (fail)
  refine HC.out.mono ?_
  rintro e w1 ⟨rfl, hb1⟩
  have HB1 := Lib.hid hb1
  clear hb1
  go_wp2_with (fail)
  go_loopw [4, 5] (fun v i wr => ∃ j : Nat, (j + 1 ≤ n ∨ j = 0) ∧ i = .int .i64 ((j + 1 : Nat) : Int) ∧ wr.ownsRow w.heap.size 118 4 v j (rCells (risK l j)) ∧ Below w.heap.size w wr) (fun _ i _ => n - (intOf i).toNat)
  case atStart => exact ⟨0, .inr rfl, rfl, by simpa [risK, rCells] using World.ownsRow_nil _ _ _ _, HB1.out⟩
  case round =>
    obtain ⟨j, hj, rfl, hown, hbl⟩ := hrel
    have hsz := hbl.size
    by_cases hlt : j + 1 < n
    · obtain ⟨b, o, rfl, hb, hcs⟩ := Row.pos HR.out (by have := HN.out; omega)
      obtain ⟨x, hx⟩ : ∃ x, l[j]? = some x := ⟨_, List.getElem?_eq_getElem (by have := HN.out; omega)⟩
      obtain ⟨y, hy⟩ : ∃ y, l[j + 1]? = some y := ⟨_, List.getElem?_eq_getElem (by have := HN.out; omega)⟩
      have hcr := hcs.keep (hbl.block b hb)
      obtain ⟨_, _, x2, x3⟩ := smp_cells hcr j x hx
      obtain ⟨_, _, y2, y3⟩ := smp_cells hcr (j + 1) y hy
      have hxv := HG.out.val j x hx
      have hyv := HG.out.val (j + 1) y hy
      have HTK := Lib.hid (show risK l (j + 1) = risK l j ++ [risOf x y] by rw [risK_succ]; simp [List.getD, hx, hy])
      have HBL := Lib.hid hbl
      have HOWN := Lib.hid hown
      obtain ⟨xa, xv⟩ := x
      obtain ⟨ya, yv⟩ := y
      simp only at x2 x3 y2 y3 hxv hyv
      have hw : IntKind.i64.wrap (j : Int) = (j : Int) := by rw [IntKind.wrap_i64]; omega
      have hw2 : IntKind.i64.wrap (yv - xv) = yv - xv := by rw [IntKind.wrap_i64]; omega
      have hjn : (j : Int) < (n : Int) := by omega
      have hjn' : j < n := by omega
      have hj1 : ((j + 1 : Nat) : Int) < (n : Int) := by omega
      have hj1' : (j : Int) + 1 < (n : Int) := by omega
      have hbw : b < wr.heap.size := by omega
      have hj0 : (0 : Int) ≤ (j : Int) + 1 := by omega
      have htn : ((j : Int) + 1).toNat = j + 1 := by omega
      clear hbl hown hcs hcr hx hy
      go_upto_region 7 with (fail)
      go_cut [6] (fun s6 wx => s6 = .pointer (some ⟨wr.heap.size, 0, none⟩) ∧ wx.heap[wr.heap.size]? = some (.cells #[.int .i64 xa, .int .i64 ya, .int .i64 (yv - xv), .bool false] 118) ∧ wx.heap.size = wr.heap.size + 1 ∧ Below wr.heap.size wr wx)
      case first =>
        go_region_held3 (fun w' => w'.cell? ⟨b, o + j * 4 + 2, none⟩ = some (.int .i64 xa) ∧ w'.cell? ⟨b, o + j * 4 + 3, none⟩ = some (.int .i64 xv) ∧ w'.cell? ⟨b, o + (j + 1) * 4 + 2, none⟩ = some (.int .i64 ya) ∧ w'.cell? ⟨b, o + (j + 1) * 4 + 3, none⟩ = some (.int .i64 yv)) (go_keep) (fail)
        all_goals (go_wp2_with (fail); go_meet; exact ⟨rfl, heap_new wr _, by simp, ((Below.refl _ _).alloc (Nat.le_refl _) _).drew⟩)
      case rest =>
        obtain ⟨rfl, hblk, hWs, hWB⟩ := hcut
        clear htn
        obtain ⟨W, rfl⟩ : ∃ W : World, W = wc := ⟨_, rfl⟩
        have HBW := Lib.hid (HBL.out.trans (hWB.mono hsz))
        have HOW := Lib.hid (own_below HOWN.out hWB)
        have c0 := cell_of_blk (j := 0) hblk rfl
        have c1 := cell_of_blk (j := 1) hblk rfl
        have c2 := cell_of_blk (j := 2) hblk rfl
        have c3 := cell_of_blk (j := 3) hblk rfl
        have y3W := (hWB.cell (p := ⟨b, o + (j + 1) * 4 + 3, none⟩) hbw).trans y3
        have hbW : b < W.heap.size := by omega
        have fr : ∀ j, W.frozen? ⟨wr.heap.size, j, none⟩ = false := by intro j; simp [World.frozen?, hblk]
        have f2 := fr 2
        have f3 := fr 3
        have HW2 : ((W.setCell ⟨wr.heap.size, 2, none⟩ (.int .i64 yv)).setCell ⟨wr.heap.size, 3, none⟩ (.bool true)).heap[wr.heap.size]? = some (.cells #[.int .i64 xa, .int .i64 ya, .int .i64 yv, .bool true] 118) := by
          simp [World.setCell, Array.getElem?_modify, hblk]
        have HBLK := Lib.hid HW2
        clear hblk x2 x3 y2 y3 hWB fr HW2
        by_cases hs : yv - xv < 0
        · have HK2 := Lib.hid (show risK l (j + 1) = risK l j ++ [⟨xa, ya, yv, true⟩] by rw [HTK.out]; unfold risOf; rw [if_pos hs])
          have hgs : W.grownBy ((W.setCell ⟨wr.heap.size, 2, none⟩ (.int .i64 yv)).setCell ⟨wr.heap.size, 3, none⟩ (.bool true)) (some wr.heap.size) := grown_set (g := wr.heap.size) (q := ⟨wr.heap.size, 3, none⟩) (grown_set (g := wr.heap.size) (q := ⟨wr.heap.size, 2, none⟩) (grown_refl W _) (.inl rfl) _) (.inl rfl) _
          have HO3 := Lib.hid (own_far HOW.out hgs (fun g hg => by have := (HOWN.out.lt g hg).2; omega))
          have HB3 := Lib.hid (HBW.out.grown hgs (by omega) (fun g hg => by injection hg with hg; omega))
          clear hgs
          go_wp2_with (at_builtin; refine wpList_append_own _ rfl _ _ 114 rfl w.heap.size 118 i0 _ 4 32 Tryz.underlying114 hi hz0 hz1 hz2 rfl (by decide) _ _ _ rfl (HO3.out.alloc _) ⟨wr.heap.size + 1, 0, none⟩ 1 1 (riseC ⟨xa, ya, yv, true⟩) rfl rfl ?d1 ?d2 ?d3 ?d4 ?d5 ?_)
          case d1 => first | (intro j u h; simpa [riseC] using h) | exact cells_add (by have := Cells.new ((W.setCell ⟨wr.heap.size, 2, none⟩ (.int .i64 yv)).setCell ⟨wr.heap.size, 3, none⟩ (.bool true)) #[.int .i64 xa, .int .i64 ya, .int .i64 yv, .bool true] 118 (0, 0) (riseC ⟨xa, ya, yv, true⟩) rfl; simpa [hWs] using this)
          case d2 => exact riseC_one _
          case d3 => unfold maxLen; omega
          case d4 => omega
          case d5 => first | omega | (simp; omega)
          intro v' w4 hown4 hgr4 _
          have HB4 := Lib.hid (HB3.out.grown (grown_of_alloc hgr4) (by simp; omega) (fun g hg => (HOW.out.lt g hg).1))
          have HO4 := Lib.hid hown4
          clear hown4 hgr4
          go_wp2_with (fail)
          go_roundw
          case rel => first | exact ⟨j + 1, .inl (by omega), by go_num, by rw [HK2.out, rCells_snoc]; exact HO4.out, HB4.out⟩ | ((repeat apply Exists.intro); exact ⟨⟨j + 1, .inl (by omega), by go_num, by rw [HK2.out, rCells_snoc]; exact HO4.out, HB4.out⟩, rfl⟩)
          case measure => simp [intOf]; omega
        · have HK2 := Lib.hid (show risK l (j + 1) = risK l j ++ [⟨xa, ya, yv - xv, false⟩] by rw [HTK.out]; unfold risOf; rw [if_neg hs])
          go_wp2_with (at_builtin; refine wpList_append_own _ rfl _ _ 114 rfl w.heap.size 118 i0 _ 4 32 Tryz.underlying114 hi hz0 hz1 hz2 rfl (by decide) _ _ _ rfl (HOW.out.alloc _) ⟨wr.heap.size + 1, 0, none⟩ 1 1 (riseC ⟨xa, ya, yv - xv, false⟩) rfl rfl ?c1 ?c2 ?c3 ?c4 ?c5 ?_)
          case c1 => first | (intro j u h; simpa [riseC] using h) | exact cells_add (by have := Cells.new W #[.int .i64 xa, .int .i64 ya, .int .i64 (yv - xv), .bool false] 118 (0, 0) (riseC ⟨xa, ya, yv - xv, false⟩) rfl; simpa [hWs] using this)
          case c2 => exact riseC_one _
          case c3 => unfold maxLen; omega
          case c4 => omega
          case c5 => first | omega | (simp; omega)
          intro v' w4 hown4 hgr4 _
          have HB4 := Lib.hid (HBW.out.grown (grown_of_alloc hgr4) (by omega) (fun g hg => (HOW.out.lt g hg).1))
          have HO4 := Lib.hid hown4
          clear hown4 hgr4
          go_wp2_with (fail)
          go_roundw
          case rel => first | exact ⟨j + 1, .inl (by omega), by go_num, by rw [HK2.out, rCells_snoc]; exact HO4.out, HB4.out⟩ | ((repeat apply Exists.intro); exact ⟨⟨j + 1, .inl (by omega), by go_num, by rw [HK2.out, rCells_snoc]; exact HO4.out, HB4.out⟩, rfl⟩)
          case measure => simp [intOf]; omega
    · have hjn : j = n - 1 := by omega
      subst hjn
      have HBL := Lib.hid hbl
      have HOWN := Lib.hid hown
      have hlt' : ¬ ((n - 1 + 1 : Nat) : Int) < (n : Int) := by omega
      clear hbl hown
      go_wp2_with (fail)
      go_ret2
      exact ⟨_, rfl, HOWN.out, HBL.out⟩

/-- The four cells of rise k. -/
theorem rise_cells {w : World} {b o : Nat} {l : List Rise} (h : Cells w b o (rCells l)) (k : Nat) (x : Rise) (hx : l[k]? = some x) :
    w.cell? ⟨b, o + k * 4, none⟩ = some (.int .i64 x.fr) ∧ w.cell? ⟨b, o + k * 4 + 1, none⟩ = some (.int .i64 x.to_) ∧ w.cell? ⟨b, o + k * 4 + 2, none⟩ = some (.int .i64 x.by_) ∧ w.cell? ⟨b, o + k * 4 + 3, none⟩ = some (.bool x.re) := by
  have h0 := h (k * 4 + 0) _ ((rCells_get l k x hx 0 (by omega)).trans rfl)
  have h1 := h (k * 4 + 1) _ ((rCells_get l k x hx 1 (by omega)).trans rfl)
  have h2 := h (k * 4 + 2) _ ((rCells_get l k x hx 2 (by omega)).trans rfl)
  have h3 := h (k * 4 + 3) _ ((rCells_get l k x hx 3 (by omega)).trans rfl)
  simp only [Nat.add_zero, ← Nat.add_assoc] at h0 h1 h2 h3
  exact ⟨h0, h1, h2, h3⟩
theorem rCells_length (l : List Rise) : (rCells l).length = l.length * 4 := by
  induction l with
  | nil => rfl
  | cons x l ih => simp only [rCells, List.flatMap_cons, List.length_append, List.length_cons] at ih ⊢; rw [ih]; simp [riseC]; omega
theorem Row.posR {w : World} {B : Nat} {A : Option Addr} {l : List Rise} (h : Row w B A (rCells l)) (hl : 0 < l.length) : ∃ b o, A = some ⟨b, o, none⟩ ∧ b < B ∧ Cells w b o (rCells l) := by
  rcases h with h | h
  · have := rCells_length l; rw [h] at this; simp at this; omega
  · exact h

set_option maxRecDepth 100000 in
set_option maxHeartbeats 2000000 in
theorem grown_any (l : List Smp) (n c : Nat) (A : Option Addr) (a b : Int) (w : World) (hn : l.length = n) (hn2 : n ≤ 1000) (hg : GoodS l) (hv : ∀ s ∈ l, 0 ≤ s.2) (hr : Row w w.heap.size A (cellsOf l)) (h1 : 0 ≤ a) (h2 : a ≤ b) (h3 : b ≤ 345686400000) :
    Calls Tryz.prog 15 #[.slice A n c, winV a b] w fun e w' => e = .returned (.tuple #[.int .i64 (grown a b (risK l (n - 1))), .int .i64 0]) ∧ Below w.heap.size w w' := by
  have HR := Lib.hid hr
  have HG := Lib.hid hg
  have HN := Lib.hid hn
  have HV := Lib.hid hv
  clear hr hg hn hv
  unfold winV
  go_enter Tryz.func15, Tryz.ntmps15
  go_wp2_with (fail)
  generalize hX : w.alloc (.cells #[.int .i64 a, .int .i64 b] 47) = X
  have hXs : w.heap.size < X.heap.size := by rw [← hX]; simp
  have hBX : Below w.heap.size w X := hX ▸ (Below.refl _ _).alloc (Nat.le_refl _) _
  have x0 : X.cell? ⟨w.heap.size, 0, none⟩ = some (.int .i64 a) := by rw [← hX]; exact cell_of_blk (heap_new w _) rfl
  have x1 : X.cell? ⟨w.heap.size, 1, none⟩ = some (.int .i64 b) := by rw [← hX]; exact cell_of_blk (heap_new w _) rfl
  have HRX := Lib.hid ((HR.out.below hBX).mono (Nat.le_of_lt hXs))
  have HBX := Lib.hid hBX
  clear hX hBX
  refine (fault_any l n c A a b X HN.out HG.out HRX.out h1 h2 h3).mono ?_
  rintro e w1 ⟨rfl, hb1⟩
  have hs1 := hb1.size
  have y0 := (hb1.cell (p := ⟨w.heap.size, 0, none⟩) hXs).trans x0
  have y1 := (hb1.cell (p := ⟨w.heap.size, 1, none⟩) hXs).trans x1
  have HR1 := Lib.hid ((HRX.out.below hb1).mono hs1)
  have HB1 := Lib.hid (HBX.out.trans (hb1.mono (by omega)))
  clear hb1 x0 x1
  go_wp2_with (fail)
  refine (rises_any l n c A w1 HN.out hn2 HG.out HV.out HR1.out).mono ?_
  rintro e w2 ⟨v2, rfl, hown2, hb2⟩
  have hs2 := hb2.size
  obtain ⟨A2, c2, rfl⟩ := own_slice hown2
  have z0 := (hb2.cell (p := ⟨w.heap.size, 0, none⟩) (by show w.heap.size < w1.heap.size; omega)).trans y0
  have z1 := (hb2.cell (p := ⟨w.heap.size, 1, none⟩) (by show w.heap.size < w1.heap.size; omega)).trans y1
  have HR2 := Lib.hid (own_row hown2)
  have HB2 := Lib.hid (HB1.out.trans (hb2.mono (by omega)))
  obtain ⟨m, em⟩ : ∃ m, m = n - 1 := ⟨_, rfl⟩
  have hmn : m ≤ n := by omega
  rw [← em] at HR2 ⊢
  obtain ⟨rs, ers⟩ : ∃ rs, rs = risK l m := ⟨_, rfl⟩
  have HM := Lib.hid (show rs.length = m by rw [ers, risK_length])
  have HBY := Lib.hid (show ∀ r ∈ rs, 0 ≤ r.by_ ∧ r.by_ ≤ 1000000000 by
    rcases Nat.eq_zero_or_pos n with h0 | h0
    · intro r hr
      have : rs = [] := List.eq_nil_of_length_eq_zero (by rw [ers, risK_length]; omega)
      rw [this] at hr; simp at hr
    · rw [ers]
      refine risK_by l m (by rw [HN.out]; omega) (fun s hs => ⟨HV.out s hs, ?_⟩)
      obtain ⟨i, hi⟩ := List.getElem?_of_mem hs
      exact (HG.out.val i s hi).2)
  rw [← ers] at HR2
  have HE := Lib.hid (And.intro em ers)
  clear hown2 hb2 y0 y1 em ers
  go_wp2_with (fail)
  go_loopw [9, 25] (fun s i wr => ∃ k : Nat, k ≤ m ∧ i = .int .i64 k ∧ s = .int .i64 (grown a b (rs.take k)) ∧ Below w2.heap.size w2 wr) (fun _ i _ => m - (intOf i).toNat)
  case atStart => exact ⟨0, Nat.zero_le _, rfl, by simp [grown, tot], Below.refl _ _⟩
  case round =>
    obtain ⟨k, hk, rfl, rfl, hbl⟩ := hrel
    have hsz := hbl.size
    by_cases hlt : k < m
    · obtain ⟨b1, o1, rfl, hb1, hcs⟩ := Row.posR HR2.out (by have := HM.out; omega)
      obtain ⟨x, hx⟩ : ∃ x, rs[k]? = some x := ⟨_, List.getElem?_eq_getElem (by have := HM.out; omega)⟩
      obtain ⟨q0, q1, q2, q3⟩ := rise_cells (hcs.keep (hbl.block b1 hb1)) k x hx
      have htk : rs.take (k + 1) = rs.take k ++ [x] := by rw [List.take_add_one, hx]; rfl
      have hbd := grown_le a b (rs.take k) (fun r hr => HBY.out r (List.mem_of_mem_take hr))
      have hll : (rs.take k).length ≤ 1000 := by simp only [List.length_take]; omega
      have hxb := HBY.out x (List.mem_of_getElem? hx)
      obtain ⟨S, eS⟩ : ∃ S, S = grown a b (rs.take k) := ⟨_, rfl⟩
      have HTK := Lib.hid (show grown a b (rs.take (k + 1)) = S + inW a b x by rw [htk, grown_snoc, eS])
      rw [← eS] at hbd ⊢
      have t0 := (hbl.cell (p := ⟨w.heap.size, 0, none⟩) (by show w.heap.size < w2.heap.size; omega)).trans z0
      have t1 := (hbl.cell (p := ⟨w.heap.size, 1, none⟩) (by show w.heap.size < w2.heap.size; omega)).trans z1
      obtain ⟨fr, to_, by_, re⟩ := x
      simp only at hxb q0 q1 q2 q3
      have hw1 : IntKind.i64.wrap (S + by_) = S + by_ := by rw [IntKind.wrap_i64]; omega
      have HBL := Lib.hid hbl
      have hlt' : (k : Int) < (m : Int) := by omega
      have hb1w : b1 < wr.heap.size := by omega
      have hww : w.heap.size < wr.heap.size := by omega
      clear hbl hx hcs htk hbd hll eS
      by_cases hin : a < to_ ∧ to_ ≤ b
      · have HI := Lib.hid (show inW a b ⟨fr, to_, by_, re⟩ = by_ by unfold inW; rw [if_pos hin])
        obtain ⟨i1, i2⟩ := hin
        go_wp2_with (fail)
        go_roundw
        case rel => exact ⟨k + 1, by omega, by go_num, by rw [HTK.out, HI.out], HBL.out.alloc hsz _⟩
        case measure => simp [intOf]; omega
      · have HI := Lib.hid (show inW a b ⟨fr, to_, by_, re⟩ = 0 by unfold inW; rw [if_neg hin])
        by_cases i1 : a < to_
        · have i2 : ¬ to_ ≤ b := fun h => hin ⟨i1, h⟩
          clear hin
          go_wp2_with (fail)
          go_roundw
          case rel => exact ⟨k + 1, by omega, by go_num, by rw [HTK.out, HI.out, Int.add_zero], HBL.out.alloc hsz _⟩
          case measure => simp [intOf]; omega
        · clear hin
          go_wp2_with (fail)
          go_roundw
          case rel => exact ⟨k + 1, by omega, by go_num, by rw [HTK.out, HI.out, Int.add_zero], HBL.out.alloc hsz _⟩
          case measure => simp [intOf]; omega
    · have hkn : k = m := by omega
      subst hkn
      have HBL := Lib.hid hbl
      have HT2 := Lib.hid (show rs.take k = rs by rw [List.take_of_length_le (by have := HM.out; omega)])
      rw [HT2.out]
      have HV3 := Lib.hid (show grown a b rs = grown a b (risK l (n - 1)) by rw [HE.out.2, HE.out.1])
      clear hbl
      go_wp2_with (fail)
      go_ret2
      exact ⟨by first | (rw [← HV3.out]; done) | (rw [← HV3.out]; rfl), HB2.out.trans (HBL.out.mono (by omega))⟩
end Go.Proofs.YtaglkaphlekmoaaGreatDoor
