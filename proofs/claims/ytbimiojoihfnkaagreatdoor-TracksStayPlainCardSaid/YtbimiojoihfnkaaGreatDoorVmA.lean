/- series.spans of a good series in a window that holds all of it, by its contract. -/
import Derived.Test.YtbimiojoihfnkaaGreatDoorWin
namespace Go.Proofs.YtbimiojoihfnkaaGreatDoor
open Go.RowKit

/-- A span: from, to, value. -/
abbrev Spn := Int × Int × Int
def spC (p : Spn) : List Value := [.int .i64 p.1, .int .i64 p.2.1, .int .i64 p.2.2]
def sCells (l : List Spn) : List Value := l.flatMap spC
theorem sCells_snoc (l : List Spn) (p : Spn) : sCells (l ++ [p]) = sCells l ++ spC p := by simp [sCells]
theorem spC_one (p : Spn) : ∀ u ∈ spC p, u.oneCell' = true := by
  intro u hu
  simp only [spC, List.mem_cons, List.not_mem_nil, or_false] at hu
  rcases hu with rfl | rfl | rfl <;> rfl
theorem sCells_length (l : List Spn) : (sCells l).length = l.length * 3 := by
  induction l with
  | nil => rfl
  | cons x l ih => simp only [sCells, List.flatMap_cons, List.length_append, List.length_cons] at ih ⊢; rw [ih]; simp [spC]; omega
theorem sCells_get (l : List Spn) (i : Nat) (x : Spn) (h : l[i]? = some x) (j : Nat) (hj : j < 3) : (sCells l)[i * 3 + j]? = (spC x)[j]? := by
  induction l generalizing i with
  | nil => simp at h
  | cons y l ih =>
    cases i with
    | zero =>
      simp only [List.getElem?_cons_zero, Option.some.injEq] at h
      subst h
      simp only [sCells, List.flatMap_cons]
      rw [List.getElem?_append_left (by simp [spC]; omega)]
      simp
    | succ i =>
      simp only [List.getElem?_cons_succ] at h
      have := ih i h
      simp only [sCells, List.flatMap_cons] at this ⊢
      rw [List.getElem?_append_right (by simp [spC]; omega)]
      rw [← this]
      congr 1
      simp [spC]; omega
theorem spn_cells {w : World} {b o : Nat} {l : List Spn} (h : Cells w b o (sCells l)) (k : Nat) (x : Spn) (hx : l[k]? = some x) :
    w.cell? ⟨b, o + k * 3, none⟩ = some (.int .i64 x.1) ∧ w.cell? ⟨b, o + k * 3 + 1, none⟩ = some (.int .i64 x.2.1) ∧ w.cell? ⟨b, o + k * 3 + 2, none⟩ = some (.int .i64 x.2.2) := by
  have h0 := h (k * 3 + 0) _ ((sCells_get l k x hx 0 (by omega)).trans rfl)
  have h1 := h (k * 3 + 1) _ ((sCells_get l k x hx 1 (by omega)).trans rfl)
  have h2 := h (k * 3 + 2) _ ((sCells_get l k x hx 2 (by omega)).trans rfl)
  simp only [Nat.add_zero, ← Nat.add_assoc] at h0 h1 h2
  exact ⟨h0, h1, h2⟩
theorem Row.posS {w : World} {B : Nat} {A : Option Addr} {l : List Spn} (h : Row w B A (sCells l)) (hl : 0 < l.length) : ∃ b o, A = some ⟨b, o, none⟩ ∧ b < B ∧ Cells w b o (sCells l) := by
  rcases h with h | h
  · have := sCells_length l; rw [h] at this; simp at this; omega
  · exact h
theorem Tryz.infoSpn : (Tryz.prog.info? 157).map (fun i => (i.zero, i.size, i.bytes)) = some (some (.agg #[.int .i64 0, .int .i64 0, .int .i64 0]), 3, 24) := by kernel_rfl

/-- Where the span of measurement k ends. -/
def spTo (l : List Smp) (T : Int) (k : Nat) : Int := ((l[k + 1]?).map (·.1)).getD T
def spE (l : List Smp) (T : Int) (k : Nat) : Spn := ((l.getD k (0, 0)).1, spTo l T k, (l.getD k (0, 0)).2)
def spL (l : List Smp) (T : Int) (n : Nat) : List Spn := (List.range n).map (spE l T)
theorem spL_succ (l : List Smp) (T : Int) (n : Nat) : spL l T (n + 1) = spL l T n ++ [spE l T n] := by simp [spL, List.range_succ]
theorem spL_length (l : List Smp) (T : Int) (n : Nat) : (spL l T n).length = n := by simp [spL]

set_option maxRecDepth 100000 in
set_option maxHeartbeats 2000000 in
theorem spans_any (l : List Smp) (n c : Nat) (A : Option Addr) (a T : Int) (w : World) (hn : l.length = n) (hn2 : n ≤ 1000) (hg : GoodS l) (hr : Row w w.heap.size A (cellsOf l)) (ha : ∀ s ∈ l, a ≤ s.1 ∧ s.1 < T) :
    Calls Tryz.prog 80 #[.slice A n c, winV a T] w fun e w' => ∃ v, e = .returned v ∧ w'.ownsRow w.heap.size 157 3 v n (sCells (spL l T n)) ∧ Below w.heap.size w w' := by
  obtain ⟨i0, hi, hz0, hz1, hz2⟩ := info_parts Tryz.infoSpn
  have HR := Lib.hid hr
  have HG := Lib.hid hg
  have HN := Lib.hid hn
  have HA := Lib.hid ha
  clear hr hg hn ha
  unfold winV
  go_enter Tryz.func80, Tryz.ntmps80
  go_wp2_with (fail)
  generalize hX : w.alloc (.cells #[.int .i64 a, .int .i64 T] 58) = X
  have hXs : X.heap.size = w.heap.size + 1 := by rw [← hX]; simp
  have hBX : Below w.heap.size w X := hX ▸ (Below.refl _ _).alloc (Nat.le_refl _) _
  have hx0 : X.heap[w.heap.size]? = some (.cells #[.int .i64 a, .int .i64 T] 58) := by rw [← hX]; exact heap_new w _
  have HX := Lib.hid hx0
  have HBX := Lib.hid hBX
  clear hX hBX hx0
  go_loopw [5, 12] (fun v i wr => ∃ k : Nat, k ≤ n ∧ i = .int .i64 k ∧ wr.ownsRow (w.heap.size + 1) 157 3 v k (sCells (spL l T k)) ∧ wr.heap[w.heap.size]? = some (.cells #[.int .i64 a, .int .i64 T] 58) ∧ w.heap.size < wr.heap.size ∧ Below w.heap.size w wr) (fun _ i _ => n - (intOf i).toNat)
  case atStart => exact ⟨0, Nat.zero_le _, rfl, by simpa [spL, sCells] using World.ownsRow_nil _ _ _ _, HX.out, by omega, HBX.out⟩
  case round =>
    obtain ⟨k, hk, rfl, hown, hxb, hsz, hbl⟩ := hrel
    have HBL := Lib.hid hbl
    have HOWN := Lib.hid hown
    have HXB := Lib.hid hxb
    have q0 := cell_of_blk (j := 0) hxb rfl
    have q1 := cell_of_blk (j := 1) hxb rfl
    by_cases hlt : k < n
    · obtain ⟨b, o, rfl, hb, hcs⟩ := Row.pos HR.out (by have := HN.out; omega)
      obtain ⟨x, hx⟩ : ∃ x, l[k]? = some x := ⟨_, List.getElem?_eq_getElem (by have := HN.out; omega)⟩
      have hxa := HA.out x (List.mem_of_getElem? hx)
      have hcr := hcs.keep (hbl.block b hb)
      obtain ⟨s0, s1, s2, s3⟩ := smp_cells hcr k x hx
      have hbw : b < wr.heap.size := by omega
      have hlt' : (k : Int) < (n : Int) := by omega
      have hkn : k < n := hlt
      obtain ⟨to_, eto⟩ : ∃ t, t = spTo l T k := ⟨_, rfl⟩
      have HTO := Lib.hid (show (k + 1 < n → ∃ y, l[k + 1]? = some y ∧ y.1 = to_ ∧ y.1 < T) ∧ (k + 1 = n → to_ = T) ∧ x.1 < to_ ∧ to_ ≤ T by
        refine ⟨?_, ?_, ?_⟩
        · intro h
          obtain ⟨y, hy⟩ : ∃ y, l[k + 1]? = some y := ⟨_, List.getElem?_eq_getElem (by have := HN.out; omega)⟩
          exact ⟨y, hy, by rw [eto]; simp [spTo, hy], (HA.out y (List.mem_of_getElem? hy)).2⟩
        · intro h
          rw [eto]
          simp [spTo, List.getElem?_eq_none (show l.length ≤ k + 1 by have := HN.out; omega)]
        · rw [eto]
          simp only [spTo]
          cases hy : l[k + 1]? with
          | none => simp; omega
          | some y =>
            have h1 := HG.out.rise k x y hx hy
            have h2 := (HA.out y (List.mem_of_getElem? hy)).2
            simp; omega)
      have HSP := Lib.hid (show spL l T (k + 1) = spL l T k ++ [(x.1, to_, x.2)] by rw [spL_succ, eto]; simp [spE, List.getD, hx])
      clear eto
      obtain ⟨xa, xv⟩ := x
      simp only at hxa s2 s3 HTO HSP
      have hmx : (if xa < a then a else xa) = xa := by split <;> omega
      have hxt := HTO.out.2.2.1
      have hqw : w.heap.size < wr.heap.size := hsz
      by_cases hl : k + 1 < n
      · obtain ⟨y, hy, hy1, hyT⟩ := HTO.out.1 hl
        obtain ⟨_, _, t2, _⟩ := smp_cells hcr (k + 1) y hy
        rw [hy1] at t2 hyT
        have hl' : (k : Int) + 1 < (n : Int) := by omega
        have hmn : (if to_ < T then to_ else T) = to_ := if_pos hyT
        clear hown hxb hbl hcs hcr hx hy hy1
        go_wp2_with (at_builtin; refine wpList_append_own _ rfl _ _ 154 rfl (w.heap.size + 1) 157 i0 _ 3 24 Tryz.underlying154 hi hz0 hz1 hz2 rfl (by decide) _ _ _ rfl ((HOWN.out.alloc _).alloc _) ⟨wr.heap.size + 1, 0, none⟩ 1 1 (spC (xa, to_, xv)) rfl rfl ?c1 ?c2 ?c3 ?c4 ?c5 ?_)
        case c1 => first | (intro j u h; simpa [spC] using h) | exact cells_add (by have := Cells.new (wr.alloc (.cells #[.string ⟨#[100]⟩, .string ⟨#[109]⟩, .int .i64 xa, .int .i64 xv] 56)) #[.int .i64 xa, .int .i64 to_, .int .i64 xv] 157 (0, 0) (spC (xa, to_, xv)) rfl; simpa using this)
        case c2 => exact spC_one _
        case c3 => unfold maxLen; omega
        case c4 => omega
        case c5 => first | omega | (simp; omega)
        intro v' w7 hown7 hgr7 _
        have hg7 := grown_of_alloc (grown_of_alloc hgr7)
        have hs7 := hg7.size
        have HB7 := Lib.hid (HBL.out.grown hg7 (by omega) (fun g hg => by have := (HOWN.out.lt g hg).1; omega))
        have HX7 := Lib.hid ((hg7.block w.heap.size hqw (fun e => by have := (HOWN.out.lt _ e.symm).1; omega)).trans HXB.out)
        have HO7 := Lib.hid hown7
        clear hown7 hgr7 hg7 s0 s1 s2 s3 q0 q1 t2
        go_wp2_with (fail)
        go_roundw
        case rel => exact ⟨k + 1, by omega, by go_num, by rw [HSP.out, sCells_snoc]; exact HO7.out, HX7.out, by omega, HB7.out⟩
        case measure => simp [intOf]; omega
      · have hl' : ¬ (k : Int) + 1 < (n : Int) := by omega
        have hto := HTO.out.2.1 (by omega)
        subst hto
        clear hown hxb hbl hcs hcr hx
        go_wp2_with (at_builtin; refine wpList_append_own _ rfl _ _ 154 rfl (w.heap.size + 1) 157 i0 _ 3 24 Tryz.underlying154 hi hz0 hz1 hz2 rfl (by decide) _ _ _ rfl ((HOWN.out.alloc _).alloc _) ⟨wr.heap.size + 1, 0, none⟩ 1 1 (spC (xa, to_, xv)) rfl rfl ?c1 ?c2 ?c3 ?c4 ?c5 ?_)
        case c1 => first | (intro j u h; simpa [spC] using h) | exact cells_add (by have := Cells.new (wr.alloc (.cells #[.string ⟨#[100]⟩, .string ⟨#[109]⟩, .int .i64 xa, .int .i64 xv] 56)) #[.int .i64 xa, .int .i64 to_, .int .i64 xv] 157 (0, 0) (spC (xa, to_, xv)) rfl; simpa using this)
        case c2 => exact spC_one _
        case c3 => unfold maxLen; omega
        case c4 => omega
        case c5 => first | omega | (simp; omega)
        intro v' w7 hown7 hgr7 _
        have hg7 := grown_of_alloc (grown_of_alloc hgr7)
        have hs7 := hg7.size
        have HB7 := Lib.hid (HBL.out.grown hg7 (by omega) (fun g hg => by have := (HOWN.out.lt g hg).1; omega))
        have HX7 := Lib.hid ((hg7.block w.heap.size hqw (fun e => by have := (HOWN.out.lt _ e.symm).1; omega)).trans HXB.out)
        have HO7 := Lib.hid hown7
        clear hown7 hgr7 hg7 s0 s1 s2 s3 q0 q1
        go_wp2_with (fail)
        go_roundw
        case rel => exact ⟨k + 1, by omega, by go_num, by rw [HSP.out, sCells_snoc]; exact HO7.out, HX7.out, by omega, HB7.out⟩
        case measure => simp [intOf]; omega
    · have hkn : k = n := by omega
      subst hkn
      have HO := Lib.hid (own_mono HOWN.out (Nat.le_succ w.heap.size))
      clear hown hxb hbl
      go_wp2_with (fail)
      go_ret
      exact ⟨_, rfl, HO.out, HBL.out⟩
end Go.Proofs.YtbimiojoihfnkaaGreatDoor
