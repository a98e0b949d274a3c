/- series.in where it says no; series.Gaps of a good series. -/
import Derived.Test.YtaglkaphlekmoaaGreatDoorRis
namespace Go.Proofs.YtaglkaphlekmoaaGreatDoor
open Go.RowKit

theorem in_no (a b t : Int) (w : World) (h : t < a ∨ b ≤ t) : Calls Tryz.prog 51 #[winV a b, .int .i64 t] w fun e w' => e = .returned (.bool false) ∧ Below w.heap.size w w' := by
  unfold winV
  by_cases h1 : t < a
  · go_enter Tryz.func51, Tryz.ntmps51
    go_wp2
    go_ret
    exact ⟨rfl, (Below.refl _ _).alloc (Nat.le_refl _) _⟩
  · have h2 : b ≤ t := by omega
    clear h
    go_enter Tryz.func51, Tryz.ntmps51
    go_wp2
    go_ret
    exact ⟨by simp; omega, (Below.refl _ _).alloc (Nat.le_refl _) _⟩

def winC (p : Int × Int) : List Value := [.int .i64 p.1, .int .i64 p.2]
def wCells (l : List (Int × Int)) : List Value := l.flatMap winC
theorem wCells_snoc (l : List (Int × Int)) (p : Int × Int) : wCells (l ++ [p]) = wCells l ++ winC p := by simp [wCells]
theorem winC_one (p : Int × Int) : ∀ u ∈ winC p, u.oneCell' = true := by
  intro u hu
  simp only [winC, List.mem_cons, List.not_mem_nil, or_false] at hu
  rcases hu with rfl | rfl <;> rfl
theorem wCells_length (l : List (Int × Int)) : (wCells l).length = l.length * 2 := by
  induction l with
  | nil => rfl
  | cons x l ih => simp only [wCells, List.flatMap_cons, List.length_append, List.length_cons] at ih ⊢; rw [ih]; simp [winC]; omega
theorem wCells_get (l : List (Int × Int)) (i : Nat) (x : Int × Int) (h : l[i]? = some x) (j : Nat) (hj : j < 2) : (wCells l)[i * 2 + j]? = (winC x)[j]? := by
  induction l generalizing i with
  | nil => simp at h
  | cons y l ih =>
    cases i with
    | zero =>
      simp only [List.getElem?_cons_zero, Option.some.injEq] at h
      subst h
      simp only [wCells, List.flatMap_cons]
      rw [List.getElem?_append_left (by simp [winC]; omega)]
      simp
    | succ i =>
      simp only [List.getElem?_cons_succ] at h
      have := ih i h
      simp only [wCells, List.flatMap_cons] at this ⊢
      rw [List.getElem?_append_right (by simp [winC]; omega)]
      rw [← this]
      congr 1
      simp [winC]; omega
theorem win_cells {w : World} {b o : Nat} {l : List (Int × Int)} (h : Cells w b o (wCells l)) (k : Nat) (x : Int × Int) (hx : l[k]? = some x) :
    w.cell? ⟨b, o + k * 2, none⟩ = some (.int .i64 x.1) ∧ w.cell? ⟨b, o + k * 2 + 1, none⟩ = some (.int .i64 x.2) := by
  have h0 := h (k * 2 + 0) _ ((wCells_get l k x hx 0 (by omega)).trans rfl)
  have h1 := h (k * 2 + 1) _ ((wCells_get l k x hx 1 (by omega)).trans rfl)
  simp only [Nat.add_zero, ← Nat.add_assoc] at h0 h1
  exact ⟨h0, h1⟩
theorem Row.posW {w : World} {B : Nat} {A : Option Addr} {l : List (Int × Int)} (h : Row w B A (wCells l)) (hl : 0 < l.length) : ∃ b o, A = some ⟨b, o, none⟩ ∧ b < B ∧ Cells w b o (wCells l) := by
  rcases h with h | h
  · have := wCells_length l; rw [h] at this; simp at this; omega
  · exact h
theorem Tryz.infoWin : (Tryz.prog.info? 47).map (fun i => (i.zero, i.size, i.bytes)) = some (some (.agg #[.int .i64 0, .int .i64 0]), 2, 16) := by kernel_rfl

theorem gapStep_no (w : World) (qa qm qo : Nat) (A M T : Int) (hA : w.cell? ⟨qa, 0, none⟩ = some (.int .i64 A)) (hM : w.cell? ⟨qm, 0, none⟩ = some (.int .i64 M)) (hf : w.frozen? ⟨qa, 0, none⟩ = false)
    (h1 : 0 ≤ A) (h2 : A ≤ 1000000000000) (h3 : 0 ≤ T) (h4 : T ≤ 1000000000000) (hn : ¬ M < T - A) :
    Calls Tryz.prog 50 #[.int .i64 T, .pointer (some ⟨qa, 0, none⟩), .pointer (some ⟨qm, 0, none⟩), .pointer (some ⟨qo, 0, none⟩)] w fun e w' => e = .returned (.tuple #[]) ∧ w' = w.setCell ⟨qa, 0, none⟩ (.int .i64 T) := by
  have hw : IntKind.i64.wrap (T - A) = T - A := by rw [IntKind.wrap_i64]; omega
  go_enter Tryz.func50, Tryz.ntmps50
  go_wp2
  go_end0
  exact ⟨rfl, rfl⟩

set_option maxRecDepth 100000 in
set_option maxHeartbeats 1000000 in
theorem gapStep_yes (w : World) (qa qm qo B m : Nat) (A M T : Int) (v : Value) (ws : List (Int × Int)) (hA : w.cell? ⟨qa, 0, none⟩ = some (.int .i64 A)) (hM : w.cell? ⟨qm, 0, none⟩ = some (.int .i64 M)) (hO : w.heap[qo]? = some (.cells #[v] 48)) (hAb : w.heap[qa]? = some (.cells #[.int .i64 A] 3))
    (hown : w.ownsRow B 47 2 v m (wCells ws)) (hm : m ≤ 1000000) (hqa : qa < B) (hqo : qo < B) (hne : qa ≠ qo) (hB : B ≤ w.heap.size)
    (h1 : 0 ≤ A) (h2 : A ≤ 1000000000000) (h3 : 0 ≤ T) (h4 : T ≤ 1000000000000) (hn : M < T - A) :
    Calls Tryz.prog 50 #[.int .i64 T, .pointer (some ⟨qa, 0, none⟩), .pointer (some ⟨qm, 0, none⟩), .pointer (some ⟨qo, 0, none⟩)] w fun e w' => ∃ v' w2, e = .returned (.tuple #[]) ∧ w' = (w2.setCell ⟨qo, 0, none⟩ v').setCell ⟨qa, 0, none⟩ (.int .i64 T) ∧
      w2.ownsRow B 47 2 v' (m + 1) (wCells (ws ++ [(A, T)])) ∧ w.grownBy w2 v.ownBlock := by
  obtain ⟨i0, hi, hz0, hz1, hz2⟩ := info_parts Tryz.infoWin
  have hw : IntKind.i64.wrap (T - A) = T - A := by rw [IntKind.wrap_i64]; omega
  have o0 := cell_of_blk (j := 0) hO rfl
  have HO := Lib.hid hO
  have HAb := Lib.hid hAb
  have HOWN := Lib.hid hown
  have hqw : qa < w.heap.size := by omega
  have hqw2 : qo < w.heap.size := by omega
  clear hO hAb hown
  go_enter Tryz.func50, Tryz.ntmps50
  go_wp2_with (at_builtin; refine wpList_append_own _ rfl _ _ 48 rfl B 47 i0 _ 2 16 Tryz.underlying48 hi hz0 hz1 hz2 rfl (by decide) _ _ _ rfl (HOWN.out.alloc _) ⟨w.heap.size, 0, none⟩ 1 1 (winC (A, T)) rfl rfl ?c1 ?c2 ?c3 ?c4 ?c5 ?_)
  case c1 => first | (intro j u h; simpa [winC] using h) | exact cells_add (Cells.new _ _ _ _ _ rfl)
  case c2 => exact winC_one _
  case c3 => unfold maxLen; omega
  case c4 => omega
  case c5 => first | omega | (simp; omega)
  intro v' w2 hown2 hgr2 _
  obtain ⟨Ao, co, rfl⟩ := own_slice hown2
  have hg2 := grown_of_alloc hgr2
  have hb2 := hg2.block qo hqw2 (fun e => by have := (HOWN.out.lt qo e.symm).1; omega)
  have hb3 := hg2.block qa hqw (fun e => by have := (HOWN.out.lt qa e.symm).1; omega)
  rw [HO.out] at hb2
  rw [HAb.out] at hb3
  have p0 := cell_of_blk (j := 0) hb2 rfl
  have p1 := cell_of_blk (j := 0) hb3 rfl
  have f0 : w2.frozen? ⟨qo, 0, none⟩ = false := by simp [World.frozen?, hb2]
  have f1 : w2.frozen? ⟨qa, 0, none⟩ = false := by simp [World.frozen?, hb3]
  have HO2 := Lib.hid hown2
  have HG2 := Lib.hid hg2
  clear hown2 hgr2 hg2 hb2 hb3
  go_wp2_with (fail)
  go_end0
  refine ⟨_, w2, rfl, rfl, ?_, HG2.out⟩
  rw [wCells_snoc]
  exact HO2.out

/-- What a step of Gaps leaves behind. -/
structure Stepped (w w' : World) (qa qo B : Nat) (T : Int) (ws : List (Int × Int)) (v' : Value) : Prop where
  at_ : w'.heap[qa]? = some (.cells #[.int .i64 T] 3)
  out : w'.heap[qo]? = some (.cells #[v'] 48)
  own : w'.ownsRow B 47 2 v' ws.length (wCells ws)
  size : w.heap.size ≤ w'.heap.size
  kept : ∀ b, b < B → b ≠ qa → b ≠ qo → w'.heap[b]? = w.heap[b]?
  below : ∀ B0, B0 ≤ qa → B0 ≤ qo → B0 ≤ B → Below B0 w w'
def addW (M A T : Int) (ws : List (Int × Int)) : List (Int × Int) := ws ++ (if M < T - A then [(A, T)] else [])

theorem gapStep_any (w : World) (qa qm qo B m : Nat) (A M T : Int) (v : Value) (ws : List (Int × Int)) (hAb : w.heap[qa]? = some (.cells #[.int .i64 A] 3)) (hM : w.cell? ⟨qm, 0, none⟩ = some (.int .i64 M)) (hO : w.heap[qo]? = some (.cells #[v] 48))
    (hown : w.ownsRow B 47 2 v m (wCells ws)) (hwl : ws.length = m) (hm : m ≤ 1000000) (hqa : qa < B) (hqo : qo < B) (hne : qa ≠ qo) (hB : B ≤ w.heap.size)
    (h1 : 0 ≤ A) (h2 : A ≤ 1000000000000) (h3 : 0 ≤ T) (h4 : T ≤ 1000000000000) :
    Calls Tryz.prog 50 #[.int .i64 T, .pointer (some ⟨qa, 0, none⟩), .pointer (some ⟨qm, 0, none⟩), .pointer (some ⟨qo, 0, none⟩)] w fun e w' => e = .returned (.tuple #[]) ∧ ∃ v', Stepped w w' qa qo B T (addW M A T ws) v' := by
  have hA := cell_of_blk (j := 0) hAb rfl
  by_cases hn : M < T - A
  · have hadd : addW M A T ws = ws ++ [(A, T)] := by unfold addW; rw [if_pos hn]
    refine (gapStep_yes w qa qm qo B m A M T v ws hA hM hO hAb hown hm hqa hqo hne hB h1 h2 h3 h4 hn).mono ?_
    rintro e w' ⟨v', w2, rfl, rfl, ho, hg⟩
    have hfar : ∀ b, b < B → w2.heap[b]? = w.heap[b]? := fun b hb => hg.block b (by omega) (fun e => by have := (hown.lt b e.symm).1; omega)
    have ga : ∀ b x, ((w2.setCell ⟨b, 0, none⟩ x)).heap.size = w2.heap.size := fun b x => by simp [World.setCell]
    refine ⟨rfl, v', ?_, ?_, ?_, ?_, ?_, ?_⟩
    · simp [World.setCell, Array.getElem?_modify, hfar qa hqa, hAb, hne.symm]
    · simp [World.setCell, Array.getElem?_modify, hfar qo hqo, hO, hne]
    · rw [hadd, show (ws ++ [(A, T)]).length = m + 1 by simp [hwl]]
      exact own_far (q := qa) (own_far (q := qo) ho (grown_set (g := qo) (q := ⟨qo, 0, none⟩) (grown_refl w2 _) (.inl rfl) v') (fun g hg' => by have := (ho.lt g hg').1; omega)) (grown_set (g := qa) (q := ⟨qa, 0, none⟩) (grown_refl _ _) (.inl rfl) _) (fun g hg' => by have := (ho.lt g hg').1; omega)
    · have := hg.size; simpa [World.setCell] using this
    · intro b hb hba hbo
      rw [Below.heap_setCell _ ⟨qa, 0, none⟩ _ b (by show b ≠ qa; omega), Below.heap_setCell _ ⟨qo, 0, none⟩ _ b (by show b ≠ qo; omega)]
      exact hfar b hb
    · intro B0 b1 b2 b3
      exact ((((Below.refl B0 w).grown hg (by omega) (fun g hg' => by have := (hown.lt g hg').1; omega))).setCell (by show B0 ≤ qo; omega) _).setCell (by show B0 ≤ qa; omega) _
  · have hadd : addW M A T ws = ws := by unfold addW; rw [if_neg hn, List.append_nil]
    refine (gapStep_no w qa qm qo A M T hA hM (by simp [World.frozen?, hAb]) h1 h2 h3 h4 hn).mono ?_
    rintro e w' ⟨rfl, rfl⟩
    refine ⟨rfl, v, ?_, ?_, ?_, ?_, ?_, ?_⟩
    · simp [World.setCell, Array.getElem?_modify, hAb]
    · simp [World.setCell, Array.getElem?_modify, hO, hne]
    · rw [hadd, hwl]
      exact own_far (q := qa) hown (grown_set (g := qa) (q := ⟨qa, 0, none⟩) (grown_refl _ _) (.inl rfl) _) (fun g hg' => by have := (hown.lt g hg').1; omega)
    · simp [World.setCell]
    · intro b hb hba hbo
      rw [Below.heap_setCell _ ⟨qa, 0, none⟩ _ b (by show b ≠ qa; omega)]
    · intro B0 b1 b2 b3
      exact (Below.refl B0 w).setCell (by show B0 ≤ qa; omega) _
end Go.Proofs.YtaglkaphlekmoaaGreatDoor
