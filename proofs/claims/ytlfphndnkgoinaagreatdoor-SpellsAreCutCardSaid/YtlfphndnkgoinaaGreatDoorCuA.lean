/- rule.cut by its contract. -/
import Derived.Test.YtlfphndnkgoinaaGreatDoorWhA
import Derived.BigRegion
namespace Go.Proofs.YtlfphndnkgoinaaGreatDoor
open Go.RowKit

/-- Spells cut to a window. -/
def cuL (f t : Int) : List (Nat × Int × Int) → List (Nat × Int × Int)
  | [] => []
  | x :: L => if max x.2.1 f < min x.2.2 t then (x.1, max x.2.1 f, min x.2.2 t) :: cuL f t L else cuL f t L
theorem cuL_append (f t : Int) (L M : List (Nat × Int × Int)) : cuL f t (L ++ M) = cuL f t L ++ cuL f t M := by
  induction L with
  | nil => rfl
  | cons x L ih =>
    simp only [List.cons_append, cuL]
    split <;> simp [ih]
theorem cuL_snoc (f t : Int) (L : List (Nat × Int × Int)) (x : Nat × Int × Int) : cuL f t (L ++ [x]) = if max x.2.1 f < min x.2.2 t then cuL f t L ++ [(x.1, max x.2.1 f, min x.2.2 t)] else cuL f t L := by
  rw [cuL_append]
  simp only [cuL]
  split <;> simp
theorem cuL_len (f t : Int) (L : List (Nat × Int × Int)) : (cuL f t L).length ≤ L.length := by
  induction L with
  | nil => exact Nat.le_refl _
  | cons x L ih =>
    simp only [cuL]
    split
    · simpa using ih
    · exact Nat.le_trans ih (by simp)
def CuPost (w : World) (k : Nat) (f t : Int) (L : List (Nat × Int × Int)) (e : Ending) (w' : World) : Prop :=
  ∃ A n c, e = .returned (.slice A n c) ∧ n = (cuL f t L).length ∧ w'.ownsRow w.heap.size 56 4 (.slice A n c) n (recs (slC k) (cuL f t L)) ∧ Below w.heap.size w w'
set_option maxRecDepth 100000 in
set_option maxHeartbeats 4000000 in
theorem cut_any (k : Nat) (f t : Int) (L : List (Nat × Int × Int)) (n c : Nat) (A : Option Addr) (w : World) (hn : L.length = n) (hn2 : n ≤ 800000000000) (hr : Row w w.heap.size A (recs (slC k) L)) :
    Calls Tryz.prog 50 #[.slice A n c, .agg #[.int .i64 f, .int .i64 t]] w fun e w' => CuPost w k f t L e w' := by
  obtain ⟨i1, hi1, hy0, hy1, hy2⟩ := info_parts Tryz.infoSpl
  have HR := Lib.hid hr
  have HN := Lib.hid hn
  clear hr hn
  go_enter Tryz.func50, Tryz.ntmps50
  go_upto_region 1 with (fail)
  obtain ⟨w1, e1⟩ : ∃ V : World, V = w.alloc (.cells #[.int .i64 f, .int .i64 t] 48) := ⟨_, rfl⟩
  obtain ⟨b, eb⟩ : ∃ b, b = w.heap.size := ⟨_, rfl⟩
  have hb1 : Below w.heap.size w w1 := by rw [e1]; exact (Below.refl _ _).alloc (Nat.le_refl _) _
  have hg1 : w1.heap[b]? = some (.cells #[.int .i64 f, .int .i64 t] 48 (0, 0)) := by rw [e1, eb]; exact heap_new w _
  have hlt1 := (Array.getElem?_eq_some_iff.1 hg1).1
  rw [← eb, ← e1]
  have HB1 := Lib.hid hb1
  have HG1 := Lib.hid hg1
  have hs1 := hb1.size
  clear eb e1 hb1 hg1
  go_wp2_with (fail)
  go_loopw [5, 10] (fun out s wr => ∃ (i : Nat) (A1 : Option Addr) (n1 c1 : Nat), i ≤ n ∧ n1 ≤ i ∧ out = .slice A1 n1 c1 ∧ s = .int .i64 (i : Int) ∧ Hid (Below w1.heap.size w1 wr) ∧ Hid (n1 = (cuL f t (L.take i)).length) ∧ Hid (wr.ownsRow w1.heap.size 56 4 (.slice A1 n1 c1) n1 (recs (slC k) (cuL f t (L.take i))))) (fun _ s _ => n - (intOf s).toNat)
  case atStart => exact ⟨0, none, 0, 0, by omega, by omega, rfl, rfl, Lib.hid (Below.refl _ _), Lib.hid rfl, Lib.hid (World.ownsRow_nil _ _ _ _)⟩
  case round =>
    obtain ⟨i, A1, n1, c1, hin, hn1, rfl, rfl, HB, HN1, HO⟩ := hrel
    have hbs := HB.out.size
    by_cases hlt : i < n
    · have hltI : (i : Int) < n := by omega
      obtain ⟨x, hx⟩ : ∃ x, L[i]? = some x := ⟨_, List.getElem?_eq_getElem (by have := HN.out; omega)⟩
      obtain ⟨a, o, rfl, ha, hC⟩ := (HR.out.below (below_step HB1.out HB.out)).posR (slC_len k) (by omega) (by have := HN.out; omega)
      have c0 : wr.cell? ⟨a, o + i * 4, none⟩ = some (.string (teT x.1)) := rec_cell (slC_len k) hC i x hx 0 _ rfl
      have c1' := rec_cell (slC_len k) hC i x hx 1 _ rfl
      have c2 := rec_cell (slC_len k) hC i x hx 2 _ rfl
      have c3 := rec_cell (slC_len k) hC i x hx 3 _ rfl
      have ha' : a < wr.heap.size := by omega
      have HTK := Lib.hid (show cuL f t (L.take (i + 1)) = if max x.2.1 f < min x.2.2 t then cuL f t (L.take i) ++ [(x.1, max x.2.1 f, min x.2.2 t)] else cuL f t (L.take i) from by rw [List.take_add_one, hx]; exact cuL_snoc f t _ x)
      clear hx hC
      go_upto_region 5 with (fail)
      obtain ⟨g, eg⟩ : ∃ g, g = wr.heap.size := ⟨_, rfl⟩
      obtain ⟨w5, e5⟩ : ∃ w5, w5 = wr.alloc (.cells #[.string (teT x.1), .string (rkT k), .int .i64 x.2.1, .int .i64 x.2.2] 56) := ⟨_, rfl⟩
      rw [← eg, ← e5]
      have hb5 : Below wr.heap.size wr w5 := by rw [e5]; exact (Below.refl _ _).alloc (Nat.le_refl _) _
      have hg5 : w5.heap[g]? = some (.cells #[.string (teT x.1), .string (rkT k), .int .i64 x.2.1, .int .i64 x.2.2] 56 (0, 0)) := by rw [e5, eg]; exact heap_new wr _
      have HB5 := Lib.hid (HB.out.trans (hb5.mono hbs))
      have HO5 := Lib.hid (own_keptB HO.out fun b hb => hb5.block b (HO.out.lt b hb).2)
      have hlt5 := (Array.getElem?_eq_some_iff.1 hg5).1
      have hbs5 := HB5.out.size
      have q2 : w5.cell? ⟨g, 2, none⟩ = some (.int .i64 x.2.1) := cell_of_blk (j := 2) hg5 rfl
      have q3 : w5.cell? ⟨g, 3, none⟩ = some (.int .i64 x.2.2) := cell_of_blk (j := 3) hg5 rfl
      have f2 : w5.frozen? ⟨g, 2, none⟩ = false := by simp [World.frozen?, hg5]
      have f3 : w5.frozen? ⟨g, 3, none⟩ = false := by simp [World.frozen?, hg5]
      have hg52 := (HB5.out.block b hlt1).trans HG1.out
      have k0 : w5.cell? ⟨b, 0, none⟩ = some (.int .i64 f) := cell_of_blk (j := 0) hg52 rfl
      have k1 : w5.cell? ⟨b, 1, none⟩ = some (.int .i64 t) := cell_of_blk (j := 1) hg52 rfl
      have hblt5 : b < w5.heap.size := by omega
      have HG5 := Lib.hid hg5
      have hwk : IntKind.i64.wrap ((i : Int) + 1) = ((i + 1 : Nat) : Int) := by rw [IntKind.wrap_i64]; omega
      have hog : ∀ y, (Value.slice A1 n1 c1).ownBlock = some y → y ≠ g := fun y hy => by have := (HO.out.lt y hy).2; omega
      have hg1g : w1.heap.size ≤ g := by omega
      clear eg e5 hb5 hg5 hg52 c1' c2 c3 c0 HO
      go_region
      obtain ⟨ca, eca⟩ : ∃ z, z = max x.2.1 f := ⟨_, rfl⟩
      obtain ⟨cb, ecb⟩ : ∃ z, z = min x.2.2 t := ⟨_, rfl⟩
      rw [← eca, ← ecb]
      rw [← eca, ← ecb] at HTK
      clear eca ecb
      obtain ⟨w6, e6⟩ : ∃ V : World, V = ((w5.setCell ⟨g, 2, none⟩ (.int .i64 ca)).setCell ⟨g, 3, none⟩ (.int .i64 cb)).drew := ⟨_, rfl⟩
      rw [← e6]
      have h1 := heap_setCell_blk (j := 2) (.int .i64 ca) HG5.out
      have h2 := heap_setCell_blk (j := 3) (.int .i64 cb) h1
      have hs6 : w6.heap.size = w5.heap.size := by rw [e6]; simp [World.setCell, World.drew]
      have hset : ∀ y, y ≠ g → w6.heap[y]? = w5.heap[y]? := fun y hy => by
        rw [e6]
        exact (Below.heap_setCell _ _ _ _ hy).trans (Below.heap_setCell _ _ _ _ hy)
      have HG6 := Lib.hid (show w6.heap[g]? = some (.cells #[.string (teT x.1), .string (rkT k), .int .i64 ca, .int .i64 cb] 56 (0, 0)) from by rw [e6]; exact h2)
      have HO6 := Lib.hid (own_keptB HO5.out fun y hy => hset y (hog y hy))
      have HB6 := Lib.hid (show Below w1.heap.size w1 w6 from ⟨by rw [e6]; exact HB5.out.os, by rw [e6]; exact HB5.out.tape, by rw [e6]; exact HB5.out.output, by rw [hs6]; exact HB5.out.size, fun y hy => (hset y (by omega)).trans (HB5.out.block y hy)⟩)
      have hlt6 : g < w6.heap.size := by omega
      have hbs6 := HB6.out.size
      clear hs6 e6 h1 h2 hset hog q2 q3 f2 f3 k0 k1 HG5 HO5 HB5
      have q0 : w6.cell? ⟨g, 0, none⟩ = some (.string (teT x.1)) := cell_of_blk (j := 0) HG6.out rfl
      have q1 : w6.cell? ⟨g, 1, none⟩ = some (.string (rkT k)) := cell_of_blk (j := 1) HG6.out rfl
      have q2 : w6.cell? ⟨g, 2, none⟩ = some (.int .i64 ca) := cell_of_blk (j := 2) HG6.out rfl
      have q3 : w6.cell? ⟨g, 3, none⟩ = some (.int .i64 cb) := cell_of_blk (j := 3) HG6.out rfl
      by_cases hab : ca < cb
      case neg =>
        have HTN := Lib.hid (show cuL f t (L.take (i + 1)) = cuL f t (L.take i) from by rw [HTK.out, if_neg hab])
        go_wp2_with (fail)
        go_roundw
        case rel => exact ⟨i + 1, A1, n1, c1, by omega, by omega, rfl, by simp, HB6, Lib.hid (by rw [HTN.out]; exact HN1.out), Lib.hid (by rw [HTN.out]; exact HO6.out)⟩
        case measure => simp [intOf]; omega
      have HTN := Lib.hid (show cuL f t (L.take (i + 1)) = cuL f t (L.take i) ++ [(x.1, ca, cb)] from by rw [HTK.out, if_pos hab])
      go_wp2_with (at_builtin; go_loud (refine wpList_append_own2 _ rfl _ _ 52 rfl w1.heap.size 56 i1 _ 4 48 Tryz.underlying52 hi1 hy0 hy1 hy2 rfl (by decide) _ n1 (recs (slC k) (cuL f t (L.take i))) rfl (HO6.out.alloc _) ⟨_, 0, none⟩ 1 1 (slC k (x.1, ca, cb)) rfl rfl ?c1 ?c2 ?c3 ?c4 ?c5 ?_))
      case c1 => exact cells_add (cells_atS (by rfl) (by first | rfl | simp))
      case c2 => exact slC_one _ _
      case c3 => unfold maxLen; omega
      case c4 => omega
      case c5 => simp; omega
      intro v1 w7 ho hg hmv
      obtain ⟨B1, s1, rfl⟩ := own_slice ho
      replace hg := grown_of_alloc hg
      have HO7 := Lib.hid ho
      have HB7 := Lib.hid (HB6.out.grown hg hbs6 (fun y hy => (HO6.out.lt y hy).1))
      clear ho hg hmv
      go_wp2_with (fail)
      go_roundw
      case rel => exact ⟨i + 1, B1, n1 + 1, s1, by omega, by omega, rfl, by simp, HB7, Lib.hid (by rw [HTN.out, List.length_append, ← HN1.out]; rfl), Lib.hid (by rw [HTN.out, recs_snoc]; exact HO7.out)⟩
      case measure => simp [intOf]; omega
    · have hltI : ¬ (i : Int) < n := by omega
      have HTN := Lib.hid (show L.take i = L from List.take_of_length_le (by have := HN.out; omega))
      have HF := Lib.hid (show CuPost w k f t L (.returned (.slice A1 n1 c1)) wr from by
        have h1 := HN1.out
        have h2 := HO.out
        rw [HTN.out] at h1 h2
        exact ⟨A1, n1, c1, rfl, h1, own_mono h2 hs1, below_step HB1.out HB.out⟩)
      go_wp2_with (fail)
      go_ret
      exact HF.out
end Go.Proofs.YtlfphndnkgoinaaGreatDoor
