/- RightStamp of the stream; byStamp, stampFault by their contracts. -/
import Derived.Test.YtkcpfppjdjkjeaaGreatDoorCeR
import Derived.Test.YtkcpfppjdjkjeaaGreatDoorPrA
import Derived.Test.YtkcpfppjdjkjeaaGreatDoorQtt
namespace Go.Proofs.YtkcpfppjdjkjeaaGreatDoor
open Go.RowKit

def spV (s : Sp) : Value := .agg #[.int .i64 s.at_, .string (byT s.by_), .int .i64 s.no]
theorem sp_fin {w V : World} {p g k : Nat} {xs : LiA} {a b c : Value} (u0 u1 u2 : Value) (hV : V.heap[g]? = some (.cells #[a, b, c] 39 (0, 0))) (hs : Strm V p xs k) (hg : w.grownBy V (some p)) (hp : p < g) (hw : w.heap.size ≤ g) :
    (((V.setCell ⟨g, 0, none⟩ u0).setCell ⟨g, 1, none⟩ u1).setCell ⟨g, 2, none⟩ u2).heap[g]? = some (.cells #[u0, u1, u2] 39 (0, 0)) ∧
    Strm (((V.setCell ⟨g, 0, none⟩ u0).setCell ⟨g, 1, none⟩ u1).setCell ⟨g, 2, none⟩ u2) p xs k ∧ w.grownBy (((V.setCell ⟨g, 0, none⟩ u0).setCell ⟨g, 1, none⟩ u1).setCell ⟨g, 2, none⟩ u2) (some p) := by
  refine ⟨?_, ?_, ?_⟩
  · simp [World.setCell, Array.getElem?_modify, hV]
  · exact hs.row (grown_set (grown_set (grown_set (grown_refl V (some g)) (q := ⟨g, 0, none⟩) (.inl rfl) _) (q := ⟨g, 1, none⟩) (.inl rfl) _) (q := ⟨g, 2, none⟩) (.inl rfl) _) (fun g' e => by injection e with e; omega)
  · exact grown_set (grown_set (grown_set hg (q := ⟨g, 0, none⟩) (.inr hw) _) (q := ⟨g, 1, none⟩) (.inr hw) _) (q := ⟨g, 2, none⟩) (.inr hw) _
def byPk : List Nat := [1, 1, 2]
theorem byPk_lt (j : Nat) (h : j < 3) : (byPk.map byT).getD j ⟨#[]⟩ = byT (byPk.getD j 0) ∧ byPk.getD j 0 < 3 := by
  have : j = 0 ∨ j = 1 ∨ j = 2 := by omega
  rcases this with h | h | h <;> subst h <;> exact ⟨rfl, by decide⟩
def noPk : List Int := [0, 0, 1]
theorem noPk_range (j : Nat) (h : j < 3) : 0 ≤ noPk.getD j 0 ∧ noPk.getD j 0 ≤ 1 := by
  have : j = 0 ∨ j = 1 ∨ j = 2 := by omega
  rcases this with h | h | h <;> subst h <;> decide
/-- RightStamp of the stream as a function of its list. -/
def rsF (xs : LiA) (k : Nat) : Sp := ⟨(nextN xs k 10 : Int), byPk.getD (nextN xs (k + 1) 3) 0, noPk.getD (nextN xs (k + 2) 3) 0⟩
def RsPost (w : World) (p k : Nat) (xs : LiA) (e : Ending) (w' : World) : Prop :=
  ∃ s : Sp, e = .returned (.agg #[.int .i64 s.at_, .string (byT s.by_), .int .i64 s.no]) ∧ SpOk s ∧ s.at_ ≤ 9 ∧ Strm w' p xs (k + 3) ∧ w.grownBy w' (some p) ∧ s = rsF xs k
set_option maxRecDepth 100000 in
set_option maxHeartbeats 2000000 in
theorem rightStamp_any (w : World) (p k : Nat) (xs : LiA) (hk : k < 900000) (hs : Strm w p xs k) :
    Calls Tryz.prog 20 #[.pointer (some ⟨p, 0, none⟩)] w fun e w' => RsPost w p k xs e w' := by
  have hplt := hs.lt
  have HS := Lib.hid hs
  clear hs
  go_enter Tryz.func20, Tryz.ntmps20
  go_wp2_with (fail)
  have hN := nextN_lt xs k 10 (by omega)
  refine (range_nat _ p k 9 xs (by omega) (by omega) (HS.out.alloc _)).mono ?_
  obtain ⟨a, ea⟩ : ∃ a, a = nextN xs k 10 := ⟨_, rfl⟩
  rw [← ea] at hN ⊢
  have HA := Lib.hid ea
  clear ea
  rintro e w1 ⟨rfl, hs1, hg1⟩
  have hz1 := hg1.size
  simp only [World.size_alloc] at hz1
  have HB1 := Lib.hid ((hg1.block w.heap.size (by simp) (by intro e; injection e with e; omega)).trans (heap_new w (.cells #[.int .i64 0, .string ⟨#[]⟩, .int .i64 0] 39)))
  have HG1 := Lib.hid (grown_of_alloc hg1)
  have HS1 := Lib.hid hs1
  clear hs1 hg1
  go_wp2_with (fail)
  refine (some_any _ p (k + 1) w1.heap.size 3 3 xs (byPk.map byT) (by omega) rfl (by omega) (by omega) (HS1.out.alloc _) (by omega) (Cells.new _ _ _ _ _ rfl)).mono ?_
  obtain ⟨h1, h3⟩ := byPk_lt (nextN xs (k + 1) 3) (nextN_lt _ _ _ (by omega))
  rw [h1]
  obtain ⟨r, er⟩ : ∃ r, r = byPk.getD (nextN xs (k + 1) 3) 0 := ⟨_, rfl⟩
  rw [← er] at h3 ⊢
  have HR := Lib.hid er
  clear er h1
  rintro e w2 ⟨rfl, hs2, hg2⟩
  have hg2' := grown_of_alloc hg2
  have hz2 := hg2'.size
  have HB2 := Lib.hid ((hg2'.block w.heap.size (by omega) (by intro e; injection e with e; omega)).trans HB1.out)
  have HG2 := Lib.hid (grown_trans HG1.out hg2')
  have HS2 := Lib.hid hs2
  clear hs2 hg2 hg2'
  go_wp2_with (fail)
  refine (pick_any _ p (k + 2) w2.heap.size 3 3 xs noPk (by omega) rfl (by omega) (by omega) (HS2.out.alloc _) (by omega) (Cells.new _ _ _ _ _ rfl)).mono ?_
  have hx := noPk_range (nextN xs (k + 2) 3) (nextN_lt _ _ _ (by omega))
  obtain ⟨t, et⟩ : ∃ t, t = noPk.getD (nextN xs (k + 2) 3) 0 := ⟨_, rfl⟩
  rw [← et] at hx ⊢
  have HFN := Lib.hid (show (⟨(a : Int), r, t⟩ : Sp) = rsF xs k from by unfold rsF; rw [← HA.out, ← HR.out, ← et])
  clear et
  rintro e w3 ⟨rfl, hs3, hg3⟩
  have hg3' := grown_of_alloc hg3
  have hz3 := hg3'.size
  have hb3 := (hg3'.block w.heap.size (by omega) (by intro e; injection e with e; omega)).trans HB2.out
  have HFIN := Lib.hid (sp_fin (w := w) (.int .i64 (a : Int)) (.string (byT r)) (.int .i64 t) hb3 hs3 (grown_trans HG2.out hg3') (by omega) (Nat.le_refl _))
  have n0 := cell_of_blk (j := 0) hb3 rfl
  have n1 := cell_of_blk (j := 1) hb3 rfl
  have n2 := cell_of_blk (j := 2) hb3 rfl
  have fr : ∀ j, w3.frozen? ⟨w.heap.size, j, none⟩ = false := by intro j; simp [World.frozen?, hb3]
  have f0 := fr 0
  have f1 := fr 1
  have f2 := fr 2
  have hlt : w.heap.size < w3.heap.size := by omega
  clear hs3 hg3 hg3' hb3 fr HB1 HG1 HS1 HB2 HG2 HS2
  go_wp2_with (fail)
  have r0 := cell_of_blk (j := 0) HFIN.out.1 rfl
  have r1 := cell_of_blk (j := 1) HFIN.out.1 rfl
  have r2 := cell_of_blk (j := 2) HFIN.out.1 rfl
  exact bodyPost_ret (v := .agg #[.int .i64 (a : Int), .string (byT r), .int .i64 t]) (by simp [results, Tryz.results20, go_sem, r0, r1, r2]) rfl ⟨⟨a, r, t⟩, rfl, ⟨by simp only; omega, by simp only; omega, by simp only; omega, hx.1, hx.2⟩, by simp only; omega, HFIN.out.2.1, HFIN.out.2.2, HFN.out⟩
set_option maxRecDepth 100000 in
set_option maxHeartbeats 2000000 in
theorem byStamp_any (s t : Sp) (hs : SpOk s) (ht : SpOk t) (w : World) : Calls Tryz.prog 48 #[.agg #[.int .i64 s.at_, .string (byT s.by_), .int .i64 s.no], .agg #[.int .i64 t.at_, .string (byT t.by_), .int .i64 t.no]] w fun e w' => e = .returned (.int .i64 (cmpI (sk s) (sk t))) ∧ Below w.heap.size w w' := by
  have hor := stamp_or hs ht
  have hb2 := byT_cmp s.by_ t.by_ hs.2.2.1 ht.2.2.1
  obtain ⟨r, er⟩ : ∃ r, r = cmpI (sk s) (sk t) := ⟨_, rfl⟩
  rw [← er] at hor ⊢
  have HOR := Lib.hid hor
  obtain ⟨sa, sb, sn⟩ := s
  obtain ⟨ta, tb, tn⟩ := t
  simp only at hb2 HOR ⊢
  have HC1 := Lib.hid (fun (V : World) => show Calls Tryz.prog 80 #[.int .i64 sa, .int .i64 ta] V fun e w' => e = .returned (.int .i64 (cmpI sa ta)) ∧ Below V.heap.size V w' from (compare_any sa ta V).mono (fun e w' h => ⟨h.1, h.2 ▸ Below.refl _ _⟩))
  have HC2 := Lib.hid (fun (V : World) => show Calls Tryz.prog 44 #[.string (byT sb), .string (byT tb)] V fun e w' => e = .returned (.int .i64 (cmpI (sb : Int) (tb : Int))) ∧ Below V.heap.size V w' from (scompare_any (byT sb) (byT tb) V).mono (fun e w' h => ⟨by rw [← hb2]; exact h.1, h.2 ▸ Below.refl _ _⟩))
  have HC3 := Lib.hid (fun (V : World) => show Calls Tryz.prog 80 #[.int .i64 sn, .int .i64 tn] V fun e w' => e = .returned (.int .i64 (cmpI sn tn)) ∧ Below V.heap.size V w' from (compare_any sn tn V).mono (fun e w' h => ⟨h.1, h.2 ▸ Below.refl _ _⟩))
  obtain ⟨x1, e1⟩ : ∃ x, x = cmpI sa ta := ⟨_, rfl⟩
  obtain ⟨x2, e2⟩ : ∃ x, x = cmpI (sb : Int) (tb : Int) := ⟨_, rfl⟩
  obtain ⟨x3, e3⟩ : ∃ x, x = cmpI sn tn := ⟨_, rfl⟩
  rw [← e1] at HC1 HOR
  rw [← e2] at HC2 HOR
  rw [← e3] at HC3 HOR
  clear e1 e2 e3 er hor hb2 hs ht
  go_enter Tryz.func48, Tryz.ntmps48
  go_upto_region 1 with (fail)
  generalize hW : (w.alloc (.cells #[.int .i64 sa, .string (byT sb), .int .i64 sn] 39)).alloc (.cells #[.int .i64 ta, .string (byT tb), .int .i64 tn] 39) = W
  have hBW : Below w.heap.size w W := by rw [← hW]; exact ((Below.refl _ _).alloc (Nat.le_refl _) _).alloc (by simp) _
  have ha0 : W.heap[w.heap.size]? = some (.cells #[.int .i64 sa, .string (byT sb), .int .i64 sn] 39 (0, 0)) := by rw [← hW, Below.heap_alloc _ _ _ (by simp)]; exact heap_new w _
  have hb0 : W.heap[w.heap.size + 1]? = some (.cells #[.int .i64 ta, .string (byT tb), .int .i64 tn] 39 (0, 0)) := by rw [← hW]; have := heap_new (w.alloc (.cells #[.int .i64 sa, .string (byT sb), .int .i64 sn] 39)) (.cells #[.int .i64 ta, .string (byT tb), .int .i64 tn] 39); simpa using this
  have hWs : w.heap.size + 1 < W.heap.size := by rw [← hW]; simp
  have HBW := Lib.hid hBW
  have HQ := Lib.hid (fun (V : World) (hV : Below W.heap.size W V) => show V.cell? ⟨w.heap.size, 0, none⟩ = some (.int .i64 sa) ∧ V.cell? ⟨w.heap.size, 1, none⟩ = some (.string (byT sb)) ∧ V.cell? ⟨w.heap.size, 2, none⟩ = some (.int .i64 sn) ∧ V.cell? ⟨w.heap.size + 1, 0, none⟩ = some (.int .i64 ta) ∧ V.cell? ⟨w.heap.size + 1, 1, none⟩ = some (.string (byT tb)) ∧ V.cell? ⟨w.heap.size + 1, 2, none⟩ = some (.int .i64 tn) from by
    have h1 := (hV.block w.heap.size (by omega)).trans ha0
    have h2 := (hV.block (w.heap.size + 1) (by omega)).trans hb0
    exact ⟨cell_of_blk (j := 0) h1 rfl, cell_of_blk (j := 1) h1 rfl, cell_of_blk (j := 2) h1 rfl, cell_of_blk (j := 0) h2 rfl, cell_of_blk (j := 1) h2 rfl, cell_of_blk (j := 2) h2 rfl⟩)
  clear hW hBW ha0 hb0
  go_upto_region 1 with (fail)
  refine qRegionTail 15 (by kernel_rfl) (by kernel_rfl) ?_
  simp only [List.take_succ_cons, List.take_zero, List.drop_succ_cons, List.drop_zero]
  repeat (first
    | (go_big_quiet_want; refine qVal (fun V hV => (by (obtain ⟨a0, a1, a2, b0, b1, b2⟩ := HQ.out V hV; go_simp; try rfl))) ?_; simp only [Act.put, List.setIfInBounds_toArray, List.set_cons_zero, List.set_cons_succ]; go_big_quiet_on)
    | (go_big_quiet_want
       refine qCall (fun V hV => (by (obtain ⟨a0, a1, a2, b0, b1, b2⟩ := HQ.out V hV; go_simp; exact ⟨rfl, rfl⟩))) (fun V hV => (by first
         | with_reducible exact (HC1.out V).mono (fun e w' h => ⟨h.1, hV.trans (h.2.mono hV.size)⟩)
         | with_reducible exact (HC2.out V).mono (fun e w' h => ⟨h.1, hV.trans (h.2.mono hV.size)⟩)
         | with_reducible exact (HC3.out V).mono (fun e w' h => ⟨h.1, hV.trans (h.2.mono hV.size)⟩))) ?_
       simp only [Act.put, List.setIfInBounds_toArray, List.set_cons_zero, List.set_cons_succ]; go_big_quiet_on)
    | go_big_quiet_skip)
  refine wpQuiet_nil ?_
  intro w1 hb1
  have HB1 := Lib.hid hb1
  clear hb1
  go_wp2_with (go_at_call 79; refine (or_any [x1, x2, x3] 3 3 _ _ rfl (by omega) (Cells.new _ _ _ _ _ rfl)).mono ?_; rw [HOR.out]; rintro e w' ⟨rfl, rfl⟩)
  go_ret
  exact ⟨rfl, HBW.out.trans ((HB1.out.alloc HB1.out.size _).mono HBW.out.size)⟩
set_option maxRecDepth 100000 in
theorem stampFault_any (s : Sp) (hs : SpOk s) (w : World) : Calls Tryz.prog 46 #[.agg #[.int .i64 s.at_, .string (byT s.by_), .int .i64 s.no]] w fun e w' => e = .returned (.int .i64 0) ∧ Below w.heap.size w w' := by
  obtain ⟨h1, h2, h3, h4, h5⟩ := hs
  have hk := byT_key s.by_
  go_enter Tryz.func46, Tryz.ntmps46
  go_wp2_with (first
    | (go_at_call 77; refine (moment_yes _ _ h1 (by omega)).mono ?_; rintro e w' ⟨rfl, rfl⟩)
    | (go_at_call 78; refine (key_yes _ _ hk).mono ?_; rintro e w' ⟨rfl, rfl⟩)
    | (go_at_call 33; refine (out_no _ _ _ _ h4 (by omega)).mono ?_; rintro e w' ⟨rfl, rfl⟩))
  go_ret
  exact ⟨rfl, (Below.refl _ _).alloc (Nat.le_refl _) _⟩
end Go.Proofs.YtkcpfppjdjkjeaaGreatDoor
