/- slices.SortFunc of spells, however many: what the row holds is the same in another order. Printed by gen_SpS.py. -/
import Derived.Test.YtlfphndnkgoinaaGreatDoorWhA
import Derived.Test.YtlfphndnkgoinaaGreatDoorOwK
import Derived.Test.YtlfphndnkgoinaaGreatDoorLaySpl
import Derived.Shelf.SlSortCmp.Xorshift
import Derived.Shelf.SlSortCmp.WholeK
namespace Go.Proofs.YtlfphndnkgoinaaGreatDoor
open Go.RowKit Go.Shelf Go.Sort

def cfS (k : Nat) (x y : Nat × Int × Int) : Int := orI [cmpI x.2.1 y.2.1, cbU (teT x.1) (teT y.1), cbU (rkT k) (rkT k)]
theorem rk_self (k : Nat) : cbU (rkT k) (rkT k) = 0 := by
  match k with
  | 0 => rfl
  | n + 1 => rfl
theorem cfS_lt (k : Nat) (x y : Nat × Int × Int) : cfS k x y < 0 ↔ (x.2.1 < y.2.1 ∨ x.2.1 = y.2.1 ∧ teO x.1 < teO y.1) := by
  unfold cfS
  rw [te_cmpM, rk_self]
  simp only [orI, cmpI]
  repeat' split
  all_goals omega
theorem swoS (k : Nat) : SWO (ltOf (cfS k)) where
  irrefl x := by
    unfold ltOf
    have := cfS_lt k x x
    simp
    omega
  trans x y z h1 h2 := by
    unfold ltOf at *
    have e1 := cfS_lt k x y
    have e2 := cfS_lt k y z
    have e3 := cfS_lt k x z
    simp at *
    omega
  ntrans x y z h1 h2 := by
    unfold ltOf at *
    have e1 := cfS_lt k x y
    have e2 := cfS_lt k y z
    have e3 := cfS_lt k x z
    simp at *
    omega
set_option maxRecDepth 100000 in
set_option maxHeartbeats 2000000 in
theorem orderP_grow (k : Nat) (x y : Nat × Int × Int) (w : World) : Calls Tryz.prog 53 #[.agg (slC k x).toArray, .agg (slC k y).toArray] w fun e w' => e = .returned (.int .i64 (cfS k x y)) ∧ ∃ q os', w' = grow (w.drewN q) os' := by
  have HC := Lib.hid (fun V => compare_any x.2.1 y.2.1 V)
  have HD := Lib.hid (fun V => scompare_any (teT x.1) (teT y.1) V)
  have HR := Lib.hid (fun V => scompare_any (rkT k) (rkT k) V)
  show Calls Tryz.prog 53 #[.agg #[.string (teT x.1), .string (rkT k), .int .i64 x.2.1, .int .i64 x.2.2], .agg #[.string (teT y.1), .string (rkT k), .int .i64 y.2.1, .int .i64 y.2.2]] w _
  unfold cfS cbU
  generalize Lib.compareBytes (teT x.1).data.toList (teT y.1).data.toList = r1 at HD ⊢
  generalize Lib.compareBytes (rkT k).data.toList (rkT k).data.toList = r2 at HR ⊢
  generalize cmpI x.2.1 y.2.1 = r0 at HC ⊢
  obtain ⟨xd, x2, x3⟩ := x
  obtain ⟨yd, y2, y3⟩ := y
  simp only at HC HD HR ⊢
  generalize teT xd = x0 at HD ⊢
  generalize teT yd = y0 at HD ⊢
  generalize rkT k = x1 at HR ⊢
  go_enter Tryz.func53, Tryz.ntmps53
  go_wp2_with (fail)
  generalize hW : ((w.alloc (.cells #[.string x0, .string x1, .int .i64 x2, .int .i64 x3] 56)).alloc (.cells #[.string y0, .string x1, .int .i64 y2, .int .i64 y3] 56)) = W
  have hG : W = grow (w.drewN 0) #[.cells #[.string x0, .string x1, .int .i64 x2, .int .i64 x3] 56, .cells #[.string y0, .string x1, .int .i64 y2, .int .i64 y3] 56] := by rw [← hW, alloc_eq_grow, alloc_eq_grow, grow_grow]; rfl
  have hx : W.heap[w.heap.size]? = some (.cells #[.string x0, .string x1, .int .i64 x2, .int .i64 x3] 56) := by
    rw [← hW, Below.heap_alloc _ _ _ (by simp)]; exact heap_new w _
  have hy : W.heap[w.heap.size + 1]? = some (.cells #[.string y0, .string x1, .int .i64 y2, .int .i64 y3] 56) := by
    rw [← hW]; have := heap_new (w.alloc (.cells #[.string x0, .string x1, .int .i64 x2, .int .i64 x3] 56)) (.cells #[.string y0, .string x1, .int .i64 y2, .int .i64 y3] 56); simpa using this
  have p0 : W.cell? ⟨w.heap.size, 0, none⟩ = some (.string x0) := cell_of_blk hx rfl
  have p1 : W.cell? ⟨w.heap.size, 1, none⟩ = some (.string x1) := cell_of_blk hx rfl
  have p2 : W.cell? ⟨w.heap.size, 2, none⟩ = some (.int .i64 x2) := cell_of_blk hx rfl
  have q0 : W.cell? ⟨w.heap.size + 1, 0, none⟩ = some (.string y0) := cell_of_blk hy rfl
  have q1 : W.cell? ⟨w.heap.size + 1, 1, none⟩ = some (.string x1) := cell_of_blk hy rfl
  have q2 : W.cell? ⟨w.heap.size + 1, 2, none⟩ = some (.int .i64 y2) := cell_of_blk hy rfl
  have HG := Lib.hid hG
  clear hW hx hy hG
  refine wp_region_still_tail 15 (by kernel_rfl) (by kernel_rfl) ?_
  simp only [List.take_succ_cons, List.take_zero, List.drop_succ_cons, List.drop_zero]
  change wpStill _ _ W.drew _ _ _
  repeat still_step
  still_call (flip_ (HC.out _))
  repeat still_step
  still_call (flip_ (HD.out _))
  repeat still_step
  still_call (flip_ (HR.out _))
  try refine wpStill_nil ?_
  have hsz' : W.drew.heap.size = W.heap.size := rfl
  go_wp2_with (fail)
  have hcs : Cells (W.alloc (.cells #[.int .i64 r0, .int .i64 r1, .int .i64 r2] 3)).drew W.heap.size 0 ([r0, r1, r2].map (Value.int .i64)) := Cells.new W #[.int .i64 r0, .int .i64 r1, .int .i64 r2] 3 (0, 0) _ rfl
  refine (or_any [r0, r1, r2] 3 3 W.heap.size _ rfl (by omega) hcs).mono ?_
  rintro e w' ⟨rfl, rfl⟩
  go_wp2_with (fail)
  go_ret
  refine ⟨rfl, 1, #[.cells #[.string x0, .string x1, .int .i64 x2, .int .i64 x3] 56, .cells #[.string y0, .string x1, .int .i64 y2, .int .i64 y3] 56] ++ #[.cells #[.int .i64 r0, .int .i64 r1, .int .i64 r2] 3], ?_⟩
  rw [HG.out, alloc_eq_grow, grow_grow]
  rfl
theorem bitsLenP (n : Nat) (W : World) (h : n ≤ 12) : Calls Tryz.prog (laySpl_ren.f 15) #[.int .u64 n] W fun e w' => (∃ l : Int, e = .returned (.int .i64 l)) ∧ w' = W :=
  (Any.bits_Len (SlLaysF0.n15.bits (P := Tryz.prog) (ρ := laySpl_ren) { laySpl with }) n W (by omega) (by omega)).mono fun _ _ ⟨he, hw⟩ => ⟨⟨_, he⟩, hw⟩
theorem insP_none (p : Option Addr) (cap : Nat) (fv : Value) (w : World) : Calls Tryz.prog 130 #[.slice p 0 cap, .int .i64 0, .int .i64 0, fv] w fun e w' => e = .returned (.tuple #[]) ∧ w' = w := by
  go_enter Tryz.func130, Tryz.ntmps130
  go_wp2_with (fail)
  refine wp_loop_rounds 1 ?_
  rw [rounds_succ]
  go_wp2_with (fail)
  go_end0
  exact ⟨rfl, rfl⟩
theorem pdqP_none (p : Option Addr) (cap : Nat) (lim : Int) (fv : Value) (w : World) : Calls Tryz.prog 92 #[.slice p 0 cap, .int .i64 0, .int .i64 0, .int .i64 lim, fv] w fun e w' => e = .returned (.tuple #[]) ∧ w' = w := by
  go_enter Tryz.func92, Tryz.ntmps92
  go_wp2_with (fail)
  refine wp_loop_rounds 1 ?_
  rw [rounds_succ]
  go_wp2_with (go_at_call 130; refine (insP_none _ _ _ _).mono ?_; rintro e w' ⟨rfl, rfl⟩)
  (try simp only [Exit.inBlock, Exit.then]); refine bodyPost_ret (results_none rfl _ _ _) rfl ?_
  exact ⟨rfl, rfl⟩
theorem sortP_none (p : Option Addr) (cap : Nat) (fv : Value) (w : World) : Calls Tryz.prog 52 #[.slice p 0 cap, fv] w fun e w' => e = .returned (.tuple #[]) ∧ w' = w := by
  have hl := fun W => bitsLenP 0 W (by omega)
  change ∀ W, Calls Tryz.prog 93 _ W _ at hl
  go_enter Tryz.func52, Tryz.ntmps52
  go_wp2_with (first | (go_at_call 93; refine (hl _).mono ?_; rintro e w' ⟨⟨l, rfl⟩, rfl⟩) | (go_at_call 92; refine (pdqP_none _ _ _ _ _).mono ?_; rintro e w' ⟨rfl, rfl⟩))
  go_end0
  exact ⟨rfl, rfl⟩
def SortPPost (k : Nat) (l : List (Nat × Int × Int)) (n base : Nat) (v : Value) (w : World) (e : Ending) (w' : World) : Prop :=
  e = .returned (.tuple #[]) ∧ ∃ m : List (Nat × Int × Int), m.Perm l ∧ m.length = n ∧ w'.ownsRow base 56 4 v n (recs (slC k) m) ∧ w.grownBy w' v.ownBlock
theorem sortP_any (k : Nat) (l : List (Nat × Int × Int)) (n c base : Nat) (A : Option Addr) (w : World) (hn : l.length = n) (h12 : n ≤ 2000000000000) (ho : w.ownsRow base 56 4 (.slice A n c) n (recs (slC k) l)) :
    Calls Tryz.prog 52 #[.slice A n c, .func (.func 53) #[] #[]] w fun e w' => SortPPost k l n base (.slice A n c) w e w' := by
  rcases own_two ho with ⟨rfl, rfl, rfl⟩ | ⟨b, rfl, hb, hlt⟩
  · refine (sortP_none none 0 _ w).mono ?_
    rintro e w' ⟨rfl, rfl⟩
    have hl := List.eq_nil_of_length_eq_zero hn
    subst hl
    exact ⟨rfl, [], List.Perm.refl _, rfl, ho, grown_refl _ _⟩
  · have eg : ∀ args w, (callFunc 53 args).run Tryz.prog w = .ok (.enter 53 args) w := enters_of Tryz.func53 (by kernel_rfl) rfl
    have hcmp : CmpLays Tryz.prog 53 #[] (slC k) 4 (cfS k) b 0 l.toArray.size w := fun m os dk _ x y => orderP_grow k x y _
    have h := AnyQ.slices_SortFunc laySpl 4 Tryz.isAgg56 Tryz.sizeOf56 (slC k) (slC_len k) (slC_one k) (cfS k) (swoS k) 53 #[] b 0 c l.toArray w eg hcmp (holdsK_of_own (slC_len k) ho hn) hlt (by simp [hn]; omega)
    have hsz : l.toArray.size = n := by simpa using hn
    rw [hsz] at h
    refine h.mono ?_
    rintro e w' ⟨rfl, d', q, os, hp, hs, rfl⟩
    rw [← hsz] at hp hs
    obtain ⟨h1, h2, h3⟩ := sorted_list hp hs
    obtain ⟨m, rfl⟩ : ∃ m : List (Nat × Int × Int), d' = m.toArray := ⟨d'.toList, by simp⟩
    exact ⟨rfl, m, by simpa using h1, by simpa [hn] using h2, own_sortedK (slC_len k) ho (by simpa [hn] using h2) q os, grown_sortedK _⟩
end Go.Proofs.YtlfphndnkgoinaaGreatDoor
