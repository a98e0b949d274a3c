/- The order by which alarm.Merge sorts; slices.SortFunc of signals by it, however many. -/
import Derived.Test.YtgdnedhcbjonkaaGreatDoorMgD
import Derived.Test.YtgdnedhcbjonkaaGreatDoorGrq
import Derived.Test.YtgdnedhcbjonkaaGreatDoorMgB
import Derived.Test.YtgdnedhcbjonkaaGreatDoorLaySg2
import Derived.Shelf.SlSortCmp.Xorshift
import Derived.Shelf.SlSortCmp.WholeK
namespace Go.Proofs.YtgdnedhcbjonkaaGreatDoor
open Go.RowKit Go.Shelf Go.Sort

theorem GrW.trans {u v w : World} (h : GrW u v) (k : GrW v w) : GrW u w := by
  obtain ⟨q, os, rfl⟩ := h
  obtain ⟨q2, os2, rfl⟩ := k
  exact ⟨q + q2, os ++ os2, by unfold grow World.drewN; simp [Array.append_assoc, Nat.add_assoc]⟩
theorem gRegionTail {P : Program} {id : Nat} {R : Exit → Act → World → Prop} {a : Act} {w : World} {l : List Oper} (n : Nat) (hm : P.follows .mixedOrders = true) (hB : Region.lexTailB .any l.toArray n = true)
    (h : wpQuiet P l.toArray (fun V => GrW w V) (fun a' => ∀ w', GrW w w' → wpList P l.toArray R (l.drop n) a' w') (l.take n) a) : (Code.region id l.toArray true).wp P R a w :=
  region_quiet_tail n hm hB (GrW.refl _).drew h
def alR (i : Nat) : Int := if i = 0 then 0 else if i = 1 then 2 else if i = 2 then 3 else 1
theorem alw_min (i : Nat) : alwT i = alwT (min i 3) ∧ alR i = alR (min i 3) := by
  match i with
  | 0 => exact ⟨rfl, rfl⟩
  | 1 => exact ⟨rfl, rfl⟩
  | 2 => exact ⟨rfl, rfl⟩
  | n + 3 => rw [show min (n + 3) 3 = 3 by omega]; exact ⟨rfl, by unfold alR; simp⟩
theorem alw_cmpM (i j : Nat) : cbT (alwT i) (alwT j) = cmpI (alR i) (alR j) := by
  rw [(alw_min i).1, (alw_min j).1, (alw_min i).2, (alw_min j).2]
  have h1 : min i 3 = 0 ∨ min i 3 = 1 ∨ min i 3 = 2 ∨ min i 3 = 3 := by omega
  have h2 : min j 3 = 0 ∨ min j 3 = 1 ∨ min j 3 = 2 ∨ min j 3 = 3 := by omega
  rcases h1 with h | h | h | h <;> rw [h] <;> rcases h2 with h | h | h | h <;> rw [h] <;> rfl
def cf3 (x y : Sg) : Int := orI [sgCmp x y, cbT (alwT x.b) (alwT y.b), cmpI x.un y.un]
def sgP (x : Sg) : Int := x.at_ * 6 + (min x.d 2 : Nat) * 2 + (min x.r 1 : Nat)
theorem sgP_lt (x y : Sg) : SgL x y ↔ (sgP x < sgP y ∨ sgP x = sgP y ∧ x.kd < y.kd) := by
  unfold SgL sgP
  have h1 : min x.d 2 ≤ 2 := by omega
  have h2 : min y.d 2 ≤ 2 := by omega
  have h3 : min x.r 1 ≤ 1 := by omega
  have h4 : min y.r 1 ≤ 1 := by omega
  generalize min x.d 2 = a at *
  generalize min y.d 2 = b at *
  generalize min x.r 1 = c at *
  generalize min y.r 1 = d at *
  omega
theorem lex3 (s a b c d : Int) : orI [s, cmpI a b, cmpI c d] < 0 ↔ (s < 0 ∨ s = 0 ∧ (a < b ∨ a = b ∧ c < d)) := by
  unfold cmpI orI orI orI
  repeat' split
  all_goals first | omega | (simp only [orI]; omega)
theorem sgCmp_0 (x y : Sg) : sgCmp x y = 0 ↔ (sgP x = sgP y ∧ x.kd = y.kd) := by
  have h1 := sgCmp_lt x y
  have h2 := sgCmp_gt x y
  rw [sgP_lt] at h1 h2
  omega
theorem cf3_lt (x y : Sg) : cf3 x y < 0 ↔ (sgP x < sgP y ∨ sgP x = sgP y ∧ (x.kd < y.kd ∨ x.kd = y.kd ∧ (alR x.b < alR y.b ∨ alR x.b = alR y.b ∧ x.un < y.un))) := by
  unfold cf3
  rw [alw_cmpM, lex3, sgCmp_lt, sgCmp_0, sgP_lt]
  omega
theorem swo3G : SWO (ltOf cf3) where
  irrefl x := by
    have := cf3_lt x x
    unfold ltOf
    simp
    omega
  trans x y z h1 h2 := by
    unfold ltOf at *
    have e1 := cf3_lt x y
    have e2 := cf3_lt y z
    have e3 := cf3_lt x z
    simp at *
    omega
  ntrans x y z h1 h2 := by
    unfold ltOf at *
    have e1 := cf3_lt x y
    have e2 := cf3_lt y z
    have e3 := cf3_lt x z
    simp at *
    omega
def sgVm (x : Sg) : Value := .agg #[.int .i64 x.at_, .int .i64 x.kd, .string (aldT x.d), .string (alrT x.r), .string (alwT x.b), .int .i64 x.un]
def sgOm (x : Sg) : Obj := .cells #[.int .i64 x.at_, .int .i64 x.kd, .string (aldT x.d), .string (alrT x.r), .string (alwT x.b), .int .i64 x.un] 47 (0, 0)
set_option maxRecDepth 100000 in
set_option maxHeartbeats 4000000 in
theorem merge1_gr (x y : Sg) (w : World) : Calls Tryz.prog 46 #[.agg (sgC x).toArray, .agg (sgC y).toArray] w fun e w' => e = .returned (.int .i64 (cf3 x y)) ∧ GrW w w' := by
  show Calls Tryz.prog 46 #[sgVm x, sgVm y] w _
  have HM := Lib.hid (fun V => show Calls Tryz.prog _ #[sgVm x, sgVm y] V fun e w' => e = .returned (.int .i64 (sgCmp x y)) ∧ GrW V w' from byMoment_grow x y V)
  have HS := Lib.hid (fun V => scompare_any (alwT x.b) (alwT y.b) V)
  have HC := Lib.hid (fun V => compare_any x.un y.un V)
  obtain ⟨gx, egx⟩ : ∃ g, g = w.heap.size := ⟨_, rfl⟩
  obtain ⟨gy, egy⟩ : ∃ g, g = w.heap.size + 1 := ⟨_, rfl⟩
  obtain ⟨W, hW⟩ : ∃ W : World, W = (w.alloc (sgOm x)).alloc (sgOm y) := ⟨_, rfl⟩
  have HG := Lib.hid (show GrW w W by rw [hW]; exact ((GrW.refl _).alloc _).alloc _)
  have hbx : W.heap[gx]? = some (sgOm x) := by
    rw [hW, egx, Below.heap_alloc _ _ _ (by simp)]; exact heap_new w _
  have hby : W.heap[gy]? = some (sgOm y) := by
    rw [hW, egy]; have := heap_new (w.alloc (sgOm x)) (sgOm y); simpa using this
  have hl1 := (Array.getElem?_eq_some_iff.1 hbx).1
  have hl2 := (Array.getElem?_eq_some_iff.1 hby).1
  have HQ := Lib.hid (fun (V : World) (hV : GrW W V) => show (V.cell? ⟨gx, 0, none⟩ = some (.int .i64 x.at_) ∧ V.cell? ⟨gx, 1, none⟩ = some (.int .i64 x.kd) ∧ V.cell? ⟨gx, 2, none⟩ = some (.string (aldT x.d)) ∧ V.cell? ⟨gx, 3, none⟩ = some (.string (alrT x.r)) ∧ V.cell? ⟨gx, 4, none⟩ = some (.string (alwT x.b)) ∧ V.cell? ⟨gx, 5, none⟩ = some (.int .i64 x.un)) ∧
      (V.cell? ⟨gy, 0, none⟩ = some (.int .i64 y.at_) ∧ V.cell? ⟨gy, 1, none⟩ = some (.int .i64 y.kd) ∧ V.cell? ⟨gy, 2, none⟩ = some (.string (aldT y.d)) ∧ V.cell? ⟨gy, 3, none⟩ = some (.string (alrT y.r)) ∧ V.cell? ⟨gy, 4, none⟩ = some (.string (alwT y.b)) ∧ V.cell? ⟨gy, 5, none⟩ = some (.int .i64 y.un)) ∧ gx < V.heap.size ∧ gy < V.heap.size from by
    obtain ⟨q, os, rfl⟩ := hV
    have hb := below_grow W q os
    have h1 := (hb.block gx hl1).trans hbx
    have h2 := (hb.block gy hl2).trans hby
    exact ⟨⟨cell_of_blk (j := 0) h1 rfl, cell_of_blk (j := 1) h1 rfl, cell_of_blk (j := 2) h1 rfl, cell_of_blk (j := 3) h1 rfl, cell_of_blk (j := 4) h1 rfl, cell_of_blk (j := 5) h1 rfl⟩,
      ⟨cell_of_blk (j := 0) h2 rfl, cell_of_blk (j := 1) h2 rfl, cell_of_blk (j := 2) h2 rfl, cell_of_blk (j := 3) h2 rfl, cell_of_blk (j := 4) h2 rfl, cell_of_blk (j := 5) h2 rfl⟩, (Array.getElem?_eq_some_iff.1 h1).1, (Array.getElem?_eq_some_iff.1 h2).1⟩)
  unfold cf3
  unfold cbT
  generalize sgCmp x y = r0 at HM ⊢
  generalize Lib.compareBytes (alwT x.b).data.toList (alwT y.b).data.toList = r1 at HS ⊢
  generalize cmpI x.un y.un = r2 at HC ⊢
  unfold sgOm at hW
  unfold sgVm at HM ⊢
  clear hbx hby hl1 hl2
  go_enter Tryz.func46, Tryz.ntmps46
  go_upto_region 1 with (fail)
  rw [← egy, ← egx, ← hW]
  clear hW egx egy
  refine gRegionTail 13 (by kernel_rfl) (by kernel_rfl) ?_
  simp only [List.take_succ_cons, List.take_zero, List.drop_succ_cons, List.drop_zero]
  repeat (first
    | (go_big_quiet_want; refine qVal (fun V hV => (by (obtain ⟨⟨q0, q1, q2, q3, q4, q5⟩, ⟨p0, p1, p2, p3, p4, p5⟩, hl1, hl2⟩ := HQ.out V hV; go_simp; try rfl))) ?_; simp only [Act.put, List.setIfInBounds_toArray, List.set_cons_zero, List.set_cons_succ]; go_big_quiet_on)
    | (go_big_quiet_want
       refine qCall (fun V hV => (by (go_simp; exact ⟨rfl, rfl⟩))) (fun V hV => (by first
         | with_reducible exact (HM.out V).mono (fun e w' h => ⟨h.1, hV.trans h.2⟩)
         | with_reducible exact (HS.out V).mono (fun e w' h => ⟨h.1, by rw [← h.2]; exact hV⟩)
         | with_reducible exact (HC.out V).mono (fun e w' h => ⟨h.1, by rw [← h.2]; exact hV⟩))) ?_
       simp only [Act.put, List.setIfInBounds_toArray, List.set_cons_zero, List.set_cons_succ]; go_big_quiet_on)
    | go_big_quiet_skip)
  refine wpQuiet_nil ?_
  intro V hV
  have HGV := Lib.hid (HG.out.trans hV)
  clear hV HQ HM HS HC HG
  go_wp2_with (fail)
  have hcs : Cells (V.alloc (.cells #[.int .i64 r0, .int .i64 r1, .int .i64 r2] 3)) V.heap.size 0 ([r0, r1, r2].map (Value.int .i64)) := Cells.new V #[.int .i64 r0, .int .i64 r1, .int .i64 r2] 3 (0, 0) _ rfl
  refine (or_any [r0, r1, r2] 3 3 V.heap.size _ rfl (by omega) hcs).mono ?_
  rintro e w' ⟨rfl, rfl⟩
  go_wp2_with (fail)
  go_ret
  exact ⟨rfl, HGV.out.alloc _⟩
theorem bitsLen3 (n : Nat) (W : World) (h : n ≤ 12) : Calls Tryz.prog (laySg2_ren.f 15) #[.int .u64 n] W fun e w' => (∃ l : Int, e = .returned (.int .i64 l)) ∧ w' = W :=
  (Any.bits_Len (SlLaysF0.n15.bits (P := Tryz.prog) (ρ := laySg2_ren) { laySg2 with }) n W (by omega) (by omega)).mono fun _ _ ⟨he, hw⟩ => ⟨⟨_, he⟩, hw⟩
theorem ins3_none (p : Option Addr) (cap : Nat) (fv : Value) (w : World) : Calls Tryz.prog 105 #[.slice p 0 cap, .int .i64 0, .int .i64 0, fv] w fun e w' => e = .returned (.tuple #[]) ∧ w' = w := by
  go_enter Tryz.func105, Tryz.ntmps105
  go_wp2_with (fail)
  refine wp_loop_rounds 1 ?_
  rw [rounds_succ]
  go_wp2_with (fail)
  go_end0
  exact ⟨rfl, rfl⟩
theorem pdq3_none (p : Option Addr) (cap : Nat) (lim : Int) (fv : Value) (w : World) : Calls Tryz.prog 90 #[.slice p 0 cap, .int .i64 0, .int .i64 0, .int .i64 lim, fv] w fun e w' => e = .returned (.tuple #[]) ∧ w' = w := by
  go_enter Tryz.func90, Tryz.ntmps90
  go_wp2_with (fail)
  refine wp_loop_rounds 1 ?_
  rw [rounds_succ]
  go_wp2_with (go_at_call 105; refine (ins3_none _ _ _ _).mono ?_; rintro e w' ⟨rfl, rfl⟩)
  (try simp only [Exit.inBlock, Exit.then]); refine bodyPost_ret (results_none rfl _ _ _) rfl ?_
  exact ⟨rfl, rfl⟩
theorem sort3_none (p : Option Addr) (cap : Nat) (fv : Value) (w : World) : Calls Tryz.prog 45 #[.slice p 0 cap, fv] w fun e w' => e = .returned (.tuple #[]) ∧ w' = w := by
  have hl := fun W => bitsLen3 0 W (by omega)
  change ∀ W, Calls Tryz.prog 91 _ W _ at hl
  go_enter Tryz.func45, Tryz.ntmps45
  go_wp2_with (first | (go_at_call 91; refine (hl _).mono ?_; rintro e w' ⟨⟨l, rfl⟩, rfl⟩) | (go_at_call 90; refine (pdq3_none _ _ _ _ _).mono ?_; rintro e w' ⟨rfl, rfl⟩))
  go_end0
  exact ⟨rfl, rfl⟩
def Sort3Post (l : List Sg) (n base : Nat) (v : Value) (w : World) (e : Ending) (w' : World) : Prop :=
  e = .returned (.tuple #[]) ∧ ∃ m : List Sg, m.Perm l ∧ m.length = n ∧ m.Pairwise (fun x y => ¬ cf3 y x < 0) ∧ w'.ownsRow base 47 6 v n (recs sgC m) ∧ w.grownBy w' v.ownBlock
theorem sort3_any (l : List Sg) (n c base : Nat) (A : Option Addr) (w : World) (hn : l.length = n) (h12 : n ≤ 2000000000000) (ho : w.ownsRow base 47 6 (.slice A n c) n (recs sgC l)) :
    Calls Tryz.prog 45 #[.slice A n c, .func (.func 46) #[] #[]] w fun e w' => Sort3Post l n base (.slice A n c) w e w' := by
  rcases own_two ho with ⟨rfl, rfl, rfl⟩ | ⟨b, rfl, hb, hlt⟩
  · refine (sort3_none none 0 _ w).mono ?_
    rintro e w' ⟨rfl, rfl⟩
    have hl := List.eq_nil_of_length_eq_zero hn
    subst hl
    exact ⟨rfl, [], List.Perm.refl _, rfl, List.Pairwise.nil, ho, grown_refl _ _⟩
  · have eg : ∀ args w, (callFunc 46 args).run Tryz.prog w = .ok (.enter 46 args) w := enters_of Tryz.func46 (by kernel_rfl) rfl
    have hcmp : CmpLays Tryz.prog 46 #[] sgC 6 cf3 b 0 l.toArray.size w := fun m os dk _ x y => merge1_gr x y _
    have h := AnyQ.slices_SortFunc laySg2 6 Tryz.isAgg47 Tryz.sizeOf47 sgC sgC_len sgC_one cf3 swo3G 46 #[] b 0 c l.toArray w eg hcmp (holdsK_of_own sgC_len ho hn) hlt (by simp [hn]; omega)
    have hsz : l.toArray.size = n := by simpa using hn
    rw [hsz] at h
    refine h.mono ?_
    rintro e w' ⟨rfl, d', q, os, hp, hs, rfl⟩
    rw [← hsz] at hp hs
    obtain ⟨h1, h2, h3⟩ := sorted_list hp hs
    obtain ⟨m, rfl⟩ : ∃ m : List Sg, d' = m.toArray := ⟨d'.toList, by simp⟩
    refine ⟨rfl, m, by simpa using h1, by simpa [hn] using h2, ?_, own_sortedK sgC_len ho (by simpa [hn] using h2) q os, grown_sortedK _⟩
    refine List.Pairwise.imp ?_ (by simpa using h3)
    intro x y hxy
    unfold ltOf at hxy
    simpa using hxy
end Go.Proofs.YtgdnedhcbjonkaaGreatDoor
