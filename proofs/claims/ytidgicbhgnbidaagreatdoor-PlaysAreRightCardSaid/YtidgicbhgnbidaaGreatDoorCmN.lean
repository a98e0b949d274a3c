/- The order of those that wait: by wave, by lot, by key; and slices.SortFunc by it. -/
import Derived.Test.YtidgicbhgnbidaaGreatDoorCmK
import Derived.Test.YtidgicbhgnbidaaGreatDoorMgB
import Derived.Test.YtidgicbhgnbidaaGreatDoorOwK
import Derived.Test.YtidgicbhgnbidaaGreatDoorMgD
import Derived.Shelf.SlSortCmp.Xorshift
import Derived.Shelf.SlSortCmp.WholeK
import Derived.Deep.AppendLies
namespace Go.Proofs.YtidgicbhgnbidaaGreatDoor
open Go.RowKit Go.Shelf Go.Sort

/-- What has been drawn and laid since, and nothing else. -/
def Gr (W V : World) : Prop := ∃ q os', V = grow (W.drewN q) os'
theorem Gr.refl (w : World) : Gr w w := ⟨0, #[], by rw [grow_empty]; rfl⟩
theorem Gr.drew {w v : World} (h : Gr w v) : Gr w v.drew := by
  obtain ⟨q, os, rfl⟩ := h
  exact ⟨q + 1, os, rfl⟩
theorem Gr.alloc {w v : World} (h : Gr w v) (o : Obj) : Gr w (v.alloc o) := by
  obtain ⟨q, os, rfl⟩ := h
  exact ⟨q, os ++ #[o], by rw [alloc_eq_grow, grow_grow]⟩
theorem Gr.trans {u v w : World} (h : Gr u v) (k : Gr v w) : Gr u w := by
  obtain ⟨q, os, rfl⟩ := h
  obtain ⟨q2, os2, rfl⟩ := k
  exact ⟨q + q2, os ++ os2, by unfold grow World.drewN; simp [Array.append_assoc, Nat.add_assoc]⟩
theorem Gr.below {w v : World} (h : Gr w v) : Below w.heap.size w v := by
  obtain ⟨q, os, rfl⟩ := h
  exact grow_below w q os
theorem gRegionTail {P : Program} {id : Nat} {R : Exit → Act → World → Prop} {a : Act} {w : World} {l : List Oper} (n : Nat) (hm : P.follows .mixedOrders = true) (hB : Region.lexTailB .any l.toArray n = true)
    (h : wpQuiet P l.toArray (fun V => Gr w V) (fun a' => ∀ w', Gr w w' → wpList P l.toArray R (l.drop n) a' w') (l.take n) a) : (Code.region id l.toArray true).wp P R a w :=
  region_quiet_tail n hm hB (Gr.refl _).drew h
theorem lot_gr (C : Cm) (d g : Nat) (w : World) (hg : w.heap[g]? = some (cmB C)) :
    Calls Tryz.prog 122 #[.pointer (some ⟨g, 0, none⟩), .string (dvT d)] w fun e w' => e = .returned (.int .i64 (lotV C d)) ∧ Gr w w' := by
  unfold lotV
  have c0 := cell_of_blk (j := 0) hg rfl
  have hl := (Array.getElem?_eq_some_iff.1 hg).1
  clear hg
  have HH := Lib.hid (hash_two (ckT C.key) (dvT d) w.heap.size 2 (w.alloc (.cells #[.string (ckT C.key), .string (dvT d)] 9)) (by have := ckT_size2 C.key; omega) (by have := dvT_size2 d; omega) (cell_of_blk (j := 0) (heap_new w _) rfl) (cell_of_blk (j := 1) (heap_new w _) rfl))
  obtain ⟨h, hh⟩ : ∃ h, h = hashV (ckT C.key) (dvT d) := ⟨_, rfl⟩
  rw [← hh] at HH ⊢
  clear hh
  go_enter Tryz.func122, Tryz.ntmps122
  go_wp2_with (fail)
  refine HH.out.mono ?_
  rintro e w' ⟨rfl, rfl⟩
  go_wp2_with (fail)
  go_ret
  exact ⟨rfl, (Gr.refl _).alloc _⟩
def cmpD (C : Cm) (x y : Dv) : Int := orI [cmpI (wvN C x.k) (wvN C y.k), cmpI (lotV C x.k) (lotV C y.k), Lib.compareBytes (dvT x.k).data.toList (dvT y.k).data.toList]
set_option maxRecDepth 100000 in
set_option maxHeartbeats 4000000 in
theorem order_gr (C : Cm) (F : List Dv) (a : StA) (x y : Dv) (g5 : Nat) (w : World) (hF : FlOk F) (hx : x ∈ F) (hy : y ∈ F) (h5 : w.cell? ⟨g5, 0, none⟩ = some (.pointer (some ⟨a.s, 0, none⟩))) (hs0 : w.cell? ⟨a.s, 0, none⟩ = some (.pointer (some ⟨a.c, 0, none⟩)))
    (hs2 : w.cell? ⟨a.s, 2, none⟩ = some (.map (some a.mw))) (hc : w.heap[a.c]? = some (cmB C)) (hw : SmI w a.mw (wvL (wvN C) F)) :
    Calls Tryz.prog 121 #[dvW x, dvW y, .pointer (some ⟨g5, 0, none⟩)] w fun e w' => e = .returned (.int .i64 (cmpD C x y)) ∧ Gr w w' := by
  have hF6 : ∀ d ∈ F, d.k < 6 := fun d hd => (hF.ok d hd).k
  have hix : ∀ d ∈ F, ∃ i, ixF F d.k = some i := fun d hd => by
    obtain ⟨i, hi⟩ := List.getElem?_of_mem hd
    exact ⟨i, ixF_at hF.ord hi⟩
  have HLK := Lib.hid (fun (V : World) (hV : SmI V a.mw (wvL (wvN C) F)) (d : Dv) (hd : d ∈ F) => show (Instr.lookup 163 (.map (some a.mw)) (.string (dvT d.k)) false).run Tryz.prog V = .ok (.int .i64 (wvN C d.k : Int)) V from by
    have h2 := look_sm (P := Tryz.prog) (z := .int .i64 0) Tryz.underlying163 Tryz.underlying9 (by kernel_rfl) (dvT_size d.k) hV
    obtain ⟨i, hi⟩ := hix d hd
    rw [smG_wv hF6 (hF6 d hd), hi] at h2
    exact h2)
  obtain ⟨gx, egx⟩ : ∃ g, g = w.heap.size := ⟨_, rfl⟩
  obtain ⟨gy, egy⟩ : ∃ g, g = w.heap.size + 1 := ⟨_, rfl⟩
  obtain ⟨W, hW⟩ : ∃ W : World, W = (w.alloc (dvB x)).alloc (dvB y) := ⟨_, rfl⟩
  have hG : Gr w W := by rw [hW]; exact ((Gr.refl _).alloc _).alloc _
  have hbx : W.heap[gx]? = some (dvB x) := by
    rw [hW, egx, Below.heap_alloc _ _ _ (by simp)]; exact heap_new w _
  have hby : W.heap[gy]? = some (dvB y) := by
    rw [hW, egy]; have := heap_new (w.alloc (dvB x)) (dvB y); simpa using this
  have hlc := (Array.getElem?_eq_some_iff.1 hc).1
  have hl5 := World.block_lt_of_cell? w _ h5
  have hls := World.block_lt_of_cell? w _ hs0
  simp only at hl5 hls
  have HX := Lib.hid hx
  have HY := Lib.hid hy
  have HV := Lib.hid (fun (V : World) (hV : Gr W V) => show V.heap[a.c]? = some (cmB C) ∧ V.cell? ⟨g5, 0, none⟩ = some (.pointer (some ⟨a.s, 0, none⟩)) ∧ V.cell? ⟨a.s, 0, none⟩ = some (.pointer (some ⟨a.c, 0, none⟩)) ∧ V.cell? ⟨a.s, 2, none⟩ = some (.map (some a.mw)) ∧ V.cell? ⟨gx, 0, none⟩ = some (.string (dvT x.k)) ∧ V.cell? ⟨gy, 0, none⟩ = some (.string (dvT y.k)) ∧
      (Instr.lookup 163 (.map (some a.mw)) (.string (dvT x.k)) false).run Tryz.prog V = .ok (.int .i64 (wvN C x.k : Int)) V ∧ (Instr.lookup 163 (.map (some a.mw)) (.string (dvT y.k)) false).run Tryz.prog V = .ok (.int .i64 (wvN C y.k : Int)) V from by
    have hb := (hG.trans hV).below
    have hb2 := hV.below
    refine ⟨(hb.block a.c hlc).trans hc, (hb.cell (p := ⟨g5, 0, none⟩) hl5).trans h5, (hb.cell (p := ⟨a.s, 0, none⟩) hls).trans hs0, (hb.cell (p := ⟨a.s, 2, none⟩) hls).trans hs2, cell_of_blk (j := 0) ((hb2.block gx (Array.getElem?_eq_some_iff.1 hbx).1).trans hbx) rfl, cell_of_blk (j := 0) ((hb2.block gy (Array.getElem?_eq_some_iff.1 hby).1).trans hby) rfl, HLK.out V (hw.below hb) x HX.out, HLK.out V (hw.below hb) y HY.out⟩)
  have HQ := Lib.hid (fun (V : World) (hV : Gr W V) => (HV.out V hV).2)
  have HC0 := Lib.hid (fun V => compare_any (wvN C x.k : Int) (wvN C y.k : Int) V)
  have HC1 := Lib.hid (fun V => compare_any (lotV C x.k) (lotV C y.k) V)
  have HC2 := Lib.hid (fun V => scompare_any (dvT x.k) (dvT y.k) V)
  have HLX := Lib.hid (fun (V : World) (hV : Gr W V) => lot_gr C x.k a.c V (HV.out V hV).1)
  have HLY := Lib.hid (fun (V : World) (hV : Gr W V) => lot_gr C y.k a.c V (HV.out V hV).1)
  have HG := Lib.hid hG
  unfold cmpD
  generalize cmpI (wvN C x.k : Int) (wvN C y.k : Int) = r0 at HC0 ⊢
  generalize cmpI (lotV C x.k) (lotV C y.k) = r1 at HC1 ⊢
  generalize Lib.compareBytes (dvT x.k).data.toList (dvT y.k).data.toList = r2 at HC2 ⊢
  unfold dvB at hW
  unfold dvW
  clear hF hx hy h5 hs0 hs2 hc hw hF6 hix HLK hG hbx hby hlc hl5 hls HX HY
  go_enter Tryz.func121, Tryz.ntmps121
  go_upto_region 1 with (fail)
  rw [← egy, ← egx, ← hW]
  clear hW egx egy
  refine gRegionTail 35 (by kernel_rfl) (by kernel_rfl) ?_
  simp only [List.take_succ_cons, List.take_zero, List.drop_succ_cons, List.drop_zero]
  repeat (first
    | (go_big_quiet_want; refine qVal (fun V hV => (by (obtain ⟨q0, q1, q2, q3, q4, q5, q6⟩ := HQ.out V hV; go_simp; try rfl))) ?_; simp only [Act.put, List.setIfInBounds_toArray, List.set_cons_zero, List.set_cons_succ]; go_big_quiet_on)
    | (go_big_quiet_want
       refine qCall (fun V hV => (by (obtain ⟨q0, q1, q2, q3, q4, q5, q6⟩ := HQ.out V hV; go_simp; exact ⟨rfl, rfl⟩))) (fun V hV => (by first
         | with_reducible exact (HC0.out V).mono (fun e w' h => ⟨h.1, by rw [← h.2]; exact hV⟩)
         | with_reducible exact (HC1.out V).mono (fun e w' h => ⟨h.1, by rw [← h.2]; exact hV⟩)
         | with_reducible exact (HC2.out V).mono (fun e w' h => ⟨h.1, by rw [← h.2]; exact hV⟩)
         | with_reducible exact (HLX.out V hV).mono (fun e w' h => ⟨h.1, hV.trans h.2⟩)
         | with_reducible exact (HLY.out V hV).mono (fun e w' h => ⟨h.1, hV.trans h.2⟩))) ?_
       simp only [Act.put, List.setIfInBounds_toArray, List.set_cons_zero, List.set_cons_succ]; go_big_quiet_on)
    | go_big_quiet_skip)
  refine wpQuiet_nil ?_
  intro V hV
  have HGV := Lib.hid (HG.out.trans hV)
  clear hV HQ HV HC0 HC1 HC2 HLX HLY HG
  go_wp2_with (fail)
  have hcs : Cells (V.alloc (.cells #[.int .i64 r0, .int .i64 r1, .int .i64 r2] 3)) V.heap.size 0 ([r0, r1, r2].map (Value.int .i64)) := Cells.new V #[.int .i64 r0, .int .i64 r1, .int .i64 r2] 3 (0, 0) _ rfl
  refine (or_any [r0, r1, r2] 3 3 V.heap.size _ rfl (by omega) hcs).mono ?_
  rintro e w' ⟨rfl, rfl⟩
  go_wp2_with (fail)
  go_ret
  exact ⟨rfl, HGV.out.alloc _⟩
theorem cmpI_lt (a b : Int) : cmpI a b < 0 ↔ a < b := by
  unfold cmpI
  repeat' split
  all_goals omega
theorem lexI (a b c d r : Int) : orI [cmpI a b, cmpI c d, r] < 0 ↔ (a < b ∨ a = b ∧ (c < d ∨ c = d ∧ r < 0)) := by
  unfold cmpI orI orI orI
  repeat' split
  all_goals first | omega | (simp only [orI]; omega)
theorem swo3 {α : Type} (cf : α → α → Int) (p q r : α → Int) (h : ∀ x y, cf x y < 0 ↔ (p x < p y ∨ p x = p y ∧ (q x < q y ∨ q x = q y ∧ r x < r y))) : SWO (ltOf cf) where
  irrefl x := by
    have := h x x
    unfold ltOf
    simp
    omega
  trans x y z h1 h2 := by
    unfold ltOf at *
    have e1 := h x y
    have e2 := h y z
    have e3 := h x z
    simp at *
    omega
  ntrans x y z h1 h2 := by
    unfold ltOf at *
    have e1 := h x y
    have e2 := h y z
    have e3 := h x z
    simp at *
    omega
theorem swoD (C : Cm) (F : List Dv) (hF : ∀ d ∈ F, d.k < 6) : SWO (ltOf fun x y : {d : Dv // d ∈ F} => cmpD C x.1 y.1) :=
  swo3 _ (fun x => (wvN C x.1.k : Int)) (fun x => lotV C x.1.k) (fun x => (x.1.k : Int)) fun x y => by
    have h1 := dvT_cmp (hF _ x.2) (hF _ y.2)
    unfold cmpD
    rw [lexI, h1, cmpI_lt]
theorem bitsLenD (n : Nat) (W : World) (h : n ≤ 12) : Calls Tryz.prog (layDv_ren.f 15) #[.int .u64 n] W fun e w' => (∃ l : Int, e = .returned (.int .i64 l)) ∧ w' = W :=
  (Any.bits_Len (SlLaysF0.n15.bits (P := Tryz.prog) (ρ := layDv_ren) { layDv with }) n W (by omega) (by omega)).mono fun _ _ ⟨he, hw⟩ => ⟨⟨_, he⟩, hw⟩
theorem insD_none (p : Option Addr) (cap : Nat) (fv : Value) (w : World) : Calls Tryz.prog 197 #[.slice p 0 cap, .int .i64 0, .int .i64 0, fv] w fun e w' => e = .returned (.tuple #[]) ∧ w' = w := by
  go_enter Tryz.func197, Tryz.ntmps197
  go_wp2_with (fail)
  refine wp_loop_rounds 1 ?_
  rw [rounds_succ]
  go_wp2_with (fail)
  go_end0
  exact ⟨rfl, rfl⟩
theorem pdqD_none (p : Option Addr) (cap : Nat) (lim : Int) (fv : Value) (w : World) : Calls Tryz.prog 157 #[.slice p 0 cap, .int .i64 0, .int .i64 0, .int .i64 lim, fv] w fun e w' => e = .returned (.tuple #[]) ∧ w' = w := by
  go_enter Tryz.func157, Tryz.ntmps157
  go_wp2_with (fail)
  refine wp_loop_rounds 1 ?_
  rw [rounds_succ]
  go_wp2_with (go_at_call 197; refine (insD_none _ _ _ _).mono ?_; rintro e w' ⟨rfl, rfl⟩)
  (try simp only [Exit.inBlock, Exit.then]); refine bodyPost_ret (results_none rfl _ _ _) rfl ?_
  exact ⟨rfl, rfl⟩
theorem sortD_none (p : Option Addr) (cap : Nat) (fv : Value) (w : World) : Calls Tryz.prog 120 #[.slice p 0 cap, fv] w fun e w' => e = .returned (.tuple #[]) ∧ w' = w := by
  have hl := fun W => bitsLenD 0 W (by omega)
  change ∀ W, Calls Tryz.prog 87 _ W _ at hl
  go_enter Tryz.func120, Tryz.ntmps120
  go_wp2_with (first | (go_at_call 87; refine (hl _).mono ?_; rintro e w' ⟨⟨l, rfl⟩, rfl⟩) | (go_at_call 157; refine (pdqD_none _ _ _ _ _).mono ?_; rintro e w' ⟨rfl, rfl⟩))
  go_end0
  exact ⟨rfl, rfl⟩
/-- The sorted list: there is one only. -/
noncomputable def srtV {α : Type} (lt : α → α → Prop) (l : List α) : List α := by
  classical
  exact if h : ∃ m : List α, m.Perm l ∧ m.Pairwise (fun x y => ¬ lt y x) then Classical.choose h else l
theorem srtV_eq {α : Type} {lt : α → α → Prop} {l m : List α} (hu : ∀ a ∈ l, ∀ b ∈ l, ¬ lt a b → ¬ lt b a → a = b) (hp : m.Perm l) (hs : m.Pairwise (fun x y => ¬ lt y x)) : m = srtV lt l := by
  unfold srtV
  rw [dif_pos ⟨m, hp, hs⟩]
  obtain ⟨h1, h2⟩ := Classical.choose_spec (⟨m, hp, hs⟩ : ∃ m : List α, m.Perm l ∧ m.Pairwise (fun x y => ¬ lt y x))
  exact List.Perm.eq_of_pairwise (le := fun x y => ¬ lt y x) (fun a b ha hb h3 h4 => hu a (hp.mem_iff.1 ha) b (h1.mem_iff.1 hb) h4 h3) hs h2 (hp.trans h1.symm)
theorem srtV_perm {α : Type} {lt : α → α → Prop} {l : List α} : (srtV lt l).Perm l := by
  unfold srtV
  split
  · rename_i h
    exact (Classical.choose_spec h).1
  · exact List.Perm.refl _
def SortDPost (C : Cm) (l : List Dv) (n base : Nat) (v : Value) (w : World) (e : Ending) (w' : World) : Prop :=
  e = .returned (.tuple #[]) ∧ ∃ m : List Dv, m.Perm l ∧ m.length = n ∧ w'.ownsRow base 67 7 v n (recs dvC m) ∧ w.grownBy w' v.ownBlock ∧ m.Pairwise (fun x y => ¬ cmpD C y x < 0)
theorem sortD_any (C : Cm) (F : List Dv) (a : StA) (l : List Dv) (n c base g5 : Nat) (A : Option Addr) (w : World) (hF : FlOk F) (hlF : ∀ d ∈ l, d ∈ F) (hn : l.length = n) (ho : w.ownsRow base 67 7 (.slice A n c) n (recs dvC l))
    (hne : ∀ b, (Value.slice A n c).ownBlock = some b → b ≠ g5 ∧ b ≠ a.s ∧ b ≠ a.c ∧ b ≠ a.mw)
    (h5 : w.cell? ⟨g5, 0, none⟩ = some (.pointer (some ⟨a.s, 0, none⟩))) (hs0 : w.cell? ⟨a.s, 0, none⟩ = some (.pointer (some ⟨a.c, 0, none⟩)))
    (hs2 : w.cell? ⟨a.s, 2, none⟩ = some (.map (some a.mw))) (hc : w.heap[a.c]? = some (cmB C)) (hw : SmI w a.mw (wvL (wvN C) F)) (h6 : n ≤ 6) :
    Calls Tryz.prog 120 #[.slice A n c, .func (.func 121) #[] #[.pointer (some ⟨g5, 0, none⟩)]] w fun e w' => SortDPost C l n base (.slice A n c) w e w' := by
  have hlc := (Array.getElem?_eq_some_iff.1 hc).1
  have hl5 := World.block_lt_of_cell? w _ h5
  have hls := World.block_lt_of_cell? w _ hs0
  have hlm := hw.lt
  simp only at hl5 hls
  have hz : ∀ (A : Option Addr) (c : Nat), n = 0 → w.ownsRow base 67 7 (.slice A n c) n (recs dvC l) → Calls Tryz.prog 120 #[.slice A n c, .func (.func 121) #[] #[.pointer (some ⟨g5, 0, none⟩)]] w fun e w' => SortDPost C l n base (.slice A n c) w e w' := by
    rintro A c rfl ho
    refine (sortD_none A c _ w).mono ?_
    rintro e w' ⟨rfl, rfl⟩
    have hl := List.eq_nil_of_length_eq_zero hn
    subst hl
    exact ⟨rfl, [], List.Perm.refl _, rfl, ho, grown_refl _ _, List.Pairwise.nil⟩
  by_cases hn0 : n = 0
  · exact hz A c hn0 ho
  rcases own_two ho with ⟨h1, h2, h3⟩ | ⟨b, rfl, hb, hlt⟩
  · exact absurd h2 hn0
  · clear hz
    have eg : ∀ args w, (callFunc 121 args).run Tryz.prog w = .ok (.enter 121 args) w := enters_of Tryz.func121 (by kernel_rfl) rfl
    obtain ⟨n5, n6, n7, n8⟩ := hne b rfl
    obtain ⟨L, hL⟩ : ∃ L : List {d : Dv // d ∈ F}, L.map (·.1) = l := ⟨l.attach.map (fun d => ⟨d.1, hlF d.1 d.2⟩), by rw [List.map_map]; simp [Function.comp_def]⟩
    have hrec : recs (fun x : {d : Dv // d ∈ F} => dvC x.1) L = recs dvC l := by
      rw [← hL]
      unfold recs
      rw [List.flatMap_map]
    have hLn : L.length = n := by rw [← hn, ← hL, List.length_map]
    rw [← hrec] at ho
    obtain ⟨z, hz⟩ : ∃ z, L[0]? = some z := ⟨_, List.getElem?_eq_getElem (by omega)⟩
    haveI : Inhabited {d : Dv // d ∈ F} := ⟨z⟩
    have hcmp : CmpLays Tryz.prog 121 #[.pointer (some ⟨g5, 0, none⟩)] (fun x : {d : Dv // d ∈ F} => dvC x.1) 7 (fun x y => cmpD C x.1 y.1) b 0 L.toArray.size w := fun m os dk _ x y => by
      have hg := grown_sortedK (f := fun x : {d : Dv // d ∈ F} => dvC x.1) (k := 7) (w := w) (g := b) (q := m) (os := os) dk
      exact order_gr C F a x.1 y.1 g5 _ hF x.2 y.2 ((hg.cell_far ⟨g5, 0, none⟩ hl5 (by intro e; injection e with e; exact n5 e.symm)).trans h5) ((hg.cell_far ⟨a.s, 0, none⟩ hls (by intro e; injection e with e; exact n6 e.symm)).trans hs0) ((hg.cell_far ⟨a.s, 2, none⟩ hls (by intro e; injection e with e; exact n6 e.symm)).trans hs2) ((hg.block a.c hlc (by intro e; injection e with e; exact n7 e.symm)).trans hc) (hw.keep (hg.block a.mw hlm (by intro e; injection e with e; exact n8 e.symm)))
    have h := AnyQ.slices_SortFunc layDv 7 Tryz.isAgg67 Tryz.sizeOf67 (fun x : {d : Dv // d ∈ F} => dvC x.1) (fun x => dvC_len x.1) (fun x => dvC_one x.1) (fun x y => cmpD C x.1 y.1) (swoD C F fun d hd => (hF.ok d hd).k) 121 #[.pointer (some ⟨g5, 0, none⟩)] b 0 c L.toArray w eg hcmp (holdsK_of_own (fun x => dvC_len x.1) ho hLn) hlt (by simp [hLn]; omega)
    have hsz : L.toArray.size = n := by simpa using hLn
    rw [hsz] at h
    refine h.mono ?_
    rintro e w' ⟨rfl, d', q, os, hp, hs, rfl⟩
    rw [← hsz] at hp hs
    obtain ⟨h1, h2, h3⟩ := sorted_list hp hs
    obtain ⟨m, rfl⟩ : ∃ m : List {d : Dv // d ∈ F}, d' = m.toArray := ⟨d'.toList, by simp⟩
    refine ⟨rfl, m.map (·.1), by rw [← hL]; exact (show m.Perm L by simpa using h1).map _, by rw [List.length_map]; simpa [hLn] using h2, ?_, grown_sortedK _, by
      rw [List.pairwise_map]
      exact (show m.Pairwise _ by simpa using h3).imp fun {x y} h => by unfold ltOf at h; simpa using h⟩
    have h4 := own_sortedK (fun x : {d : Dv // d ∈ F} => dvC_len x.1) ho (m := m) (by simpa [hLn] using h2) q os
    have h5 : recs (fun x : {d : Dv // d ∈ F} => dvC x.1) m = recs dvC (m.map (·.1)) := by
      unfold recs
      rw [List.flatMap_map]
    rw [h5] at h4
    exact h4
end Go.Proofs.YtidgicbhgnbidaaGreatDoor
