/- The closures of SpellsAreCut; ContainsFunc of samples, of spells; a sum. Printed by gen_SpC.py. -/
import Derived.Test.YtlfphndnkgoinaaGreatDoorCuA
namespace Go.Proofs.YtlfphndnkgoinaaGreatDoor
open Go.RowKit

/-- What the first closure reads: the device, the rule's metric. -/
def Cap2 (V : World) (gd gr gR d mt : Nat) : Prop := V.cell? ⟨gd, 0, none⟩ = some (.string (teT d)) ∧ V.cell? ⟨gr, 0, none⟩ = some (.slice (some ⟨gR, 0, none⟩) 1 1) ∧ V.cell? ⟨gR, 1, none⟩ = some (.string (meT mt)) ∧ gd < V.heap.size ∧ gr < V.heap.size ∧ gR < V.heap.size
theorem Cap2.below {V W : World} {gd gr gR d mt : Nat} (h : Cap2 V gd gr gR d mt) (hb : Below V.heap.size V W) : Cap2 W gd gr gR d mt := by
  obtain ⟨h0, h1, h2, l0, l1, l2⟩ := h
  have := hb.size
  exact ⟨(hb.cell (p := ⟨gd, 0, none⟩) l0).trans h0, (hb.cell (p := ⟨gr, 0, none⟩) l1).trans h1, (hb.cell (p := ⟨gR, 1, none⟩) l2).trans h2, by omega, by omega, by omega⟩
def Cap3 (V : World) (gd gt d : Nat) (t : Int) : Prop := V.cell? ⟨gd, 0, none⟩ = some (.string (teT d)) ∧ V.cell? ⟨gt, 0, none⟩ = some (.int .i64 t) ∧ gd < V.heap.size ∧ gt < V.heap.size
theorem Cap3.below {V W : World} {gd gt d : Nat} {t : Int} (h : Cap3 V gd gt d t) (hb : Below V.heap.size V W) : Cap3 W gd gt d t := by
  obtain ⟨h0, h1, l0, l1⟩ := h
  have := hb.size
  exact ⟨(hb.cell (p := ⟨gd, 0, none⟩) l0).trans h0, (hb.cell (p := ⟨gt, 0, none⟩) l1).trans h1, by omega, by omega⟩
def teQ (d mt : Nat) (x : Te) : Bool := decide (x.d = d) && decide (x.m = mt)
def slQ (d : Nat) (t : Int) (x : Nat × Int × Int) : Bool := decide (x.1 = d) && decide (x.2.1 ≤ t) && decide (t < x.2.2)
set_option maxRecDepth 100000 in
theorem cl2_any (x : Te) (gd gr gR d mt : Nat) (w : World) (hx : x.d < 2) (hxm : x.m < 2) (hd : d < 2) (hm : mt < 2) (hc : Cap2 w gd gr gR d mt) :
    Calls Tryz.prog 24 #[.agg #[.string (teT x.d), .string (meT x.m), .int .i64 x.at_, .int .i64 x.v], .pointer (some ⟨gd, 0, none⟩), .pointer (some ⟨gr, 0, none⟩)] w fun e w' => e = .returned (.bool (teQ d mt x)) ∧ Below w.heap.size w w' := by
  obtain ⟨xd, xm, xa, xv⟩ := x
  simp only at hx hxm
  unfold teQ
  simp only
  obtain ⟨w5, e5⟩ : ∃ V : World, V = w.alloc (.cells #[.string (teT xd), .string (meT xm), .int .i64 xa, .int .i64 xv] 43) := ⟨_, rfl⟩
  obtain ⟨g, eg⟩ : ∃ b, b = w.heap.size := ⟨_, rfl⟩
  have hb5 : Below w.heap.size w w5 := by rw [e5]; exact (Below.refl _ _).alloc (Nat.le_refl _) _
  have hg5 : w5.heap[g]? = some (.cells #[.string (teT xd), .string (meT xm), .int .i64 xa, .int .i64 xv] 43 (0, 0)) := by rw [e5, eg]; exact heap_new w _
  have hgl := (Array.getElem?_eq_some_iff.1 hg5).1
  obtain ⟨k0, k1, k2, l0, l1, l2⟩ := hc.below hb5
  have q0 := cell_of_blk (j := 0) hg5 rfl
  have q1 := cell_of_blk (j := 1) hg5 rfl
  have HB := Lib.hid hb5
  have h1 := (te_eq xd d hx hd).1
  have h2 := (te_eq xd d hx hd).2
  have h3 := me_eq xm mt hxm hm
  have h4 := me_eqL xm mt hxm hm
  have HE := Lib.hid (And.intro e5 eg)
  clear hc hg5 hb5 e5 eg
  by_cases hdd : xd = d
  · rw [decide_eq_true hdd] at h1 h2 ⊢
    clear hdd
    by_cases hmm : xm = mt
    · rw [decide_eq_true hmm] at h3 h4 ⊢
      clear hmm
      go_enter Tryz.func24, Tryz.ntmps24
      go_upto_region 1 with (fail)
      rw [← HE.out.2, ← HE.out.1]
      go_quiet (fail)
      go_wp2_with (fail)
      go_ret
      exact ⟨rfl, below_drewN HB.out _⟩
    · rw [decide_eq_false hmm] at h3 h4 ⊢
      clear hmm
      go_enter Tryz.func24, Tryz.ntmps24
      go_upto_region 1 with (fail)
      rw [← HE.out.2, ← HE.out.1]
      go_quiet (fail)
      go_wp2_with (fail)
      go_ret
      exact ⟨rfl, below_drewN HB.out _⟩
  · rw [decide_eq_false hdd, Bool.false_and]
    rw [decide_eq_false hdd] at h1 h2
    clear hdd
    go_enter Tryz.func24, Tryz.ntmps24
    go_upto_region 1 with (fail)
    rw [← HE.out.2, ← HE.out.1]
    go_quiet (fail)
    go_wp2_with (fail)
    go_ret
    exact ⟨rfl, below_drewN HB.out _⟩
set_option maxRecDepth 100000 in
theorem cl3_any (k : Nat) (x : Nat × Int × Int) (gd gt d : Nat) (t : Int) (w : World) (hx : x.1 < 2) (hd : d < 2) (hc : Cap3 w gd gt d t) :
    Calls Tryz.prog 26 #[.agg #[.string (teT x.1), .string (rkT k), .int .i64 x.2.1, .int .i64 x.2.2], .pointer (some ⟨gd, 0, none⟩), .pointer (some ⟨gt, 0, none⟩)] w fun e w' => e = .returned (.bool (slQ d t x)) ∧ Below w.heap.size w w' := by
  obtain ⟨xd, xa, xb⟩ := x
  simp only at hx
  unfold slQ
  simp only
  obtain ⟨w5, e5⟩ : ∃ V : World, V = w.alloc (.cells #[.string (teT xd), .string (rkT k), .int .i64 xa, .int .i64 xb] 56) := ⟨_, rfl⟩
  obtain ⟨g, eg⟩ : ∃ b, b = w.heap.size := ⟨_, rfl⟩
  have hb5 : Below w.heap.size w w5 := by rw [e5]; exact (Below.refl _ _).alloc (Nat.le_refl _) _
  have hg5 : w5.heap[g]? = some (.cells #[.string (teT xd), .string (rkT k), .int .i64 xa, .int .i64 xb] 56 (0, 0)) := by rw [e5, eg]; exact heap_new w _
  have hgl := (Array.getElem?_eq_some_iff.1 hg5).1
  obtain ⟨k0, k1, l0, l1⟩ := hc.below hb5
  have q0 := cell_of_blk (j := 0) hg5 rfl
  have q2 := cell_of_blk (j := 2) hg5 rfl
  have q3 := cell_of_blk (j := 3) hg5 rfl
  have HB := Lib.hid hb5
  have h1 := (te_eq xd d hx hd).1
  have h2 := (te_eq xd d hx hd).2
  have HE := Lib.hid (And.intro e5 eg)
  clear hc hg5 hb5 e5 eg
  by_cases hdd : xd = d
  · rw [decide_eq_true hdd] at h1 h2 ⊢
    clear hdd
    rw [Bool.true_and]
    by_cases ha : xa ≤ t
    · rw [decide_eq_true ha]
      have ha2 : decide (xa ≤ t) = true := decide_eq_true ha
      by_cases hb : t < xb
      · rw [decide_eq_true hb]
        have hb2 : decide (t < xb) = true := decide_eq_true hb
        go_enter Tryz.func26, Tryz.ntmps26
        go_upto_region 1 with (fail)
        rw [← HE.out.2, ← HE.out.1]
        go_wp2_with (fail)
        go_ret
        exact ⟨rfl, HB.out⟩
      · rw [decide_eq_false hb]
        have hb2 : decide (t < xb) = false := decide_eq_false hb
        go_enter Tryz.func26, Tryz.ntmps26
        go_upto_region 1 with (fail)
        rw [← HE.out.2, ← HE.out.1]
        go_wp2_with (fail)
        go_ret
        exact ⟨rfl, HB.out⟩
    · rw [decide_eq_false ha, Bool.false_and]
      have ha2 : decide (xa ≤ t) = false := decide_eq_false ha
      go_enter Tryz.func26, Tryz.ntmps26
      go_upto_region 1 with (fail)
      rw [← HE.out.2, ← HE.out.1]
      go_wp2_with (fail)
      go_ret
      exact ⟨rfl, HB.out⟩
  · rw [decide_eq_false hdd, Bool.false_and, Bool.false_and]
    rw [decide_eq_false hdd] at h1 h2
    clear hdd
    go_enter Tryz.func26, Tryz.ntmps26
    go_upto_region 1 with (fail)
    rw [← HE.out.2, ← HE.out.1]
    go_wp2_with (fail)
    go_ret
    exact ⟨rfl, HB.out⟩
def teIPost (l : List Te) (d mt : Nat) (e : Ending) : Prop := ∃ z : Int, e = .returned (.int .i64 z) ∧ (0 ≤ z ↔ l.any (teQ d mt) = true)
set_option maxRecDepth 100000 in
set_option maxHeartbeats 2000000 in
theorem teIdx_any (l : List Te) (n c gd gr gR d mt : Nat) (A : Option Addr) (w : World) (hn : l.length = n) (hn7 : n ≤ 400000000000) (hr : Row w w.heap.size A (recs teC l)) (hok : ∀ x ∈ l, x.d < 2 ∧ x.m < 2) (hd : d < 2) (hm : mt < 2) (h0 : Cap2 w gd gr gR d mt) :
    Calls Tryz.prog 42 #[.slice A n c, .func (.func 24) #[] #[.pointer (some ⟨gd, 0, none⟩), .pointer (some ⟨gr, 0, none⟩)]] w fun e w' => teIPost l d mt e ∧ Below w.heap.size w w' := by
  have HR := Lib.hid hr
  have HN := Lib.hid hn
  have HH := Lib.hid (fun (x : Te) (hx : x ∈ l) (V : World) (hV : Below w.heap.size w V) => cl2_any x gd gr gR d mt V (hok x hx).1 (hok x hx).2 hd hm (h0.below hV))
  clear hr hn h0 hok
  go_enter Tryz.func42, Tryz.ntmps42
  go_wp2_with (fail)
  go_loopw [8] (fun i wr => ∃ k : Nat, k ≤ n ∧ i = .int .i64 k ∧ Below w.heap.size w wr ∧ Hid (∀ m x, m < k → l[m]? = some x → teQ d mt x = false)) (fun i _ => n - (intOf i).toNat)
  case atStart => exact ⟨0, Nat.zero_le _, rfl, Below.refl _ _, Lib.hid (fun m x hm _ => by omega)⟩
  case round =>
    obtain ⟨k, hk, rfl, hb, HK⟩ := hrel
    have hbs := hb.size
    have HB := Lib.hid hb
    by_cases hlt : k < n
    · have hltI : (k : Int) < (n : Int) := by omega
      obtain ⟨x, hx⟩ : ∃ x, l[k]? = some x := ⟨_, List.getElem?_eq_getElem (by have := HN.out; omega)⟩
      obtain ⟨b, o, rfl, hbw, hC⟩ := (HR.out.below hb).posR teC_len (by omega) (by have := HN.out; omega)
      obtain ⟨c0, c1, c2, c3⟩ := te_cells hC k x hx
      have hbl : b < wr.heap.size := by omega
      have HX := Lib.hid hx
      clear hC hx hb
      go_wp2_with (fail)
      refine (HH.out x (List.mem_of_getElem? HX.out) wr HB.out).mono ?_
      rintro e w1 ⟨rfl, hb1⟩
      have HB1 := Lib.hid (HB.out.trans (hb1.mono hbs))
      clear hb1
      cases hu : teQ d mt x
      · have HU := Lib.hid hu
        clear hu
        go_wp2_with (fail)
        go_roundw
        case rel =>
          refine ⟨k + 1, by omega, by simp, HB1.out, Lib.hid (fun m z hm hz => ?_)⟩
          by_cases hmk : m = k
          · subst hmk
            have := HX.out
            rw [hz] at this
            cases this
            exact HU.out
          · exact HK.out m z (by omega) hz
        case measure => simp [intOf]; omega
      · have HU := Lib.hid (show l.any (teQ d mt) = true from by
          rw [List.any_eq_true]
          exact ⟨x, List.mem_of_getElem? HX.out, hu⟩)
        clear hu
        go_wp2_with (fail)
        go_ret
        exact ⟨⟨_, rfl, iff_of_true (by omega) HU.out⟩, HB1.out⟩
    · have hltI : ¬ (k : Int) < (n : Int) := by omega
      have hall := Lib.hid (show l.any (teQ d mt) = false from by
        rw [List.any_eq_false]
        intro q hq
        obtain ⟨m, hm⟩ := List.getElem?_of_mem hq
        rw [HK.out m q (by have := (List.getElem?_eq_some_iff.1 hm).1; have := HN.out; omega) hm]
        simp)
      clear hb
      go_wp2_with (fail)
      go_ret
      exact ⟨⟨_, rfl, iff_of_false (by omega) (by rw [hall.out]; simp)⟩, HB.out⟩
set_option maxRecDepth 100000 in
theorem teAny (l : List Te) (n c gd gr gR d mt : Nat) (A : Option Addr) (w : World) (hn : l.length = n) (hn7 : n ≤ 400000000000) (hr : Row w w.heap.size A (recs teC l)) (hok : ∀ x ∈ l, x.d < 2 ∧ x.m < 2) (hd : d < 2) (hm : mt < 2) (h0 : Cap2 w gd gr gR d mt) :
    Calls Tryz.prog 23 #[.slice A n c, .func (.func 24) #[] #[.pointer (some ⟨gd, 0, none⟩), .pointer (some ⟨gr, 0, none⟩)]] w fun e w' => e = .returned (.bool (l.any (teQ d mt))) ∧ Below w.heap.size w w' := by
  have HI := Lib.hid (teIdx_any l n c gd gr gR d mt A w hn hn7 hr hok hd hm h0)
  obtain ⟨u, eu⟩ : ∃ u, u = l.any (teQ d mt) := ⟨_, rfl⟩
  unfold teIPost at HI
  rw [← eu] at HI ⊢
  clear hn hr h0 eu
  go_enter Tryz.func23, Tryz.ntmps23
  go_wp2_with (fail)
  refine HI.out.mono ?_
  rintro e w1 ⟨⟨z, rfl, hz⟩, hb1⟩
  have HB1 := Lib.hid hb1
  have HZ := Lib.hid hz
  clear hz hb1
  have HD := Lib.hid (show decide (0 ≤ z) = u from by rw [Bool.eq_iff_iff, decide_eq_true_iff]; exact HZ.out)
  go_wp2_with (fail)
  go_ret
  exact ⟨by rw [← HD.out]; rfl, HB1.out⟩
def slIPost (l : List (Nat × Int × Int)) (d : Nat) (t : Int) (e : Ending) : Prop := ∃ z : Int, e = .returned (.int .i64 z) ∧ (0 ≤ z ↔ l.any (slQ d t) = true)
set_option maxRecDepth 100000 in
set_option maxHeartbeats 2000000 in
theorem slIdx_any (l : List (Nat × Int × Int)) (kk n c gd gt d : Nat) (t : Int) (A : Option Addr) (w : World) (hn : l.length = n) (hn7 : n ≤ 800000000000) (hr : Row w w.heap.size A (recs (slC kk) l)) (hok : ∀ x ∈ l, x.1 < 2) (hd : d < 2) (h0 : Cap3 w gd gt d t) :
    Calls Tryz.prog 54 #[.slice A n c, .func (.func 26) #[] #[.pointer (some ⟨gd, 0, none⟩), .pointer (some ⟨gt, 0, none⟩)]] w fun e w' => slIPost l d t e ∧ Below w.heap.size w w' := by
  have HR := Lib.hid hr
  have HN := Lib.hid hn
  have HH := Lib.hid (fun (x : Nat × Int × Int) (hx : x ∈ l) (V : World) (hV : Below w.heap.size w V) => cl3_any kk x gd gt d t V (hok x hx) hd (h0.below hV))
  clear hr hn h0 hok
  go_enter Tryz.func54, Tryz.ntmps54
  go_wp2_with (fail)
  go_loopw [8] (fun i wr => ∃ k : Nat, k ≤ n ∧ i = .int .i64 k ∧ Below w.heap.size w wr ∧ Hid (∀ m x, m < k → l[m]? = some x → slQ d t x = false)) (fun i _ => n - (intOf i).toNat)
  case atStart => exact ⟨0, Nat.zero_le _, rfl, Below.refl _ _, Lib.hid (fun m x hm _ => by omega)⟩
  case round =>
    obtain ⟨k, hk, rfl, hb, HK⟩ := hrel
    have hbs := hb.size
    have HB := Lib.hid hb
    by_cases hlt : k < n
    · have hltI : (k : Int) < (n : Int) := by omega
      obtain ⟨x, hx⟩ : ∃ x, l[k]? = some x := ⟨_, List.getElem?_eq_getElem (by have := HN.out; omega)⟩
      obtain ⟨b, o, rfl, hbw, hC⟩ := (HR.out.below hb).posR (slC_len kk) (by omega) (by have := HN.out; omega)
      have c0 : wr.cell? ⟨b, o + k * 4, none⟩ = some (.string (teT x.1)) := rec_cell (slC_len kk) hC k x hx 0 _ rfl
      have c1 : wr.cell? ⟨b, o + k * 4 + 1, none⟩ = some (.string (rkT kk)) := rec_cell (slC_len kk) hC k x hx 1 _ rfl
      have c2 : wr.cell? ⟨b, o + k * 4 + 2, none⟩ = some (.int .i64 x.2.1) := rec_cell (slC_len kk) hC k x hx 2 _ rfl
      have c3 : wr.cell? ⟨b, o + k * 4 + 3, none⟩ = some (.int .i64 x.2.2) := rec_cell (slC_len kk) hC k x hx 3 _ rfl
      have hbl : b < wr.heap.size := by omega
      have HX := Lib.hid hx
      clear hC hx hb
      go_wp2_with (fail)
      refine (HH.out x (List.mem_of_getElem? HX.out) wr HB.out).mono ?_
      rintro e w1 ⟨rfl, hb1⟩
      have HB1 := Lib.hid (HB.out.trans (hb1.mono hbs))
      clear hb1
      cases hu : slQ d t x
      · have HU := Lib.hid hu
        clear hu
        go_wp2_with (fail)
        go_roundw
        case rel =>
          refine ⟨k + 1, by omega, by simp, HB1.out, Lib.hid (fun m z hm hz => ?_)⟩
          by_cases hmk : m = k
          · subst hmk
            have := HX.out
            rw [hz] at this
            cases this
            exact HU.out
          · exact HK.out m z (by omega) hz
        case measure => simp [intOf]; omega
      · have HU := Lib.hid (show l.any (slQ d t) = true from by
          rw [List.any_eq_true]
          exact ⟨x, List.mem_of_getElem? HX.out, hu⟩)
        clear hu
        go_wp2_with (fail)
        go_ret
        exact ⟨⟨_, rfl, iff_of_true (by omega) HU.out⟩, HB1.out⟩
    · have hltI : ¬ (k : Int) < (n : Int) := by omega
      have hall := Lib.hid (show l.any (slQ d t) = false from by
        rw [List.any_eq_false]
        intro q hq
        obtain ⟨m, hm⟩ := List.getElem?_of_mem hq
        rw [HK.out m q (by have := (List.getElem?_eq_some_iff.1 hm).1; have := HN.out; omega) hm]
        simp)
      clear hb
      go_wp2_with (fail)
      go_ret
      exact ⟨⟨_, rfl, iff_of_false (by omega) (by rw [hall.out]; simp)⟩, HB.out⟩
set_option maxRecDepth 100000 in
theorem slAny (l : List (Nat × Int × Int)) (kk n c gd gt d : Nat) (t : Int) (A : Option Addr) (w : World) (hn : l.length = n) (hn7 : n ≤ 800000000000) (hr : Row w w.heap.size A (recs (slC kk) l)) (hok : ∀ x ∈ l, x.1 < 2) (hd : d < 2) (h0 : Cap3 w gd gt d t) :
    Calls Tryz.prog 25 #[.slice A n c, .func (.func 26) #[] #[.pointer (some ⟨gd, 0, none⟩), .pointer (some ⟨gt, 0, none⟩)]] w fun e w' => e = .returned (.bool (l.any (slQ d t))) ∧ Below w.heap.size w w' := by
  have HI := Lib.hid (slIdx_any l kk n c gd gt d t A w hn hn7 hr hok hd h0)
  obtain ⟨u, eu⟩ : ∃ u, u = l.any (slQ d t) := ⟨_, rfl⟩
  unfold slIPost at HI
  rw [← eu] at HI ⊢
  clear hn hr h0 eu
  go_enter Tryz.func25, Tryz.ntmps25
  go_wp2_with (fail)
  refine HI.out.mono ?_
  rintro e w1 ⟨⟨z, rfl, hz⟩, hb1⟩
  have HB1 := Lib.hid hb1
  have HZ := Lib.hid hz
  clear hz hb1
  have HD := Lib.hid (show decide (0 ≤ z) = u from by rw [Bool.eq_iff_iff, decide_eq_true_iff]; exact HZ.out)
  go_wp2_with (fail)
  go_ret
  exact ⟨by rw [← HD.out]; rfl, HB1.out⟩
end Go.Proofs.YtlfphndnkgoinaaGreatDoor
