/- series.Merge of a series and nothing: what it makes is new memory. Printed by gen_SxA.py. -/
import Derived.Test.YtnmgfnnkcenfeaaGreatDoorSxA
import Derived.Test.YtnmgfnnkcenfeaaGreatDoorSxB
import Derived.Test.YtnmgfnnkcenfeaaGreatDoorCatX
import Derived.Test.YtnmgfnnkcenfeaaGreatDoorMgA
import Derived.Test.YtnmgfnnkcenfeaaGreatDoorQtt
import Derived.Test.YtnmgfnnkcenfeaaGreatDoorDel
namespace Go.Proofs.YtnmgfnnkcenfeaaGreatDoor
open Go.RowKit

theorem riseS {l : List Smp} (h : GoodS l) : l.Pairwise (fun x y => x.1 < y.1) := by
  have hs : ∀ (d i : Nat) (x y : Smp), l[i]? = some x → l[i + 1 + d]? = some y → x.1 < y.1 := by
    intro d
    induction d with
    | zero => intro i x y hx hy; exact h.rise i x y hx hy
    | succ d ih =>
      intro i x y hx hy
      obtain ⟨z, hz⟩ : ∃ z, l[i + 1 + d]? = some z := ⟨_, List.getElem?_eq_getElem (by have := (List.getElem?_eq_some_iff.1 hy).1; omega)⟩
      have h1 := ih i x z hx hz
      have h2 := h.rise (i + 1 + d) z y hz hy
      omega
  rw [List.pairwise_iff_getElem]
  intro i j hi hj hij
  exact hs (j - i - 1) i _ _ (List.getElem?_eq_getElem hi) (by rw [show i + 1 + (j - i - 1) = j by omega]; exact List.getElem?_eq_getElem hj)
def MxPost (w : World) (e : Ending) (w' : World) : Prop :=
  ∃ (v : Value) (n : Nat) (L : List Smp), e = .returned (.tuple #[v, .int .i64 0]) ∧ L.length = n ∧ n ≤ 5000 ∧ w'.ownsRow w.heap.size 37 4 v n (recs smpC L) ∧ Below w.heap.size w w'
set_option maxRecDepth 100000 in
set_option maxHeartbeats 8000000 in
theorem mergeX_any (l : List Smp) (n c base : Nat) (A : Option Addr) (w : World) (hn : l.length = n) (hn19 : n ≤ 9) (hg : GoodS l) (ho : w.ownsRow base 37 4 (.slice A n c) n (recs smpC l)) :
    Calls Tryz.prog 7 #[.slice A n c, .slice none 0 0] w fun e w' => MxPost w e w' := by
  have HC1 := Lib.hid (check_any l n c A w hn hg (own_row ho))
  have HC2 := Lib.hid (fun V => check_any [] 0 0 none V rfl ⟨by simp, by simp, by simp, by simp⟩ (.inl rfl))
  have HO := Lib.hid ho
  have HN := Lib.hid hn
  have HG := Lib.hid hg
  clear ho hn hg
  go_enter Tryz.func7, Tryz.ntmps7
  go_wp2_with (fail)
  refine HC1.out.mono ?_
  rintro e w1 ⟨rfl, hb1⟩
  have HB1 := Lib.hid hb1
  have hs1 := hb1.size
  clear hb1 HC1
  go_wp2_with (fail)
  refine (HC2.out w1).mono ?_
  rintro e w2 ⟨rfl, hb2⟩
  have hs2 := hb2.size
  have HB2 := Lib.hid (HB1.out.trans (hb2.mono hs1))
  clear hb2 HC2
  go_wp2_with (fail)
  have hla : Below w2.heap.size w2 (w2.alloc (.cells #[.int .i64 0, .int .i64 0] 32)) := (Below.refl _ _).alloc (Nat.le_refl _) _
  have HB3 := Lib.hid (HB2.out.trans (hla.mono HB2.out.size))
  obtain ⟨w3, e3⟩ : ∃ w3, w3 = (w2.alloc (.cells #[.int .i64 0, .int .i64 0] 32)) := ⟨_, rfl⟩
  have hcs : Cells w3 w2.heap.size 0 (List.replicate 2 (.int .i64 0)) := by rw [e3]; exact Cells.new w2 _ _ _ _ rfl
  rw [← e3] at HB3 ⊢
  clear hla e3
  refine (first_ok 2 2 w2.heap.size w3 (by omega) hcs).mono ?_
  rintro e w3' ⟨rfl, rfl⟩
  clear hcs
  go_wp2_with (fail)
  have hs3 := HB3.out.size
  obtain ⟨w4, e4⟩ : ∃ w4, w4 = w3.alloc (.cells #[.slice A n c, .slice none 0 0] 26) := ⟨_, rfl⟩
  have hb4 : Below w3.heap.size w3 w4 := by rw [e4]; exact (Below.refl _ _).alloc (Nat.le_refl _) _
  have hn4 : w4.heap[w3.heap.size]? = some (.cells #[.slice A n c, .slice none 0 0] 26 (0, 0)) := by rw [e4]; exact heap_new w3 _
  have HB4 := Lib.hid (HB3.out.trans (hb4.mono hs3))
  rw [← e4]
  clear e4 hb4
  refine (catCatX_any l [] n 0 c 0 w3.heap.size A none w4 HN.out rfl (by omega) (by omega) (cell_of_blk (j := 0) hn4 rfl) (cell_of_blk (j := 1) hn4 rfl) (own_ly (own_below HO.out HB4.out)) (.inl ⟨rfl, rfl, rfl, rfl⟩)).mono ?_
  rintro e w5 ⟨v5, rfl, ho5, hb5⟩
  rw [List.append_nil, Nat.add_zero] at ho5
  obtain ⟨A5, c5, rfl⟩ := own_slice ho5
  have hs4 := HB4.out.size
  have HO5 := Lib.hid (own_mono ho5 hs4)
  have HB5 := Lib.hid (HB4.out.trans (hb5.mono hs4))
  clear ho5 hb5 hn4
  go_wp2_with (fail)
  refine (sortX_any l n c5 w.heap.size A5 w5 HN.out (by omega) HO5.out).mono ?_
  rintro e w6 ⟨rfl, m, hpm, hm, ho6, hg6⟩
  have HO6 := Lib.hid ho6
  have HB6 := Lib.hid (HB5.out.grown hg6 HB5.out.size (fun q hq => (HO5.out.lt q hq).1))
  have HM := Lib.hid hm
  have HTW := Lib.hid (NoTwX.perm (riseS HG.out) hpm)
  clear ho6 hg6 hpm hm
  go_wp2_with (fail)
  refine (compactX_no m n c5 A5 w6 HM.out (by omega) HTW.out (own_row HO6.out)).mono ?_
  rintro e w7 ⟨rfl, hb7⟩
  have hs6 := HB6.out.size
  have HO7 := Lib.hid (own_below HO6.out hb7)
  have HB7 := Lib.hid (HB6.out.trans (hb7.mono hs6))
  have hs7 := hb7.size
  clear hb7
  go_wp2_with (fail)
  go_loopw [8] (fun s wx => ∃ k : Nat, 1 ≤ k ∧ k ≤ n + 1 ∧ s = .int .i64 (k : Int) ∧ Hid (Below w7.heap.size w7 wx)) (fun s _ => n + 1 - (intOf s).toNat)
  case atStart => exact ⟨1, Nat.le_refl _, by omega, rfl, Lib.hid (Below.refl _ _)⟩
  case round =>
    obtain ⟨k, hk1, hk, rfl, HR⟩ := hrel
    obtain ⟨wa, rfl⟩ : ∃ wy : World, wy = wr := ⟨_, rfl⟩
    by_cases hlt : k < n
    · have hltI : (k : Int) < (n : Int) := by omega
      obtain ⟨j, rfl⟩ : ∃ j, k = j + 1 := ⟨k - 1, by omega⟩
      obtain ⟨x, hx⟩ : ∃ x, m[j + 1]? = some x := ⟨_, List.getElem?_eq_getElem (by have := HM.out; omega)⟩
      obtain ⟨y, hy⟩ : ∃ y, m[j]? = some y := ⟨_, List.getElem?_eq_getElem (by have := HM.out; omega)⟩
      have hne := HTW.out j (j + 1) y x (by omega) hy hx
      obtain ⟨h5, h6, h7⟩ | ⟨g, rfl, hg1, hg2⟩ := own_two HO7.out
      · omega
      have HQ := Lib.hid (fun (V : World) (hV : Below wa.heap.size wa V) => show (V.cell? ⟨g, j * 4, none⟩ = some (.string ⟨#[100]⟩) ∧ V.cell? ⟨g, j * 4 + 1, none⟩ = some (.string ⟨#[109]⟩) ∧ V.cell? ⟨g, j * 4 + 2, none⟩ = some (.int .i64 y.1) ∧ V.cell? ⟨g, j * 4 + 3, none⟩ = some (.int .i64 y.2)) ∧ V.cell? ⟨g, (j + 1) * 4, none⟩ = some (.string ⟨#[100]⟩) ∧ V.cell? ⟨g, (j + 1) * 4 + 1, none⟩ = some (.string ⟨#[109]⟩) ∧ V.cell? ⟨g, (j + 1) * 4 + 2, none⟩ = some (.int .i64 x.1) ∧ V.cell? ⟨g, (j + 1) * 4 + 3, none⟩ = some (.int .i64 x.2) from by
        have hC := (own_cells0 HO7.out).keep ((hV.block g (by have := HR.out.size; omega)).trans (HR.out.block g hg2))
        have h1 := smp_cells hC j y hy
        have h2 := smp_cells hC (j + 1) x hx
        simp only [Nat.zero_add] at h1 h2
        exact ⟨h1, h2⟩)
      have HBD := Lib.hid (fun V => byDevice_any y x V)
      unfold smpV at HBD
      obtain ⟨r, er⟩ : ∃ r, r = cmpI y.1 x.1 := ⟨_, rfl⟩
      rw [← er] at HBD
      have hr0 : (r == 0) = false := by
        rw [er]
        unfold cmpI
        repeat' split
        all_goals first | rfl | omega
      have hr1 : decide (r = 0) = false := by simpa using hr0
      have hr2 : ¬ r = 0 := by simpa using hr0
      have hw : IntKind.i64.wrap (j : Int) = (j : Int) := by rw [IntKind.wrap_i64]; omega
      have hjn : (j : Int) < (n : Int) := by omega
      have hjn' : j < n := by omega
      clear hx hy hne er
      go_upto_region 10 with (fail)
      refine qRegion (by kernel_rfl) (by kernel_rfl) ?_
      repeat (first
        | (go_big_quiet_want; refine qVal (fun V hV => (by (obtain ⟨q0, q1, q2, q3, q4⟩ := HQ.out V hV; go_simp; try rfl))) ?_; simp only [Act.put, List.setIfInBounds_toArray, List.set_cons_zero, List.set_cons_succ]; go_big_quiet_on)
        | (go_big_quiet_want
           refine qCall (fun V hV => (by (obtain ⟨q0, q1, q2, q3, q4⟩ := HQ.out V hV; go_simp; exact ⟨rfl, rfl⟩))) (fun V hV => (by first
             | with_reducible exact (HBD.out V).mono (fun e w' h => ⟨h.1, hV.trans (h.2.mono hV.size)⟩))) ?_
           simp only [Act.put, List.setIfInBounds_toArray, List.set_cons_zero, List.set_cons_succ]; go_big_quiet_on)
        | go_big_quiet_skip)
      refine wpQuiet_nil ?_
      intro V hV
      obtain ⟨wv, ewv⟩ : ∃ wv, wv = V := ⟨_, rfl⟩
      rw [← ewv] at hV ⊢
      have HV := Lib.hid (HR.out.trans (hV.mono HR.out.size))
      clear ewv hV
      go_wp2_with (fail)
      go_roundw
      case rel => exact ⟨j + 1 + 1, by omega, by omega, by go_num, HV⟩
      case measure => simp [intOf]; omega
    · have hltI : ¬ (k : Int) < (n : Int) := by omega
      have h2000 : ¬ (2000 : Int) < (n : Int) := by omega
      have hs := HR.out.size
      have HP := Lib.hid (show MxPost w (.returned (.tuple #[.slice A5 n c5, .int .i64 0])) wa from
        ⟨_, n, m, rfl, HM.out, by omega, own_below HO7.out HR.out, HB7.out.trans (HR.out.mono HB7.out.size)⟩)
      go_wp2_with (fail)
      go_ret2
      exact HP.out
end Go.Proofs.YtnmgfnnkcenfeaaGreatDoor
