/- command.Merge of right notes by its contract. Printed by gen_NoC.py. -/
import Derived.Test.YtjjfhblaefbpgaaGreatDoorNoB
import Derived.Test.YtjjfhblaefbpgaaGreatDoorNoM
import Derived.Test.YtjjfhblaefbpgaaGreatDoorMgA
import Derived.Test.YtjjfhblaefbpgaaGreatDoorMgB
import Derived.Deep.RegionLawGrows
import Derived.Deep.CutRange
namespace Go.Proofs.YtjjfhblaefbpgaaGreatDoor
open Go.RowKit

theorem id_cmp (i j : Nat) (hi : i < 3) (hj : j < 3) : Lib.compareBytes (idT i).data.toList (idT j).data.toList = cmpI (i : Int) (j : Int) := by
  have h1 : i = 0 ∨ i = 1 ∨ i = 2 := by omega
  have h2 : j = 0 ∨ j = 1 ∨ j = 2 := by omega
  rcases h1 with h | h | h <;> subst h <;> rcases h2 with h | h | h <;> subst h <;> rfl
def slLnN : Value → Nat
  | .slice _ n _ => n
  | _ => 0
theorem lyN_next {w : World} {b o na ca : Nat} {x : No} {a2 : List No} (hC : Cells w b o (recs noC (x :: a2))) (hb : b < w.heap.size) (hl : a2.length + 1 = na) (hc : na ≤ ca) : ∃ An, (if ca = 1 then (some (⟨b, o, none⟩ : Addr)) else some ⟨b, o + 9, none⟩) = An ∧ Ly w An (na - 1) (ca - 1) (recs noC a2) := by
  by_cases h : ca = 1
  · refine ⟨_, rfl, .inr ⟨b, o, if_pos h, hb, ?_⟩⟩
    have : a2 = [] := List.eq_nil_of_length_eq_zero (by omega)
    rw [this]
    intro j v hv
    simp [recs] at hv
  · refine ⟨_, rfl, .inr ⟨b, o + 9, if_neg h, hb, ?_⟩⟩
    have := hC.drop (1 * 9)
    rw [recs_drop noC_len] at this
    simpa using this
theorem Ly.posN {w : World} {A : Option Addr} {n c : Nat} {x : No} {l : List No} (h : Ly w A n c (recs noC (x :: l))) : ∃ b o, A = some ⟨b, o, none⟩ ∧ b < w.heap.size ∧ Cells w b o (recs noC (x :: l)) := by
  rcases h with ⟨_, _, _, h⟩ | h
  · have := recs_length noC_len (x :: l)
    rw [h] at this
    simp at this
  · exact h
theorem NsOk.tail {x : No} {l : List No} (h : NsOk (x :: l)) : NsOk l := ⟨(List.pairwise_cons.1 h.1).2, fun y hy => h.2 y (List.mem_cons_of_mem _ hy)⟩
def NoAt2 (V : World) (b o : Nat) (x : No) (b2 o2 : Nat) (y : No) : Prop :=
  V.cell? ⟨b, o, none⟩ = some (.string (idT x.1)) ∧ V.cell? ⟨b, o + 1, none⟩ = some (.string ⟨#[]⟩) ∧ V.cell? ⟨b, o + 2, none⟩ = some (.string ⟨#[100, 111]⟩) ∧ V.cell? ⟨b, o + 3, none⟩ = some (.int .i64 0) ∧ V.cell? ⟨b, o + 4, none⟩ = some (.int .i64 0) ∧ V.cell? ⟨b, o + 5, none⟩ = some (.int .i64 100) ∧ V.cell? ⟨b, o + 6, none⟩ = some (.int .i64 x.2.s) ∧ V.cell? ⟨b, o + 7, none⟩ = some (.int .i64 x.2.t) ∧ V.cell? ⟨b, o + 8, none⟩ = some (.int .i64 x.2.c) ∧ V.cell? ⟨b2, o2, none⟩ = some (.string (idT y.1)) ∧ V.cell? ⟨b2, o2 + 1, none⟩ = some (.string ⟨#[]⟩) ∧ V.cell? ⟨b2, o2 + 2, none⟩ = some (.string ⟨#[100, 111]⟩) ∧ V.cell? ⟨b2, o2 + 3, none⟩ = some (.int .i64 0) ∧ V.cell? ⟨b2, o2 + 4, none⟩ = some (.int .i64 0) ∧ V.cell? ⟨b2, o2 + 5, none⟩ = some (.int .i64 100) ∧ V.cell? ⟨b2, o2 + 6, none⟩ = some (.int .i64 y.2.s) ∧ V.cell? ⟨b2, o2 + 7, none⟩ = some (.int .i64 y.2.t) ∧ V.cell? ⟨b2, o2 + 8, none⟩ = some (.int .i64 y.2.c)
theorem noAt2 {V : World} {b o b2 o2 : Nat} {x y : No} (h : NoAt V b o x) (k : NoAt V b2 o2 y) : NoAt2 V b o x b2 o2 y := by
  obtain ⟨x0, x1, x2, x3, x4, x5, x6, x7, x8⟩ := h
  obtain ⟨y0, y1, y2, y3, y4, y5, y6, y7, y8⟩ := k
  exact ⟨x0, x1, x2, x3, x4, x5, x6, x7, x8, y0, y1, y2, y3, y4, y5, y6, y7, y8⟩
theorem NoAt.below {V V' : World} {b o : Nat} {x : No} {B : Nat} (h : NoAt V b o x) (hb : Below B V V') (hB : b < B) : NoAt V' b o x := by
  obtain ⟨h0, h1, h2, h3, h4, h5, h6, h7, h8⟩ := h
  exact ⟨(hb.cell (p := ⟨b, o, none⟩) hB).trans h0, (hb.cell (p := ⟨b, o + 1, none⟩) hB).trans h1, (hb.cell (p := ⟨b, o + 2, none⟩) hB).trans h2, (hb.cell (p := ⟨b, o + 3, none⟩) hB).trans h3, (hb.cell (p := ⟨b, o + 4, none⟩) hB).trans h4, (hb.cell (p := ⟨b, o + 5, none⟩) hB).trans h5, (hb.cell (p := ⟨b, o + 6, none⟩) hB).trans h6, (hb.cell (p := ⟨b, o + 7, none⟩) hB).trans h7, (hb.cell (p := ⟨b, o + 8, none⟩) hB).trans h8⟩
theorem no_set {V : World} {g : Nat} {x : No} (y : No) (hV : V.heap[g]? = some (noBlk x)) :
    ((((((((((V.setCell ⟨g, 0, none⟩ (.string (idT y.1))).setCell ⟨g, 1, none⟩ (.string ⟨#[]⟩)).setCell ⟨g, 2, none⟩ (.string ⟨#[100, 111]⟩)).setCell ⟨g, 3, none⟩ (.int .i64 0)).setCell ⟨g, 4, none⟩ (.int .i64 0)).setCell ⟨g, 5, none⟩ (.int .i64 100)).setCell ⟨g, 6, none⟩ (.int .i64 y.2.s)).setCell ⟨g, 7, none⟩ (.int .i64 y.2.t)).setCell ⟨g, 8, none⟩ (.int .i64 y.2.c))).heap[g]? = some (noBlk y) ∧ ∀ B, B ≤ g → Below B V ((((((((((V.setCell ⟨g, 0, none⟩ (.string (idT y.1))).setCell ⟨g, 1, none⟩ (.string ⟨#[]⟩)).setCell ⟨g, 2, none⟩ (.string ⟨#[100, 111]⟩)).setCell ⟨g, 3, none⟩ (.int .i64 0)).setCell ⟨g, 4, none⟩ (.int .i64 0)).setCell ⟨g, 5, none⟩ (.int .i64 100)).setCell ⟨g, 6, none⟩ (.int .i64 y.2.s)).setCell ⟨g, 7, none⟩ (.int .i64 y.2.t)).setCell ⟨g, 8, none⟩ (.int .i64 y.2.c))) := by
  refine ⟨by unfold noBlk at hV; simp [World.setCell, Array.getElem?_modify, hV, noBlk], fun B hB => ?_⟩
  exact ((((((((((Below.refl B V).setCell hB _).setCell hB _).setCell hB _).setCell hB _).setCell hB _).setCell hB _).setCell hB _).setCell hB _).setCell hB _)
def MnPost (a b : List No) (w : World) (e : Ending) (w' : World) : Prop :=
  ∃ A c n, e = .returned (.tuple #[.slice A n c, .int .i64 0]) ∧ (jnN a b).length = n ∧ w'.ownsRow w.heap.size 34 9 (.slice A n c) n (recs noC (jnN a b)) ∧ Below w.heap.size w w'
set_option maxRecDepth 100000 in
set_option maxHeartbeats 8000000 in
theorem mergeN_any (a b : List No) (na nb ca cb : Nat) (A B : Option Addr) (w : World) (ha : NsOk a) (hb : NsOk b) (hna : a.length = na) (hnb : b.length = nb) (hca : na ≤ ca) (hcb : nb ≤ cb)
    (hra : Ly w A na ca (recs noC a)) (hrb : Ly w B nb cb (recs noC b)) (hT : U8T w) :
    Calls Tryz.prog 8 #[.slice A na ca, .slice B nb cb] w fun e w' => MnPost a b w e w' := by
  obtain ⟨i0, hi0, hz0, hz1, hz2⟩ := info_parts Tryz.infoNo
  have hna3 : na ≤ 3 := by rw [← hna]; exact ha.len
  have hnb3 : nb ≤ 3 := by rw [← hnb]; exact hb.len
  have HRA := Lib.hid (fun V (hV : Below w.heap.size w V) => hra.below hV)
  have HRB := Lib.hid (fun V (hV : Below w.heap.size w V) => hrb.below hV)
  have HT := Lib.hid (fun V (hV : Below w.heap.size w V) => hT.below hV)
  have HA := Lib.hid ha
  have HBo := Lib.hid hb
  have HNA := Lib.hid hna
  have HNB := Lib.hid hnb
  have HLEN := Lib.hid (jnN_ok ha hb).len
  clear hra hrb hT ha hb hna hnb
  go_enter Tryz.func8, Tryz.ntmps8
  go_wp2_with (fail)
  refine (checkNotes_any a na ca A w HA.out HNA.out (HRA.out _ (Below.refl _ _)).rowN (HT.out _ (Below.refl _ _))).mono ?_
  rintro e w1 ⟨rfl, hb1⟩
  have HB1 := Lib.hid hb1
  clear hb1
  go_wp2_with (fail)
  refine (checkNotes_any b nb cb B w1 HBo.out HNB.out (HRB.out _ HB1.out).rowN (HT.out _ HB1.out)).mono ?_
  rintro e w2 ⟨rfl, hb2⟩
  have HB2 := Lib.hid (HB1.out.trans (hb2.mono HB1.out.size))
  clear hb2
  go_upto_region 4 with (go_at_call 29; refine (first_ok 2 2 _ _ (by omega) (Cells.new _ _ _ _ _ rfl)).mono ?_; rintro e w' ⟨rfl, rfl⟩)
  have hb3 : Below w2.heap.size w2 (w2.alloc (.cells #[.int .i64 0, .int .i64 0] 35)) := (Below.refl _ _).alloc (Nat.le_refl _) _
  generalize w2.alloc (.cells #[.int .i64 0, .int .i64 0] 35) = w3 at hb3 ⊢
  have HB3 := Lib.hid (HB2.out.trans (hb3.mono HB2.out.size))
  have hs3 := HB3.out.size
  clear hb3 HB1 HB2
  go_wp2_with (fail)
  go_loopw [0, 1, 7] (fun va vb vo wr => ∃ (a' b' out : List No) (A' B' : Option Addr) (na' nb' ca' cb' no : Nat), va = .slice A' na' ca' ∧ vb = .slice B' nb' cb' ∧ a'.length = na' ∧ b'.length = nb' ∧ out.length = no ∧ na' ≤ ca' ∧ nb' ≤ cb' ∧ no + na' + nb' ≤ 6 ∧ NsOk a' ∧ NsOk b' ∧ Ly w3 A' na' ca' (recs noC a') ∧ Ly w3 B' nb' cb' (recs noC b') ∧ wr.ownsRow w3.heap.size 34 9 vo no (recs noC out) ∧ Below w3.heap.size w3 wr ∧ Hid (jnN a b = out ++ jnN a' b')) (fun va vb _ _ => slLnN va + slLnN vb)
  case atStart => exact ⟨a, b, [], A, B, na, nb, ca, cb, 0, rfl, rfl, HNA.out, HNB.out, rfl, hca, hcb, by omega, HA.out, HBo.out, HRA.out _ HB3.out, HRB.out _ HB3.out, World.ownsRow_nil _ _ _ _, Below.refl _ _, Lib.hid rfl⟩
  case round =>
    obtain ⟨a', b', out, A', B', na', nb', ca', cb', no, rfl, rfl, hla, hlb, hlo, hcA, hcB, h80, hoa, hob, hrA, hrB, hown, hbr, HJ⟩ := hrel
    have hbs := hbr.size
    have HB := Lib.hid hbr
    have HO := Lib.hid hown
    have HLA := Lib.hid hla
    have HLB := Lib.hid hlb
    have HLO := Lib.hid hlo
    have HOA := Lib.hid hoa
    have HOB := Lib.hid hob
    have HRa := Lib.hid hrA
    have HRb := Lib.hid hrB
    clear hla hlb hlo hoa hob hrA hrB hown hbr
    by_cases hnz : 0 < na' ∧ 0 < nb'
    · obtain ⟨ha0, hb0⟩ := hnz
      have ha0I : (0 : Int) < na' := by omega
      have hb0I : (0 : Int) < nb' := by omega
      obtain ⟨x, a2, rfl⟩ : ∃ x a2, a' = x :: a2 := by
        cases a' with
        | nil => have := HLA.out; simp at this; omega
        | cons x a2 => exact ⟨x, a2, rfl⟩
      obtain ⟨y, b2, rfl⟩ : ∃ y b2, b' = y :: b2 := by
        cases b' with
        | nil => have := HLB.out; simp at this; omega
        | cons y b2 => exact ⟨y, b2, rfl⟩
      obtain ⟨ba, oa, rfl, hba, hCa⟩ := HRa.out.posN
      obtain ⟨bb, ob, rfl, hbb, hCb⟩ := HRb.out.posN
      obtain ⟨An, hAn, hRAn⟩ := lyN_next hCa hba (by have := HLA.out; simpa using this) hcA
      obtain ⟨Bn, hBn, hRBn⟩ := lyN_next hCb hbb (by have := HLB.out; simpa using this) hcB
      obtain ⟨hx3, hxv⟩ := HOA.out.2 x (by simp)
      obtain ⟨hy3, hyv⟩ := HOB.out.2 y (by simp)
      have HXV := Lib.hid hxv
      have HYV := Lib.hid hyv
      have HRAn := Lib.hid hRAn
      have HRBn := Lib.hid hRBn
      have HLA2 := Lib.hid (show a2.length = na' - 1 from by have := HLA.out; simp at this; omega)
      have HLB2 := Lib.hid (show b2.length = nb' - 1 from by have := HLB.out; simp at this; omega)
      have HAT := Lib.hid HOA.out.tail
      have HBT := Lib.hid HOB.out.tail
      have HQ := Lib.hid (fun (V : World) (hV : Below wr.heap.size wr V) => show NoAt2 V ba oa x bb ob y from by
        have h1 := no_cells hCa 0 x rfl
        have h2 := no_cells hCb 0 y rfl
        simp only [Nat.zero_mul, Nat.add_zero] at h1 h2
        have hb := HB.out.trans (hV.mono hbs)
        exact noAt2 (h1.below hb hba) (h2.below hb hbb))
      have HC1 := Lib.hid (fun (V : World) => show Calls Tryz.prog 31 #[.string (idT x.1), .string (idT y.1)] V fun e w' => e = .returned (.int .i64 (cmpI (x.1 : Int) (y.1 : Int))) ∧ Below V.heap.size V w' from (scompare_any (idT x.1) (idT y.1) V).mono (fun e w' h => ⟨by rw [← id_cmp x.1 y.1 hx3 hy3]; exact h.1, h.2 ▸ Below.refl _ _⟩))
      clear hCa hCb hxv hyv hRAn hRBn
      have ha1 : ¬ (1 : Int) > na' := by omega
      have hb1 : ¬ (1 : Int) > nb' := by omega
      have ha1N : 1 ≤ na' := ha0
      have hb1N : 1 ≤ nb' := hb0
      have ha1c : 1 ≤ ca' := by omega
      have hb1c : 1 ≤ cb' := by omega
      go_upto_region 6 with (fail)
      refine qRegionTail 10 (by kernel_rfl) (by kernel_rfl) ?_
      simp only [List.take_succ_cons, List.take_zero, List.drop_succ_cons, List.drop_zero]
      repeat (first
        | (go_big_quiet_want; refine qVal (fun V hV => (by (obtain ⟨x0, x1, x2, x3, x4, x5, x6, x7, x8, y0, y1, y2, y3, y4, y5, y6, y7, y8⟩ := HQ.out V hV; go_simp; try rfl))) ?_; simp only [Act.put, List.setIfInBounds_toArray, List.set_cons_zero, List.set_cons_succ]; go_big_quiet_on)
        | go_big_quiet_skip)
      refine wpQuiet_nil ?_
      intro w4 hb4
      have HB4 := Lib.hid hb4
      have hs4 := hb4.size
      clear hb4
      by_cases h1 : x.1 < y.1
      · have HJ2 := Lib.hid (HJ.out.trans (show out ++ jnN (x :: a2) (y :: b2) = (out ++ [x]) ++ jnN a2 (y :: b2) from by rw [jnN_lt h1]; simp))
        have hcmp : cmpI (x.1 : Int) (y.1 : Int) = -1 := by unfold cmpI; rw [if_pos (by omega)]
        go_upto_region 12 with (go_at_call 31; refine (HC1.out _).mono ?_; rw [hcmp]; rintro e w5 ⟨rfl, hb5⟩; have HB5 := Lib.hid (HB4.out.trans (hb5.mono HB4.out.size)); have hs5 := hb5.size; clear hb5)
        obtain ⟨x0, x1, x2, x3, x4, x5, x6, x7, x8, y0, y1, y2, y3, y4, y5, y6, y7, y8⟩ := HQ.out w5 HB5.out
        have HOw := Lib.hid (own_belowP HO.out HB5.out)
        have HBw := Lib.hid (HB.out.trans (HB5.out.mono hbs))
        go_region_law (first | (refine step_append_row rfl (.tmp 61) (.tmp 65) 26 rfl w3.heap.size 34 i0 _ 9 96 Tryz.underlying26 hi0 hz0 hz1 hz2 rfl (by decide) u7 no (recs noC out) (by first | rfl | simp [Act.eval]) (HOw.out.alloc _) ⟨w5.heap.size, 0, none⟩ 1 1 (noC x) (by first | rfl | simp [Act.eval]) rfl (cells_add (Cells.new _ _ _ _ _ rfl)) (noC_one _) (by unfold maxLen; omega) (by omega) (by have := HBw.out.size; simp; omega) ?_; intro v9 w9 ho9 hg9))
        have hlo : ∀ q, u7.ownBlock = some q → w3.heap.size ≤ q := fun q hq => (HOw.out.lt q hq).1
        have HB9 := Lib.hid ((HBw.out.alloc HBw.out.size _).drew.grown hg9 (by have := HBw.out.size; first | omega | (simp; omega)) hlo)
        have HO9 := Lib.hid (show w9.ownsRow w3.heap.size 34 9 v9 (no + 1) (recs noC (out ++ [x])) from by rw [recs_snoc]; exact ho9)
        have HLO9 := Lib.hid (show (out ++ [x]).length = no + 1 from by rw [List.length_append, HLO.out]; rfl)
        clear ho9 hg9 hlo x0 x1 x2 x3 x4 x5 x6 x7 x8 y0 y1 y2 y3 y4 y5 y6 y7 y8
        go_wp2_with (fail)
        simp only [Act.put, List.getElem_toArray, List.getElem_cons_zero, List.getElem_cons_succ, List.setIfInBounds_toArray, List.set_cons_zero, List.set_cons_succ]
        go_roundw
        case rel => exact ⟨a2, y :: b2, out ++ [x], An, some ⟨bb, ob, none⟩, na' - 1, nb', ca' - 1, cb', no + 1, rfl, rfl, HLA2.out, HLB.out, HLO9.out, by omega, by omega, by omega, HAT.out, HOB.out, HRAn.out, HRb.out, HO9.out, HB9.out, HJ2⟩
        case measure => simp [slLnN]; omega
      · by_cases h2 : y.1 < x.1
        · have HJ2 := Lib.hid (HJ.out.trans (show out ++ jnN (x :: a2) (y :: b2) = (out ++ [y]) ++ jnN (x :: a2) b2 from by rw [jnN_gt h1 h2]; simp))
          have hcmp : cmpI (x.1 : Int) (y.1 : Int) = 1 := by unfold cmpI; rw [if_neg (by omega), if_pos (by omega)]
          go_upto_region 14 with (go_at_call 31; refine (HC1.out _).mono ?_; rw [hcmp]; rintro e w5 ⟨rfl, hb5⟩; have HB5 := Lib.hid (HB4.out.trans (hb5.mono HB4.out.size)); have hs5 := hb5.size; clear hb5)
          obtain ⟨x0, x1, x2, x3, x4, x5, x6, x7, x8, y0, y1, y2, y3, y4, y5, y6, y7, y8⟩ := HQ.out w5 HB5.out
          have HOw := Lib.hid (own_belowP HO.out HB5.out)
          have HBw := Lib.hid (HB.out.trans (HB5.out.mono hbs))
          go_region_law (first | (refine step_append_row rfl (.tmp 72) (.tmp 76) 26 rfl w3.heap.size 34 i0 _ 9 96 Tryz.underlying26 hi0 hz0 hz1 hz2 rfl (by decide) u7 no (recs noC out) (by first | rfl | simp [Act.eval]) (HOw.out.alloc _) ⟨w5.heap.size, 0, none⟩ 1 1 (noC y) (by first | rfl | simp [Act.eval]) rfl (cells_add (Cells.new _ _ _ _ _ rfl)) (noC_one _) (by unfold maxLen; omega) (by omega) (by have := HBw.out.size; simp; omega) ?_; intro v9 w9 ho9 hg9))
          have hlo : ∀ q, u7.ownBlock = some q → w3.heap.size ≤ q := fun q hq => (HOw.out.lt q hq).1
          have HB9 := Lib.hid ((HBw.out.alloc HBw.out.size _).drew.grown hg9 (by have := HBw.out.size; first | omega | (simp; omega)) hlo)
          have HO9 := Lib.hid (show w9.ownsRow w3.heap.size 34 9 v9 (no + 1) (recs noC (out ++ [y])) from by rw [recs_snoc]; exact ho9)
          have HLO9 := Lib.hid (show (out ++ [y]).length = no + 1 from by rw [List.length_append, HLO.out]; rfl)
          clear ho9 hg9 hlo x0 x1 x2 x3 x4 x5 x6 x7 x8 y0 y1 y2 y3 y4 y5 y6 y7 y8
          go_wp2_with (fail)
          simp only [Act.put, List.getElem_toArray, List.getElem_cons_zero, List.getElem_cons_succ, List.setIfInBounds_toArray, List.set_cons_zero, List.set_cons_succ]
          go_roundw
          case rel => exact ⟨x :: a2, b2, out ++ [y], some ⟨ba, oa, none⟩, Bn, na', nb' - 1, ca', cb' - 1, no + 1, rfl, rfl, HLA.out, HLB2.out, HLO9.out, by omega, by omega, by omega, HOA.out, HBT.out, HRa.out, HRBn.out, HO9.out, HB9.out, HJ2⟩
          case measure => simp [slLnN]; omega
        · have hcmp : cmpI (x.1 : Int) (y.1 : Int) = 0 := by unfold cmpI; rw [if_neg (by omega), if_neg (by omega)]
          have HXY := Lib.hid (show y.1 = x.1 from by omega)
          have HJ2 := Lib.hid (HJ.out.trans (show out ++ jnN (x :: a2) (y :: b2) = (out ++ [if nk x.2 < nk y.2 then y else x]) ++ jnN a2 b2 from by rw [jnN_eq h1 h2]; simp))
          go_upto_region 15 with (go_at_call 31; refine (HC1.out _).mono ?_; rw [hcmp]; rintro e w5 ⟨rfl, hb5⟩; have HB5 := Lib.hid (HB4.out.trans (hb5.mono HB4.out.size)); have hs5 := hb5.size; clear hb5)
          have HFU := Lib.hid (fun V => further_any y x HYV.out HXV.out V)
          have hxy := HXY.out
          obtain ⟨yi, yv⟩ := y
          simp only at hxy
          subst hxy
          obtain ⟨x0, x1, x2, x3, x4, x5, x6, x7, x8, y0, y1, y2, y3, y4, y5, y6, y7, y8⟩ := HQ.out w5 HB5.out
          go_quiet (fail)
          obtain ⟨w6, hw6⟩ : ∃ w6, w6 = w5.drewN nq := ⟨_, rfl⟩
          rw [← hw6]
          have HB6 := Lib.hid (show Below wr.heap.size wr w6 from by rw [hw6]; exact below_drewN HB5.out _)
          have hs6 : wr.heap.size ≤ w6.heap.size := HB6.out.size
          clear hw6 x0 x1 x2 x3 x4 x5 x6 x7 x8 y0 y1 y2 y3 y4 y5 y6 y7 y8
          obtain ⟨x0, x1, x2, x3, x4, x5, x6, x7, x8, y0, y1, y2, y3, y4, y5, y6, y7, y8⟩ := HQ.out w6 HB6.out
          clear HB5 hs5
          go_wp2_with (fail)
          have HB7 := Lib.hid (HB6.out.alloc hs6 (.cells #[.string (idT x.1), .string ⟨#[]⟩, .string ⟨#[100, 111]⟩, .int .i64 0, .int .i64 0, .int .i64 100, .int .i64 x.2.s, .int .i64 x.2.t, .int .i64 x.2.c] 34))
          have HG7 := Lib.hid (heap_new w6 (.cells #[.string (idT x.1), .string ⟨#[]⟩, .string ⟨#[100, 111]⟩, .int .i64 0, .int .i64 0, .int .i64 100, .int .i64 x.2.s, .int .i64 x.2.t, .int .i64 x.2.c] 34))
          have hs7 : w6.heap.size < (w6.alloc (.cells #[.string (idT x.1), .string ⟨#[]⟩, .string ⟨#[100, 111]⟩, .int .i64 0, .int .i64 0, .int .i64 100, .int .i64 x.2.s, .int .i64 x.2.t, .int .i64 x.2.c] 34)).heap.size := by simp
          clear x0 x1 x2 x3 x4 x5 x6 x7 x8 y0 y1 y2 y3 y4 y5 y6 y7 y8 HB6
          generalize w6.alloc (.cells #[.string (idT x.1), .string ⟨#[]⟩, .string ⟨#[100, 111]⟩, .int .i64 0, .int .i64 0, .int .i64 100, .int .i64 x.2.s, .int .i64 x.2.t, .int .i64 x.2.c] 34) = w7 at HB7 HG7 hs7 ⊢
          generalize w6.heap.size = g at hs6 HG7 hs7 ⊢
          clear w6
          have hsw7 : wr.heap.size ≤ w7.heap.size := by omega
          have HQ7 := Lib.hid (fun (V : World) (hV : Below w7.heap.size w7 V) => show NoAt2 V ba oa x bb ob (x.1, yv) ∧ NoB V g x from ⟨HQ.out V (HB7.out.trans (hV.mono hsw7)), no_blk ((hV.block g hs7).trans HG7.out)⟩)
          go_upto_region 8 with (fail)
          refine qRegionTail 4 (by kernel_rfl) (by kernel_rfl) ?_
          simp only [List.take_succ_cons, List.take_zero, List.drop_succ_cons, List.drop_zero]
          repeat (first
            | (go_big_quiet_want; refine qVal (fun V hV => (by (obtain ⟨⟨x0, x1, x2, x3, x4, x5, x6, x7, x8, y0, y1, y2, y3, y4, y5, y6, y7, y8⟩, q0, q1, q2, q3, q4, q5, q6, q7, q8⟩ := HQ7.out V hV; go_simp; try rfl))) ?_; simp only [Act.put, List.setIfInBounds_toArray, List.set_cons_zero, List.set_cons_succ]; go_big_quiet_on)
            | go_big_quiet_skip)
          refine wpQuiet_nil ?_
          intro w8 hb8
          have HB8 := Lib.hid (HB7.out.trans (hb8.mono hsw7))
          have HG8 := Lib.hid ((hb8.block g hs7).trans HG7.out)
          have hs8 := hb8.size
          clear hb8
          go_upto_region 9 with (go_at_call 32; refine (HFU.out _).mono ?_; rintro e w9 ⟨⟨z, rfl, hz⟩, hb9⟩; have HB9 := Lib.hid (HB8.out.trans (hb9.mono (by omega))); have HG9 := Lib.hid ((hb9.block g (by omega)).trans HG8.out); have HZ := Lib.hid hz; have hs9 := hb9.size; clear hb9 hz)
          rotate_left
          · have hzn : ¬ 0 < z := by omega
            have HJ3 := Lib.hid (HJ2.out.trans (show _ = (out ++ [x]) ++ jnN a2 b2 from by rw [if_neg (fun h => hzn (HZ.out.2 h))]))
            have HG := Lib.hid HG9.out
            obtain ⟨q0, q1, q2, q3, q4, q5, q6, q7, q8⟩ := no_blk HG9.out
            have HOw := Lib.hid (own_belowP HO.out HB9.out)
            have HBw := Lib.hid (HB.out.trans (HB9.out.mono hbs))
            go_region_law (first | (refine step_append_row rfl (.tmp 50) (.tmp 52) 26 rfl w3.heap.size 34 i0 _ 9 96 Tryz.underlying26 hi0 hz0 hz1 hz2 rfl (by decide) u7 no (recs noC out) (by first | rfl | simp [Act.eval]) (HOw.out.alloc _) ⟨w9.heap.size, 0, none⟩ 1 1 (noC x) (by first | rfl | simp [Act.eval]) rfl (cells_add (Cells.new _ _ _ _ _ rfl)) (noC_one _) (by unfold maxLen; omega) (by omega) (by have := HBw.out.size; simp; omega) ?_; intro v9 wz ho9 hg9))
            have hlo : ∀ q, u7.ownBlock = some q → w3.heap.size ≤ q := fun q hq => (HOw.out.lt q hq).1
            have HBz := Lib.hid ((HBw.out.alloc HBw.out.size _).drew.grown hg9 (by have := HBw.out.size; first | omega | (simp; omega)) hlo)
            have HOz := Lib.hid (show wz.ownsRow w3.heap.size 34 9 v9 (no + 1) (recs noC (out ++ [x])) from by rw [recs_snoc]; exact ho9)
            have HLOz := Lib.hid (show (out ++ [x]).length = no + 1 from by rw [List.length_append, HLO.out]; rfl)
            clear ho9 hg9 hlo
            go_wp2_with (fail)
            simp only [Act.put, List.getElem_toArray, List.getElem_cons_zero, List.getElem_cons_succ, List.setIfInBounds_toArray, List.set_cons_zero, List.set_cons_succ]
            go_roundw
            case rel => exact ⟨a2, b2, out ++ [x], An, Bn, na' - 1, nb' - 1, ca' - 1, cb' - 1, no + 1, rfl, rfl, HLA2.out, HLB2.out, HLOz.out, by omega, by omega, by omega, HAT.out, HBT.out, HRAn.out, HRBn.out, HOz.out, HBz.out, HJ3⟩
            case measure => simp [slLnN]; omega
          · have hzp : 0 < z := by omega
            have HJ3 := Lib.hid (HJ2.out.trans (show _ = (out ++ [(x.1, yv)]) ++ jnN a2 b2 from by rw [if_pos (HZ.out.1 hzp)]))
            obtain ⟨x0, x1, x2, x3, x4, x5, x6, x7, x8, y0, y1, y2, y3, y4, y5, y6, y7, y8⟩ := HQ.out w9 HB9.out
            obtain ⟨q0, q1, q2, q3, q4, q5, q6, q7, q8⟩ := no_blk HG9.out
            obtain ⟨hN1, hN2⟩ := no_set (x.1, yv) HG9.out
            simp only at hN1 hN2
            have f0 := fun j => Lib.frozen_of_heap HG9.out j
            go_upto_region 10 with (fail)
            have HG10 := Lib.hid hN1
            have HB10 := Lib.hid (HB9.out.trans (hN2 wr.heap.size hs6))
            clear hN1 hN2 f0 q0 q1 q2 q3 q4 q5 q6 q7 q8 x0 x1 x2 x3 x4 x5 x6 x7 x8 y0 y1 y2 y3 y4 y5 y6 y7 y8
            generalize (((((((((w9.setCell ⟨g, 0, none⟩ (.string (idT x.1))).setCell ⟨g, 1, none⟩ (.string ⟨#[]⟩)).setCell ⟨g, 2, none⟩ (.string ⟨#[100, 111]⟩)).setCell ⟨g, 3, none⟩ (.int .i64 0)).setCell ⟨g, 4, none⟩ (.int .i64 0)).setCell ⟨g, 5, none⟩ (.int .i64 100)).setCell ⟨g, 6, none⟩ (.int .i64 yv.s)).setCell ⟨g, 7, none⟩ (.int .i64 yv.t)).setCell ⟨g, 8, none⟩ (.int .i64 yv.c)) = w10 at HG10 HB10 ⊢
            have HG := Lib.hid HG10.out
            obtain ⟨q0, q1, q2, q3, q4, q5, q6, q7, q8⟩ := no_blk HG10.out
            have HOw := Lib.hid (own_belowP HO.out HB10.out)
            have HBw := Lib.hid (HB.out.trans (HB10.out.mono hbs))
            go_region_law (first | (refine step_append_row rfl (.tmp 50) (.tmp 52) 26 rfl w3.heap.size 34 i0 _ 9 96 Tryz.underlying26 hi0 hz0 hz1 hz2 rfl (by decide) u7 no (recs noC out) (by first | rfl | simp [Act.eval]) (HOw.out.alloc _) ⟨w10.heap.size, 0, none⟩ 1 1 (noC (x.1, yv)) (by first | rfl | simp [Act.eval]) rfl (cells_add (Cells.new _ _ _ _ _ rfl)) (noC_one _) (by unfold maxLen; omega) (by omega) (by have := HBw.out.size; simp; omega) ?_; intro v9 wz ho9 hg9))
            have hlo : ∀ q, u7.ownBlock = some q → w3.heap.size ≤ q := fun q hq => (HOw.out.lt q hq).1
            have HBz := Lib.hid ((HBw.out.alloc HBw.out.size _).drew.grown hg9 (by have := HBw.out.size; first | omega | (simp; omega)) hlo)
            have HOz := Lib.hid (show wz.ownsRow w3.heap.size 34 9 v9 (no + 1) (recs noC (out ++ [(x.1, yv)])) from by rw [recs_snoc]; exact ho9)
            have HLOz := Lib.hid (show (out ++ [(x.1, yv)]).length = no + 1 from by rw [List.length_append, HLO.out]; rfl)
            clear ho9 hg9 hlo
            go_wp2_with (fail)
            simp only [Act.put, List.getElem_toArray, List.getElem_cons_zero, List.getElem_cons_succ, List.setIfInBounds_toArray, List.set_cons_zero, List.set_cons_succ]
            go_roundw
            case rel => exact ⟨a2, b2, out ++ [(x.1, yv)], An, Bn, na' - 1, nb' - 1, ca' - 1, cb' - 1, no + 1, rfl, rfl, HLA2.out, HLB2.out, HLOz.out, by omega, by omega, by omega, HAT.out, HBT.out, HRAn.out, HRBn.out, HOz.out, HBz.out, HJ3⟩
            case measure => simp [slLnN]; omega
    · have HJO := HJ
      have HF := Lib.hid (show ∀ (v : Value) (W : World), W.ownsRow wr.heap.size 34 9 v (no + na' + nb') (recs noC (out ++ a' ++ b')) → Below wr.heap.size wr W → ∃ A c, v = .slice A (no + na' + nb') c ∧ MnPost a b w (.returned (.tuple #[.slice A (no + na' + nb') c, .int .i64 0])) W from by
        intro v W ho hb
        obtain ⟨A2, c2, rfl⟩ := own_slice ho
        have hj : jnN a b = out ++ a' ++ b' := by
          rw [HJO.out]
          by_cases h0 : na' = 0
          · have : a' = [] := List.eq_nil_of_length_eq_zero (by have := HLA.out; omega)
            rw [this, jnN_nil_l]; simp
          · have hb0 : b' = [] := List.eq_nil_of_length_eq_zero (by have := HLB.out; omega)
            rw [hb0, jnN_nil_r]; simp
        refine ⟨A2, c2, rfl, A2, c2, no + na' + nb', rfl, ?_, ?_, HB3.out.trans ((HB.out.trans (hb.mono hbs)).mono hs3)⟩
        · rw [hj, List.length_append, List.length_append, HLO.out, HLA.out, HLB.out]
        · rw [hj]; exact own_mono ho (by omega))
      have HL3 := Lib.hid (show no + na' + nb' ≤ 3 from by
        have h := HLEN.out
        have hj : (jnN a b).length = no + na' + nb' := by
          rw [HJO.out, List.length_append]
          have : (jnN a' b').length = na' + nb' := by
            by_cases h0 : na' = 0
            · have : a' = [] := List.eq_nil_of_length_eq_zero (by have := HLA.out; omega)
              rw [this, jnN_nil_l, HLB.out]; omega
            · have hb0 : b' = [] := List.eq_nil_of_length_eq_zero (by have := HLB.out; omega)
              rw [hb0, jnN_nil_r, HLA.out]; have := HLB.out; rw [hb0] at this; simp at this; omega
          rw [HLO.out, this]; omega
        omega)
      have HLy := Lib.hid (And.intro (HRa.out.below HB.out) (HRb.out.below HB.out))
      obtain ⟨A0, c0, rfl⟩ := own_slice HO.out
      have HLo := Lib.hid (own_ly HO.out)
      clear HJO
      have hl3 := HL3.out
      by_cases h0 : na' = 0
      · subst h0
        go_wp2_with (fail)
        have hcells : Cells (wr.alloc (.cells #[.slice A0 no c0, .slice A' 0 ca', .slice B' nb' cb'] 26)) wr.heap.size 0 [.slice A0 no c0, .slice A' 0 ca', .slice B' nb' cb'] := Cells.new _ _ _ _ _ rfl
        have hba : Below wr.heap.size wr (wr.alloc (.cells #[.slice A0 no c0, .slice A' 0 ca', .slice B' nb' cb'] 26)) := (Below.refl _ _).alloc (Nat.le_refl _) _
        refine (catN_any out a' b' no 0 nb' c0 ca' cb' wr.heap.size A0 A' B' _ HLO.out HLA.out HLB.out (by omega) (by omega) (by omega) (by simp) (by simp) (by simp) (HLo.out.below hba) (HLy.out.1.below hba) (HLy.out.2.below hba)).mono ?_
        rintro e w5 ⟨v5, rfl, ho5, hb5⟩
        obtain ⟨A5, c5, rfl, hpost⟩ := HF.out v5 w5 (own_mono ho5 (by simp)) (hba.trans (hb5.mono (by simp)))
        have HPOST := Lib.hid hpost
        clear hpost ho5 hb5 hba hcells
        have hgt : ¬ ((no : Int) + (0 : Nat) + (nb' : Nat) > 1500) := by omega
        have hgt2 : ¬ (1500 : Int) < ((no + 0 + nb' : Nat) : Int) := by omega
        go_wp2_with (fail)
        refine bodyPost_ret (v := .tuple #[.slice A5 (no + 0 + nb') c5, .int .i64 0]) (by simp [results, Tryz.results8, go_sem]) rfl HPOST.out
      · have hb0 : nb' = 0 := by omega
        have ha0I : (0 : Int) < na' := by omega
        subst hb0
        go_wp2_with (fail)
        have hcells : Cells (wr.alloc (.cells #[.slice A0 no c0, .slice A' na' ca', .slice B' 0 cb'] 26)) wr.heap.size 0 [.slice A0 no c0, .slice A' na' ca', .slice B' 0 cb'] := Cells.new _ _ _ _ _ rfl
        have hba : Below wr.heap.size wr (wr.alloc (.cells #[.slice A0 no c0, .slice A' na' ca', .slice B' 0 cb'] 26)) := (Below.refl _ _).alloc (Nat.le_refl _) _
        refine (catN_any out a' b' no na' 0 c0 ca' cb' wr.heap.size A0 A' B' _ HLO.out HLA.out HLB.out (by omega) (by omega) (by omega) (by simp) (by simp) (by simp) (HLo.out.below hba) (HLy.out.1.below hba) (HLy.out.2.below hba)).mono ?_
        rintro e w5 ⟨v5, rfl, ho5, hb5⟩
        obtain ⟨A5, c5, rfl, hpost⟩ := HF.out v5 w5 (own_mono ho5 (by simp)) (hba.trans (hb5.mono (by simp)))
        have HPOST := Lib.hid hpost
        clear hpost ho5 hb5 hba hcells
        have hgt : ¬ ((no : Int) + (na' : Nat) + (0 : Nat) > 1500) := by omega
        have hgt2 : ¬ (1500 : Int) < ((no + na' + 0 : Nat) : Int) := by omega
        go_wp2_with (fail)
        refine bodyPost_ret (v := .tuple #[.slice A5 (no + na' + 0) c5, .int .i64 0]) (by simp [results, Tryz.results8, go_sem]) rfl HPOST.out
end Go.Proofs.YtjjfhblaefbpgaaGreatDoor
