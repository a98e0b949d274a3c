/- twin.Differ of good properties by its contract. -/
import Derived.Test.YtkcpfppjdjkjeaaGreatDoorMgB
import Derived.Test.YtkcpfppjdjkjeaaGreatDoorMgC
import Derived.Test.YtkcpfppjdjkjeaaGreatDoorMgA
namespace Go.Proofs.YtkcpfppjdjkjeaaGreatDoor
open Go.RowKit

def chC (x : Ch) : List Value := [.string (nm x.1), .int .i64 x.2.1.k, .bool x.2.1.f, .int .i64 x.2.1.n, .string x.2.1.s, .int .i64 x.2.2.k, .bool x.2.2.f, .int .i64 x.2.2.n, .string x.2.2.s]
theorem chC_len (x : Ch) : (chC x).length = 9 := rfl
theorem chC_one (x : Ch) : ∀ u ∈ chC x, u.oneCell' = true := by
  intro u hu
  simp only [chC, List.mem_cons, List.not_mem_nil, or_false] at hu
  rcases hu with h | h | h | h | h | h | h | h | h <;> rw [h] <;> rfl
theorem Tryz.infoCh : (Tryz.prog.info? 81).map (fun i => (i.zero, i.size, i.bytes)) = some (some (.agg #[.string ⟨#[]⟩, .int .i64 0, .bool false, .int .i64 0, .string ⟨#[]⟩, .int .i64 0, .bool false, .int .i64 0, .string ⟨#[]⟩]), 9, 96) := by kernel_rfl
theorem nm_cell {w : World} {b o : Nat} {r : List Nat} (h : Cells w b o (recs nmC r)) (i x : Nat) (hx : r[i]? = some x) : w.cell? ⟨b, o + i, none⟩ = some (.string (nm x)) := by
  have := rec_cell nmC_len h i x hx 0 _ rfl
  simpa using this
def dfG (v w : Nat → Pv) (i : Nat) : Option Ch := if v i = w i then none else some (i, v i, w i)
def DfPost (w : World) (a b : List Pr) (e : Ending) (w' : World) : Prop :=
  ∃ A c, e = .returned (.tuple #[.slice A (chs (vo a) (vo b)).length c, .int .i64 0]) ∧ w'.ownsRow w.heap.size 81 9 (.slice A (chs (vo a) (vo b)).length c) (chs (vo a) (vo b)).length (recs chC (chs (vo a) (vo b))) ∧ Below w.heap.size w w'
set_option maxRecDepth 100000 in
set_option maxHeartbeats 4000000 in
theorem differ_any (a b : List Pr) (n m ca cb : Nat) (A B : Option Addr) (w : World) (ha : PrsGood a) (hb : PrsGood b) (hn : a.length = n) (hm : b.length = m) (hn7 : n ≤ 100) (hm7 : m ≤ 100) (hra : Row w w.heap.size A (recs prC a)) (hrb : Row w w.heap.size B (recs prC b)) (hT : U8T w) :
    Calls Tryz.prog 50 #[.slice A n ca, .slice B m cb] w fun e w' => DfPost w a b e w' := by
  obtain ⟨i0, hi0, hz0, hz1, hz2⟩ := info_parts Tryz.infoCh
  have HRA := Lib.hid (fun V (hV : Below w.heap.size w V) => (hra.below hV).mono hV.size)
  have HRB := Lib.hid (fun V (hV : Below w.heap.size w V) => (hrb.below hV).mono hV.size)
  have HT := Lib.hid (fun V (hV : Below w.heap.size w V) => hT.below hV)
  have HA := Lib.hid ha
  have HBo := Lib.hid hb
  have HN := Lib.hid hn
  have HM := Lib.hid hm
  clear hra hrb hT ha hb hn hm
  go_enter Tryz.func50, Tryz.ntmps50
  go_wp2_with (fail)
  refine (checkProps_any a n ca A w HA.out.1 HN.out (by omega) (HRA.out _ (Below.refl _ _)) (HT.out _ (Below.refl _ _))).mono ?_
  rintro e w1 ⟨rfl, hb1⟩
  rw [HA.out.2]
  have HB1 := Lib.hid hb1
  clear hb1
  go_wp2_with (fail)
  refine (checkProps_any b m cb B w1 HBo.out.1 HM.out (by omega) (HRB.out _ HB1.out) (HT.out _ HB1.out)).mono ?_
  rintro e w2 ⟨rfl, hb2⟩
  rw [HBo.out.2]
  have HB2 := Lib.hid (HB1.out.trans (hb2.mono HB1.out.size))
  have hs2 := HB2.out.size
  clear hb2
  go_wp2_with (go_at_call 30; refine (first_ok 2 2 _ _ (by omega) (Cells.new _ _ _ _ _ rfl)).mono ?_; rintro e w' ⟨rfl, rfl⟩)
  obtain ⟨W, hW⟩ : ∃ W, W = (w2.alloc (.cells #[.int .i64 0, .int .i64 0] 30)).alloc (.cells #[.slice A n ca, .slice B m cb] 28) := ⟨_, rfl⟩
  have HBW := Lib.hid (show Below w.heap.size w W from by rw [hW]; exact (HB2.out.alloc hs2 _).alloc (by simp; omega) _)
  have hWc : Cells W (w2.heap.size + 1) 0 [.slice A n ca, .slice B m cb] := by rw [hW]; exact cells_atF rfl (by simp)
  have HLS := Lib.hid (show LsAt W (w2.heap.size + 1) [a, b] from by
    intro k l hk
    match k, hk with
    | 0, hk => cases hk; exact ⟨A, ca, by have := hWc 0 _ rfl; simpa [HN.out] using this, HRA.out _ HBW.out⟩
    | 1, hk => cases hk; exact ⟨B, cb, by have := hWc 1 _ rfl; simpa [HM.out] using this, HRB.out _ HBW.out⟩)
  have hsW := HBW.out.size
  rw [← hW]
  clear hW hWc
  refine (names_any W _ 2 2 [a, b] rfl (by omega) (fun l hl => by simp at hl; rcases hl with rfl | rfl; exact HA.out.1; exact HBo.out.1) (fun l hl => by simp at hl; rcases hl with rfl | rfl; rw [HN.out]; omega; rw [HM.out]; omega) HLS.out).mono ?_
  rintro e w3 ⟨An, cn, rfl, ho3, hb3⟩
  have HB3 := Lib.hid (HBW.out.trans (hb3.mono hsW))
  have HO3 := Lib.hid ho3
  have hs3 := hb3.size
  obtain ⟨N, eN⟩ : ∃ N, N = (nmsF [a, b]).length := ⟨_, rfl⟩
  rw [← eN] at HO3 ⊢
  have HNN := Lib.hid eN
  have HROWN := Lib.hid (own_row ho3)
  have hw3 := HB3.out.size
  obtain ⟨R, eR⟩ : ∃ R, R = nmsF [a, b] := ⟨_, rfl⟩
  have HRR := Lib.hid eR
  rw [← eR] at HO3 HROWN HNN
  have hR7 := Lib.hid (fun i (hi : i ∈ R) => ((mem_nmsF [a, b] i).1 (eR ▸ hi)).1)
  clear ho3 hb3 eN eR
  go_wp2_with (fail)
  have hN7 : N ≤ 7 := by
    rw [HNN.out, HRR.out]
    exact Nat.le_trans (List.length_filter_le _ _) (by simp)
  go_loopw [7, 26] (fun v s wr => ∃ i : Nat, i ≤ N ∧ s = .int .i64 (i : Int) ∧ wr.ownsRow w3.heap.size 81 9 v ((R.take i).filterMap (dfG (vo a) (vo b))).length (recs chC ((R.take i).filterMap (dfG (vo a) (vo b)))) ∧ Below w3.heap.size w3 wr) (fun _ s _ => N - (intOf s).toNat)
  case atStart => exact ⟨0, by omega, rfl, World.ownsRow_nil _ _ _ _, Below.refl _ _⟩
  case round =>
    obtain ⟨i, hiN, rfl, hown, hbr⟩ := hrel
    have hbs := hbr.size
    have HB := Lib.hid hbr
    have HBw := Lib.hid (HB3.out.trans (hbr.mono hw3))
    have HO := Lib.hid hown
    have hsw := HBw.out.size
    by_cases hlt : i < N
    · have hltI : (i : Int) < N := by omega
      clear hown hbr
      obtain ⟨x, hx⟩ : ∃ x, R[i]? = some x := ⟨_, List.getElem?_eq_getElem (by have := HNN.out; omega)⟩
      have hx7 := hR7.out x (List.mem_of_getElem? hx)
      obtain ⟨bn, on, rfl, hbn, hCn⟩ := (HROWN.out.below HB.out).posR nmC_len (by omega) (by have := HNN.out; omega)
      have n0 := nm_cell hCn i x hx
      have HX := Lib.hid hx
      clear hCn hx
      go_wp2_with (fail)
      refine (valueOf_any a n ca x A wr HA.out.1 HN.out (by omega) hx7 (HRA.out _ HBw.out)).mono ?_
      rintro e w4 ⟨rfl, hb4⟩
      have HB4 := Lib.hid (HB.out.trans (hb4.mono hbs))
      have HBw4 := Lib.hid (HBw.out.trans (hb4.mono hsw))
      have hs4 := hb4.size
      have HO4 := Lib.hid (own_belowP HO.out hb4)
      clear hb4
      go_wp2_with (fail)
      refine (valueOf_any b m cb x B w4 HBo.out.1 HM.out (by omega) hx7 (HRB.out _ HBw4.out)).mono ?_
      rintro e w5 ⟨rfl, hb5⟩
      have HB5 := Lib.hid (HB4.out.trans (hb5.mono (by omega)))
      have HBw5 := Lib.hid (HBw4.out.trans (hb5.mono (by omega)))
      have hs5 := hb5.size
      have HO5 := Lib.hid (own_belowP HO4.out hb5)
      clear hb5
      obtain ⟨⟨k1, f1, n1, s1⟩, e1⟩ : ∃ v, v = vo a x := ⟨_, rfl⟩
      obtain ⟨⟨k2, f2, n2, s2⟩, e2⟩ : ∃ v, v = vo b x := ⟨_, rfl⟩
      rw [← e1, ← e2]
      simp only
      have HE := Lib.hid (And.intro e1 e2)
      clear e1 e2
      go_upto_region 9 with (fail)
      generalize hWz : (w5.alloc (.cells #[.int .i64 k1, .bool f1, .int .i64 n1, .string s1] 35)).alloc (.cells #[.int .i64 k2, .bool f2, .int .i64 n2, .string s2] 35) = Wz
      have hz1' : Wz.heap[w5.heap.size]? = some (.cells #[.int .i64 k1, .bool f1, .int .i64 n1, .string s1] 35 (0, 0)) := by
        rw [← hWz, Below.heap_alloc _ _ _ (by simp)]; exact heap_new w5 _
      have hz2' : Wz.heap[w5.heap.size + 1]? = some (.cells #[.int .i64 k2, .bool f2, .int .i64 n2, .string s2] 35 (0, 0)) := by
        rw [← hWz]
        have := heap_new (w5.alloc (.cells #[.int .i64 k1, .bool f1, .int .i64 n1, .string s1] 35)) (.cells #[.int .i64 k2, .bool f2, .int .i64 n2, .string s2] 35)
        simpa using this
      have HBz := Lib.hid (show Below w3.heap.size w3 Wz by rw [← hWz]; exact (HB5.out.alloc (by omega) _).alloc (by simp; omega) _)
      have HOz := Lib.hid (show Wz.ownsRow w3.heap.size 81 9 u7 _ _ by rw [← hWz]; exact (HO5.out.alloc _).alloc _)
      have x0 := cell_of_blk (j := 0) hz1' rfl
      have x1 := cell_of_blk (j := 1) hz1' rfl
      have x2 := cell_of_blk (j := 2) hz1' rfl
      have x3 := cell_of_blk (j := 3) hz1' rfl
      have y0 := cell_of_blk (j := 0) hz2' rfl
      have y1 := cell_of_blk (j := 1) hz2' rfl
      have y2 := cell_of_blk (j := 2) hz2' rfl
      have y3 := cell_of_blk (j := 3) hz2' rfl
      clear hWz hz1' hz2'
      go_cut [36, 37, 38] (fun _ _ s wx => ∃ t : Bool, s = .bool t ∧ (t = true ↔ ¬ (Pv.mk k1 f1 n1 s1 = Pv.mk k2 f2 n2 s2)) ∧ wx = Wz)
      case first =>
        go_wp2_with (fail)
        all_goals go_meet
        all_goals first
          | exact ⟨true, rfl, by simp_all [toList_same], rfl⟩
          | exact ⟨false, rfl, by simp_all [toList_same], rfl⟩
      case rest =>
        obtain ⟨t, rfl, ht, rfl⟩ := hcut
        have HTK := Lib.hid (show R.take (i + 1) = R.take i ++ [x] from by rw [List.take_add_one, HX.out]; rfl)
        have hlz := HBz.out.size
        have hlen : (List.filterMap (dfG (vo a) (vo b)) (R.take i)).length ≤ 7 := by
          refine Nat.le_trans (List.length_filterMap_le _ _) ?_
          rw [List.length_take]; omega
        cases t
        · have HG := Lib.hid (show dfG (vo a) (vo b) x = none from by
            unfold dfG
            rw [← HE.out.1, ← HE.out.2, if_pos (by simpa using ht)])
          clear ht
          go_wp2_with (fail)
          go_roundw
          case rel =>
            refine ⟨i + 1, by omega, by simp, ?_, HBz.out⟩
            rw [HTK.out, List.filterMap_append, show List.filterMap (dfG (vo a) (vo b)) [x] = [] by simp [HG.out], List.append_nil]
            exact HOz.out
          case measure => simp [intOf]; omega
        · have HG := Lib.hid (show dfG (vo a) (vo b) x = some (x, ⟨k1, f1, n1, s1⟩, ⟨k2, f2, n2, s2⟩) from by
            unfold dfG
            rw [← HE.out.1, ← HE.out.2, if_neg (by simpa using ht)])
          clear ht
          go_wp2_with (at_builtin; refine wpList_append_own2 _ rfl _ _ 77 rfl w3.heap.size 81 i0 _ 9 96 Tryz.underlying77 hi0 hz0 hz1 hz2 rfl (by decide) _ _ _ rfl (HOz.out.alloc _) ⟨wc.heap.size, 0, none⟩ 1 1 (chC (x, ⟨k1, f1, n1, s1⟩, ⟨k2, f2, n2, s2⟩)) rfl rfl ?c1 ?c2 ?c3 ?c4 ?c5 ?_)
          case c1 => exact cells_add (Cells.new wc _ _ _ _ rfl)
          case c2 => exact chC_one _
          case c3 => unfold maxLen; omega
          case c4 => omega
          case c5 => simp; omega
          intro v6 w6 ho6 hg6 hm6
          have hlo : ∀ q, u7.ownBlock = some q → w3.heap.size ≤ q := fun q hq => (HOz.out.lt q hq).1
          have HB6 := Lib.hid ((HBz.out.alloc hlz _).grown hg6 (by simp; omega) hlo)
          have HO6 := Lib.hid ho6
          clear ho6 hg6 hm6 hlo
          go_wp2_with (fail)
          go_roundw
          case rel =>
            refine ⟨i + 1, by omega, by simp, ?_, HB6.out⟩
            rw [HTK.out, List.filterMap_append, show List.filterMap (dfG (vo a) (vo b)) [x] = [(x, ⟨k1, f1, n1, s1⟩, ⟨k2, f2, n2, s2⟩)] by simp [HG.out], recs_snoc, List.length_append, List.length_singleton]
            exact HO6.out
          case measure => simp [intOf]; omega
    · have hltI : ¬ (i : Int) < N := by omega
      have hiN' : i = N := by omega
      subst hiN'
      obtain ⟨Ad, cd, rfl⟩ := own_slice hown
      have hfin : (R.take i).filterMap (dfG (vo a) (vo b)) = chs (vo a) (vo b) := by
        rw [List.take_of_length_le (by rw [HNN.out]; exact Nat.le_refl _), HRR.out]
        exact differ_chs
      rw [hfin] at hown ⊢
      have HF := Lib.hid (show DfPost w a b (.returned (.tuple #[.slice Ad (chs (vo a) (vo b)).length cd, .int .i64 0])) wr from ⟨Ad, cd, rfl, own_mono hown hw3, HBw.out⟩)
      clear hown hbr hfin
      go_wp2_with (fail)
      go_ret2
      exact HF.out
end Go.Proofs.YtkcpfppjdjkjeaaGreatDoor
