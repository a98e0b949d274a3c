/- twin.Three of good properties by its contract. -/
import Derived.Test.YtldlfgaaolehoaaGreatDoorPrJ
import Derived.Test.YtldlfgaaolehoaaGreatDoorPrO
import Derived.Deep.CutRange
import Derived.Deep.CutBlock
namespace Go.Proofs.YtldlfgaaolehoaaGreatDoor
open Go.RowKit

theorem Tryz.infoCl : (Tryz.prog.info? 130).map (fun i => (i.zero, i.size, i.bytes)) = some (some (.agg #[.string ⟨#[]⟩, .int .i64 0, .bool false, .int .i64 0, .string ⟨#[]⟩, .int .i64 0, .bool false, .int .i64 0, .string ⟨#[]⟩, .int .i64 0, .bool false, .int .i64 0, .string ⟨#[]⟩]), 13, 136) := by kernel_rfl
def pvBlk (v : Pv) : Obj := .cells #[.int .i64 v.k, .bool v.f, .int .i64 v.n, .string v.s] 38 (0, 0)
theorem pv_set {V : World} {g : Nat} {v0 : Pv} (v : Pv) (hV : V.heap[g]? = some (pvBlk v0)) :
    ((((V.setCell ⟨g, 0, none⟩ (.int .i64 v.k)).setCell ⟨g, 1, none⟩ (.bool v.f)).setCell ⟨g, 2, none⟩ (.int .i64 v.n)).setCell ⟨g, 3, none⟩ (.string v.s)).heap[g]? = some (pvBlk v) ∧
    V.grownBy ((((V.setCell ⟨g, 0, none⟩ (.int .i64 v.k)).setCell ⟨g, 1, none⟩ (.bool v.f)).setCell ⟨g, 2, none⟩ (.int .i64 v.n)).setCell ⟨g, 3, none⟩ (.string v.s)) (some g) := by
  unfold pvBlk at hV ⊢
  refine ⟨?_, ?_⟩
  · simp [World.setCell, Array.getElem?_modify, hV]
  · exact grown_set (grown_set (grown_set (grown_set (grown_refl V (some g)) (q := ⟨g, 0, none⟩) (.inl rfl) _) (q := ⟨g, 1, none⟩) (.inl rfl) _) (q := ⟨g, 2, none⟩) (.inl rfl) _) (q := ⟨g, 3, none⟩) (.inl rfl) _
def clK (r : Nat) (o x y : Pv) : List Value := [.string (nm r), .int .i64 o.k, .bool o.f, .int .i64 o.n, .string o.s, .int .i64 x.k, .bool x.f, .int .i64 x.n, .string x.s, .int .i64 y.k, .bool y.f, .int .i64 y.n, .string y.s]
theorem clK_one (r : Nat) (o x y : Pv) : ∀ u ∈ clK r o x y, u.oneCell' = true := by
  intro u hu
  simp only [clK, List.mem_cons, List.not_mem_nil, or_false] at hu
  rcases hu with h | h | h | h | h | h | h | h | h | h | h | h | h <;> rw [h] <;> rfl
def thG (o a b : Nat → Pv) (i : Nat) : Option Pr := if thV (o i) (a i) (b i) = pvNone then none else some (i, thV (o i) (a i) (b i))
def thN (o a b : Nat → Pv) (l : List Nat) : Nat := (l.filter (fun i => thK (o i) (a i) (b i))).length
/-- What three lists make. -/
def thL (o a b : List Pr) : List Pr := prs (fun i => thV (vo o i) (vo a i) (vo b i))
def clN (o a b : List Pr) : Nat := thN (vo o) (vo a) (vo b) (nmsF [o, a, b])
theorem clN_turn (o a b : List Pr) : clN o a b = clN o b a := by
  unfold clN thN
  have h1 : nmsF [o, a, b] = nmsF [o, b, a] := by
    unfold nmsF
    refine List.filter_congr (fun i _ => ?_)
    simp only [List.any_cons, List.any_nil, Bool.or_false]
    rw [Bool.or_comm (a.any fun p => p.1 == i)]
  rw [h1]
  congr 1
  refine List.filter_congr (fun i _ => ?_)
  rw [thK_turn]
theorem thL_turn (o a b : List Pr) : thL o a b = thL o b a := by
  unfold thL
  congr 1
  funext i
  exact thV_turn _ _ _
theorem thL_same {o a : List Pr} (ha : PrsOk a) : thL o a o = a := by
  unfold thL
  have h : (fun i => thV (vo o i) (vo a i) (vo o i)) = vo a := by funext i; exact thV_same _ _
  rw [h]
  exact ha.prs.symm
theorem thL_ok {o a b : List Pr} (ho : PrsOk o) (ha : PrsOk a) (hb : PrsOk b) : PrsOk (thL o a b) := by
  refine prs_ok (fun i _ => ?_)
  rcases thV_or (vo o i) (vo a i) (vo b i) with h | h | h
  · simp only [h]; exact ho.vo i
  · simp only [h]; exact ha.vo i
  · simp only [h]; exact hb.vo i
def ThPost (o a b : List Pr) (w : World) (e : Ending) (w' : World) : Prop :=
  ((cpF (thL o a b) = 0 ∧ ∃ A c B d, e = .returned (.tuple #[.slice A (thL o a b).length c, .slice B (clN o a b) d, .int .i64 0]) ∧ w'.ownsRow w.heap.size 40 5 (.slice A (thL o a b).length c) (thL o a b).length (recs prC (thL o a b))) ∨
   (cpF (thL o a b) = 13 ∧ e = .returned (.tuple #[.slice none 0 0, .slice none 0 0, .int .i64 13]))) ∧ Below w.heap.size w w'
theorem four_blk (w : World) (o1 o2 o3 o4 : Obj) : ((((w.alloc o1).alloc o2).alloc o3).alloc o4).heap[w.heap.size]? = some o1 ∧ ((((w.alloc o1).alloc o2).alloc o3).alloc o4).heap[w.heap.size + 1]? = some o2 ∧ ((((w.alloc o1).alloc o2).alloc o3).alloc o4).heap[w.heap.size + 1 + 1]? = some o3 ∧ ((((w.alloc o1).alloc o2).alloc o3).alloc o4).heap[w.heap.size + 1 + 1 + 1]? = some o4 := by
  have e1 := heap_new w o1
  have e2 := heap_new (w.alloc o1) o2
  have e3 := heap_new ((w.alloc o1).alloc o2) o3
  have e4 := heap_new (((w.alloc o1).alloc o2).alloc o3) o4
  simp only [World.size_alloc] at e2 e3 e4
  refine ⟨?_, ?_, ?_, e4⟩
  · rw [Below.heap_alloc _ _ _ (by simp; omega), Below.heap_alloc _ _ _ (by simp; omega), Below.heap_alloc _ _ _ (by simp)]; exact e1
  · rw [Below.heap_alloc _ _ _ (by simp), Below.heap_alloc _ _ _ (by simp)]; exact e2
  · rw [Below.heap_alloc _ _ _ (by simp)]; exact e3
theorem own_neG {w w' : World} {base : Nat} {e : TypeId} {size n : Nat} {v : Value} {xs : List Value} {g : Nat} (h : w.ownsRow base e size v n xs) (hg : w.grownBy w' (some g)) (hne : ∀ q, v.ownBlock = some q → q ≠ g) : w'.ownsRow base e size v n xs := by
  refine h.kept (row := some g) hg ?_
  cases hv : v.ownBlock with
  | none => exact .inl rfl
  | some q => exact .inr (by have := hne q hv; simpa using this)
theorem own_apart {w : World} {base base' : Nat} {e e' : TypeId} {size size' n n' : Nat} {v v' : Value} {xs xs' : List Value} (h : w.ownsRow base e size v n xs) (h' : w.ownsRow base' e' size' v' n' xs') (hne : e' ≠ e) : v.ownBlock = none ∨ v.ownBlock ≠ v'.ownBlock := by
  rcases h.2 with ⟨rfl, _⟩ | ⟨g, cap, cur, rfl, _, hh, _⟩
  · exact .inl rfl
  · exact .inr (own_ne h' hh hne)
theorem cpF_two (l : List Pr) : cpF l = 0 ∨ cpF l = 13 := by
  unfold cpF
  split
  · exact .inr rfl
  · exact .inl rfl
theorem thN_snoc (o a b : Nat → Pv) (l : List Nat) (x : Nat) : thN o a b (l ++ [x]) = thN o a b l + (if thK (o x) (a x) (b x) then 1 else 0) := by
  unfold thN
  rw [List.filter_append, List.length_append, List.filter_cons]
  split
  · simp [*]
  · simp [*]
theorem pv_eq_iff {k k' n n' : Int} {f f' : Bool} {s s' : ByteArray} : (Pv.mk k f n s = Pv.mk k' f' n' s') ↔ (k = k' ∧ f = f' ∧ n = n' ∧ s.toList = s'.toList) := by
  rw [toList_same, Pv.mk.injEq]
/-- Where the switch ends: what was kept. -/
def ThMid (base g q : Nat) (bs : World) (v : Pv) (t : Bool) (ov : Value) (m : Nat) (l : List Pr) (cl : Value) (w : World) : Prop :=
  (∃ xs, w.ownsRow base 130 13 cl (q + (if t then 1 else 0)) xs) ∧ w.heap[g]? = some (pvBlk v) ∧ w.ownsRow base 40 5 ov m (recs prC l) ∧ Below base bs w
set_option maxRecDepth 100000 in
set_option maxHeartbeats 4000000 in
theorem three_any (o a b : List Pr) (no na nb co ca cb : Nat) (O A B : Option Addr) (w : World) (ho : PrsGood o) (ha : PrsGood a) (hb : PrsGood b) (hno : o.length = no) (hna : a.length = na) (hnb : b.length = nb) (hno7 : no ≤ 100) (hna7 : na ≤ 100) (hnb7 : nb ≤ 100)
    (hro : Row w w.heap.size O (recs prC o)) (hra : Row w w.heap.size A (recs prC a)) (hrb : Row w w.heap.size B (recs prC b)) (hT : U8T w) :
    Calls Tryz.prog 16 #[.slice O no co, .slice A na ca, .slice B nb cb] w fun e w' => ThPost o a b w e w' := by
  obtain ⟨i0, hi0, hz0, hz1, hz2⟩ := info_parts Tryz.infoP
  obtain ⟨j0, hj0, hy0, hy1, hy2⟩ := info_parts Tryz.infoCl
  have HRO := Lib.hid (fun V (hV : Below w.heap.size w V) => (hro.below hV).mono hV.size)
  have HRA := Lib.hid (fun V (hV : Below w.heap.size w V) => (hra.below hV).mono hV.size)
  have HRB := Lib.hid (fun V (hV : Below w.heap.size w V) => (hrb.below hV).mono hV.size)
  have HT := Lib.hid (fun V (hV : Below w.heap.size w V) => hT.below hV)
  have HOo := Lib.hid ho
  have HA := Lib.hid ha
  have HBo := Lib.hid hb
  have HNO := Lib.hid hno
  have HNA := Lib.hid hna
  have HNB := Lib.hid hnb
  clear hro hra hrb hT ho ha hb hno hna hnb
  go_enter Tryz.func16, Tryz.ntmps16
  go_wp2_with (fail)
  refine (checkProps_any o no co O w HOo.out.1 HNO.out (by omega) (HRO.out _ (Below.refl _ _)) (HT.out _ (Below.refl _ _))).mono ?_
  rintro e w1 ⟨rfl, hb1⟩
  rw [HOo.out.2]
  have HB1 := Lib.hid hb1
  clear hb1
  go_wp2_with (fail)
  refine (checkProps_any a na ca A w1 HA.out.1 HNA.out (by omega) (HRA.out _ HB1.out) (HT.out _ HB1.out)).mono ?_
  rintro e w2 ⟨rfl, hb2⟩
  rw [HA.out.2]
  have HB2 := Lib.hid (HB1.out.trans (hb2.mono HB1.out.size))
  clear hb2
  go_wp2_with (fail)
  refine (checkProps_any b nb cb B w2 HBo.out.1 HNB.out (by omega) (HRB.out _ HB2.out) (HT.out _ HB2.out)).mono ?_
  rintro e w3 ⟨rfl, hb3⟩
  rw [HBo.out.2]
  have HB3 := Lib.hid (HB2.out.trans (hb3.mono HB2.out.size))
  have hs3 := HB3.out.size
  clear hb3
  go_wp2_with (go_at_call 60; refine (first_ok 3 3 _ _ (by omega) (Cells.new _ _ _ _ _ rfl)).mono ?_; rintro e w' ⟨rfl, rfl⟩)
  obtain ⟨W, hW⟩ : ∃ W, W = (w3.alloc (.cells #[.int .i64 0, .int .i64 0, .int .i64 0] 29)).alloc (.cells #[.slice O no co, .slice A na ca, .slice B nb cb] 26) := ⟨_, rfl⟩
  have HBW := Lib.hid (show Below w.heap.size w W from by rw [hW]; exact (HB3.out.alloc hs3 _).alloc (by simp; omega) _)
  have hWc : Cells W (w3.heap.size + 1) 0 [.slice O no co, .slice A na ca, .slice B nb cb] := by rw [hW]; exact cells_atF rfl (by simp)
  have HLS := Lib.hid (show LsAt W (w3.heap.size + 1) [o, a, b] from by
    intro k l hk
    match k, hk with
    | 0, hk => cases hk; exact ⟨O, co, by have := hWc 0 _ rfl; simpa [HNO.out] using this, HRO.out _ HBW.out⟩
    | 1, hk => cases hk; exact ⟨A, ca, by have := hWc 1 _ rfl; simpa [HNA.out] using this, HRA.out _ HBW.out⟩
    | 2, hk => cases hk; exact ⟨B, cb, by have := hWc 2 _ rfl; simpa [HNB.out] using this, HRB.out _ HBW.out⟩)
  have hsW := HBW.out.size
  rw [← hW]
  clear hW hWc
  refine (names_any W _ 3 3 [o, a, b] rfl (by omega) (fun l hl => by simp at hl; rcases hl with rfl | rfl | rfl; exact HOo.out.1; exact HA.out.1; exact HBo.out.1) (fun l hl => by simp at hl; rcases hl with rfl | rfl | rfl; rw [HNO.out]; omega; rw [HNA.out]; omega; rw [HNB.out]; omega) HLS.out).mono ?_
  rintro e w4 ⟨An, cn, rfl, ho4, hb4⟩
  have HB4 := Lib.hid (HBW.out.trans (hb4.mono hsW))
  obtain ⟨R, eR⟩ : ∃ R, R = nmsF [o, a, b] := ⟨_, rfl⟩
  obtain ⟨N, eN⟩ : ∃ N, N = (nmsF [o, a, b]).length := ⟨_, rfl⟩
  have HRR := Lib.hid eR
  rw [← eR] at eN
  have HNN := Lib.hid eN
  rw [← eR, ← eN] at ho4 ⊢
  have HROWN := Lib.hid (own_row ho4)
  have hw4 := HB4.out.size
  have hR7 := Lib.hid (fun i (hi : i ∈ R) => ((mem_nmsF [o, a, b] i).1 (eR ▸ hi)).1)
  clear ho4 hb4 eN eR
  go_wp2_with (fail)
  have hN7 : N ≤ 7 := by
    rw [HNN.out, HRR.out]
    exact Nat.le_trans (List.length_filter_le _ _) (by simp)
  go_loopw [10, 11, 36] (fun v cl s wr => ∃ i : Nat, i ≤ N ∧ s = .int .i64 (i : Int) ∧ wr.ownsRow w4.heap.size 40 5 v ((R.take i).filterMap (thG (vo o) (vo a) (vo b))).length (recs prC ((R.take i).filterMap (thG (vo o) (vo a) (vo b)))) ∧ (∃ xs, wr.ownsRow w4.heap.size 130 13 cl (thN (vo o) (vo a) (vo b) (R.take i)) xs) ∧ Below w4.heap.size w4 wr) (fun _ _ s _ => N - (intOf s).toNat)
  case atStart => exact ⟨0, by omega, rfl, World.ownsRow_nil _ _ _ _, ⟨[], World.ownsRow_nil _ _ _ _⟩, Below.refl _ _⟩
  case round =>
    obtain ⟨i, hiN, rfl, hown, ⟨xs0, hcl⟩, hbr⟩ := hrel
    have hbs := hbr.size
    have HB := Lib.hid hbr
    have HBw := Lib.hid (HB4.out.trans (hbr.mono hw4))
    have HO := Lib.hid hown
    have HC := Lib.hid hcl
    have hsw := HBw.out.size
    by_cases hlt : i < N
    · have hltI : (i : Int) < N := by omega
      clear hown hbr hcl
      obtain ⟨x, hx⟩ : ∃ x, R[i]? = some x := ⟨_, List.getElem?_eq_getElem (by have := HNN.out; omega)⟩
      have hx7 := hR7.out x (List.mem_of_getElem? hx)
      obtain ⟨bn, on, rfl, hbn, hCn⟩ := (HROWN.out.below HB.out).posR nmC_len (by omega) (by have := HNN.out; omega)
      have n0 := nm_cell hCn i x hx
      have HTK := Lib.hid (show R.take (i + 1) = R.take i ++ [x] from by rw [List.take_add_one, hx]; rfl)
      clear hCn hx
      go_wp2_with (fail)
      refine (valueOf_any o no co x O wr HOo.out.1 HNO.out (by omega) hx7 (HRO.out _ HBw.out)).mono ?_
      rintro e w5 ⟨rfl, hb5⟩
      have HB5 := Lib.hid (HB.out.trans (hb5.mono hbs))
      have HBw5 := Lib.hid (HBw.out.trans (hb5.mono hsw))
      have hs5 := hb5.size
      have HO5 := Lib.hid (own_belowP HO.out hb5)
      have HC5 := Lib.hid (own_belowP HC.out hb5)
      clear hb5
      go_wp2_with (fail)
      refine (valueOf_any a na ca x A w5 HA.out.1 HNA.out (by omega) hx7 (HRA.out _ HBw5.out)).mono ?_
      rintro e w6 ⟨rfl, hb6⟩
      have HB6 := Lib.hid (HB5.out.trans (hb6.mono (by omega)))
      have HBw6 := Lib.hid (HBw5.out.trans (hb6.mono (by omega)))
      have hs6 := hb6.size
      have HO6 := Lib.hid (own_belowP HO5.out hb6)
      have HC6 := Lib.hid (own_belowP HC5.out hb6)
      clear hb6
      go_wp2_with (fail)
      refine (valueOf_any b nb cb x B w6 HBo.out.1 HNB.out (by omega) hx7 (HRB.out _ HBw6.out)).mono ?_
      rintro e w7 ⟨rfl, hb7⟩
      have HB7 := Lib.hid (HB6.out.trans (hb7.mono (by omega)))
      have hs7 := hb7.size
      have HO7 := Lib.hid (own_belowP HO6.out hb7)
      have HC7 := Lib.hid (own_belowP HC6.out hb7)
      clear hb7
      obtain ⟨vo1, e0⟩ : ∃ v, v = vo o x := ⟨_, rfl⟩
      obtain ⟨va1, e1⟩ : ∃ v, v = vo a x := ⟨_, rfl⟩
      obtain ⟨vb1, e2⟩ : ∃ v, v = vo b x := ⟨_, rfl⟩
      have HVK := Lib.hid (show thV vo1 va1 vb1 = pvNone ∨ PvOk (thV vo1 va1 vb1) from by
        rcases thV_or vo1 va1 vb1 with h | h | h <;> rw [h]
        · rw [e0]; exact HOo.out.1.vo x
        · rw [e1]; exact HA.out.1.vo x
        · rw [e2]; exact HBo.out.1.vo x)
      rw [← e0, ← e1, ← e2]
      have HE := Lib.hid (And.intro e0 (And.intro e1 e2))
      clear e0 e1 e2
      obtain ⟨k0, f0, n0', s0⟩ := vo1
      obtain ⟨k1, f1, n1, s1⟩ := va1
      obtain ⟨k2, f2, n2, s2⟩ := vb1
      simp only
      go_upto_block 2 with (fail)
      have hblk := four_blk w7 (.cells #[.int .i64 k0, .bool f0, .int .i64 n0', .string s0] 38) (.cells #[.int .i64 k1, .bool f1, .int .i64 n1, .string s1] 38) (.cells #[.int .i64 k2, .bool f2, .int .i64 n2, .string s2] 38) (.cells #[.int .i64 k0, .bool f0, .int .i64 n0', .string s0] 38)
      generalize hWz : (((w7.alloc (.cells #[.int .i64 k0, .bool f0, .int .i64 n0', .string s0] 38)).alloc (.cells #[.int .i64 k1, .bool f1, .int .i64 n1, .string s1] 38)).alloc (.cells #[.int .i64 k2, .bool f2, .int .i64 n2, .string s2] 38)).alloc (.cells #[.int .i64 k0, .bool f0, .int .i64 n0', .string s0] 38) = Wz at hblk
      have HBz := Lib.hid (show Below w4.heap.size w4 Wz from by rw [← hWz]; exact (((HB7.out.alloc (by omega) _).alloc (by simp; omega) _).alloc (by simp; omega) _).alloc (by simp; omega) _)
      have HOz := Lib.hid (show Wz.ownsRow w4.heap.size 40 5 u10 _ _ from by rw [← hWz]; exact (((HO7.out.alloc _).alloc _).alloc _).alloc _)
      have HCz := Lib.hid (show Wz.ownsRow w4.heap.size 130 13 u11 _ _ from by rw [← hWz]; exact (((HC7.out.alloc _).alloc _).alloc _).alloc _)
      have hWs : Wz.heap.size = w7.heap.size + 1 + 1 + 1 + 1 := by rw [← hWz]; simp
      have HZ3 := Lib.hid (show Wz.heap[w7.heap.size + 1 + 1 + 1]? = some (pvBlk ⟨k0, f0, n0', s0⟩) from hblk.2.2.2)
      have HON := Lib.hid (fun q (hq : u10.ownBlock = some q) => show q < w7.heap.size from (HO7.out.lt q hq).2)
      have HCN := Lib.hid (fun q (hq : u11.ownBlock = some q) => show q < w7.heap.size from (HC7.out.lt q hq).2)
      have x0 := cell_of_blk (j := 0) hblk.1 rfl
      have x1 := cell_of_blk (j := 1) hblk.1 rfl
      have x2 := cell_of_blk (j := 2) hblk.1 rfl
      have x3 := cell_of_blk (j := 3) hblk.1 rfl
      have y0 := cell_of_blk (j := 0) hblk.2.1 rfl
      have y1 := cell_of_blk (j := 1) hblk.2.1 rfl
      have y2 := cell_of_blk (j := 2) hblk.2.1 rfl
      have y3 := cell_of_blk (j := 3) hblk.2.1 rfl
      have z0 := cell_of_blk (j := 0) hblk.2.2.1 rfl
      have z1 := cell_of_blk (j := 1) hblk.2.2.1 rfl
      have z2 := cell_of_blk (j := 2) hblk.2.2.1 rfl
      have z3 := cell_of_blk (j := 3) hblk.2.2.1 rfl
      have t0 := cell_of_blk (j := 0) hblk.2.2.2 rfl
      have t1 := cell_of_blk (j := 1) hblk.2.2.2 rfl
      have t2 := cell_of_blk (j := 2) hblk.2.2.2 rfl
      have t3 := cell_of_blk (j := 3) hblk.2.2.2 rfl
      have fr : ∀ j, Wz.frozen? ⟨w7.heap.size + 1 + 1 + 1, j, none⟩ = false := by intro j; simp [World.frozen?, hblk.2.2.2]
      have fr0 := fr 0
      have fr1 := fr 1
      have fr2 := fr 2
      have fr3 := fr 3
      have hszW : w4.heap.size ≤ w7.heap.size := HB7.out.size
      clear hWz hblk fr
      have hsz := HBz.out.size
      have hlen : (List.filterMap (thG (vo o) (vo a) (vo b)) (R.take i)).length ≤ 7 := by
        refine Nat.le_trans (List.length_filterMap_le _ _) ?_
        rw [List.length_take]; omega
      have hlenC : thN (vo o) (vo a) (vo b) (R.take i) ≤ 7 := by
        refine Nat.le_trans (List.length_filter_le _ _) ?_
        rw [List.length_take]; omega
      go_cut [11] from 37 to 82 (fun cl wx => ThMid w4.heap.size (w7.heap.size + 1 + 1 + 1) (thN (vo o) (vo a) (vo b) (R.take i)) w4 (thV ⟨k0, f0, n0', s0⟩ ⟨k1, f1, n1, s1⟩ ⟨k2, f2, n2, s2⟩) (thK ⟨k0, f0, n0', s0⟩ ⟨k1, f1, n1, s1⟩ ⟨k2, f2, n2, s2⟩) u10 ((R.take i).filterMap (thG (vo o) (vo a) (vo b))).length ((R.take i).filterMap (thG (vo o) (vo a) (vo b))) cl wx)
      case first =>
        go_upto_region 12 with (fail)
        go_cut [58] from 37 to 82 (fun s wx => ∃ t : Bool, s = .bool t ∧ (t = true ↔ (Pv.mk k1 f1 n1 s1 = Pv.mk k0 f0 n0' s0 ∨ Pv.mk k1 f1 n1 s1 = Pv.mk k2 f2 n2 s2)) ∧ wx = Wz)
        case first =>
          go_wp2_with (fail)
          all_goals go_meet
          all_goals first
            | exact ⟨true, rfl, iff_of_true rfl (.inl (pv_eq_iff.2 ⟨by assumption, by assumption, by assumption, by assumption⟩)), rfl⟩
            | exact ⟨true, rfl, iff_of_true rfl (.inr (pv_eq_iff.2 ⟨(by first | assumption | exact (‹k1 = k0›).trans ‹k0 = k2›), (by first | assumption | exact (‹f1 = f0›).trans ‹f0 = f2›), (by first | assumption | exact (‹n1 = n0'›).trans ‹n0' = n2›), by assumption⟩)), rfl⟩
            | exact ⟨false, rfl, iff_of_false (by decide) (by
                rintro (h | h) <;> obtain ⟨a1, a2, a3, a4⟩ := pv_eq_iff.1 h <;> first
                  | exact absurd a1 (by assumption)
                  | exact absurd a2 (by assumption)
                  | exact absurd a3 (by assumption)
                  | exact absurd a4 (by assumption)
                  | exact absurd ((‹k1 = k0›).symm.trans a1) (by assumption)
                  | exact absurd ((‹f1 = f0›).symm.trans a2) (by assumption)
                  | exact absurd ((‹n1 = n0'›).symm.trans a3) (by assumption)), rfl⟩
        case rest =>
          obtain ⟨t, rfl, ht, rfl⟩ := hcut
          cases t
          · have hno : ¬ (Pv.mk k1 f1 n1 s1 = Pv.mk k0 f0 n0' s0 ∨ Pv.mk k1 f1 n1 s1 = Pv.mk k2 f2 n2 s2) := by simpa using ht
            have HNo := Lib.hid hno
            clear ht hno
            go_upto_region 14 with (fail)
            obtain ⟨Wy, eWy⟩ : ∃ Wy, Wy = wc := ⟨_, rfl⟩
            subst eWy
            go_cut [68] from 37 to 82 (fun s wx => ∃ t : Bool, s = .bool t ∧ (t = true ↔ (Pv.mk k2 f2 n2 s2 = Pv.mk k0 f0 n0' s0)) ∧ wx = Wy)
            case first =>
              go_wp2_with (fail)
              all_goals go_meet
              all_goals first
                | exact ⟨true, rfl, iff_of_true rfl (pv_eq_iff.2 ⟨by assumption, by assumption, by assumption, by assumption⟩), rfl⟩
                | exact ⟨false, rfl, iff_of_false (by decide) (by
                    intro h
                    obtain ⟨a1, a2, a3, a4⟩ := pv_eq_iff.1 h
                    first
                      | exact absurd a1 (by assumption)
                      | exact absurd a2 (by assumption)
                      | exact absurd a3 (by assumption)
                      | exact absurd a4 (by assumption)), rfl⟩
            case rest =>
              obtain ⟨t, rfl, ht, rfl⟩ := hcut
              cases t
              · have HF := Lib.hid (show thV ⟨k0, f0, n0', s0⟩ ⟨k1, f1, n1, s1⟩ ⟨k2, f2, n2, s2⟩ = ⟨k0, f0, n0', s0⟩ ∧ thK ⟨k0, f0, n0', s0⟩ ⟨k1, f1, n1, s1⟩ ⟨k2, f2, n2, s2⟩ = true from by
                  have h1 := HNo.out
                  have h2 : ¬ (Pv.mk k2 f2 n2 s2 = Pv.mk k0 f0 n0' s0) := by simpa using ht
                  unfold thV thK
                  rw [if_neg h1, if_neg h2]
                  rw [not_or] at h1
                  exact ⟨rfl, by rw [decide_eq_false h1.1, decide_eq_false h1.2, decide_eq_false h2]; rfl⟩)
                clear ht
                go_wp2_with (at_builtin; refine wpList_append_own2 _ rfl _ _ 41 rfl w4.heap.size 130 j0 _ 13 136 Tryz.underlying41 hj0 hy0 hy1 hy2 rfl (by decide) _ _ _ rfl (HCz.out.alloc _) ⟨_, 0, none⟩ 1 1 (clK x ⟨k0, f0, n0', s0⟩ ⟨k1, f1, n1, s1⟩ ⟨k2, f2, n2, s2⟩) rfl rfl ?c1 ?c2 ?c3 ?c4 ?c5 ?_)
                case c1 => exact cells_add (cells_atF rfl (by first | rfl | omega | simp))
                case c2 => exact clK_one _ _ _ _
                case c3 => unfold maxLen; omega
                case c4 => omega
                case c5 => simp; omega
                intro v8 w8 ho8 hg8 hm8
                have hlo : ∀ q, u11.ownBlock = some q → w4.heap.size ≤ q := fun q hq => (HCz.out.lt q hq).1
                have HB8 := Lib.hid ((HBz.out.alloc HBz.out.size _).grown hg8 (by have := HBz.out.size; first | omega | (simp; omega)) hlo)
                have HO8 := Lib.hid (((HOz.out.alloc _).kept (row := u11.ownBlock) hg8 (own_apart HOz.out HCz.out (by decide))))
                have HZ8 := Lib.hid ((hg8.block _ (by simp; omega) (fun e => by have := HCN.out _ e.symm; omega)).trans ((Below.heap_alloc _ _ _ (by omega)).trans HZ3.out))
                have HC8 := Lib.hid ho8
                clear ho8 hg8 hm8 hlo
                go_wp2_with (fail)
                go_meet
                rw [HF.out.1, HF.out.2]
                exact ⟨⟨_, HC8.out⟩, HZ8.out, HO8.out, HB8.out⟩
              · have HF := Lib.hid (show thV ⟨k0, f0, n0', s0⟩ ⟨k1, f1, n1, s1⟩ ⟨k2, f2, n2, s2⟩ = ⟨k1, f1, n1, s1⟩ ∧ thK ⟨k0, f0, n0', s0⟩ ⟨k1, f1, n1, s1⟩ ⟨k2, f2, n2, s2⟩ = false from by
                  have h1 := HNo.out
                  have h2 : (Pv.mk k2 f2 n2 s2 = Pv.mk k0 f0 n0' s0) := by simpa using ht
                  unfold thV thK
                  rw [if_neg h1, if_pos h2]
                  exact ⟨rfl, by rw [decide_eq_true h2]; simp⟩)
                clear ht
                go_wp2_with (fail)
                go_meet
                have hs := pv_set ⟨k1, f1, n1, s1⟩ HZ3.out
                rw [HF.out.1, HF.out.2]
                exact ⟨⟨_, own_neG HCz.out hs.2 (fun q hq => by have := HCN.out q hq; omega)⟩, hs.1, own_neG HOz.out hs.2 (fun q hq => by have := HON.out q hq; omega), HBz.out.grown hs.2 HBz.out.size (fun q hq => by cases hq; omega)⟩
          · have HF := Lib.hid (show thV ⟨k0, f0, n0', s0⟩ ⟨k1, f1, n1, s1⟩ ⟨k2, f2, n2, s2⟩ = ⟨k2, f2, n2, s2⟩ ∧ thK ⟨k0, f0, n0', s0⟩ ⟨k1, f1, n1, s1⟩ ⟨k2, f2, n2, s2⟩ = false from by
              have h1 := ht.1 rfl
              unfold thV thK
              rw [if_pos h1]
              refine ⟨rfl, ?_⟩
              rcases h1 with h | h
              · rw [decide_eq_true h]; simp
              · rw [decide_eq_true h]; simp)
            clear ht
            go_wp2_with (fail)
            go_meet
            have hs := pv_set ⟨k2, f2, n2, s2⟩ HZ3.out
            rw [HF.out.1, HF.out.2]
            exact ⟨⟨_, own_neG HCz.out hs.2 (fun q hq => by have := HCN.out q hq; omega)⟩, hs.1, own_neG HOz.out hs.2 (fun q hq => by have := HON.out q hq; omega), HBz.out.grown hs.2 HBz.out.size (fun q hq => by cases hq; omega)⟩
      case rest =>
        obtain ⟨⟨xs, hc⟩, hz, ho, hb⟩ := hcut
        have HTN := Lib.hid (show thN (vo o) (vo a) (vo b) (R.take (i + 1)) = thN (vo o) (vo a) (vo b) (R.take i) + (if thK ⟨k0, f0, n0', s0⟩ ⟨k1, f1, n1, s1⟩ ⟨k2, f2, n2, s2⟩ then 1 else 0) from by
          rw [HTK.out, thN_snoc, HE.out.1, HE.out.2.1, HE.out.2.2])
        have HTV := Lib.hid (show thG (vo o) (vo a) (vo b) x = if thV ⟨k0, f0, n0', s0⟩ ⟨k1, f1, n1, s1⟩ ⟨k2, f2, n2, s2⟩ = pvNone then none else some (x, thV ⟨k0, f0, n0', s0⟩ ⟨k1, f1, n1, s1⟩ ⟨k2, f2, n2, s2⟩) from by
          rw [HE.out.1, HE.out.2.1, HE.out.2.2]; rfl)
        have hvk := HVK.out
        rw [← HTN.out] at hc
        obtain ⟨v, ev⟩ : ∃ v, v = thV ⟨k0, f0, n0', s0⟩ ⟨k1, f1, n1, s1⟩ ⟨k2, f2, n2, s2⟩ := ⟨_, rfl⟩
        rw [← ev] at hz hvk HTV
        have r0 := cell_of_blk (j := 0) hz rfl
        have r1 := cell_of_blk (j := 1) hz rfl
        have r2 := cell_of_blk (j := 2) hz rfl
        have r3 := cell_of_blk (j := 3) hz rfl
        have HCc := Lib.hid hc
        have HOc := Lib.hid ho
        have HBc := Lib.hid hb
        have hsc := hb.size
        clear hc hz ho hb ev x0 x1 x2 x3 y0 y1 y2 y3 z0 z1 z2 z3 t0 t1 t2 t3 fr0 fr1 fr2 fr3
        by_cases hv : v = pvNone
        · have HG := Lib.hid (show thG (vo o) (vo a) (vo b) x = none from by rw [HTV.out, if_pos hv])
          clear HTV hvk
          subst hv
          simp only [pvNone] at r0 r1 r2 r3
          go_wp2_with (fail)
          go_roundw
          case rel =>
            refine ⟨i + 1, by omega, by simp, ?_, ⟨_, HCc.out⟩, HBc.out⟩
            rw [HTK.out, List.filterMap_append, show List.filterMap (thG (vo o) (vo a) (vo b)) [x] = [] by simp [HG.out], List.append_nil]
            exact HOc.out
          case measure => simp [intOf]; omega
        · have HG := Lib.hid (show thG (vo o) (vo a) (vo b) x = some (x, v) from by rw [HTV.out, if_neg hv])
          have hk2 := (hvk.resolve_left hv).kne
          have hk3 : (v.k != 0) = true := by simpa using hk2
          clear HTV hvk hv
          go_wp2_with (at_builtin; refine wpList_append_own2 _ rfl _ _ 26 rfl w4.heap.size 40 i0 _ 5 56 Tryz.underlying26 hi0 hz0 hz1 hz2 rfl (by decide) _ _ _ rfl (HOc.out.alloc _) ⟨_, 0, none⟩ 1 1 (prC (x, v)) rfl rfl ?c1 ?c2 ?c3 ?c4 ?c5 ?_)
          case c1 => exact cells_add (cells_atF rfl (by first | rfl | simp))
          case c2 => exact prC_one _
          case c3 => unfold maxLen; omega
          case c4 => omega
          case c5 => simp; omega
          intro v9 w9 ho9 hg9 hm9
          have hlo : ∀ q, u10.ownBlock = some q → w4.heap.size ≤ q := fun q hq => (HOc.out.lt q hq).1
          have HB9 := Lib.hid ((HBc.out.alloc HBc.out.size _).grown hg9 (by have := HBc.out.size; first | omega | (simp; omega)) hlo)
          have HC9 := Lib.hid (((HCc.out.alloc _).kept (row := u10.ownBlock) hg9 (own_apart HCc.out HOc.out (by decide))))
          have HO9 := Lib.hid ho9
          clear ho9 hg9 hm9 hlo
          go_wp2_with (fail)
          go_roundw
          case rel =>
            refine ⟨i + 1, by omega, by simp, ?_, ⟨_, HC9.out⟩, HB9.out⟩
            rw [HTK.out, List.filterMap_append, show List.filterMap (thG (vo o) (vo a) (vo b)) [x] = [(x, v)] by simp [HG.out], recs_snoc, List.length_append, List.length_singleton]
            exact HO9.out
          case measure => simp [intOf]; omega
    · have hltI : ¬ (i : Int) < N := by omega
      have hiN' : i = N := by omega
      subst hiN'
      have hfin : (R.take i).filterMap (thG (vo o) (vo a) (vo b)) = thL o a b := by
        rw [List.take_of_length_le (by rw [HNN.out]; exact Nat.le_refl _), HRR.out]
        exact three_prs
      have hfc : thN (vo o) (vo a) (vo b) (R.take i) = clN o a b := by
        rw [List.take_of_length_le (by rw [HNN.out]; exact Nat.le_refl _), HRR.out]
        rfl
      rw [hfin] at hown
      rw [hfc] at hcl
      have hT7 : (thL o a b).length ≤ 7 := by
        refine Nat.le_trans (List.length_filterMap_le _ _) ?_
        simp
      obtain ⟨T, eT⟩ : ∃ T, T = thL o a b := ⟨_, rfl⟩
      have hTok := thL_ok HOo.out.1 HA.out.1 HBo.out.1
      have HET := Lib.hid eT
      rw [← eT] at hown hT7 hTok
      obtain ⟨K, eK⟩ : ∃ K, K = T.length := ⟨_, rfl⟩
      rw [← eK] at hown hT7
      have HEK := Lib.hid eK
      obtain ⟨Ad, cd, rfl⟩ := own_slice hown
      obtain ⟨Cd, cc, rfl⟩ := own_slice hcl
      have HOF := Lib.hid hown
      clear hown hcl hbr hfin hfc eT eK HO HC
      go_wp2_with (fail)
      refine (checkProps_any T K cd Ad wr hTok HEK.out.symm (by omega) (own_row HOF.out) (HT.out _ HBw.out)).mono ?_
      rintro e w5 ⟨rfl, hb5⟩
      have HOE := Lib.hid (own_mono (own_belowP HOF.out hb5) hw4)
      have HB5 := Lib.hid (HBw.out.trans (hb5.mono hsw))
      clear hb5 hTok
      rcases cpF_two T with h | h
      · rw [h]
        have HF := Lib.hid (show ThPost o a b w (.returned (.tuple #[.slice Ad K cd, .slice Cd (clN o a b) cc, .int .i64 0])) w5 from ⟨.inl ⟨by rw [← HET.out]; exact h, Ad, cd, Cd, cc, by rw [← HET.out, ← HEK.out], by rw [← HET.out, ← HEK.out]; exact HOE.out⟩, HB5.out⟩)
        clear h
        go_wp2_with (fail)
        refine bodyPost_ret (v := .tuple #[.slice Ad K cd, .slice Cd (clN o a b) cc, .int .i64 0]) (by simp [results, Tryz.results16, go_sem]) rfl HF.out
      · rw [h]
        have HF := Lib.hid (show ThPost o a b w (.returned (.tuple #[.slice none 0 0, .slice none 0 0, .int .i64 13])) w5 from ⟨.inr ⟨by rw [← HET.out]; exact h, rfl⟩, HB5.out⟩)
        clear h
        go_wp2_with (fail)
        refine bodyPost_ret (v := .tuple #[.slice none 0 0, .slice none 0 0, .int .i64 13]) (by simp [results, Tryz.results16, go_sem]) rfl HF.out
end Go.Proofs.YtldlfgaaolehoaaGreatDoor
