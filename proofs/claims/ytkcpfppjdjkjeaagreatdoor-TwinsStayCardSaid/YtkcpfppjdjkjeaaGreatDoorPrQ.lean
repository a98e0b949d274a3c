/- twin.Apply of the changes between good properties by its contract. -/
import Derived.Test.YtkcpfppjdjkjeaaGreatDoorPrK
import Derived.Test.YtkcpfppjdjkjeaaGreatDoorPrM
import Derived.Test.YtkcpfppjdjkjeaaGreatDoorPrO
import Derived.Maps.OwnSet
import Derived.Maps.OwnOps
namespace Go.Proofs.YtkcpfppjdjkjeaaGreatDoor
open Go.RowKit Go.Maps Go.WideMaps

/-- How a value of a property reads: its shape alone. -/
def pvR (v : Value) : Option (DataW Nat × List MemPlace) :=
  match v with
  | .agg cs => match cs.toList with
    | [.int .i64 _, .bool _, .int .i64 _, .string _] => some (.agg [], [])
    | _ => none
  | _ => none
theorem pvR_mk (k n : Int) (f : Bool) (s : ByteArray) : pvR (.agg #[.int .i64 k, .bool f, .int .i64 n, .string s]) = some (.agg [], []) := rfl
theorem pvR_inv {v : Value} {z : DataW Nat × List MemPlace} (h : pvR v = some z) : ∃ k f n s, v = .agg #[.int .i64 k, .bool f, .int .i64 n, .string s] := by
  unfold pvR at h
  split at h
  · next cs =>
    split at h
    · next k f n s e =>
      refine ⟨k, f, n, s, ?_⟩
      cases cs
      simp only at e
      rw [e]
    · cases h
  · cases h
theorem Tryz.zeroPv (w : World) : (zeroValue 35).run Tryz.prog w = .ok (.agg #[.int .i64 0, .bool false, .int .i64 0, .string ⟨#[]⟩]) w := Tryz.zeroValue35 w
def mpK (r : Nat) : Lit := .string (nmL r)
def mpD (C : List Ch) : DataW Nat := setOf (.agg []) (C.map (fun c => mpK c.1))
theorem mpD_snoc (C : List Ch) (c : Ch) : mpD (C ++ [c]) = (mpD C).put (mpK c.1) (.agg []) := by
  unfold mpD
  rw [List.map_append, List.map_singleton, setOf_snoc]
theorem mpD_has (C : List Ch) (r : Nat) (h7 : ∀ c ∈ C, c.1 < 7) (hr : r < 7) : has (mpD C) (mpK r) = C.any (fun c => c.1 == r) := by
  unfold mpD
  rw [has_setOf _ _ _ (by intro x hx; rw [List.mem_map] at hx; obtain ⟨c, _, rfl⟩ := hx; trivial), List.any_map]
  induction C with
  | nil => rfl
  | cons c C ih =>
    rw [List.any_cons, List.any_cons, ih (fun x hx => h7 x (List.mem_cons_of_mem _ hx))]
    congr 1
    have hc := h7 c (by simp)
    show (mpK c.1).sameKey (mpK r) = (c.1 == r)
    by_cases e : c.1 = r
    · rw [e]
      simp [WideAt.sameKey_self (show WideAt.IsKeyLit (mpK r) from trivial)]
    · rw [sameKey_ne (fun e' => e (nmL_inj _ _ hc hr (by injection e')))]
      simp [e]
theorem Tryz.keyedS : Keyed Tryz.prog 9 := string_keyed Tryz.underlying9
theorem nm_key (r : Nat) : keyOf Tryz.prog 9 (.string (nm r)) = some (mpK r) := by
  have hs : (nm r).size ≤ maxLen := by
    have h := nm_min r
    rw [h]
    have h7 : min r 6 < 7 := by omega
    rcases seven _ h7 with e | e | e | e | e | e | e <;> rw [e] <;> exact of_decide_eq_true (by kernel_rfl)
  rw [keyOf_string_mk Tryz.underlying9 hs]
  rfl
theorem map_below {w w' : World} {b n : Nat} {D : DataW Nat} {B : Nat} (h : w.ownsMap Tryz.prog 9 pvR b n D) (hb : Below B w w') (hB : b < B) : w'.ownsMap Tryz.prog 9 pvR b n D := by
  obtain ⟨es, clock, hh, r⟩ := h
  exact ⟨es, clock, (hb.block b hB).trans hh, r⟩
theorem wpList_lookup_pv {w : World} {ops : Array Oper} {rest : List Oper} {o : Oper} {a : Act} {Q : Exit → Act → World → Prop} (hg : o.guard = none) (m x : Operand) (hop : o.op = Op.lookup 79 m x true)
    (b n : Nat) (C : List Ch) (r : Nat) (hm : a.eval m = .map (some b)) (hown : w.ownsMap Tryz.prog 9 pvR b n (mpD C)) (hx : a.eval x = .string (nm r)) (t : Bool) (ht : has (mpD C) (mpK r) = t)
    (hK : ∀ (k : Int) (f : Bool) (n : Int) (s : ByteArray), wpList Tryz.prog ops Q rest (a.put o.dst (.tuple #[.agg #[.int .i64 k, .bool f, .int .i64 n, .string s], .bool t])) w) :
    wpList Tryz.prog ops Q (o :: rest) a w :=
  wpList_lookup_own_ok w hg m x 79 hop 9 35 Tryz.keyedS Tryz.underlying79 pvR (Tryz.zeroPv w) (.agg []) [] rfl b n (mpD C) hm hown _ (mpK r) hx (nm_key r) (fun v ps hv => by
    obtain ⟨k, f, n, s, rfl⟩ := pvR_inv hv
    rw [ht]
    exact hK k f n s)
/-- What stays, and what comes. -/
def keepP (C : List Ch) (p : Pr) : Bool := !C.any (fun c => c.1 == p.1)
def comeC (c : Ch) : Option Pr := if c.2.2 = pvNone then none else some (c.1, c.2.2)
theorem apply_len {v w : Nat → Pv} : ((prs v).filter (keepP (chs v w)) ++ (chs v w).filterMap comeC).length = (prs w).length := by
  have h := apply_prs v w (((prs v).filter (keepP (chs v w)) ++ (chs v w).filterMap comeC).mergeSort (fun x y => decide (x.1 ≤ y.1))) (List.mergeSort_perm _ _) (by
    have := List.pairwise_mergeSort (le := fun x y : Pr => decide (x.1 ≤ y.1)) (fun a b c => by simp; omega) (fun a b => by simp; omega) ((prs v).filter (keepP (chs v w)) ++ (chs v w).filterMap comeC)
    exact this.imp (fun h => by simpa using h))
  rw [← h, List.length_mergeSort]
theorem prs_len (v : Nat → Pv) : (prs v).length ≤ 7 := by
  refine Nat.le_trans (List.length_filterMap_le _ _) ?_
  simp
theorem chs_len (v w : Nat → Pv) : (chs v w).length ≤ 7 := by
  refine Nat.le_trans (List.length_filterMap_le _ _) ?_
  simp
theorem apply_sorted {a t m : List Pr} (ha : PrsOk a) (ht : PrsOk t) (hp : m.Perm (a.filter (keepP (chs (vo a) (vo t))) ++ (chs (vo a) (vo t)).filterMap comeC)) (hs : m.Pairwise (fun x y => min x.1 6 ≤ min y.1 6)) : m = t := by
  have ha' := ha.prs
  have h7 : ∀ x ∈ m, x.1 < 7 := by
    intro x hx
    rw [hp.mem_iff, List.mem_append, List.mem_filter, List.mem_filterMap] at hx
    rcases hx with ⟨hx, _⟩ | ⟨c, hc, hx⟩
    · exact (ha.2 x hx).1
    · unfold comeC at hx
      split at hx
      · cases hx
      · cases hx
        exact ((mem_chs _ _ _).1 hc).1
  have hs' : m.Pairwise (fun x y => x.1 ≤ y.1) := by
    rw [List.pairwise_iff_getElem] at hs ⊢
    intro i j hi hj hij
    have h1 := hs i j hi hj hij
    have h2 := h7 _ (List.getElem_mem hi)
    have h3 := h7 _ (List.getElem_mem hj)
    omega
  have h := apply_prs (vo a) (vo t) m (by rw [← ha']; exact hp) hs'
  rw [h]
  exact ht.prs.symm
def ApPost (t : List Pr) (n : Nat) (w : World) (e : Ending) (w' : World) : Prop :=
  ∃ A c, e = .returned (.tuple #[.slice A n c, .int .i64 0]) ∧ w'.ownsRow w.heap.size 37 5 (.slice A n c) n (recs prC t) ∧ Below w.heap.size w w'
set_option maxRecDepth 100000 in
set_option maxHeartbeats 4000000 in
theorem apply_any (a t : List Pr) (n m ca cb : Nat) (A B : Option Addr) (w : World) (ha : PrsGood a) (ht : PrsGood t) (hn : a.length = n) (hm : (chs (vo a) (vo t)).length = m) (hra : Row w w.heap.size A (recs prC a)) (hrb : Row w w.heap.size B (recs chC (chs (vo a) (vo t)))) (hT : U8T w) :
    Calls Tryz.prog 12 #[.slice A n ca, .slice B m cb] w fun e w' => ApPost t t.length w e w' := by
  obtain ⟨i0, hi0, hz0, hz1, hz2⟩ := info_parts Tryz.infoP
  have hmm := @run_makeMap Tryz.prog
  have hn7 : n ≤ 7 := by rw [← hn, ha.1.prs]; exact prs_len _
  have hm7 : m ≤ 7 := by rw [← hm]; exact chs_len _ _
  have HOK := Lib.hid (chs_ok ha.1 ht.1)
  have HFL := Lib.hid (show (a.filter (keepP (chs (vo a) (vo t))) ++ (chs (vo a) (vo t)).filterMap comeC).length = t.length from by
    have h := @apply_len (vo a) (vo t)
    rw [← ha.1.prs, ← ht.1.prs] at h
    exact h)
  have HSO := Lib.hid (fun (M : List Pr) (hp : M.Perm (a.filter (keepP (chs (vo a) (vo t))) ++ (chs (vo a) (vo t)).filterMap comeC)) hs => apply_sorted ha.1 ht.1 hp hs)
  have HCV := Lib.hid (fun (x : Ch) (hx : x ∈ chs (vo a) (vo t)) => show vo a x.1 = x.2.1 from by
    have h := ((mem_chs _ _ _).1 hx).2.2
    rw [h])
  obtain ⟨C, eC⟩ : ∃ C, C = chs (vo a) (vo t) := ⟨_, rfl⟩
  rw [← eC] at hm hrb HOK HFL HSO HCV
  obtain ⟨K, eK⟩ : ∃ K, K = t.length := ⟨_, rfl⟩
  have hK7 : K ≤ 7 := by rw [eK, ht.1.prs]; exact prs_len _
  rw [← eK] at HFL ⊢
  have HRA := Lib.hid (fun V (hV : Below w.heap.size w V) => (hra.below hV).mono hV.size)
  have HRB := Lib.hid (fun V (hV : Below w.heap.size w V) => (hrb.below hV).mono hV.size)
  have HT := Lib.hid (fun V (hV : Below w.heap.size w V) => hT.below hV)
  have HA := Lib.hid ha
  have HTG := Lib.hid ht
  have HN := Lib.hid hn
  have HM := Lib.hid hm
  have HKT := Lib.hid eK
  clear hra hrb hT ha ht hn hm eC eK
  go_enter Tryz.func12, Tryz.ntmps12
  go_wp2_with (fail)
  refine (checkProps_any a n ca A w HA.out.1 HN.out (by omega) (HRA.out _ (Below.refl _ _)) (HT.out _ (Below.refl _ _))).mono ?_
  rintro e w1 ⟨rfl, hb1⟩
  rw [HA.out.2]
  have HB1 := Lib.hid hb1
  clear hb1
  go_wp2_with (fail)
  refine (checkChanges_any C m cb B w1 HOK.out HM.out (by omega) (HRB.out _ HB1.out) (HT.out _ HB1.out)).mono ?_
  rintro e w2 ⟨rfl, hb2⟩
  have HB2 := Lib.hid (HB1.out.trans (hb2.mono HB1.out.size))
  have hs2 := HB2.out.size
  clear hb2
  go_wp2_with (go_at_call 30; refine (first_ok 2 2 _ _ (by omega) (Cells.new _ _ _ _ _ rfl)).mono ?_; rintro e w' ⟨rfl, rfl⟩)
  have hMap : ((w2.alloc (.cells #[.int .i64 0, .int .i64 0] 30)).alloc (.map #[] 0)).ownsMap Tryz.prog 9 pvR (w2.heap.size + 1) 0 (mpD []) := by
    have h := World.ownsMap_made (w2.alloc (.cells #[.int .i64 0, .int .i64 0] 30)) Tryz.prog 9 pvR
    rw [show mpD [] = (DataW.map [] : DataW Nat) from rfl]
    simpa using h
  have hBV : Below w.heap.size w ((w2.alloc (.cells #[.int .i64 0, .int .i64 0] 30)).alloc (.map #[] 0)) := (HB2.out.alloc hs2 _).alloc (by simp; omega) _
  generalize hVV : (w2.alloc (.cells #[.int .i64 0, .int .i64 0] 30)).alloc (.map #[] 0) = V at hMap hBV ⊢
  obtain ⟨g, eg⟩ : ∃ g, g = w2.heap.size + 1 := ⟨_, rfl⟩
  rw [← eg] at hMap ⊢
  have hgw : w.heap.size ≤ g := by omega
  have hgV := hMap.lt
  have HBV := Lib.hid hBV
  have HMP := Lib.hid hMap
  clear hVV hBV hMap eg
  go_loopw [30] (fun s wr => ∃ i : Nat, i ≤ m ∧ s = .int .i64 (i : Int) ∧ wr.ownsMap Tryz.prog 9 pvR g i (mpD (C.take i)) ∧ Below g V wr) (fun s _ => m - (intOf s).toNat)
  case atStart => exact ⟨0, by omega, rfl, HMP.out, Below.refl _ _⟩
  case round =>
    obtain ⟨i, him, rfl, hown, hbr⟩ := hrel
    have hbs := hbr.size
    have hgr := hown.lt
    have HB := Lib.hid hbr
    have HO := Lib.hid hown
    have HBw := Lib.hid (HBV.out.trans (hbr.mono hgw))
    clear hown hbr
    by_cases hlt : i < m
    · have hltI : (i : Int) < m := by omega
      obtain ⟨x, hx⟩ : ∃ x, C[i]? = some x := ⟨_, List.getElem?_eq_getElem (by have := HM.out; omega)⟩
      obtain ⟨b, o, rfl, hb, hC⟩ := (HRB.out _ HBw.out).posR chC_len (by omega) (by have := HM.out; omega)
      have hx7 := (HOK.out.2 x (List.mem_of_getElem? hx)).1
      have HXV := Lib.hid (HCV.out x (List.mem_of_getElem? hx))
      have HXT := Lib.hid (show mpD (C.take (i + 1)) = (mpD (C.take i)).put (mpK x.1) (.agg []) from by rw [List.take_add_one, hx]; exact mpD_snoc _ _)
      obtain ⟨c0, c1, c2, c3, c4, c5, c6, c7, c8⟩ := ch_cells hC i x hx
      clear hC hx
      go_upto_region 8 with (fail)
      obtain ⟨W1, eW⟩ : ∃ W1, W1 = wr.alloc (chBlk x) := ⟨_, rfl⟩
      have hg1 : W1.heap[wr.heap.size]? = some (chBlk x) := by rw [eW]; exact heap_new wr _
      have hBW : Below wr.heap.size wr W1 := by rw [eW]; exact (Below.refl _ _).alloc (Nat.le_refl _) _
      have hsW : W1.heap.size = wr.heap.size + 1 := by rw [eW]; simp
      have hltW : wr.heap.size < W1.heap.size := by omega
      unfold chBlk at eW
      rw [← eW]
      have HG1 := Lib.hid hg1
      have HBW := Lib.hid hBW
      have HBWw := Lib.hid (HBw.out.trans (hBW.mono (by omega)))
      clear eW hg1 hBW hsW c0 c1 c2 c3 c4 c5 c6 c7 c8
      obtain ⟨r, ⟨k1, f1, n1, s1⟩, ⟨k2, f2, n2, s2⟩⟩ := x
      simp only at hx7
      have HQ := Lib.hid (fun (V' : World) (hV : Below W1.heap.size W1 V') => show ChB V' wr.heap.size (r, ⟨k1, f1, n1, s1⟩, ⟨k2, f2, n2, s2⟩) from ch_blk ((hV.block wr.heap.size hltW).trans HG1.out))
      have HVo := Lib.hid (fun (V' : World) (hV : Below W1.heap.size W1 V') => show Calls Tryz.prog 42 #[.slice A n ca, .string (nm r)] V' fun e w' => e = .returned (.agg #[.int .i64 k1, .bool f1, .int .i64 n1, .string s1]) ∧ Below V'.heap.size V' w' from by
        have h := valueOf_any a n ca r A V' HA.out.1 HN.out (by omega) hx7 (HRA.out _ (HBWw.out.trans (hV.mono HBWw.out.size)))
        have e := HXV.out
        simp only at e
        rw [e] at h
        exact h)
      go_upto_region 8 with (fail)
      refine qRegionTail 6 (by kernel_rfl) (by kernel_rfl) ?_
      simp only [List.take_succ_cons, List.take_zero, List.drop_succ_cons, List.drop_zero]
      repeat (first
        | (go_big_quiet_want; refine qVal (fun V hV => (by (obtain ⟨q0, q1, q2, q3, q4, q5, q6, q7, q8⟩ := HQ.out V hV; go_simp; try rfl))) ?_; simp only [Act.put, List.setIfInBounds_toArray, List.set_cons_zero, List.set_cons_succ]; go_big_quiet_on)
        | (go_big_quiet_want
           refine qCall (fun V hV => (by (obtain ⟨q0, q1, q2, q3, q4, q5, q6, q7, q8⟩ := HQ.out V hV; go_simp; exact ⟨rfl, rfl⟩))) (fun V hV => (by first
             | with_reducible exact (HVo.out V hV).mono (fun e w' h => ⟨h.1, hV.trans (h.2.mono hV.size)⟩))) ?_
           simp only [Act.put, List.setIfInBounds_toArray, List.set_cons_zero, List.set_cons_succ]; go_big_quiet_on)
        | go_big_quiet_skip)
      refine wpQuiet_nil ?_
      intro w3 hb3
      obtain ⟨q0, q1, q2, q3, q4, q5, q6, q7, q8⟩ := HQ.out w3 hb3
      simp only at q0 q1 q2 q3 q4 q5 q6 q7 q8
      have hs3 := hb3.size
      have HOM := Lib.hid (map_below HO.out (HBW.out.trans (hb3.mono (by omega))) hgr)
      have HB3 := Lib.hid (HB.out.trans ((HBW.out.trans (hb3.mono (by omega))).mono (by omega)))
      clear hb3 HVo
      go_wp2_with (at_mapUpdate; refine wpList_mapUpdate_own _ rfl _ _ _ 79 rfl 9 35 Tryz.keyedS Tryz.underlying79 pvR g i _ rfl HOM.out (by unfold maxLen; omega) _ _ _ rfl rfl (nm_key r) _ [] (pvR_mk _ _ _ _) ?_; intro w4 hown4 hgrow4)
      have HO4 := Lib.hid hown4
      have HB4 := Lib.hid (HB3.out.grown hgrow4 (by omega) (by intro k hk; cases hk; exact Nat.le_refl _))
      clear hown4 hgrow4
      go_roundw
      case rel => exact ⟨i + 1, by omega, by simp, by rw [HXT.out]; exact HO4.out, HB4.out⟩
      case measure => simp [intOf]; omega
    · have hltI : ¬ (i : Int) < m := by omega
      have hin' : i = m := by omega
      subst hin'
      have HOU := Lib.hid (show wr.ownsMap Tryz.prog 9 pvR g i (mpD C) from by
        have h := HO.out
        rwa [List.take_of_length_le (by rw [HM.out]; exact Nat.le_refl _)] at h)
      obtain ⟨U, hU⟩ : ∃ U, U = wr := ⟨_, rfl⟩
      subst hU
      go_wp2_with (fail)
      go_loopw [10, 49] (fun v s wx => ∃ j : Nat, j ≤ n ∧ s = .int .i64 (j : Int) ∧ wx.ownsRow U.heap.size 37 5 v ((a.take j).filter (keepP C)).length (recs prC ((a.take j).filter (keepP C))) ∧ Below U.heap.size U wx) (fun _ s _ => n - (intOf s).toNat)
      case atStart => exact ⟨0, by omega, rfl, World.ownsRow_nil _ _ _ _, Below.refl _ _⟩
      case round =>
        obtain ⟨j, hjn, rfl, hown, hbr⟩ := hrel
        have hbsU := hbr.size
        have HBU := Lib.hid hbr
        have HOr := Lib.hid hown
        have HBUw := Lib.hid (HBw.out.trans (hbr.mono HBw.out.size))
        by_cases hltj : j < n
        · have hltI2 : (j : Int) < n := by omega
          clear hown hbr
          obtain ⟨p, hp⟩ : ∃ p, a[j]? = some p := ⟨_, List.getElem?_eq_getElem (by have := HN.out; omega)⟩
          obtain ⟨b, o, rfl, hb, hC⟩ := (HRA.out _ HBUw.out).posR prC_len (by omega) (by have := HN.out; omega)
          have hp7 := (HA.out.1.2 p (List.mem_of_getElem? hp)).1
          obtain ⟨c0, c1, c2, c3, c4⟩ := pr_cells hC j p hp
          have HTK := Lib.hid (show a.take (j + 1) = a.take j ++ [p] from by rw [List.take_add_one, hp]; rfl)
          have hlen : ((a.take j).filter (keepP C)).length ≤ 7 := by
            refine Nat.le_trans (List.length_filter_le _ _) ?_
            rw [List.length_take]; omega
          clear hC hp
          have HOL := Lib.hid (map_below HOU.out (HBU.out) hgr)
          cases hkp : C.any (fun c => c.1 == p.1)
          · have hh := mpD_has C p.1 (fun c hc => (HOK.out.2 c hc).1) hp7
            rw [hkp] at hh
            have HFK := Lib.hid (show [p].filter (keepP C) = [p] from by simp [keepP, hkp])
            clear hkp
            go_wp2_with (first
              | (at_lookup; refine wpList_lookup_pv rfl _ _ rfl g i C p.1 rfl (HOL.out.alloc _) rfl false hh ?_; intro k0 f0 n0 s0)
              | (at_builtin; refine wpList_append_own2 _ rfl _ _ 28 rfl U.heap.size 37 i0 _ 5 56 Tryz.underlying28 hi0 hz0 hz1 hz2 rfl (by decide) _ _ _ rfl (((HOr.out.alloc _).alloc _).alloc _) ⟨_, 0, none⟩ 1 1 (prC p) rfl rfl ?c1 ?c2 ?c3 ?c4 ?c5 ?_))
            case c1 => exact cells_add (cells_atF rfl (by simp))
            case c2 => exact prC_one _
            case c3 => unfold maxLen; omega
            case c4 => omega
            case c5 => simp; omega
            intro v6 w6 ho6 hg6 hm6
            have hlo : ∀ q, u10.ownBlock = some q → U.heap.size ≤ q := fun q hq => (HOr.out.lt q hq).1
            have HB6 := Lib.hid ((((HBU.out.alloc hbsU _).alloc (by simp; omega) _).alloc (by simp; omega) _).grown hg6 (by simp; omega) hlo)
            have HO6 := Lib.hid ho6
            clear ho6 hg6 hm6 hlo
            go_wp2_with (fail)
            go_roundw
            case rel =>
              refine ⟨j + 1, by omega, by simp, ?_, HB6.out⟩
              rw [HTK.out, List.filter_append, HFK.out, recs_snoc, List.length_append, List.length_singleton]
              exact HO6.out
            case measure => simp [intOf]; omega
          · have hh := mpD_has C p.1 (fun c hc => (HOK.out.2 c hc).1) hp7
            rw [hkp] at hh
            have HFK := Lib.hid (show [p].filter (keepP C) = [] from by simp [keepP, hkp])
            clear hkp
            go_wp2_with (at_lookup; refine wpList_lookup_pv rfl _ _ rfl g i C p.1 rfl (HOL.out.alloc _) rfl true hh ?_; intro k0 f0 n0 s0)
            go_roundw
            case rel =>
              refine ⟨j + 1, by omega, by simp, ?_, (HBU.out.alloc hbsU _).alloc (by simp; omega) _⟩
              rw [HTK.out, List.filter_append, HFK.out, List.append_nil]
              exact (HOr.out.alloc _).alloc _
            case measure => simp [intOf]; omega
        · have hltI2 : ¬ (j : Int) < n := by omega
          have hjn' : j = n := by omega
          subst hjn'
          obtain ⟨F, eF⟩ : ∃ F, F = a.filter (keepP C) := ⟨_, rfl⟩
          have htk : (a.take j).filter (keepP C) = F := by rw [eF, List.take_of_length_le (by rw [HN.out]; exact Nat.le_refl _)]
          have hF7 : F.length ≤ 7 := by
            rw [eF]
            exact Nat.le_trans (List.length_filter_le _ _) (by have := HN.out; omega)
          rw [← eF] at HFL HSO
          rw [htk] at hown
          have HO2 := Lib.hid hown
          clear hown hbr HOr htk eF
          obtain ⟨U2, hU⟩ : ∃ U2, U2 = wr := ⟨_, rfl⟩
          subst hU
          go_wp2_with (fail)
          go_loopw [10, 69] (fun v s wx => ∃ k : Nat, k ≤ i ∧ s = .int .i64 (k : Int) ∧ wx.ownsRow U.heap.size 37 5 v (F ++ (C.take k).filterMap comeC).length (recs prC (F ++ (C.take k).filterMap comeC)) ∧ Below U.heap.size U wx) (fun _ s _ => i - (intOf s).toNat)
          case atStart => exact ⟨0, by omega, rfl, by simpa using HO2.out, HBU.out⟩
          case round =>
            obtain ⟨k, hki, rfl, hown, hbr⟩ := hrel
            have hbsR := hbr.size
            have HBR := Lib.hid hbr
            have HOr := Lib.hid hown
            have HBRw := Lib.hid (HBw.out.trans (hbr.mono HBw.out.size))
            by_cases hltk : k < i
            · have hltI3 : (k : Int) < i := by omega
              clear hown hbr
              obtain ⟨x, hx⟩ : ∃ x, C[k]? = some x := ⟨_, List.getElem?_eq_getElem (by have := HM.out; omega)⟩
              obtain ⟨b, o, rfl, hb, hC⟩ := (HRB.out _ HBRw.out).posR chC_len (by omega) (by have := HM.out; omega)
              have hxt := (HOK.out.2 x (List.mem_of_getElem? hx)).2.2.1
              obtain ⟨c0, c1, c2, c3, c4, c5, c6, c7, c8⟩ := ch_cells hC k x hx
              have HTK := Lib.hid (show C.take (k + 1) = C.take k ++ [x] from by rw [List.take_add_one, hx]; rfl)
              have hlen : (F ++ (C.take k).filterMap comeC).length ≤ 14 := by
                rw [List.length_append]
                have := List.length_filterMap_le comeC (C.take k)
                rw [List.length_take] at this
                omega
              clear hC hx
              obtain ⟨r, v1, v2⟩ := x
              simp only at hxt c0 c1 c2 c3 c4 c5 c6 c7 c8
              by_cases hv2 : v2 = pvNone
              · have HFK := Lib.hid (show [(r, v1, v2)].filterMap comeC = [] from by simp [comeC, hv2])
                subst hv2
                simp only [pvNone] at c5 c6 c7 c8
                clear hxt
                go_wp2_with (fail)
                go_roundw
                case rel =>
                  refine ⟨k + 1, by omega, by simp, ?_, HBR.out.alloc hbsR _⟩
                  rw [HTK.out, List.filterMap_append, HFK.out, List.append_nil]
                  exact HOr.out.alloc _
                case measure => simp [intOf]; omega
              · have HFK := Lib.hid (show [(r, v1, v2)].filterMap comeC = [(r, v2)] from by simp [comeC, hv2])
                have hk2 := (hxt.resolve_left hv2).kne
                have hk3 : (v2.k != 0) = true := by simpa using hk2
                clear hxt hv2
                go_wp2_with (at_builtin; refine wpList_append_own2 _ rfl _ _ 28 rfl U.heap.size 37 i0 _ 5 56 Tryz.underlying28 hi0 hz0 hz1 hz2 rfl (by decide) _ _ _ rfl ((HOr.out.alloc _).alloc _) ⟨_, 0, none⟩ 1 1 (prC (r, v2)) rfl rfl ?c1 ?c2 ?c3 ?c4 ?c5 ?_)
                case c1 => exact cells_add (cells_atF rfl (by simp))
                case c2 => exact prC_one _
                case c3 => unfold maxLen; omega
                case c4 => omega
                case c5 => simp; omega
                intro v6 w6 ho6 hg6 hm6
                have hlo : ∀ q, u10.ownBlock = some q → U.heap.size ≤ q := fun q hq => (HOr.out.lt q hq).1
                have HB6 := Lib.hid (((HBR.out.alloc hbsR _).alloc (by simp; omega) _).grown hg6 (by simp; omega) hlo)
                have HO6 := Lib.hid ho6
                clear ho6 hg6 hm6 hlo
                go_wp2_with (fail)
                go_roundw
                case rel =>
                  refine ⟨k + 1, by omega, by simp, ?_, HB6.out⟩
                  rw [HTK.out, List.filterMap_append, HFK.out, ← List.append_assoc, recs_snoc, List.length_append, List.length_singleton]
                  simpa only [List.length_append] using HO6.out
                case measure => simp [intOf]; omega
            · have hltI3 : ¬ (k : Int) < i := by omega
              have hki' : k = i := by omega
              subst hki'
              rw [List.take_of_length_le (by rw [HM.out]; exact Nat.le_refl _), HFL.out] at hown
              obtain ⟨A1, cA, rfl⟩ := own_slice hown
              have HOF := Lib.hid hown
              clear hown hbr HOr
              go_wp2_with (fail)
              refine (sortP_any 43 (.inr rfl) _ K cA U.heap.size A1 wr HFL.out (by omega) HOF.out).mono ?_
              rintro e w5 ⟨rfl, M, hperm, hlen, hsrt, hown5, hg5⟩
              have hM := HSO.out M hperm hsrt
              subst hM
              have hlo : ∀ q, (Value.slice A1 K cA).ownBlock = some q → U.heap.size ≤ q := fun q hq => (HOF.out.lt q hq).1
              have HB5 := Lib.hid (HBR.out.grown hg5 hbsR hlo)
              have HB5w := Lib.hid (HBw.out.trans (HB5.out.mono HBw.out.size))
              have HO5 := Lib.hid hown5
              clear hperm hsrt hown5 hg5 hlo
              go_wp2_with (fail)
              refine (checkProps_any M K cA A1 w5 HTG.out.1 hlen (by omega) (own_row HO5.out) (HT.out _ HB5w.out)).mono ?_
              rintro e w6 ⟨rfl, hb6⟩
              rw [HTG.out.2]
              have HF := Lib.hid (show ApPost M K w (.returned (.tuple #[.slice A1 K cA, .int .i64 0])) w6 from ⟨A1, cA, rfl, own_mono (own_belowP HO5.out hb6) HBw.out.size, HB5w.out.trans (hb6.mono HB5w.out.size)⟩)
              clear hb6
              go_wp2_with (fail)
              go_ret2
              exact HF.out
end Go.Proofs.YtkcpfppjdjkjeaaGreatDoor
