/- Bytes of the stream: what it makes of bytes, as a function of its list. -/
import Derived.Test.YtnmgfnnkcenfeaaGreatDoorPkB
import Derived.Laws.Closers25b
namespace Go.Proofs.YtnmgfnnkcenfeaaGreatDoor
open Go.RowKit

theorem slice_toB {P : Program} {T e : TypeId} (ht : P.underlying T = some (.slice e)) {i : TypeInfo} (g o n c k : Nat) (hk : k ≤ c) (Z : World) (hi : P.info? e = some i) :
    (Instr.slice T (.slice (some ⟨g, o, none⟩) n c) none (some (.int .i64 (k : Int))) none).run P Z = .ok (.slice (some ⟨g, o, none⟩) k c) Z := by
  have he : P.elem T = e := by simp [Program.elem, ht]
  rw [run_slice_h (P := P) (w := Z) T (some ⟨g, o, none⟩) n c (by rw [he]; exact ht) .i64 (k : Int) (by omega) (by omega), he]
  have h0 : ∀ z, (⟨g, o, none⟩ : Addr).add (0 * z) = ⟨g, o, none⟩ := fun z => by rw [Nat.zero_mul]; unfold Addr.add; split <;> simp_all
  have hs : ∀ z, sliced (some ⟨g, o, none⟩) 0 k c z = .slice (some ⟨g, o, none⟩) k c := fun z => by
    unfold sliced
    rw [Option.map_some, h0]
    simp
  have hk2 : ((k : Int)).toNat = k := by simp
  simp [sizeOf, typeInfo, hi, Result.andThen, hs]
def ofB (c k : Nat) : Nat := if c = k then 0 else k
theorem slice_fromB {P : Program} {T e : TypeId} (ht : P.underlying T = some (.slice e)) {i : TypeInfo} (g n c k : Nat) (hk : k ≤ n) (Z : World) (hi : P.info? e = some i) (hsz : i.size = 1) :
    (Instr.slice T (.slice (some ⟨g, 0, none⟩) n c) (some (.int .i64 (k : Int))) none none).run P Z = .ok (.slice (some ⟨g, ofB c k, none⟩) (n - k) (c - k)) Z := by
  have he : P.elem T = e := by simp [Program.elem, ht]
  rw [run_slice_l (P := P) (w := Z) T (some ⟨g, 0, none⟩) n c (by rw [he]; exact ht) .i64 (k : Int) (by omega) (by omega), he]
  have hs : sliced (some ⟨g, 0, none⟩) k n c 1 = .slice (some ⟨g, ofB c k, none⟩) (n - k) (c - k) := by
    unfold sliced ofB
    by_cases h : c = k
    · rw [if_pos h, if_pos h]
    · rw [if_neg h, if_neg h, Option.map_some, Addr.add_lit]
      simp
  have hk2 : ((k : Int)).toNat = k := by simp
  simp [sizeOf, typeInfo, hi, hsz, Result.andThen, hs]
def BytesOk (l : List Int) : Prop := ∀ y ∈ l, 0 ≤ y ∧ y ≤ 255
/-- A bit turned. -/
def xoB (y : Int) (m : Nat) : Int := bits .xor .u8 y (IntKind.u8.wrap (2 ^ m))
theorem xoB_in (y : Int) (m : Nat) : 0 ≤ xoB y m ∧ xoB y m ≤ 255 := bits_within .xor .u8 y _
def byT (ys : List Int) (k i t m : Nat) : List Int × Nat :=
  if t = 0 then (ys.take i ++ ys.drop (i + 1), k + 2)
  else if t = 1 then (ys.take (i + 1) ++ ys.drop i, k + 2)
  else if t = 2 then (ys.take i, k + 2)
  else (ys.set i (xoB (ys.getD i 0) m), k + 3)
def byS (xs : LiA) (ys : List Int) (k : Nat) : List Int × Nat := byT ys k (nextN xs k ys.length) (nextN xs (k + 1) 4) (nextN xs (k + 2) 8)
def byG (xs : LiA) : Nat → List Int → Nat → List Int × Nat
  | 0, ys, k => (ys, k)
  | j + 1, ys, k => if ys.length = 0 then ([nextV xs k 256], k + 1) else byG xs j (byS xs ys k).1 (byS xs ys k).2
set_option maxRecDepth 100000 in
set_option maxHeartbeats 8000000 in
theorem bytes_any (w : World) (p k n c g : Nat) (xs : LiA) (zs : List Int) (hk : k < 800000) (hn : zs.length = n) (hn1 : 1 ≤ n) (hn2 : n ≤ 1000) (hz : BytesOk zs) (_hb : g < w.heap.size) (hC : Cells w g 0 (bytesV zs)) (hs : Strm w p xs k) :
    Calls Tryz.prog 25 #[.pointer (some ⟨p, 0, none⟩), .slice (some ⟨g, 0, none⟩) n c] w fun e w' =>
      ∃ (A : Option Addr) (c' n' : Nat), e = .returned (.slice A n' c') ∧ (byG xs (1 + nextN xs k 2) zs (k + 1)).1.length = n' ∧ w'.ownsRow w.heap.size 5 1 (.slice A n' c') n' (bytesV (byG xs (1 + nextN xs k 2) zs (k + 1)).1) ∧ BytesOk (byG xs (1 + nextN xs k 2) zs (k + 1)).1 ∧ Strm w' p xs (byG xs (1 + nextN xs k 2) zs (k + 1)).2 ∧ w.grownBy w' (some p) := by
  obtain ⟨i0, hi, hz0, hz1, hz2⟩ := info_parts Tryz.infoU8
  have hplt := hs.lt
  have HS := Lib.hid hs
  have HC := Lib.hid hC
  have HN := Lib.hid hn
  have HZ := Lib.hid hz
  clear hs hC hn hz
  have hR := nextN_lt xs k 2 (by omega)
  have hRV := nextN_eq xs k 2 (by omega)
  rw [show ((2 : Nat) : Int) = 2 from rfl] at hRV
  obtain ⟨R, eR⟩ : ∃ R, R = 1 + nextN xs k 2 := ⟨_, rfl⟩
  have hRV2 : (1 : Int) + nextV xs k (2 - 1 + 1) = (R : Int) := by rw [show (2 - 1 + 1 : Int) = 2 by omega, hRV]; omega
  have hR2 : R ≤ 2 := by omega
  rw [← eR]
  have HRV2 := Lib.hid hRV2
  clear hRV hRV2 eR hR
  obtain ⟨Y, eY⟩ : ∃ Y, Y = byG xs R zs (k + 1) := ⟨_, rfl⟩
  rw [← eY]
  have HEY := Lib.hid eY
  clear eY
  go_enter Tryz.func25, Tryz.ntmps25
  go_wp2_with (at_builtin; refine wpList_append_own2 _ rfl _ _ 30 rfl w.heap.size 5 i0 (.int .u8 0) 1 1 Tryz.underlying30 hi hz0 hz1 hz2 rfl (by decide) _ _ _ rfl (World.ownsRow_nil _ _ _ _) ⟨g, 0, none⟩ n c (bytesV zs) rfl ?c0 ?c1 ?c2 ?c3 ?c4 ?c5 ?_)
  case c0 => simp [bytesV, HN.out]
  case c1 => exact cells_add HC.out
  case c2 => exact bytesV_one _
  case c3 => unfold maxLen; omega
  case c4 => omega
  case c5 => exact Nat.le_refl _
  intro v1 w1 ho1 hg1 hm1
  have HO1 := Lib.hid (show w1.ownsRow w.heap.size 5 1 v1 zs.length (bytesV zs) from by rw [HN.out]; simpa using ho1)
  have HG1 := Lib.hid (show w.grownBy w1 (some p) from grown_belowP ((Below.refl w.heap.size w).grown hg1 (Nat.le_refl _) (fun q hq => by cases hq)))
  have HS1 := Lib.hid (HS.out.below ((Below.refl w.heap.size w).grown hg1 (Nat.le_refl _) (fun q hq => by cases hq)))
  clear ho1 hg1 hm1
  go_wp2_with (fail)
  refine (range_any w1 p k xs 1 2 (by omega) (by omega) (by omega) (by omega) (by omega) HS1.out).mono ?_
  rw [HRV2.out]
  rintro e w2 ⟨rfl, hst2, hg2⟩
  have H2 := Lib.hid (show w2.ownsRow w.heap.size 5 1 v1 zs.length (bytesV zs) ∧ Strm w2 p xs (k + 1) ∧ w.grownBy w2 (some p) ∧ BytesOk zs ∧ byG xs (R - 0) zs (k + 1) = Y from
    ⟨own_kept HO1.out hg2 (by omega), hst2, grown_trans HG1.out hg2, HZ.out, HEY.out.symm⟩)
  obtain ⟨VA, vc, rfl⟩ := own_slice HO1.out
  clear hst2 hg2 HO1 HG1 HS1
  go_wp2_with (fail)
  go_loopw [5, 11] (fun v s wr => ∃ (j k' : Nat) (ys : List Int) (A : Option Addr) (c' : Nat), j ≤ R ∧ s = .int .i64 (j : Int) ∧ v = .slice A ys.length c' ∧ k' ≤ k + 1 + 3 * j ∧ ys.length ≤ n + j ∧ Hid (wr.ownsRow w.heap.size 5 1 (.slice A ys.length c') ys.length (bytesV ys) ∧ Strm wr p xs k' ∧ w.grownBy wr (some p) ∧ BytesOk ys ∧ byG xs (R - j) ys k' = Y)) (fun _ s _ => R - (intOf s).toNat)
  case atStart => exact ⟨0, k + 1, zs, VA, vc, by omega, rfl, rfl, by omega, by have := HN.out; omega, H2⟩
  case round =>
    obtain ⟨j, k', ys, A, c', hj, rfl, rfl, hk', hyl, HR⟩ := hrel
    obtain ⟨wa, rfl⟩ : ∃ wy : World, wy = wr := ⟨_, rfl⟩
    obtain ⟨ho, hst, hgr, hbo, hby⟩ := HR.out
    have hsz := hgr.size
    have hpl := hst.lt
    have HO := Lib.hid ho
    have HST := Lib.hid hst
    have HGR := Lib.hid hgr
    have HBO := Lib.hid hbo
    have HBY := Lib.hid hby
    obtain ⟨m, em⟩ : ∃ m, m = ys.length := ⟨_, rfl⟩
    rw [← em] at HO hyl ⊢
    have HM := Lib.hid em.symm
    clear ho hst hgr hbo hby HR em
    by_cases hlt : j < R
    · have hltI : (j : Int) < R := by omega
      have HBY1 := Lib.hid (show (if ys.length = 0 then ([nextV xs k' 256], k' + 1) else byG xs (R - (j + 1)) (byS xs ys k').1 (byS xs ys k').2) = Y from by
        have h := HBY.out
        rw [show R - j = (R - (j + 1)) + 1 by omega, byG] at h
        exact h)
      clear HBY
      by_cases hm0 : m = 0
      · subst hm0
        have HE := Lib.hid (show Y = ([nextV xs k' 256], k' + 1) from by rw [← HBY1.out, if_pos HM.out])
        have hys : ys = [] := List.eq_nil_of_length_eq_zero HM.out
        subst hys
        go_wp2_with (fail)
        refine (next_any wa p k' xs 256 (by omega) (by omega) HST.out).mono ?_
        have hvr := nextV_range xs k' 256 (by omega)
        obtain ⟨z, ez⟩ : ∃ z, z = nextV xs k' 256 := ⟨_, rfl⟩
        rw [← ez] at hvr HE ⊢
        clear ez
        rintro e w3 ⟨rfl, hst3, hg3⟩
        have HO3 := Lib.hid (own_kept HO.out hg3 (by omega))
        have HST3 := Lib.hid hst3
        have HG3 := Lib.hid (grown_trans HGR.out hg3)
        have hs3 := hg3.size
        have hw : IntKind.u8.wrap z = z := by simp [IntKind.wrap, IntKind.signed, IntKind.bits]; omega
        clear hst3 hg3
        go_wp2_with (at_builtin; refine wpList_append_own2 _ rfl _ _ 30 rfl w.heap.size 5 i0 (.int .u8 0) 1 1 Tryz.underlying30 hi hz0 hz1 hz2 rfl (by decide) _ _ _ rfl (HO3.out.alloc _) ⟨_, 0, none⟩ 1 1 (bytesV [z]) rfl rfl ?d1 ?d2 ?d3 ?d4 ?d5 ?_)
        case d1 => exact cells_add (Cells.new _ _ _ _ _ rfl)
        case d2 => exact bytesV_one _
        case d3 => unfold maxLen; omega
        case d4 => omega
        case d5 => first | omega | (simp only [World.size_alloc]; omega)
        intro v4 w4 ho4 hg4 hm4
        obtain ⟨VB, vb, rfl⟩ := own_slice ho4
        have hlo : ∀ q, (Value.slice A 0 c').ownBlock = some q → w.heap.size ≤ q := fun q hq => (HO3.out.lt q hq).1
        have HST4 := Lib.hid ((HST3.out.alloc _).row hg4 (fun q hq => by have := hlo q hq; omega))
        have HG4 := Lib.hid (grown_more (grown_trans HG3.out (World.grownBy_alloc _ _ (some p))) hg4 hlo)
        have HO4 := Lib.hid (show w4.ownsRow w.heap.size 5 1 (.slice VB 1 vb) 1 (bytesV [z]) from ho4)
        clear ho4 hg4 hm4 hlo
        go_wp2_with (fail)
        go_ret
        rw [HE.out]
        exact ⟨VB, vb, 1, rfl, rfl, HO4.out, (fun y hy => by rw [List.mem_singleton] at hy; rw [hy]; omega), HST4.out, HG4.out⟩
      · have hm1 : 1 ≤ m := by omega
        have hmI : ¬ (m : Int) = 0 := by omega
        have HBY2 := Lib.hid (show byG xs (R - (j + 1)) (byT ys k' (nextN xs k' m) (nextN xs (k' + 1) 4) (nextN xs (k' + 2) 8)).1 (byT ys k' (nextN xs k' m) (nextN xs (k' + 1) 4) (nextN xs (k' + 2) 8)).2 = Y from by
          rw [← HBY1.out, if_neg (by rw [HM.out]; exact hm0)]
          unfold byS
          rw [HM.out])
        clear HBY1
        obtain ⟨go_, rfl, hgo1, hgo2⟩ : ∃ g, A = some ⟨g, 0, none⟩ ∧ w.heap.size ≤ g ∧ g < wa.heap.size := by
          rcases own_two HO.out with ⟨_, h0, _⟩ | ⟨g, h1, h2, h3⟩
          · omega
          · exact ⟨g, h1, h2, h3⟩
        have hcap := own_cap HO.out
        go_wp2_with (fail)
        refine (next_any wa p k' xs (m : Int) (by omega) (by omega) HST.out).mono ?_
        have hil := nextN_lt xs k' m (by omega)
        rw [nextN_eq xs k' m (by omega)]
        obtain ⟨i, ei⟩ : ∃ i, i = nextN xs k' m := ⟨_, rfl⟩
        rw [← ei] at hil HBY2 ⊢
        clear ei
        rintro e w3 ⟨rfl, hst3, hg3⟩
        have HO3 := Lib.hid (own_kept HO.out hg3 (by omega))
        have HST3 := Lib.hid hst3
        have HG3 := Lib.hid (grown_trans HGR.out hg3)
        have hs3 := hg3.size
        clear hst3 hg3 HO HST HGR
        go_wp2_with (fail)
        refine (next_any w3 p (k' + 1) xs 4 (by omega) (by omega) HST3.out).mono ?_
        have htl := nextN_lt xs (k' + 1) 4 (by omega)
        have h4 := nextN_eq xs (k' + 1) 4 (by omega)
        rw [show ((4 : Nat) : Int) = 4 from rfl] at h4
        rw [h4]
        clear h4
        obtain ⟨t, et⟩ : ∃ t, t = nextN xs (k' + 1) 4 := ⟨_, rfl⟩
        rw [← et] at htl HBY2 ⊢
        clear et
        rintro e w4 ⟨rfl, hst4, hg4⟩
        have HO4 := Lib.hid (own_kept HO3.out hg4 (by omega))
        have HST4 := Lib.hid hst4
        have HG4 := Lib.hid (grown_trans HG3.out hg4)
        have hs4 := hg4.size
        clear hst4 hg4 HO3 HST3 HG3
        have hiI : (i : Int) < m := by omega
        have hwi : IntKind.i64.wrap ((i : Int) + 1) = (i : Int) + 1 := by rw [IntKind.wrap_i64]; omega
        have hi1 : i + 1 ≤ m := by omega
        have hic : i + 1 ≤ c' := by omega
        have hic0 : i ≤ c' := by omega
        have HYL := Lib.hid (show (bytesV ys).length = m from by simp [bytesV, HM.out])
        have HCY := Lib.hid (own_cells0 HO4.out)
        by_cases ht0 : t = 0
        · have htI : (t : Int) = 0 := by omega
          have HBZ := Lib.hid (show byG xs (R - (j + 1)) (ys.take i ++ ys.drop (i + 1)) (k' + 2) = Y from by rw [← HBY2.out]; unfold byT; rw [if_pos ht0])
          clear HBY2
          have hs1 : ∀ Z : World, (Instr.slice 30 (.slice (some ⟨go_, 0, none⟩) m c') none (some (.int .i64 (i : Int))) none).run Tryz.prog Z = .ok (.slice (some ⟨go_, 0, none⟩) (i) c') Z := fun Z => (by (try rw [show ((i : Int) + 1) = ((i + 1 : Nat) : Int) from by omega]); exact slice_toB Tryz.underlying30 _ _ _ _ _ (by omega) Z hi)
          have hs2' : ∀ Z : World, (Instr.slice 30 (.slice (some ⟨go_, 0, none⟩) m c') (some (.int .i64 ((i : Int) + 1))) none none).run Tryz.prog Z = .ok (.slice (some ⟨go_, ofB c' (i + 1), none⟩) (m - (i + 1)) (c' - (i + 1))) Z := fun Z => (by (try rw [show ((i : Int) + 1) = ((i + 1 : Nat) : Int) from by omega]); exact slice_fromB Tryz.underlying30 _ _ _ _ (by omega) Z hi hz1)
          obtain ⟨oF, eoF⟩ : ∃ o, o = ofB c' (i + 1) := ⟨_, rfl⟩
          rw [← eoF] at hs2'
          have HOF := Lib.hid eoF
          clear eoF
          go_upto_region 10 with (fail)
          refine qRegionTail 7 (by kernel_rfl) (by kernel_rfl) ?_
          simp only [List.take_succ_cons, List.take_zero, List.drop_succ_cons, List.drop_zero]
          repeat (first
            | (go_big_quiet_want; refine qVal (fun V hV => (by (go_simp; try rfl))) ?_; simp only [Act.put, List.setIfInBounds_toArray, List.set_cons_zero, List.set_cons_succ]; go_big_quiet_on)
            | go_big_quiet_skip)
          refine wpQuiet_nil ?_
          intro w5 hb5
          have HO5 := Lib.hid (own_belowP HO4.out hb5)
          have HST5 := Lib.hid (HST4.out.below hb5)
          have HG5 := Lib.hid (grown_trans HG4.out (grown_belowP (r := some p) hb5))
          have hs5 := hb5.size
          have HCY5 := Lib.hid (own_cells0 HO5.out)
          have HSH := Lib.hid (own_shrink HO5.out (i) (by omega))
          clear hb5 HO4 HST4 HG4 HCY hs1 hs2'
          go_wp2_with (at_builtin; refine wpList_append_own2 _ rfl (.tmp 41) (.tmp 45) 30 rfl w.heap.size 5 i0 (.int .u8 0) 1 1 Tryz.underlying30 hi hz0 hz1 hz2 rfl (by decide) _ _ _ rfl HSH.out ⟨go_, oF, none⟩ (m - (i + 1)) (c' - (i + 1)) ((bytesV ys).drop (i + 1)) rfl ?e0 ?e1 ?e2 ?e3 ?e4 ?e5 ?_)
          case e0 => rw [List.length_drop, HYL.out]; omega
          case e1 =>
            intro q u hq
            rw [List.getElem?_drop] at hq
            have hlt2 : (i + 1) + q < m := by rw [← HYL.out]; exact (List.getElem?_eq_some_iff.1 hq).1
            have hof : oF = i + 1 := by rw [HOF.out]; unfold ofB; rw [if_neg (by omega)]
            have := HCY5.out _ _ hq
            rw [Nat.zero_add] at this
            rw [Addr.add_lit, hof]
            exact this
          case e2 => exact fun u hu => bytesV_one _ u (List.mem_of_mem_drop hu)
          case e3 => unfold maxLen; omega
          case e4 => omega
          case e5 => omega
          intro v6 w6 ho6 hg6 hm6
          obtain ⟨VB, vb, rfl⟩ := own_slice ho6
          have hlo : ∀ q, (Value.slice (some ⟨go_, 0, none⟩) (i) c').ownBlock = some q → w.heap.size ≤ q := fun q hq => by cases hq; exact hgo1
          have HR6 := Lib.hid (show w6.ownsRow w.heap.size 5 1 (.slice VB (ys.take (i) ++ ys.drop (i + 1)).length vb) (ys.take (i) ++ ys.drop (i + 1)).length (bytesV (ys.take (i) ++ ys.drop (i + 1))) ∧ Strm w6 p xs (k' + 2) ∧ w.grownBy w6 (some p) ∧ BytesOk (ys.take (i) ++ ys.drop (i + 1)) ∧ byG xs (R - (j + 1)) (ys.take (i) ++ ys.drop (i + 1)) (k' + 2) = Y from by
            refine ⟨?_, HST5.out.row hg6 (fun q hq => by have := hlo q hq; omega), grown_more HG5.out hg6 hlo, fun y hy => ?_, HBZ.out⟩
            · have e1 : (ys.take (i) ++ ys.drop (i + 1)).length = (i) + (m - (i + 1)) := by rw [List.length_append, List.length_take, List.length_drop, HM.out]; omega
              rw [e1, bytesV_app]
              have e2 : bytesV (ys.take (i)) = (bytesV ys).take (i) := by simp [bytesV, List.map_take]
              have e3 : bytesV (ys.drop (i + 1)) = (bytesV ys).drop (i + 1) := by simp [bytesV, List.map_drop]
              rw [e2, e3]
              exact ho6
            · rcases List.mem_append.1 hy with h | h
              · exact HBO.out y (List.mem_of_mem_take h)
              · exact HBO.out y (List.mem_of_mem_drop h))
          have hlen6 : (ys.take (i) ++ ys.drop (i + 1)).length ≤ n + (j + 1) := by rw [List.length_append, List.length_take, List.length_drop, HM.out]; omega
          have hl7 : (i) + (m - (i + 1)) = (ys.take (i) ++ ys.drop (i + 1)).length := by rw [List.length_append, List.length_take, List.length_drop, HM.out]; omega
          rw [hl7]
          clear ho6 hg6 hm6 hlo hl7 HBZ HCY5 HSH HO5 hwi
          go_wp2_with (fail)
          go_roundw
          case rel => exact ⟨j + 1, k' + 2, _, VB, vb, by omega, by go_num, rfl, by omega, hlen6, HR6⟩
          case measure => simp [intOf]; omega
        have htI0 : ¬ (t : Int) = 0 := by omega
        by_cases ht1 : t = 1
        · have htI : (t : Int) = 1 := by omega
          have HBZ := Lib.hid (show byG xs (R - (j + 1)) (ys.take (i + 1) ++ ys.drop i) (k' + 2) = Y from by rw [← HBY2.out]; unfold byT; rw [if_neg ht0, if_pos ht1])
          clear HBY2
          have hs1 : ∀ Z : World, (Instr.slice 30 (.slice (some ⟨go_, 0, none⟩) m c') none (some (.int .i64 ((i : Int) + 1))) none).run Tryz.prog Z = .ok (.slice (some ⟨go_, 0, none⟩) (i + 1) c') Z := fun Z => (by (try rw [show ((i : Int) + 1) = ((i + 1 : Nat) : Int) from by omega]); exact slice_toB Tryz.underlying30 _ _ _ _ _ (by omega) Z hi)
          have hs2' : ∀ Z : World, (Instr.slice 30 (.slice (some ⟨go_, 0, none⟩) m c') (some (.int .i64 (i : Int))) none none).run Tryz.prog Z = .ok (.slice (some ⟨go_, ofB c' (i), none⟩) (m - (i)) (c' - (i))) Z := fun Z => (by (try rw [show ((i : Int) + 1) = ((i + 1 : Nat) : Int) from by omega]); exact slice_fromB Tryz.underlying30 _ _ _ _ (by omega) Z hi hz1)
          obtain ⟨oF, eoF⟩ : ∃ o, o = ofB c' (i) := ⟨_, rfl⟩
          rw [← eoF] at hs2'
          have HOF := Lib.hid eoF
          clear eoF
          go_upto_region 12 with (fail)
          refine qRegionTail 7 (by kernel_rfl) (by kernel_rfl) ?_
          simp only [List.take_succ_cons, List.take_zero, List.drop_succ_cons, List.drop_zero]
          repeat (first
            | (go_big_quiet_want; refine qVal (fun V hV => (by (go_simp; try rfl))) ?_; simp only [Act.put, List.setIfInBounds_toArray, List.set_cons_zero, List.set_cons_succ]; go_big_quiet_on)
            | go_big_quiet_skip)
          refine wpQuiet_nil ?_
          intro w5 hb5
          have HO5 := Lib.hid (own_belowP HO4.out hb5)
          have HST5 := Lib.hid (HST4.out.below hb5)
          have HG5 := Lib.hid (grown_trans HG4.out (grown_belowP (r := some p) hb5))
          have hs5 := hb5.size
          have HCY5 := Lib.hid (own_cells0 HO5.out)
          have HSH := Lib.hid (own_shrink HO5.out (i + 1) (by omega))
          clear hb5 HO4 HST4 HG4 HCY hs1 hs2'
          go_wp2_with (at_builtin; refine wpList_append_own2 _ rfl (.tmp 52) (.tmp 55) 30 rfl w.heap.size 5 i0 (.int .u8 0) 1 1 Tryz.underlying30 hi hz0 hz1 hz2 rfl (by decide) _ _ _ rfl HSH.out ⟨go_, oF, none⟩ (m - (i)) (c' - (i)) ((bytesV ys).drop (i)) rfl ?e0 ?e1 ?e2 ?e3 ?e4 ?e5 ?_)
          case e0 => rw [List.length_drop, HYL.out]; omega
          case e1 =>
            intro q u hq
            rw [List.getElem?_drop] at hq
            have hlt2 : (i) + q < m := by rw [← HYL.out]; exact (List.getElem?_eq_some_iff.1 hq).1
            have hof : oF = i := by rw [HOF.out]; unfold ofB; rw [if_neg (by omega)]
            have := HCY5.out _ _ hq
            rw [Nat.zero_add] at this
            rw [Addr.add_lit, hof]
            exact this
          case e2 => exact fun u hu => bytesV_one _ u (List.mem_of_mem_drop hu)
          case e3 => unfold maxLen; omega
          case e4 => omega
          case e5 => omega
          intro v6 w6 ho6 hg6 hm6
          obtain ⟨VB, vb, rfl⟩ := own_slice ho6
          have hlo : ∀ q, (Value.slice (some ⟨go_, 0, none⟩) (i + 1) c').ownBlock = some q → w.heap.size ≤ q := fun q hq => by cases hq; exact hgo1
          have HR6 := Lib.hid (show w6.ownsRow w.heap.size 5 1 (.slice VB (ys.take (i + 1) ++ ys.drop (i)).length vb) (ys.take (i + 1) ++ ys.drop (i)).length (bytesV (ys.take (i + 1) ++ ys.drop (i))) ∧ Strm w6 p xs (k' + 2) ∧ w.grownBy w6 (some p) ∧ BytesOk (ys.take (i + 1) ++ ys.drop (i)) ∧ byG xs (R - (j + 1)) (ys.take (i + 1) ++ ys.drop (i)) (k' + 2) = Y from by
            refine ⟨?_, HST5.out.row hg6 (fun q hq => by have := hlo q hq; omega), grown_more HG5.out hg6 hlo, fun y hy => ?_, HBZ.out⟩
            · have e1 : (ys.take (i + 1) ++ ys.drop (i)).length = (i + 1) + (m - (i)) := by rw [List.length_append, List.length_take, List.length_drop, HM.out]; omega
              rw [e1, bytesV_app]
              have e2 : bytesV (ys.take (i + 1)) = (bytesV ys).take (i + 1) := by simp [bytesV, List.map_take]
              have e3 : bytesV (ys.drop (i)) = (bytesV ys).drop (i) := by simp [bytesV, List.map_drop]
              rw [e2, e3]
              exact ho6
            · rcases List.mem_append.1 hy with h | h
              · exact HBO.out y (List.mem_of_mem_take h)
              · exact HBO.out y (List.mem_of_mem_drop h))
          have hlen6 : (ys.take (i + 1) ++ ys.drop (i)).length ≤ n + (j + 1) := by rw [List.length_append, List.length_take, List.length_drop, HM.out]; omega
          have hl7 : (i + 1) + (m - (i)) = (ys.take (i + 1) ++ ys.drop (i)).length := by rw [List.length_append, List.length_take, List.length_drop, HM.out]; omega
          rw [hl7]
          clear ho6 hg6 hm6 hlo hl7 HBZ HCY5 HSH HO5 hwi
          go_wp2_with (fail)
          go_roundw
          case rel => exact ⟨j + 1, k' + 2, _, VB, vb, by omega, by go_num, rfl, by omega, hlen6, HR6⟩
          case measure => simp [intOf]; omega
        have htI1 : ¬ (t : Int) = 1 := by omega
        by_cases ht2 : t = 2
        · have htI : (t : Int) = 2 := by omega
          have HBZ := Lib.hid (show byG xs (R - (j + 1)) (ys.take i) (k' + 2) = Y from by rw [← HBY2.out]; unfold byT; rw [if_neg ht0, if_neg ht1, if_pos ht2])
          clear HBY2
          have hs1 : ∀ Z : World, (Instr.slice 30 (.slice (some ⟨go_, 0, none⟩) m c') none (some (.int .i64 (i : Int))) none).run Tryz.prog Z = .ok (.slice (some ⟨go_, 0, none⟩) i c') Z := fun Z => slice_toB Tryz.underlying30 _ _ _ _ _ (by omega) Z hi
          have htl2 : (ys.take i).length = i := by rw [List.length_take, HM.out]; omega
          have HR6 := Lib.hid (show w4.ownsRow w.heap.size 5 1 (.slice (some ⟨go_, 0, none⟩) (ys.take i).length c') (ys.take i).length (bytesV (ys.take i)) ∧ Strm w4 p xs (k' + 2) ∧ w.grownBy w4 (some p) ∧ BytesOk (ys.take i) ∧ byG xs (R - (j + 1)) (ys.take i) (k' + 2) = Y from by
            refine ⟨?_, HST4.out, HG4.out, fun y hy => HBO.out y (List.mem_of_mem_take hy), HBZ.out⟩
            rw [htl2]
            have h := own_shrink HO4.out i (by omega)
            rw [Nat.mul_one] at h
            have e2 : bytesV (ys.take i) = (bytesV ys).take i := by simp [bytesV, List.map_take]
            rw [e2]
            exact h)
          have HTL := Lib.hid htl2
          clear htl2 hwi
          go_wp2_with (fail)
          go_roundw
          case rel => exact ⟨j + 1, k' + 2, ys.take i, some ⟨go_, 0, none⟩, c', by omega, by go_num, by rw [HTL.out], by omega, by rw [HTL.out]; omega, HR6⟩
          case measure => simp [intOf]; omega
        have htI2 : ¬ (t : Int) = 2 := by omega
        obtain ⟨y, hy⟩ : ∃ y, ys[i]? = some y := ⟨_, List.getElem?_eq_getElem (by rw [HM.out]; omega)⟩
        have hyr := HBO.out y (List.mem_of_getElem? hy)
        have c4 : w4.cell? ⟨go_, i, none⟩ = some (.int .u8 y) := by
          have := HCY.out i (.int .u8 y) (by simp [bytesV, hy])
          rwa [Nat.zero_add] at this
        have hgo4 : go_ < w4.heap.size := by omega
        have fr4 : w4.frozen? ⟨go_, i, none⟩ = false := HO4.out.frozenAt _
        have hpg : go_ ≠ p := by omega
        go_upto_region 8 with (fail)
        have h8 := nextN_eq xs (k' + 2) 8 (by omega)
        rw [show ((8 : Nat) : Int) = 8 from rfl] at h8
        have h8l := nextN_lt xs (k' + 2) 8 (by omega)
        obtain ⟨mm, emm⟩ : ∃ q, q = nextN xs (k' + 2) 8 := ⟨_, rfl⟩
        rw [← emm] at h8 h8l HBY2
        have HMM := Lib.hid h8
        clear h8 emm
        have HNX := Lib.hid ((next_any w4.drew p (k' + 2) xs 8 (by omega) (by omega) (HST4.out.keep (fun _ _ => rfl))).mono (R' := fun e w5 => e = .returned (.int .i64 (mm : Int)) ∧ Strm w5 p xs (k' + 3) ∧ w4.grownBy w5 (some p) ∧ w5.cell? ⟨go_, i, none⟩ = some (.int .u8 y) ∧ w5.frozen? ⟨go_, i, none⟩ = false ∧ go_ < w5.heap.size) (fun e w5 h => by
          have hg5 : w4.grownBy w5 (some p) := ⟨h.2.2.os, h.2.2.tape, h.2.2.output, h.2.2.size, h.2.2.block⟩
          have ho5 := own_kept HO4.out hg5 (by omega)
          refine ⟨by rw [h.1, HMM.out], h.2.1, hg5, ?_, ho5.frozenAt _, by have := hg5.size; omega⟩
          have := own_cells0 ho5 i (.int .u8 y) (by simp [bytesV, hy])
          rwa [Nat.zero_add] at this))
        go_region_law (first | (go_simp; go_at_call 26; (with_reducible refine HNX.out.mono ?_); rintro e w5 ⟨rfl, hst5, hg5, c5, fr5, hgo5⟩))
        all_goals
          have HBZ := Lib.hid (show byG xs (R - (j + 1)) (ys.set i (xoB y mm)) (k' + 3) = Y from by
            rw [← HBY2.out]; unfold byT; rw [if_neg ht0, if_neg ht1, if_neg ht2]
            rw [show ys.getD i 0 = y from by rw [List.getD_eq_getElem?_getD, hy]; rfl])
          have ho5 := own_kept HO4.out hg5 (by omega)
          have hsl : (ys.set i (xoB y mm)).length = m := by rw [List.length_set, HM.out]
          have hset := own_setCells [.int .u8 (xoB y mm)] i w5 (bytesV ys) ho5 (by rw [HYL.out]; simp; omega)
          have HR6 := Lib.hid (show (w5.setCell ⟨go_, i, none⟩ (.int .u8 (xoB y mm))).ownsRow w.heap.size 5 1 (.slice (some ⟨go_, 0, none⟩) (ys.set i (xoB y mm)).length c') (ys.set i (xoB y mm)).length (bytesV (ys.set i (xoB y mm))) ∧ Strm (w5.setCell ⟨go_, i, none⟩ (.int .u8 (xoB y mm))) p xs (k' + 3) ∧ w.grownBy (w5.setCell ⟨go_, i, none⟩ (.int .u8 (xoB y mm))) (some p) ∧ BytesOk (ys.set i (xoB y mm)) ∧ byG xs (R - (j + 1)) (ys.set i (xoB y mm)) (k' + 3) = Y from by
            rw [hsl]
            refine ⟨?_, hst5.row hset.2 (fun q hq => by cases hq; omega), grown_more (grown_trans HG4.out hg5) hset.2 (fun q hq => by cases hq; exact hgo1), fun z hz => ?_, HBZ.out⟩
            · have h1 := hset.1
              have e : (bytesV ys).take i ++ [Value.int .u8 (xoB y mm)] ++ (bytesV ys).drop (i + 1) = bytesV (ys.set i (xoB y mm)) := by
                unfold bytesV
                rw [← List.map_take, ← List.map_drop, List.map_set, List.set_eq_take_append_cons_drop, if_pos (by rw [List.length_map, HM.out]; omega)]
                simp [List.map_take, List.map_drop]
              rw [← e]
              exact h1
            · rcases List.mem_or_eq_of_mem_set hz with h | h
              · exact HBO.out z h
              · rw [h]; exact xoB_in y mm)
          have HTL := Lib.hid hsl
          have exo : bits .xor .u8 y (IntKind.u8.wrap (2 ^ mm)) = xoB y mm := rfl
          rw [exo]
          obtain ⟨w6, e6⟩ : ∃ V : World, V = w5.setCell ⟨go_, i, none⟩ (.int .u8 (xoB y mm)) := ⟨_, rfl⟩
          rw [← e6] at HR6 ⊢
          clear e6 hset ho5 hst5 hg5 c5 fr5 hgo5 HBZ hsl exo
          go_wp2_with (fail)
          go_roundw
          case rel => exact ⟨j + 1, k' + 3, ys.set i (xoB y mm), some ⟨go_, 0, none⟩, c', by omega, by go_num, by rw [HTL.out], by omega, by rw [HTL.out]; omega, HR6⟩
          case measure => simp [intOf]; omega
    · have hltI : ¬ (j : Int) < R := by omega
      have HE := Lib.hid (show (ys, k') = Y from by
        have h := HBY.out
        rw [show R - j = 0 by omega, byG] at h
        exact h)
      clear HBY
      go_wp2_with (fail)
      go_ret
      rw [← HE.out]
      exact ⟨A, c', m, rfl, HM.out, HO.out, HBO.out, HST.out, HGR.out⟩
end Go.Proofs.YtnmgfnnkcenfeaaGreatDoor
