/- place.Plain by its contract. -/
import Derived.Test.YthplhibdapjjgaaGreatDoorTpE
import Derived.Test.YthplhibdapjjgaaGreatDoorMgC
import Derived.Test.YthplhibdapjjgaaGreatDoorDel
import Derived.Laws.MakeOwn
import Derived.Laws.EntriesVeiled
namespace Go.Proofs.YthplhibdapjjgaaGreatDoor
open Go.RowKit

theorem Tryz.infoBool : (Tryz.prog.info? 4).map (fun i => (i.zero, i.size, i.bytes)) = some (some (.bool false), 1, 1) := by kernel_rfl
theorem Tryz.infoIntN : (Tryz.prog.info? 3).map (fun i => (i.zero, i.size, i.bytes)) = some (some (.int .i64 0), 1, 8) := by kernel_rfl
theorem madeCells_bool (n : Nat) : madeCells (Value.bool false).cells (n * 1) = ((List.replicate n false).map Value.bool).toArray := by
  have hz : (Value.bool false).cells = #[.bool false] := rfl
  rw [hz, Nat.mul_one]
  apply Array.ext
  · simp [madeCells]
  · intro i h1 h2
    simp [madeCells, Nat.mod_one]
def natC (m : Nat) : List Value := [.int .i64 (m : Int)]
theorem natC_len (m : Nat) : (natC m).length = 1 := rfl
theorem natC_one (m : Nat) : ∀ u ∈ natC m, u.oneCell' = true := by
  intro u hu
  simp only [natC, List.mem_singleton] at hu
  rw [hu]; rfl

set_option maxRecDepth 100000 in
set_option maxHeartbeats 8000000 in
theorem plain_any (l : List Fx) (n c mo : Nat) (A : Option Addr) (w : World) (hmo : mo ≤ 1000) (hn : l.length = n) (hg : GoodF l) (hnar : ∀ x ∈ l, NarF x) (hr : Row w w.heap.size A (recs fxC l)) :
    Calls Tryz.prog 11 #[.slice A n c, .int .i64 (mo : Int)] w fun e w' => ∃ (v : Value) (B : List Bool), e = .returned (.tuple #[v, .int .i64 0]) ∧ B.length = n ∧ (0 < n → GoodK mo l B 0 (n - 1)) ∧ w'.ownsRow w.heap.size 3 1 v (kI B n).length (recs natC (kI B n)) ∧ Below w.heap.size w w' := by
  obtain ⟨ib, hib, zb0, zb1, zb2⟩ := info_parts Tryz.infoBool
  obtain ⟨i0, hi0, hz0, hz1, hz2⟩ := info_parts Tryz.infoIntN
  have hn2 : n ≤ 100 := by rw [← hn]; exact hg.len
  have hmk : ∀ V : World, (Instr.makeSlice 75 (.int .i64 (n : Int)) (.int .i64 (n : Int))).run Tryz.prog V = .ok (.slice (some ⟨V.heap.size, 0, none⟩) n n) (V.alloc (.cells ((List.replicate n false).map Value.bool).toArray 4)) := by
    intro V
    have h := run_make (P := Tryz.prog) V 75 4 ib (.bool false) Tryz.underlying75 hib zb0 .i64 .i64 (n : Int) (n : Int) (by omega) (Int.le_refl _) (by rw [zb2]; omega) (by omega)
    rw [Int.toNat_natCast, zb1, madeCells_bool] at h
    exact h
  have HR := Lib.hid hr
  have HG := Lib.hid hg
  have HN := Lib.hid hn
  have HNAR := Lib.hid hnar
  clear hr hg hn hnar
  go_enter Tryz.func11, Tryz.ntmps11
  go_wp2_with (fail)
  generalize hX : (w.alloc (.cells #[.slice A n c] 30)).alloc (.cells #[.int .i64 (mo : Int)] 3) = X
  have hXs : X.heap.size = w.heap.size + 1 + 1 := by rw [← hX]; simp
  have hBX : Below w.heap.size w X := by rw [← hX]; exact ((Below.refl _ _).alloc (Nat.le_refl _) _).alloc (by simp) _
  have hl0 : X.heap[w.heap.size]? = some (.cells #[.slice A n c] 30 (0, 0)) := by rw [← hX, Below.heap_alloc _ _ _ (by simp)]; exact heap_new w _
  have hm0 : X.heap[w.heap.size + 1]? = some (.cells #[.int .i64 (mo : Int)] 3 (0, 0)) := by rw [← hX]; have := heap_new (w.alloc (.cells #[.slice A n c] 30)) (.cells #[.int .i64 (mo : Int)] 3); simpa using this
  have HRX := Lib.hid ((HR.out.below hBX).mono (show w.heap.size ≤ X.heap.size by omega))
  have HL0 := Lib.hid hl0
  have HM0 := Lib.hid hm0
  have HBX := Lib.hid hBX
  have x0 := cell_of_blk (j := 0) hl0 rfl
  clear hX hBX hl0 hm0 HR
  go_wp2_with (fail)
  refine (trackFault_any l n c A X HN.out HG.out HRX.out).mono ?_
  rintro e w1 ⟨rfl, hb1⟩
  have hs1 := hb1.size
  have hl1 := (hb1.block w.heap.size (by omega)).trans HL0.out
  have hm1 := (hb1.block (w.heap.size + 1) (by omega)).trans HM0.out
  have y0 := cell_of_blk (j := 0) hl1 rfl
  have y1 := cell_of_blk (j := 0) hm1 rfl
  have HB1 := Lib.hid (HBX.out.trans (hb1.mono (by omega)))
  have HR1 := Lib.hid ((HRX.out.below hb1).mono hs1)
  have HL1 := Lib.hid hl1
  have HM1 := Lib.hid hm1
  clear hb1 hl1 hm1 x0
  have hlw : w.heap.size < w1.heap.size := by omega
  have hmw : w.heap.size + 1 < w1.heap.size := by omega
  go_upto_region 8 with (go_at_call 41; refine (out_no _ _ _ _ (by omega) (by omega)).mono ?_; rintro e w' ⟨rfl, rfl⟩)
  generalize hV : ((w1.alloc (.cells (Array.replicate n (Value.bool false)) 4)).alloc (.cells #[.slice (some ⟨w1.heap.size, 0, none⟩) n n] 75)).alloc (.cells #[.nilFunc] 76) = V
  have hVs : V.heap.size = w1.heap.size + 1 + 1 + 1 := by rw [← hV]; simp
  have hBV : Below w1.heap.size w1 V := by rw [← hV]; exact (((Below.refl _ _).alloc (Nat.le_refl _) _).alloc (by simp) _).alloc (by simp; omega) _
  have hk0 : V.heap[w1.heap.size]? = some (.cells ((List.replicate n false).map Value.bool).toArray 4 (0, 0)) := by
    rw [← hV, Below.heap_alloc _ _ _ (by simp; omega), Below.heap_alloc _ _ _ (by simp), heap_newD]
    simp
  have hg0 : V.heap[w1.heap.size + 1]? = some (.cells #[.slice (some ⟨w1.heap.size, 0, none⟩) n n] 75 (0, 0)) := by
    rw [← hV, Below.heap_alloc _ _ _ (by simp)]
    have := heap_newD (w1.alloc (.cells (Array.replicate n (Value.bool false)) 4)) (.cells #[.slice (some ⟨w1.heap.size, 0, none⟩) n n] 75)
    simpa using this
  have hf0 : V.heap[w1.heap.size + 1 + 1]? = some (.cells #[.nilFunc] 76 (0, 0)) := by
    rw [← hV]
    have := heap_newD ((w1.alloc (.cells (Array.replicate n (Value.bool false)) 4)).alloc (.cells #[.slice (some ⟨w1.heap.size, 0, none⟩) n n] 75)) (.cells #[.nilFunc] 76)
    simpa using this
  have cf := cell_of_blk (j := 0) hf0 rfl
  have ff : V.frozen? ⟨w1.heap.size + 1 + 1, 0, none⟩ = false := by simp [World.frozen?, hf0]
  have hlV := (hBV.block w.heap.size hlw).trans HL1.out
  have hmV := (hBV.block (w.heap.size + 1) hmw).trans HM1.out
  have HF0 := Lib.hid hf0
  have HG0 := Lib.hid hg0
  have HK0 := Lib.hid hk0
  have HLV := Lib.hid hlV
  have HMV := Lib.hid hmV
  have HBV := Lib.hid hBV
  clear hV hBV hk0 hg0 hf0 hlV hmV y0 y1
  go_upto_region 9 with (fail)
  obtain ⟨F, eF⟩ : ∃ F, F = Value.func (.func 42) #[] #[.pointer (some ⟨w1.heap.size + 1, 0, none⟩), .pointer (some ⟨w.heap.size + 1, 0, none⟩), .pointer (some ⟨w.heap.size, 0, none⟩), .pointer (some ⟨w1.heap.size + 1 + 1, 0, none⟩)] := ⟨_, rfl⟩
  generalize hU : V.setCell ⟨w1.heap.size + 1 + 1, 0, none⟩ (Value.func (.func 42) #[] #[.pointer (some ⟨w1.heap.size + 1, 0, none⟩), .pointer (some ⟨w.heap.size + 1, 0, none⟩), .pointer (some ⟨w.heap.size, 0, none⟩), .pointer (some ⟨w1.heap.size + 1 + 1, 0, none⟩)]) = U
  have hUs : U.heap.size = V.heap.size := by rw [← hU]; simp [World.setCell]
  have hBU : Below w1.heap.size w1 U := by rw [← hU]; exact HBV.out.setCell (p := ⟨w1.heap.size + 1 + 1, 0, none⟩) (by show w1.heap.size ≤ w1.heap.size + 1 + 1; omega) _
  have hUk : U.heap[w1.heap.size]? = some (.cells ((List.replicate n false).map Value.bool).toArray 4 (0, 0)) := by
    rw [← hU, Below.heap_setCell _ ⟨w1.heap.size + 1 + 1, 0, none⟩ _ _ (by show w1.heap.size ≠ w1.heap.size + 1 + 1; omega)]; exact HK0.out
  have hUg : U.heap[w1.heap.size + 1]? = some (.cells #[.slice (some ⟨w1.heap.size, 0, none⟩) n n] 75 (0, 0)) := by
    rw [← hU, Below.heap_setCell _ ⟨w1.heap.size + 1 + 1, 0, none⟩ _ _ (by show w1.heap.size + 1 ≠ w1.heap.size + 1 + 1; omega)]; exact HG0.out
  have hUf : U.heap[w1.heap.size + 1 + 1]? = some (.cells #[F] 76 (0, 0)) := by
    rw [← hU, eF]; exact heap_setCell_same _ _ 0 _ _ _ HF0.out
  have hUl := (hBU.block w.heap.size hlw).trans HL1.out
  have hUm := (hBU.block (w.heap.size + 1) hmw).trans HM1.out
  have HUK := Lib.hid hUk
  have HUG := Lib.hid hUg
  have HBU := Lib.hid hBU
  have HRU := Lib.hid ((HR1.out.below hBU).mono hBU.size)
  have u0 := cell_of_blk (j := 0) hUl rfl
  rcases Nat.eq_zero_or_pos n with h0 | h0
  · subst h0
    have u1 := cell_of_blk (j := 0) hUg rfl
    clear hU hBU hUk hUg hUf hUl hUm cf ff eF
    go_wp2_with (fail)
    refine wp_loop_rounds 1 ?_
    rw [rounds_succ]
    go_wp2_with (fail)
    go_ret2
    refine ⟨_, [], rfl, rfl, fun h => by omega, ?_, ?_⟩
    · exact World.ownsRow_nil _ _ _ _
    · exact HB1.out.trans (HBU.out.mono (by omega))
  · obtain ⟨b, o, rfl, hb, hc⟩ := Row.posR fxC_len (by omega) HR1.out (by have := HN.out; omega)
    have HPS := Lib.hid (show PSt U (w1.heap.size + 1) (w.heap.size + 1) w.heap.size (w1.heap.size + 1 + 1) w1.heap.size n c (some ⟨b, o, none⟩) (mo : Int) l (List.replicate n false) from
      ⟨hUg, hUm, hUl, by rw [hUf, eF], ⟨b, o, rfl, by omega, by omega, hc.keep (hBU.block b hb)⟩, hUk, by simp, by omega, by omega, by omega, by omega⟩)
    have u2 := cell_of_blk (j := 0) HPS.out.vb rfl
    have hnI : (0 : Int) < (n : Int) := by omega
    have wn : IntKind.i64.wrap ((n : Int) - 1) = ((n - 1 : Nat) : Int) := by rw [IntKind.wrap_i64]; omega
    have hcall : Calls Tryz.prog 42 #[.int .i64 0, .int .i64 ((n - 1 : Nat) : Int), .pointer (some ⟨w1.heap.size + 1, 0, none⟩), .pointer (some ⟨w.heap.size + 1, 0, none⟩), .pointer (some ⟨w.heap.size, 0, none⟩), .pointer (some ⟨w1.heap.size + 1 + 1, 0, none⟩)] U fun e w'' => e = .returned (.tuple #[]) ∧ P1 mo (w1.heap.size + 1) (w.heap.size + 1) w.heap.size (w1.heap.size + 1 + 1) w1.heap.size n c (some ⟨b, o, none⟩) l 0 (n - 1) (List.replicate n false) U w'' :=
      plain1_any (w1.heap.size + 1) (w.heap.size + 1) w.heap.size (w1.heap.size + 1 + 1) w1.heap.size n c (some ⟨b, o, none⟩) mo l hn2 hmo HN.out HNAR.out (n - 1) 0 (n - 1) (List.replicate n false) U (by omega) (by omega) (by omega) HPS.out (fun m h1 h2 => by rw [List.getElem?_replicate]; simp; omega)
    have HCALL := Lib.hid hcall
    clear hU hBU hUk hUg hUf hUl hUm cf ff eF hcall hc
    go_wp2_with (fail)
    refine HCALL.out.mono ?_
    rintro e w2 ⟨rfl, B, hbtw, hps, hg⟩
    have hs2 := hg.size
    have hBl : B.length = n := hps.len
    have HBTW := Lib.hid hbtw
    have HP2 := Lib.hid hps
    have HB2 := Lib.hid (HB1.out.trans ((HBU.out.grown hg (by omega) (fun k hk => by injection hk with hk; omega)).mono (by omega)))
    have g0 := cell_of_blk (j := 0) hps.vk rfl
    clear hbtw hps hg u0 u2
    go_wp2_with (fail)
    go_loopw [9, 33] (fun v i wr => ∃ j : Nat, j ≤ n ∧ i = .int .i64 (j : Int) ∧ wr.ownsRow w2.heap.size 3 1 v (kI B j).length (recs natC (kI B j)) ∧ Below w2.heap.size w2 wr) (fun _ i _ => n - (intOf i).toNat)
    case atStart => exact ⟨0, Nat.zero_le _, rfl, World.ownsRow_nil _ _ _ _, Below.refl _ _⟩
    case round =>
      obtain ⟨j, hj, rfl, hown, hbl⟩ := hrel
      have hsz := hbl.size
      have HBL := Lib.hid hbl
      by_cases hlt : j < n
      · have cb := (HP2.out.below hbl).cell hlt
        have hjI : (j : Int) < (n : Int) := by omega
        have hj0 : (0 : Int) ≤ (j : Int) := by omega
        have hkl := kI_length B j
        have HKS := Lib.hid (kI_succ B j)
        obtain ⟨bj, ebj⟩ : ∃ bj, bj = B.getD j false := ⟨_, rfl⟩
        rw [← ebj] at cb HKS
        obtain ⟨J, eJ⟩ : ∃ J, J = kI B j := ⟨_, rfl⟩
        rw [← eJ] at hown hkl HKS
        obtain ⟨m, em⟩ : ∃ m, m = J.length := ⟨_, rfl⟩
        rw [← em] at hown hkl
        have HOWN := Lib.hid hown
        have HM := Lib.hid em
        clear hbl hown ebj eJ em
        cases bj with
        | true =>
          go_wp2_with (at_builtin; refine wpList_append_own _ rfl _ _ 22 rfl w2.heap.size 3 i0 _ 1 8 Tryz.underlying22 hi0 hz0 hz1 hz2 rfl (by decide) _ _ _ rfl (HOWN.out.alloc _) ⟨wr.heap.size, 0, none⟩ 1 1 (natC j) rfl rfl ?c1 ?c2 ?c3 ?c4 ?c5 ?_)
          case c1 => exact fun _ _ h => h
          case c2 => exact natC_one _
          case c3 => unfold maxLen; omega
          case c4 => omega
          case c5 => omega
          intro v9 w9 ho9 hg9 _
          have hg9' := grown_of_alloc hg9
          have HO9 := Lib.hid ho9
          have HB9 := Lib.hid (HBL.out.grown hg9' (by omega) (fun q hq => (HOWN.out.lt q hq).1))
          clear ho9 hg9 hg9' cb
          go_wp2_with (fail)
          go_roundw
          case rel =>
            have e1 : kI B (j + 1) = J ++ [j] := by rw [HKS.out]; simp
            refine ⟨j + 1, by omega, by go_num, ?_, HB9.out⟩
            rw [e1, recs_snoc, List.length_append, ← HM.out]
            exact HO9.out
          case measure => simp [intOf]; omega
        | false =>
          go_wp2_with (fail)
          go_roundw
          case rel =>
            have e1 : kI B (j + 1) = J := by rw [HKS.out]; simp
            refine ⟨j + 1, by omega, by go_num, ?_, HBL.out⟩
            rw [e1, ← HM.out]
            exact HOWN.out
          case measure => simp [intOf]; omega
      · obtain rfl : j = n := by omega
        obtain ⟨A7, c7, rfl⟩ := own_slice hown
        have HOWN := Lib.hid hown
        clear hbl hown
        go_wp2_with (fail)
        go_ret2
        exact ⟨_, B, rfl, hBl, fun _ => HBTW.out.good, own_mono HOWN.out (by have := HB1.out.size; omega), HB2.out.trans (HBL.out.mono (by have := HB2.out.size; omega))⟩
end Go.Proofs.YthplhibdapjjgaaGreatDoor
