/- RightFleet of the stream with five at most. Printed by gen_PlE.py out of XCmX. -/
import Derived.Test.YtidgicbhgnbidaaGreatDoorCmX
namespace Go.Proofs.YtidgicbhgnbidaaGreatDoor
open Go.RowKit

set_option maxRecDepth 100000 in
set_option maxHeartbeats 4000000 in
theorem rightFleet5_any (w : World) (p k0 : Nat) (xs : List Int) (hk : k0 < 900000) (hs : Strm w p xs k0) :
    Calls Tryz.prog 19 #[.pointer (some ⟨p, 0, none⟩), .int .i64 5] w fun e w' => FlPost w p k0 xs e w' := by
  obtain ⟨id0, hid0, hzd0, hzd1, hzd2⟩ := info_parts Tryz.infoDv
  have hplt := hs.lt
  have HS := Lib.hid hs
  clear hs
  go_enter Tryz.func19, Tryz.ntmps19
  go_upto_region 3 with (fail)
  obtain ⟨g8, eg8⟩ : ∃ g, g = w.heap.size := ⟨_, rfl⟩
  obtain ⟨w0, e0⟩ : ∃ V : World, V = w.alloc (.cells #[.string (dvT 0), .string (dvT 1), .string (dvT 2), .string (dvT 3), .string (dvT 4), .string (dvT 5)] 9) := ⟨_, rfl⟩
  have hg0 : w0.heap[g8]? = some (.cells #[.string (dvT 0), .string (dvT 1), .string (dvT 2), .string (dvT 3), .string (dvT 4), .string (dvT 5)] 9 (0, 0)) := by rw [e0, eg8]; exact heap_new w _
  have H0 := Lib.hid (show w.grownBy w0 (some p) ∧ Strm w0 p xs k0 from ⟨by rw [e0]; exact World.grownBy_alloc _ _ (some p), by rw [e0]; exact HS.out.alloc _⟩)
  have hg8p : p < g8 := by omega
  have hs0 : w0.heap.size = w.heap.size + 1 := by rw [e0]; simp
  unfold dvT at e0
  simp only at e0
  rw [← eg8, ← e0]
  have HG8 := Lib.hid (show g8 < w0.heap.size ∧ w.heap.size ≤ w0.heap.size by omega)
  have hp0 : p < w0.heap.size := by omega
  clear eg8 e0 hs0
  have HCELL := Lib.hid (fun (V : World) (hV : V.heap[g8]? = some (.cells #[.string (dvT 0), .string (dvT 1), .string (dvT 2), .string (dvT 3), .string (dvT 4), .string (dvT 5)] 9 (0, 0))) (i : Nat) (hi : i < 6) => show V.cell? ⟨g8, i, none⟩ = some (.string (dvT i)) from by
    rcases six_ofD hi with h | h | h | h | h | h <;> subst h <;> exact cell_of_blk hV rfl)
  have HG0 := Lib.hid hg0
  clear hg0
  go_loopw [12, 5] (fun i l wr => ∃ (j n c k : Nat) (A : Option Addr), j ≤ 5 ∧ n ≤ j ∧ k ≤ k0 + 4 * j ∧ i = .int .i64 (j : Int) ∧ l = .slice A n c ∧ Hid (∃ F : List Dv, FlK j F ∧ F.length = n ∧ wr.ownsRow w0.heap.size 67 7 (.slice A n c) n (recs dvC F) ∧ Strm wr p xs k ∧ w0.grownBy wr (some p))) (fun i _ _ => 5 - (intOf i).toNat)
  case atStart => exact ⟨0, 0, 0, k0, none, Nat.zero_le _, Nat.le_refl _, by omega, rfl, rfl, Lib.hid ⟨[], ⟨Nat.le_refl _, fun _ h => absurd h List.not_mem_nil, List.Pairwise.nil⟩, rfl, World.ownsRow_nil _ _ _ _, H0.out.2, grown_refl _ _⟩⟩
  case round =>
    obtain ⟨j, n, c, k, A, hj, hnj, hkj, rfl, rfl, HR⟩ := hrel
    obtain ⟨F, hFK, hFn, hoF, hsF, hgF⟩ := HR.out
    have HFK := Lib.hid (And.intro hFK hFn)
    have HOF := Lib.hid hoF
    have HSF := Lib.hid hsF
    have HGF := Lib.hid hgF
    clear hFK hFn hoF hsF hgF HR
    by_cases hlt : j < 5
    · have hltI : (j : Int) < 5 := by omega
      have hg8r := (HGF.out.block g8 HG8.out.1 (by intro e; injection e with e; omega)).trans HG0.out
      have hlg8 := (Array.getElem?_eq_some_iff.1 hg8r).1
      have c0 := HCELL.out wr hg8r j (by omega)
      clear hg8r
      go_wp2_with (fail)
      refine (flip_any wr p k xs 5 (by omega) (by omega) (by omega) HSF.out).mono ?_
      rintro e w1 ⟨b, rfl, hs1, hg1⟩
      have HO1 := Lib.hid (own_p HOF.out (by omega) hg1)
      have HS1 := Lib.hid hs1
      have HG1 := Lib.hid (grown_trans HGF.out hg1)
      clear hs1 hg1 c0
      cases b with
      | true =>
        go_wp2_with (fail)
        go_roundw
        case rel => exact ⟨j + 1, n, c, k + 1, A, by omega, by omega, by omega, by go_num, rfl, Lib.hid ⟨F, HFK.out.1.mono, HFK.out.2, HO1.out, HS1.out, HG1.out⟩⟩
        case measure => simp [intOf]; omega
      | false =>
        have hp1 : p < w1.heap.size := HS1.out.lt
        go_wp2_with (fail)
        refine (some_any _ p (k + 1) w1.heap.size 4 4 xs pkMd (by omega) rfl (by omega) (by omega) (HS1.out.alloc _) (by omega) (Cells.new _ _ _ _ _ rfl)).mono ?_
        obtain ⟨mi, hmi, emi⟩ := pkMd_get (nextN_lt xs (k + 1) 4 (by omega))
        rw [emi]
        clear emi
        rintro e w2 ⟨rfl, hs2, hg2⟩
        have hg2' := grown_of_alloc hg2
        have HO2 := Lib.hid (own_p HO1.out (by omega) hg2')
        have HS2 := Lib.hid hs2
        have HG2 := Lib.hid (grown_trans HG1.out hg2')
        have hp2 : p < w2.heap.size := HS2.out.lt
        clear hs2 hg2 hg2'
        go_wp2_with (fail)
        refine (pick_any _ p (k + 1 + 1) w2.heap.size 5 5 xs pkMj (by omega) rfl (by omega) (by omega) (HS2.out.alloc _) (by omega) (Cells.new _ _ _ _ _ rfl)).mono ?_
        have ha := pkv_all (fun v => 0 ≤ v ∧ v ≤ 9999) pkMj (by decide) (nextN xs (k + 1 + 1) 5) (nextN_lt _ _ _ (by omega))
        obtain ⟨a, ea⟩ : ∃ z, z = pkMj.getD (nextN xs (k + 1 + 1) 5) 0 := ⟨_, rfl⟩
        rw [← ea] at ha ⊢
        clear ea
        rintro e w3 ⟨rfl, hs3, hg3⟩
        have hg3' := grown_of_alloc hg3
        have HO3 := Lib.hid (own_p HO2.out (by omega) hg3')
        have HS3 := Lib.hid hs3
        have HG3 := Lib.hid (grown_trans HG2.out hg3')
        have hp3 : p < w3.heap.size := HS3.out.lt
        clear hs3 hg3 hg3'
        go_wp2_with (fail)
        refine (pick_any _ p (k + 1 + 1 + 1) w3.heap.size 3 3 xs pkMn (by omega) rfl (by omega) (by omega) (HS3.out.alloc _) (by omega) (Cells.new _ _ _ _ _ rfl)).mono ?_
        have hb := pkv_all (fun v => 0 ≤ v ∧ v ≤ 9999) pkMn (by decide) (nextN xs (k + 1 + 1 + 1) 3) (nextN_lt _ _ _ (by omega))
        obtain ⟨b, eb⟩ : ∃ z, z = pkMn.getD (nextN xs (k + 1 + 1 + 1) 3) 0 := ⟨_, rfl⟩
        rw [← eb] at hb ⊢
        clear eb
        rintro e w4 ⟨rfl, hs4, hg4⟩
        have hg4' := grown_of_alloc hg4
        have HO4 := Lib.hid (own_p HO3.out (by omega) hg4')
        have HS4 := Lib.hid hs4
        have HG4 := Lib.hid (grown_trans HG3.out hg4')
        clear hs4 hg4 hg4'
        obtain ⟨d, ed⟩ : ∃ d : Dv, d = ⟨j, mi, ⟨a, b, 0⟩⟩ := ⟨_, rfl⟩
        have HDK := Lib.hid (show DvOk d ∧ d.k = j from by
          rw [ed]
          exact ⟨⟨by show j < 6; omega, hmi, ⟨ha, hb, by show (0 : Int) ≤ 0 ∧ (0 : Int) ≤ 9999; omega⟩⟩, rfl⟩)
        have HDC := Lib.hid (show dvC d = [.string (dvT j), .string (mdT mi), .string tnT, .int .i64 a, .int .i64 b, .int .i64 0, .slice none 0 0] from by rw [ed]; rfl)
        have hba : Below w4.heap.size w4 (w4.alloc (.cells #[.string (dvT j), .string (mdT mi), .string tnT, .int .i64 a, .int .i64 b, .int .i64 0, .slice none 0 0] 67)) := (Below.refl _ _).alloc (Nat.le_refl _) _
        have HAL := Lib.hid (own_below HO4.out hba)
        have HG5 := Lib.hid (grown_below HG4.out hba)
        have HS5 := Lib.hid (HS4.out.below hba)
        have hbs := HG5.out.size
        have hw4 := HG4.out.size
        clear hba ed
        go_wp2_with (at_builtin; refine wpList_append_own2 _ rfl _ _ 55 rfl w0.heap.size 67 id0 _ 7 96 Tryz.underlying55 hid0 hzd0 hzd1 hzd2 rfl (by decide) _ _ _ rfl HAL.out ⟨_, 0, none⟩ 1 1 (dvC d) rfl rfl ?c1 ?c2 ?c3 ?c4 ?c5 ?_)
        case c1 => exact fun j u h => by rw [HDC.out] at h; exact cells_add (Cells.new _ _ _ _ _ rfl) j u h
        case c2 => exact dvC_one d
        case c3 => unfold maxLen; omega
        case c4 => omega
        case c5 => first | omega | (simp only [World.size_alloc] at *; omega)
        intro v13 w13 ho13 hg13 hm13
        obtain ⟨A3, c3, rfl⟩ := own_slice ho13
        have HR3 := Lib.hid (show ∃ F : List Dv, FlK (j + 1) F ∧ F.length = n + 1 ∧ w13.ownsRow w0.heap.size 67 7 (.slice A3 (n + 1) c3) (n + 1) (recs dvC F) ∧ Strm w13 p xs (k + 1 + 1 + 1 + 1) ∧ w0.grownBy w13 (some p) from
          ⟨F ++ [d], HFK.out.1.snoc HDK.out.1 HDK.out.2, by rw [List.length_append, HFK.out.2]; rfl, by
            have e : recs dvC (F ++ [d]) = recs dvC F ++ dvC d := by simp [recs]
            rw [e]; exact ho13, HS5.out.row hg13 (fun q hq => by have := (HAL.out.lt q hq).1; omega), grown_over HG5.out ((Below.refl _ _).grown hg13 hbs (fun q hq => (HAL.out.lt q hq).1))⟩)
        clear ho13 hg13 hm13 hbs HAL
        go_wp2_with (fail)
        go_roundw
        case rel => exact ⟨j + 1, n + 1, c3, k + 1 + 1 + 1 + 1, A3, by omega, by omega, by omega, by go_num, rfl, HR3⟩
        case measure => simp [intOf]; omega
    · have hltI : ¬ (j : Int) < 5 := by omega
      obtain rfl : j = 5 := by omega
      have HF := Lib.hid (show FlPost w p k0 xs (.returned (.slice A n c)) wr from ⟨F, A, n, c, k, HFK.out.1.mono.fl, HFK.out.2, by omega, rfl, own_mono HOF.out HG8.out.2, HSF.out, grown_trans H0.out.1 HGF.out⟩)
      go_wp2_with (fail)
      go_ret
      exact HF.out
end Go.Proofs.YtidgicbhgnbidaaGreatDoor
