/- Letters of the stream: what they are. -/
import Derived.Test.YtnnncddjcdjhoaaGreatDoorLrD
import Derived.Test.YtnnncddjcdjhoaaGreatDoorLrC
namespace Go.Proofs.YtnnncddjcdjhoaaGreatDoor
open Go.RowKit Go.Shelf

theorem Tryz.infoLr : (Tryz.prog.info? 35).map (fun i => (i.zero, i.size, i.bytes)) = some (some (.agg #[.string ⟨#[]⟩, .string ⟨#[]⟩, .string ⟨#[]⟩, .int .i64 0, .int .i64 0, .int .i64 0]), 6, 72) := by kernel_rfl
theorem cAt_range (j : Nat) (h : j < 4) : 0 ≤ cAt.getD j 0 ∧ cAt.getD j 0 ≤ 9 := getD_all (fun v : Int => 0 ≤ v ∧ v ≤ 9) 0 cAt (by decide) j h
def LePost (w : World) (p k n : Nat) (xs : LiA) (e : Ending) (w' : World) : Prop :=
  ∃ (L : List Lr) (A : Option Addr) (c k' m : Nat), leF xs k n = (L, k') ∧ e = .returned (.slice A m c) ∧ (∀ x ∈ L, LrK x) ∧ L.length = m ∧ m ≤ n ∧ w'.ownsRow w.heap.size 35 6 (.slice A m c) m (recs lrC L) ∧ Strm w' p xs k' ∧ k' ≤ k + 12 * n + 1 ∧ w.grownBy w' (some p)
set_option maxRecDepth 100000 in
set_option maxHeartbeats 4000000 in
theorem letters_any (w : World) (p k n : Nat) (xs : LiA) (hn : n ≤ 5) (hk : k < 100000) (hs : Strm w p xs k) :
    Calls Tryz.prog 4 #[.pointer (some ⟨p, 0, none⟩), .int .i64 (n : Int)] w fun e w' => LePost w p k n xs e w' := by
  obtain ⟨i0, hi0, hz0, hz1, hz2⟩ := info_parts Tryz.infoLr
  have hplt := hs.lt
  have HS := Lib.hid hs
  clear hs
  go_enter Tryz.func4, Tryz.ntmps4
  go_wp2_with (fail)
  go_loopw [5, 7] (fun v s wr => ∃ (j k' : Nat) (L : List Lr), j ≤ n ∧ s = .int .i64 (j : Int) ∧ (∀ x ∈ L, LrK x) ∧ L.length = j ∧ wr.ownsRow w.heap.size 35 6 v j (recs lrC L) ∧ Strm wr p xs k' ∧ k' ≤ k + 12 * j ∧ w.grownBy wr (some p) ∧ Hid (lsF xs k j = (L, k'))) (fun _ s _ => n - (intOf s).toNat)
  case atStart => exact ⟨0, k, [], by omega, rfl, by simp, rfl, World.ownsRow_nil _ _ _ _, HS.out, by omega, grown_refl _ _, Lib.hid rfl⟩
  case round =>
    obtain ⟨j, k', L, hj, rfl, hok, hln, hown, hst, hk', hgr, HSO⟩ := hrel
    have HOK := Lib.hid hok
    have HLN := Lib.hid hln
    have HO := Lib.hid hown
    have HST := Lib.hid hst
    have HGR := Lib.hid hgr
    have hrs := hgr.size
    clear hok hln hown hst hgr
    by_cases hlt : j < n
    · have hltI : (j : Int) < n := by omega
      go_wp2_with (fail)
      refine (pick_any _ p k' wr.heap.size 4 4 xs cAt (by omega) rfl (by omega) (by omega) (HST.out.alloc _) (by omega) (Cells.new _ _ _ _ _ rfl)).mono ?_
      have ha0 := cAt_range (nextN xs k' 4) (nextN_lt _ _ _ (by omega))
      obtain ⟨a, ea⟩ : ∃ r, r = cAt.getD (nextN xs k' 4) 0 := ⟨_, rfl⟩
      rw [← ea] at ha0 ⊢
      have HAT := Lib.hid ea
      clear ea
      rintro e w3 ⟨rfl, hst3, hg3⟩
      have hg3' := grown_of_alloc hg3
      have hs3 := hg3'.size
      have HO3 := Lib.hid (own_kept HO.out hg3' (by omega))
      have HST3 := Lib.hid hst3
      have HG3 := Lib.hid (grown_trans HGR.out hg3')
      clear hst3 hg3 hg3'
      go_wp2_with (fail)
      refine (letter_any w3 p (k' + 1) xs a (by omega) (by omega) HST3.out).mono ?_
      rintro e w4 ⟨l, k2, hlt4, rfl, hst4, hg4⟩
      rw [show (lrC l).toArray = #[.string l.id, .string l.sl, .string l.bo, .int .i64 l.pr, .int .i64 l.at_, .int .i64 l.un] from rfl]
      have hk2 : k2 ≤ k' + 1 + 11 := by have := ltF_pos xs (k' + 1) a; rw [hlt4] at this; exact this
      have HLK := Lib.hid (show LrK l from by have := ltF_k xs (k' + 1) a; rw [hlt4] at this; exact this)
      have HSI2 := Lib.hid (lsF_step HSO.out HAT.out hlt4)
      have hs4 := hg4.size
      have HO4 := Lib.hid (own_kept HO3.out hg4 (by omega))
      have HST4 := Lib.hid hst4
      have HG4 := Lib.hid (grown_trans HG3.out hg4)
      clear hst4 hg4 hlt4
      go_wp2_with (at_builtin; refine wpList_append_own2 _ rfl _ _ 26 rfl w.heap.size 35 i0 _ 6 72 Tryz.underlying26 hi0 hz0 hz1 hz2 rfl (by decide) _ _ _ rfl (HO4.out.alloc _) ⟨_, 0, none⟩ 1 1 (lrC l) rfl rfl ?c1 ?c2 ?c3 ?c4 ?c5 ?_)
      case c1 => exact cells_add (Cells.new _ _ _ _ _ rfl)
      case c2 => exact lrC_one _
      case c3 => unfold maxLen; omega
      case c4 => omega
      case c5 => first | omega | (simp; omega)
      intro v9 w9 ho9 hg9 hm9
      have hlo : ∀ q, u5.ownBlock = some q → w.heap.size ≤ q := fun q hq => (HO4.out.lt q hq).1
      have hlo2 : ∀ q, u5.ownBlock = some q → p < q := fun q hq => by have := hlo q hq; omega
      have HST9 := Lib.hid ((HST4.out.alloc _).row hg9 hlo2)
      have HG9 := Lib.hid (grown_more (grown_trans HG4.out (World.grownBy_alloc _ _ (some p))) hg9 hlo)
      have HO9 := Lib.hid ho9
      have HOK9 := Lib.hid (show ∀ y ∈ L ++ [l], LrK y from fun y hy => by
        rw [List.mem_append, List.mem_singleton] at hy
        rcases hy with hy | rfl
        · exact HOK.out y hy
        · exact HLK.out)
      clear ho9 hg9 hm9 hlo hlo2
      go_wp2_with (fail)
      go_roundw
      case rel => exact ⟨j + 1, k2, L ++ [l], by omega, by go_num, HOK9.out, by rw [List.length_append, HLN.out]; rfl, by rw [recs_snoc]; exact HO9.out, HST9.out, by omega, HG9.out, HSI2⟩
      case measure => simp [intOf]; omega
    · obtain rfl : j = n := by omega
      go_wp2_with (fail)
      refine (flipD_any wr p k' xs 8 (by omega) (by omega) (by omega) HST.out).mono ?_
      obtain ⟨b, eb⟩ : ∃ b : Bool, b = decide (nextV xs k' 8 = 0) := ⟨_, rfl⟩
      rw [← eb]
      have HBB := Lib.hid eb
      clear eb
      rintro e w3 ⟨rfl, hst3, hg3⟩
      have hs3 := hg3.size
      obtain ⟨A, c, rfl⟩ := own_slice HO.out
      have HO3 := Lib.hid (own_kept HO.out hg3 (by omega))
      have HST3 := Lib.hid hst3
      have HG3 := Lib.hid (grown_trans HGR.out hg3)
      clear hst3 hg3
      cases b with
      | true =>
        have HF := Lib.hid (show LePost w p k j xs (.returned (.slice A j c)) w3 from ⟨L, A, c, k' + 1, j, leF_yes HSO.out HBB.out, rfl, HOK.out, HLN.out, Nat.le_refl _, HO3.out, HST3.out, by omega, HG3.out⟩)
        go_wp2_with (fail)
        go_ret
        exact HF.out
      | false =>
        go_wp2_with (fail)
        refine (sortStableL_any L j c w.heap.size A w3 HLN.out (by omega) HO3.out).mono ?_
        rintro e w4 ⟨rfl, M, hpm, hlm, ho4, hg4, hM⟩
        have hlo : ∀ q, (Value.slice A j c).ownBlock = some q → w.heap.size ≤ q := fun q hq => (HO3.out.lt q hq).1
        have hlo2 : ∀ q, (Value.slice A j c).ownBlock = some q → p < q := fun q hq => by have := hlo q hq; omega
        have HST4 := Lib.hid (HST3.out.row hg4 hlo2)
        have HG4 := Lib.hid (grown_more HG3.out hg4 hlo)
        have HO4 := Lib.hid ho4
        have HM := Lib.hid (And.intro hpm hM)
        have HLM := Lib.hid hlm
        clear hpm hlm ho4 hg4 hM
        go_wp2_with (fail)
        refine (compactL_any M j c w.heap.size A w4 HLM.out (by omega) HO4.out).mono ?_
        rintro e w5 ⟨m2, n2, rfl, hl2, hn2, hmem, ho5, hg5, hcs⟩
        have HF := Lib.hid (show LePost w p k j xs (.returned (.slice A n2 c)) w5 from ⟨m2, A, c, k' + 1, n2, leF_no HSO.out HBB.out HM.out.2 hcs, rfl, fun x hx => HOK.out x (HM.out.1.mem_iff.1 (hmem x hx)), hl2, hn2, ho5, HST4.out.row hg5 hlo2, by omega, grown_more HG4.out hg5 hlo⟩)
        clear hl2 hn2 hmem ho5 hg5 hcs
        go_wp2_with (fail)
        go_ret
        exact HF.out
end Go.Proofs.YtnnncddjcdjhoaaGreatDoor
