/- RightMarks of the stream by its contract. -/
import Derived.Test.YtidgicbhgnbidaaGreatDoorCmI
import Derived.Test.YtidgicbhgnbidaaGreatDoorCnA
namespace Go.Proofs.YtidgicbhgnbidaaGreatDoor
open Go.RowKit

def RmPost (many : Nat) (w : World) (p k0 : Nat) (xs : List Int) (e : Ending) (w' : World) : Prop :=
  ∃ (l : List Mk) (A : Option Addr) (n c k : Nat), MksOk l ∧ l.length = n ∧ k ≤ k0 + 985 ∧ e = .returned (.slice A n c) ∧ w'.ownsRow w.heap.size 64 6 (.slice A n c) n (recs mkC l) ∧ Strm w' p xs k ∧ w.grownBy w' (some p)
theorem MksOk.nil : MksOk [] := ⟨by simp, fun _ h => absurd h List.not_mem_nil, List.Pairwise.nil⟩
set_option maxRecDepth 100000 in
set_option maxHeartbeats 8000000 in
theorem rightMarks_any (C : Cm) (F : List Dv) (many nf cf B : Nat) (AF : Option Addr) (w : World) (p k0 : Nat) (xs : List Int) (hk : k0 < 700000) (hmany : many ≤ 14) (hC : CmOk C) (hF : FlOk F) (hnf : F.length = nf) (hs : Strm w p xs k0) (hpB : p < B) (hB : B ≤ w.heap.size) (hr : w.ownsRow B 67 7 (.slice AF nf cf) nf (recs dvC F)) :
    Calls Tryz.prog 26 #[.pointer (some ⟨p, 0, none⟩), cmV C, .slice AF nf cf, .int .i64 (many : Int)] w fun e w' => RmPost many w p k0 xs e w' := by
  have hplt := hs.lt
  obtain ⟨gc, egc⟩ : ∃ g, g = w.heap.size := ⟨_, rfl⟩
  obtain ⟨w0, e0⟩ : ∃ V : World, V = w.alloc (cmB C) := ⟨_, rfl⟩
  have hb0 : Below w.heap.size w w0 := by rw [e0]; exact (Below.refl _ _).alloc (Nat.le_refl _) _
  have hc0 : w0.heap[gc]? = some (cmB C) := by rw [e0, egc]; exact heap_new w _
  have hs0 : w0.heap.size = w.heap.size + 1 := by rw [e0]; simp
  have H0 := Lib.hid (show w.grownBy w0 (some p) ∧ Strm w0 p xs k0 ∧ w0.ownsRow B 67 7 (.slice AF nf cf) nf (recs dvC F) from ⟨by rw [e0]; exact World.grownBy_alloc _ _ (some p), hs.below hb0, own_below hr hb0⟩)
  have HF := Lib.hid (And.intro hF hnf)
  have HC := Lib.hid hC
  have HC0 := Lib.hid hc0
  have hp0 : p < w0.heap.size := by omega
  have hpg : p < gc := by omega
  have HSZ := Lib.hid (show w.heap.size ≤ w0.heap.size ∧ B ≤ w0.heap.size from by omega)
  have HMA := Lib.hid (fun (k : Nat) (V : World) (hk : k < 800000) (hV : w0.grownBy V (some p)) (hs : Strm V p xs k) => marks_any C F many nf cf B AF V p k xs hk (by omega) HC.out HF.out.1 HF.out.2 hs hpB (Nat.le_trans HSZ.out.2 hV.size) (own_pM H0.out.2.2 hpB hV))
  unfold cmB at e0
  unfold cmV at HMA ⊢
  clear hs hr hF hC hb0 hc0 hs0
  go_enter Tryz.func26, Tryz.ntmps26
  go_upto_region 1 with (fail)
  rw [← egc, ← e0]
  clear e0 egc
  go_upto_region 2 with (fail)
  go_loopw [10] (fun i wr => ∃ (j k : Nat), j ≤ 5 ∧ k ≤ k0 + 197 * j ∧ i = .int .i64 (j : Int) ∧ Hid (Strm wr p xs k ∧ w0.grownBy wr (some p))) (fun i _ => 5 - (intOf i).toNat)
  case atStart => exact ⟨0, k0, by omega, by omega, rfl, Lib.hid ⟨H0.out.2.1, grown_refl _ _⟩⟩
  case round =>
    obtain ⟨j, k, hj, hkj, rfl, HR⟩ := hrel
    obtain ⟨w2, rfl⟩ : ∃ wy : World, wy = wr := ⟨_, rfl⟩
    by_cases hlt : j < 5
    · have hltI : (j : Int) < 5 := by omega
      have hc2 := blk_pM HC0.out hpg HR.out.2
      have c0 := cell_of_blk (j := 0) hc2 rfl
      have c1 := cell_of_blk (j := 1) hc2 rfl
      have c2 := cell_of_blk (j := 2) hc2 rfl
      have c3 := cell_of_blk (j := 3) hc2 rfl
      have c4 := cell_of_blk (j := 4) hc2 rfl
      have c5 := cell_of_blk (j := 5) hc2 rfl
      have c6 := cell_of_blk (j := 6) hc2 rfl
      have c7 := cell_of_blk (j := 7) hc2 rfl
      have c8 := cell_of_blk (j := 8) hc2 rfl
      have hgl := (Array.getElem?_eq_some_iff.1 hc2).1
      have hsz := HR.out.2.size
      clear hc2
      go_wp2_with (fail)
      refine (HMA.out k w2 (by omega) HR.out.2 HR.out.1).mono ?_
      rintro e w3 ⟨M, A, n, c, k3, hM, hn, hnm, hk3, rfl, ho3, hs3, hg3⟩
      have HO3 := Lib.hid ho3
      have HM3 := Lib.hid (And.intro hM hn)
      have HS3 := Lib.hid hs3
      have HG3 := Lib.hid (grown_trans HR.out.2 hg3)
      have HMF := Lib.hid (marksFault_any M n c A w3 hM hn (by omega) (own_row ho3))
      clear hM hn ho3 hs3 hg3 c0 c1 c2 c3 c4 c5 c6 c7 c8 hgl
      go_wp2_with (fail)
      refine HMF.out.mono ?_
      rintro e w4 ⟨⟨z, rfl, hz⟩, hb4⟩
      have HO4 := Lib.hid (own_below HO3.out hb4)
      have HS4 := Lib.hid (HS3.out.below hb4)
      have HG4 := Lib.hid (grown_below HG3.out hb4)
      clear hb4
      by_cases hz0 : z = 0
      · subst hz0
        have HF4 := Lib.hid (show RmPost many w p k0 xs (.returned (.slice A n c)) w4 from ⟨M, A, n, c, k3, hz rfl, HM3.out.2, by omega, rfl, own_mono HO4.out (Nat.le_trans HSZ.out.1 hsz), HS4.out, grown_trans H0.out.1 HG4.out⟩)
        clear hz
        go_wp2_with (fail)
        go_ret
        exact HF4.out
      · clear hz
        go_wp2_with (fail)
        go_roundw
        case rel => exact ⟨j + 1, k3, by omega, by omega, by go_num, Lib.hid ⟨HS4.out, HG4.out⟩⟩
        case measure => simp [intOf]; omega
    · have hltI : ¬ (j : Int) < 5 := by omega
      have HF4 := Lib.hid (show RmPost many w p k0 xs (.returned (.slice none 0 0)) w2 from ⟨[], none, 0, 0, k, MksOk.nil, rfl, by omega, rfl, World.ownsRow_nil _ _ _ _, HR.out.1, grown_trans H0.out.1 HR.out.2⟩)
      go_wp2_with (fail)
      go_ret
      exact HF4.out
end Go.Proofs.YtidgicbhgnbidaaGreatDoor
