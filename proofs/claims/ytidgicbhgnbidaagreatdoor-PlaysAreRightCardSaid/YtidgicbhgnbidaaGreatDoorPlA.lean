/- slices.Contains of keys of devices. Printed by gen_PlA.py out of XMyB. -/
import Derived.Test.YtidgicbhgnbidaaGreatDoorCmS
namespace Go.Proofs.YtidgicbhgnbidaaGreatDoor
open Go.RowKit

def dkC (i : Nat) : List Value := [.string (dvT i)]
theorem dkC_len (i : Nat) : (dkC i).length = 1 := rfl
def dkPost (D : List Nat) (j : Nat) (e : Ending) : Prop := ∃ z : Int, e = .returned (.int .i64 z) ∧ (0 ≤ z ↔ j ∈ D)
set_option maxRecDepth 100000 in
set_option maxHeartbeats 2000000 in
theorem idxK_any (D : List Nat) (n c j : Nat) (A : Option Addr) (w : World) (hn : D.length = n) (hn7 : n ≤ 1000000) (hD : ∀ i ∈ D, i < 6) (hj : j < 6) (hr : Row w w.heap.size A (recs dkC D)) :
    Calls Tryz.prog 85 #[.slice A n c, .string (dvT j)] w fun e w' => dkPost D j e ∧ w = w' := by
  have HR := Lib.hid hr
  have HN := Lib.hid hn
  have HD := Lib.hid hD
  clear hr hn hD
  go_enter Tryz.func85, Tryz.ntmps85
  go_wp2_with (fail)
  go_loopw [8] (fun s wr => ∃ k : Nat, k ≤ n ∧ s = .int .i64 k ∧ Hid (wr = w) ∧ Hid (∀ m i, m < k → D[m]? = some i → i ≠ j)) (fun s _ => n - (intOf s).toNat)
  case atStart => exact ⟨0, Nat.zero_le _, rfl, Lib.hid rfl, Lib.hid (fun m i hm _ => by omega)⟩
  case round =>
    obtain ⟨k, hk, rfl, HW, HK⟩ := hrel
    have hw := HW.out
    subst hw
    by_cases hlt : k < n
    · have hltI : (k : Int) < (n : Int) := by omega
      obtain ⟨x, hx⟩ : ∃ x, D[k]? = some x := ⟨_, List.getElem?_eq_getElem (by have := HN.out; omega)⟩
      obtain ⟨b, o, rfl, hb, hC⟩ := (HR.out).posR dkC_len (by omega) (by have := HN.out; omega)
      have c0 := rec_cell dkC_len hC k x hx 0 _ rfl
      simp only [Nat.mul_one, Nat.add_zero] at c0
      have hx6 := HD.out x (List.mem_of_getElem? hx)
      have e1 := (dvT_beq hj hx6).1
      have e2 := (dvT_beq hj hx6).2
      have HX := Lib.hid hx
      clear hC hx
      by_cases hjx : j = x
      · rw [decide_eq_true hjx] at e1 e2
        have HM := Lib.hid (show j ∈ D from by rw [hjx]; exact List.mem_of_getElem? HX.out)
        clear hjx
        go_wp2_with (fail)
        go_ret
        exact ⟨⟨_, rfl, iff_of_true (by omega) HM.out⟩, rfl⟩
      · rw [decide_eq_false hjx] at e1 e2
        have HJ := Lib.hid hjx
        clear hjx
        go_wp2_with (fail)
        go_roundw
        case rel =>
          refine ⟨k + 1, by omega, by go_num, Lib.hid (by simp), Lib.hid (fun m i hm hi => ?_)⟩
          by_cases hmk : m = k
          · subst hmk
            have h2 := HX.out
            rw [hi] at h2
            rw [Option.some.inj h2]
            exact fun e => HJ.out e.symm
          · exact HK.out m i (by omega) hi
        case measure => simp [intOf]; omega
    · have hltI : ¬ (k : Int) < (n : Int) := by omega
      have HM := Lib.hid (show j ∉ D from fun hm => by
        obtain ⟨m, hm⟩ := List.getElem?_of_mem hm
        exact HK.out m j (by have := (List.getElem?_eq_some_iff.1 hm).1; have := HN.out; omega) hm rfl)
      go_wp2_with (fail)
      go_ret
      exact ⟨⟨_, rfl, iff_of_false (by omega) HM.out⟩, rfl⟩
set_option maxRecDepth 100000 in
theorem contK_any (D : List Nat) (n c j : Nat) (A : Option Addr) (w : World) (hn : D.length = n) (hn7 : n ≤ 1000000) (hD : ∀ i ∈ D, i < 6) (hj : j < 6) (hr : Row w w.heap.size A (recs dkC D)) :
    Calls Tryz.prog 40 #[.slice A n c, .string (dvT j)] w fun e w' => e = .returned (.bool (decide (j ∈ D))) ∧ w = w' := by
  have HI := Lib.hid (idxK_any D n c j A w hn hn7 hD hj hr)
  unfold dkPost at HI
  obtain ⟨u, eu⟩ : ∃ u, u = decide (j ∈ D) := ⟨_, rfl⟩
  have HU := Lib.hid eu
  rw [← eu]
  clear hn hD hr eu
  go_enter Tryz.func40, Tryz.ntmps40
  go_wp2_with (fail)
  refine HI.out.mono ?_
  rintro e w1 ⟨⟨z, rfl, hz⟩, rfl⟩
  have HZ := Lib.hid hz
  clear hz
  have HDD := Lib.hid (show decide (0 ≤ z) = u from by rw [HU.out, decide_eq_decide]; exact HZ.out)
  go_wp2_with (fail)
  go_ret
  exact ⟨by rw [← HDD.out]; rfl, rfl⟩

end Go.Proofs.YtidgicbhgnbidaaGreatDoor
