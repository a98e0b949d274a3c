/- spoil of rows of string: it writes into its own row alone. Printed by gen_GnX.py. -/
import Derived.Test.YtnnncddjcdjhoaaGreatDoorMgB
import Derived.Test.YtnnncddjcdjhoaaGreatDoorLrC
namespace Go.Proofs.YtnnncddjcdjhoaaGreatDoor
open Go.RowKit

set_option maxRecDepth 100000 in
set_option maxHeartbeats 2000000 in
theorem spoilTx_any (l : List Value) (n B : Nat) (v : Value) (w : World) (hn : l.length = n * 1) (hn2 : n ≤ 5000) (ho : w.ownsRow B 9 1 v n l) :
    Calls Tryz.prog 16 #[v] w fun e w' => e = .returned (.tuple #[]) ∧ w.grownBy w' v.ownBlock := by
  obtain ⟨A, c, rfl⟩ := own_slice ho
  have HOB := Lib.hid (fun q hq => (ho.lt q hq).2)
  have HO := Lib.hid ho
  have HN := Lib.hid hn
  clear ho hn
  go_enter Tryz.func16, Tryz.ntmps16
  have H0 := Lib.hid (show ∃ l' : List Value, l'.length = n * 1 ∧ w.ownsRow B 9 1 (.slice A n c) n l' ∧ w.grownBy w (Value.slice A n c).ownBlock from
    ⟨l, HN.out, HO.out, grown_refl _ _⟩)
  go_upto_region 2 with (fail)
  go_loopw [6] (fun i wr => ∃ j : Nat, j ≤ n ∧ i = .int .i64 (j : Int) ∧ Hid (∃ l' : List Value, l'.length = n * 1 ∧ wr.ownsRow B 9 1 (.slice A n c) n l' ∧ w.grownBy wr (Value.slice A n c).ownBlock)) (fun i _ => n - (intOf i).toNat)
  case atStart => exact ⟨0, Nat.zero_le _, rfl, H0⟩
  case round =>
    obtain ⟨j, hj, rfl, HR⟩ := hrel
    obtain ⟨wa, rfl⟩ : ∃ wy : World, wy = wr := ⟨_, rfl⟩
    obtain ⟨l', hl', hoa, hga⟩ := HR.out
    by_cases hlt : j < n
    · have hltI : (j : Int) < (n : Int) := by omega
      obtain ⟨h1, h2, h3⟩ | ⟨g, rfl, hg1, hg2⟩ := own_two hoa
      · omega
      have hcl := own_cells0 hoa
      obtain ⟨x0, hx0⟩ : ∃ x, l'[j]? = some x := ⟨_, List.getElem?_eq_getElem (by omega)⟩
      have c0 := hcl _ _ hx0
      simp only [Nat.zero_add] at c0
      have f0 : wa.frozen? ⟨g, j, none⟩ = false := hoa.frozenAt _
      clear hx0
      obtain ⟨w1, e1⟩ : ∃ V : World, V = wa.setCell ⟨g, j, none⟩ (.string ⟨#[]⟩) := ⟨_, rfl⟩
      have HS := Lib.hid (show ∃ l2 : List Value, l2.length = n * 1 ∧ w1.ownsRow B 9 1 (.slice (some ⟨g, 0, none⟩) n c) n l2 ∧ w.grownBy w1 (Value.slice (some ⟨g, 0, none⟩) n c).ownBlock from by
        obtain ⟨s1, s2⟩ := own_setCells [.string ⟨#[]⟩] (j) wa l' hoa (by show j + 1 ≤ _; omega)
        have e2 : wa.setCells g (j) [.string ⟨#[]⟩] = w1 := by rw [e1]; rfl
        rw [e2] at s1 s2
        exact ⟨_, by simp only [List.length_append, List.length_take, List.length_drop, List.length_cons, List.length_nil]; omega, s1, grown_trans hga s2⟩)
      clear hoa hga hcl
      go_wp2_with (fail)
      rw [← e1]
      clear e1
      go_roundw
      case rel => exact ⟨j + 1, by omega, by go_num, HS⟩
      case measure => simp [intOf]; omega
    · have hltI : ¬ (j : Int) < (n : Int) := by omega
      have HG := Lib.hid hga
      clear hoa hga
      go_wp2_with (fail)
      go_end0
      exact ⟨rfl, HG.out⟩
end Go.Proofs.YtnnncddjcdjhoaaGreatDoor
