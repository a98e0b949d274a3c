/- twin.Turn at right changes by its contract. -/
import Derived.Test.YtldlfgaaolehoaaGreatDoorPrK
namespace Go.Proofs.YtldlfgaaolehoaaGreatDoor
open Go.RowKit

def trnC (x : Ch) : Ch := (x.1, x.2.2, x.2.1)
def TnPost (l : List Ch) (n : Nat) (w : World) (e : Ending) (w' : World) : Prop :=
  ∃ A c, e = .returned (.tuple #[.slice A n c, .int .i64 0]) ∧ w'.ownsRow w.heap.size 123 9 (.slice A n c) n (recs chC (l.map trnC)) ∧ Below w.heap.size w w'
set_option maxRecDepth 100000 in
set_option maxHeartbeats 4000000 in
theorem turn_any (l : List Ch) (n c : Nat) (A : Option Addr) (w : World) (hl : ChsOk l) (hn : l.length = n) (hn7 : n ≤ 100) (hr : Row w w.heap.size A (recs chC l)) (hT : U8T w) :
    Calls Tryz.prog 13 #[.slice A n c] w fun e w' => TnPost l n w e w' := by
  obtain ⟨i0, hi0, hz0, hz1, hz2⟩ := info_parts Tryz.infoCh
  have HR := Lib.hid hr
  have HN := Lib.hid hn
  have HC := Lib.hid (checkChanges_any l n c A w hl hn hn7 hr hT)
  clear hr hl hn hT
  go_enter Tryz.func13, Tryz.ntmps13
  go_wp2_with (fail)
  refine HC.out.mono ?_
  rintro e w1 ⟨rfl, hb1⟩
  have HB1 := Lib.hid hb1
  have hs1 := hb1.size
  clear hb1
  go_wp2_with (fail)
  go_loopw [5, 15] (fun v s wr => ∃ i : Nat, i ≤ n ∧ s = .int .i64 (i : Int) ∧ wr.ownsRow w1.heap.size 123 9 v i (recs chC ((l.map trnC).take i)) ∧ Below w1.heap.size w1 wr) (fun _ s _ => n - (intOf s).toNat)
  case atStart => exact ⟨0, by omega, rfl, World.ownsRow_nil _ _ _ _, Below.refl _ _⟩
  case round =>
    obtain ⟨i, hiN, rfl, hown, hbr⟩ := hrel
    have hbs := hbr.size
    have HB := Lib.hid hbr
    have HO := Lib.hid hown
    by_cases hlt : i < n
    · have hltI : (i : Int) < n := by omega
      clear hown hbr
      obtain ⟨x, hx⟩ : ∃ x, l[i]? = some x := ⟨_, List.getElem?_eq_getElem (by have := HN.out; omega)⟩
      obtain ⟨b, o, rfl, hb, hC⟩ := (HR.out.below (HB1.out.trans (HB.out.mono hs1))).posR chC_len (by omega) (by have := HN.out; omega)
      obtain ⟨c0, c1, c2, c3, c4, c5, c6, c7, c8⟩ := ch_cells hC i x hx
      have HX := Lib.hid (show (l.map trnC).take (i + 1) = (l.map trnC).take i ++ [trnC x] from by rw [List.take_add_one, List.getElem?_map, hx]; rfl)
      clear hC hx
      go_wp2_with (at_builtin; refine wpList_append_own2 _ rfl _ _ 28 rfl w1.heap.size 123 i0 _ 9 96 Tryz.underlying28 hi0 hz0 hz1 hz2 rfl (by decide) _ _ _ rfl ((HO.out.alloc _).alloc _) ⟨_, 0, none⟩ 1 1 (chC (trnC x)) rfl rfl ?c1 ?c2 ?c3 ?c4 ?c5 ?_)
      case c1 => exact cells_add (cells_atF rfl (by simp))
      case c2 => exact chC_one _
      case c3 => unfold maxLen; omega
      case c4 => omega
      case c5 => simp; omega
      intro v6 w6 ho6 hg6 hm6
      have hlo : ∀ q, u5.ownBlock = some q → w1.heap.size ≤ q := fun q hq => (HO.out.lt q hq).1
      have HB6 := Lib.hid (((HB.out.alloc hbs _).alloc (by simp; omega) _).grown hg6 (by simp; omega) hlo)
      have HO6 := Lib.hid ho6
      clear ho6 hg6 hm6 hlo
      go_wp2_with (fail)
      go_roundw
      case rel =>
        refine ⟨i + 1, by omega, by simp, ?_, HB6.out⟩
        rw [HX.out, recs_snoc]
        exact HO6.out
      case measure => simp [intOf]; omega
    · have hltI : ¬ (i : Int) < n := by omega
      have hiN' : i = n := by omega
      subst hiN'
      obtain ⟨Ad, cd, rfl⟩ := own_slice hown
      have hfin : (l.map trnC).take i = l.map trnC := List.take_of_length_le (by rw [List.length_map, HN.out]; exact Nat.le_refl _)
      rw [hfin] at hown
      have HF := Lib.hid (show TnPost l i w (.returned (.tuple #[.slice Ad i cd, .int .i64 0])) wr from ⟨Ad, cd, rfl, own_mono hown hs1, HB1.out.trans (hbr.mono hs1)⟩)
      clear hown hbr hfin
      go_wp2_with (fail)
      go_ret2
      exact HF.out
end Go.Proofs.YtldlfgaaolehoaaGreatDoor
