/- twin.Under at the name "a": some of the properties, in new memory. -/
import Derived.Test.YtkcpfppjdjkjeaaGreatDoorPrO
import Derived.Test.YtkcpfppjdjkjeaaGreatDoorMgB
import Derived.Test.YtkcpfppjdjkjeaaGreatDoorCeB
import Derived.Test.YtkcpfppjdjkjeaaGreatDoorMgC
import Derived.Test.YtkcpfppjdjkjeaaGreatDoorCeF
namespace Go.Proofs.YtkcpfppjdjkjeaaGreatDoor
open Go.RowKit

def UnPost (m : Nat) (w : World) (e : Ending) (w' : World) : Prop :=
  ∃ (A : Option Addr) (c n : Nat) (L : List Pr), e = .returned (.tuple #[.slice A n c, .int .i64 0]) ∧ L.length = n ∧ n ≤ m ∧ w'.ownsRow w.heap.size 37 5 (.slice A n c) n (recs prC L) ∧ Below w.heap.size w w'
set_option maxRecDepth 100000 in
set_option maxHeartbeats 4000000 in
theorem under_any (l : List Pr) (m c : Nat) (A : Option Addr) (w : World) (hl : PrsGood l) (hm : l.length = m) (hm7 : m ≤ 100) (hr : Row w w.heap.size A (recs prC l)) (hT : U8T w) :
    Calls Tryz.prog 10 #[.slice A m c, .string ⟨#[97]⟩] w fun e w' => UnPost m w e w' := by
  obtain ⟨i0, hi0, hz0, hz1, hz2⟩ := info_parts Tryz.infoP
  have HR := Lib.hid hr
  have HL := Lib.hid hl
  have HM := Lib.hid hm
  have HCP := Lib.hid (checkProps_any l m c A w hl.1 hm (by omega) hr hT)
  rw [hl.2] at HCP
  clear hr hl hm hT
  go_enter Tryz.func10, Tryz.ntmps10
  go_wp2_with (fail)
  refine HCP.out.mono ?_
  rintro e w1 ⟨rfl, hb1⟩
  have HB1 := Lib.hid hb1
  clear hb1 HCP
  go_wp2_with (fail)
  refine (isName_nm 0 _).mono ?_
  rintro e w2 ⟨rfl, hb2⟩
  have HB2 := Lib.hid (HB1.out.trans (hb2.mono HB1.out.size))
  clear hb2
  go_wp2_with (fail)
  go_loopw [7, 20] (fun v s wr => ∃ (i n : Nat) (L : List Pr), i ≤ m ∧ s = .int .i64 (i : Int) ∧ L.length = n ∧ n ≤ i ∧ wr.ownsRow w.heap.size 37 5 v n (recs prC L) ∧ Below w.heap.size w wr) (fun _ s _ => m - (intOf s).toNat)
  case atStart => exact ⟨0, 0, [], Nat.zero_le _, rfl, rfl, Nat.le_refl _, World.ownsRow_nil _ _ _ _, HB2.out⟩
  case round =>
    obtain ⟨i, n, L, hi, rfl, hln, hni, hown, hbr⟩ := hrel
    have HLN := Lib.hid hln
    have HO := Lib.hid hown
    have HB := Lib.hid hbr
    have hbs := hbr.size
    clear hln hown hbr
    by_cases hlt : i < m
    · have hltI : (i : Int) < (m : Int) := by omega
      obtain ⟨p, hp⟩ : ∃ p, l[i]? = some p := ⟨_, List.getElem?_eq_getElem (by have := HM.out; omega)⟩
      obtain ⟨b, o, rfl, hb, hC⟩ := (HR.out.below HB.out).posR prC_len (by omega) (by have := HM.out; omega)
      have hp7 := (HL.out.1.2 p (List.mem_of_getElem? hp)).1
      obtain ⟨c0, c1, c2, c3, c4⟩ := pr_cells hC i p hp
      have HE : ((nm p.1).toList == [97]) = decide (p.1 = 0) := by
        have h := nm_eqv p.1 0 hp7 (by omega)
        rwa [show (nm 0).toList = [97] from by rw [Lib.toList_data]; rfl] at h
      have HBF := Lib.hid (fun (V : World) => show Calls Tryz.prog 37 #[.string (nm p.1), .string ⟨#[97]⟩] V fun e w' => e = .returned (.bool (blN p.1 0)) ∧ Below V.heap.size V w' from (belowF_any p.1 0 hp7 (by omega) V).mono (fun e w' h => ⟨h.1, h.2 ▸ Below.refl _ _⟩))
      clear hC hp
      go_upto_region 10 with (fail)
      obtain ⟨g, eg⟩ : ∃ g, g = wr.heap.size := ⟨_, rfl⟩
      obtain ⟨wa, ea⟩ : ∃ V : World, V = wr.alloc (.cells #[.string (nm p.1), .int .i64 p.2.k, .bool p.2.f, .int .i64 p.2.n, .string p.2.s] 37) := ⟨_, rfl⟩
      have hxa : wa.heap[g]? = some (.cells #[.string (nm p.1), .int .i64 p.2.k, .bool p.2.f, .int .i64 p.2.n, .string p.2.s] 37 (0, 0)) := by rw [ea, eg]; exact heap_new wr _
      have HBa := Lib.hid (show Below wr.heap.size wr wa from by rw [ea]; exact (Below.refl _ _).alloc (Nat.le_refl _) _)
      have hga : g < wa.heap.size := (Array.getElem?_eq_some_iff.1 hxa).1
      have HQ := Lib.hid (fun (V : World) (hV : Below wa.heap.size wa V) => show V.cell? ⟨g, 0, none⟩ = some (.string (nm p.1)) ∧ V.cell? ⟨g, 1, none⟩ = some (.int .i64 p.2.k) ∧ V.cell? ⟨g, 2, none⟩ = some (.bool p.2.f) ∧ V.cell? ⟨g, 3, none⟩ = some (.int .i64 p.2.n) ∧ V.cell? ⟨g, 4, none⟩ = some (.string p.2.s) from by
        have h := (hV.block g hga).trans hxa
        exact ⟨cell_of_blk (j := 0) h rfl, cell_of_blk (j := 1) h rfl, cell_of_blk (j := 2) h rfl, cell_of_blk (j := 3) h rfl, cell_of_blk (j := 4) h rfl⟩)
      rw [← eg, ← ea]
      clear eg ea hxa c0 c1 c2 c3 c4
      cases hd : decide (p.1 = 0) with
      | true =>
        rw [hd] at HE
        clear hd HBF
        obtain ⟨q0, q1, q2, q3, q4⟩ := HQ.out wa (Below.refl _ _)
        go_upto_region 11 with (fail)
        clear q0 q1 q2 q3 q4
        obtain ⟨q0, q1, q2, q3, q4⟩ := HQ.out wa (Below.refl _ wa)
        have HOx := Lib.hid (own_belowP HO.out (HBa.out.trans ((Below.refl _ wa).mono HBa.out.size)))
        have HBx := Lib.hid (HB.out.trans ((HBa.out.trans ((Below.refl _ wa).mono HBa.out.size)).mono hbs))
        have hsx := HBx.out.size
        go_wp2_with (at_builtin; refine wpList_append_own2 _ rfl _ _ 28 rfl w.heap.size 37 i0 _ 5 56 Tryz.underlying28 hi0 hz0 hz1 hz2 rfl (by decide) _ _ _ rfl (HOx.out.alloc _) ⟨_, 0, none⟩ 1 1 (prC p) rfl rfl ?c1 ?c2 ?c3 ?c4 ?c5 ?_)
        case c1 => exact cells_add (cells_atF rfl (by first | rfl | simp))
        case c2 => exact prC_one _
        case c3 => unfold maxLen; omega
        case c4 => omega
        case c5 => first | omega | (simp; omega)
        intro v9 w9 ho9 hg9 hm9
        have hlo : ∀ q, u7.ownBlock = some q → w.heap.size ≤ q := fun q hq => (HOx.out.lt q hq).1
        have HB9 := Lib.hid ((HBx.out.alloc hsx _).grown hg9 (by first | omega | (simp; omega)) hlo)
        have HO9 := Lib.hid (show w9.ownsRow w.heap.size 37 5 v9 (n + 1) (recs prC (L ++ [p])) from by rw [recs_snoc]; exact ho9)
        have HLN9 := Lib.hid (show (L ++ [p]).length = n + 1 from by rw [List.length_append, HLN.out]; rfl)
        clear ho9 hg9 hm9 hlo q0 q1 q2 q3 q4
        go_wp2_with (fail)
        go_roundw
        case rel => exact ⟨i + 1, n + 1, L ++ [p], by omega, by go_num, HLN9.out, by omega, HO9.out, HB9.out⟩
        case measure => simp [intOf]; omega
      | false =>
        rw [hd] at HE
        clear hd
        obtain ⟨q0, q1, q2, q3, q4⟩ := HQ.out wa (Below.refl _ _)
        cases ht : blN p.1 0 with
        | true =>
          rw [ht] at HBF
          clear ht
          go_upto_region 11 with (go_at_call 37; refine (HBF.out _).mono ?_; rintro e w4 ⟨rfl, hb4⟩; have HB4 := Lib.hid hb4; clear hb4)
          clear q0 q1 q2 q3 q4
          obtain ⟨q0, q1, q2, q3, q4⟩ := HQ.out w4 HB4.out
          have HOx := Lib.hid (own_belowP HO.out (HBa.out.trans (HB4.out.mono HBa.out.size)))
          have HBx := Lib.hid (HB.out.trans ((HBa.out.trans (HB4.out.mono HBa.out.size)).mono hbs))
          have hsx := HBx.out.size
          go_wp2_with (at_builtin; refine wpList_append_own2 _ rfl _ _ 28 rfl w.heap.size 37 i0 _ 5 56 Tryz.underlying28 hi0 hz0 hz1 hz2 rfl (by decide) _ _ _ rfl (HOx.out.alloc _) ⟨_, 0, none⟩ 1 1 (prC p) rfl rfl ?c1 ?c2 ?c3 ?c4 ?c5 ?_)
          case c1 => exact cells_add (cells_atF rfl (by first | rfl | simp))
          case c2 => exact prC_one _
          case c3 => unfold maxLen; omega
          case c4 => omega
          case c5 => first | omega | (simp; omega)
          intro v9 w9 ho9 hg9 hm9
          have hlo : ∀ q, u7.ownBlock = some q → w.heap.size ≤ q := fun q hq => (HOx.out.lt q hq).1
          have HB9 := Lib.hid ((HBx.out.alloc hsx _).grown hg9 (by first | omega | (simp; omega)) hlo)
          have HO9 := Lib.hid (show w9.ownsRow w.heap.size 37 5 v9 (n + 1) (recs prC (L ++ [p])) from by rw [recs_snoc]; exact ho9)
          have HLN9 := Lib.hid (show (L ++ [p]).length = n + 1 from by rw [List.length_append, HLN.out]; rfl)
          clear ho9 hg9 hm9 hlo q0 q1 q2 q3 q4
          go_wp2_with (fail)
          go_roundw
          case rel => exact ⟨i + 1, n + 1, L ++ [p], by omega, by go_num, HLN9.out, by omega, HO9.out, HB9.out⟩
          case measure => simp [intOf]; omega
        | false =>
          rw [ht] at HBF
          clear ht
          go_upto_region 12 with (go_at_call 37; refine (HBF.out _).mono ?_; rintro e w4 ⟨rfl, hb4⟩; have HB4 := Lib.hid hb4; clear hb4)
          have HOx := Lib.hid (own_belowP HO.out (HBa.out.trans (HB4.out.mono HBa.out.size)))
          have HBx := Lib.hid (HB.out.trans ((HBa.out.trans (HB4.out.mono HBa.out.size)).mono hbs))
          go_wp2_with (fail)
          go_roundw
          case rel => exact ⟨i + 1, n, L, by omega, by go_num, HLN.out, by omega, HOx.out, HBx.out⟩
          case measure => simp [intOf]; omega
    · have hltI : ¬ (i : Int) < (m : Int) := by omega
      obtain ⟨A1, c1, rfl⟩ := own_slice HO.out
      have HF := Lib.hid (show UnPost m w (.returned (.tuple #[.slice A1 n c1, .int .i64 0])) wr from ⟨A1, c1, n, L, rfl, HLN.out, by omega, HO.out, HB.out⟩)
      go_wp2_with (fail)
      go_ret2
      exact HF.out
end Go.Proofs.YtkcpfppjdjkjeaaGreatDoor
