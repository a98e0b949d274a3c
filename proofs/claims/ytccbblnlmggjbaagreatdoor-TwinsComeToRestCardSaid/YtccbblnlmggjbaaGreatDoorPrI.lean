/- twin.names of right properties by its contract. -/
import Derived.Test.YtccbblnlmggjbaaGreatDoorPrH
import Derived.Test.YtccbblnlmggjbaaGreatDoorMgB
import Derived.Test.YtccbblnlmggjbaaGreatDoorFxF
import Derived.Shelf.Slices.In.SortNone
namespace Go.Proofs.YtccbblnlmggjbaaGreatDoor
open Go.RowKit Go.Shelf

theorem sortN_any (w : World) (base n cap : Nat) (A : Option Addr) (r : List Nat) (h7 : ∀ i ∈ r, i < 7) (hn8 : n ≤ 1000) (ho : w.ownsRow base 9 1 (.slice A n cap) n (recs nmC r)) :
    Calls Tryz.prog 88 #[.slice A n cap] w fun e w' => e = .returned (.tuple #[]) ∧ w'.ownsRow base 9 1 (.slice A n cap) n (recs nmC (srtN r)) ∧ w.grownBy w' (Value.slice A n cap).ownBlock := by
  rcases own_two ho with ⟨rfl, rfl, rfl⟩ | ⟨g, rfl, _, _⟩
  · refine (Any.slices_Sort_string_none lay190 none 0 w).mono ?_
    rintro e w' ⟨h, rfl⟩
    have hr : r = [] := by
      have := ho.1
      rw [recs_length nmC_len] at this
      exact List.eq_nil_of_length_eq_zero (by omega)
    subst hr
    exact ⟨h, by simpa [srtN] using ho, grown_refl _ _⟩
  · exact sort_names w base g cap n r h7 hn8 ho
theorem compactN_any (w : World) (base n cap : Nat) (A : Option Addr) (r : List Nat) (hs : r.Pairwise (· ≤ ·)) (h7 : ∀ i ∈ r, i < 7) (hn8 : n ≤ 1000) (ho : w.ownsRow base 9 1 (.slice A n cap) n (recs nmC r)) :
    Calls Tryz.prog 89 #[.slice A n cap] w fun e w' => e = .returned (.slice A (rkF r).length cap) ∧ w'.ownsRow base 9 1 (.slice A (rkF r).length cap) (rkF r).length (recs nmC (rkF r)) ∧ w.grownBy w' (Value.slice A n cap).ownBlock := by
  rcases own_two ho with ⟨rfl, rfl, rfl⟩ | ⟨g, rfl, _, _⟩
  · refine (Any.slices_Compact_string_empty lay194 none 0 w).mono ?_
    rintro e w' ⟨h, rfl⟩
    have hr : r = [] := by
      have := ho.1
      rw [recs_length nmC_len] at this
      exact List.eq_nil_of_length_eq_zero (by omega)
    subst hr
    have he : rkF [] = [] := by simp [rkF]
    rw [he]
    exact ⟨h, ho, grown_refl _ _⟩
  · exact compact_names w base g cap n r hs h7 hn8 ho

/-- Lists that lie in a row of slices. -/
def LsAt (w : World) (gl : Nat) (ls : List (List Pr)) : Prop := ∀ k l, ls[k]? = some l → ∃ A c, w.cell? ⟨gl, k, none⟩ = some (.slice A l.length c) ∧ Row w w.heap.size A (recs prC l)
def rkK (ls : List (List Pr)) (k : Nat) : List Nat := (ls.take k).flatMap (fun l => l.map (·.1))
theorem rkK_succ {ls : List (List Pr)} {k : Nat} {l : List Pr} (h : ls[k]? = some l) : rkK ls (k + 1) = rkK ls k ++ l.map (·.1) := by
  unfold rkK
  rw [List.take_add_one, h]
  simp
theorem rkK_len (ls : List (List Pr)) (h20 : ∀ l ∈ ls, l.length ≤ 100) : ∀ k, k ≤ ls.length → (rkK ls k).length ≤ 100 * k := by
  intro k
  induction k with
  | zero => intro _; simp [rkK]
  | succ k ih =>
    intro hk
    have h : ls[k]? = some ls[k] := List.getElem?_eq_getElem (by omega)
    rw [rkK_succ h, List.length_append, List.length_map]
    have := ih (by omega)
    have := h20 _ (List.getElem_mem (by omega : k < ls.length))
    omega
theorem rkK_7 {ls : List (List Pr)} (hok : ∀ l ∈ ls, PrsOk l) (k : Nat) : ∀ i ∈ rkK ls k, i < 7 := by
  intro i hi
  simp only [rkK, List.mem_flatMap, List.mem_map] at hi
  obtain ⟨l, hl, p, hp, rfl⟩ := hi
  exact ((hok l (List.mem_of_mem_take hl)).2 p hp).1
theorem Tryz.infoStrN : (Tryz.prog.info? 9).map (fun i => (i.zero, i.size, i.bytes)) = some (some (.string ⟨#[]⟩), 1, 16) := by kernel_rfl
def NmPost (w : World) (ls : List (List Pr)) (e : Ending) (w' : World) : Prop :=
  ∃ A c, e = .returned (.slice A (nmsF ls).length c) ∧ w'.ownsRow w.heap.size 9 1 (.slice A (nmsF ls).length c) (nmsF ls).length (recs nmC (nmsF ls)) ∧ Below w.heap.size w w'
set_option maxRecDepth 100000 in
set_option maxHeartbeats 4000000 in
theorem names_any (w : World) (gl m c : Nat) (ls : List (List Pr)) (hm : ls.length = m) (hm3 : m ≤ 3) (hok : ∀ l ∈ ls, PrsOk l) (h20 : ∀ l ∈ ls, l.length ≤ 100) (hat : LsAt w gl ls) :
    Calls Tryz.prog 53 #[.slice (some ⟨gl, 0, none⟩) m c] w fun e w' => NmPost w ls e w' := by
  obtain ⟨i0, hi0, hz0, hz1, hz2⟩ := info_parts Tryz.infoStrN
  have HL := Lib.hid hok
  have H20 := Lib.hid h20
  have HM := Lib.hid hm
  have HAT := Lib.hid hat
  clear hok h20 hm hat
  go_enter Tryz.func53, Tryz.ntmps53
  go_wp2_with (fail)
  go_loopw [3, 10] (fun v s wr => ∃ k : Nat, k ≤ m ∧ s = .int .i64 (k : Int) ∧ wr.ownsRow w.heap.size 9 1 v (rkK ls k).length (recs nmC (rkK ls k)) ∧ Below w.heap.size w wr) (fun _ s _ => m - (intOf s).toNat)
  case atStart => exact ⟨0, by omega, rfl, World.ownsRow_nil _ _ _ _, Below.refl _ _⟩
  case round =>
    obtain ⟨k, hkm, rfl, hown, hbr⟩ := hrel
    have hbs := hbr.size
    have HB := Lib.hid hbr
    have HO := Lib.hid hown
    have HLK := Lib.hid (rkK_len ls H20.out k (by have := HM.out; omega))
    by_cases hlt : k < m
    · have hltI : (k : Int) < m := by omega
      clear hown
      obtain ⟨l, hl⟩ : ∃ l, ls[k]? = some l := ⟨_, List.getElem?_eq_getElem (by have := HM.out; omega)⟩
      obtain ⟨A, cl, hc, hrow⟩ := HAT.out k l hl
      have hlen := H20.out l (List.mem_of_getElem? hl)
      have hcw := World.block_lt_of_cell? w _ hc
      have hc1 := (hbr.cell (p := ⟨gl, k, none⟩) hcw).trans hc
      have HROW := Lib.hid hrow
      have HLl := Lib.hid hl
      obtain ⟨N, eN⟩ : ∃ N, N = l.length := ⟨_, rfl⟩
      rw [← eN] at hc1 hlen
      have HN := Lib.hid eN
      clear hc hrow hl eN hbr
      obtain ⟨R, eR⟩ : ∃ R, R = rkK ls k := ⟨_, rfl⟩
      rw [← eR] at HO HLK
      have HRE := Lib.hid eR
      have hR300 := HLK.out
      clear eR
      go_wp2_with (fail)
      go_loopw [3, 16] (fun v s wr => ∃ j : Nat, j ≤ N ∧ s = .int .i64 (j : Int) ∧ wr.ownsRow w.heap.size 9 1 v (R.length + j) (recs nmC (R ++ (l.take j).map (·.1))) ∧ Below w.heap.size w wr) (fun _ s _ => N - (intOf s).toNat)
      case atStart => exact ⟨0, by omega, rfl, by simpa using HO.out, HB.out⟩
      case round =>
        obtain ⟨j, hjN, rfl, hown, hbr⟩ := hrel
        have hbs := hbr.size
        have HB := Lib.hid hbr
        have HO := Lib.hid hown
        clear hbr
        by_cases hlt2 : j < N
        · have hltI2 : (j : Int) < N := by omega
          clear hown
          obtain ⟨p, hp⟩ : ∃ p, l[j]? = some p := ⟨_, List.getElem?_eq_getElem (by have := HN.out; omega)⟩
          obtain ⟨b, o, rfl, hb, hC⟩ := (HROW.out.below HB.out).posR prC_len (by omega) (by have := HN.out; omega)
          obtain ⟨c0, c1, c2, c3, c4⟩ := pr_cells hC j p hp
          have HP := Lib.hid hp
          clear hC hp
          go_wp2_with (at_builtin; refine wpList_append_own2 _ rfl _ _ 105 rfl w.heap.size 9 i0 (.string ⟨#[]⟩) 1 16 Tryz.underlying105 hi0 hz0 hz1 hz2 rfl (by decide) _ _ _ rfl ((HO.out.alloc _).alloc _) ⟨wr.heap.size + 1, 0, none⟩ 1 1 [.string (nm p.1)] rfl rfl ?c1 ?c2 ?c3 ?c4 ?c5 ?_)
          case c1 => exact cells_add (cells_atF rfl (by simp))
          case c2 => exact nmC_one p.1
          case c3 => unfold maxLen; omega
          case c4 => omega
          case c5 => simp; omega
          intro v3 w3 ho3 hg3 hm3
          have hlo : ∀ q, u3.ownBlock = some q → w.heap.size ≤ q := fun q hq => (HO.out.lt q hq).1
          have HB3 := Lib.hid (((HB.out.alloc hbs _).alloc (by simp; omega) _).grown hg3 (by simp; omega) hlo)
          have HO3 := Lib.hid ho3
          clear ho3 hg3 hm3 hlo
          go_wp2_with (fail)
          go_roundw
          case rel =>
            refine ⟨j + 1, by omega, by simp, ?_, HB3.out⟩
            have h1 : l.take (j + 1) = l.take j ++ [p] := by rw [List.take_add_one, HP.out]; rfl
            rw [h1, List.map_append, ← List.append_assoc, List.map_singleton, recs_snoc]
            rw [List.map_take]
            exact HO3.out
          case measure => simp [intOf]; omega
        · have hltI2 : ¬ (j : Int) < N := by omega
          have hjN' : j = N := by omega
          subst hjN'
          clear hown
          go_wp2_with (fail)
          go_roundw
          case rel =>
            refine ⟨k + 1, by omega, by simp, ?_, HB.out⟩
            have h1 : rkK ls (k + 1) = R ++ (l.take j).map (·.1) := by
              rw [rkK_succ HLl.out, ← HRE.out, List.take_of_length_le (by have := HN.out; omega)]
            have h2 : (R ++ (l.take j).map (·.1)).length = R.length + j := by
              rw [List.length_append, List.length_map, List.length_take]
              have := HN.out; omega
            rw [h1, h2]
            exact HO.out
          case measure => simp [intOf]; omega
    · have hltI : ¬ (k : Int) < m := by omega
      have hkm' : k = m := by omega
      subst hkm'
      obtain ⟨A, cA, rfl⟩ := own_slice hown
      clear hown hbr
      have h300 := HLK.out
      go_wp2_with (fail)
      refine (sortN_any wr w.heap.size _ cA A (rkK ls k) (rkK_7 HL.out k) (by omega) HO.out).mono ?_
      rintro e w1 ⟨rfl, ho1, hg1⟩
      have hlo1 : ∀ q, (Value.slice A (rkK ls k).length cA).ownBlock = some q → w.heap.size ≤ q := fun q hq => (HO.out.lt q hq).1
      have HB1 := Lib.hid (HB.out.grown hg1 hbs hlo1)
      have HO1 := Lib.hid ho1
      have hs1 := hg1.size
      clear ho1 hg1 hlo1
      go_wp2_with (fail)
      refine (compactN_any w1 w.heap.size _ cA A (srtN (rkK ls k)) (srtN_sorted _) (fun i hi => rkK_7 HL.out k i ((srtN_perm _).mem_iff.1 hi)) (by omega) HO1.out).mono ?_
      rintro e w2 ⟨rfl, ho2, hg2⟩
      have hlo2 : ∀ q, (Value.slice A (rkK ls k).length cA).ownBlock = some q → w.heap.size ≤ q := fun q hq => (HO1.out.lt q hq).1
      have HB2 := Lib.hid (HB1.out.grown hg2 (by omega) hlo2)
      have hrk : rkF (srtN (rkK ls k)) = nmsF ls := by
        rw [← rkF_nms]
        unfold rkF
        refine List.filter_congr (fun i _ => ?_)
        have h1 : rkK ls k = ls.flatMap (fun l => l.map (·.1)) := by
          unfold rkK; rw [List.take_of_length_le (by have := HM.out; omega)]
        rw [← h1]
        have := (srtN_perm (rkK ls k)).mem_iff (a := i)
        simp only [List.contains_eq_mem, this]
      rw [hrk] at ho2 ⊢
      have HF := Lib.hid (show NmPost w ls (.returned (.slice A (nmsF ls).length cA)) w2 from ⟨A, cA, rfl, ho2, HB2.out⟩)
      clear ho2 hg2 hlo2 hrk
      go_wp2_with (fail)
      go_ret
      exact HF.out
end Go.Proofs.YtccbblnlmggjbaaGreatDoor
