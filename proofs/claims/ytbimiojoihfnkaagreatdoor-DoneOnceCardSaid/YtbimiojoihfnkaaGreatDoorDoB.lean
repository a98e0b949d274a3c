/- slices.Delete of one of what a device remembers. -/
import Derived.Test.YtbimiojoihfnkaaGreatDoorDoA
import Derived.Test.YtbimiojoihfnkaaGreatDoorDel
import Derived.Deep.LoopGhost
namespace Go.Proofs.YtbimiojoihfnkaaGreatDoor
open Go.RowKit

set_option maxRecDepth 100000 in
set_option maxHeartbeats 4000000 in
theorem del_any (L : List Nat) (k m g cap base : Nat) (w : World) (hn : L.length = k + m + 1) (hs : k + m + 1 ≤ 1000) (hown : w.ownsRow base 148 2 (.slice (some ⟨g, 0, none⟩) (k + m + 1) cap) (k + m + 1) (recs dnC L)) :
    Calls Tryz.prog 77 #[.slice (some ⟨g, 0, none⟩) (k + m + 1) cap, .int .i64 (k : Int), .int .i64 ((k : Int) + 1)] w fun e w' => e = .returned (.slice (some ⟨g, 0, none⟩) (k + m) cap) ∧
      w'.ownsRow base 148 2 (.slice (some ⟨g, 0, none⟩) (k + m) cap) (k + m) (recs dnC (L.eraseIdx k)) ∧ w.grownBy w' (some g) := by
  obtain ⟨i0, hi, hz0, hz1, hz2⟩ := info_parts Tryz.infoDn
  have hcap := own_cap hown
  have hcm : cap ≤ 9223372036854775807 := by
    rcases hown.2 with ⟨hv, _⟩ | ⟨g', cap', cur, hv, _, _, _, h, _⟩
    · injection hv with h1; cases h1
    · injection hv with _ _ h3; subst h3; simpa [maxLen] using h
  obtain ⟨news, enews⟩ : ∃ news, news = recs dnC (L.drop (k + 1)) := ⟨_, rfl⟩
  have hlen : news.length = m * 2 := by rw [enews, recs_length dnC_len, List.length_drop]; congr 1; omega
  have hxl : (recs dnC L).length = (k + m + 1) * 2 := by rw [recs_length dnC_len, hn]
  have hownD : w.drew.ownsRow base 148 2 (.slice (some ⟨g, 0, none⟩) (k + m + 1) cap) (k + m + 1) (recs dnC L) := hown
  have hcell : ∀ j, j < (k + m + 1) * 2 → ∃ u, w.drew.cell? ⟨g, j, none⟩ = some u ∧ (recs dnC L)[j]? = some u := by
    intro j hj
    obtain ⟨u, hu⟩ : ∃ u, (recs dnC L)[j]? = some u := ⟨_, List.getElem?_eq_getElem (by rw [hxl]; exact hj)⟩
    exact ⟨u, (hownD.cellAt j hj).trans hu, hu⟩
  obtain ⟨A, hA, hsrc⟩ : ∃ A : Addr, (if cap = k + 1 then (some (⟨g, 0, none⟩ : Addr)) else some ⟨g, (k + 1) * 2, none⟩) = some A ∧ Hid (∀ t u, news[t]? = some u → w.drew.cell? (A.add t) = some u) := by
    by_cases h : cap = k + 1
    · refine ⟨⟨g, 0, none⟩, by simp [h], fun t u hu => ?_⟩
      have h0 : news.length = 0 := by rw [hlen]; omega
      rw [List.length_eq_zero_iff.1 h0] at hu
      simp at hu
    · refine ⟨⟨g, (k + 1) * 2, none⟩, by simp [h], fun t u hu => ?_⟩
      have ht : t < m * 2 := by have := (List.getElem?_eq_some_iff.1 hu).1; rwa [hlen] at this
      rw [Addr.add_lit]
      rw [enews, ← recs_drop dnC_len, List.getElem?_drop] at hu
      exact (hownD.cellAt _ (by omega)).trans hu
  have s1 : Hid (news.length = m * 2) := hlen
  have s2 : Hid (∀ u ∈ news, u.oneCell' = true) := by rw [enews]; exact recs_one dnC_one _
  have s3 : Hid (∀ t, t < news.length → (w.drew.cell? ⟨g, 0 + k * 2 + t, none⟩).isSome = true ∧ w.drew.frozen? ⟨g, 0 + k * 2 + t, none⟩ = false) := by
    intro t ht
    rw [hlen] at ht
    obtain ⟨u, hu, _⟩ := hcell (0 + k * 2 + t) (by omega)
    exact ⟨by rw [hu]; rfl, hownD.frozenAt _⟩
  obtain ⟨W1, hW1⟩ : ∃ W1, W1 = w.drew.setCells g (0 + k * 2) news := ⟨_, rfl⟩
  obtain ⟨o1, g1⟩ := own_setCells news (0 + k * 2) w.drew (recs dnC L) hownD (by rw [hlen, hxl]; omega)
  rw [← hW1] at o1 g1
  obtain ⟨xs1, exs1⟩ : ∃ xs1, xs1 = (recs dnC L).take (0 + k * 2) ++ news ++ (recs dnC L).drop (0 + k * 2 + news.length) := ⟨_, rfl⟩
  rw [← exs1] at o1
  have hx1 : xs1.length = (k + m + 1) * 2 := o1.1
  obtain ⟨o2, g2⟩ := own_setCells [.string ⟨#[]⟩, .int .i64 0] ((k + m) * 2) W1 xs1 o1 (by rw [hx1]; simp; omega)
  have hcl : ∀ ty c, (Builtin.clear_ #[143] ty #[.slice (some ⟨g, (k + m) * 2, none⟩) 1 c]).run Tryz.prog W1 = .ok (.tuple #[]) (W1.setCells g ((k + m) * 2) [.string ⟨#[]⟩, .int .i64 0]) := by
    intro ty c
    refine run_clear_one W1 143 148 ty _ [.string ⟨#[]⟩, .int .i64 0] Tryz.underlying143 Tryz.zeroValue148 rfl ?_ g ((k + m) * 2) c ?_ ?_
    · intro u hu; simp at hu; rcases hu with rfl | rfl <;> rfl
    · intro j hj
      simp at hj
      rw [o1.cellAt _ (by omega), List.getElem?_eq_getElem (by rw [hx1]; omega)]
      rfl
    · intro j _
      exact o1.frozenAt _
  have hfin : Hid ((W1.setCells g ((k + m) * 2) [.string ⟨#[]⟩, .int .i64 0]).ownsRow base 148 2 (.slice (some ⟨g, 0, none⟩) (k + m) cap) (k + m) (recs dnC (L.eraseIdx k)) ∧ w.grownBy (W1.setCells g ((k + m) * 2) [.string ⟨#[]⟩, .int .i64 0]) (some g)) := by
    refine ⟨?_, ?_⟩
    · have h3 := own_shrink o2 (k + m) (by omega)
      have h4 := del_cells dnC_len L k (by omega) [.string ⟨#[]⟩, .int .i64 0]
      simp only [hn, show k + m + 1 - 1 = k + m by omega] at h4
      rw [Nat.zero_add] at exs1
      rw [← enews, ← exs1] at h4
      rw [h4] at h3
      exact h3
    · exact grown_trans ⟨g1.os, g1.tape, g1.output, g1.size, g1.block⟩ g2
  have hW : Hid (W1 = w.drew.setCells g (0 + k * 2) news) := hW1
  have hkc : k ≤ cap := by omega
  have hkc1 : k + 1 ≤ cap := by omega
  have hmc : k + m + 1 ≤ cap := by omega
  have i1 : ((k : Int) + 1).toNat = k + 1 := by omega
  have i2 : ¬ (k : Int) = (k : Int) + 1 := by omega
  have i3 : ((k + m + 1 : Nat) : Int) = (k : Int) + (m : Int) + 1 := by omega
  have i4 : (0 : Int) ≤ (k : Int) + 1 := by omega
  have i5 : (k : Int) ≤ (k : Int) + (m : Int) := by omega
  clear hW1 o1 g1 o2 g2 hcell hownD hown hxl hlen enews hx1 exs1
  go_enter Tryz.func77, Tryz.ntmps77
  go_wp2_with (fail)
  go_region_law (refine step_append_room rfl (.tmp 22) (.tmp 25) 143 rfl 148 i0 2 Tryz.underlying143 hi hz1 g 0 k cap (by simp [Act.eval, Act.put]) A m (cap - (k + 1)) news (by simp [Act.eval, Act.put]) s1.out hsrc.out s2.out (by omega) s3.out ?_; rw [← hW.out])
  go_wp2_with (fail)
  go_ret
  exact ⟨rfl, hfin.out⟩
end Go.Proofs.YtbimiojoihfnkaaGreatDoor
