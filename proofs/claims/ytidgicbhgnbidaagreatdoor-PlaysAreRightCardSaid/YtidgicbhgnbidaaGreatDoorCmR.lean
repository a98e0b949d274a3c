/- The reference's order of marks, right ones or not. -/
import Derived.Test.YtidgicbhgnbidaaGreatDoorCmN
import Derived.Test.YtidgicbhgnbidaaGreatDoorCmH
import Derived.Test.YtidgicbhgnbidaaGreatDoorMgD
namespace Go.Proofs.YtidgicbhgnbidaaGreatDoor
open Go.RowKit Go.Shelf Go.Sort

set_option maxRecDepth 100000 in
theorem sign_any (z : Int) (w : World) (h : -10000000000000 ≤ z ∧ z ≤ 10000000000000) : Calls Tryz.prog 155 #[.int .i64 z] w fun e w' => e = .returned (.int .i64 (cmpI z 0)) ∧ w = w' := by
  obtain ⟨h1, h2⟩ := h
  obtain ⟨r, er⟩ : ∃ r, r = cmpI z 0 := ⟨_, rfl⟩
  rw [← er]
  unfold cmpI at er
  by_cases a : z < 0
  · rw [if_pos a] at er
    subst er
    go_enter Tryz.func155, Tryz.ntmps155
    go_wp2_with (fail)
    go_ret
    exact ⟨rfl, rfl⟩
  · rw [if_neg a] at er
    by_cases b : 0 < z
    · rw [if_pos b] at er
      subst er
      go_enter Tryz.func155, Tryz.ntmps155
      go_wp2_with (fail)
      go_ret
      exact ⟨rfl, rfl⟩
    · rw [if_neg b] at er
      subst er
      go_enter Tryz.func155, Tryz.ntmps155
      go_wp2_with (fail)
      go_ret
      exact ⟨rfl, rfl⟩
set_option maxRecDepth 100000 in
set_option maxHeartbeats 2000000 in
theorem markOrder_gr (x y : Mk) (w : World) (hx : MkRw x) (hy : MkRw y) : Calls Tryz.prog 111 #[mkW x, mkW y] w fun e w' => e = .returned (.int .i64 (cmpM x y)) ∧ Gr w w' := by
  obtain ⟨a1, a2⟩ := hx.at_
  obtain ⟨b1, b2⟩ := hy.at_
  have HC := Lib.hid (fun V => scompare_any (dvT x.d) (dvT y.d) V)
  have HSG := Lib.hid (fun V => sign_any (x.at_ - y.at_) V (by omega))
  obtain ⟨gx, egx⟩ : ∃ g, g = w.heap.size := ⟨_, rfl⟩
  obtain ⟨gy, egy⟩ : ∃ g, g = w.heap.size + 1 := ⟨_, rfl⟩
  obtain ⟨W, hW⟩ : ∃ W : World, W = (w.alloc (mkB x)).alloc (mkB y) := ⟨_, rfl⟩
  have HG := Lib.hid (show Gr w W by rw [hW]; exact ((Gr.refl _).alloc _).alloc _)
  have hbx : W.heap[gx]? = some (mkB x) := by
    rw [hW, egx, Below.heap_alloc _ _ _ (by simp)]; exact heap_new w _
  have hby : W.heap[gy]? = some (mkB y) := by
    rw [hW, egy]; have := heap_new (w.alloc (mkB x)) (mkB y); simpa using this
  have p0 := cell_of_blk (j := 0) hbx rfl
  have p1 := cell_of_blk (j := 1) hbx rfl
  have q0 := cell_of_blk (j := 0) hby rfl
  have q1 := cell_of_blk (j := 1) hby rfl
  have hl1 := (Array.getElem?_eq_some_iff.1 hbx).1
  have hl2 := (Array.getElem?_eq_some_iff.1 hby).1
  obtain ⟨r, er⟩ : ∃ r, r = cmpM x y := ⟨_, rfl⟩
  rw [← er]
  have HR := Lib.hid er
  unfold mkB at hW
  unfold mkW
  clear hx hy hbx hby er
  go_enter Tryz.func111, Tryz.ntmps111
  go_upto_region 1 with (fail)
  rw [← egy, ← egx, ← hW]
  clear hW egx egy
  by_cases hne : x.at_ = y.at_
  · have hr : r = Lib.compareBytes (dvT x.d).data.toList (dvT y.d).data.toList := by
      rw [HR.out]
      unfold cmpM cmpI
      rw [if_neg (by omega), if_neg (by omega)]
      simp [orI]
      intro h; exact h.symm
    have HRR := Lib.hid hr
    clear hr
    go_wp2_with (fail)
    refine (HC.out _).mono ?_
    rintro e w1 ⟨rfl, rfl⟩
    rw [← HRR.out]
    go_wp2_with (fail)
    go_ret
    exact ⟨rfl, HG.out⟩
  · have hr : r = cmpI (x.at_ - y.at_) 0 := by
      rw [HR.out]
      unfold cmpM cmpI
      by_cases h : x.at_ < y.at_
      · rw [if_pos h, if_pos (by omega)]; rfl
      · rw [if_neg h, if_pos (by omega), if_neg (by omega), if_pos (by omega)]; rfl
    have HRR := Lib.hid hr
    clear hr
    go_wp2_with (fail)
    refine (HSG.out _).mono ?_
    rintro e w1 ⟨rfl, rfl⟩
    rw [← HRR.out]
    go_wp2_with (fail)
    go_ret
    exact ⟨rfl, HG.out⟩
end Go.Proofs.YtidgicbhgnbidaaGreatDoor
