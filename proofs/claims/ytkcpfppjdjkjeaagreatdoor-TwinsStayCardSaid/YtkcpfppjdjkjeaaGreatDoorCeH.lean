/- twin.hides, hidden, visible, Visible of right cells by their contracts. -/
import Derived.Test.YtkcpfppjdjkjeaaGreatDoorCeK
import Derived.Test.YtkcpfppjdjkjeaaGreatDoorCeB
import Derived.Laws.EntriesVeiled
namespace Go.Proofs.YtkcpfppjdjkjeaaGreatDoor
open Go.RowKit

theorem Tryz.infoPp : (Tryz.prog.info? 37).map (fun i => (i.zero, i.size, i.bytes)) = some (some (.agg #[.string ⟨#[]⟩, .int .i64 0, .bool false, .int .i64 0, .string ⟨#[]⟩]), 5, 56) := by kernel_rfl
theorem hasV_k {x : Ce} (h : CvOk x.2) : hasV x = !(decide (x.2.1.k = 0)) := by
  unfold hasV
  rcases h.1 with h | h
  · rw [h]; rfl
  · have h1 := h.ne
    have h2 := h.kne
    rw [decide_eq_false h1, decide_eq_false h2]
set_option maxRecDepth 100000 in
set_option maxHeartbeats 4000000 in
theorem hides_any (x y : Ce) (hx : x.1 < 7 ∧ CvOk x.2) (hy : y.1 < 7 ∧ CvOk y.2) (w : World) :
    Calls Tryz.prog 70 #[.agg #[.string (nm x.1), .int .i64 x.2.1.k, .bool x.2.1.f, .int .i64 x.2.1.n, .string x.2.1.s, .int .i64 x.2.2.at_, .string (byT x.2.2.by_), .int .i64 x.2.2.no], .agg #[.string (nm y.1), .int .i64 y.2.1.k, .bool y.2.1.f, .int .i64 y.2.1.n, .string y.2.1.s, .int .i64 y.2.2.at_, .string (byT y.2.2.by_), .int .i64 y.2.2.no]] w fun e w' => e = .returned (.bool (hdF x y)) ∧ Below w.heap.size w w' := by
  have HXH := Lib.hid (hasV_k hx.2)
  have HYH := Lib.hid (hasV_k hy.2)
  have HBS := Lib.hid (fun V => byStamp_any x.2.2 y.2.2 hx.2.2 hy.2.2 V)
  have HC1 := Lib.hid (fun (V : World) => show Calls Tryz.prog 37 #[.string (nm y.1), .string (nm x.1)] V fun e w' => e = .returned (.bool (blN y.1 x.1)) ∧ Below V.heap.size V w' from (belowF_any y.1 x.1 hy.1 hx.1 V).mono (fun e w' h => ⟨h.1, h.2 ▸ Below.refl _ _⟩))
  have HC2 := Lib.hid (fun (V : World) => show Calls Tryz.prog 37 #[.string (nm x.1), .string (nm y.1)] V fun e w' => e = .returned (.bool (blN x.1 y.1)) ∧ Below V.heap.size V w' from (belowF_any x.1 y.1 hx.1 hy.1 V).mono (fun e w' h => ⟨h.1, h.2 ▸ Below.refl _ _⟩))
  have HR := Lib.hid (show hdF x y = (if sk y.2.2 < sk x.2.2 then blN y.1 x.1 || (blN x.1 y.1 && hasV y) else if sk x.2.2 = sk y.2.2 then blN y.1 x.1 && hasV x && hasV y else false) from rfl)
  obtain ⟨ov, eov⟩ : ∃ t, t = blN y.1 x.1 := ⟨_, rfl⟩
  obtain ⟨un, eun⟩ : ∃ t, t = blN x.1 y.1 := ⟨_, rfl⟩
  rw [← eov] at HC1 HR
  rw [← eun] at HC2 HR
  rw [HXH.out, HYH.out] at HR
  obtain ⟨R, eR⟩ : ∃ R, R = hdF x y := ⟨_, rfl⟩
  rw [← eR] at HR ⊢
  clear hx hy HXH HYH eov eun eR
  go_enter Tryz.func70, Tryz.ntmps70
  go_upto_region 1 with (fail)
  obtain ⟨W, hW⟩ : ∃ W, W = (w.alloc (ceBlk x)).alloc (ceBlk y) := ⟨_, rfl⟩
  have hBW : Below w.heap.size w W := by rw [hW]; exact ((Below.refl _ _).alloc (Nat.le_refl _) _).alloc (by simp) _
  have ha0 : W.heap[w.heap.size]? = some (ceBlk x) := by rw [hW, Below.heap_alloc _ _ _ (by simp)]; exact heap_new w _
  have hb0 : W.heap[w.heap.size + 1]? = some (ceBlk y) := by rw [hW]; have := heap_new (w.alloc (ceBlk x)) (ceBlk y); simpa using this
  have hWs : w.heap.size + 1 < W.heap.size := by rw [hW]; simp
  have HBW := Lib.hid hBW
  have HQ := Lib.hid (fun (V : World) (hV : Below W.heap.size W V) => show CeB V w.heap.size x ∧ CeB V (w.heap.size + 1) y from
    ⟨ce_blk ((hV.block w.heap.size (by omega)).trans ha0), ce_blk ((hV.block (w.heap.size + 1) (by omega)).trans hb0)⟩)
  unfold ceBlk at hW
  rw [← hW]
  clear hW hBW ha0 hb0
  refine qRegion (by kernel_rfl) (by kernel_rfl) ?_
  repeat (first
    | (go_big_quiet_want; refine qVal (fun V hV => (by (obtain ⟨⟨x0, x1, x2, x3, x4, x5, x6, x7⟩, y0, y1, y2, y3, y4, y5, y6, y7⟩ := HQ.out V hV; go_simp; try rfl))) ?_; simp only [Act.put, List.setIfInBounds_toArray, List.set_cons_zero, List.set_cons_succ]; go_big_quiet_on)
    | (go_big_quiet_want
       refine qCall (fun V hV => (by (obtain ⟨⟨x0, x1, x2, x3, x4, x5, x6, x7⟩, y0, y1, y2, y3, y4, y5, y6, y7⟩ := HQ.out V hV; go_simp; exact ⟨rfl, rfl⟩))) (fun V hV => (by first
         | with_reducible exact (HC1.out V).mono (fun e w' h => ⟨h.1, hV.trans (h.2.mono hV.size)⟩)
         | with_reducible exact (HC2.out V).mono (fun e w' h => ⟨h.1, hV.trans (h.2.mono hV.size)⟩))) ?_
       simp only [Act.put, List.setIfInBounds_toArray, List.set_cons_zero, List.set_cons_succ]; go_big_quiet_on)
    | go_big_quiet_skip)
  refine wpQuiet_nil ?_
  intro w1 hb1
  have hs1 := hb1.size
  obtain ⟨⟨x0, x1, x2, x3, x4, x5, x6, x7⟩, y0, y1, y2, y3, y4, y5, y6, y7⟩ := HQ.out w1 hb1
  have HB1 := Lib.hid hb1
  clear hb1
  by_cases s1 : sk y.2.2 < sk x.2.2
  · have hcs : cmpI (sk x.2.2) (sk y.2.2) = 1 := by unfold cmpI; rw [if_neg (by omega), if_pos s1]
    rw [if_pos s1] at HR
    clear s1
    go_upto_region 4 with (go_at_call 48; refine (HBS.out _).mono ?_; rw [hcs]; rintro e w2 ⟨rfl, hb2⟩; have HB2 := Lib.hid (HB1.out.trans (hb2.mono (by omega))); have HBF := Lib.hid (HBW.out.trans ((HB1.out.trans (hb2.mono (by omega))).mono HBW.out.size)); clear hb2)
    obtain ⟨_, z0, z1, z2, z3, z4, z5, z6, z7⟩ := HQ.out w2 HB2.out
    clear z0 z2 z3 z4 z5 z6 z7
    cases ov
    · cases un
      · go_wp2_with (fail)
        go_ret
        exact ⟨by rw [HR.out]; rfl, HBF.out⟩
      · by_cases hy0 : y.2.1.k = 0
        · rw [decide_eq_true hy0] at HR
          go_wp2_with (fail)
          go_ret
          exact ⟨by rw [HR.out]; first | rfl | simp [hy0], HBF.out⟩
        · rw [decide_eq_false hy0] at HR
          have hy1 : (y.2.1.k != 0) = true := by simpa using hy0
          go_wp2_with (fail)
          go_ret
          exact ⟨by rw [HR.out]; first | rfl | simp [hy0], HBF.out⟩
    · go_wp2_with (fail)
      go_ret
      exact ⟨by rw [HR.out]; first | rfl | simp, HBF.out⟩
  · rw [if_neg s1] at HR
    by_cases s2 : sk x.2.2 = sk y.2.2
    · have hcs : cmpI (sk x.2.2) (sk y.2.2) = 0 := by unfold cmpI; rw [if_neg (by omega), if_neg (by omega)]
      rw [if_pos s2] at HR
      clear s1 s2
      go_upto_region 4 with (go_at_call 48; refine (HBS.out _).mono ?_; rw [hcs]; rintro e w2 ⟨rfl, hb2⟩; have HB2 := Lib.hid (HB1.out.trans (hb2.mono (by omega))); have HBF := Lib.hid (HBW.out.trans ((HB1.out.trans (hb2.mono (by omega))).mono HBW.out.size)); clear hb2)
      obtain ⟨_, z0, z1, z2, z3, z4, z5, z6, z7⟩ := HQ.out w2 HB2.out
      clear z0 z2 z3 z4 z5 z6 z7
      cases ov
      · go_wp2_with (fail)
        go_ret
        exact ⟨by rw [HR.out]; first | rfl | simp, HBF.out⟩
      · by_cases hx0 : x.2.1.k = 0
        · rw [decide_eq_true hx0] at HR
          have hx1 : (x.2.1.k != 0) = false := by simpa using hx0
          rw [hx1]
          clear hx0 hx1
          go_wp2_with (fail)
          go_ret
          exact ⟨by rw [HR.out]; first | rfl | simp, HBF.out⟩
        · rw [decide_eq_false hx0] at HR
          have hx1 : (x.2.1.k != 0) = true := by simpa using hx0
          rw [hx1]
          clear hx0 hx1
          by_cases hy0 : y.2.1.k = 0
          · rw [decide_eq_true hy0] at HR
            go_wp2_with (fail)
            go_ret
            exact ⟨by rw [HR.out]; first | rfl | simp [hy0], HBF.out⟩
          · rw [decide_eq_false hy0] at HR
            have hy1 : (y.2.1.k != 0) = true := by simpa using hy0
            go_wp2_with (fail)
            go_ret
            exact ⟨by rw [HR.out]; first | rfl | simp [hy0], HBF.out⟩
    · have hcs : cmpI (sk x.2.2) (sk y.2.2) = -1 := by unfold cmpI; rw [if_pos (by omega)]
      rw [if_neg s2] at HR
      clear s1 s2
      go_upto_region 4 with (go_at_call 48; refine (HBS.out _).mono ?_; rw [hcs]; rintro e w2 ⟨rfl, hb2⟩; have HB2 := Lib.hid (HB1.out.trans (hb2.mono (by omega))); have HBF := Lib.hid (HBW.out.trans ((HB1.out.trans (hb2.mono (by omega))).mono HBW.out.size)); clear hb2)
      obtain ⟨_, z0, z1, z2, z3, z4, z5, z6, z7⟩ := HQ.out w2 HB2.out
      clear z0 z2 z3 z4 z5 z6 z7
      go_wp2_with (fail)
      go_ret
      exact ⟨by rw [HR.out]; rfl, HBF.out⟩
def IcPost (l : List Ce) (y : Ce) (e : Ending) : Prop := ∃ z : Int, e = .returned (.int .i64 z) ∧ (0 ≤ z ↔ l.any (fun x => hdF x y) = true)
theorem isVi_take {l : List Ce} {k : Nat} {y : Ce} (h : l[k]? = some y) : ((l.take (k + 1)).filter (isVi l)).map (fun y => (y.1, y.2.1)) = ((l.take k).filter (isVi l)).map (fun y => (y.1, y.2.1)) ++ (if isVi l y then [(y.1, y.2.1)] else []) := by
  rw [List.take_add_one, h, List.filter_append, List.map_append]
  congr 1
  simp only [Option.toList_some, List.filter_cons, List.filter_nil]
  split <;> rfl
def ViPost (l : List Ce) (w : World) (e : Ending) (w' : World) : Prop :=
  ∃ A c n, e = .returned (.slice A n c) ∧ (viF l).length = n ∧ w'.ownsRow w.heap.size 37 5 (.slice A n c) n (recs prC (viF l)) ∧ Below w.heap.size w w'
def VsPost (l : List Ce) (w : World) (e : Ending) (w' : World) : Prop :=
  ∃ A c n, e = .returned (.tuple #[.slice A n c, .int .i64 0]) ∧ (viF l).length = n ∧ w'.ownsRow w.heap.size 37 5 (.slice A n c) n (recs prC (viF l)) ∧ Below w.heap.size w w'
end Go.Proofs.YtkcpfppjdjkjeaaGreatDoor
