/- Fences: place.crossed says no of right corners: the walk. -/
import Derived.Test.YthplhibdapjjgaaGreatDoorFeG
namespace Go.Proofs.YthplhibdapjjgaaGreatDoor
open Go.RowKit

set_option maxRecDepth 100000 in
set_option maxHeartbeats 4000000 in
theorem crossed_no (l : List Pt) (n c b o : Nat) (w : World) (hn : l.length = n) (hok : FOk l) (hc : Cells w b o (recs ptC l)) (hb : b < w.heap.size) :
    Calls Tryz.prog 77 #[.slice (some ⟨b, o, none⟩) n c] w fun e w' => e = .returned (.bool false) ∧ Below w.heap.size w w' := by
  have HOK := Lib.hid hok
  have HC := Lib.hid (fun (V : World) (hV : Below w.heap.size w V) => hc.keep (hV.block b hb))
  have HN := Lib.hid hn
  have hn2 : n ≤ 200 := by rw [← hn]; exact hok.hi
  have hn3 : 3 ≤ n := by rw [← hn]; exact hok.lo
  clear hok hc
  go_enter Tryz.func77, Tryz.ntmps77
  go_wp2_with (fail)
  go_loopw [16] (fun s wr => ∃ i : Nat, i ≤ n ∧ s = .int .i64 (i : Int) ∧ Below w.heap.size w wr) (fun s _ => n - (intOf s).toNat)
  case atStart => exact ⟨0, Nat.zero_le _, rfl, Below.refl _ _⟩
  case round =>
    obtain ⟨i, hi, rfl, hbl⟩ := hrel
    have hsz := hbl.size
    have HBL := Lib.hid hbl
    by_cases hin : i < n
    · have hx := gp_lt (l := l) (i := i) (by have := HN.out; omega)
      have hmod : (i + 1) % l.length < l.length := Nat.mod_lt _ (by omega)
      have hy := gp_lt (l := l) (i := (i + 1) % l.length) hmod
      have hmd : ((i : Int) + 1) % (n : Int) = (((i + 1) % l.length : Nat) : Int) := by rw [HN.out]; simp
      obtain ⟨pa, epa⟩ : ∃ p, p = gp l i := ⟨_, rfl⟩
      obtain ⟨pb, epb⟩ : ∃ p, p = gp l ((i + 1) % l.length) := ⟨_, rfl⟩
      obtain ⟨m, em⟩ : ∃ m, m = (i + 1) % l.length := ⟨_, rfl⟩
      have HEA := Lib.hid (show pa = ed1 l i ∧ pb = ed2 l i from ⟨epa, epb⟩)
      rw [← epa] at hx
      rw [← epb, ← em] at hy
      rw [← em] at hmod hmd
      obtain ⟨s0, s1⟩ := pt_cells (HC.out wr hbl) i pa hx
      obtain ⟨t0, t1⟩ := pt_cells (HC.out wr hbl) m pb hy
      have hiI : (i : Int) < (n : Int) := by omega
      have hm0 : (0 : Int) ≤ (m : Int) := by omega
      have hmn : m < n := by have := HN.out; omega
      have hmI : (m : Int) < (n : Int) := by omega
      have hn0 : ¬ (n : Int) = 0 := by omega
      have hn0n : ¬ n = 0 := by omega
      have hbw : b < wr.heap.size := by omega
      obtain ⟨ax, ay⟩ := pa
      obtain ⟨bx, by_⟩ := pb
      simp only at s0 s1 t0 t1
      clear hx hy hbl epa epb em hmod
      go_upto_region 5 with (fail)
      have hBA := (Below.refl wr.heap.size wr).alloc (Nat.le_refl _) (.cells #[.int .i64 ax, .int .i64 ay] 37)
      have u0 := (hBA.cell (p := ⟨b, o + m * 2, none⟩) hbw).trans t0
      have u1 := (hBA.cell (p := ⟨b, o + m * 2 + 1, none⟩) hbw).trans t1
      clear s0 s1 t0 t1 hBA
      go_upto_region 6 with (fail)
      generalize hV : (wr.alloc (.cells #[.int .i64 ax, .int .i64 ay] 37)).alloc (.cells #[.int .i64 bx, .int .i64 by_] 37) = V
      have hVs : V.heap.size = wr.heap.size + 1 + 1 := by rw [← hV]; simp
      have hBV : Below wr.heap.size wr V := by rw [← hV]; exact ((Below.refl _ _).alloc (Nat.le_refl _) _).alloc (by simp) _
      have ha0 : V.heap[wr.heap.size]? = some (.cells #[.int .i64 ax, .int .i64 ay] 37 (0, 0)) := by rw [← hV, Below.heap_alloc _ _ _ (by simp)]; exact heap_new wr _
      have hb0 : V.heap[wr.heap.size + 1]? = some (.cells #[.int .i64 bx, .int .i64 by_] 37 (0, 0)) := by rw [← hV]; have := heap_new (wr.alloc (.cells #[.int .i64 ax, .int .i64 ay] 37)) (.cells #[.int .i64 bx, .int .i64 by_] 37); simpa using this
      have HAB := Lib.hid (And.intro ha0 hb0)
      have HBV := Lib.hid (HBL.out.trans (hBV.mono hsz))
      obtain ⟨ga, ega⟩ : ∃ g, g = wr.heap.size := ⟨_, rfl⟩
      have hgV : ga + 1 < V.heap.size := by omega
      rw [← ega] at HAB
      rw [← ega]
      clear hV hBV ha0 hb0 u0 u1 ega hVs hmd hm0 hmn hmI
      go_wp2_with (fail)
      go_loopw [7] (fun s wr => ∃ k : Nat, i < k ∧ k ≤ n ∧ s = .int .i64 (k : Int) ∧ Below V.heap.size V wr) (fun s _ => n - (intOf s).toNat)
      case atStart => exact ⟨i + 1, by omega, by omega, by go_num, Below.refl _ _⟩
      case round =>
        obtain ⟨k, hik, hk, rfl, hbk⟩ := hrel
        have hsk := hbk.size
        have HBK := Lib.hid (HBV.out.trans (hbk.mono HBV.out.size))
        have HBK0 := Lib.hid hbk
        by_cases hkn : k < n
        · have hx := gp_lt (l := l) (i := k) (by have := HN.out; omega)
          have hmod : (k + 1) % l.length < l.length := Nat.mod_lt _ (by omega)
          have hy := gp_lt (l := l) (i := (k + 1) % l.length) hmod
          have hmd : ((k : Int) + 1).tmod (n : Int) = (((k + 1) % l.length : Nat) : Int) := by rw [HN.out, Int.tmod_eq_emod_of_nonneg (by omega)]; simp
          have HFA := Lib.hid (fun (h : k = i + 1) => HOK.out.after (i := i) (by rw [HN.out]; omega))
          have HFB := Lib.hid (fun (h : (k + 1) % l.length = i) => show i = 0 ∧ k + 1 = l.length from by
            have hnl := HN.out
            rcases Nat.lt_or_ge (k + 1) l.length with h1 | h1
            · rw [Nat.mod_eq_of_lt h1] at h; omega
            · have : k + 1 = l.length := by omega
              rw [this, Nat.mod_self] at h
              exact ⟨h.symm, this⟩)
          have HFC := Lib.hid (fun (ha : k ≠ i + 1) (hb : (k + 1) % l.length ≠ i) => HOK.out.apart (i := i) (k := k) hik (by rw [HN.out]; exact hkn) ha hb)
          have hsA := (HOK.out.sp _ (mem_ed1 (l := l) (k := i) (by rw [HN.out]; exact hin))).wide
          have hsB := (HOK.out.sp _ (mem_ed2 (l := l) (k := i) (by rw [HN.out]; exact hin))).wide
          have hsC := (HOK.out.sp _ (mem_ed1 (l := l) (k := k) (by rw [HN.out]; exact hkn))).wide
          have hsD := (HOK.out.sp _ (mem_ed2 (l := l) (k := k) (by rw [HN.out]; exact hkn))).wide
          obtain ⟨pc, epc⟩ : ∃ p, p = gp l k := ⟨_, rfl⟩
          obtain ⟨pd, epd⟩ : ∃ p, p = gp l ((k + 1) % l.length) := ⟨_, rfl⟩
          obtain ⟨q, eq⟩ : ∃ m, m = (k + 1) % l.length := ⟨_, rfl⟩
          have HEC := Lib.hid (show pc = ed1 l k ∧ pd = ed2 l k from ⟨epc, epd⟩)
          rw [← epc] at hx
          rw [← epd, ← eq] at hy
          rw [← eq] at hmod hmd HFB HFC
          obtain ⟨s0, s1⟩ := pt_cells (HC.out wr HBK.out) k pc hx
          obtain ⟨t0, t1⟩ := pt_cells (HC.out wr HBK.out) q pd hy
          rw [← HEA.out.1] at hsA
          rw [← HEA.out.2] at hsB
          rw [← HEC.out.1] at hsC
          rw [← HEC.out.2] at hsD
          have wk1 : IntKind.i64.wrap ((k : Int) + 1) = (k : Int) + 1 := by rw [IntKind.wrap_i64]; omega
          have wi1 : IntKind.i64.wrap ((i : Int) + 1) = (i : Int) + 1 := by rw [IntKind.wrap_i64]; omega
          have hqn : q < n := by have := HN.out; omega
          have wq : IntKind.i64.wrap (((k : Int) + 1).tmod (n : Int)) = (q : Int) := by rw [hmd, IntKind.wrap_i64]; omega
          have hqe : ((k : Int) + 1) % (n : Int) = (q : Int) := by rw [← hmd, Int.tmod_eq_emod_of_nonneg (by omega)]
          have hkI : (k : Int) < (n : Int) := by omega
          have hk0 : (0 : Int) ≤ (k : Int) := by omega
          have hq0 : (0 : Int) ≤ (q : Int) := by omega
          have hqI : (q : Int) < (n : Int) := by omega
          have hbk1 : b < wr.heap.size := by have := HBK.out.size; omega
          have hbk2 : b < wr.heap.size + 1 := by omega
          have hblk := And.intro ((HBK0.out.block ga (by omega)).trans HAB.out.1) ((HBK0.out.block (ga + 1) hgV).trans HAB.out.2)
          have HABK := Lib.hid hblk
          obtain ⟨cx, cy⟩ := pc
          obtain ⟨dx, dy⟩ := pd
          simp only at s0 s1 t0 t1
          clear hx hy hbk epc epd eq hmod hmd hblk
          go_upto_region 9 with (fail)
          go_cut [8, 9] (fun p8 p9 wx => ∃ gc gd : Nat, p8 = .pointer (some ⟨gc, 0, none⟩) ∧ p9 = .pointer (some ⟨gd, 0, none⟩) ∧ wx.heap[gc]? = some (.cells #[.int .i64 cx, .int .i64 cy] 37 (0, 0)) ∧ wx.heap[gd]? = some (.cells #[.int .i64 dx, .int .i64 dy] 37 (0, 0)) ∧ Below wr.heap.size wr wx)
          case first =>
            go_region
            · go_wp2_with (fail)
              go_meet
              have hC := heap_new wr (.cells #[.int .i64 cx, .int .i64 cy] 37)
              have hD := heap_new (wr.alloc (.cells #[.int .i64 cx, .int .i64 cy] 37)) (.cells #[.int .i64 dx, .int .i64 dy] 37)
              rw [World.size_alloc] at hD
              exact ⟨wr.heap.size, wr.heap.size + 1, rfl, rfl, (Below.heap_alloc _ _ _ (by simp)).trans hC, hD, (((Below.refl _ _).alloc (Nat.le_refl _) _).alloc (by simp) _).drew⟩
            · go_wp2_with (fail)
              go_meet
              have hD := heap_new wr (.cells #[.int .i64 dx, .int .i64 dy] 37)
              have hC := heap_new (wr.alloc (.cells #[.int .i64 dx, .int .i64 dy] 37)) (.cells #[.int .i64 cx, .int .i64 cy] 37)
              rw [World.size_alloc] at hC
              exact ⟨wr.heap.size + 1, wr.heap.size, rfl, rfl, hC, (Below.heap_alloc _ _ _ (by simp)).trans hD, (((Below.refl _ _).alloc (Nat.le_refl _) _).alloc (by simp) _).drew⟩
          case rest =>
            obtain ⟨gc, gd, rfl, rfl, hC, hD, hbx⟩ := hcut
            have HBX := Lib.hid (HBK0.out.trans (hbx.mono hsk))
            have hA := (hbx.block ga (by omega)).trans HABK.out.1
            have hB := (hbx.block (ga + 1) (by omega)).trans HABK.out.2
            have HBK1 := Lib.hid (And.intro hA (And.intro hB (And.intro hC hD)))
            have HQ := Lib.hid (fun (Z : World) (hZ : Below wc.heap.size wc Z) => show Z.cell? ⟨ga, 0, none⟩ = some (.int .i64 ax) ∧ Z.cell? ⟨ga, 1, none⟩ = some (.int .i64 ay) ∧ Z.cell? ⟨ga + 1, 0, none⟩ = some (.int .i64 bx) ∧ Z.cell? ⟨ga + 1, 1, none⟩ = some (.int .i64 by_) ∧ Z.cell? ⟨gc, 0, none⟩ = some (.int .i64 cx) ∧ Z.cell? ⟨gc, 1, none⟩ = some (.int .i64 cy) ∧ Z.cell? ⟨gd, 0, none⟩ = some (.int .i64 dx) ∧ Z.cell? ⟨gd, 1, none⟩ = some (.int .i64 dy) from by
              have B : ∀ (g : Nat) (oo : Obj), wc.heap[g]? = some oo → Z.heap[g]? = some oo := fun g oo h => (hZ.block g (Array.getElem?_eq_some_iff.1 h).1).trans h
              have h1 := B _ _ HBK1.out.1
              have h2 := B _ _ HBK1.out.2.1
              have h3 := B _ _ HBK1.out.2.2.1
              have h4 := B _ _ HBK1.out.2.2.2
              exact ⟨cell_of_blk (j := 0) h1 rfl, cell_of_blk (j := 1) h1 rfl, cell_of_blk (j := 0) h2 rfl, cell_of_blk (j := 1) h2 rfl, cell_of_blk (j := 0) h3 rfl, cell_of_blk (j := 1) h3 rfl, cell_of_blk (j := 0) h4 rfl, cell_of_blk (j := 1) h4 rfl⟩)
            clear hA hB hC hD hbx s0 s1 t0 t1
            by_cases hka : k = i + 1
            · have hqi : ¬ q = i := fun h => by have := HFB.out h; have := HN.out; omega
              obtain ⟨hf1, hf2⟩ := HFA.out hka
              rw [← hka] at hf1 hf2
              rw [← HEA.out.1, ← HEA.out.2, ← HEC.out.2] at hf1
              rw [← HEC.out.1, ← HEC.out.2, ← HEA.out.1] at hf2
              have HW1 := Lib.hid (fun U => by have h := on_any (ax, ay) (bx, by_) (dx, dy) U hsA hsB hsD; rw [hf1] at h; exact h)
              have HW2 := Lib.hid (fun U => by have h := on_any (cx, cy) (dx, dy) (ax, ay) U hsC hsD hsA; rw [hf2] at h; exact h)
              unfold ptV at HW1 HW2
              simp only at HW1 HW2
              have g1 : ((k : Int) == (i : Int) + 1) = true := by simp; omega
              have g2 : ((q : Int) == (i : Int)) = false := by simp; omega
              clear hf1 hf2 hka
              go_upto_region 10 with (fail)
              refine qRegion (by kernel_rfl) (by kernel_rfl) ?_
              repeat (first
                | (go_big_quiet_want; refine qVal (fun V hV => (by (go_simp; try rfl))) ?_; simp only [Act.put, List.setIfInBounds_toArray, List.set_cons_zero, List.set_cons_succ]; go_big_quiet_on)
                | go_big_quiet_skip)
              refine wpQuiet_nil ?_
              intro w9 hb9
              have HB_w9 := Lib.hid hb9
              clear hb9
              obtain ⟨q0, q1, q2, q3, q4, q5, q6, q7⟩ := HQ.out w9 HB_w9.out
              go_wp2_with (fail)
              refine (HW1.out w9).mono ?_
              rintro e w10 ⟨rfl, hb_w10⟩
              have HB_w10 := Lib.hid (HB_w9.out.trans (hb_w10.mono HB_w9.out.size))
              clear hb_w10 q0 q1 q2 q3 q4 q5 q6 q7
              obtain ⟨q0, q1, q2, q3, q4, q5, q6, q7⟩ := HQ.out w10 HB_w10.out
              go_wp2_with (fail)
              refine (HW2.out w10).mono ?_
              rintro e w11 ⟨rfl, hb_w11⟩
              have HB_w11 := Lib.hid (HB_w10.out.trans (hb_w11.mono HB_w10.out.size))
              clear hb_w11 q0 q1 q2 q3 q4 q5 q6 q7
              obtain ⟨q0, q1, q2, q3, q4, q5, q6, q7⟩ := HQ.out w11 HB_w11.out
              clear q0 q1 q2 q3 q4 q5 q6 q7
              go_wp2_with (fail)
              go_roundw
              case rel => exact ⟨k + 1, by omega, by omega, by go_num, HBX.out.trans (HB_w11.out.mono HBX.out.size)⟩
              case measure => simp [intOf]; omega
            · have g1 : ((k : Int) == (i : Int) + 1) = false := by simp; omega
              by_cases hqi : q = i
              · obtain ⟨hi0, hkl⟩ := HFB.out hqi
                have hf := HOK.out.before hkl
                have hf1 := hf.1
                have hf2 := hf.2
                rw [← hi0] at hf1 hf2
                rw [← HEA.out.1, ← HEA.out.2, ← HEC.out.1] at hf1
                rw [← HEC.out.1, ← HEC.out.2, ← HEA.out.2] at hf2
                have HW1 := Lib.hid (fun U => by have h := on_any (ax, ay) (bx, by_) (cx, cy) U hsA hsB hsC; rw [hf1] at h; exact h)
                have HW2 := Lib.hid (fun U => by have h := on_any (cx, cy) (dx, dy) (bx, by_) U hsC hsD hsB; rw [hf2] at h; exact h)
                unfold ptV at HW1 HW2
                simp only at HW1 HW2
                have g2 : ((q : Int) == (i : Int)) = true := by simp; omega
                clear hf hf1 hf2 hi0 hkl
                go_upto_region 10 with (fail)
                refine qRegion (by kernel_rfl) (by kernel_rfl) ?_
                repeat (first
                  | (go_big_quiet_want; refine qVal (fun V hV => (by (go_simp; try rfl))) ?_; simp only [Act.put, List.setIfInBounds_toArray, List.set_cons_zero, List.set_cons_succ]; go_big_quiet_on)
                  | go_big_quiet_skip)
                refine wpQuiet_nil ?_
                intro w9 hb9
                have HB_w9 := Lib.hid hb9
                clear hb9
                obtain ⟨q0, q1, q2, q3, q4, q5, q6, q7⟩ := HQ.out w9 HB_w9.out
                go_wp2_with (fail)
                refine (HW1.out w9).mono ?_
                rintro e w10 ⟨rfl, hb_w10⟩
                have HB_w10 := Lib.hid (HB_w9.out.trans (hb_w10.mono HB_w9.out.size))
                clear hb_w10 q0 q1 q2 q3 q4 q5 q6 q7
                obtain ⟨q0, q1, q2, q3, q4, q5, q6, q7⟩ := HQ.out w10 HB_w10.out
                go_wp2_with (fail)
                refine (HW2.out w10).mono ?_
                rintro e w11 ⟨rfl, hb_w11⟩
                have HB_w11 := Lib.hid (HB_w10.out.trans (hb_w11.mono HB_w10.out.size))
                clear hb_w11 q0 q1 q2 q3 q4 q5 q6 q7
                obtain ⟨q0, q1, q2, q3, q4, q5, q6, q7⟩ := HQ.out w11 HB_w11.out
                clear q0 q1 q2 q3 q4 q5 q6 q7
                go_wp2_with (fail)
                go_roundw
                case rel => exact ⟨k + 1, by omega, by omega, by go_num, HBX.out.trans (HB_w11.out.mono HBX.out.size)⟩
                case measure => simp [intOf]; omega
              · have hf1 := HFC.out hka hqi
                rw [← HEA.out.1, ← HEA.out.2, ← HEC.out.1, ← HEC.out.2] at hf1
                have HW1 := Lib.hid (fun U => by have h := meets_any (ax, ay) (bx, by_) (cx, cy) (dx, dy) U hsA hsB hsC hsD; rw [hf1] at h; exact h)
                unfold ptV at HW1
                simp only at HW1
                have g2 : ((q : Int) == (i : Int)) = false := by simp; omega
                clear hf1
                go_upto_region 10 with (fail)
                refine qRegion (by kernel_rfl) (by kernel_rfl) ?_
                repeat (first
                  | (go_big_quiet_want; refine qVal (fun V hV => (by (go_simp; try rfl))) ?_; simp only [Act.put, List.setIfInBounds_toArray, List.set_cons_zero, List.set_cons_succ]; go_big_quiet_on)
                  | go_big_quiet_skip)
                refine wpQuiet_nil ?_
                intro w9 hb9
                have HB_w9 := Lib.hid hb9
                clear hb9
                obtain ⟨q0, q1, q2, q3, q4, q5, q6, q7⟩ := HQ.out w9 HB_w9.out
                go_wp2_with (fail)
                refine (HW1.out w9).mono ?_
                rintro e w10 ⟨rfl, hb_w10⟩
                have HB_w10 := Lib.hid (HB_w9.out.trans (hb_w10.mono HB_w9.out.size))
                clear hb_w10 q0 q1 q2 q3 q4 q5 q6 q7
                obtain ⟨q0, q1, q2, q3, q4, q5, q6, q7⟩ := HQ.out w10 HB_w10.out
                clear q0 q1 q2 q3 q4 q5 q6 q7
                go_wp2_with (fail)
                go_roundw
                case rel => exact ⟨k + 1, by omega, by omega, by go_num, HBX.out.trans (HB_w10.out.mono HBX.out.size)⟩
                case measure => simp [intOf]; omega
        · obtain rfl : n = k := by omega
          clear hbk
          go_wp2_with (fail)
          go_roundw
          case rel => exact ⟨i + 1, by omega, by go_num, HBK.out⟩
          case measure => simp [intOf]; omega
    · obtain rfl : n = i := by omega
      clear hbl
      go_wp2_with (fail)
      go_ret
      exact ⟨rfl, HBL.out⟩
end Go.Proofs.YthplhibdapjjgaaGreatDoor
