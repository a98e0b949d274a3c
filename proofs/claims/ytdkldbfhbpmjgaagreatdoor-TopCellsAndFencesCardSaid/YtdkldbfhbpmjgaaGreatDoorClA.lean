/- Cells of the plane: keys as texts; place.Cell by its contract. -/
import Derived.Test.YtdkldbfhbpmjgaaGreatDoorClP
import Derived.Test.YtdkldbfhbpmjgaaGreatDoorDel
import Derived.Test.YtdkldbfhbpmjgaaGreatDoorFxC
import Derived.Laws.BytesString
import Derived.BigRegion
import Derived.Deep.RegionLawGrows
namespace Go.Proofs.YtdkldbfhbpmjgaaGreatDoor
open Go.RowKit

/-- A key as a text. -/
def kyB (ds : List Nat) : ByteArray := ⟨(ds.map (fun d => UInt8.ofNat (48 + d))).toArray⟩
def dgC (d : Nat) : List Value := [.int .u8 ((48 + d : Nat) : Int)]
theorem dgC_len (d : Nat) : (dgC d).length = 1 := rfl
theorem dgC_one (d : Nat) : ∀ u ∈ dgC d, u.oneCell' = true := by
  intro u hu; simp only [dgC, List.mem_singleton] at hu; subst hu; rfl
theorem kyB_size (ds : List Nat) : (kyB ds).size = ds.length := by simp [kyB, ByteArray.size]
theorem push_all (ns : List Nat) : ∀ s : ByteArray, (ns.map (fun n : Nat => ((48 + n : Nat) : Int))).foldl (fun r n => r.push (UInt8.ofNat n.toNat)) s = ⟨(s.data.toList ++ ns.map (fun d => UInt8.ofNat (48 + d))).toArray⟩ := by
  induction ns with
  | nil => intro s; simp
  | cons n ns ih =>
    intro s
    simp only [List.map_cons, List.foldl_cons, Int.toNat_natCast]
    have ih' := ih (s.push (UInt8.ofNat (48 + n)))
    rw [ih']
    simp [ByteArray.push]
theorem recs_dg (ds : List Nat) : recs dgC ds = (ds.map (fun n : Nat => ((48 + n : Nat) : Int))).map (Value.int .u8) := by
  induction ds with
  | nil => rfl
  | cons d ds ih => simp only [recs, List.flatMap_cons, List.map_cons] at ih ⊢; rw [ih]; rfl
theorem conv_key {w : World} {g o c : Nat} {ds : List Nat} (h : Cells w g o (recs dgC ds)) :
    (convert 75 9 (.slice (some ⟨g, o, none⟩) ds.length c)).run Tryz.prog w = .ok (.string (kyB ds)) w := by
  rw [run_convert_bytes_string w 75 9 5 _ _ _ Tryz.underlying75 Tryz.underlying5 Tryz.underlying9]
  have hl := run_loadCells_list (P := Tryz.prog) (w := w) ⟨g, o, none⟩ (recs dgC ds) (by
    intro j v hv
    have := h j v hv
    rcases Nat.eq_zero_or_pos j with hj | hj
    · subst hj; simpa [Addr.add] using this
    · have e : (⟨g, o, none⟩ : Addr).add j = ⟨g, o + j, none⟩ := by simp [Addr.add]; omega
      rw [e]; exact this)
  rw [recs_length dgC_len, Nat.mul_one] at hl
  rw [recs_dg] at hl
  rw [run_bytesToString w _ _ _ _ hl, push_all]
  simp [kyB]
theorem conv_nil (w : World) : (convert 75 9 (.slice none 0 0)).run Tryz.prog w = .ok (.string (kyB [])) w := by
  rw [run_convert_bytes_string w 75 9 5 _ _ _ Tryz.underlying75 Tryz.underlying5 Tryz.underlying9]
  rfl

theorem Tryz.infoU8c : (Tryz.prog.info? 5).map (fun i => (i.zero, i.size, i.bytes)) = some (some (.int .u8 0), 1, 1) := by kernel_rfl
theorem pow_pos2 (k : Nat) : (1 : Int) ≤ (2 : Int) ^ k := by have := Int.pow_pos (n := (2 : Int)) (m := k) (by omega); omega
theorem pow_le2 {k : Nat} (h : k ≤ 15) : (2 : Int) ^ k ≤ 32768 := by
  have : (2 : Int) ^ 15 = 2 ^ k * 2 ^ (15 - k) := by rw [← Int.pow_add]; congr 1; omega
  have h1 := pow_pos2 k
  have h2 := pow_pos2 (15 - k)
  have h3 : (2 : Int) ^ 15 = 32768 := by decide
  have h4 : (2 : Int) ^ k * 1 ≤ 2 ^ k * 2 ^ (15 - k) := Int.mul_le_mul_of_nonneg_left h2 (by omega)
  omega

set_option maxRecDepth 100000 in
set_option maxHeartbeats 4000000 in
theorem cellF_any (p : Pt) (n : Nat) (w : World) (hp : SpN p) (hn : n ≤ 15) :
    Calls Tryz.prog 35 #[ptV p, .int .i64 (n : Int)] w fun e w' => e = .returned (.tuple #[.string (kyB (cellD p n)), .int .i64 0]) ∧ Below w.heap.size w w' := by
  obtain ⟨i0, hi, hz0, hz1, hz2⟩ := info_parts Tryz.infoU8c
  have HIS := Lib.hid (fun V => isSpot_yes p.1 p.2 V hp.x0 hp.x1 hp.y0 hp.y1)
  have p1 := hp.x0; have p2 := hp.x1; have p3 := hp.y0; have p4 := hp.y1
  obtain ⟨X, eX⟩ : ∃ X, X = p.1 + 16384 := ⟨_, rfl⟩
  obtain ⟨Y, eY⟩ : ∃ Y, Y = p.2 + 16384 := ⟨_, rfl⟩
  have HD := Lib.hid (show ∀ k, dgt p k = ((X / (2 : Int) ^ (14 - k)) % 2).toNat + 2 * ((Y / (2 : Int) ^ (14 - k)) % 2).toNat from fun k => by rw [eX, eY]; rfl)
  have hX : 0 ≤ X ∧ X < 32768 := by omega
  have hY : 0 ≤ Y ∧ Y < 32768 := by omega
  have wx : IntKind.i64.wrap (p.1 + 16384) = X := by rw [IntKind.wrap_i64]; omega
  have wy : IntKind.i64.wrap (p.2 + 16384) = Y := by rw [IntKind.wrap_i64]; omega
  clear hp eX eY p1 p2 p3 p4
  have HKY := Lib.hid (show ∀ (ds : List Nat) (W : World) (g o c : Nat), Cells W g o (recs dgC ds) → (convert 75 9 (.slice (some ⟨g, o, none⟩) ds.length c)).run Tryz.prog W = .ok (.string (kyB ds)) W from fun ds W g o c h => conv_key h)
  have HRES := Lib.hid (show ∀ m, cellD p (m + 1) = cellD p m ++ [dgt p m] from cellD_succ p)
  have HLEN := Lib.hid (show ∀ m, (cellD p m).length = m from cellD_length p)
  have HNIL := Lib.hid (show cellD p 0 = [] from rfl)
  obtain ⟨K, eK⟩ : ∃ K : Nat → List Nat, K = cellD p := ⟨_, rfl⟩
  obtain ⟨D, eD⟩ : ∃ D : Nat → Nat, D = dgt p := ⟨_, rfl⟩
  rw [← eK] at HRES HLEN HNIL ⊢
  rw [← eD] at HRES HD
  clear eK eD
  obtain ⟨px, py⟩ := p
  unfold ptV
  simp only at HIS wx wy ⊢
  go_enter Tryz.func35, Tryz.ntmps35
  go_wp2_with (fail)
  generalize hW : w.alloc (.cells #[.int .i64 px, .int .i64 py] 54) = W
  have hBW : Below w.heap.size w W := hW ▸ (Below.refl _ _).alloc (Nat.le_refl _) _
  have hgW : w.heap.size < W.heap.size := by rw [← hW]; simp
  have hwb : W.heap[w.heap.size]? = some (.cells #[.int .i64 px, .int .i64 py] 54 (0, 0)) := by rw [← hW]; exact heap_new w _
  have HBW := Lib.hid hBW
  have HWB := Lib.hid hwb
  clear hW hBW hwb
  refine (HIS.out W).mono ?_
  rintro e w1 ⟨rfl, hb1⟩
  have hb := (hb1.block w.heap.size hgW).trans HWB.out
  have HQ := Lib.hid (fun (V : World) (hV : Below w1.heap.size w1 V) => show V.cell? ⟨w.heap.size, 0, none⟩ = some (.int .i64 px) ∧ V.cell? ⟨w.heap.size, 1, none⟩ = some (.int .i64 py) from by
    have h := (hV.block w.heap.size (by have := hb1.size; omega)).trans hb
    exact ⟨cell_of_blk (j := 0) h rfl, cell_of_blk (j := 1) h rfl⟩)
  have HB1 := Lib.hid (HBW.out.trans (hb1.mono HBW.out.size))
  clear hb1 hb
  go_wp2_with (go_at_call 23; refine (out_no _ _ _ _ (by omega) (by omega)).mono ?_; rintro e w' ⟨rfl, rfl⟩)
  go_upto_region 4 with (fail)
  refine qRegion (by kernel_rfl) (by kernel_rfl) ?_
  repeat (first
    | (go_big_quiet_want; refine qVal (fun V hV => (by (obtain ⟨q0, q1⟩ := HQ.out V hV; go_simp; try rfl))) ?_; simp only [Act.put, List.setIfInBounds_toArray, List.set_cons_zero, List.set_cons_succ]; go_big_quiet_on)
    | go_big_quiet_skip)
  refine wpQuiet_nil ?_
  intro w2 hb2
  have HB2 := Lib.hid (HB1.out.trans (hb2.mono HB1.out.size))
  clear hb2
  have hs2 := HB2.out.size
  go_wp2_with (fail)
  go_loopw [6, 9, 24] (fun v lo s wr => ∃ (k : Nat) (L : Int), k ≤ n ∧ s = .int .i64 (k : Int) ∧ lo = .int .i64 L ∧ L = (2 : Int) ^ (15 - k) ∧ wr.ownsRow w2.heap.size 5 1 v k (recs dgC (K k)) ∧ Below w2.heap.size w2 wr) (fun _ _ s _ => n - (intOf s).toNat)
  case atStart => exact ⟨0, 32768, by omega, rfl, rfl, by decide, by rw [HNIL.out]; exact World.ownsRow_nil _ _ _ _, Below.refl _ _⟩
  case round =>
    obtain ⟨k, L, hk, rfl, rfl, hL, hown, hbl⟩ := hrel
    have hsz := hbl.size
    have HOW := Lib.hid hown
    have HBL := Lib.hid hbl
    by_cases hlt : k < n
    · obtain ⟨M, eM⟩ : ∃ M, M = (2 : Int) ^ (14 - k) := ⟨_, rfl⟩
      have hLM : L = 2 * M := by rw [hL, eM, show 15 - k = (14 - k) + 1 by omega, Int.pow_succ]; omega
      have hM1 : 1 ≤ M := by rw [eM]; exact pow_pos2 _
      have hM2 : M ≤ 32768 := by rw [eM]; exact pow_le2 (by omega)
      have HM := Lib.hid (show M = (2 : Int) ^ (15 - (k + 1)) by rw [eM]; congr 1; omega)
      have hDk := HD.out k
      rw [← eM] at hDk
      have l1 : L / 2 = M := by omega
      have l2 : L.tdiv 2 = M := by rw [Int.tdiv_eq_ediv_of_nonneg (by omega)]; exact l1
      have lw : IntKind.i64.wrap M = M := by rw [IntKind.wrap_i64]; omega
      have hL0 : 0 ≤ L := by omega
      obtain ⟨a, ea⟩ : ∃ a, a = X / M := ⟨_, rfl⟩
      obtain ⟨c, ec⟩ : ∃ c, c = Y / M := ⟨_, rfl⟩
      have ha : 0 ≤ a ∧ a < 32768 := by
        have h1 : 0 ≤ X / M := Int.ediv_nonneg hX.1 (by omega)
        have h2 : X / M ≤ X := Int.ediv_le_self _ hX.1
        omega
      have hc : 0 ≤ c ∧ c < 32768 := by
        have h1 : 0 ≤ Y / M := Int.ediv_nonneg hY.1 (by omega)
        have h2 : Y / M ≤ Y := Int.ediv_le_self _ hY.1
        omega
      have a1 : X / M = a := ea.symm
      have a2 : X.tdiv M = a := by rw [Int.tdiv_eq_ediv_of_nonneg hX.1]; exact a1
      have a3 : IntKind.i64.wrap a = a := by rw [IntKind.wrap_i64]; omega
      have c1 : Y / M = c := ec.symm
      have c2 : Y.tdiv M = c := by rw [Int.tdiv_eq_ediv_of_nonneg hY.1]; exact c1
      have c3 : IntKind.i64.wrap c = c := by rw [IntKind.wrap_i64]; omega
      rw [a1, c1] at hDk
      have hM0 : ¬ M = 0 := by omega
      have HDK := Lib.hid hDk
      have hkI : (k : Int) < (n : Int) := by omega
      obtain ⟨A6, c6, rfl⟩ := own_slice hown
      clear hown hbl hL eM ea ec hDk hLM
      have ht : a.tmod 2 = a % 2 := Int.tmod_eq_emod_of_nonneg ha.1
      have hu : c.tmod 2 = c % 2 := Int.tmod_eq_emod_of_nonneg hc.1
      rcases (show a % 2 = 0 ∨ a % 2 = 1 by omega) with h1 | h1
      · rcases (show c % 2 = 0 ∨ c % 2 = 1 by omega) with h2 | h2
        · rw [h1] at ht
          rw [h2] at hu
          have HDE := Lib.hid (show D k = 0 by have := HDK.out; rw [h1, h2] at this; exact this)
          have HCE := Lib.hid (show Cells (wr.alloc (.cells #[.int .u8 48] 5)) wr.heap.size 0 [.int .u8 48] from Cells.new wr _ _ _ _ rfl)
          go_upto_region 8 with (fail)
          go_region_law (first | (refine step_append_row rfl (.tmp 28) (.tmp 42) 75 rfl w2.heap.size 5 i0 (.int .u8 0) 1 1 Tryz.underlying75 hi hz0 hz1 hz2 rfl (by decide) (.slice A6 k c6) k (recs dgC (K k)) (by simp [Act.eval]) (HOW.out.alloc _) ⟨wr.heap.size, 0, none⟩ 1 1 [.int .u8 48] (by simp [Act.eval]) rfl (cells_add HCE.out) (by intro u hu; simp at hu; subst hu; rfl) (by unfold maxLen; omega) (by omega) (by simp; omega) ?_; intro v9 w9 ho9 hg9))
          all_goals
            have HO9 := Lib.hid ho9
            have hlo : ∀ q, (Value.slice A6 k c6).ownBlock = some q → w2.heap.size ≤ q := fun q hq => (HOW.out.lt q hq).1
            have HB9 := Lib.hid (HBL.out.grown (grown_of_alloc (o := .cells #[.int .u8 48] 5) (by exact ⟨hg9.os, hg9.tape, hg9.output, hg9.size, hg9.block⟩)) hsz hlo)
            clear ho9 hg9 hlo
            go_wp2_with (fail)
            go_roundw
            case rel =>
              refine ⟨k + 1, M, by omega, by go_num, rfl, HM.out, ?_, HB9.out⟩
              rw [HRES.out k, recs_snoc, HDE.out]
              exact HO9.out
            case measure => simp [intOf]; omega
        · rw [h1] at ht
          rw [h2] at hu
          have HDE := Lib.hid (show D k = 2 by have := HDK.out; rw [h1, h2] at this; exact this)
          have HCE := Lib.hid (show Cells (wr.alloc (.cells #[.int .u8 50] 5)) wr.heap.size 0 [.int .u8 50] from Cells.new wr _ _ _ _ rfl)
          go_upto_region 8 with (fail)
          go_region_law (first | (refine step_append_row rfl (.tmp 28) (.tmp 42) 75 rfl w2.heap.size 5 i0 (.int .u8 0) 1 1 Tryz.underlying75 hi hz0 hz1 hz2 rfl (by decide) (.slice A6 k c6) k (recs dgC (K k)) (by simp [Act.eval]) (HOW.out.alloc _) ⟨wr.heap.size, 0, none⟩ 1 1 [.int .u8 50] (by simp [Act.eval]) rfl (cells_add HCE.out) (by intro u hu; simp at hu; subst hu; rfl) (by unfold maxLen; omega) (by omega) (by simp; omega) ?_; intro v9 w9 ho9 hg9))
          all_goals
            have HO9 := Lib.hid ho9
            have hlo : ∀ q, (Value.slice A6 k c6).ownBlock = some q → w2.heap.size ≤ q := fun q hq => (HOW.out.lt q hq).1
            have HB9 := Lib.hid (HBL.out.grown (grown_of_alloc (o := .cells #[.int .u8 50] 5) (by exact ⟨hg9.os, hg9.tape, hg9.output, hg9.size, hg9.block⟩)) hsz hlo)
            clear ho9 hg9 hlo
            go_wp2_with (fail)
            go_roundw
            case rel =>
              refine ⟨k + 1, M, by omega, by go_num, rfl, HM.out, ?_, HB9.out⟩
              rw [HRES.out k, recs_snoc, HDE.out]
              exact HO9.out
            case measure => simp [intOf]; omega
      · rcases (show c % 2 = 0 ∨ c % 2 = 1 by omega) with h2 | h2
        · rw [h1] at ht
          rw [h2] at hu
          have HDE := Lib.hid (show D k = 1 by have := HDK.out; rw [h1, h2] at this; exact this)
          have HCE := Lib.hid (show Cells (wr.alloc (.cells #[.int .u8 49] 5)) wr.heap.size 0 [.int .u8 49] from Cells.new wr _ _ _ _ rfl)
          go_upto_region 8 with (fail)
          go_region_law (first | (refine step_append_row rfl (.tmp 28) (.tmp 42) 75 rfl w2.heap.size 5 i0 (.int .u8 0) 1 1 Tryz.underlying75 hi hz0 hz1 hz2 rfl (by decide) (.slice A6 k c6) k (recs dgC (K k)) (by simp [Act.eval]) (HOW.out.alloc _) ⟨wr.heap.size, 0, none⟩ 1 1 [.int .u8 49] (by simp [Act.eval]) rfl (cells_add HCE.out) (by intro u hu; simp at hu; subst hu; rfl) (by unfold maxLen; omega) (by omega) (by simp; omega) ?_; intro v9 w9 ho9 hg9))
          all_goals
            have HO9 := Lib.hid ho9
            have hlo : ∀ q, (Value.slice A6 k c6).ownBlock = some q → w2.heap.size ≤ q := fun q hq => (HOW.out.lt q hq).1
            have HB9 := Lib.hid (HBL.out.grown (grown_of_alloc (o := .cells #[.int .u8 49] 5) (by exact ⟨hg9.os, hg9.tape, hg9.output, hg9.size, hg9.block⟩)) hsz hlo)
            clear ho9 hg9 hlo
            go_wp2_with (fail)
            go_roundw
            case rel =>
              refine ⟨k + 1, M, by omega, by go_num, rfl, HM.out, ?_, HB9.out⟩
              rw [HRES.out k, recs_snoc, HDE.out]
              exact HO9.out
            case measure => simp [intOf]; omega
        · rw [h1] at ht
          rw [h2] at hu
          have HDE := Lib.hid (show D k = 3 by have := HDK.out; rw [h1, h2] at this; exact this)
          have HCE := Lib.hid (show Cells (wr.alloc (.cells #[.int .u8 51] 5)) wr.heap.size 0 [.int .u8 51] from Cells.new wr _ _ _ _ rfl)
          go_upto_region 8 with (fail)
          go_region_law (first | (refine step_append_row rfl (.tmp 28) (.tmp 42) 75 rfl w2.heap.size 5 i0 (.int .u8 0) 1 1 Tryz.underlying75 hi hz0 hz1 hz2 rfl (by decide) (.slice A6 k c6) k (recs dgC (K k)) (by simp [Act.eval]) (HOW.out.alloc _) ⟨wr.heap.size, 0, none⟩ 1 1 [.int .u8 51] (by simp [Act.eval]) rfl (cells_add HCE.out) (by intro u hu; simp at hu; subst hu; rfl) (by unfold maxLen; omega) (by omega) (by simp; omega) ?_; intro v9 w9 ho9 hg9))
          all_goals
            have HO9 := Lib.hid ho9
            have hlo : ∀ q, (Value.slice A6 k c6).ownBlock = some q → w2.heap.size ≤ q := fun q hq => (HOW.out.lt q hq).1
            have HB9 := Lib.hid (HBL.out.grown (grown_of_alloc (o := .cells #[.int .u8 51] 5) (by exact ⟨hg9.os, hg9.tape, hg9.output, hg9.size, hg9.block⟩)) hsz hlo)
            clear ho9 hg9 hlo
            go_wp2_with (fail)
            go_roundw
            case rel =>
              refine ⟨k + 1, M, by omega, by go_num, rfl, HM.out, ?_, HB9.out⟩
              rw [HRES.out k, recs_snoc, HDE.out]
              exact HO9.out
            case measure => simp [intOf]; omega
    · obtain rfl : n = k := by omega
      obtain ⟨A6, c6, rfl⟩ := own_slice hown
      have HC := Lib.hid (show (convert 75 9 (.slice A6 n c6)).run Tryz.prog wr = .ok (.string (kyB (K n))) wr from by
        rcases own_two hown with ⟨h1, h2, h3⟩ | ⟨g, h1, h2, h3⟩
        · subst h1 h2 h3
          rw [HNIL.out]
          exact conv_nil wr
        · subst h1
          have hk := HKY.out (K n) wr g 0 c6 (own_cells0 hown)
          rw [HLEN.out] at hk
          exact hk)
      have hcv := HC.out
      clear hown hbl hL
      go_wp2_with (fail)
      go_ret2
      exact ⟨rfl, HB2.out.trans (HBL.out.mono HB2.out.size)⟩
end Go.Proofs.YtdkldbfhbpmjgaaGreatDoor
