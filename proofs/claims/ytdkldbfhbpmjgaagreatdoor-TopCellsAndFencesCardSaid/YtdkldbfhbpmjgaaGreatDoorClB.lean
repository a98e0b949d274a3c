/- place.cellBox, place.CellBox by their contracts. -/
import Derived.Test.YtdkldbfhbpmjgaaGreatDoorClA
namespace Go.Proofs.YtdkldbfhbpmjgaaGreatDoor
open Go.RowKit

theorem kyB_get (ds : List Nat) (k : Nat) (d : Nat) (h : ds[k]? = some d) (hd : d < 4) (hk : k < (kyB ds).size) : ((kyB ds)[k]'hk).toNat = 48 + d := by
  have hl : k < ds.length := (List.getElem?_eq_some_iff.1 h).1
  have he : ds[k] = d := (List.getElem?_eq_some_iff.1 h).2
  have : (kyB ds)[k]'hk = UInt8.ofNat (48 + d) := by
    show (kyB ds).data[k]'_ = _
    simp [kyB, he]
  rw [this, UInt8.toNat_ofNat_of_lt' (by simp only [UInt8.size]; omega)]

set_option maxRecDepth 100000 in
set_option maxHeartbeats 4000000 in
theorem boxI_any (ds : List Nat) (w : World) (hd : isDs ds) (hl : ds.length ≤ 15) :
    Calls Tryz.prog 67 #[.string (kyB ds)] w fun e w' => e = .returned (.tuple #[.agg #[.int .i64 (bxOf ds).1, .int .i64 (bxOf ds).2.1], .int .i64 (bxOf ds).2.2]) ∧ Below w.heap.size w w' := by
  have hsz := kyB_size ds
  have HGET := Lib.hid (kyB_get ds)
  have HD := Lib.hid hd
  obtain ⟨n, en⟩ : ∃ n, n = ds.length := ⟨_, rfl⟩
  rw [← en] at hsz hl
  have HN := Lib.hid en.symm
  obtain ⟨s, es⟩ : ∃ s, s = kyB ds := ⟨_, rfl⟩
  rw [← es] at hsz ⊢
  have HS := Lib.hid es
  clear hd en es
  go_enter Tryz.func67, Tryz.ntmps67
  go_upto_region 2 with (fail)
  obtain ⟨g2, eg2⟩ : ∃ g, g = w.heap.size := ⟨_, rfl⟩
  obtain ⟨g4, eg4⟩ : ∃ g, g = w.heap.size + 1 := ⟨_, rfl⟩
  rw [← eg4, ← eg2]
  generalize hW : (w.alloc (.cells #[.int .i64 0, .int .i64 0] 54)).alloc (.cells #[.int .i64 (-16384), .int .i64 (-16384)] 54) = W
  have hBW : Below w.heap.size w W := by rw [← hW]; exact ((Below.refl _ _).alloc (Nat.le_refl _) _).alloc (by simp) _
  have ha0 : W.heap[g2]? = some (.cells #[.int .i64 0, .int .i64 0] 54 (0, 0)) := by rw [← hW, eg2, Below.heap_alloc _ _ _ (by simp)]; exact heap_new w _
  have hb0 : W.heap[g4]? = some (.cells #[.int .i64 (-16384), .int .i64 (-16384)] 54 (0, 0)) := by
    rw [← hW, eg4]
    have h := heap_new (w.alloc (.cells #[.int .i64 0, .int .i64 0] 54)) (.cells #[.int .i64 (-16384), .int .i64 (-16384)] 54)
    rwa [World.size_alloc] at h
  have HA0 := Lib.hid ha0
  have HB0 := Lib.hid hb0
  have HBW := Lib.hid hBW
  have hne : g2 ≠ g4 := by omega
  have hg4w : w.heap.size ≤ g4 := by omega
  have hg2w : w.heap.size ≤ g2 := by omega
  clear hW hBW ha0 hb0 eg2 eg4
  have hszI : (s.size : Int) = (n : Int) := by omega
  go_wp2_with (fail)
  go_loopw [5, 10] (fun lo i wr => ∃ (k : Nat) (x y L : Int), k ≤ n ∧ i = .int .i64 (k : Int) ∧ lo = .int .i64 L ∧ bxOf (ds.take k) = (x, y, L) ∧ wr.heap[g4]? = some (.cells #[.int .i64 x, .int .i64 y] 54 (0, 0)) ∧ wr.heap[g2]? = some (.cells #[.int .i64 0, .int .i64 0] 54 (0, 0)) ∧ Below w.heap.size w wr) (fun _ i _ => n - (intOf i).toNat)
  case atStart => exact ⟨0, -16384, -16384, 32768, by omega, rfl, rfl, rfl, HB0.out, HA0.out, HBW.out⟩
  case round =>
    obtain ⟨k, x, y, L, hk, rfl, rfl, hbx, hb4, hb2, hbl⟩ := hrel
    have HBX := Lib.hid hbx
    have HB4 := Lib.hid hb4
    have HB2 := Lib.hid hb2
    have HBL := Lib.hid hbl
    have hg4W : g4 < wr.heap.size := (Array.getElem?_eq_some_iff.1 hb4).1
    have hg2W : g2 < wr.heap.size := (Array.getElem?_eq_some_iff.1 hb2).1
    have c0 := cell_of_blk (j := 0) hb4 rfl
    have c1 := cell_of_blk (j := 1) hb4 rfl
    by_cases hlt : k < n
    · obtain ⟨d, hdk⟩ : ∃ d, ds[k]? = some d := ⟨_, List.getElem?_eq_getElem (by have := HN.out; omega)⟩
      have hd4 : d < 4 := HD.out d (List.mem_of_getElem? hdk)
      have HTK := Lib.hid (show ds.take (k + 1) = ds.take k ++ [d] by rw [List.take_add_one, hdk]; rfl)
      have hks : k < s.size := by omega
      have hbk : (s[k]'hks).toNat = 48 + d := by
        have h := HGET.out k d hdk hd4 (by rw [← HS.out]; exact hks)
        simp only [← HS.out] at h
        exact h
      have hfi := bx_fine (ds.take k) (HD.out.take k) (by rw [List.length_take]; omega)
      rw [hbx] at hfi
      simp only at hfi
      obtain ⟨f0, f1, f2, f3, f4, f5⟩ := hfi
      have hlk : (ds.take k).length = k := by rw [List.length_take]; have := HN.out; omega
      rw [hlk] at f0
      obtain ⟨M, eM⟩ : ∃ M, M = (2 : Int) ^ (15 - (k + 1)) := ⟨_, rfl⟩
      have hLM : L = 2 * M := by rw [f0, eM, show 15 - k = (15 - (k + 1)) + 1 by omega, Int.pow_succ]; omega
      have hM1 : 1 ≤ M := by rw [eM]; exact pow_pos2 _
      have l1 : L / 2 = M := by omega
      have l2 : L.tdiv 2 = M := by rw [Int.tdiv_eq_ediv_of_nonneg (by omega)]; exact l1
      have lw : IntKind.i64.wrap M = M := by rw [IntKind.wrap_i64]; omega
      have hL0 : 0 ≤ L := by omega
      have wxM : IntKind.i64.wrap (x + M) = x + M := by rw [IntKind.wrap_i64]; omega
      have wyM : IntKind.i64.wrap (y + M) = y + M := by rw [IntKind.wrap_i64]; omega
      have wx0 : IntKind.i64.wrap x = x := by rw [IntKind.wrap_i64]; omega
      have wy0 : IntKind.i64.wrap y = y := by rw [IntKind.wrap_i64]; omega
      have hkI : (k : Int) < (n : Int) := by omega
      have hkS : (k : Int) < (s.size : Int) := by omega
      have hk0 : (0 : Int) ≤ (k : Int) := by omega
      have z0 : wr.frozen? ⟨g4, 0, none⟩ = false := by simp [World.frozen?, hb4]
      have z1 : wr.frozen? ⟨g4, 1, none⟩ = false := by simp [World.frozen?, hb4]
      clear hdk hbx hb4 hb2 hbl f0 eM hLM hlk
      rcases (show d = 0 ∨ d = 1 ∨ d = 2 ∨ d = 3 by omega) with rfl | rfl | rfl | rfl
      · have hb : (s[k]'hks).toNat = 48 := hbk
        have HST := Lib.hid (show bxStep (x, y, L) 0 = (x, y, M) by
          unfold bxStep
          simp only [l1]
          refine Prod.ext ?_ (Prod.ext ?_ rfl) <;> simp)
        clear hbk
        go_upto_region 6 with (fail)
        go_region
        go_upto_region 7 with (fail)
        generalize hV : wr.setCell ⟨g4, 0, none⟩ (.int .i64 (x)) = V
        have hv4 : V.heap[g4]? = some (.cells #[.int .i64 (x), .int .i64 y] 54 (0, 0)) := by
          rw [← hV]
          have h := heap_setCell_same _ _ 0 _ _ (.int .i64 (x)) HB4.out
          simpa using h
        have hv2 : V.heap[g2]? = some (.cells #[.int .i64 0, .int .i64 0] 54 (0, 0)) := by rw [← hV, Below.heap_setCell _ ⟨g4, 0, none⟩ _ g2 hne]; exact HB2.out
        have HBV := Lib.hid (show Below w.heap.size w V from hV ▸ HBL.out.setCell (p := ⟨g4, 0, none⟩) hg4w _)
        clear c0 c1 z0 z1
        have c1 := cell_of_blk (j := 1) hv4 rfl
        have z1 : V.frozen? ⟨g4, 1, none⟩ = false := by simp [World.frozen?, hv4]
        have hg4V : g4 < V.heap.size := (Array.getElem?_eq_some_iff.1 hv4).1
        have HV4 := Lib.hid hv4
        have HV2 := Lib.hid hv2
        clear hV hv4 hv2
        go_region
        go_wp2_with (fail)
        go_roundw
        case rel =>
          refine ⟨k + 1, x, y, M, by omega, by go_num, rfl, ?_, ?_, ?_, ?_⟩
          · rw [HTK.out, bxOf_snoc, HBX.out, ← HST.out]
          · have h := heap_setCell_same _ _ 1 _ _ (.int .i64 (y)) HV4.out
            exact (show (V.setCell ⟨g4, 1, none⟩ (.int .i64 (y))).heap[g4]? = some (.cells #[.int .i64 (x), .int .i64 (y)] 54 (0, 0)) by simpa using h)
          · exact (Below.heap_setCell _ ⟨g4, 1, none⟩ _ g2 hne).trans HV2.out
          · exact (HBV.out.setCell (p := ⟨g4, 1, none⟩) hg4w _).drew.drew
        case measure => simp [intOf]; omega
      · have hb : (s[k]'hks).toNat = 49 := hbk
        have HST := Lib.hid (show bxStep (x, y, L) 1 = (x + M, y, M) by
          unfold bxStep
          simp only [l1]
          refine Prod.ext ?_ (Prod.ext ?_ rfl) <;> simp)
        clear hbk
        go_upto_region 6 with (fail)
        go_region
        go_upto_region 7 with (fail)
        generalize hV : wr.setCell ⟨g4, 0, none⟩ (.int .i64 (x + M)) = V
        have hv4 : V.heap[g4]? = some (.cells #[.int .i64 (x + M), .int .i64 y] 54 (0, 0)) := by
          rw [← hV]
          have h := heap_setCell_same _ _ 0 _ _ (.int .i64 (x + M)) HB4.out
          simpa using h
        have hv2 : V.heap[g2]? = some (.cells #[.int .i64 0, .int .i64 0] 54 (0, 0)) := by rw [← hV, Below.heap_setCell _ ⟨g4, 0, none⟩ _ g2 hne]; exact HB2.out
        have HBV := Lib.hid (show Below w.heap.size w V from hV ▸ HBL.out.setCell (p := ⟨g4, 0, none⟩) hg4w _)
        clear c0 c1 z0 z1
        have c1 := cell_of_blk (j := 1) hv4 rfl
        have z1 : V.frozen? ⟨g4, 1, none⟩ = false := by simp [World.frozen?, hv4]
        have hg4V : g4 < V.heap.size := (Array.getElem?_eq_some_iff.1 hv4).1
        have HV4 := Lib.hid hv4
        have HV2 := Lib.hid hv2
        clear hV hv4 hv2
        go_region
        go_wp2_with (fail)
        go_roundw
        case rel =>
          refine ⟨k + 1, x + M, y, M, by omega, by go_num, rfl, ?_, ?_, ?_, ?_⟩
          · rw [HTK.out, bxOf_snoc, HBX.out, ← HST.out]
          · have h := heap_setCell_same _ _ 1 _ _ (.int .i64 (y)) HV4.out
            exact (show (V.setCell ⟨g4, 1, none⟩ (.int .i64 (y))).heap[g4]? = some (.cells #[.int .i64 (x + M), .int .i64 (y)] 54 (0, 0)) by simpa using h)
          · exact (Below.heap_setCell _ ⟨g4, 1, none⟩ _ g2 hne).trans HV2.out
          · exact (HBV.out.setCell (p := ⟨g4, 1, none⟩) hg4w _).drew.drew
        case measure => simp [intOf]; omega
      · have hb : (s[k]'hks).toNat = 50 := hbk
        have HST := Lib.hid (show bxStep (x, y, L) 2 = (x, y + M, M) by
          unfold bxStep
          simp only [l1]
          refine Prod.ext ?_ (Prod.ext ?_ rfl) <;> simp)
        clear hbk
        go_upto_region 6 with (fail)
        go_region
        go_upto_region 7 with (fail)
        generalize hV : wr.setCell ⟨g4, 0, none⟩ (.int .i64 (x)) = V
        have hv4 : V.heap[g4]? = some (.cells #[.int .i64 (x), .int .i64 y] 54 (0, 0)) := by
          rw [← hV]
          have h := heap_setCell_same _ _ 0 _ _ (.int .i64 (x)) HB4.out
          simpa using h
        have hv2 : V.heap[g2]? = some (.cells #[.int .i64 0, .int .i64 0] 54 (0, 0)) := by rw [← hV, Below.heap_setCell _ ⟨g4, 0, none⟩ _ g2 hne]; exact HB2.out
        have HBV := Lib.hid (show Below w.heap.size w V from hV ▸ HBL.out.setCell (p := ⟨g4, 0, none⟩) hg4w _)
        clear c0 c1 z0 z1
        have c1 := cell_of_blk (j := 1) hv4 rfl
        have z1 : V.frozen? ⟨g4, 1, none⟩ = false := by simp [World.frozen?, hv4]
        have hg4V : g4 < V.heap.size := (Array.getElem?_eq_some_iff.1 hv4).1
        have HV4 := Lib.hid hv4
        have HV2 := Lib.hid hv2
        clear hV hv4 hv2
        go_region
        go_wp2_with (fail)
        go_roundw
        case rel =>
          refine ⟨k + 1, x, y + M, M, by omega, by go_num, rfl, ?_, ?_, ?_, ?_⟩
          · rw [HTK.out, bxOf_snoc, HBX.out, ← HST.out]
          · have h := heap_setCell_same _ _ 1 _ _ (.int .i64 (y + M)) HV4.out
            exact (show (V.setCell ⟨g4, 1, none⟩ (.int .i64 (y + M))).heap[g4]? = some (.cells #[.int .i64 (x), .int .i64 (y + M)] 54 (0, 0)) by simpa using h)
          · exact (Below.heap_setCell _ ⟨g4, 1, none⟩ _ g2 hne).trans HV2.out
          · exact (HBV.out.setCell (p := ⟨g4, 1, none⟩) hg4w _).drew.drew
        case measure => simp [intOf]; omega
      · have hb : (s[k]'hks).toNat = 51 := hbk
        have HST := Lib.hid (show bxStep (x, y, L) 3 = (x + M, y + M, M) by
          unfold bxStep
          simp only [l1]
          refine Prod.ext ?_ (Prod.ext ?_ rfl) <;> simp)
        clear hbk
        go_upto_region 6 with (fail)
        go_region
        go_upto_region 7 with (fail)
        generalize hV : wr.setCell ⟨g4, 0, none⟩ (.int .i64 (x + M)) = V
        have hv4 : V.heap[g4]? = some (.cells #[.int .i64 (x + M), .int .i64 y] 54 (0, 0)) := by
          rw [← hV]
          have h := heap_setCell_same _ _ 0 _ _ (.int .i64 (x + M)) HB4.out
          simpa using h
        have hv2 : V.heap[g2]? = some (.cells #[.int .i64 0, .int .i64 0] 54 (0, 0)) := by rw [← hV, Below.heap_setCell _ ⟨g4, 0, none⟩ _ g2 hne]; exact HB2.out
        have HBV := Lib.hid (show Below w.heap.size w V from hV ▸ HBL.out.setCell (p := ⟨g4, 0, none⟩) hg4w _)
        clear c0 c1 z0 z1
        have c1 := cell_of_blk (j := 1) hv4 rfl
        have z1 : V.frozen? ⟨g4, 1, none⟩ = false := by simp [World.frozen?, hv4]
        have hg4V : g4 < V.heap.size := (Array.getElem?_eq_some_iff.1 hv4).1
        have HV4 := Lib.hid hv4
        have HV2 := Lib.hid hv2
        clear hV hv4 hv2
        go_region
        go_wp2_with (fail)
        go_roundw
        case rel =>
          refine ⟨k + 1, x + M, y + M, M, by omega, by go_num, rfl, ?_, ?_, ?_, ?_⟩
          · rw [HTK.out, bxOf_snoc, HBX.out, ← HST.out]
          · have h := heap_setCell_same _ _ 1 _ _ (.int .i64 (y + M)) HV4.out
            exact (show (V.setCell ⟨g4, 1, none⟩ (.int .i64 (y + M))).heap[g4]? = some (.cells #[.int .i64 (x + M), .int .i64 (y + M)] 54 (0, 0)) by simpa using h)
          · exact (Below.heap_setCell _ ⟨g4, 1, none⟩ _ g2 hne).trans HV2.out
          · exact (HBV.out.setCell (p := ⟨g4, 1, none⟩) hg4w _).drew.drew
        case measure => simp [intOf]; omega
    · obtain rfl : n = k := by omega
      have hfin : bxOf ds = (x, y, L) := by rw [← hbx, List.take_of_length_le (by have := HN.out; omega)]
      have HF := Lib.hid hfin
      have z2 : wr.frozen? ⟨g2, 0, none⟩ = false := by simp [World.frozen?, hb2]
      have z3 : wr.frozen? ⟨g2, 1, none⟩ = false := by simp [World.frozen?, hb2]
      have r0 := cell_of_blk (j := 0) hb2 rfl
      have r1 := cell_of_blk (j := 1) hb2 rfl
      have HR := Lib.hid (show ((wr.setCell ⟨g2, 0, none⟩ (.int .i64 x)).setCell ⟨g2, 1, none⟩ (.int .i64 y)).heap[g2]? = some (.cells #[.int .i64 x, .int .i64 y] 54 (0, 0)) by
        have h1 := heap_setCell_same _ _ 1 _ _ (.int .i64 y) (heap_setCell_same _ _ 0 _ _ (.int .i64 x) hb2)
        simpa using h1)
      clear hbx hb4 hb2 hbl hfin
      go_wp2_with (fail)
      have q0 := cell_of_blk (j := 0) HR.out rfl
      have q1 := cell_of_blk (j := 1) HR.out rfl
      rw [HF.out]
      exact bodyPost_ret (v := .tuple #[.agg #[.int .i64 x, .int .i64 y], .int .i64 L]) (by simp [results, Tryz.results67, go_sem, q0, q1]) rfl ⟨rfl, (HBL.out.setCell (p := ⟨g2, 0, none⟩) hg2w _).setCell (p := ⟨g2, 1, none⟩) hg2w _⟩
end Go.Proofs.YtdkldbfhbpmjgaaGreatDoor
