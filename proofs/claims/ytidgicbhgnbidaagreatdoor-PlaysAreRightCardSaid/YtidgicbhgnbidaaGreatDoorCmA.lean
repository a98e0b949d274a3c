/- base.Hash, the lot and the wave of a device by their contracts. -/
import Derived.Test.YtidgicbhgnbidaaGreatDoorCmM
namespace Go.Proofs.YtidgicbhgnbidaaGreatDoor
open Go.RowKit

def hB (h : Int) (b : UInt8) : Int := IntKind.u64.wrap (bits BinOp.xor IntKind.u64 h (IntKind.u64.wrap b.toNat) * 1099511628211)
def hsV (s : ByteArray) (h : Int) (k : Nat) : Int := (s.data.toList.take k).foldl hB h
theorem hsV_next {s : ByteArray} {h : Int} {k : Nat} (hk : k < s.size) : hsV s h (k + 1) = hB (hsV s h k) s[k] := by
  have hk' : k < s.data.toList.length := by rw [Array.length_toList]; exact hk
  unfold hsV
  rw [List.take_add_one, List.getElem?_eq_getElem hk', List.foldl_append]
  rfl
def hC0 : Int := 14695981039346656037
def hashV (s t : ByteArray) : Int := hsV t (IntKind.u64.wrap (hsV s hC0 s.size * 1099511628211)) t.size
set_option maxRecDepth 100000 in
set_option maxHeartbeats 2000000 in
theorem hash_two (s t : ByteArray) (g c : Nat) (w : World) (hs : s.size ≤ 1000) (ht : t.size ≤ 1000) (hg : w.cell? ⟨g, 0, none⟩ = some (.string s)) (hg1 : w.cell? ⟨g, 1, none⟩ = some (.string t)) :
    Calls Tryz.prog 158 #[.slice (some ⟨g, 0, none⟩) 2 c] w fun e w' => e = .returned (.int .u64 (hashV s t)) ∧ w = w' := by
  have hgl := World.block_lt_of_cell? w _ hg
  simp only at hgl
  obtain ⟨r, hr⟩ : ∃ r, r = hashV s t := ⟨_, rfl⟩
  rw [← hr]
  have HR := Lib.hid hr
  clear hr
  go_enter Tryz.func158, Tryz.ntmps158
  go_wp2_with (fail)
  refine wp_loop_rounds 3 ?_
  rw [rounds_succ]
  go_wp2_with (fail)
  go_loopw [20, 3] (fun i v wr => ∃ (k : Nat) (x : Int), k ≤ s.size ∧ i = .int .i64 (k : Int) ∧ v = .int .u64 x ∧ Hid (w = wr ∧ x = hsV s hC0 k)) (fun i _ _ => s.size - (intOf i).toNat)
  case atStart => exact ⟨0, _, Nat.zero_le _, rfl, rfl, Lib.hid ⟨rfl, rfl⟩⟩
  case round =>
    obtain ⟨k, x, hk, rfl, rfl, HX⟩ := hrel
    obtain rfl := HX.out.1
    by_cases hlt : k < s.size
    · have hltI : (k : Int) < (s.size : Int) := by omega
      go_wp2_with (fail)
      go_roundw
      case rel => exact ⟨k + 1, _, by omega, by go_num, by first | rfl | trivial, Lib.hid ⟨by first | rfl | trivial, by rw [hsV_next hlt, ← HX.out.2]; rfl⟩⟩
      case measure => simp [intOf]; omega
    · have hltI : ¬ (k : Int) < (s.size : Int) := by omega
      have HX2 := Lib.hid (show x = hsV s hC0 s.size from by rw [HX.out.2, show k = s.size by omega])
      go_wp2_with (fail)
      rw [rounds_succ]
      go_wp2_with (fail)
      obtain ⟨y, hy⟩ : ∃ y, y = IntKind.u64.wrap (x * 1099511628211) := ⟨_, rfl⟩
      rw [← hy]
      have HY := Lib.hid hy
      clear hy
      go_loopw [20, 3] (fun i v wx => ∃ (k : Nat) (x : Int), k ≤ t.size ∧ i = .int .i64 (k : Int) ∧ v = .int .u64 x ∧ Hid (w = wx ∧ x = hsV t y k)) (fun i _ _ => t.size - (intOf i).toNat)
      case atStart => exact ⟨0, _, Nat.zero_le _, rfl, rfl, Lib.hid ⟨rfl, rfl⟩⟩
      case round =>
        obtain ⟨k2, x2, hk2, rfl, rfl, HX3⟩ := hrel
        obtain rfl := HX3.out.1
        by_cases hlt2 : k2 < t.size
        · have hltI2 : (k2 : Int) < (t.size : Int) := by omega
          go_wp2_with (fail)
          go_roundw
          case rel => exact ⟨k2 + 1, _, by omega, by go_num, by first | rfl | trivial, Lib.hid ⟨by first | rfl | trivial, by rw [hsV_next hlt2, ← HX3.out.2]; rfl⟩⟩
          case measure => simp [intOf]; omega
        · have hltI2 : ¬ (k2 : Int) < (t.size : Int) := by omega
          have HE := Lib.hid (show x2 = r from by rw [HX3.out.2, HR.out, show k2 = t.size by omega]; unfold hashV; rw [← HX2.out, HY.out])
          go_wp2_with (fail)
          rw [rounds_succ]
          go_wp2_with (fail)
          go_ret
          exact ⟨by rw [HE.out]; rfl, rfl⟩
def lotX (h : Int) : Int := wrap64 ((bits BinOp.xor IntKind.u64 h (h / 4294967296)).tmod 1000)
def lotV (C : Cm) (d : Nat) : Int := lotX (hashV (ckT C.key) (dvT d))
theorem lot_any (C : Cm) (d g : Nat) (w : World) (hg : w.heap[g]? = some (cmB C)) :
    Calls Tryz.prog 122 #[.pointer (some ⟨g, 0, none⟩), .string (dvT d)] w fun e w' => e = .returned (.int .i64 (lotV C d)) ∧ Below w.heap.size w w' := by
  unfold lotV
  have c0 := cell_of_blk (j := 0) hg rfl
  have hl := (Array.getElem?_eq_some_iff.1 hg).1
  clear hg
  have HH := Lib.hid (hash_two (ckT C.key) (dvT d) w.heap.size 2 (w.alloc (.cells #[.string (ckT C.key), .string (dvT d)] 9)) (by have := ckT_size2 C.key; omega) (by have := dvT_size2 d; omega) (cell_of_blk (j := 0) (heap_new w _) rfl) (cell_of_blk (j := 1) (heap_new w _) rfl))
  obtain ⟨h, hh⟩ : ∃ h, h = hashV (ckT C.key) (dvT d) := ⟨_, rfl⟩
  rw [← hh] at HH ⊢
  clear hh
  go_enter Tryz.func122, Tryz.ntmps122
  go_wp2_with (fail)
  refine HH.out.mono ?_
  rintro e w' ⟨rfl, rfl⟩
  go_wp2_with (fail)
  go_ret
  exact ⟨rfl, (Below.refl _ _).alloc (Nat.le_refl _) _⟩
def wvN (C : Cm) (d : Nat) : Nat := wvF (lotV C d) C.ws 0 0
theorem wvN_lt {C : Cm} (h : CmOk C) (d : Nat) : wvN C d < C.ws.length := by
  have := wvF_le (lotV C d) C.ws 0 0 (by have := h.n; omega)
  unfold wvN
  omega
set_option maxRecDepth 100000 in
set_option maxHeartbeats 2000000 in
theorem waveOf_any (C : Cm) (d g : Nat) (w : World) (hC : CmOk C) (hg : w.heap[g]? = some (cmB C)) (hw : Row w w.heap.size C.wa (recs wvC C.ws)) :
    Calls Tryz.prog 80 #[.pointer (some ⟨g, 0, none⟩), .string (dvT d)] w fun e w' => e = .returned (.int .i64 (wvN C d : Int)) ∧ Below w.heap.size w w' := by
  have HL := Lib.hid (lot_any C d g w hg)
  have HG := Lib.hid hg
  have HW := Lib.hid hw
  have HC := Lib.hid hC
  have hgl := (Array.getElem?_eq_some_iff.1 hg).1
  obtain ⟨n, hn⟩ : ∃ n, n = lotV C d := ⟨_, rfl⟩
  obtain ⟨N, hN⟩ : ∃ N, N = C.ws.length := ⟨_, rfl⟩
  have hN3 : 1 ≤ N ∧ N ≤ 3 := by rw [hN]; exact hC.n
  rw [← hn] at HL
  have HN := Lib.hid hN
  have HNN := Lib.hid hn
  clear hg hw hC hn hN
  go_enter Tryz.func80, Tryz.ntmps80
  go_wp2_with (fail)
  refine HL.out.mono ?_
  rintro e w1 ⟨rfl, hb1⟩
  have HB1 := Lib.hid hb1
  have hg1 := (hb1.block g hgl).trans HG.out
  have c5 : w1.cell? ⟨g, 5, none⟩ = some (.slice C.wa N C.wc) := by rw [HN.out]; exact cell_of_blk (j := 5) hg1 rfl
  have hgl1 := (Array.getElem?_eq_some_iff.1 hg1).1
  have HG1 := Lib.hid hg1
  clear hb1 hg1 HL
  go_wp2_with (fail)
  go_loopw [17, 6] (fun i v wr => ∃ (k : Nat) (s : Int), k ≤ N ∧ i = .int .i64 (k : Int) ∧ v = .int .i64 s ∧ 0 ≤ s ∧ s ≤ 1000 * (k : Int) ∧ Hid (Below w1.heap.size w1 wr ∧ wvF n (C.ws.drop k) s k = wvN C d)) (fun i _ _ => N - (intOf i).toNat)
  case atStart => exact ⟨0, 0, Nat.zero_le _, rfl, rfl, Int.le_refl _, by omega, Lib.hid ⟨Below.refl _ _, by rw [HNN.out]; rfl⟩⟩
  case round =>
    obtain ⟨k, s, hk, rfl, rfl, hs0, hs1, HQ⟩ := hrel
    have HB := Lib.hid (HB1.out.trans (HQ.out.1.mono HB1.out.size))
    by_cases hlt : k < N
    · have hltI : (k : Int) < (N : Int) := by omega
      obtain ⟨x, hx⟩ : ∃ x, C.ws[k]? = some x := ⟨_, List.getElem?_eq_getElem (by have := HN.out; omega)⟩
      have hxo := (HC.out.w x (List.mem_of_getElem? hx)).pt
      obtain ⟨b, o, ewa, hbw, hCl⟩ := (HW.out.below HB.out).posR wvC_len (by omega) (by have := HN.out; omega)
      have hbr : b < wr.heap.size := by have := HB.out.size; omega
      have e0 : wr.cell? ⟨b, o + k * 4, none⟩ = some (.int .i64 x.pt) := rec_cell wvC_len hCl k x hx 0 _ rfl
      have e1 := rec_cell wvC_len hCl k x hx 1 _ rfl
      have e2 := rec_cell wvC_len hCl k x hx 2 _ rfl
      have e3 := rec_cell wvC_len hCl k x hx 3 _ rfl
      have HE := Lib.hid (show wvF n (C.ws.drop k) s k = if n < s + x.pt then k else wvF n (C.ws.drop (k + 1)) (s + x.pt) (k + 1) from by
        have hkl := (List.getElem?_eq_some_iff.1 hx)
        obtain ⟨hkl, hxe⟩ := hkl
        rw [List.drop_eq_getElem_cons hkl, hxe]
        rfl)
      have HBA := Lib.hid (fun o => (HQ.out.1.alloc HQ.out.1.size o))
      rw [ewa]
      clear hCl hx
      by_cases hn2 : n < s + x.pt
      · have HF := Lib.hid (show k = wvN C d from by rw [← HQ.out.2, HE.out, if_pos hn2])
        go_wp2_with (fail)
        go_ret
        exact ⟨by rw [← HF.out]; rfl, HB1.out.trans ((HBA.out _).mono HB1.out.size)⟩
      · have HF := Lib.hid (show wvF n (C.ws.drop (k + 1)) (s + x.pt) (k + 1) = wvN C d from by rw [← HQ.out.2, HE.out, if_neg hn2])
        go_wp2_with (fail)
        go_roundw
        case rel => exact ⟨k + 1, s + x.pt, by omega, by go_num, rfl, by omega, by omega, Lib.hid ⟨HBA.out _, HF.out⟩⟩
        case measure => simp [intOf]; omega
    · have hltI : ¬ (k : Int) < (N : Int) := by omega
      have HF := Lib.hid (show N - 1 = wvN C d from by
        rw [← HQ.out.2, List.drop_of_length_le (by have := HN.out; omega)]
        show N - 1 = k - 1
        omega)
      have hgr := (HQ.out.1.block g hgl1).trans HG1.out
      have c5 : wr.cell? ⟨g, 5, none⟩ = some (.slice C.wa N C.wc) := by rw [HN.out]; exact cell_of_blk (j := 5) hgr rfl
      have hglr := (Array.getElem?_eq_some_iff.1 hgr).1
      clear hgr
      go_wp2_with (fail)
      go_ret
      exact ⟨ret_int (by rw [← HF.out]; omega), HB.out⟩
end Go.Proofs.YtidgicbhgnbidaaGreatDoor
