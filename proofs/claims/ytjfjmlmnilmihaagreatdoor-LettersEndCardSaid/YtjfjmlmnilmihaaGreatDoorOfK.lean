/- LettersEnd: whether names are among those done, no letter that is handed out is done or over. -/
import Derived.Test.YtjfjmlmnilmihaaGreatDoorOfN
namespace Go.Proofs.YtjfjmlmnilmihaaGreatDoor
open Go.RowKit

def isC (i : Nat) : List Value := [.string (idL i)]
theorem isC_len (i : Nat) : (isC i).length = 1 := rfl
theorem isC_one (i : Nat) : ∀ u ∈ isC i, u.oneCell' = true := by
  intro u hu
  simp only [isC, List.mem_singleton] at hu
  rw [hu]; rfl
theorem idL_beqL {i j : Nat} (hi : i < 6) (hj : j < 6) : ((idL i).toList == (idL j).toList) = decide (i = j) := by
  rw [Lib.toList_data, Lib.toList_data]
  rcases six_of hi with h | h | h | h | h | h <;> subst h <;> rcases six_of hj with h | h | h | h | h | h <;> subst h <;> decide
def idPost (D : List Nat) (j : Nat) (e : Ending) : Prop := ∃ z : Int, e = .returned (.int .i64 z) ∧ (0 ≤ z ↔ j ∈ D)
set_option maxRecDepth 100000 in
set_option maxHeartbeats 2000000 in
theorem idxS_any (D : List Nat) (n c j : Nat) (A : Option Addr) (w : World) (hn : D.length = n) (hn7 : n ≤ 1000000) (hD : ∀ i ∈ D, i < 6) (hj : j < 6) (hr : Row w w.heap.size A (recs isC D)) :
    Calls Tryz.prog 50 #[.slice A n c, .string (idL j)] w fun e w' => idPost D j e ∧ w = w' := by
  have HR := Lib.hid hr
  have HN := Lib.hid hn
  have HD := Lib.hid hD
  clear hr hn hD
  go_enter Tryz.func50, Tryz.ntmps50
  go_wp2_with (fail)
  go_loopw [8] (fun s wr => ∃ k : Nat, k ≤ n ∧ s = .int .i64 k ∧ Hid (wr = w) ∧ Hid (∀ m i, m < k → D[m]? = some i → i ≠ j)) (fun s _ => n - (intOf s).toNat)
  case atStart => exact ⟨0, Nat.zero_le _, rfl, Lib.hid rfl, Lib.hid (fun m i hm _ => by omega)⟩
  case round =>
    obtain ⟨k, hk, rfl, HW, HK⟩ := hrel
    have hw := HW.out
    subst hw
    by_cases hlt : k < n
    · have hltI : (k : Int) < (n : Int) := by omega
      obtain ⟨x, hx⟩ : ∃ x, D[k]? = some x := ⟨_, List.getElem?_eq_getElem (by have := HN.out; omega)⟩
      obtain ⟨b, o, rfl, hb, hC⟩ := (HR.out).posR isC_len (by omega) (by have := HN.out; omega)
      have c0 := rec_cell isC_len hC k x hx 0 _ rfl
      simp only [Nat.mul_one, Nat.add_zero] at c0
      have hx6 := HD.out x (List.mem_of_getElem? hx)
      have e1 := idL_beq hj hx6
      have e2 := idL_beqL hj hx6
      have HX := Lib.hid hx
      clear hC hx
      by_cases hjx : j = x
      · rw [decide_eq_true hjx] at e1 e2
        have HM := Lib.hid (show j ∈ D from by rw [hjx]; exact List.mem_of_getElem? HX.out)
        clear hjx
        go_wp2_with (fail)
        go_ret
        exact ⟨⟨_, rfl, iff_of_true (by omega) HM.out⟩, rfl⟩
      · rw [decide_eq_false hjx] at e1 e2
        have HJ := Lib.hid hjx
        clear hjx
        go_wp2_with (fail)
        go_roundw
        case rel =>
          refine ⟨k + 1, by omega, by go_num, Lib.hid (by simp), Lib.hid (fun m i hm hi => ?_)⟩
          by_cases hmk : m = k
          · subst hmk
            have h2 := HX.out
            rw [hi] at h2
            rw [Option.some.inj h2]
            exact fun e => HJ.out e.symm
          · exact HK.out m i (by omega) hi
        case measure => simp [intOf]; omega
    · have hltI : ¬ (k : Int) < (n : Int) := by omega
      have HM := Lib.hid (show j ∉ D from fun hm => by
        obtain ⟨m, hm⟩ := List.getElem?_of_mem hm
        exact HK.out m j (by have := (List.getElem?_eq_some_iff.1 hm).1; have := HN.out; omega) hm rfl)
      go_wp2_with (fail)
      go_ret
      exact ⟨⟨_, rfl, iff_of_false (by omega) HM.out⟩, rfl⟩
set_option maxRecDepth 100000 in
theorem contS_any (D : List Nat) (n c j : Nat) (A : Option Addr) (w : World) (hn : D.length = n) (hn7 : n ≤ 1000000) (hD : ∀ i ∈ D, i < 6) (hj : j < 6) (hr : Row w w.heap.size A (recs isC D)) :
    Calls Tryz.prog 20 #[.slice A n c, .string (idL j)] w fun e w' => e = .returned (.bool (decide (j ∈ D))) ∧ w = w' := by
  have HI := Lib.hid (idxS_any D n c j A w hn hn7 hD hj hr)
  unfold idPost at HI
  obtain ⟨u, eu⟩ : ∃ u, u = decide (j ∈ D) := ⟨_, rfl⟩
  have HU := Lib.hid eu
  rw [← eu]
  clear hn hD hr eu
  go_enter Tryz.func20, Tryz.ntmps20
  go_wp2_with (fail)
  refine HI.out.mono ?_
  rintro e w1 ⟨⟨z, rfl, hz⟩, rfl⟩
  have HZ := Lib.hid hz
  clear hz
  have HDD := Lib.hid (show decide (0 ≤ z) = u from by rw [HU.out, decide_eq_decide]; exact HZ.out)
  go_wp2_with (fail)
  go_ret
  exact ⟨by rw [← HDD.out]; rfl, rfl⟩
/-- What the closure reads: those done, the moment. -/
structure CapL (V : World) (gd ga : Nat) (A : Option Addr) (n c : Nat) (D : List Nat) (a : Int) : Prop where
  d : V.cell? ⟨gd, 0, none⟩ = some (.slice A n c)
  a : V.cell? ⟨ga, 0, none⟩ = some (.int .i64 a)
  ld : gd < V.heap.size
  la : ga < V.heap.size
  row : Row V V.heap.size A (recs isC D)
theorem CapL.below {V W : World} {gd ga n c : Nat} {A : Option Addr} {D : List Nat} {a : Int} (h : CapL V gd ga A n c D a) (hb : Below V.heap.size V W) : CapL W gd ga A n c D a := by
  have := hb.size
  exact ⟨(hb.cell (p := ⟨gd, 0, none⟩) h.ld).trans h.d, (hb.cell (p := ⟨ga, 0, none⟩) h.la).trans h.a, by have := h.ld; omega, by have := h.la; omega, (h.row.below hb).mono hb.size⟩
set_option maxRecDepth 100000 in
theorem clL_no (x : Ol) (gd ga : Nat) (A : Option Addr) (n c : Nat) (D : List Nat) (a : Int) (w : World) (hn : D.length = n) (hn7 : n ≤ 1000000) (hD : ∀ i ∈ D, i < 6) (h6 : x.id < 6) (hx : x.id ∉ D) (hu : a < x.un) (h : CapL w gd ga A n c D a) :
    Calls Tryz.prog 19 #[olV x, .pointer (some ⟨gd, 0, none⟩), .pointer (some ⟨ga, 0, none⟩)] w fun e w' => e = .returned (.bool false) ∧ Below w.heap.size w w' := by
  obtain ⟨g, eg⟩ : ∃ g, g = w.heap.size := ⟨_, rfl⟩
  obtain ⟨w1, e1⟩ : ∃ V : World, V = w.alloc (.cells #[.string (idL x.id), .string (slL x.sl), .string (boL x.bo), .int .i64 x.pr, .int .i64 x.at_, .int .i64 x.un] 35) := ⟨_, rfl⟩
  have hb1 : Below w.heap.size w w1 := by rw [e1]; exact (Below.refl _ _).alloc (Nat.le_refl _) _
  have hg1 : w1.heap[g]? = some (.cells #[.string (idL x.id), .string (slL x.sl), .string (boL x.bo), .int .i64 x.pr, .int .i64 x.at_, .int .i64 x.un] 35 (0, 0)) := by rw [e1, eg]; exact heap_new w _
  have hlg := (Array.getElem?_eq_some_iff.1 hg1).1
  have k0 := cell_of_blk (j := 0) hg1 rfl
  have k5 := cell_of_blk (j := 5) hg1 rfl
  have hc1 := h.below hb1
  have d0 := hc1.d
  have a0 := hc1.a
  have ld := hc1.ld
  have la := hc1.la
  have HCS := Lib.hid (contS_any D n c x.id A w1 hn hn7 hD h6 hc1.row)
  rw [decide_eq_false hx] at HCS
  have HB := Lib.hid hb1
  have hu2 : ¬ x.un ≤ a := by omega
  clear hg1 hb1 hc1 h hD hn hx
  unfold olV
  go_enter Tryz.func19, Tryz.ntmps19
  go_upto_region 1 with (fail)
  rw [← eg, ← e1]
  clear eg e1
  go_wp2_with (fail)
  refine HCS.out.mono ?_
  rintro e w2 ⟨rfl, ew⟩
  subst ew
  go_wp2_with (fail)
  go_ret
  exact ⟨by show Ending.returned (.bool (decide (x.un ≤ a))) = _; rw [decide_eq_false (by omega)], HB.out⟩
set_option maxRecDepth 100000 in
set_option maxHeartbeats 2000000 in
theorem idxL_no (l : List Ol) (N C : Nat) (AL : Option Addr) (gd ga : Nat) (A : Option Addr) (n c : Nat) (D : List Nat) (a : Int) (w : World) (hl : l.length = N) (hN : N ≤ 1000) (hr : Row w w.heap.size AL (recs olC l)) (hn : D.length = n) (hn7 : n ≤ 1000000) (hD : ∀ i ∈ D, i < 6) (hx : ∀ x ∈ l, x.id < 6 ∧ x.id ∉ D ∧ a < x.un) (h : CapL w gd ga A n c D a) :
    Calls Tryz.prog 49 #[.slice AL N C, .func (.func 19) #[] #[.pointer (some ⟨gd, 0, none⟩), .pointer (some ⟨ga, 0, none⟩)]] w fun e w' => e = .returned (.int .i64 (-1)) ∧ Below w.heap.size w w' := by
  have HR := Lib.hid hr
  have HN := Lib.hid hl
  have HH := Lib.hid (fun (x : Ol) (hxm : x ∈ l) (V : World) (hV : Below w.heap.size w V) => clL_no x gd ga A n c D a V hn hn7 hD (hx x hxm).1 (hx x hxm).2.1 (hx x hxm).2.2 (h.below hV))
  clear hr hl hn hD hx h
  go_enter Tryz.func49, Tryz.ntmps49
  go_wp2_with (fail)
  go_loopw [8] (fun i wr => ∃ k : Nat, k ≤ N ∧ i = .int .i64 k ∧ Below w.heap.size w wr) (fun i _ => N - (intOf i).toNat)
  case atStart => exact ⟨0, Nat.zero_le _, rfl, Below.refl _ _⟩
  case round =>
    obtain ⟨k, hk, rfl, hb⟩ := hrel
    have hbs := hb.size
    have HB := Lib.hid hb
    by_cases hlt : k < N
    · have hltI : (k : Int) < (N : Int) := by omega
      obtain ⟨x, hx⟩ : ∃ x, l[k]? = some x := ⟨_, List.getElem?_eq_getElem (by have := HN.out; omega)⟩
      obtain ⟨b, o, rfl, hbw, hC⟩ := (HR.out.below hb).posR olC_len (by omega) (by have := HN.out; omega)
      have c0 : wr.cell? ⟨b, o + k * 6, none⟩ = some (.string (idL x.id)) := rec_cell olC_len hC k x hx 0 _ rfl
      have c1 := rec_cell olC_len hC k x hx 1 _ rfl
      have c2 := rec_cell olC_len hC k x hx 2 _ rfl
      have c3 := rec_cell olC_len hC k x hx 3 _ rfl
      have c4 := rec_cell olC_len hC k x hx 4 _ rfl
      have c5 := rec_cell olC_len hC k x hx 5 _ rfl
      have hbl : b < wr.heap.size := by omega
      have HX := Lib.hid (HH.out x (List.mem_of_getElem? hx) wr HB.out)
      unfold olV at HX
      clear hC hx hb
      go_wp2_with (fail)
      refine HX.out.mono ?_
      rintro e w1 ⟨rfl, hb1⟩
      have HB1 := Lib.hid (HB.out.trans (hb1.mono hbs))
      clear hb1
      go_wp2_with (fail)
      go_roundw
      case rel => exact ⟨k + 1, by omega, by go_num, HB1.out⟩
      case measure => simp [intOf]; omega
    · have hltI : ¬ (k : Int) < (N : Int) := by omega
      clear hb
      go_wp2_with (fail)
      go_ret
      exact ⟨rfl, HB.out⟩
set_option maxRecDepth 100000 in
theorem contL_no (l : List Ol) (N C : Nat) (AL : Option Addr) (gd ga : Nat) (A : Option Addr) (n c : Nat) (D : List Nat) (a : Int) (w : World) (hl : l.length = N) (hN : N ≤ 1000) (hr : Row w w.heap.size AL (recs olC l)) (hn : D.length = n) (hn7 : n ≤ 1000000) (hD : ∀ i ∈ D, i < 6) (hx : ∀ x ∈ l, x.id < 6 ∧ x.id ∉ D ∧ a < x.un) (h : CapL w gd ga A n c D a) :
    Calls Tryz.prog 18 #[.slice AL N C, .func (.func 19) #[] #[.pointer (some ⟨gd, 0, none⟩), .pointer (some ⟨ga, 0, none⟩)]] w fun e w' => e = .returned (.bool false) ∧ Below w.heap.size w w' := by
  have HI := Lib.hid (idxL_no l N C AL gd ga A n c D a w hl hN hr hn hn7 hD hx h)
  clear hl hr hn hD hx h
  go_enter Tryz.func18, Tryz.ntmps18
  go_wp2_with (fail)
  refine HI.out.mono ?_
  rintro e w1 ⟨rfl, hb1⟩
  have HB1 := Lib.hid hb1
  clear hb1
  go_wp2_with (fail)
  go_ret
  exact ⟨rfl, HB1.out⟩
end Go.Proofs.YtjfjmlmnilmihaaGreatDoor
