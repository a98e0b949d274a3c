/- grown of offices: what a note has become up to a moment. -/
import Derived.Test.YtnnncddjcdjhoaaGreatDoorOfB
namespace Go.Proofs.YtnnncddjcdjhoaaGreatDoor
open Go.RowKit

def stM (v : Option Value) : Nat :=
  match v with
  | some (.int _ s) => if 3 ≤ s then 0 else if s = 2 then 2 else 1
  | _ => 0
theorem stM_step (p : Po) (n : On) (h : enB n.s = false) : stM (some (.int .i64 (stN p n).s)) < stM (some (.int .i64 n.s)) := by
  unfold enB at h
  have h3 : ¬ 3 ≤ n.s := by simpa using h
  unfold stM
  simp only
  rcases stN_s p n with k | k | ⟨k, k2, _⟩
  · rw [k, if_pos (by omega), if_neg h3]; split <;> omega
  · rw [k, if_pos (by omega), if_neg h3]; split <;> omega
  · rw [k, k2]; decide
theorem st_bound (p : Po) (hp : PoOk p) {n : On} (ol : OlOk n.l) (hc : 0 ≤ n.c ∧ n.c ≤ 100000000) : 0 ≤ (stN p n).c ∧ (stN p n).c ≤ 100000000 := by
  rw [stN_c]
  have := ol.un
  have := ol.at0
  have := hp.tmo
  have := tuN_le p n
  unfold tuN at *
  split <;> omega
set_option maxRecDepth 100000 in
set_option maxHeartbeats 4000000 in
theorem grown_any (w : World) (o m ck : Nat) (M : Mp) (p : Po) (tm a : Int) (n : On) (h : OfI w o m ck M p tm) (hp : PoOk p) (ol : OlOk n.l) (hc : 0 ≤ n.c ∧ n.c ≤ 100000000) :
    Calls Tryz.prog 76 #[.pointer (some ⟨o, 0, none⟩), onV n, .int .i64 a] w fun e w' => e = .returned (onV (gro p n a)) ∧ Below w.heap.size w w' := by
  obtain ⟨g, eg⟩ : ∃ g, g = w.heap.size := ⟨_, rfl⟩
  obtain ⟨r, er⟩ : ∃ r, r = w.heap.size + 1 := ⟨_, rfl⟩
  obtain ⟨w0, e0⟩ : ∃ V, V = (w.alloc (onB n)).alloc (.cells #[.string ⟨#[]⟩, .string ⟨#[]⟩, .string ⟨#[]⟩, .int .i64 0, .int .i64 0, .int .i64 0, .int .i64 0, .int .i64 0, .int .i64 0] 40) := ⟨_, rfl⟩
  have hb1 : Below w.heap.size w (w.alloc (onB n)) := (Below.refl _ _).alloc (Nat.le_refl _) _
  have hb0 : Below w.heap.size w w0 := by rw [e0]; exact hb1.alloc hb1.size _
  have hg0 : w0.heap[g]? = some (onB n) := by rw [e0, eg]; exact (Below.heap_alloc _ _ _ (by simp)).trans (heap_new w (onB n))
  have hr0 : w0.heap[r]? = some (.cells #[.string ⟨#[]⟩, .string ⟨#[]⟩, .string ⟨#[]⟩, .int .i64 0, .int .i64 0, .int .i64 0, .int .i64 0, .int .i64 0, .int .i64 0] 40 (0, 0)) := by
    rw [e0, er]; have := heap_new (w.alloc (onB n)) (.cells #[.string ⟨#[]⟩, .string ⟨#[]⟩, .string ⟨#[]⟩, .int .i64 0, .int .i64 0, .int .i64 0, .int .i64 0, .int .i64 0, .int .i64 0] 40); simpa using this
  have HO := Lib.hid h
  have hwg : w.heap.size ≤ g := by omega
  have hwr : w.heap.size ≤ r := by omega
  have hrg : r ≠ g := by omega
  have HB0 := Lib.hid hb0
  have HG0 := Lib.hid hg0
  have HR0 := Lib.hid hr0
  have HP := Lib.hid hp
  have HL := Lib.hid ol
  clear h hb1 hb0 hg0 hr0 hp ol
  unfold onB at e0
  unfold onV
  go_enter Tryz.func76, Tryz.ntmps76
  go_wp2_with (fail)
  rw [← er, ← eg, ← e0]
  clear er eg e0
  go_loopw [7] (fun _ wr => ∃ n' : On, Hid (Below w.heap.size w wr) ∧ Hid (wr.heap[g]? = some (onB n')) ∧ Hid (wr.heap[r]? = w0.heap[r]?) ∧ Hid (gro p n' a = gro p n a) ∧ Hid (n'.l = n.l ∧ 0 ≤ n'.c ∧ n'.c ≤ 100000000)) (fun _ wr => stM (wr.cell? ⟨g, 6, none⟩))
  case atStart => exact ⟨n, HB0, HG0, Lib.hid rfl, Lib.hid rfl, Lib.hid ⟨rfl, hc⟩⟩
  case round =>
    obtain ⟨n', HB, HG, HR, HE, HC⟩ := hrel
    have hbs := HB.out.size
    have hg := HG.out
    unfold onB at hg
    have hlg := (Array.getElem?_eq_some_iff.1 hg).1
    have k0 := cell_of_blk (j := 0) hg rfl
    have k1 := cell_of_blk (j := 1) hg rfl
    have k2 := cell_of_blk (j := 2) hg rfl
    have k3 := cell_of_blk (j := 3) hg rfl
    have k4 := cell_of_blk (j := 4) hg rfl
    have k5 := cell_of_blk (j := 5) hg rfl
    have k6 := cell_of_blk (j := 6) hg rfl
    have k7 := cell_of_blk (j := 7) hg rfl
    have k8 := cell_of_blk (j := 8) hg rfl
    have K6 := Lib.hid k6
    have HE1 := Lib.hid (ended_any n'.s)
    cases hen : enB n'.s with
    | true =>
      have HN := Lib.hid (show gro p n a = n' from by rw [← HE.out, gro_end hen])
      have HRX := Lib.hid (HR.out.trans HR0.out)
      have HBX := HB
      rw [hen] at HE1
      clear hen hg
      have hr := HRX.out
      have hlr := (Array.getElem?_eq_some_iff.1 hr).1
      have f0 : ∀ j, wr.frozen? ⟨r, j, none⟩ = false := by intro j; simp [World.frozen?, hr]
      have q0 := f0 0
      have q1 := f0 1
      have q2 := f0 2
      have q3 := f0 3
      have q4 := f0 4
      have q5 := f0 5
      have q6 := f0 6
      have q7 := f0 7
      have q8 := f0 8
      have d0 := cell_of_blk (j := 0) hr rfl
      have d1 := cell_of_blk (j := 1) hr rfl
      have d2 := cell_of_blk (j := 2) hr rfl
      have d3 := cell_of_blk (j := 3) hr rfl
      have d4 := cell_of_blk (j := 4) hr rfl
      have d5 := cell_of_blk (j := 5) hr rfl
      have d6 := cell_of_blk (j := 6) hr rfl
      have d7 := cell_of_blk (j := 7) hr rfl
      have d8 := cell_of_blk (j := 8) hr rfl
      clear f0 hr
      go_wp2_with (go_at_call 77; refine (HE1.out _).mono ?_; rintro e w' ⟨rfl, rfl⟩)
      obtain ⟨W, eW⟩ : ∃ W : World, W = (((((((((wr.setCell ⟨r, 0, none⟩ (.string (idL n'.l.id))).setCell ⟨r, 1, none⟩ (.string (slL n'.l.sl))).setCell ⟨r, 2, none⟩ (.string (boL n'.l.bo))).setCell ⟨r, 3, none⟩ (.int .i64 n'.l.pr)).setCell ⟨r, 4, none⟩ (.int .i64 n'.l.at_)).setCell ⟨r, 5, none⟩ (.int .i64 n'.l.un)).setCell ⟨r, 6, none⟩ (.int .i64 n'.s)).setCell ⟨r, 7, none⟩ (.int .i64 n'.t)).setCell ⟨r, 8, none⟩ (.int .i64 n'.c)) := ⟨_, rfl⟩
      have hW := set9O wr r 40 (.string ⟨#[]⟩) (.string ⟨#[]⟩) (.string ⟨#[]⟩) (.int .i64 0) (.int .i64 0) (.int .i64 0) (.int .i64 0) (.int .i64 0) (.int .i64 0) (.string (idL n'.l.id)) (.string (slL n'.l.sl)) (.string (boL n'.l.bo)) (.int .i64 n'.l.pr) (.int .i64 n'.l.at_) (.int .i64 n'.l.un) (.int .i64 n'.s) (.int .i64 n'.t) (.int .i64 n'.c) HRX.out W eW
      rw [← eW]
      clear eW
      have r0 := cell_of_blk (j := 0) hW.1 rfl
      have r1 := cell_of_blk (j := 1) hW.1 rfl
      have r2 := cell_of_blk (j := 2) hW.1 rfl
      have r3 := cell_of_blk (j := 3) hW.1 rfl
      have r4 := cell_of_blk (j := 4) hW.1 rfl
      have r5 := cell_of_blk (j := 5) hW.1 rfl
      have r6 := cell_of_blk (j := 6) hW.1 rfl
      have r7 := cell_of_blk (j := 7) hW.1 rfl
      have r8 := cell_of_blk (j := 8) hW.1 rfl
      have HBW := Lib.hid (show Below w.heap.size w W from ⟨hW.2.os.trans HBX.out.os, hW.2.tape.trans HBX.out.tape, hW.2.output.trans HBX.out.output, by rw [hW.2.size]; exact HBX.out.size, fun b hb => (hW.2.blk b (by omega)).trans (HBX.out.block b hb)⟩)
      refine bodyPost_ret (v := .agg #[.string (idL n'.l.id), .string (slL n'.l.sl), .string (boL n'.l.bo), .int .i64 n'.l.pr, .int .i64 n'.l.at_, .int .i64 n'.l.un, .int .i64 n'.s, .int .i64 n'.t, .int .i64 n'.c]) (by simp [results, Tryz.results76, go_sem, r0, r1, r2, r3, r4, r5, r6, r7, r8]) rfl ?_
      exact ⟨by rw [HN.out], HBW.out⟩
    | false =>
      have HTU := Lib.hid (turn_any wr o m ck M p tm n' (HO.out.below HB.out) HP.out HC.out.2)
      have HEN := Lib.hid hen
      obtain ⟨du, edu⟩ : ∃ z, z = tuN p n' := ⟨_, rfl⟩
      rw [← edu] at HTU
      have HDU := Lib.hid edu
      rw [hen] at HE1
      unfold onV at HTU
      clear hen edu hg
      go_wp2_with (go_at_call 77; refine (HE1.out _).mono ?_; rintro e w' ⟨rfl, rfl⟩)
      refine HTU.out.mono ?_
      rintro e w1 ⟨rfl, hb1⟩
      have HB1 := Lib.hid (HB.out.trans (hb1.mono hbs))
      have hg1 := (hb1.block g hlg).trans HG.out
      unfold onB at hg1
      have HR1 := Lib.hid ((hb1.block r (by have := (Array.getElem?_eq_some_iff.1 (HR.out.trans HR0.out)).1; omega)).trans (HR.out.trans HR0.out))
      have HO1 := Lib.hid (HO.out.below HB1.out)
      have hlg1 : g < w1.heap.size := by have := hb1.size; omega
      clear hb1 HTU k0 k1 k2 k3 k4 k5 k6 k7 k8
      have k0 := cell_of_blk (j := 0) hg1 rfl
      have k1 := cell_of_blk (j := 1) hg1 rfl
      have k2 := cell_of_blk (j := 2) hg1 rfl
      have k3 := cell_of_blk (j := 3) hg1 rfl
      have k4 := cell_of_blk (j := 4) hg1 rfl
      have k5 := cell_of_blk (j := 5) hg1 rfl
      have k6 := cell_of_blk (j := 6) hg1 rfl
      have k7 := cell_of_blk (j := 7) hg1 rfl
      have k8 := cell_of_blk (j := 8) hg1 rfl
      have g8 : w1.frozen? ⟨g, 8, none⟩ = false := by simp [World.frozen?, hg1]
      have g6 : w1.frozen? ⟨g, 6, none⟩ = false := by simp [World.frozen?, hg1]
      have HG1 := Lib.hid hg1
      clear hg1
      by_cases had : a < du
      · have had2 : ¬ du ≤ a := by omega
        have HN := Lib.hid (show gro p n a = n' from by rw [← HE.out, gro_wait (by rw [← HDU.out]; exact had)])
        have HRX := HR1
        have HBX := HB1
        clear g8 g6
        have hr := HRX.out
        have hlr := (Array.getElem?_eq_some_iff.1 hr).1
        have f0 : ∀ j, w1.frozen? ⟨r, j, none⟩ = false := by intro j; simp [World.frozen?, hr]
        have q0 := f0 0
        have q1 := f0 1
        have q2 := f0 2
        have q3 := f0 3
        have q4 := f0 4
        have q5 := f0 5
        have q6 := f0 6
        have q7 := f0 7
        have q8 := f0 8
        have d0 := cell_of_blk (j := 0) hr rfl
        have d1 := cell_of_blk (j := 1) hr rfl
        have d2 := cell_of_blk (j := 2) hr rfl
        have d3 := cell_of_blk (j := 3) hr rfl
        have d4 := cell_of_blk (j := 4) hr rfl
        have d5 := cell_of_blk (j := 5) hr rfl
        have d6 := cell_of_blk (j := 6) hr rfl
        have d7 := cell_of_blk (j := 7) hr rfl
        have d8 := cell_of_blk (j := 8) hr rfl
        clear f0 hr
        go_wp2_with (fail)
        obtain ⟨W, eW⟩ : ∃ W : World, W = (((((((((w1.setCell ⟨r, 0, none⟩ (.string (idL n'.l.id))).setCell ⟨r, 1, none⟩ (.string (slL n'.l.sl))).setCell ⟨r, 2, none⟩ (.string (boL n'.l.bo))).setCell ⟨r, 3, none⟩ (.int .i64 n'.l.pr)).setCell ⟨r, 4, none⟩ (.int .i64 n'.l.at_)).setCell ⟨r, 5, none⟩ (.int .i64 n'.l.un)).setCell ⟨r, 6, none⟩ (.int .i64 n'.s)).setCell ⟨r, 7, none⟩ (.int .i64 n'.t)).setCell ⟨r, 8, none⟩ (.int .i64 n'.c)) := ⟨_, rfl⟩
        have hW := set9O w1 r 40 (.string ⟨#[]⟩) (.string ⟨#[]⟩) (.string ⟨#[]⟩) (.int .i64 0) (.int .i64 0) (.int .i64 0) (.int .i64 0) (.int .i64 0) (.int .i64 0) (.string (idL n'.l.id)) (.string (slL n'.l.sl)) (.string (boL n'.l.bo)) (.int .i64 n'.l.pr) (.int .i64 n'.l.at_) (.int .i64 n'.l.un) (.int .i64 n'.s) (.int .i64 n'.t) (.int .i64 n'.c) HRX.out W eW
        rw [← eW]
        clear eW
        have r0 := cell_of_blk (j := 0) hW.1 rfl
        have r1 := cell_of_blk (j := 1) hW.1 rfl
        have r2 := cell_of_blk (j := 2) hW.1 rfl
        have r3 := cell_of_blk (j := 3) hW.1 rfl
        have r4 := cell_of_blk (j := 4) hW.1 rfl
        have r5 := cell_of_blk (j := 5) hW.1 rfl
        have r6 := cell_of_blk (j := 6) hW.1 rfl
        have r7 := cell_of_blk (j := 7) hW.1 rfl
        have r8 := cell_of_blk (j := 8) hW.1 rfl
        have HBW := Lib.hid (show Below w.heap.size w W from ⟨hW.2.os.trans HBX.out.os, hW.2.tape.trans HBX.out.tape, hW.2.output.trans HBX.out.output, by rw [hW.2.size]; exact HBX.out.size, fun b hb => (hW.2.blk b (by omega)).trans (HBX.out.block b hb)⟩)
        refine bodyPost_ret (v := .agg #[.string (idL n'.l.id), .string (slL n'.l.sl), .string (boL n'.l.bo), .int .i64 n'.l.pr, .int .i64 n'.l.at_, .int .i64 n'.l.un, .int .i64 n'.s, .int .i64 n'.t, .int .i64 n'.c]) (by simp [results, Tryz.results76, go_sem, r0, r1, r2, r3, r4, r5, r6, r7, r8]) rfl ?_
        exact ⟨by rw [HN.out], HBW.out⟩
      · have had2 : du ≤ a := by omega
        have HX8 := Lib.hid (setblkO (j := 8) (.int .i64 du) HG1.out)
        have o2 := cell_of_blk (j := 2) HO1.out.blk rfl
        have hlo := HO1.out.lt
        have hog : o ≠ g := by have := HO.out.lt; omega
        have HEQ := Lib.hid (show gro p (stN p n') a = gro p n a from by rw [← gro_step HEN.out (by rw [← HDU.out]; exact had2), HE.out])
        have HCB := Lib.hid (show (stN p n').l = n.l ∧ 0 ≤ (stN p n').c ∧ (stN p n').c ≤ 100000000 from ⟨by rw [stN_l]; exact HC.out.1, st_bound p HP.out (by rw [HC.out.1]; exact HL.out) HC.out.2⟩)
        have HME := Lib.hid (stM_step p n' HEN.out)
        have HFR := Lib.hid (fun (s : Int) (W : World) (hW : W.heap = ((w1.setCell ⟨g, 8, none⟩ (.int .i64 du)).setCell ⟨g, 6, none⟩ (.int .i64 s)).heap) (h1 : W.os = w1.os) (h2 : W.tape = w1.tape) (h3 : W.output = w1.output) (hs : s = (stN p n').s) => show ∃ n2 : On, Hid (Below w.heap.size w W) ∧ Hid (W.heap[g]? = some (onB n2)) ∧ Hid (W.heap[r]? = w0.heap[r]?) ∧ Hid (gro p n2 a = gro p n a) ∧ Hid (n2.l = n.l ∧ 0 ≤ n2.c ∧ n2.c ≤ 100000000) ∧ stM (W.cell? ⟨g, 6, none⟩) < stM (some (.int .i64 n'.s)) from by
          have h6 : W.heap[g]? = some (onB (stN p n')) := by
            rw [hW, setblkO (j := 6) (.int .i64 s) HX8.out, hs]
            unfold onB
            rw [stN_l, stN_t, stN_c, ← HDU.out]
            rfl
          refine ⟨stN p n', Lib.hid ?_, Lib.hid h6, Lib.hid ?_, HEQ, HCB, ?_⟩
          · exact ⟨h1.trans HB1.out.os, h2.trans HB1.out.tape, h3.trans HB1.out.output, by rw [hW]; simp [World.setCell]; exact HB1.out.size, fun b hb => by rw [hW, setcO _ _ _ _ _ (by omega), setcO _ _ _ _ _ (by omega)]; exact HB1.out.block b hb⟩
          · rw [hW, setcO _ _ _ _ _ hrg, setcO _ _ _ _ _ hrg, HR1.out, HR0.out]
          · have h7 := cell_of_blk (j := 6) h6 rfl
            rw [h7]
            exact HME.out)
        clear HC HE HB HG HR HE1
        by_cases hdu : du = n'.l.un
        · have hdu2 : (du == n'.l.un) = true := by simpa using hdu
          have HS := Lib.hid (show (5 : Int) = (stN p n').s from by unfold stN; simp only; rw [if_pos (by rw [← HDU.out]; exact hdu)])
          clear hdu
          go_wp2_with (fail)
          go_roundw
          case rel => obtain ⟨n2, x1, x2, x3, x4, x5, _⟩ := HFR.out 5 _ rfl (by simp only [World.setCell]) (by simp only [World.setCell]) (by simp only [World.setCell]) HS.out; exact ⟨n2, x1, x2, x3, x4, x5⟩
          case measure => obtain ⟨n2, x1, x2, x3, x4, x5, x6⟩ := HFR.out 5 _ rfl (by simp only [World.setCell]) (by simp only [World.setCell]) (by simp only [World.setCell]) HS.out; rw [K6.out]; exact x6
        · have hdu2 : (du == n'.l.un) = false := by simpa using hdu
          have hx8 := HX8.out
          have HO2 := Lib.hid (HO1.out.keep (setcO w1 g 8 (.int .i64 du) o hog) (setcO w1 g 8 (.int .i64 du) m (by have := HO1.out.map.lt; have := HO.out.map.lt; omega)))
          go_upto_region 8 with (fail)
          clear k0 k1 k2 k3 k4 k5 k6 k7 k8 g8 g6 o2
          obtain ⟨W1, eW1⟩ : ∃ V : World, V = w1.setCell ⟨g, 8, none⟩ (.int .i64 du) := ⟨_, rfl⟩
          rw [← eW1] at hx8 HFR HO2 ⊢
          have HOT := Lib.hid (show W1.os = w1.os ∧ W1.tape = w1.tape ∧ W1.output = w1.output from by rw [eW1]; exact ⟨by simp only [World.setCell], by simp only [World.setCell], by simp only [World.setCell]⟩)
          clear eW1
          have k6 := cell_of_blk (j := 6) hx8 rfl
          have k7 := cell_of_blk (j := 7) hx8 rfl
          have g6 : W1.frozen? ⟨g, 6, none⟩ = false := by simp [World.frozen?, hx8]
          have o2 := cell_of_blk (j := 2) HO2.out.blk rfl
          have hlg2 := (Array.getElem?_eq_some_iff.1 hx8).1
          have hlo2 := HO2.out.lt
          have HDR := Lib.hid (fun (s : Int) (q : Nat) (hs : s = (stN p n').s) => HFR.out s ((W1.drewN q).setCell ⟨g, 6, none⟩ (.int .i64 s)) (by simp only [World.setCell]; rfl) (by simp only [World.setCell]; exact HOT.out.1) (by simp only [World.setCell]; exact HOT.out.2.1) (by simp only [World.setCell]; exact HOT.out.2.2) hs)
          clear HFR hx8 HX8
          by_cases htr : n'.t = p.tri
          · have htr2 : (n'.t == p.tri) = true := by simpa using htr
            have HS := Lib.hid (show (7 : Int) = (stN p n').s from by unfold stN; simp only; rw [if_neg (by rw [← HDU.out]; exact hdu), if_pos htr])
            clear htr hdu
            go_quiet (fail)
            go_wp2_with (fail)
            go_roundw
            case rel => obtain ⟨n2, x1, x2, x3, x4, x5, _⟩ := HDR.out 7 _ HS.out; exact ⟨n2, x1, x2, x3, x4, x5⟩
            case measure => obtain ⟨n2, x1, x2, x3, x4, x5, x6⟩ := HDR.out 7 _ HS.out; rw [K6.out]; exact x6
          · have htr2 : (n'.t == p.tri) = false := by simpa using htr
            have HS := Lib.hid (show (1 : Int) = (stN p n').s from by unfold stN; simp only; rw [if_neg (by rw [← HDU.out]; exact hdu), if_neg htr])
            clear htr hdu
            go_quiet (fail)
            go_wp2_with (fail)
            go_roundw
            case rel => obtain ⟨n2, x1, x2, x3, x4, x5, _⟩ := HDR.out 1 _ HS.out; exact ⟨n2, x1, x2, x3, x4, x5⟩
            case measure => obtain ⟨n2, x1, x2, x3, x4, x5, x6⟩ := HDR.out 1 _ HS.out; rw [K6.out]; exact x6
end Go.Proofs.YtnnncddjcdjhoaaGreatDoor
