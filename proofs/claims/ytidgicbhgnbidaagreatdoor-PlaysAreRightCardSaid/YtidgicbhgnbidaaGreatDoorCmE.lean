/- begin by its contract: waves begin up to a moment. -/
import Derived.Test.YtidgicbhgnbidaaGreatDoorCmD
import Derived.Deep.LoopGhost
namespace Go.Proofs.YtidgicbhgnbidaaGreatDoor
open Go.RowKit

/-- What the state's cells hold, and those of what it points to. -/
theorem StI.look {B : Nat} {C : Cm} {F : List Dv} {wvN : Nat → Nat} {a : StA} {s : St} {w : World} (h : StI B C F wvN a s w) (N : Nat) (hN : N = C.ws.length) : ∃ A c, w.heap[a.s]? = some (.cells #[.pointer (some ⟨a.c, 0, none⟩), .map (some a.mo), .map (some a.mw), .slice (some ⟨a.bo, 0, none⟩) N N, .slice (some ⟨a.be, 0, none⟩) N N, .slice (some ⟨a.bf, 0, none⟩) N N, .slice A s.be.length c, .int .i64 s.sp, .int .i64 s.nx] 165 (0, 0)) ∧
    w.heap[a.c]? = some (.cells #[.string (ckT C.key), .int .i64 C.t.a, .int .i64 C.t.b, .int .i64 C.t.c, .int .i64 C.at_, .slice C.wa N C.wc, .int .i64 C.h0, .int .i64 C.h1, .int .i64 C.rm] 53 (0, 0)) ∧
    w.ownsRow B 3 1 (.slice A s.be.length c) s.be.length (recs inC s.be) ∧ ∀ b, (Value.slice A s.be.length c).ownBlock = some b → b ∉ a.all := by
  obtain ⟨A, c, h1, h2, h3⟩ := h.st
  have h4 := h.cm
  unfold sttB at h1
  unfold cmB at h4
  rw [← hN] at h1 h4
  exact ⟨A, c, h1, h4, h2, h3⟩
theorem in_rec {l : List Int} {k : Nat} (hk : k < l.length) : (recs inC l)[k]? = some (.int .i64 (l.getD k 0)) := by
  have h1 : ∀ l : List Int, recs inC l = l.map (Value.int .i64) := by
    intro l
    induction l with
    | nil => rfl
    | cons x l ih => show inC x ++ recs inC l = _; rw [ih]; rfl
  rw [h1, List.getElem?_map, List.getD_eq_getElem?_getD, List.getElem?_eq_getElem hk]
  rfl
/-- One more wave began. -/
theorem StI.app {B : Nat} {C : Cm} {F : List Dv} {wvN : Nat → Nat} {a : StA} {s : St} {w w1 : World} (h : StI B C F wvN a s w) (hlc : s.cs.length = F.length) {A A' : Option Addr} {c c' : Nat} {x : Int} (hs : w.heap[a.s]? = some (sttB a C s A c)) (hn : ∀ b, (Value.slice A s.be.length c).ownBlock = some b → b ∉ a.all)
    (ho : w1.ownsRow B 3 1 (.slice A' (s.be.length + 1) c') (s.be.length + 1) (recs inC (s.be ++ [x]))) (hg : w.grownBy w1 (Value.slice A s.be.length c).ownBlock) (hm : Moved w (.slice A s.be.length c) (.slice A' (s.be.length + 1) c')) (hB : ∀ b, (Value.slice A s.be.length c).ownBlock = some b → B ≤ b) :
    StI B C F wvN a { s with be := s.be ++ [x], nx := -1 } ((w1.setCell ⟨a.s, 6, none⟩ (.slice A' (s.be.length + 1) c')).setCell ⟨a.s, 8, none⟩ (.int .i64 (-1))) ∧ Below B w ((w1.setCell ⟨a.s, 6, none⟩ (.slice A' (s.be.length + 1) c')).setCell ⟨a.s, 8, none⟩ (.int .i64 (-1))) := by
  have hall := h.lt hlc
  have hk : ∀ b o, b ∈ a.all → w.heap[b]? = some o → w1.heap[b]? = some o := fun b o hb ho => (hg.block b (hall b hb) (fun e => hn b e.symm hb)).trans ho
  obtain ⟨m1, m2, m3, m4, m5, m6, m7⟩ := StA.mem a
  have hb1 : Below B w w1 := ⟨hg.os, hg.tape, hg.output, hg.size, fun b hb => hg.block b (Nat.lt_of_lt_of_le hb h.sz) (fun e => by have := hB b e.symm; omega)⟩
  have hn' : ∀ b, (Value.slice A' (s.be.length + 1) c').ownBlock = some b → b ∉ a.all := by
    intro b hb hmem
    rcases hm with hm | ⟨g, h1, h2⟩
    · exact hn b (by rw [← hm]; exact hb) hmem
    · have := hall b hmem
      have e : some g = some b := h1.symm.trans hb
      injection e with e
      omega
  have hs1 := hk _ _ m1 hs
  unfold sttB at hs1
  have hgs := h.ge a.s m1
  have hI1 : StI B C F wvN a s w1 → True := fun _ => trivial
  have hkk : ∀ b, b ≠ a.s → ((w1.setCell ⟨a.s, 6, none⟩ (.slice A' (s.be.length + 1) c')).setCell ⟨a.s, 8, none⟩ (.int .i64 (-1))).heap[b]? = w1.heap[b]? := fun b hb => (setK _ _ b hb).trans (setK _ _ b hb)
  obtain ⟨n1, n2, n3, n4, n5, n6, _⟩ := StA.neg h.nd
  refine ⟨⟨h.nd, h.ge, h.lb, by rw [setSz, setSz]; exact Nat.le_trans h.sz hg.size, h.ws.keep fun b hb => (hkk b (by omega)).trans (hb1.block b hb), ⟨A', c', ?_, ?_, ?_⟩, (hkk _ n1.symm).trans (hk _ _ m2 h.cm), (hkk _ n2.symm).trans (hk _ _ m3 h.of_), (hkk _ n3.symm).trans (hk _ _ m4 h.wv), fun i b y h4 h5 => (hkk _ (StA.cne h.nd h4).1.symm).trans (hk _ _ (StA.cmem h4) (h.cu i b y h4 h5)), (hkk _ n4.symm).trans (hk _ _ m5 h.op), (hkk _ n5.symm).trans (hk _ _ m6 h.en), (hkk _ n6.symm).trans (hk _ _ m7 h.fa)⟩, (hb1.setCell (p := ⟨a.s, 6, none⟩) hgs _).setCell (p := ⟨a.s, 8, none⟩) hgs _⟩
  · have h6 := (setblkV (j := 6) (.slice A' (s.be.length + 1) c') hs1).trans rfl
    have h8 := (setblkV (j := 8) (.int .i64 (-1)) h6).trans rfl
    unfold sttB
    rw [show ({ s with be := s.be ++ [x], nx := -1 } : St).be.length = s.be.length + 1 from by show (s.be ++ [x]).length = _; rw [List.length_append]; rfl]
    exact h8
  · rw [show ({ s with be := s.be ++ [x], nx := -1 } : St).be.length = s.be.length + 1 from by show (s.be ++ [x]).length = _; rw [List.length_append]; rfl]
    exact own_keepS ho fun b hb => hkk b (fun e => hn' b hb (e ▸ m1))
  · rw [show ({ s with be := s.be ++ [x], nx := -1 } : St).be.length = s.be.length + 1 from by show (s.be ++ [x]).length = _; rw [List.length_append]; rfl]
    exact hn'
set_option maxRecDepth 100000 in
set_option maxHeartbeats 8000000 in
theorem begin_any (C : Cm) (F : List Dv) (wvN : Nat → Nat) (a : StA) (s : St) (B n : Nat) (t : Int) (w : World) (hC : CmOk C) (hS : StO C F n s) (hI : StI B C F wvN a s w) (ht : -1 ≤ t ∧ t ≤ 1000000) :
    Calls Tryz.prog 65 #[.pointer (some ⟨a.s, 0, none⟩), .int .i64 t] w fun e w' => e = .returned (.tuple #[]) ∧ StI B C F wvN a (bgA C t s) w' ∧ Below B w w' := by
  obtain ⟨N, hN⟩ : ∃ N, N = C.ws.length := ⟨_, rfl⟩
  have hN3 : 1 ≤ N ∧ N ≤ 3 := by rw [hN]; exact hC.n
  obtain ⟨ii0, hii0, hzi0, hzi1, hzi2⟩ := info_parts Tryz.infoIn
  have HN := Lib.hid hN
  have HC := Lib.hid hC
  have HS := Lib.hid hS
  have HI := Lib.hid hI
  obtain ⟨ht1, ht2⟩ := ht
  obtain ⟨z, ez⟩ : ∃ z, z = bgA C t s := ⟨_, rfl⟩
  have HZ := Lib.hid (show bgV C t 5 s = z from by rw [ez]; rfl)
  rw [← ez]
  clear hC hS hI hN ez
  go_enter Tryz.func65, Tryz.ntmps65
  go_wp2_with (fail)
  go_loopg [] 5 (fun gk wr => ∃ s1 : St, Hid (StI B C F wvN a s1 wr ∧ StO C F n s1 ∧ bgV C t gk s1 = z ∧ N < s1.be.length + gk ∧ Below B w wr))
  case atStart => exact ⟨s, Lib.hid ⟨HI.out, HS.out, HZ.out, by omega, Below.refl _ _⟩⟩
  case round =>
    obtain ⟨s1, HQ⟩ := hrel
    obtain ⟨A, c, hs, hcm, hown, hnot⟩ := HQ.out.1.look N HN.out
    obtain ⟨K, eK⟩ : ∃ K, K = s1.be.length := ⟨_, rfl⟩
    have hbn := HQ.out.2.1.bn
    rw [← HN.out, ← eK] at hbn
    obtain ⟨nx, enx⟩ : ∃ v, v = s1.nx := ⟨_, rfl⟩
    obtain ⟨sp, esp⟩ : ∃ v, v = s1.sp := ⟨_, rfl⟩
    have hnx := HQ.out.2.1.nx
    rw [← enx] at hnx
    rw [← eK, ← enx, ← esp] at hs
    rw [← eK] at hown hnot
    have HE := Lib.hid (show K = s1.be.length ∧ nx = s1.nx ∧ sp = s1.sp from ⟨eK, enx, esp⟩)
    have p6 := cell_of_blk (j := 6) hs rfl
    have hls := (Array.getElem?_eq_some_iff.1 hs).1
    have HST := Lib.hid hs
    have HCM := Lib.hid hcm
    have HOW := Lib.hid hown
    have HNOT := Lib.hid hnot
    have hlc := (Array.getElem?_eq_some_iff.1 hcm).1
    clear eK enx esp hown hnot
    go_upto_region 1 with (fail)
    have p0 := cell_of_blk (j := 0) hs rfl
    have p3 := cell_of_blk (j := 3) hs rfl
    have p8 := cell_of_blk (j := 8) hs rfl
    have c5 := cell_of_blk (j := 5) hcm rfl
    obtain ⟨ov, eov⟩ : ∃ v, v = s1.op.getD (K - 1) 0 := ⟨_, rfl⟩
    obtain ⟨bv, ebv⟩ : ∃ v, v = s1.be.getD (K - 1) 0 := ⟨_, rfl⟩
    have HOB := Lib.hid (And.intro eov ebv)
    clear eov ebv
    obtain ⟨bb, ebb⟩ : ∃ b, b = decide (nx < 0 ∧ 0 < K ∧ K < N ∧ ov = 0 ∧ bv ≤ t) := ⟨_, rfl⟩
    have HBB := Lib.hid (show bb = true ↔ (nx < 0 ∧ 0 < K ∧ K < N ∧ ov = 0 ∧ bv ≤ t) from by rw [ebb]; exact decide_eq_true_iff)
    clear hs hcm ebb
    go_cut [54] (fun s wx => s = .bool bb ∧ wr = wx)
    case first =>
      by_cases a1 : nx < 0
      · by_cases a2 : 0 < K
        · obtain ⟨K', rfl⟩ : ∃ K', K = K' + 1 := ⟨K - 1, by omega⟩
          have a2I : (0 : Int) < (K' : Int) + 1 := by omega
          by_cases a3 : K' + 1 < N
          · have a3I : (K' : Int) + 1 < (N : Int) := by omega
            have ho : wr.cell? ⟨a.bo, K', none⟩ = some (.int .i64 ov) := by rw [HOB.out.1, Nat.add_sub_cancel]; exact inB_cell HQ.out.1.op (by have := HQ.out.2.1.lo; have := HN.out; omega)
            have hlo := World.block_lt_of_cell? wr _ ho
            simp only at hlo
            have hK1 : IntKind.i64.wrap ((K' : Int) + 1 - 1) = (K' : Int) := by rw [IntKind.wrap_i64]; omega
            have hK2 : IntKind.i64.wrap (K' : Int) = (K' : Int) := by rw [IntKind.wrap_i64]; omega
            have hKN : K' < N := by omega
            have hKNI : (K' : Int) < (N : Int) := by omega
            by_cases a4 : ov = 0
            · rw [a4] at ho
              have HA4 := Lib.hid a4
              clear a4
              have hbr : ∃ b o, A = some ⟨b, o, none⟩ ∧ b < wr.heap.size ∧ wr.cell? ⟨b, o + K', none⟩ = some (.int .i64 bv) := by
                obtain ⟨b, o, e1, e2, e3⟩ := (own_row HOW.out).posR inC_len (by omega) (by have := HE.out.1; omega)
                exact ⟨b, o, e1, e2, by rw [HOB.out.2, Nat.add_sub_cancel]; exact e3 K' _ (in_rec (by have := HE.out.1; omega))⟩
              obtain ⟨b, o, rfl, hbl, hbc⟩ := hbr
              have hKN2 : K' < K' + 1 := by omega
              have hKNI2 : (K' : Int) < (K' : Int) + 1 := by omega
              by_cases a5 : bv ≤ t
              · go_wp2_with (fail)
                go_meet
                exact ⟨by rw [show bb = true from HBB.out.2 ⟨by omega, by omega, by omega, HA4.out, by omega⟩], rfl⟩
              · go_wp2_with (fail)
                go_meet
                exact ⟨by rw [show bb = false from Bool.eq_false_iff.2 (fun h => absurd (HBB.out.1 h).2.2.2.2 (by omega))], rfl⟩
            · go_wp2_with (fail)
              go_meet
              exact ⟨by rw [show bb = false from Bool.eq_false_iff.2 (fun h => absurd (HBB.out.1 h).2.2.2.1 (by omega))], rfl⟩
          · go_wp2_with (fail)
            go_meet
            exact ⟨by rw [show bb = false from Bool.eq_false_iff.2 (fun h => absurd (HBB.out.1 h).2.2.1 (by omega))], rfl⟩
        · obtain rfl : K = 0 := by omega
          go_wp2_with (fail)
          go_meet
          exact ⟨by rw [show bb = false from Bool.eq_false_iff.2 (fun h => absurd (HBB.out.1 h).2.1 (by omega))], rfl⟩
      · go_wp2_with (fail)
        go_meet
        exact ⟨by rw [show bb = false from Bool.eq_false_iff.2 (fun h => absurd (HBB.out.1 h).1 (by omega))], rfl⟩
    case rest =>
    obtain ⟨rfl, rfl⟩ := hcut
    clear p6
    go_upto_if 54 with (fail)
    obtain ⟨nx2, enx2⟩ : ∃ v, v = nxV C t s1 := ⟨_, rfl⟩
    have HX2 := Lib.hid enx2
    clear enx2
    go_cut [] (fun wx => StI B C F wvN a { s1 with nx := nx2 } wx ∧ Below B wr wx)
    case first =>
      cases bb with
      | true =>
        have HT := Lib.hid (HBB.out.1 rfl)
        have hk3 : K < N := HT.out.2.2.1
        have hk3I : (K : Int) < (N : Int) := by omega
        obtain ⟨x, hx⟩ : ∃ x, C.ws[K]? = some x := ⟨_, List.getElem?_eq_getElem (by have := HN.out; omega)⟩
        have hxo := (HC.out.w x (List.mem_of_getElem? hx)).wt
        obtain ⟨x3, x4⟩ := hxo
        obtain ⟨b, o, ewa, hbw, hCl⟩ := HQ.out.1.ws.posR wvC_len (by omega) (by have := HN.out; omega)
        have hbr : b < wr.heap.size := by have := HQ.out.1.sz; omega
        have e1 : wr.cell? ⟨b, o + K * 4 + 1, none⟩ = some (.int .i64 x.wt) := rec_cell wvC_len hCl K x hx 1 _ rfl
        have HNX := Lib.hid (show nx2 = t + x.wt from by
          rw [HX2.out]
          unfold nxV
          rw [if_pos (by
            have h := HT.out
            rw [HOB.out.1, HOB.out.2, HE.out.2.1, HE.out.1, HN.out] at h
            exact h)]
          unfold wtV
          rw [← HE.out.1, hx]; rfl)
        have HSN := Lib.hid (HQ.out.1.setNx (t + x.wt))
        have kf : wr.frozen? ⟨a.s, 8, none⟩ = false := by simp [World.frozen?, HST.out]
        rw [ewa] at c5
        clear hCl hx
        go_wp2_with (fail)
        go_meet
        refine ⟨by rw [HNX.out]; exact HSN.out, (Below.refl _ _).setCell (HQ.out.1.ge _ (StA.mem a).1) _⟩
      | false =>
        have HNX := Lib.hid (show nx2 = s1.nx from by
          rw [HX2.out]
          unfold nxV
          rw [if_neg (fun h => by
            rw [← HE.out.2.1, ← HE.out.1, ← HN.out, ← HOB.out.1, ← HOB.out.2] at h
            cases (HBB.out.2 h))])
        go_wp2_with (fail)
        go_meet
        exact ⟨by rw [HNX.out]; exact HQ.out.1, Below.refl _ _⟩
    case rest =>
    obtain ⟨hi2, hb2⟩ := hcut
    obtain ⟨w2, rfl⟩ : ∃ wy : World, wy = wc := ⟨_, rfl⟩
    have HI2 := Lib.hid hi2
    have HB2 := Lib.hid hb2
    obtain ⟨g', rfl⟩ : ∃ g', gk = g' + 1 := ⟨gk - 1, by have := HQ.out.2.2.2.1; have := HE.out.1; omega⟩
    obtain ⟨st, est⟩ : ∃ b, b = stopV t s1 nx2 := ⟨_, rfl⟩
    have HSTP := Lib.hid (show st = true ↔ (nx2 < 0 ∨ t < nx2 ∨ (0 < K ∧ 0 ≤ sp ∧ sp ≤ nx2)) from by
      rw [est, HE.out.1, HE.out.2.2]
      unfold stopV
      simp only [Bool.or_eq_true, Bool.and_eq_true, decide_eq_true_eq])
    have HNX := Lib.hid (show (st = true → z = { s1 with nx := nx2 }) ∧ (st = false → bgV C t g' (begV C s1 nx2) = z) from by
      have h := HQ.out.2.2.1
      rw [bgV_succ, ← HX2.out, ← est] at h
      constructor
      · intro e; rw [e, if_pos rfl] at h; exact h.symm
      · intro e; rw [e, if_neg (by decide)] at h; exact h)
    obtain ⟨A2, c2, hs2, hcm2, hown2, hnot2⟩ := hi2.look N HN.out
    have e2 : ({ s1 with nx := nx2 } : St).be.length = K := HE.out.1.symm
    rw [e2] at hs2 hown2 hnot2
    have e3 : ({ s1 with nx := nx2 } : St).sp = sp := HE.out.2.2.symm
    have e4 : ({ s1 with nx := nx2 } : St).nx = nx2 := rfl
    rw [e3, e4] at hs2
    have HS2 := Lib.hid hs2
    have HCM2 := Lib.hid hcm2
    have HOW2 := Lib.hid hown2
    have HNOT2 := Lib.hid hnot2
    have hls2 := (Array.getElem?_eq_some_iff.1 hs2).1
    have hlc2 := (Array.getElem?_eq_some_iff.1 hcm2).1
    have r7 := cell_of_blk (j := 7) hs2 rfl
    have r8 := cell_of_blk (j := 8) hs2 rfl
    clear hi2 hb2 est hs2 hcm2 hown2 hnot2 e2 e3 e4 p0 p3 p8 c5 hls hlc HST HCM HOW HNOT
    go_upto_region 3 with (fail)
    go_cut [105] (fun s wx => s = .bool st ∧ Below w2.heap.size w2 wx)
    case first =>
      by_cases a1 : nx2 < 0
      · go_quiet (fail)
        go_wp2_with (fail)
        go_meet
        exact ⟨by rw [show st = true from HSTP.out.2 (.inl (by omega))], below_drewC (Below.refl _ _) _⟩
      · by_cases a2 : t < nx2
        · go_quiet (fail)
          go_wp2_with (fail)
          go_meet
          exact ⟨by rw [show st = true from HSTP.out.2 (.inr (.inl (by omega)))], below_drewC (Below.refl _ _) _⟩
        · by_cases a3 : 0 < K
          · have a3I : (0 : Int) < (K : Int) := by omega
            have a3d : decide ((0 : Int) < (K : Int)) = true := decide_eq_true a3I
            by_cases a4 : 0 ≤ sp
            · by_cases a5 : sp ≤ nx2
              · go_quiet (fail)
                go_wp2_with (fail)
                go_meet
                exact ⟨by rw [show st = true from HSTP.out.2 (.inr (.inr ⟨by omega, by omega, by omega⟩))], below_drewC (Below.refl _ _) _⟩
              · go_quiet (fail)
                go_wp2_with (fail)
                go_meet
                exact ⟨by rw [show st = false from Bool.eq_false_iff.2 (fun h => absurd (HSTP.out.1 h) (by omega))], below_drewC (Below.refl _ _) _⟩
            · go_quiet (fail)
              go_wp2_with (fail)
              go_meet
              exact ⟨by rw [show st = false from Bool.eq_false_iff.2 (fun h => absurd (HSTP.out.1 h) (by omega))], below_drewC (Below.refl _ _) _⟩
          · obtain rfl : K = 0 := by omega
            go_quiet (fail)
            go_wp2_with (fail)
            go_meet
            exact ⟨by rw [show st = false from Bool.eq_false_iff.2 (fun h => absurd (HSTP.out.1 h) (by omega))], below_drewC (Below.refl _ _) _⟩
    case rest =>
    obtain ⟨rfl, hb3⟩ := hcut
    obtain ⟨w3, rfl⟩ : ∃ wy : World, wy = wc := ⟨_, rfl⟩
    have HI3 := Lib.hid (HI2.out.below hb3)
    have HB3 := Lib.hid (show Below B w w3 from (HQ.out.2.2.2.2.trans HB2.out).trans (hb3.mono HI2.out.sz))
    have hs3 := (hb3.block a.s hls2).trans HS2.out
    have hcm3 := (hb3.block a.c hlc2).trans HCM2.out
    have HOW3 := Lib.hid (own_keepS HOW2.out fun b hb => hb3.block b (own_ltS HOW2.out hb).2)
    clear r7 r8 hls2 hlc2 hb3
    cases st with
    | true =>
      have HF := Lib.hid (HNX.out.1 rfl)
      go_wp2_with (fail)
      refine bodyPost_ret (v := .tuple #[]) (by simp [results, Tryz.results65, go_sem]) rfl ?_
      exact ⟨rfl, by rw [HF.out]; exact HI3.out, HB3.out⟩
    | false =>
      have HNS := Lib.hid (show ¬ (nx2 < 0) ∧ nx2 ≤ t from by
        refine ⟨fun h => ?_, Int.not_lt.1 (fun h => ?_)⟩
        · cases (HSTP.out.2 (.inl h))
        · cases (HSTP.out.2 (.inr (.inl h))))
      have HKN := Lib.hid (show K < N from by
        have h := (nxV_range HC.out HQ.out.2.1 ht2 ht1).2.2
        rw [← HX2.out, ← HE.out.1, ← HN.out] at h
        exact h (by have := HNS.out.1; omega))
      have HBEG := Lib.hid (show StO C F n (begV C s1 nx2) from by
        have h := (HQ.out.2.1.beg HC.out ht2 ht1 (Bool.eq_false_iff.2 (fun h => by
          unfold stopV at h
          simp only [Bool.or_eq_true, Bool.and_eq_true, decide_eq_true_eq] at h
          rw [← HX2.out, ← HE.out.1, ← HE.out.2.2] at h
          cases (HSTP.out.2 h)))).1
        rw [← HX2.out] at h
        exact h)
      have HLC := Lib.hid HQ.out.2.1.lc
      have q6 := cell_of_blk (j := 6) hs3 rfl
      have q8 := cell_of_blk (j := 8) hs3 rfl
      have hls3 := (Array.getElem?_eq_some_iff.1 hs3).1
      have HS3 := Lib.hid hs3
      have HCM3 := Lib.hid hcm3
      have hKN := HKN.out
      have hB3 := HI3.out.sz
      clear hs3 hcm3
      obtain ⟨w4, e4⟩ : ∃ V : World, V = w3.alloc (.cells #[.int .i64 nx2] 3) := ⟨_, rfl⟩
      have hb4 : Below w3.heap.size w3 w4 := by rw [e4]; exact (Below.refl _ _).alloc (Nat.le_refl _) _
      have HI4 := Lib.hid (HI3.out.below hb4)
      have HS4 := Lib.hid ((hb4.block a.s hls3).trans HS3.out)
      have HAL := Lib.hid (own_keepS HOW3.out fun b hb => hb4.block b (own_ltS HOW3.out hb).2)
      have HB4 := Lib.hid (HB3.out.trans (hb4.mono hB3))
      have hB4 : B ≤ w4.heap.size := by have := hb4.size; omega
      have HCC := Lib.hid (show Cells w4 w3.heap.size 0 (inC nx2) from by rw [e4]; exact Cells.new _ _ _ _ _ rfl)
      go_upto_region 5 with (fail)
      clear q6 q8
      have q6 := cell_of_blk (j := 6) HS3.out rfl
      have hls4 := (Array.getElem?_eq_some_iff.1 HS4.out).1
      have HE4 := Lib.hid e4
      clear hb4 e4
      go_wp2_with (at_builtin; rw [← HE4.out]; refine wpList_append_own2 _ rfl _ _ 22 rfl B 3 ii0 _ 1 8 Tryz.underlying22 hii0 hzi0 hzi1 hzi2 rfl (by decide) _ _ _ rfl HAL.out ⟨_, 0, none⟩ 1 1 (inC nx2) rfl rfl ?c1 ?c2 ?c3 ?c4 ?c5 ?_)
      case c1 => exact fun j u h => by have := HCC.out j u h; rwa [Nat.zero_add] at this
      case c2 => exact inC_one _
      case c3 => unfold maxLen; omega
      case c4 => omega
      intro v5 w5 ho5 hg5 hm5
      obtain ⟨A5, c5, rfl⟩ := own_slice ho5
      have hsd : w4.heap[a.s]? = some (sttB a C { s1 with nx := nx2 } A2 c2) := by
        have h := HS4.out
        unfold sttB
        rw [← HN.out, show ({ s1 with nx := nx2 } : St).be.length = K from HE.out.1.symm, show ({ s1 with nx := nx2 } : St).sp = sp from HE.out.2.2.symm]
        exact h
      have HAPP := Lib.hid (HI4.out.app (s := { s1 with nx := nx2 }) HLC.out (A := A2) (c := c2) (A' := A5) (c' := c5) (x := nx2) hsd
        (by rw [show ({ s1 with nx := nx2 } : St).be.length = K from HE.out.1.symm]; exact HNOT2.out)
        (by
          rw [show ({ s1 with nx := nx2 } : St).be.length = K from HE.out.1.symm]
          have e : recs inC (s1.be ++ [nx2]) = recs inC s1.be ++ inC nx2 := by simp [recs]
          show w5.ownsRow B 3 1 (.slice A5 (K + 1) c5) (K + 1) (recs inC (s1.be ++ [nx2]))
          rw [e]; exact ho5)
        (by rw [show ({ s1 with nx := nx2 } : St).be.length = K from HE.out.1.symm]; exact hg5)
        (by rw [show ({ s1 with nx := nx2 } : St).be.length = K from HE.out.1.symm]; exact hm5)
        (fun b hb => by
          rw [show ({ s1 with nx := nx2 } : St).be.length = K from HE.out.1.symm] at hb
          exact (own_ltS HAL.out hb).1))
      rw [show ({ s1 with nx := nx2 } : St).be.length = K from HE.out.1.symm] at HAPP
      have hmems := HI4.out.lt HLC.out
      have hk5 : ∀ b o, b ∈ a.all → w4.heap[b]? = some o → w5.heap[b]? = some o := fun b o hb ho => (hg5.block b (hmems b hb) (fun e => HNOT2.out b e.symm hb)).trans ho
      have hs5 := hk5 _ _ (StA.mem a).1 HS4.out
      have s6 := cell_of_blk (j := 6) hs5 rfl
      have s8 := cell_of_blk (j := 8) hs5 rfl
      have fr : ∀ j, w5.frozen? ⟨a.s, j, none⟩ = false := by intro j; simp [World.frozen?, hs5]
      have f6 := fr 6
      have f8 := fr 8
      have hls5 := (Array.getElem?_eq_some_iff.1 hs5).1
      clear fr hsd hk5 hmems hg5 hm5 ho5 hs5 q6
      go_upto_region 6 with (fail)
      obtain ⟨w6, e6⟩ : ∃ V : World, V = (w5.setCell ⟨a.s, 6, none⟩ (.slice A5 (K + 1) c5)).setCell ⟨a.s, 8, none⟩ (.int .i64 (-1)) := ⟨_, rfl⟩
      rw [← e6] at HAPP ⊢
      clear e6 s6 s8 f6 f8 hls5 hls4
      have hE3 : ({ ({ s1 with nx := nx2 } : St) with be := s1.be ++ [nx2], nx := -1 } : St).be.length = K + 1 := by show (s1.be ++ [nx2]).length = _; rw [List.length_append, ← HE.out.1]; rfl
      obtain ⟨A6, c6, hs6, hcm6, _, _⟩ := HAPP.out.1.look N HN.out
      have p0 := cell_of_blk (j := 0) hs6 rfl
      have p3 := cell_of_blk (j := 3) hs6 rfl
      have p8 : w6.cell? ⟨a.s, 8, none⟩ = some (.int .i64 (-1)) := cell_of_blk (j := 8) hs6 rfl
      have q5 := cell_of_blk (j := 5) hcm6 rfl
      have hls6 := (Array.getElem?_eq_some_iff.1 hs6).1
      have hlc6 := (Array.getElem?_eq_some_iff.1 hcm6).1
      have kf : w6.frozen? ⟨a.s, 8, none⟩ = false := by simp [World.frozen?, hs6]
      have HBT := Lib.hid (HB4.out.trans HAPP.out.2)
      have HLEN := Lib.hid (show N < (begV C s1 nx2).be.length + g' from by
        have h := HQ.out.2.2.2.1
        rw [← HE.out.1] at h
        show N < (s1.be ++ [nx2]).length + g'
        rw [List.length_append, ← HE.out.1, List.length_singleton]; omega)
      have HZE := Lib.hid (show bgV C t g' (begV C s1 nx2) = z from by have h := HNX.out.2; simpa using h)
      obtain ⟨ov2, eov2⟩ : ∃ v, v = s1.op.getD K 0 := ⟨_, rfl⟩
      have ho : w6.cell? ⟨a.bo, K, none⟩ = some (.int .i64 ov2) := by
        rw [eov2]
        exact inB_cell HAPP.out.1.op (by show K < s1.op.length; have := HQ.out.2.1.lo; have := HN.out; omega)
      have hlo := World.block_lt_of_cell? w6 _ ho
      simp only at hlo
      have HOV2 := Lib.hid eov2
      have HNO := Lib.hid (fun (h : ¬ (K + 1 < N ∧ ov2 = 0)) => show StI B C F wvN a (begV C s1 nx2) w6 from by
        have e : begV C s1 nx2 = { ({ s1 with nx := nx2 } : St) with be := s1.be ++ [nx2], nx := -1 } := by
          unfold begV
          rw [if_neg (by rw [← HE.out.1, ← HN.out, ← HOV2.out]; exact h)]
        rw [e]; exact HAPP.out.1)
      clear eov2 hs6 hcm6 hE3
      by_cases b1 : K + 1 < N
      · have b1I : (K : Int) + 1 < (N : Int) := by omega
        have hKNI : (K : Int) < (N : Int) := by omega
        have hw1 : IntKind.i64.wrap ((K : Int) + 1) = (K : Int) + 1 := by rw [IntKind.wrap_i64]; omega
        by_cases b2 : ov2 = 0
        · obtain ⟨x, hx⟩ : ∃ x, C.ws[K + 1]? = some x := ⟨_, List.getElem?_eq_getElem (by have := HN.out; omega)⟩
          obtain ⟨x3, x4⟩ := (HC.out.w x (List.mem_of_getElem? hx)).wt
          obtain ⟨b, o, ewa, hbw, hCl⟩ := HAPP.out.1.ws.posR wvC_len (by omega) (by have := HN.out; omega)
          have hbr : b < w6.heap.size := by have := HAPP.out.1.sz; omega
          have e1 : w6.cell? ⟨b, o + (K + 1) * 4 + 1, none⟩ = some (.int .i64 x.wt) := rec_cell wvC_len hCl (K + 1) x hx 1 _ rfl
          have HSN := Lib.hid (show StI B C F wvN a (begV C s1 nx2) (w6.setCell ⟨a.s, 8, none⟩ (.int .i64 (nx2 + x.wt))) from by
            have e : begV C s1 nx2 = { ({ ({ s1 with nx := nx2 } : St) with be := s1.be ++ [nx2], nx := -1 } : St) with nx := nx2 + x.wt } := by
              unfold begV
              rw [if_pos (by rw [← HE.out.1, ← HN.out, ← HOV2.out]; exact ⟨b1, b2⟩)]
              unfold wtV
              rw [← HE.out.1, hx]; rfl
            rw [e]; exact HAPP.out.1.setNx (nx2 + x.wt))
          have HBF := Lib.hid (HBT.out.setCell (p := ⟨a.s, 8, none⟩) (HAPP.out.1.ge _ (StA.mem a).1) (.int .i64 (nx2 + x.wt)))
          obtain ⟨y1, y2⟩ := HNS.out
          rw [b2] at ho
          rw [ewa] at q5
          clear hCl hx b2
          go_wp2_with (fail)
          go_roundg g'
          case rel => exact ⟨begV C s1 nx2, Lib.hid ⟨HSN.out, HBEG.out, HZE.out, HLEN.out, HBF.out⟩⟩
          case measure => omega
        · have HF := Lib.hid (HNO.out (fun h => b2 h.2))
          go_wp2_with (fail)
          go_roundg g'
          case rel => exact ⟨begV C s1 nx2, Lib.hid ⟨HF.out, HBEG.out, HZE.out, HLEN.out, HBT.out⟩⟩
          case measure => omega
      · have HF := Lib.hid (HNO.out (fun h => b1 h.1))
        go_wp2_with (fail)
        go_roundg g'
        case rel => exact ⟨begV C s1 nx2, Lib.hid ⟨HF.out, HBEG.out, HZE.out, HLEN.out, HBT.out⟩⟩
        case measure => omega
end Go.Proofs.YtidgicbhgnbidaaGreatDoor
