/- Marks of the stream, right or not, by their contract. -/
import Derived.Test.YtidgicbhgnbidaaGreatDoorCmY
namespace Go.Proofs.YtidgicbhgnbidaaGreatDoor
open Go.RowKit

def pkDz : List Int := [0, 1, 5, 10, 10]
def pkDv : List ByteArray := [dvT 0, dvT 1, dvT 2, dvT 3, dvT 4]
def pkVs : List Int := [2, 2, 3, 4]
def pkK1 : List Int := [2, 2, 2, 5]
def pkK2 : List Int := [3, 3, 4]
def pkD2 : List ByteArray := [dvT 0, dvT 6]
theorem pkDv_get {j : Nat} (h : j < 5) : pkDv.getD j ⟨#[]⟩ = dvT j := by
  rcases (show j = 0 ∨ j = 1 ∨ j = 2 ∨ j = 3 ∨ j = 4 by omega) with h | h | h | h | h <;> subst h <;> rfl
theorem pkD2_get {j : Nat} (h : j < 2) : ∃ i, i ≤ 6 ∧ pkD2.getD j ⟨#[]⟩ = dvT i := by
  rcases (show j = 0 ∨ j = 1 by omega) with h | h <;> subst h
  · exact ⟨0, by omega, rfl⟩
  · exact ⟨6, by omega, rfl⟩
def MaPost (many : Nat) (w : World) (p k0 : Nat) (xs : List Int) (e : Ending) (w' : World) : Prop :=
  ∃ (M : List Mk) (A : Option Addr) (n c k : Nat), (∀ m ∈ M, MkRw m) ∧ M.length = n ∧ n ≤ many ∧ k ≤ k0 + 14 * many + 1 ∧ e = .returned (.slice A n c) ∧ w'.ownsRow w.heap.size 64 6 (.slice A n c) n (recs mkC M) ∧ Strm w' p xs k ∧ w.grownBy w' (some p)
theorem Tryz.infoMk : (Tryz.prog.info? 64).map (fun i => (i.zero, i.size, i.bytes)) = some (some (.agg #[.int .i64 0, .string ⟨#[]⟩, .int .i64 0, .int .i64 0, .int .i64 0, .int .i64 0]), 6, 56) := by kernel_rfl
/-- Behind the question whether the device is one of the fleet. -/
def MaFl (w0 : World) (p : Nat) (xs : List Int) (kk n c : Nat) (A : Option Addr) (M : List Mk) (g : Nat) (m : Mk) (nf : Nat) (s : Value) (wx : World) : Prop :=
  ∃ (b : Bool) (k : Nat), s = .bool b ∧ (b = true → 0 < nf) ∧ k ≤ kk ∧ MrS w0 p xs k n c A M g m wx
def MaMid (w0 : World) (p : Nat) (xs : List Int) (kk n c : Nat) (A : Option Addr) (M : List Mk) (g : Nat) (wx : World) : Prop :=
  ∃ (m : Mk) (k : Nat), k ≤ kk ∧ MrS w0 p xs k n c A M g m wx
set_option maxRecDepth 100000 in
set_option maxHeartbeats 8000000 in
theorem marks_any (C : Cm) (F : List Dv) (many nf cf B : Nat) (AF : Option Addr) (w : World) (p k0 : Nat) (xs : List Int) (hk : k0 < 800000) (hmany : many ≤ 19) (hC : CmOk C) (hF : FlOk F) (hnf : F.length = nf) (hs : Strm w p xs k0) (hpB : p < B) (hB : B ≤ w.heap.size) (hr : w.ownsRow B 67 7 (.slice AF nf cf) nf (recs dvC F)) :
    Calls Tryz.prog 73 #[.pointer (some ⟨p, 0, none⟩), cmV C, .slice AF nf cf, .int .i64 (many : Int)] w fun e w' => MaPost many w p k0 xs e w' := by
  obtain ⟨id0, hid0, hzd0, hzd1, hzd2⟩ := info_parts Tryz.infoMk
  have hplt := hs.lt
  have hnf6 : nf ≤ 6 := by rw [← hnf]; exact hF.n
  obtain ⟨gc, egc⟩ : ∃ g, g = w.heap.size := ⟨_, rfl⟩
  obtain ⟨w0, e0⟩ : ∃ V : World, V = w.alloc (cmB C) := ⟨_, rfl⟩
  have hb0 : Below w.heap.size w w0 := by rw [e0]; exact (Below.refl _ _).alloc (Nat.le_refl _) _
  have hc0 : w0.heap[gc]? = some (cmB C) := by rw [e0, egc]; exact heap_new w _
  have hs0 : w0.heap.size = w.heap.size + 1 := by rw [e0]; simp
  have H0 := Lib.hid (show w.grownBy w0 (some p) ∧ Strm w0 p xs k0 ∧ w0.ownsRow B 67 7 (.slice AF nf cf) nf (recs dvC F) from ⟨by rw [e0]; exact World.grownBy_alloc _ _ (some p), hs.below hb0, own_below hr hb0⟩)
  have HF := Lib.hid (And.intro hF hnf)
  have HC := Lib.hid hC
  have hp0 : p < w0.heap.size := by omega
  have c4 := cell_of_blk (j := 4) hc0 rfl
  have hgl := (Array.getElem?_eq_some_iff.1 hc0).1
  obtain ⟨a0, ea0⟩ : ∃ a, a = C.at_ := ⟨_, rfl⟩
  have ha0 : 0 ≤ a0 ∧ a0 ≤ 100 := by rw [ea0]; exact hC.at_
  rw [← ea0] at c4
  have HSZ := Lib.hid (show w.heap.size ≤ w0.heap.size ∧ B ≤ w0.heap.size from by omega)
  unfold cmB at e0
  unfold cmV
  clear hs hr hF hC hb0 hc0 hs0
  go_enter Tryz.func73, Tryz.ntmps73
  go_upto_region 1 with (fail)
  rw [← egc, ← e0]
  clear e0 egc ea0
  go_upto_region 4 with (fail)
  go_loopw [10, 18, 9] (fun a i l wr => ∃ (j n c k : Nat) (z : Int) (A : Option Addr), j ≤ many ∧ n ≤ j ∧ k ≤ k0 + 14 * j ∧ 0 ≤ z ∧ z ≤ 100 + 10 * (j : Int) ∧ a = .int .i64 z ∧ i = .int .i64 (j : Int) ∧ l = .slice A n c ∧ Hid (∃ M : List Mk, (∀ m ∈ M, MkRw m) ∧ M.length = n ∧ wr.ownsRow w0.heap.size 64 6 (.slice A n c) n (recs mkC M) ∧ Strm wr p xs k ∧ w0.grownBy wr (some p))) (fun _ i _ _ => many - (intOf i).toNat)
  case atStart => exact ⟨0, 0, 0, k0, a0, none, Nat.zero_le _, Nat.le_refl _, by omega, ha0.1, by omega, rfl, rfl, rfl, Lib.hid ⟨[], fun _ h => absurd h List.not_mem_nil, rfl, World.ownsRow_nil _ _ _ _, H0.out.2.1, grown_refl _ _⟩⟩
  case round =>
    obtain ⟨j, n, c, k, z, A, hj, hnj, hkj, hz0, hz1, rfl, rfl, rfl, HR⟩ := hrel
    obtain ⟨M, hMr, hMn, hoM, hsM, hgM⟩ := HR.out
    have HM := Lib.hid (And.intro hMr hMn)
    have HOM := Lib.hid hoM
    have HSM := Lib.hid hsM
    have HGM := Lib.hid hgM
    clear hMr hMn hoM hsM hgM HR
    obtain ⟨w2, rfl⟩ : ∃ wy : World, wy = wr := ⟨_, rfl⟩
    by_cases hlt : j < many
    · have hltI : (j : Int) < (many : Int) := by omega
      have hw2 := HGM.out.size
      go_wp2_with (fail)
      refine (pick_any _ p k w2.heap.size 5 5 xs pkDz (by omega) rfl (by omega) (by omega) (HSM.out.alloc _) (by omega) (Cells.new _ _ _ _ _ rfl)).mono ?_
      have hdz := pkv_all (fun v => 0 ≤ v ∧ v ≤ 10) pkDz (by decide) (nextN xs k 5) (nextN_lt _ _ _ (by omega))
      obtain ⟨dz, edz⟩ : ∃ q, q = pkDz.getD (nextN xs k 5) 0 := ⟨_, rfl⟩
      rw [← edz] at hdz ⊢
      clear edz
      rintro e w3 ⟨rfl, hs3, hg3⟩
      have hg3' := grown_of_alloc hg3
      have HO3 := Lib.hid (own_pM HOM.out hp0 hg3')
      have HS3 := Lib.hid hs3
      have HG3 := Lib.hid (grown_trans HGM.out hg3')
      have hw3 := HG3.out.size
      clear hs3 hg3 hg3'
      go_wp2_with (fail)
      obtain ⟨z1, ez1⟩ : ∃ q, q = z + dz := ⟨_, rfl⟩
      have hz2 : 0 ≤ z1 ∧ z1 ≤ 100 + 10 * ((j : Int) + 1) := by omega
      rw [← ez1]
      clear ez1
      refine (some_any _ p (k + 1) w3.heap.size 5 5 xs pkDv (by omega) rfl (by omega) (by omega) (HS3.out.alloc _) (by omega) (Cells.new _ _ _ _ _ rfl)).mono ?_
      obtain ⟨di, hdi⟩ : ∃ q, q = nextN xs (k + 1) 5 := ⟨_, rfl⟩
      have hdl : di < 5 := by rw [hdi]; exact nextN_lt _ _ _ (by omega)
      rw [← hdi, pkDv_get hdl]
      clear hdi
      rintro e w4 ⟨rfl, hs4, hg4⟩
      have hg4' := grown_of_alloc hg4
      have HO4 := Lib.hid (own_pM HO3.out hp0 hg4')
      have HS4 := Lib.hid hs4
      have HG4 := Lib.hid (grown_trans HG3.out hg4')
      have hw4 := HG4.out.size
      clear hs4 hg4 hg4'
      go_wp2_with (fail)
      refine (range_any w4 p (k + 1 + 1) xs 1 5 (by omega) (by omega) (by omega) (by omega) (by omega) HS4.out).mono ?_
      obtain ⟨kd, hkd⟩ : ∃ q, q = 1 + nextV xs (k + 1 + 1) (5 - 1 + 1) := ⟨_, rfl⟩
      rw [← hkd]
      clear hkd
      rintro e w5 ⟨rfl, hs5, hg5⟩
      have HO5 := Lib.hid (own_pM HO4.out hp0 hg5)
      have HS5 := Lib.hid hs5
      have HG5 := Lib.hid (grown_trans HG4.out hg5)
      have hw5 := HG5.out.size
      clear hs5 hg5
      go_wp2_with (fail)
      refine (pick_any _ p (k + 1 + 1 + 1) w5.heap.size 4 4 xs pkVs (by omega) rfl (by omega) (by omega) (HS5.out.alloc _) (by omega) (Cells.new _ _ _ _ _ rfl)).mono ?_
      have hvv := pkv_all (fun v => 0 ≤ v ∧ v ≤ 9999) pkVs (by decide) (nextN xs (k + 1 + 1 + 1) 4) (nextN_lt _ _ _ (by omega))
      obtain ⟨vv, evv⟩ : ∃ q, q = pkVs.getD (nextN xs (k + 1 + 1 + 1) 4) 0 := ⟨_, rfl⟩
      rw [← evv] at hvv ⊢
      clear evv
      rintro e w6 ⟨rfl, hs6, hg6⟩
      have hg6' := grown_of_alloc hg6
      have HO6 := Lib.hid (own_pM HO5.out hp0 hg6')
      have HS6 := Lib.hid hs6
      have HG6 := Lib.hid (grown_trans HG5.out hg6')
      have hw6 := HG6.out.size
      clear hs6 hg6 hg6'
      have HWH := Lib.hid (whole_any vv w6)
      unfold veV at HWH
      go_wp2_with (fail)
      refine HWH.out.mono ?_
      rintro e w7 ⟨rfl, hb7⟩
      have HO7 := Lib.hid (own_below HO6.out hb7)
      have HS7 := Lib.hid (HS6.out.below hb7)
      have HG7 := Lib.hid (grown_below HG6.out hb7)
      have hw7 := HG7.out.size
      have hp7 := HS7.out.lt
      clear hb7 HWH
      obtain ⟨m1, em1⟩ : ∃ m : Mk, m = ⟨z1, di, kd, ⟨vv, 0, 0⟩⟩ := ⟨_, rfl⟩
      obtain ⟨w8, e8⟩ : ∃ V : World, V = w7.alloc (mkB m1) := ⟨_, rfl⟩
      obtain ⟨g, eg⟩ : ∃ g, g = w7.heap.size := ⟨_, rfl⟩
      have hb8 : Below w7.heap.size w7 w8 := by rw [e8]; exact (Below.refl _ _).alloc (Nat.le_refl _) _
      have H8 := Lib.hid (show MrS w0 p xs (k + 1 + 1 + 1 + 1) n c A M g m1 w8 from
        ⟨HS7.out.below hb8, grown_below HG7.out hb8, own_below HO7.out hb8, by rw [e8, eg]; exact zz_heapM _ _, by
          rw [em1]
          refine ⟨?_, ?_, ?_, ⟨hvv, ?_, ?_⟩⟩
          · show -1099511627776 ≤ z1 ∧ z1 ≤ 1099511627776
            omega
          · show z1 ≤ 1000000 ∨ z1 = 1099511627776
            omega
          · show di ≤ 6
            omega
          · show (0 : Int) ≤ 0 ∧ (0 : Int) ≤ 9999
            omega
          · show (0 : Int) ≤ 0 ∧ (0 : Int) ≤ 9999
            omega, ⟨hp0, by omega⟩, fun b hb e => by have := (HO7.out.lt b hb).2; omega⟩)
      have HE8 := Lib.hid e8
      rw [em1] at e8
      unfold mkB at e8
      simp only at e8
      go_upto_region 7 with (fail)
      rw [← eg, ← e8]
      clear e8 eg hb8 HO7 HS7 HG7 HO6 HS6 HG6 HO5 HS5 HG5 HO4 HS4 HG4 HO3 HS3 HG3 hw3 hw4 hw5 hw6 hw7 HOM HSM HGM HE8 em1
      go_cut [43] (fun s wx => MaFl w0 p xs (k + 5) n c A M g m1 nf s wx)
      case first =>
        by_cases hf0 : nf = 0
        · subst hf0
          go_wp2_with (fail)
          go_meet
          exact ⟨false, k + 4, rfl, (fun h => by cases h), by omega, H8.out⟩
        · have hfI : (0 : Int) < (nf : Int) := by omega
          go_wp2_with (fail)
          refine (flip_any w8 p (k + 1 + 1 + 1 + 1) xs 12 (by omega) (by omega) (by omega) H8.out.st).mono ?_
          rintro e w9 ⟨fb, rfl, hs9, hg9⟩
          have H9 := Lib.hid (H8.out.strm hs9 hg9)
          clear hs9 hg9
          go_wp2_with (fail)
          go_meet
          exact ⟨!fb, k + 5, rfl, (fun _ => by omega), by omega, H9.out⟩
      case rest =>
      obtain ⟨b43, k9, rfl, hb43, hk9, h9⟩ := hcut
      obtain ⟨w9, rfl⟩ : ∃ wy : World, wy = wc := ⟨_, rfl⟩
      have H9 := Lib.hid h9
      have HB43 := Lib.hid hb43
      clear h9 hb43 H8
      go_upto_if 43 with (fail)
      go_cut [] (fun wx => MaMid w0 p xs (k + 6) n c A M g wx)
      case first =>
        cases b43 with
        | false =>
          go_wp2_with (fail)
          go_meet
          exact ⟨m1, k9, by omega, H9.out⟩
        | true =>
          have hnf0 := HB43.out rfl
          have hix := nextN_lt xs k9 nf hnf0
          have hnv := nextN_eq xs k9 nf hnf0
          obtain ⟨ix, eix⟩ : ∃ q, q = nextN xs k9 nf := ⟨_, rfl⟩
          rw [← eix] at hix hnv
          have hixI : (ix : Int) < (nf : Int) := by omega
          have hix0 : (0 : Int) ≤ (ix : Int) := by omega
          have hnx := next_any w9 p k9 xs (nf : Int) (by omega) (by omega) H9.out.st
          rw [hnv] at hnx
          clear eix hnv
          go_wp2_with (fail)
          refine hnx.mono ?_
          rintro e w10 ⟨rfl, hs10, hg10⟩
          have H10 := Lib.hid (H9.out.strm hs10 hg10)
          have hoF := own_pM H0.out.2.2 hpB H10.out.gr
          obtain ⟨h1, h2, h3⟩ | ⟨gf, rfl, hgf1, hgf2⟩ := own_two hoF
          · omega
          obtain ⟨d, hd⟩ : ∃ d, F[ix]? = some d := ⟨_, List.getElem?_eq_getElem (by rw [HF.out.2]; exact hix)⟩
          have e0 : w10.cell? ⟨gf, ix * 7, none⟩ = some (.string (dvT d.k)) := by
            have := rec_cell dvC_len (own_cells0 hoF) ix d hd 0 _ rfl
            simpa using this
          have hb10 := H10.out.b
          have hl10 := (Array.getElem?_eq_some_iff.1 hb10).1
          have k1 := cell_of_blk (j := 1) hb10 rfl
          have kf := noFr hb10 1
          have hdk : d.k ≤ 6 := by have := (HF.out.1.ok d (List.mem_of_getElem? hd)).k; omega
          clear hs10 hg10 hoF hd hb10 hnx
          go_wp2_with (fail)
          go_meet
          exact ⟨_, k9 + 1, by omega, H10.out.dev hdk⟩
      case rest =>
      obtain ⟨m2, k10, hk10, h10⟩ := hcut
      obtain ⟨w10, rfl⟩ : ∃ wy : World, wy = wc := ⟨_, rfl⟩
      have H10 := Lib.hid h10
      clear h10 H9 HB43
      go_wp2_with (fail)
      refine (flip_any w10 p k10 xs 5 (by omega) (by omega) (by omega) H10.out.st).mono ?_
      rintro e w11 ⟨fb, rfl, hs11, hg11⟩
      have H11 := Lib.hid (H10.out.strm hs11 hg11)
      clear hs11 hg11 H10
      go_upto_if 55 with (fail)
      go_cut [] (fun wx => MaMid w0 p xs (k + 8) n c A M g wx)
      case first =>
        cases fb with
        | true =>
          go_wp2_with (fail)
          go_meet
          exact ⟨m2, k10 + 1, by omega, H11.out⟩
        | false =>
          obtain ⟨mz, emz⟩ : ∃ m : Mk, m = ⟨0, 6, 0, ve0⟩ := ⟨_, rfl⟩
          have hrz : MkRw mz := by
            rw [emz]
            exact ⟨by show -1099511627776 ≤ (0 : Int) ∧ (0 : Int) ≤ 1099511627776; omega, .inl (by show (0 : Int) ≤ 1000000; omega), Nat.le_refl 6, ve0_ok⟩
          obtain ⟨w12, e12⟩ : ∃ V : World, V = w11.alloc (mkB mz) := ⟨_, rfl⟩
          obtain ⟨g2, eg2⟩ : ∃ g, g = w11.heap.size := ⟨_, rfl⟩
          have hb12 : Below w11.heap.size w11 w12 := by rw [e12]; exact (Below.refl _ _).alloc (Nat.le_refl _) _
          have hg12 : w12.heap[g2]? = some (mkB mz) := by rw [e12, eg2]; exact zz_heapM _ _
          have hlg := (Array.getElem?_eq_some_iff.1 H11.out.b).1
          have H12 := Lib.hid (H11.out.below hb12)
          have HG2 := Lib.hid (show w12.heap[g2]? = some (mkB mz) ∧ g2 ≠ g ∧ w0.heap.size ≤ g2 ∧ ∀ b, (Value.slice A n c).ownBlock = some b → b ≠ g2 from ⟨hg12, by omega, by have := H11.out.lo.2; omega, fun b hb e => by have := (H11.out.ow.lt b hb).2; omega⟩)
          have HRZ := Lib.hid hrz
          rw [emz] at e12
          unfold mkB at e12
          simp only [ve0] at e12
          rw [show dvT 6 = ⟨#[]⟩ from rfl] at e12
          go_upto_region 11 with (fail)
          rw [← eg2, ← e12]
          clear e12 eg2 hb12 hg12 hrz hlg emz
          go_upto_region 12 with (fail)
          go_loopw [59] (fun i wx => ∃ ii : Nat, ii ≤ n ∧ i = .int .i64 (ii : Int) ∧ Hid (∃ m3 : Mk, MkRw m3 ∧ wx.heap[g2]? = some (mkB m3) ∧ MrS w0 p xs (k10 + 1) n c A M g m2 wx)) (fun i _ => n - (intOf i).toNat)
          case atStart => exact ⟨0, Nat.zero_le _, rfl, Lib.hid ⟨mz, HRZ.out, HG2.out.1, H12.out⟩⟩
          case round =>
            obtain ⟨ii, hii, rfl, HR3⟩ := hrel
            obtain ⟨m3, hm3, hg3, hs3⟩ := HR3.out
            obtain ⟨w13, rfl⟩ : ∃ wy : World, wy = wr := ⟨_, rfl⟩
            have HM3 := Lib.hid hm3
            have HB3 := Lib.hid hg3
            have HS3 := Lib.hid hs3
            have hl2 := (Array.getElem?_eq_some_iff.1 hg3).1
            have hl1 := (Array.getElem?_eq_some_iff.1 hs3.b).1
            clear hm3 hg3 hs3 HR3
            by_cases hin : ii < n
            · have hinI : (ii : Int) < (n : Int) := by omega
              obtain ⟨x, hx⟩ : ∃ x, M[ii]? = some x := ⟨_, List.getElem?_eq_getElem (by rw [HM.out.2]; exact hin)⟩
              have hxr := HM.out.1 x (List.mem_of_getElem? hx)
              have hxd := hxr.d
              have hmd := HS3.out.ok.d
              obtain ⟨h1, h2, h3⟩ | ⟨ga, rfl, hga1, hga2⟩ := own_two HS3.out.ow
              · omega
              have hcl := own_cells0 HS3.out.ow
              have e0 : w13.cell? ⟨ga, ii * 6, none⟩ = some (.int .i64 x.at_) := by have := rec_cell mkC_len hcl ii x hx 0 _ rfl; simpa using this
              have e1 : w13.cell? ⟨ga, ii * 6 + 1, none⟩ = some (.string (dvT x.d)) := by have := rec_cell mkC_len hcl ii x hx 1 _ rfl; simpa using this
              have e2 : w13.cell? ⟨ga, ii * 6 + 2, none⟩ = some (.int .i64 x.kd) := by have := rec_cell mkC_len hcl ii x hx 2 _ rfl; simpa using this
              have e3 : w13.cell? ⟨ga, ii * 6 + 3, none⟩ = some (.int .i64 x.v.a) := by have := rec_cell mkC_len hcl ii x hx 3 _ rfl; simpa using this
              have e4 : w13.cell? ⟨ga, ii * 6 + 4, none⟩ = some (.int .i64 x.v.b) := by have := rec_cell mkC_len hcl ii x hx 4 _ rfl; simpa using this
              have e5 : w13.cell? ⟨ga, ii * 6 + 5, none⟩ = some (.int .i64 x.v.c) := by have := rec_cell mkC_len hcl ii x hx 5 _ rfl; simpa using this
              obtain ⟨w14, e14⟩ : ∃ V : World, V = w13.alloc (mkB x) := ⟨_, rfl⟩
              obtain ⟨g3, eg3⟩ : ∃ q, q = w13.heap.size := ⟨_, rfl⟩
              have hb14 : Below w13.heap.size w13 w14 := by rw [e14]; exact (Below.refl _ _).alloc (Nat.le_refl _) _
              have hg14 : w14.heap[g3]? = some (mkB x) := by rw [e14, eg3]; exact zz_heapM _ _
              have hh2 := (hb14.block g2 hl2).trans HB3.out
              have H14 := Lib.hid (HS3.out.below hb14)
              have HB14 := Lib.hid hh2
              have hh1 := H14.out.b
              have a0' := cell_of_blk (j := 0) hg14 rfl
              have a1 := cell_of_blk (j := 1) hg14 rfl
              have a2 := cell_of_blk (j := 2) hg14 rfl
              have a3 := cell_of_blk (j := 3) hg14 rfl
              have a4 := cell_of_blk (j := 4) hg14 rfl
              have a5 := cell_of_blk (j := 5) hg14 rfl
              have f1 := cell_of_blk (j := 1) hh1 rfl
              have b0 := cell_of_blk (j := 0) hh2 rfl
              have b1 := cell_of_blk (j := 1) hh2 rfl
              have b2 := cell_of_blk (j := 2) hh2 rfl
              have b3 := cell_of_blk (j := 3) hh2 rfl
              have b4 := cell_of_blk (j := 4) hh2 rfl
              have b5 := cell_of_blk (j := 5) hh2 rfl
              have q0 := noFr hh2 0
              have q1 := noFr hh2 1
              have q2 := noFr hh2 2
              have q3 := noFr hh2 3
              have q4 := noFr hh2 4
              have q5 := noFr hh2 5
              have l14 := (Array.getElem?_eq_some_iff.1 hg14).1
              have l24 := (Array.getElem?_eq_some_iff.1 hh2).1
              have l34 := (Array.getElem?_eq_some_iff.1 hh1).1
              obtain ⟨d1, d2⟩ := dvT_beq7 hxd hmd
              have HX := Lib.hid hxr
              unfold mkB at e14
              clear hx hxr hcl hg14 hh1 hh2 hb14 HS3 HB3
              go_upto_region 14 with (fail)
              rw [← eg3, ← e14]
              clear e14 eg3 e0 e1 e2 e3 e4 e5
              by_cases hd : x.d = m2.d
              · rw [decide_eq_true hd] at d1 d2
                clear hd
                have HN := Lib.hid (show (mkOut w14 g2 x).heap[g2]? = some (mkB x) ∧ MrS w0 p xs (k10 + 1) n c (some ⟨ga, 0, none⟩) M g m2 (mkOut w14 g2 x) from ⟨mk_set6 x HB14.out, H14.out.aside x HG2.out.2.1 HG2.out.2.2.1 HG2.out.2.2.2⟩)
                unfold mkOut at HN
                go_wp2_with (fail)
                go_roundw
                case rel => exact ⟨ii + 1, by omega, by go_num, Lib.hid ⟨x, HX.out, HN.out⟩⟩
                case measure => simp [intOf]; omega
              · rw [decide_eq_false hd] at d1 d2
                clear hd
                go_wp2_with (fail)
                go_roundw
                case rel => exact ⟨ii + 1, by omega, by go_num, Lib.hid ⟨m3, HM3.out, HB14.out, H14.out⟩⟩
                case measure => simp [intOf]; omega
            · have hinI : ¬ (ii : Int) < (n : Int) := by omega
              have hh2 := HB3.out
              have hh1 := HS3.out.b
              have hp13 := HS3.out.st.lt
              have hgp : g ≠ p := by have := HS3.out.lo; omega
              have b2 := cell_of_blk (j := 2) hh2 rfl
              have b3 := cell_of_blk (j := 3) hh2 rfl
              have b4 := cell_of_blk (j := 4) hh2 rfl
              have b5 := cell_of_blk (j := 5) hh2 rfl
              have f2 := cell_of_blk (j := 2) hh1 rfl
              have q2 := noFr hh1 2
              by_cases hk1 : m3.kd = 1
              · have hbl : Below w13.heap.size w13 ((w13.alloc (.cells #[.int .i64 2, .int .i64 2, .int .i64 2, .int .i64 5] 3)).drew) := ((Below.refl _ _).alloc (Nat.le_refl _) _).drew
                have HPK := Lib.hid (pick_any ((w13.alloc (.cells #[.int .i64 2, .int .i64 2, .int .i64 2, .int .i64 5] 3)).drew) p (k10 + 1) w13.heap.size 4 4 xs pkK1 (by omega) rfl (by omega) (by omega) (HS3.out.st.below hbl) (by omega) (Cells.new w13 #[.int .i64 2, .int .i64 2, .int .i64 2, .int .i64 5] 3 (0, 0) _ rfl))
                have HIL := Lib.hid (HS3.out.below hbl)
                have HBL := Lib.hid ((hbl.block g2 hl2).trans hh2)
                have HM3V := Lib.hid HM3.out.v
                obtain ⟨z3, ez3⟩ : ∃ z, z = pkK1.getD (nextN xs (k10 + 1) 4) 0 := ⟨_, rfl⟩
                rw [← ez3] at HPK
                clear ez3 hbl
                go_upto_region 20 with (fail)
                go_region_law (first
                  | (go_simp
                     go_at_call 9
                     (with_reducible refine HPK.out.mono ?_)
                     rintro e w7 ⟨rfl, hst7, hg7⟩
                     have HI7 := Lib.hid (HIL.out.strm hst7 hg7)
                     have h27 := blk_pM HBL.out (by have := HG2.out.2.2.1; omega) hg7
                     have a3 : w7.cell? ⟨g2, 3, none⟩ = some (.int .i64 m3.v.a) := cell_of_blk (j := 3) h27 rfl
                     have a4 : w7.cell? ⟨g2, 4, none⟩ = some (.int .i64 m3.v.b) := cell_of_blk (j := 4) h27 rfl
                     have a5 : w7.cell? ⟨g2, 5, none⟩ = some (.int .i64 m3.v.c) := cell_of_blk (j := 5) h27 rfl
                     have l7 := (Array.getElem?_eq_some_iff.1 h27).1
                     have h17 := HI7.out.b
                     have l17 := (Array.getElem?_eq_some_iff.1 h17).1
                     have r2 := cell_of_blk (j := 2) h17 rfl
                     have r3 := cell_of_blk (j := 3) h17 rfl
                     have r4 := cell_of_blk (j := 4) h17 rfl
                     have r5 := cell_of_blk (j := 5) h17 rfl
                     have s2 := noFr h17 2
                     have s3 := noFr h17 3
                     have s4 := noFr h17 4
                     have s5 := noFr h17 5
                     (try clear hst7 h27 h17)))
                all_goals
                  have HF := Lib.hid ((HI7.out.kind z3).ver HM3V.out)
                  go_wp2_with (fail)
                  go_meet
                  exact ⟨_, k10 + 2, by omega, HF.out⟩
              · by_cases hk2 : m3.kd = 2
                · have hbl : Below w13.heap.size w13 ((w13.alloc (.cells #[.int .i64 3, .int .i64 3, .int .i64 4] 3)).drew) := ((Below.refl _ _).alloc (Nat.le_refl _) _).drew
                  have HPK := Lib.hid (pick_any ((w13.alloc (.cells #[.int .i64 3, .int .i64 3, .int .i64 4] 3)).drew) p (k10 + 1) w13.heap.size 3 3 xs pkK2 (by omega) rfl (by omega) (by omega) (HS3.out.st.below hbl) (by omega) (Cells.new w13 #[.int .i64 3, .int .i64 3, .int .i64 4] 3 (0, 0) _ rfl))
                  have HIL := Lib.hid (HS3.out.below hbl)
                  have HBL := Lib.hid ((hbl.block g2 hl2).trans hh2)
                  have HM3V := Lib.hid HM3.out.v
                  obtain ⟨z3, ez3⟩ : ∃ z, z = pkK2.getD (nextN xs (k10 + 1) 3) 0 := ⟨_, rfl⟩
                  rw [← ez3] at HPK
                  clear ez3 hbl
                  go_upto_region 22 with (fail)
                  go_region_law (first
                    | (go_simp
                       go_at_call 9
                       (with_reducible refine HPK.out.mono ?_)
                       rintro e w7 ⟨rfl, hst7, hg7⟩
                       have HI7 := Lib.hid (HIL.out.strm hst7 hg7)
                       have h27 := blk_pM HBL.out (by have := HG2.out.2.2.1; omega) hg7
                       have a3 : w7.cell? ⟨g2, 3, none⟩ = some (.int .i64 m3.v.a) := cell_of_blk (j := 3) h27 rfl
                       have a4 : w7.cell? ⟨g2, 4, none⟩ = some (.int .i64 m3.v.b) := cell_of_blk (j := 4) h27 rfl
                       have a5 : w7.cell? ⟨g2, 5, none⟩ = some (.int .i64 m3.v.c) := cell_of_blk (j := 5) h27 rfl
                       have l7 := (Array.getElem?_eq_some_iff.1 h27).1
                       have h17 := HI7.out.b
                       have l17 := (Array.getElem?_eq_some_iff.1 h17).1
                       have r2 := cell_of_blk (j := 2) h17 rfl
                       have r3 := cell_of_blk (j := 3) h17 rfl
                       have r4 := cell_of_blk (j := 4) h17 rfl
                       have r5 := cell_of_blk (j := 5) h17 rfl
                       have s2 := noFr h17 2
                       have s3 := noFr h17 3
                       have s4 := noFr h17 4
                       have s5 := noFr h17 5
                       (try clear hst7 h27 h17)))
                  all_goals
                    have HF := Lib.hid ((HI7.out.kind z3).ver HM3V.out)
                    go_wp2_with (fail)
                    go_meet
                    exact ⟨_, k10 + 2, by omega, HF.out⟩
                · go_wp2_with (fail)
                  go_meet
                  exact ⟨_, k10 + 1, by omega, HS3.out.kind 1⟩
      case rest =>
      obtain ⟨m4, k12, hk12, h12⟩ := hcut
      obtain ⟨w12, rfl⟩ : ∃ wy : World, wy = wc := ⟨_, rfl⟩
      have H12 := Lib.hid h12
      clear h12 H11
      go_wp2_with (fail)
      refine (flip_any w12 p k12 xs 80 (by omega) (by omega) (by omega) H12.out.st).mono ?_
      rintro e w13 ⟨fb, rfl, hs13, hg13⟩
      have H13 := Lib.hid (H12.out.strm hs13 hg13)
      clear hs13 hg13 H12
      go_upto_if 92 with (fail)
      go_cut [] (fun wx => MaMid w0 p xs (k + 14) n c A M g wx)
      case first =>
        cases fb with
        | false =>
          go_wp2_with (fail)
          go_meet
          exact ⟨m4, k12 + 1, by omega, H13.out⟩
        | true =>
          go_wp2_with (fail)
          refine (odd_any 0 50 (by omega) (by omega) (by omega) w13 p (k12 + 1) xs (by omega) H13.out.st).mono ?_
          rintro e w14 ⟨o1, ho1, rfl, hs14, hg14⟩
          have H14 := Lib.hid (H13.out.strm hs14 hg14)
          have HO1 := Lib.hid ho1
          have hp14 : p < w14.heap.size := hs14.lt
          clear hs14 hg14 ho1
          go_wp2_with (fail)
          refine (some_any _ p (k12 + 1 + 2) w14.heap.size 2 2 xs pkD2 (by omega) rfl (by omega) (by omega) (H14.out.st.alloc _) (by omega) (Cells.new _ _ _ _ _ rfl)).mono ?_
          obtain ⟨d2, hd2, ed2⟩ := pkD2_get (nextN_lt xs (k12 + 1 + 2) 2 (by omega))
          rw [ed2]
          clear ed2
          rintro e w15 ⟨rfl, hs15, hg15⟩
          have H15 := Lib.hid (H14.out.strm hs15 (grown_of_alloc hg15))
          clear hs15 hg15
          go_wp2_with (fail)
          refine (odd_any 1 5 (by omega) (by omega) (by omega) w15 p (k12 + 1 + 2 + 1) xs (by omega) H15.out.st).mono ?_
          rintro e w16 ⟨o2, ho2, rfl, hs16, hg16⟩
          have H16 := Lib.hid (H15.out.strm hs16 hg16)
          have hh1 := H16.out.b
          have f0 := cell_of_blk (j := 0) hh1 rfl
          have f1 := cell_of_blk (j := 1) hh1 rfl
          have f2 := cell_of_blk (j := 2) hh1 rfl
          have q0 := noFr hh1 0
          have q1 := noFr hh1 1
          have q2 := noFr hh1 2
          have hl16 := (Array.getElem?_eq_some_iff.1 hh1).1
          have HF := Lib.hid (((H16.out.time (z := o1) (by have := HO1.out; unfold OdP at this; omega) (by have := HO1.out; unfold OdP at this; omega)).dev hd2).kind o2)
          clear hs16 hg16 ho2 hh1
          go_wp2_with (fail)
          go_meet
          exact ⟨_, k12 + 6, by omega, HF.out⟩
      case rest =>
      obtain ⟨m5, k13, hk13, h13⟩ := hcut
      obtain ⟨w13, rfl⟩ : ∃ wy : World, wy = wc := ⟨_, rfl⟩
      have H14 := Lib.hid h13
      clear h13 H13
      have hh1 := H14.out.b
      have f0 := cell_of_blk (j := 0) hh1 rfl
      have f1 := cell_of_blk (j := 1) hh1 rfl
      have f2 := cell_of_blk (j := 2) hh1 rfl
      have f3 := cell_of_blk (j := 3) hh1 rfl
      have f4 := cell_of_blk (j := 4) hh1 rfl
      have f5 := cell_of_blk (j := 5) hh1 rfl
      have hba : Below w13.heap.size w13 (w13.alloc (.cells #[.int .i64 m5.at_, .string (dvT m5.d), .int .i64 m5.kd, .int .i64 m5.v.a, .int .i64 m5.v.b, .int .i64 m5.v.c] 64)) := (Below.refl _ _).alloc (Nat.le_refl _) _
      have HAL := Lib.hid (own_below H14.out.ow hba)
      have HS15 := Lib.hid (H14.out.st.below hba)
      have HG15 := Lib.hid (grown_below H14.out.gr hba)
      have hbs := HG15.out.size
      have hwz := H14.out.gr.size
      clear hba hh1
      go_wp2_with (at_builtin; refine wpList_append_own2 _ rfl _ _ 57 rfl w0.heap.size 64 id0 _ 6 56 Tryz.underlying57 hid0 hzd0 hzd1 hzd2 rfl (by decide) _ _ _ rfl HAL.out ⟨_, 0, none⟩ 1 1 (mkC m5) rfl rfl ?c1 ?c2 ?c3 ?c4 ?c5 ?_)
      case c1 => exact fun j u h => cells_add (Cells.new _ _ _ _ _ rfl) j u h
      case c2 => exact mkC_one m5
      case c3 => unfold maxLen; omega
      case c4 => omega
      case c5 => first | omega | (simp only [World.size_alloc] at *; omega)
      intro v16 w16 ho16 hg16 hm16
      obtain ⟨A3, c3, rfl⟩ := own_slice ho16
      have HR3 := Lib.hid (show ∃ M : List Mk, (∀ m ∈ M, MkRw m) ∧ M.length = n + 1 ∧ w16.ownsRow w0.heap.size 64 6 (.slice A3 (n + 1) c3) (n + 1) (recs mkC M) ∧ Strm w16 p xs k13 ∧ w0.grownBy w16 (some p) from
        ⟨M ++ [m5], fun m hm => by
          rcases List.mem_append.1 hm with h | h
          · exact HM.out.1 m h
          · rw [List.mem_singleton] at h; rw [h]; exact H14.out.ok, by rw [List.length_append, HM.out.2]; rfl, by
          have e : recs mkC (M ++ [m5]) = recs mkC M ++ mkC m5 := by simp [recs]
          rw [e]; exact ho16, HS15.out.row hg16 (fun q hq => by have := (HAL.out.lt q hq).1; omega), grown_over HG15.out ((Below.refl _ _).grown hg16 hbs (fun q hq => (HAL.out.lt q hq).1))⟩)
      clear ho16 hg16 hm16 hbs HAL
      go_wp2_with (fail)
      go_roundw
      case rel => exact ⟨j + 1, n + 1, c3, k13, z1, A3, by omega, by omega, by omega, hz2.1, by omega, rfl, by go_num, rfl, HR3⟩
      case measure => simp [intOf]; omega
    · have hltI : ¬ (j : Int) < (many : Int) := by omega
      have hjm : j = many := by omega
      have HSO := Lib.hid (sortStableM_any M n c w0.heap.size A w2 HM.out.1 HM.out.2 (by omega) HOM.out)
      go_wp2_with (fail)
      refine HSO.out.mono ?_
      rintro e w3 ⟨rfl, M2, hp2, hl2, ho2, hg2⟩
      have HM2 := Lib.hid (show ∀ m ∈ M2, MkRw m from fun m hm => HM.out.1 m (hp2.mem_iff.1 hm))
      have HL2 := Lib.hid hl2
      have HO2 := Lib.hid ho2
      have hsz := HGM.out.size
      have HS2 := Lib.hid (HSM.out.row hg2 (fun q hq => by have := (HOM.out.lt q hq).1; omega))
      have HG2 := Lib.hid (grown_over HGM.out ((Below.refl _ _).grown hg2 hsz (fun q hq => (HOM.out.lt q hq).1)))
      clear hp2 hl2 ho2 hg2 HSO
      go_wp2_with (fail)
      refine (flip_any w3 p k xs 60 (by omega) (by omega) (by omega) HS2.out).mono ?_
      rintro e w4 ⟨fb, rfl, hs4, hg4⟩
      have HO4 := Lib.hid (own_pM HO2.out hp0 hg4)
      have HS4 := Lib.hid hs4
      have HG4 := Lib.hid (grown_trans HG2.out hg4)
      have hsz4 := HG4.out.size
      clear hs4 hg4
      cases fb with
      | true =>
        have HF := Lib.hid (show MaPost many w p k0 xs (.returned (.slice A n c)) w4 from ⟨M2, A, n, c, k + 1, HM2.out, HL2.out, by omega, by omega, rfl, own_mono HO4.out HSZ.out.1, HS4.out, grown_trans H0.out.1 HG4.out⟩)
        go_wp2_with (fail)
        go_ret
        exact HF.out
      | false =>
        have HCO := Lib.hid (compactM_any M2 n c w0.heap.size A w4 HM2.out HL2.out (by omega) HO4.out)
        go_wp2_with (fail)
        refine HCO.out.mono ?_
        rintro e w5 ⟨M3, q, rfl, hl5, hq5, hm5, ho5, hg5⟩
        have HF := Lib.hid (show MaPost many w p k0 xs (.returned (.slice A q c)) w5 from ⟨M3, A, q, c, k + 1, fun m hm => HM2.out m (hm5 m hm), hl5, by omega, by omega, rfl, own_mono ho5 HSZ.out.1, HS4.out.row hg5 (fun q hq => by have := (HO4.out.lt q hq).1; omega), grown_trans H0.out.1 (grown_over HG4.out ((Below.refl _ _).grown hg5 hsz4 (fun q hq => (HO4.out.lt q hq).1)))⟩)
        clear hl5 hq5 hm5 ho5 hg5
        go_wp2_with (fail)
        go_ret
        exact HF.out
end Go.Proofs.YtidgicbhgnbidaaGreatDoor
