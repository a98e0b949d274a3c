/- place.Stays by its contract. -/
import Derived.Test.YthplhibdapjjgaaGreatDoorFxE
import Derived.Test.YthplhibdapjjgaaGreatDoorDel
import Derived.Deep.DeepCutAuto
namespace Go.Proofs.YthplhibdapjjgaaGreatDoor
open Go.RowKit

theorem Tryz.infoSty : (Tryz.prog.info? 84).map (fun i => (i.zero, i.size, i.bytes)) = some (some (.agg #[.int .i64 0, .int .i64 0, .int .i64 0, .int .i64 0]), 4, 32) := by kernel_rfl
theorem sq2_le {x y : Fx} (hx : OkF x) (hy : OkF y) : 0 ≤ sq2 x.2.1 x.2.2.1 y.2.1 y.2.2.1 ∧ sq2 x.2.1 x.2.2.1 y.2.1 y.2.2.1 ≤ 800000000 := by
  have := hx.x0; have := hx.x1; have := hx.y0; have := hx.y1
  have := hy.x0; have := hy.x1; have := hy.y0; have := hy.y1
  have s1 := sqr_le (a := x.2.1 - y.2.1) (B := 20000) (by omega) (by omega)
  have s2 := sqr_le (a := x.2.2.1 - y.2.2.1) (B := 20000) (by omega) (by omega)
  unfold sq2
  omega

set_option maxRecDepth 100000 in
set_option maxHeartbeats 8000000 in
theorem stays_any (l : List Fx) (n c : Nat) (A : Option Addr) (near long : Int) (w : World) (hn : l.length = n) (hg : GoodF l) (hr : Row w w.heap.size A (recs fxC l)) (h1 : 0 ≤ near) (h2 : near ≤ 10000) (h3 : 1 ≤ long) (h4 : long ≤ 1000000) :
    Calls Tryz.prog 13 #[.slice A n c, .int .i64 near, .int .i64 long] w fun e w' => ∃ (v : Value) (S : List Sty), e = .returned (.tuple #[v, .int .i64 0]) ∧ StOk l near long S ∧ S.length ≤ n ∧ w'.ownsRow w.heap.size 84 4 v S.length (recs stC S) ∧ Below w.heap.size w w' := by
  obtain ⟨i0, hi0, hz0, hz1, hz2⟩ := info_parts Tryz.infoSty
  have hn2 : n ≤ 100 := by rw [← hn]; exact hg.len
  have HR := Lib.hid hr
  have HG := Lib.hid hg
  have HN := Lib.hid hn
  have hnn := sqr_le (a := near) (B := 10000) (by omega) h2
  obtain ⟨nn, enn⟩ : ∃ nn, nn = near * near := ⟨_, rfl⟩
  rw [← enn] at hnn
  have HNN := Lib.hid enn
  have hwn : IntKind.i64.wrap (near * near) = nn := by rw [← enn, IntKind.wrap_i64]; omega
  clear hr hg hn enn
  go_enter Tryz.func13, Tryz.ntmps13
  go_wp2_with (fail)
  refine (trackFault_any l n c A w HN.out HG.out HR.out).mono ?_
  rintro e w1 ⟨rfl, hb1⟩
  have hs1 := hb1.size
  have HR1 := Lib.hid ((HR.out.below hb1).mono hs1)
  have HB1 := Lib.hid hb1
  clear hb1 HR
  go_wp2_with (go_at_call 41; refine (out_no _ _ _ _ (by omega) (by omega)).mono ?_; rintro e w' ⟨rfl, rfl⟩)
  go_loopw [9, 10] (fun v i wr => ∃ (k : Nat) (S : List Sty), k ≤ n ∧ i = .int .i64 (k : Int) ∧ StInv l near long k S ∧ wr.ownsRow w1.heap.size 84 4 v S.length (recs stC S) ∧ Below w1.heap.size w1 wr) (fun _ i _ => n - (intOf i).toNat)
  case atStart => exact ⟨0, [], Nat.zero_le _, rfl, StInv.start _ _ _, World.ownsRow_nil _ _ _ _, Below.refl _ _⟩
  case round =>
    obtain ⟨i, S, hi, rfl, hinv, hown, hbl⟩ := hrel
    have hsz := hbl.size
    have HINV := Lib.hid hinv
    have HBL := Lib.hid hbl
    obtain ⟨m, em⟩ : ∃ m, m = S.length := ⟨_, rfl⟩
    rw [← em] at hown
    have HM := Lib.hid em
    have hmi : m ≤ i := by rw [em]; exact hinv.len
    have HOWN := Lib.hid hown
    by_cases hlt : i < n
    · obtain ⟨b, o, rfl, hb, hcs⟩ := Row.posR fxC_len (by omega) HR1.out (by have := HN.out; omega)
      obtain ⟨x, hx⟩ : ∃ x, l[i]? = some x := ⟨_, List.getElem?_eq_getElem (by have := HN.out; omega)⟩
      have hox := HG.out.get hx
      have HX := Lib.hid hx
      have HOX := Lib.hid hox
      have HCS := Lib.hid (fun (V : World) (hV : Below w1.heap.size w1 V) => hcs.keep (hV.block b hb))
      have hlt' : (i : Int) < (n : Int) := by omega
      have hi0' : (0 : Int) ≤ (i : Int) := by omega
      have hw1 : IntKind.i64.wrap ((i : Int) + 1) = (i : Int) + 1 := by rw [IntKind.wrap_i64]; omega
      clear hinv hbl hown em hcs hx hox
      go_wp2_with (fail)
      obtain ⟨wo, rfl⟩ : ∃ wo : World, wo = wr := ⟨_, rfl⟩
      go_loopw [11] (fun s wi => ∃ k : Nat, i < k ∧ k ≤ n ∧ s = .int .i64 (k : Int) ∧ (∀ (j : Nat) (y : Fx), i ≤ j → j < k → l[j]? = some y → sq2 x.2.1 x.2.2.1 y.2.1 y.2.2.1 ≤ near * near) ∧ Below wo.heap.size wo wi) (fun s _ => n - (intOf s).toNat)
      case atStart =>
        refine ⟨i + 1, by omega, by omega, by go_num, ?_, Below.refl _ _⟩
        intro j y hj1 hj2 hy
        obtain rfl : j = i := by omega
        rw [HX.out] at hy
        injection hy with hy
        rw [← hy]
        have : sq2 x.2.1 x.2.2.1 x.2.1 x.2.2.1 = 0 := by simp [sq2]
        rw [this, ← HNN.out]
        exact hnn.1
      case round =>
        obtain ⟨k, hk1, hk2, rfl, hall, hbi⟩ := hrel
        have hsi := hbi.size
        have HBI := Lib.hid hbi
        have HALL := Lib.hid hall
        have hdd : ∀ z : Int, decide (z < z) = false := by simp
        clear hall hbi
        go_upto_region 10 with (fail)
        go_cut [50] (fun s wx => ∃ bb : Bool, s = .bool bb ∧ (bb = true → k < n ∧ ∀ y, l[k]? = some y → sq2 x.2.1 x.2.2.1 y.2.1 y.2.2.1 ≤ near * near) ∧ Below wr.heap.size wr wx)
        case first =>
          by_cases hkn : k < n
          · obtain ⟨y, hy⟩ : ∃ y, l[k]? = some y := ⟨_, List.getElem?_eq_getElem (by have := HN.out; omega)⟩
            have hcr := HCS.out wr (HBL.out.trans (HBI.out.mono hsz))
            obtain ⟨s0, s1, s2, s3, s4⟩ := fix_cells hcr i x HX.out
            obtain ⟨t0, t1, t2, t3, t4⟩ := fix_cells hcr k y hy
            have hoy := HG.out.get hy
            have hsq := sq2_le HOX.out hoy
            have HSQ := Lib.hid (fun V => square_any x.2.1 x.2.2.1 y.2.1 y.2.2.1 V ⟨HOX.out.x0, HOX.out.x1⟩ ⟨HOX.out.y0, HOX.out.y1⟩ ⟨hoy.x0, hoy.x1⟩ ⟨hoy.y0, hoy.y1⟩)
            have HSI := Lib.hid (fun V => spot_any x V)
            have HSK := Lib.hid (fun V => spot_any y V)
            obtain ⟨q, eq⟩ : ∃ q, q = sq2 x.2.1 x.2.2.1 y.2.1 y.2.2.1 := ⟨_, rfl⟩
            rw [← eq] at hsq HSQ
            have HQ := Lib.hid eq
            have HY := Lib.hid hy
            obtain ⟨xa, xx, xy, xe⟩ := x
            obtain ⟨ya, yx, yy, ye⟩ := y
            unfold fxV at HSI HSK
            simp only at s1 s2 s3 s4 t1 t2 t3 t4 HSQ HSI HSK
            have hk' : (k : Int) < (n : Int) := by omega
            have hk0 : (0 : Int) ≤ (k : Int) := by omega
            have hd : decide ((k : Int) < (n : Int)) = true := by simp; omega
            have hbw : b < wr.heap.size := by omega
            have hwk : IntKind.i64.wrap ((k : Int) + 1) = (k : Int) + 1 := by rw [IntKind.wrap_i64]; omega
            have HPR := Lib.hid (show decide (q ≤ nn) = true → k < n ∧ ∀ y', l[k]? = some y' → sq2 xx xy y'.2.1 y'.2.2.1 ≤ near * near from fun h => ⟨hkn, fun y' hy' => by
              rw [HY.out] at hy'
              injection hy' with hy'
              rw [← hy', ← HNN.out]
              have h1 := HQ.out
              have h2 := of_decide_eq_true h
              simp only at h1 ⊢
              omega⟩)
            have HKEEP := Lib.hid (fun (V : World) (hV : Below wr.heap.size wr V) => show V.cell? ⟨b, o + i * 5, none⟩ = some (.string ⟨#[100]⟩) ∧ V.cell? ⟨b, o + i * 5 + 1, none⟩ = some (.int .i64 xa) ∧ V.cell? ⟨b, o + i * 5 + 2, none⟩ = some (.int .i64 xx) ∧ V.cell? ⟨b, o + i * 5 + 3, none⟩ = some (.int .i64 xy) ∧ V.cell? ⟨b, o + i * 5 + 4, none⟩ = some (.int .i64 xe) ∧
                V.cell? ⟨b, o + k * 5, none⟩ = some (.string ⟨#[100]⟩) ∧ V.cell? ⟨b, o + k * 5 + 1, none⟩ = some (.int .i64 ya) ∧ V.cell? ⟨b, o + k * 5 + 2, none⟩ = some (.int .i64 yx) ∧ V.cell? ⟨b, o + k * 5 + 3, none⟩ = some (.int .i64 yy) ∧ V.cell? ⟨b, o + k * 5 + 4, none⟩ = some (.int .i64 ye) from
              ⟨(hV.cell (p := ⟨b, o + i * 5, none⟩) hbw).trans s0, (hV.cell (p := ⟨b, o + i * 5 + 1, none⟩) hbw).trans s1, (hV.cell (p := ⟨b, o + i * 5 + 2, none⟩) hbw).trans s2, (hV.cell (p := ⟨b, o + i * 5 + 3, none⟩) hbw).trans s3, (hV.cell (p := ⟨b, o + i * 5 + 4, none⟩) hbw).trans s4,
                (hV.cell (p := ⟨b, o + k * 5, none⟩) hbw).trans t0, (hV.cell (p := ⟨b, o + k * 5 + 1, none⟩) hbw).trans t1, (hV.cell (p := ⟨b, o + k * 5 + 2, none⟩) hbw).trans t2, (hV.cell (p := ⟨b, o + k * 5 + 3, none⟩) hbw).trans t3, (hV.cell (p := ⟨b, o + k * 5 + 4, none⟩) hbw).trans t4⟩)
            clear hcr hy hoy eq
            go_region_held3 (fun V => V.cell? ⟨b, o + i * 5, none⟩ = some (.string ⟨#[100]⟩) ∧ V.cell? ⟨b, o + i * 5 + 1, none⟩ = some (.int .i64 xa) ∧ V.cell? ⟨b, o + i * 5 + 2, none⟩ = some (.int .i64 xx) ∧ V.cell? ⟨b, o + i * 5 + 3, none⟩ = some (.int .i64 xy) ∧ V.cell? ⟨b, o + i * 5 + 4, none⟩ = some (.int .i64 xe) ∧
                V.cell? ⟨b, o + k * 5, none⟩ = some (.string ⟨#[100]⟩) ∧ V.cell? ⟨b, o + k * 5 + 1, none⟩ = some (.int .i64 ya) ∧ V.cell? ⟨b, o + k * 5 + 2, none⟩ = some (.int .i64 yx) ∧ V.cell? ⟨b, o + k * 5 + 3, none⟩ = some (.int .i64 yy) ∧ V.cell? ⟨b, o + k * 5 + 4, none⟩ = some (.int .i64 ye))
              (first | go_keep | (exact hS))
              (first
                | (go_at_call 48; refine (HSQ.out _).mono ?_; rintro e wC ⟨rfl, hbC⟩; have hB3 := hB2.trans (hbC.mono hB2.size); have hS := HKEEP.out wC hB3)
                | (go_at_call 44; refine (HSI.out _).mono ?_; rintro e wA ⟨rfl, hbA⟩; have hB1 := ((Below.refl wr.heap.size wr).drew).trans hbA; have hS := HKEEP.out wA hB1)
                | (go_at_call 44; refine (HSK.out _).mono ?_; rintro e wB ⟨rfl, hbB⟩; have hB2 := hB1.trans (hbB.mono hB1.size); have hS := HKEEP.out wB hB2))
            all_goals
              go_wp2_with (fail)
              go_meet
              exact ⟨decide (q ≤ nn), by first | rfl | simp, HPR.out, hB3⟩
          · obtain rfl : k = n := by omega
            have hd : decide ((k : Int) < (k : Int)) = false := by simp
            go_quiet (fail)
            go_wp2_with (fail)
            go_meet
            exact ⟨false, rfl, by simp, below_drewN (Below.refl _ _) _⟩
        case rest =>
          obtain ⟨bb, rfl, hbb, hbx⟩ := hcut
          obtain ⟨wx, rfl⟩ : ∃ wx : World, wx = wc := ⟨_, rfl⟩
          have HBX := Lib.hid (HBI.out.trans (hbx.mono hsi))
          have HBB := Lib.hid hbb
          have hk0 : (0 : Int) ≤ (k : Int) := by omega
          have hwk : IntKind.i64.wrap ((k : Int) + 1) = (k : Int) + 1 := by rw [IntKind.wrap_i64]; omega
          clear hbx hbb
          cases bb with
          | true =>
            have hkn := (HBB.out rfl).1
            go_wp2_with (fail)
            go_roundw
            case rel =>
              refine ⟨k + 1, by omega, by omega, by go_num, ?_, HBX.out⟩
              intro j y hj1 hj2 hy
              rcases Nat.lt_or_ge j k with hjk | hjk
              · exact HALL.out j y hj1 hjk hy
              · obtain rfl : j = k := by omega
                exact (HBB.out rfl).2 y hy
            case measure => simp [intOf]; omega
          | false =>
            obtain ⟨r, rfl⟩ : ∃ r, k = r + 1 := ⟨k - 1, by omega⟩
            obtain ⟨z, hz⟩ : ∃ z, l[r]? = some z := ⟨_, List.getElem?_eq_getElem (by have := HN.out; omega)⟩
            have HBW := Lib.hid (HBL.out.trans (HBX.out.mono hsz))
            have hcr := HCS.out wx HBW.out
            obtain ⟨s0, s1, s2, s3, s4⟩ := fix_cells hcr i x HX.out
            obtain ⟨t0, t1, t2, t3, t4⟩ := fix_cells hcr r z hz
            have hzo := HG.out.get hz
            have hbz : 0 ≤ z.1 ∧ z.1 ≤ 100000 := ⟨hzo.at0, hzo.at1⟩
            have hbx' : 0 ≤ x.1 ∧ x.1 ≤ 100000 := ⟨HOX.out.at0, HOX.out.at1⟩
            have HSTEP := Lib.hid (fun (h : long ≤ z.1 - x.1) => HINV.out.step HG.out (show i ≤ r by omega) x z HX.out hz h (by omega) (fun j y hj1 hj2 hy => HALL.out j y hj1 (by omega) hy))
            have HSI := Lib.hid (fun V => spot_any x V)
            have hsx := HBX.out.size
            have hbw : b < wx.heap.size := by have := HBW.out.size; omega
            obtain ⟨xa, xx, xy, xe⟩ := x
            obtain ⟨za, zx, zy, ze⟩ := z
            unfold fxV at HSI
            simp only at s1 s2 s3 s4 t1 t2 t3 t4 HSI HSTEP hbz hbx'
            have hcast : ((r + 1 : Nat) : Int) = (r : Int) + 1 := by omega
            have hwr : IntKind.i64.wrap (r : Int) = (r : Int) := by rw [IntKind.wrap_i64]; omega
            have hrn : (r : Int) < (n : Int) := by omega
            have hrn' : r < n := by omega
            have hwd : IntKind.i64.wrap (za - xa) = za - xa := by rw [IntKind.wrap_i64]; omega
            clear hcr hz hzo
            go_upto_region 13 with (fail)
            generalize hV : wx.alloc (.cells #[.string ⟨#[100]⟩, .int .i64 za, .int .i64 zx, .int .i64 zy, .int .i64 ze] 42) = V
            have hVs : V.heap.size = wx.heap.size + 1 := by rw [← hV]; simp
            have hvb : V.heap[wx.heap.size]? = some (.cells #[.string ⟨#[100]⟩, .int .i64 za, .int .i64 zx, .int .i64 zy, .int .i64 ze] 42) := by rw [← hV]; exact heap_new wx _
            have hBV : Below wx.heap.size wx V := hV ▸ (Below.refl _ _).alloc (Nat.le_refl _) _
            have v1 := cell_of_blk (j := 1) hvb rfl
            have e0 := (hBV.cell (p := ⟨b, o + i * 5, none⟩) hbw).trans s0
            have e1 := (hBV.cell (p := ⟨b, o + i * 5 + 1, none⟩) hbw).trans s1
            have e2 := (hBV.cell (p := ⟨b, o + i * 5 + 2, none⟩) hbw).trans s2
            have e3 := (hBV.cell (p := ⟨b, o + i * 5 + 3, none⟩) hbw).trans s3
            have e4 := (hBV.cell (p := ⟨b, o + i * 5 + 4, none⟩) hbw).trans s4
            have hbV : b < V.heap.size := by omega
            have hgl : wx.heap.size < V.heap.size := by omega
            have HBV := Lib.hid (HBX.out.trans (hBV.mono hsx))
            have HKEEP := Lib.hid (fun (U : World) (hU : Below V.heap.size V U) => show U.cell? ⟨b, o + i * 5, none⟩ = some (.string ⟨#[100]⟩) ∧ U.cell? ⟨b, o + i * 5 + 1, none⟩ = some (.int .i64 xa) ∧ U.cell? ⟨b, o + i * 5 + 2, none⟩ = some (.int .i64 xx) ∧ U.cell? ⟨b, o + i * 5 + 3, none⟩ = some (.int .i64 xy) ∧ U.cell? ⟨b, o + i * 5 + 4, none⟩ = some (.int .i64 xe) ∧ U.cell? ⟨wx.heap.size, 1, none⟩ = some (.int .i64 za) from
              ⟨(hU.cell (p := ⟨b, o + i * 5, none⟩) hbV).trans e0, (hU.cell (p := ⟨b, o + i * 5 + 1, none⟩) hbV).trans e1, (hU.cell (p := ⟨b, o + i * 5 + 2, none⟩) hbV).trans e2, (hU.cell (p := ⟨b, o + i * 5 + 3, none⟩) hbV).trans e3, (hU.cell (p := ⟨b, o + i * 5 + 4, none⟩) hbV).trans e4, (hU.cell (p := ⟨wx.heap.size, 1, none⟩) hgl).trans v1⟩)
            clear hV hvb hBV s0 s1 s2 s3 s4 t0 t1 t2 t3 t4
            by_cases hl : long ≤ za - xa
            · have HST := Lib.hid (HSTEP.out hl)
              have HNW := Lib.hid (fun (U : World) => Cells.new U #[.int .i64 xa, .int .i64 za, .int .i64 xx, .int .i64 xy] 84 (0, 0) (stC (xa, za, xx, xy)) rfl)
              have HOA := Lib.hid (fun (U : World) (hU : Below V.heap.size V U) => own_below HOWN.out (HBV.out.trans (hU.mono (by have := HBV.out.size; omega))))
              have HBA := Lib.hid (fun (U U' : World) (hU : Below V.heap.size V U) (hg : U.grownBy U' u9.ownBlock) => show Below w1.heap.size w1 U' from
                (HBL.out.trans ((HBV.out.trans (hU.mono (by have := HBV.out.size; omega))).mono hsz)).grown hg (by have := HBL.out.size; have := HBV.out.size; have := hU.size; omega) (fun k hk => (HOWN.out.lt k hk).1))
              have HKA := Lib.hid (fun (U U' : World) (hU : Below V.heap.size V U) (hg : U.grownBy U' u9.ownBlock) => show U'.cell? ⟨b, o + i * 5, none⟩ = some (.string ⟨#[100]⟩) ∧ U'.cell? ⟨b, o + i * 5 + 1, none⟩ = some (.int .i64 xa) ∧ U'.cell? ⟨b, o + i * 5 + 2, none⟩ = some (.int .i64 xx) ∧ U'.cell? ⟨b, o + i * 5 + 3, none⟩ = some (.int .i64 xy) ∧ U'.cell? ⟨b, o + i * 5 + 4, none⟩ = some (.int .i64 xe) ∧ U'.cell? ⟨wx.heap.size, 1, none⟩ = some (.int .i64 za) from by
                have hk := HKEEP.out U hU
                have hn1 : some b ≠ u9.ownBlock := fun e => by have := (HOWN.out.lt b e.symm).1; omega
                have hn2 : some wx.heap.size ≠ u9.ownBlock := fun e => by have := (HOWN.out.lt _ e.symm).2; omega
                exact ⟨hg.cell hk.1 hn1, hg.cell hk.2.1 hn1, hg.cell hk.2.2.1 hn1, hg.cell hk.2.2.2.1 hn1, hg.cell hk.2.2.2.2.1 hn1, hg.cell hk.2.2.2.2.2 hn2⟩)
              go_quiet (fail)
              go_upto_region 14 with (fail)
              go_cut [9] (fun s9 wy => ∃ A9 c9, s9 = .slice A9 (m + 1) c9 ∧ wy.ownsRow w1.heap.size 84 4 (.slice A9 (m + 1) c9) (m + 1) (recs stC (S ++ [(xa, za, xx, xy)])) ∧ Below w1.heap.size w1 wy)
              case first =>
                go_region_held3 (fun U => U.cell? ⟨b, o + i * 5, none⟩ = some (.string ⟨#[100]⟩) ∧ U.cell? ⟨b, o + i * 5 + 1, none⟩ = some (.int .i64 xa) ∧ U.cell? ⟨b, o + i * 5 + 2, none⟩ = some (.int .i64 xx) ∧ U.cell? ⟨b, o + i * 5 + 3, none⟩ = some (.int .i64 xy) ∧ U.cell? ⟨b, o + i * 5 + 4, none⟩ = some (.int .i64 xe) ∧ U.cell? ⟨wx.heap.size, 1, none⟩ = some (.int .i64 za))
                  (first | go_keep | (exact hS))
                  (first
                    | (go_at_call 44; refine (HSI.out _).mono ?_; rintro e wA ⟨rfl, hbA⟩; have hB1 := (Below.drew (below_drewN (Below.refl V.heap.size V) _)).trans hbA; have hS := HKEEP.out wA hB1)
                    | (refine step_append_row rfl (.tmp 68) (.tmp 82) 48 rfl w1.heap.size 84 i0 _ 4 32 Tryz.underlying48 hi0 hz0 hz1 hz2 rfl (by decide) u9 m (recs stC S) (by simp [Act.eval]) ((HOA.out wA hB1).alloc _) ⟨wA.heap.size, 0, none⟩ 1 1 (stC (xa, za, xx, xy)) (by simp [Act.eval]) rfl (cells_add (HNW.out _)) (stC_one _) (by unfold maxLen; omega) (by omega) (by have h1 := hB1.size; have h2 := HBL.out.size; have h3 := HBV.out.size; simp; omega) ?_; intro v' w' q1 q2; have hBE := HBA.out _ w' (hB1.alloc hB1.size _) q2; have hS := HKA.out _ w' (hB1.alloc hB1.size _) q2; obtain ⟨A9, c9, hv⟩ := own_slice q1; subst hv))
                all_goals
                  go_wp2_with (fail)
                  go_meet
                  exact ⟨_, _, rfl, by rw [recs_snoc]; exact q1, hBE⟩
              case rest =>
                obtain ⟨A9, c9, rfl, ho9, hb9⟩ := hcut
                obtain ⟨wy, rfl⟩ : ∃ wy : World, wy = wc := ⟨_, rfl⟩
                have HO9 := Lib.hid ho9
                have HB9 := Lib.hid hb9
                have hl1 : (S ++ [(xa, za, xx, xy)]).length = m + 1 := by simp [← HM.out]
                clear ho9 hb9
                go_wp2_with (fail)
                go_roundw
                case rel => exact ⟨r + 1, S ++ [(xa, za, xx, xy)], hk2, by go_num, HST.out, by rw [hl1]; exact HO9.out, HB9.out⟩
                case measure => simp [intOf]; omega
            · go_quiet (fail)
              go_wp2_with (fail)
              go_roundw
              case rel =>
                refine ⟨i + 1, S, by omega, by go_num, HINV.out.skip, ?_, below_drewN (HBL.out.trans (HBV.out.mono hsz)) _⟩
                rw [← HM.out]
                exact own_drewN (own_below HOWN.out HBV.out) _
              case measure => simp [intOf]; omega
    · have hin : i = n := by omega
      subst hin
      obtain ⟨A7, c7, rfl⟩ := own_slice hown
      clear hinv hbl hown em
      go_wp2_with (fail)
      go_ret2
      refine ⟨_, S, rfl, HINV.out.ok, HINV.out.len, ?_, HB1.out.trans (HBL.out.mono hs1)⟩
      rw [← HM.out]
      exact own_mono HOWN.out hs1
end Go.Proofs.YthplhibdapjjgaaGreatDoor
