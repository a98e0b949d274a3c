/- Several texts in one: NdL. -/
import Derived.Test.YtldohjamiofkpaaGreatDoorMgF
import Derived.Test.YtldohjamiofkpaaGreatDoorMgE
import Derived.Test.YtldohjamiofkpaaGreatDoorMgA

/- NoticesAreDue: the law function. -/
namespace Go.Proofs.YtldohjamiofkpaaGreatDoor
open Go.RowKit

theorem row_ownN {α : Type} {f : α → List Value} {k : Nat} {w : World} {base n c : Nat} {e : TypeId} {A : Option Addr} {l : List α} (ho : w.ownsRow base e k (.slice A n c) n (recs f l)) (hn : l.length = n) : Row w w.heap.size A (recs f l) := by
  rcases own_two ho with ⟨rfl, h0, _⟩ | ⟨g, rfl, _, hlt⟩
  · have : l = [] := List.eq_nil_of_length_eq_zero (by omega)
    subst this
    exact .inl rfl
  · exact .inr ⟨g, 0, rfl, hlt, own_cells0 ho⟩
theorem nt_cells {w : World} {b o : Nat} {l : List Nt} (h : Cells w b o (recs ntC l)) (i : Nat) (x : Nt) (hx : l[i]? = some x) : w.cell? ⟨b, o + i * 6, none⟩ = some (.int .i64 x.at_) ∧ w.cell? ⟨b, o + i * 6 + 1, none⟩ = some (.string (aldT x.d)) ∧ w.cell? ⟨b, o + i * 6 + 2, none⟩ = some (.string (alrT x.r)) ∧ w.cell? ⟨b, o + i * 6 + 3, none⟩ = some (.string (tmT x.t)) ∧ w.cell? ⟨b, o + i * 6 + 4, none⟩ = some (.string (alwT x.b)) ∧ w.cell? ⟨b, o + i * 6 + 5, none⟩ = some (.int .i64 x.k) :=
  ⟨rec_cell ntC_len h i x hx 0 _ rfl, rec_cell ntC_len h i x hx 1 _ rfl, rec_cell ntC_len h i x hx 2 _ rfl, rec_cell ntC_len h i x hx 3 _ rfl, rec_cell ntC_len h i x hx 4 _ rfl, rec_cell ntC_len h i x hx 5 _ rfl⟩
set_option maxRecDepth 100000 in
set_option maxHeartbeats 8000000 in
theorem ndL_yes (w : World) (xs : List Int) (n c : Nat) (A0 : Option Addr) (hs : ∀ (W : World), Below w.heap.size w W → W.heap[w.heap.size]? = some (.cells #[.slice A0 n c, .int .i64 0] 25) → Strm W w.heap.size xs 0) (hT : RkW w) :
    Calls Tryz.prog 3 #[.slice A0 n c] w fun e w' => e = .returned (.bool true) ∧ Below w.heap.size w w' := by
  have HS := Lib.hid hs
  have HT := Lib.hid (fun V (hV : Below w.heap.size w V) => hT.below hV)
  clear hs hT
  go_enter Tryz.func3, Tryz.ntmps3
  go_upto_region 2 with (fail)
  generalize hW : w.alloc (.cells #[.slice A0 n c, .int .i64 0] 25) = w0
  have hsz0 : w.heap.size < w0.heap.size := by rw [← hW]; simp
  have hB0 : Below w.heap.size w w0 := hW ▸ (Below.refl _ _).alloc (Nat.le_refl _) _
  have HST0 := Lib.hid (HS.out w0 hB0 (by rw [← hW]; exact heap_new w _))
  have HB0 := Lib.hid hB0
  clear hW hB0 HS
  obtain ⟨p, ep⟩ : ∃ p, p = w.heap.size := ⟨_, rfl⟩
  have hpw : w.heap.size ≤ p := by omega
  rw [← ep] at HST0 hsz0 ⊢
  clear ep
  go_wp2_with (fail)
  refine (range_nat w0 p 0 10 xs (by omega) (by omega) HST0.out).mono ?_
  have hNl := nextN_lt xs 0 11 (by omega)
  obtain ⟨N, eN⟩ : ∃ N, N = nextN xs 0 11 := ⟨_, rfl⟩
  rw [← eN] at hNl ⊢
  clear eN
  rintro e w1 ⟨rfl, hst1, hg1⟩
  have HST1 := Lib.hid hst1
  have HB1 := Lib.hid (HB0.out.grown hg1 HB0.out.size (fun q hq => by cases hq; exact hpw))
  have hsz1 : p < w1.heap.size := Nat.lt_of_lt_of_le hsz0 hg1.size
  clear hst1 hg1
  go_wp2_with (fail)
  refine (signals_any w1 p 1 N xs (by omega) (by omega) HST1.out).mono ?_
  rintro e w2 ⟨l, A, cl, k2, m, rfl, hG, hlen, hmN, ho, hst2, hk2, hg2⟩
  have HB2 := Lib.hid (HB1.out.grown hg2 HB1.out.size (fun q hq => by cases hq; exact hpw))
  have hs2 := hg2.size
  have HO2 := Lib.hid ho
  have HST2 := Lib.hid hst2
  have HLN := Lib.hid hlen
  have HGG := Lib.hid hG
  clear ho hst2 hg2 hlen hG
  have hm10 : m ≤ 10 := by omega
  go_wp2_with (fail)
  refine (ladders_any w2 p k2 xs (by omega) HST2.out).mono ?_
  rintro e w3 ⟨D, DA, dc, k3, dn, rfl, hDG, hDlen, hd2, hDo, hDI, hst3, hk3, hg3⟩
  have HB3 := Lib.hid (HB2.out.grown hg3 HB2.out.size (fun q hq => by cases hq; exact hpw))
  have hs3 := hg3.size
  have HO3 := Lib.hid (own_kept HO2.out hg3 (by omega))
  have HD3 := Lib.hid (And.intro hDo hDI)
  have HDL := Lib.hid (And.intro hDlen hDG)
  have HST3 := Lib.hid hst3
  clear hDo hDI hst3 hg3 hDlen hDG HO2
  go_wp2_with (fail)
  refine (shifts_any w3 p k3 xs (by omega) HST3.out).mono ?_
  rintro e w4 ⟨S, SA, sc, k4, sn, rfl, hSG, hSlen, hsn6, hSo, hst4, hk4, hg4⟩
  have HB4 := Lib.hid (HB3.out.grown hg4 HB3.out.size (fun q hq => by cases hq; exact hpw))
  have HO4 := Lib.hid (own_kept HO3.out hg4 (by omega))
  have HD4 := Lib.hid (And.intro (own_kept HD3.out.1 hg4 (by omega)) (HD3.out.2.kept hg4 (by omega)))
  have HSL := Lib.hid hSlen
  have HROW := Lib.hid (fun (V : World) (hV : Below w4.heap.size w4 V) => show Row V V.heap.size A (recs sgC l) from ((row_ownN HO4.out HLN.out).below hV).mono hV.size)
  have HDROW := Lib.hid (fun (V : World) (hV : Below w4.heap.size w4 V) => show Row V V.heap.size DA (recs ldC D) from ((row_ownN HD4.out.1 HDL.out.1).below hV).mono hV.size)
  have HDROW2 := Lib.hid (fun (V : World) (hV : Below w4.heap.size w4 V) (x : Ld) (hx : x ∈ D) => show Row V V.heap.size x.A (recs rgC x.g) from ((row_ownN (HD4.out.2.row x hx) rfl).below hV).mono hV.size)
  have HSROW := Lib.hid (fun (V : World) (hV : Below w4.heap.size w4 V) => show Row V V.heap.size SA (recs sfC S) from ((row_ownN hSo HSL.out).below hV).mono hV.size)
  clear hSo hst4 hg4 hSlen hSG HO3 HD3 HO4 HD4 HST3 HST2
  go_wp2_with (fail)
  refine (sigsFault_any l m cl A w4 HLN.out (by omega) (HROW.out w4 (Below.refl _ _)) HGG.out).mono ?_
  rintro e w5 ⟨z, rfl, hz, hb5⟩
  have HZ := Lib.hid hz
  have HB5 := Lib.hid hb5
  have hs5 := hb5.size
  clear hb5 hz
  by_cases hz0 : z = 0
  case neg =>
    have hzb : (z != 0) = true := by simpa using hz0
    have HBW := Lib.hid (HB4.out.trans (HB5.out.mono HB4.out.size))
    have HR := Lib.hid (ready1_yes w5 (HT.out _ HBW.out))
    go_wp2_with (fail)
    refine HR.out.mono ?_
    rintro e w6 ⟨rfl, hb6⟩
    have HF := Lib.hid (HBW.out.trans (hb6.mono HBW.out.size))
    clear hb6
    go_wp2_with (fail)
    go_ret
    exact ⟨rfl, HF.out⟩
  subst hz0
  have HOK := Lib.hid (HZ.out rfl)
  go_wp2_with (fail)
  refine (ladFault_any D dn dc DA w5 HDL.out.1 (by omega) (HDROW.out w5 HB5.out) (HDROW2.out w5 HB5.out) HDL.out.2).mono ?_
  rintro e w6 ⟨z, rfl, hz, hb6⟩
  have HZ2 := Lib.hid hz
  have HB6 := Lib.hid (HB5.out.trans (hb6.mono HB5.out.size))
  have hs6 := hb6.size
  clear hb6 hz
  by_cases hz0 : z = 0
  case neg =>
    have hzb : (z != 0) = true := by simpa using hz0
    have HBW := Lib.hid (HB4.out.trans (HB6.out.mono HB4.out.size))
    have HR := Lib.hid (ready1_yes w6 (HT.out _ HBW.out))
    go_wp2_with (fail)
    refine HR.out.mono ?_
    rintro e w7 ⟨rfl, hb7⟩
    have HF := Lib.hid (HBW.out.trans (hb7.mono HBW.out.size))
    clear hb7
    go_wp2_with (fail)
    go_ret
    exact ⟨rfl, HF.out⟩
  subst hz0
  have HDOK := Lib.hid (HZ2.out rfl)
  go_wp2_with (fail)
  refine (sftFault_any S sn sc SA w6 HSL.out (by omega) (HSROW.out w6 HB6.out)).mono ?_
  rintro e w7 ⟨z, rfl, hz, hb7⟩
  have HZ3 := Lib.hid hz
  have HB7 := Lib.hid (HB6.out.trans (hb7.mono HB6.out.size))
  have hs7 := hb7.size
  clear hb7 hz
  by_cases hz0 : z = 0
  case neg =>
    have hzb : (z != 0) = true := by simpa using hz0
    have HBW := Lib.hid (HB4.out.trans (HB7.out.mono HB4.out.size))
    have HR := Lib.hid (ready1_yes w7 (HT.out _ HBW.out))
    go_wp2_with (fail)
    refine HR.out.mono ?_
    rintro e w8 ⟨rfl, hb8⟩
    have HF := Lib.hid (HBW.out.trans (hb8.mono HBW.out.size))
    clear hb8
    go_wp2_with (fail)
    go_ret
    exact ⟨rfl, HF.out⟩
  subst hz0
  have HSOK := Lib.hid (HZ3.out rfl)
  go_wp2_with (fail)
  refine (notices_any l m cl A D dn dc DA S sn sc SA w7 HOK.out HLN.out (by omega) (HROW.out w7 HB7.out) HDL.out.1 (by omega) (HDROW.out w7 HB7.out) (HDROW2.out w7 HB7.out) HDOK.out HSL.out (by omega) (HSROW.out w7 HB7.out) HSOK.out).mono ?_
  rintro e w8 ⟨Q, QA, qc, q, rfl, hQn, hQo, hQt, hq, hb8⟩
  have hs8 := hb8.size
  have HB8 := Lib.hid (HB7.out.trans (hb8.mono HB7.out.size))
  have HQR := Lib.hid (fun (V : World) (hV : Below w8.heap.size w8 V) => show Row V V.heap.size QA (recs ntC Q) from ((row_ownN hQo hQn).below hV).mono hV.size)
  have HQN := Lib.hid hQn
  have HQT := Lib.hid hQt
  have HAO := Lib.hid (fun (V : World) (hV : Below w4.heap.size w4 V) (d r : Nat) (t : Int) (hd : NmOk (d, r)) (ht0 : 0 ≤ t) (ht1 : t < 345686400000) => alarmOf_any l m cl d r t A V HOK.out HLN.out (by omega) (HROW.out V hV) hd ht0 ht1)
  have HOC := Lib.hid (fun (V : World) (hV : Below w4.heap.size w4 V) (t : Nat) (mo : Int) (ht : t ≠ 2) (h0 : 0 ≤ mo) (h1 : mo < 345686400000) => onCall_any S sn sc t mo SA V HSL.out (by omega) (HSROW.out V hV) HSOK.out ht h0 h1)
  have HBW8 := Lib.hid (HB4.out.trans (HB8.out.mono HB4.out.size))
  clear hQn hQo hQt hb8
  go_wp2_with (fail)
  go_loopw [53] (fun s wr => ∃ (i : Nat), i ≤ q ∧ s = .int .i64 (i : Int) ∧ Below w8.heap.size w8 wr) (fun s _ => q - (intOf s).toNat)
  case atStart => exact ⟨0, by omega, rfl, Below.refl _ _⟩
  case round =>
    obtain ⟨i, hin, rfl, hbr⟩ := hrel
    have hbs := hbr.size
    have HB := Lib.hid hbr
    have HB48 := Lib.hid (HB8.out.trans (hbr.mono HB8.out.size))
    have HBW := Lib.hid (HBW8.out.trans (hbr.mono HBW8.out.size))
    clear hbr
    by_cases hlt : i < q
    · have hltI : (i : Int) < q := by omega
      obtain ⟨z, hz⟩ : ∃ z, Q[i]? = some z := ⟨_, List.getElem?_eq_getElem (by have := HQN.out; omega)⟩
      obtain ⟨b, o, rfl, hb, hC⟩ := (HQR.out wr HB.out).posR ntC_len (by omega) (by have := HQN.out; omega)
      obtain ⟨z0, z1, z2, z3, z4, z5⟩ := nt_cells hC i z hz
      obtain ⟨hnm, u, hu, htd⟩ := HQT.out z (List.mem_of_getElem? hz)
      obtain ⟨g1, g2, g3, g4⟩ := told_right HOK.out hu htd.f htd.u htd.as_
      have HTD := Lib.hid (And.intro htd.t htd.b)
      have HZA := Lib.hid (And.intro g3 g4)
      clear hz hC hu htd g3 g4
      go_upto_region 11 with (fail)
      obtain ⟨g, eg⟩ : ∃ g, g = wr.heap.size := ⟨_, rfl⟩
      obtain ⟨w9, e9⟩ : ∃ V : World, V = wr.alloc (.cells #[.int .i64 z.at_, .string (aldT z.d), .string (alrT z.r), .string (tmT z.t), .string (alwT z.b), .int .i64 z.k] 44) := ⟨_, rfl⟩
      rw [← eg, ← e9]
      have hb9 : Below wr.heap.size wr w9 := by rw [e9]; exact (Below.refl _ _).alloc (Nat.le_refl _) _
      have hg9 : w9.heap[g]? = some (.cells #[.int .i64 z.at_, .string (aldT z.d), .string (alrT z.r), .string (tmT z.t), .string (alwT z.b), .int .i64 z.k] 44 (0, 0)) := by rw [e9, eg]; exact heap_new wr _
      have hlt9 := (Array.getElem?_eq_some_iff.1 hg9).1
      have HG9 := Lib.hid hg9
      have hs9 := hb9.size
      have HB9 := Lib.hid (HB.out.trans (hb9.mono hbs))
      have HB49 := Lib.hid (HB48.out.trans (hb9.mono HB48.out.size))
      have y0 := cell_of_blk (j := 0) hg9 rfl
      have y1 := cell_of_blk (j := 1) hg9 rfl
      have y2 := cell_of_blk (j := 2) hg9 rfl
      obtain ⟨⟨ad, ar, a1, a2, a3, a4⟩, ha⟩ : ∃ a, a = viewL (lifeAt l z.at_ (z.d, z.r)) z.at_ := ⟨_, rfl⟩
      have HAO1 := Lib.hid (HAO.out w9 HB49.out z.d z.r z.at_ hnm g1 g2)
      unfold AlOfP at HAO1
      rw [← ha] at HAO1 HZA
      simp only at HAO1 HZA
      obtain ⟨rfl, rfl⟩ := HZA.out
      clear hg9 hb9 e9 eg z0 z1 z2 z3 z4 z5 ha
      go_wp2_with (fail)
      refine HAO1.out.mono ?_
      rintro e w10 ⟨rfl, hb10⟩
      have hs10 := hb10.size
      have HB10 := Lib.hid (HB9.out.trans (hb10.mono HB9.out.size))
      have HG10 := Lib.hid ((hb10.block g hlt9).trans HG9.out)
      have HB410 := Lib.hid (HB49.out.trans (hb10.mono HB49.out.size))
      clear hb10 y0 y1 y2
      have hlt10 : g < w10.heap.size := by omega
      go_upto_region 12 with (fail)
      obtain ⟨g', eg⟩ : ∃ g, g = w10.heap.size := ⟨_, rfl⟩
      obtain ⟨w11, e11⟩ : ∃ V : World, V = w10.alloc (.cells #[.string (aldT ad), .string (alrT ar), .int .i64 1, .int .i64 a2, .int .i64 a3, .int .i64 0] 46) := ⟨_, rfl⟩
      rw [← eg, ← e11]
      have hb11 : Below w10.heap.size w10 w11 := by rw [e11]; exact (Below.refl _ _).alloc (Nat.le_refl _) _
      have hg11 : w11.heap[g']? = some (.cells #[.string (aldT ad), .string (alrT ar), .int .i64 1, .int .i64 a2, .int .i64 a3, .int .i64 0] 46 (0, 0)) := by rw [e11, eg]; exact heap_new w10 _
      have hlt11' := (Array.getElem?_eq_some_iff.1 hg11).1
      have HG11' := Lib.hid hg11
      have hs11 := hb11.size
      have HB11 := Lib.hid (HB10.out.trans (hb11.mono HB10.out.size))
      have HB411 := Lib.hid (HB410.out.trans (hb11.mono HB410.out.size))
      have hg11b := (hb11.block g hlt10).trans HG10.out
      have HG11 := Lib.hid hg11b
      have y0 := cell_of_blk (j := 0) hg11b rfl
      have y3 := cell_of_blk (j := 3) hg11b rfl
      have hlt11 : g < w11.heap.size := by omega
      have HOC1 := Lib.hid (HOC.out w11 HB411.out z.t z.at_ HTD.out.1 g1 g2)
      rw [← HTD.out.2] at HOC1
      clear hg11 hb11 hg11b e11 eg
      go_wp2_with (fail)
      refine HOC1.out.mono ?_
      rintro e w12 ⟨t, rfl, ht, hb12⟩
      have hs12 := hb12.size
      have HB12 := Lib.hid (HB11.out.trans (hb12.mono HB11.out.size))
      have hg12 := (hb12.block g hlt11).trans HG11.out
      have hg12' := (hb12.block g' hlt11').trans HG11'.out
      have y4 := cell_of_blk (j := 4) hg12 rfl
      have x2 := cell_of_blk (j := 2) hg12' rfl
      have x5 := cell_of_blk (j := 5) hg12' rfl
      have hlt12 : g < w12.heap.size := by omega
      have hlt12' : g' < w12.heap.size := by omega
      obtain ⟨sb, esb⟩ : ∃ sb, sb = alwT z.b := ⟨_, rfl⟩
      rw [← esb] at ht y4 ⊢
      have hss : (sb.toList != sb.toList) = false := by simp
      subst ht
      clear hb12 hg12 hg12' y0 y3 esb
      go_wp2_with (fail)
      go_roundw
      case rel => exact ⟨i + 1, by omega, by go_num, HB12.out⟩
      case measure => simp [intOf]; omega
    · have hltI : ¬ (i : Int) < q := by omega
      have HR := Lib.hid (ready1_yes wr (HT.out _ HBW.out))
      go_wp2_with (fail)
      refine HR.out.mono ?_
      rintro e w9 ⟨rfl, hb9⟩
      have HF := Lib.hid (HBW.out.trans (hb9.mono HBW.out.size))
      clear hb9
      go_wp2_with (fail)
      go_ret
      exact ⟨rfl, HF.out⟩
end Go.Proofs.YtldohjamiofkpaaGreatDoor
