/- PlacesStay: the law function. -/
import Derived.Test.YthplhibdapjjgaaGreatDoorGnF
import Derived.Test.YthplhibdapjjgaaGreatDoorGnT
import Derived.Test.YthplhibdapjjgaaGreatDoorMgD
import Derived.Test.YthplhibdapjjgaaGreatDoorMgF
import Derived.Test.YthplhibdapjjgaaGreatDoorMrM
import Derived.Test.YthplhibdapjjgaaGreatDoorFxS
import Derived.Test.YthplhibdapjjgaaGreatDoorTpG
import Derived.Test.YthplhibdapjjgaaGreatDoorFeJ
import Derived.Test.YthplhibdapjjgaaGreatDoorMgA
namespace Go.Proofs.YthplhibdapjjgaaGreatDoor
open Go.RowKit

theorem fcAt_grown {w w' : World} {l : List Pt} {n c b o p : Nat} (h : FcAt w l n c b o) (hg : w.grownBy w' (some p)) (hb : b ≠ p) : FcAt w' l n c b o :=
  ⟨h.ok, h.len, h.cap, h.cells.keep (hg.block b h.lt (by intro e; injection e with e; omega)), Nat.lt_of_lt_of_le h.lt hg.size⟩
theorem trk_nar {l : List Fx} {j : Nat} {a : Int} (h : Trk l j a) : ∀ x ∈ l, NarF x := fun x hx => by
  have := h.ok x hx
  exact ⟨by omega, by omega, by omega, by omega⟩
/-- A second stream over the list that the first one reads. -/
def Str2 (w : World) (p q : Nat) (xs : List Int) (k : Nat) : Prop :=
  xs.length ≤ 17592186044416 ∧ ∃ A c, SBlk w q A xs.length c k ∧ Row w p A (xs.map (Value.int .i64))
theorem Str2.of {w : World} {p q : Nat} {xs : List Int} {k : Nat} (h : Strm w p xs k) (hq : w.heap[q]? = w.heap[p]?) : Str2 w p q xs k := by
  obtain ⟨h1, A, c, h2, h3⟩ := h
  exact ⟨h1, A, c, hq.trans h2, h3⟩
theorem Str2.strm {w : World} {p q : Nat} {xs : List Int} {k : Nat} (h : Str2 w p q xs k) (hpq : p ≤ q) : Strm w q xs k := by
  obtain ⟨h1, A, c, h2, h3⟩ := h
  exact ⟨h1, A, c, h2, h3.mono hpq⟩
theorem Str2.keep {w w' : World} {p q : Nat} {xs : List Int} {k : Nat} (h : Str2 w p q xs k) (hq : w'.heap[q]? = w.heap[q]?) (hb : ∀ b, b < p → w'.heap[b]? = w.heap[b]?) : Str2 w' p q xs k := by
  obtain ⟨h1, A, c, h2, h3⟩ := h
  exact ⟨h1, A, c, hq.trans h2, h3.keep hb⟩
theorem Str2.grown {w w' : World} {p q : Nat} {xs : List Int} {k : Nat} (h : Str2 w p q xs k) (hg : w.grownBy w' (some p)) (hpq : p ≠ q) (hq : q < w.heap.size) (hp : p < w.heap.size) : Str2 w' p q xs k :=
  h.keep (hg.block q hq (fun e => hpq (Option.some.inj e).symm)) (fun b hb => hg.block b (by omega) (fun e => by injection e with e; omega))
theorem Str2.below {w w' : World} {p q : Nat} {xs : List Int} {k : Nat} (h : Str2 w p q xs k) (hb : Below w.heap.size w w') (hq : q < w.heap.size) (hp : p < w.heap.size) : Str2 w' p q xs k :=
  h.keep (hb.block q hq) (fun b hb2 => hb.block b (by omega))
set_option maxRecDepth 100000 in
set_option maxHeartbeats 8000000 in
theorem pyL_yes (w : World) (xs : List Int) (n c : Nat) (A : Option Addr) (hs : ∀ (W : World), Below w.heap.size w W → W.heap[w.heap.size]? = some (.cells #[.slice A n c, .int .i64 0] 25) → Strm W w.heap.size xs 0) :
    Calls Tryz.prog 3 #[.slice A n c] w fun e w' => e = .returned (.bool true) ∧ Below w.heap.size w w' := by
  have HS := Lib.hid hs
  clear hs
  go_enter Tryz.func3, Tryz.ntmps3
  go_wp2_with (fail)
  obtain ⟨p, ep⟩ : ∃ p, p = w.heap.size := ⟨_, rfl⟩
  obtain ⟨q, eq⟩ : ∃ q, q = w.heap.size + 1 := ⟨_, rfl⟩
  obtain ⟨W, hW⟩ : ∃ W, W = (w.alloc (.cells #[.slice A n c, .int .i64 0] 25)).alloc (.cells #[.slice A n c, .int .i64 0] 25) := ⟨_, rfl⟩
  have hB0 : Below w.heap.size w W := by rw [hW]; exact ((Below.refl _ _).alloc (Nat.le_refl _) _).alloc (by simp) _
  have hWs : W.heap.size = w.heap.size + 1 + 1 := by rw [hW]; simp
  have hp0 : W.heap[w.heap.size]? = some (.cells #[.slice A n c, .int .i64 0] 25) := by rw [hW, Below.heap_alloc _ _ _ (by simp)]; exact heap_new w _
  have hq0 : W.heap[w.heap.size + 1]? = some (.cells #[.slice A n c, .int .i64 0] 25) := by
    rw [hW]
    have := heap_new (w.alloc (.cells #[.slice A n c, .int .i64 0] 25)) (.cells #[.slice A n c, .int .i64 0] 25)
    simpa using this
  have HS0 := Lib.hid (HS.out W hB0 hp0)
  have HT0 := Lib.hid (Str2.of HS0.out (q := w.heap.size + 1) (hq0.trans hp0.symm))
  have HB0 := Lib.hid hB0
  rw [← eq, ← ep, ← hW]
  rw [← eq] at HT0
  rw [← ep] at HS0 HT0 HB0
  have hpq : p < q := by omega
  have hqW : q < W.heap.size := by omega
  have HP := Lib.hid ep
  clear hW hB0 HS hp0 hq0 ep eq hWs
  refine (rightFenceX_any W p 0 xs (by omega) HS0.out).mono ?_
  rintro e w1 ⟨l, n1, c1, b1, k1, hfe1, rfl, hf1, hb1, hB1, hn1, hst1, hk1, hg1⟩
  have HFE1 := Lib.hid hfe1
  have HF1 := Lib.hid hf1
  have HST1 := Lib.hid hst1
  have HG1 := Lib.hid hg1
  have HT1 := Lib.hid (HT0.out.grown hg1 (by omega) (by omega) (by omega))
  have hs1 := hg1.size
  clear hf1 hst1 hg1 HS0 HT0 hfe1 hB1
  unfold fcV
  go_wp2_with (fail)
  refine (rightTrackX_any w1 p k1 9 xs (by omega) (by omega) HST1.out).mono ?_
  rintro e w2 ⟨v2, X, a2, k2, hX, rfl, htr2, hl2, ha2, ho2, hst2, hk2, hg2⟩
  obtain ⟨N, eN⟩ : ∃ N, N = X.length := ⟨_, rfl⟩
  rw [← eN] at ho2 hl2
  obtain ⟨A2, c2, rfl⟩ := own_slice ho2
  have hs2 := hg2.size
  have HX := Lib.hid hX.1
  have HN := Lib.hid eN.symm
  have HGF := Lib.hid (htr2.good (by omega) (by omega))
  have HNR := Lib.hid (trk_nar htr2)
  have HO2 := Lib.hid ho2
  have HF2 := Lib.hid (fcAt_grown HF1.out hg2 (by omega))
  have HG2 := Lib.hid (grown_trans HG1.out hg2)
  have HT2 := Lib.hid (HT1.out.grown hg2 (by omega) (by omega) (by omega))
  clear hX htr2 ho2 hst2 hg2 HF1 HG1 HT1 HST1 eN
  go_wp2_with (fail)
  obtain ⟨gf, egf⟩ : ∃ g, g = w2.heap.size := ⟨_, rfl⟩
  obtain ⟨w3, e3⟩ : ∃ w3, w3 = w2.alloc (.cells #[.string ⟨#[102]⟩, .slice (some ⟨b1, 0, none⟩) n1 c1] 28) := ⟨_, rfl⟩
  have hb3 : Below w2.heap.size w2 w3 := by rw [e3]; exact (Below.refl _ _).alloc (Nat.le_refl _) _
  have hg3 : w3.heap[gf]? = some (.cells #[.string ⟨#[102]⟩, .slice (some ⟨b1, 0, none⟩) n1 c1] 28 (0, 0)) := by rw [e3, egf]; exact heap_new w2 _
  have hs3 : w3.heap.size = gf + 1 := by rw [e3, egf]; simp
  have HGF3 := Lib.hid hg3
  have HF3 := Lib.hid (HF2.out.below hb3)
  have HO3 := Lib.hid (own_below HO2.out hb3)
  have HT3 := Lib.hid (HT2.out.below hb3 (by omega) (by omega))
  have HB3 := Lib.hid ((HB0.out.grown HG2.out (by have := HB0.out.size; have := HP.out; omega) (fun g e => by injection e with e; omega)).trans (hb3.mono (by omega)))
  rw [← egf, ← e3]
  have hgf2 : w2.heap.size ≤ gf := by omega
  clear e3 egf hb3 hg3 HF2 HO2 HT2 HG2 HB0
  refine (rightFenceX_any w3 q 0 xs (by omega) (HT3.out.strm (by omega))).mono ?_
  rintro e w4 ⟨l4, n4, c4, b4, k4, hfe4, rfl, hf4, hb4, hB4, hn4, hst4, hk4, hg4⟩
  have hle := Prod.mk.inj (HFE1.out.symm.trans hfe4)
  obtain ⟨hle1, hle2⟩ := hle
  subst hle1
  subst hle2
  obtain rfl : n1 = n4 := by rw [← HF3.out.len, hf4.len]
  have hs4 := hg4.size
  have HGF4 := Lib.hid ((hg4.block gf (by omega) (fun e => by injection e with e; omega)).trans HGF3.out)
  have HF4 := Lib.hid (fcAt_grown HF3.out hg4 (by omega))
  have HO4 := Lib.hid (own_kept HO3.out hg4 (by omega))
  have HE4 := Lib.hid hf4
  have HST4 := Lib.hid hst4
  have HB4 := Lib.hid (HB3.out.grown hg4 (by have := HB3.out.size; have := HP.out; omega) (fun g e => by injection e with e; omega))
  clear hf4 hst4 hg4 hfe4 hB4 HGF3 HF3 HO3 HT3 HB3 HFE1
  unfold fcV
  go_wp2_with (fail)
  refine (rightTrackX_any w4 q k1 9 xs (by omega) (by omega) HST4.out).mono ?_
  rintro e w5 ⟨v5, X5, a5, k5, hX5, rfl, htr5, hl5, ha5, ho5, hst5, hk5, hg5⟩
  obtain rfl : X = X5 := by rw [HX.out, hX5.1]
  have HN' := HN.out
  rw [HN'] at ho5 hl5
  obtain ⟨A5, c5, rfl⟩ := own_slice ho5
  have hs5 := hg5.size
  have HGF5 := Lib.hid ((hg5.block gf (by omega) (fun e => by injection e with e; omega)).trans HGF4.out)
  have HF5 := Lib.hid (fcAt_grown HF4.out hg5 (by omega))
  have HE5 := Lib.hid (fcAt_grown HE4.out hg5 (by omega))
  have HO5 := Lib.hid (own_kept HO4.out hg5 (by omega))
  have HP5 := Lib.hid ho5
  have HB5 := Lib.hid (HB4.out.grown hg5 (by have := HB4.out.size; have := HP.out; omega) (fun g e => by injection e with e; omega))
  clear hX5 htr5 ho5 hst5 hg5 HGF4 HF4 HE4 HO4 HST4 HB4 HX HN'
  go_upto_region 4 with (fail)
  obtain ⟨gg, egg⟩ : ∃ g, g = w5.heap.size := ⟨_, rfl⟩
  obtain ⟨w6, e6⟩ : ∃ w6, w6 = w5.alloc (.cells #[.string ⟨#[102]⟩, .slice (some ⟨b4, 0, none⟩) n1 c4] 28) := ⟨_, rfl⟩
  have hb6 : Below w5.heap.size w5 w6 := by rw [e6]; exact (Below.refl _ _).alloc (Nat.le_refl _) _
  have hg6 : w6.heap[gg]? = some (.cells #[.string ⟨#[102]⟩, .slice (some ⟨b4, 0, none⟩) n1 c4] 28 (0, 0)) := by rw [e6, egg]; exact heap_new w5 _
  have hs6 : w6.heap.size = gg + 1 := by rw [e6, egg]; simp
  rw [← egg, ← e6]
  have hgg2 : w5.heap.size ≤ gg := by omega
  have HB6 := Lib.hid (HB5.out.trans (hb6.mono (by have := HB5.out.size; have := HP.out; omega)))
  have HQ := Lib.hid (fun (V : World) (hV : Below w6.heap.size w6 V) => show V.cell? ⟨gf, 0, none⟩ = some (.string ⟨#[102]⟩) ∧ V.cell? ⟨gf, 1, none⟩ = some (.slice (some ⟨b1, 0, none⟩) n1 c1) ∧ V.cell? ⟨gg, 0, none⟩ = some (.string ⟨#[102]⟩) ∧ V.cell? ⟨gg, 1, none⟩ = some (.slice (some ⟨b4, 0, none⟩) n1 c4) from by
    have h1 := (hV.block gf (by omega)).trans ((hb6.block gf (by omega)).trans HGF5.out)
    have h2 := (hV.block gg (by omega)).trans hg6
    exact ⟨cell_of_blk (j := 0) h1 rfl, cell_of_blk (j := 1) h1 rfl, cell_of_blk (j := 0) h2 rfl, cell_of_blk (j := 1) h2 rfl⟩)
  have HF6 := Lib.hid (fun (V : World) (hV : Below w6.heap.size w6 V) => show FcAt V l n1 c1 b1 0 ∧ FcAt V l n1 c4 b4 0 ∧ V.ownsRow w1.heap.size 42 5 (.slice A2 N c2) N (recs fxC X) ∧ V.ownsRow w4.heap.size 42 5 (.slice A5 N c5) N (recs fxC X) from
    ⟨(HF5.out.below hb6).below hV, (HE5.out.below hb6).below hV, own_below (own_below HO5.out hb6) hV, own_below (own_below HP5.out hb6) hV⟩)
  have HV6 := Lib.hid (Below.refl w6.heap.size w6)
  obtain ⟨q0, q1, q2, q3⟩ := HQ.out w6 HV6.out
  clear e6 egg hb6 hg6 HGF5 HF5 HE5 HO5 HP5 HB5
  go_wp2_with (fail)
  refine (hull_any l n1 c1 b1 0 w6 (HF6.out w6 HV6.out).1 (by omega)).mono ?_
  rintro e w7 ⟨v7, n7, L7, rfl, hL7, hn7, ho7, hb7⟩
  have HV7 := Lib.hid hb7
  clear q0 q1 q2 q3
  go_wp2_with (fail)
  refine (spoilP_any L7 n7 w6.heap.size v7 w7 hL7 hn7 ho7).mono ?_
  rintro e w8 ⟨rfl, hg8⟩
  have HV8 := Lib.hid (HV7.out.grown hg8 HV7.out.size (fun g e => (ho7.lt g e).1))
  clear ho7 hb7 hg8 hL7
  go_wp2_with (fail)
  refine (mergeF_any X N c2 w1.heap.size A2 w8 HN.out (by omega) HGF.out (HF6.out w8 HV8.out).2.2.1).mono ?_
  rintro e w9 ⟨v9, n9, L9, rfl, hL9, hn9, ho9, hb9⟩
  have HV9 := Lib.hid (HV8.out.trans (hb9.mono HV8.out.size))
  go_wp2_with (fail)
  refine (spoilSf_any (recs fxC L9) n9 w8.heap.size v9 w9 (by rw [recs_length fxC_len, hL9]) hn9 ho9).mono ?_
  rintro e w10 ⟨rfl, hg10⟩
  have HV10 := Lib.hid (HV9.out.grown hg10 HV9.out.size (fun g e => Nat.le_trans HV8.out.size (ho9.lt g e).1))
  clear ho9 hb9 hg10 hL9
  go_wp2_with (fail)
  refine (ofF_any X N c2 A2 w10 HN.out (by omega) HGF.out (own_row (HF6.out w10 HV10.out).2.2.1)).mono ?_
  rintro e w11 ⟨v11, n11, L11, rfl, hL11, hn11, ho11, hb11⟩
  have HV11 := Lib.hid (HV10.out.trans (hb11.mono HV10.out.size))
  go_wp2_with (fail)
  refine (spoilSf_any (recs fxC L11) n11 w10.heap.size v11 w11 (by rw [recs_length fxC_len, hL11]) hn11 ho11).mono ?_
  rintro e w12 ⟨rfl, hg12⟩
  have HV12 := Lib.hid (HV11.out.grown hg12 HV11.out.size (fun g e => Nat.le_trans HV10.out.size (ho11.lt g e).1))
  clear ho11 hb11 hg12 hL11
  go_wp2_with (fail)
  refine (plain_any X N c2 2 A2 w12 (by omega) HN.out HGF.out HNR.out (own_row (HF6.out w12 HV12.out).2.2.1)).mono ?_
  rintro e w13 ⟨v13, B13, rfl, _, _, _, hb13⟩
  have HV13 := Lib.hid (HV12.out.trans (hb13.mono HV12.out.size))
  clear hb13
  obtain ⟨q0, q1, q2, q3⟩ := HQ.out w13 HV13.out
  go_wp2_with (fail)
  refine (meetF_any l l n1 c1 b1 0 n1 c4 b4 0 w13 (HF6.out w13 HV13.out).1 (HF6.out w13 HV13.out).2.1).mono ?_
  rintro e w14 ⟨rfl, hb14⟩
  have HV14 := Lib.hid (HV13.out.trans (hb14.mono HV13.out.size))
  generalize tcB l l = tt
  clear hb14 q0 q1 q2 q3
  go_wp2_with (fail)
  refine (stays_any X N c2 A2 2 10 w14 HN.out HGF.out (own_row (HF6.out w14 HV14.out).2.2.1) (by omega) (by omega) (by omega) (by omega)).mono ?_
  rintro e w15 ⟨v15, S15, rfl, _, _, _, hb15⟩
  have HV15 := Lib.hid (HV14.out.trans (hb15.mono HV14.out.size))
  clear hb15
  obtain ⟨q0, q1, q2, q3⟩ := HQ.out w15 HV15.out
  go_wp2_with (fail)
  refine (eqEqP_any l n1 c1 c4 (some ⟨b1, 0, none⟩) (some ⟨b4, 0, none⟩) w15 (HF6.out w15 HV15.out).1.len (by omega) (.inr ⟨b1, 0, rfl, (HF6.out w15 HV15.out).1.lt, (HF6.out w15 HV15.out).1.cells⟩) (.inr ⟨b4, 0, rfl, (HF6.out w15 HV15.out).2.1.lt, (HF6.out w15 HV15.out).2.1.cells⟩)).mono ?_
  rintro e w16 ⟨rfl, hb16⟩
  have HV16 := Lib.hid (HV15.out.trans (hb16.mono HV15.out.size))
  clear hb16 q0 q1 q2 q3
  go_wp2_with (fail)
  refine (eqEqF_any X N c2 c5 A2 A5 w16 HN.out (by omega) (own_row (HF6.out w16 HV16.out).2.2.1) (own_row (HF6.out w16 HV16.out).2.2.2)).mono ?_
  rintro e w17 ⟨rfl, hb17⟩
  have HV17 := Lib.hid (HV16.out.trans (hb17.mono HV16.out.size))
  clear hb17
  go_wp2_with (fail)
  refine (ready_yes w17).mono ?_
  rintro e w18 ⟨rfl, hb18⟩
  have HV18 := Lib.hid (HV17.out.trans (hb18.mono HV17.out.size))
  have HEND := Lib.hid (show Below w.heap.size w w18 from by
    have h := HB6.out.trans (HV18.out.mono (by have := HB6.out.size; have := HP.out; omega))
    rw [HP.out] at h
    exact h)
  clear hb18
  go_wp2_with (fail)
  go_ret
  exact ⟨rfl, HEND.out⟩
end Go.Proofs.YthplhibdapjjgaaGreatDoor
