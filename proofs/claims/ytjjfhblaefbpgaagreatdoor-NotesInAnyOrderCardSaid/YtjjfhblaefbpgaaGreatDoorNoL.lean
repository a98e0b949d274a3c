/- NotesInAnyOrder: the law function. Printed by gen_NoL.py. -/
import Derived.Test.YtjjfhblaefbpgaaGreatDoorNoC
import Derived.Test.YtjjfhblaefbpgaaGreatDoorNoX
import Derived.Test.YtjjfhblaefbpgaaGreatDoorNoS
import Derived.Test.YtjjfhblaefbpgaaGreatDoorNoE
import Derived.Test.YtjjfhblaefbpgaaGreatDoorMgA
import Derived.Test.YtjjfhblaefbpgaaGreatDoorMgB
import Derived.Deep.RegionLawGrows
import Derived.Deep.RegionHeld3
namespace Go.Proofs.YtjjfhblaefbpgaaGreatDoor
open Go.RowKit

theorem ns_snoc {l : List No} (h : NsOk l) {j : Nat} {s t c : Int} (hj : j < 3) (hl : ∀ x ∈ l, x.1 < j) (h1 : 1 ≤ s) (h2 : s ≤ 7) (h3 : 0 ≤ t) (h4 : t ≤ 2) (h5 : 0 ≤ c) (h6 : c ≤ 3) : NsOk (l ++ [(j, ⟨s, t, c⟩)]) := by
  refine ⟨?_, fun x hx => ?_⟩
  · rw [List.pairwise_append]
    exact ⟨h.1, by simp, fun x hx y hy => by rw [List.mem_singleton.1 hy]; exact hl x hx⟩
  · rcases List.mem_append.1 hx with hx | hx
    · exact h.2 x hx
    · rw [List.mem_singleton.1 hx]; exact ⟨hj, h1, h2, h3, by omega, h5, by omega⟩
theorem cell_three {V : World} {a i : Nat} {t : TypeId} {v : Nat → Value} (h : V.heap[a]? = some (.cells #[v 0, v 1, v 2] t (0, 0))) (hi : i < 3) : V.cell? ⟨a, i, none⟩ = some (v i) := by
  refine cell_of_blk (j := i) h ?_
  have : i = 0 ∨ i = 1 ∨ i = 2 := by omega
  rcases this with rfl | rfl | rfl <;> rfl
set_option maxRecDepth 100000 in
set_option maxHeartbeats 16000000 in
theorem noL_yes (w : World) (xs : List Int) (n c : Nat) (A0 : Option Addr) (hs : ∀ (W : World), Below w.heap.size w W → W.heap[w.heap.size]? = some (.cells #[.slice A0 n c, .int .i64 0] 25) → Strm W w.heap.size xs 0) (hT : TxW w) :
    Calls Tryz.prog 3 #[.slice A0 n c] w fun e w' => e = .returned (.bool true) ∧ Below w.heap.size w w' := by
  obtain ⟨i0, hi0, hz0, hz1, hz2⟩ := info_parts Tryz.infoNo
  have HS := Lib.hid hs
  have HT := Lib.hid (fun V (hV : Below w.heap.size w V) => hT.below hV)
  clear hs hT
  go_enter Tryz.func3, Tryz.ntmps3
  go_upto_region 2 with (fail)
  generalize hW : w.alloc (.cells #[.slice A0 n c, .int .i64 0] 25) = w0
  have hsz0 : w.heap.size < w0.heap.size := by rw [← hW]; simp
  have hB0 : Below w.heap.size w w0 := hW ▸ (Below.refl _ _).alloc (Nat.le_refl _) _
  have HST0 := Lib.hid (HS.out w0 hB0 (by rw [← hW]; exact heap_new w _))
  have HB0 := Lib.hid hB0
  clear hW hB0 HS
  obtain ⟨p, ep⟩ : ∃ p, p = w.heap.size := ⟨_, rfl⟩
  have hpw : w.heap.size ≤ p := by omega
  rw [← ep] at HST0 hsz0 ⊢
  clear ep
  go_upto_region 3 with (fail)
  have HI0 := Lib.hid (show GenI w (w0.heap.size + 1) p w0.heap.size xs 0 (fun _ => []) (fun _ => .slice none 0 0) (w0.alloc (.cells #[.slice none 0 0, .slice none 0 0, .slice none 0 0] 27)) from
    ⟨HST0.out.alloc _, heap_new _ _, fun m _ => World.ownsRow_nil _ _ _ _, fun m _ => ⟨List.Pairwise.nil, fun x hx => (by cases hx)⟩, fun m m' _ _ _ q hq => (by cases hq), HB0.out.alloc HB0.out.size _, by simp, hsz0, by omega, hpw⟩)
  generalize hBs : w0.heap.size + 1 = Bs at HI0
  generalize w0.alloc (.cells #[.slice none 0 0, .slice none 0 0, .slice none 0 0] 27) = w1 at HI0 ⊢
  have haB : w0.heap.size < Bs := by omega
  generalize w0.heap.size = a at HI0 haB ⊢
  clear hBs HST0 hsz0 HB0
  go_wp2_with (fail)
  go_loopw [28] (fun si wr => ∃ (i k : Nat) (l : Nat → List No) (v : Nat → Value), i ≤ 3 ∧ si = .int .i64 (i : Int) ∧ k ≤ 12 * i ∧ Hid (GenI w Bs p a xs k l v wr) ∧ Hid (∀ m, i ≤ m → m < 3 → l m = [])) (fun si _ => 3 - (intOf si).toNat)
  case atStart => exact ⟨0, 0, _, _, by omega, rfl, by omega, HI0, Lib.hid (fun m _ _ => rfl)⟩
  case round =>
    obtain ⟨i, k, l, v, hi3, rfl, hk, HI, HE⟩ := hrel
    by_cases hlt : i < 3
    · have hltI : (i : Int) < 3 := by omega
      have HIb := Lib.hid (HI.out.below ((Below.refl _ _).alloc (Nat.le_refl _) (.cells #[.string ⟨#[108, 97]⟩, .string ⟨#[108, 98]⟩, .string ⟨#[108, 99]⟩] 9)))
      have HG := Lib.hid (heap_new wr (.cells #[.string ⟨#[108, 97]⟩, .string ⟨#[108, 98]⟩, .string ⟨#[108, 99]⟩] 9))
      have hpg : p < wr.heap.size := HI.out.st.lt
      have hag : a < wr.heap.size := by have := HI.out.big; omega
      have hgB : Bs ≤ wr.heap.size := HI.out.big
      have HE2 := Lib.hid (fun m (h1 : i < m) (h2 : m < 3) => HE.out m (by omega) h2)
      have hli := HE.out i (Nat.le_refl _) hlt
      have HJ := Lib.hid (show ∀ x ∈ l i, x.1 < 0 from by rw [hli]; intro x hx; cases hx)
      clear HI HE hli
      go_upto_region 7 with (fail)
      generalize wr.alloc (.cells #[.string ⟨#[108, 97]⟩, .string ⟨#[108, 98]⟩, .string ⟨#[108, 99]⟩] 9) = w2 at HIb HG ⊢
      generalize wr.heap.size = g at HG hpg hag hgB ⊢
      go_loopw [33] (fun sj w3 => ∃ (j k : Nat) (l : Nat → List No) (v : Nat → Value), j ≤ 3 ∧ sj = .int .i64 (j : Int) ∧ k ≤ 12 * i + 4 * j ∧ Hid (GenI w Bs p a xs k l v w3) ∧ Hid (∀ m, i < m → m < 3 → l m = []) ∧ Hid (∀ x ∈ l i, x.1 < j) ∧ Hid (w3.heap[g]? = some (.cells #[.string ⟨#[108, 97]⟩, .string ⟨#[108, 98]⟩, .string ⟨#[108, 99]⟩] 9 (0, 0)))) (fun sj _ => 3 - (intOf sj).toNat)
      case atStart => exact ⟨0, k, l, v, by omega, rfl, by omega, HIb, HE2, HJ, HG⟩
      case round =>
        obtain ⟨j, k, l, v, hj3, rfl, hk2, HI, HE, HJ, HG⟩ := hrel
        by_cases hltj : j < 3
        · have hltjI : (j : Int) < 3 := by omega
          have g0 : wr.cell? ⟨g, j, none⟩ = some (.string (idT j)) := by
            have : j = 0 ∨ j = 1 ∨ j = 2 := by omega
            rcases this with rfl | rfl | rfl <;> exact cell_of_blk HG.out rfl
          go_wp2_with (fail)
          refine (flip_any wr p k xs 2 (by omega) (by omega) (by omega) HI.out.st).mono ?_
          rintro e w4 ⟨b, rfl, hst4, hg4⟩
          have HI4 := Lib.hid (HI.out.grown hg4 hst4)
          have HG4 := Lib.hid ((hg4.block g (Array.getElem?_eq_some_iff.1 HG.out).1 (by simp; omega)).trans HG.out)
          clear hst4 hg4 g0 HI HG
          cases b with
          | false =>
            go_wp2_with (fail)
            go_roundw
            case rel => exact ⟨j + 1, k + 1, l, v, by omega, by simp, by omega, HI4, HE, Lib.hid (fun x hx => by have := HJ.out x hx; omega), HG4⟩
            case measure => simp [intOf]; omega
          | true =>
            obtain ⟨vi, hvi⟩ : ∃ vi, vi = v i := ⟨_, rfl⟩
            have hci : ∀ (k' : Nat) (V : World), GenI w Bs p a xs k' l v V → V.cell? ⟨a, i, none⟩ = some vi := fun k' V h => by rw [hvi]; exact h.cell i hlt
            have HCI := Lib.hid hci
            have HVI := Lib.hid hvi
            have c4 := HCI.out _ w4 HI4.out
            have HI4d := Lib.hid (HI4.out.below ((Below.refl _ _).drew))
            have hai : a < w4.heap.size := by have := HI4.out.big; omega
            have hnl : (l i).length ≤ 3 := (HI4.out.ok i hlt).len
            clear hci hvi
            go_upto_region 10 with (fail)
            have HR1 := Lib.hid (range_in w4.drew p (k + 1) xs 1 7 (by omega) (by omega) (by omega) (by omega) HI4d.out.st)
            have HR2 := Lib.hid (fun (V : World) (h : Strm V p xs (k + 2)) => range_in V p (k + 2) xs 0 2 (by omega) (by omega) (by omega) (by omega) h)
            have HR3 := Lib.hid (fun (V : World) (h : Strm V p xs (k + 3)) => range_in V p (k + 3) xs 0 3 (by omega) (by omega) (by omega) (by omega) h)
            go_region_law (first
              | (go_simp
                 go_at_call 7
                 (with_reducible refine HR1.out.mono ?_)
                 rintro e w5 ⟨s, rfl, hs1, hs2, hst, hg⟩
                 have HI5 := Lib.hid (HI4d.out.grown hg hst)
                 have HG5 := Lib.hid ((hg.block g (Array.getElem?_eq_some_iff.1 HG4.out).1 (by simp; omega)).trans HG4.out)
                 have c5 := HCI.out _ w5 HI5.out)
              | (go_simp
                 go_at_call 7
                 (with_reducible refine (HR2.out w5 HI5.out.st).mono ?_)
                 rintro e w6 ⟨t, rfl, ht1, ht2, hst, hg⟩
                 have HI6 := Lib.hid (HI5.out.grown hg hst)
                 have HG6 := Lib.hid ((hg.block g (Array.getElem?_eq_some_iff.1 HG5.out).1 (by simp; omega)).trans HG5.out)
                 have c6 := HCI.out _ w6 HI6.out)
              | (go_simp
                 go_at_call 7
                 (with_reducible refine (HR3.out w6 HI6.out.st).mono ?_)
                 rintro e w7 ⟨u, rfl, hu1, hu2, hst, hg⟩
                 have HI7 := Lib.hid (HI6.out.grown hg hst)
                 have HG7 := Lib.hid ((hg.block g (Array.getElem?_eq_some_iff.1 HG6.out).1 (by simp; omega)).trans HG6.out)
                 have c7 := HCI.out _ w7 HI7.out
                 have HO7 := Lib.hid (show w7.ownsRow Bs 34 9 vi (l i).length (recs noC (l i)) from by rw [HVI.out]; exact HI7.out.row i hlt)
                 have hB7 : Bs ≤ w7.heap.size := HI7.out.big
                 have ha7 : a < w7.heap.size := by omega
                 have ha8 : ¬ a = w7.heap.size := by omega)
              | (refine step_append_rowM rfl (.tmp 42) (.tmp 52) 26 rfl Bs 34 i0 _ 9 96 Tryz.underlying26 hi0 hz0 hz1 hz2 rfl (by decide) vi (l i).length (recs noC (l i)) (by first | rfl | simp [Act.eval]) (HO7.out.alloc _) ⟨w7.heap.size, 0, none⟩ 1 1 (noC (j, ⟨s, t, u⟩)) (by first | rfl | simp [Act.eval]) rfl (cells_add (Cells.new _ _ _ _ _ rfl)) (noC_one _) (by unfold maxLen; omega) (by omega) (by simp; omega) ?_
                 intro v9 w9 ho9 hg9 hm9
                 obtain ⟨A9, c9, rfl⟩ := own_slice ho9
                 have hlo : ∀ q, vi.ownBlock = some q → Bs ≤ q := fun q hq => (HO7.out.lt q hq).1
                 have hA9 := (hg9.block a (by simp; omega) (fun e => by have := hlo a e.symm; omega)).trans ((((Below.refl w7.heap.size w7).alloc (Nat.le_refl _) _).block a (by omega)).trans HI7.out.blk)
                 have d9 : w9.cell? ⟨a, i, none⟩ = some vi := (HVI.out ▸ cell_three hA9 hlt)
                 have f9 : w9.frozen? ⟨a, i, none⟩ = false := Lib.frozen_of_heap hA9 i
                 have hgS : some g ≠ vi.ownBlock := own_ne HO7.out HG7.out (by decide)
                 have HG9 := Lib.hid ((hg9.block g (by have := (Array.getElem?_eq_some_iff.1 HG7.out).1; simp; omega) hgS).trans ((((Below.refl w7.heap.size w7).alloc (Nat.le_refl _) _).block g (Array.getElem?_eq_some_iff.1 HG7.out).1).trans HG7.out))
                 have HO9 := Lib.hid (show w9.ownsRow Bs 34 9 (.slice A9 ((l i).length + 1) c9) ((l i).length + 1) (recs noC (l i ++ [(j, ⟨s, t, u⟩)])) from by rw [recs_snoc]; exact ho9)
                 have HI9 := Lib.hid (GenI.set (HI7.out.below ((Below.refl w7.heap.size w7).alloc (Nat.le_refl _) _)) hlt (HVI.out ▸ hg9) (HVI.out ▸ hm9) HO9.out (ns_snoc (HI7.out.ok i hlt) hltj HJ.out hs1 hs2 ht1 ht2 hu1 hu2))
                 clear ho9 hg9 hm9 hA9 hlo hgS))
            all_goals (
              clear c4
              go_wp2_with (fail)
              go_roundw
              case rel =>
                refine ⟨j + 1, _, _, _, by omega, by simp, by omega, HI9, Lib.hid (fun m h1 h2 => ?_), Lib.hid (fun x hx => ?_), Lib.hid ?_⟩
                · rw [upd_other _ _ _ _ (by omega)]; exact HE.out m h1 h2
                · rw [upd_same] at hx
                  rcases List.mem_append.1 hx with hx | hx
                  · have := HJ.out x hx; omega
                  · rw [List.mem_singleton.1 hx]; show j < j + 1; omega
                · have hne : a ≠ g := by omega
                  simp [World.setCell, Array.getElem?_modify, hne, HG9.out]
              case measure => simp [intOf]; omega)
        · have hltjI : ¬ (j : Int) < 3 := by omega
          go_wp2_with (fail)
          go_roundw
          case rel => exact ⟨i + 1, k, l, v, by omega, by simp, by omega, HI, Lib.hid (fun m h1 h2 => HE.out m (by omega) h2)⟩
          case measure => simp [intOf]; omega
    · have hltI : ¬ (i : Int) < 3 := by omega
      have HB0 := Lib.hid HI.out.low
      obtain ⟨Ax, cx, hvx⟩ := own_slice (HI.out.row 0 (by omega))
      have HOx0 := Lib.hid (show wr.ownsRow Bs 34 9 (.slice Ax (l 0).length cx) (l 0).length (recs noC (l 0)) from hvx ▸ HI.out.row 0 (by omega))
      have HKx := Lib.hid (HI.out.ok 0 (by omega))
      obtain ⟨Ay, cy, hvy⟩ := own_slice (HI.out.row 1 (by omega))
      have HOy0 := Lib.hid (show wr.ownsRow Bs 34 9 (.slice Ay (l 1).length cy) (l 1).length (recs noC (l 1)) from hvy ▸ HI.out.row 1 (by omega))
      have HKy := Lib.hid (HI.out.ok 1 (by omega))
      obtain ⟨Az, cz, hvz⟩ := own_slice (HI.out.row 2 (by omega))
      have HOz0 := Lib.hid (show wr.ownsRow Bs 34 9 (.slice Az (l 2).length cz) (l 2).length (recs noC (l 2)) from hvz ▸ HI.out.row 2 (by omega))
      have HKz := Lib.hid (HI.out.ok 2 (by omega))
      have HA0 := Lib.hid (show wr.heap[a]? = some (.cells #[.slice Ax (l 0).length cx, .slice Ay (l 1).length cy, .slice Az (l 2).length cz] 27 (0, 0)) from by rw [← hvx, ← hvy, ← hvz]; exact HI.out.blk)
      clear hvx hvy hvz HI HE HI0
      obtain ⟨w0, ew⟩ : ∃ w0 : World, w0 = wr := ⟨_, rfl⟩
      rw [← ew] at HB0 HA0 HOx0 HOy0 HOz0 ⊢
      clear ew
      generalize l 0 = x at HA0 HOx0 HKx
      have h3x : x.length ≤ 3 := HKx.out.len
      obtain ⟨nx, en⟩ : ∃ n, n = x.length := ⟨_, rfl⟩
      have HNx := Lib.hid en.symm
      rw [← en] at HA0 HOx0 h3x
      clear en
      generalize l 1 = y at HA0 HOy0 HKy
      have h3y : y.length ≤ 3 := HKy.out.len
      obtain ⟨ny, en⟩ : ∃ n, n = y.length := ⟨_, rfl⟩
      have HNy := Lib.hid en.symm
      rw [← en] at HA0 HOy0 h3y
      clear en
      generalize l 2 = z at HA0 HOz0 HKz
      have h3z : z.length ≤ 3 := HKz.out.len
      obtain ⟨nz, en⟩ : ∃ n, n = z.length := ⟨_, rfl⟩
      have HNz := Lib.hid en.symm
      rw [← en] at HA0 HOz0 h3z
      clear en
      have a0 := cell_of_blk (j := 0) HA0.out rfl
      have a1 := cell_of_blk (j := 1) HA0.out rfl
      have a2 := cell_of_blk (j := 2) HA0.out rfl
      go_wp2_with (fail)
      clear a0 a1 a2
      refine (mergeN_any (x) (y) nx ny cx cy Ax Ay w0 HKx.out HKy.out HNx.out HNy.out (own_cap HOx0.out) (own_cap HOy0.out) (own_ly HOx0.out) (own_ly HOy0.out) (HT.out _ HB0.out).u8).mono ?_
      rintro e w1 ⟨Ap, cp, np, rfl, hn, ho, hb⟩
      have HKp := Lib.hid (jnN_ok HKx.out HKy.out)
      have HNp := Lib.hid hn
      have h3p : np ≤ 3 := by rw [← hn]; exact HKp.out.len
      clear hn
      have HB1 := Lib.hid (HB0.out.trans (hb.mono HB0.out.size))
      have HA1 := Lib.hid ((hb.block a (Array.getElem?_eq_some_iff.1 HA0.out).1).trans HA0.out)
      have HOx1 := Lib.hid (own_belowP HOx0.out hb)
      have HOy1 := Lib.hid (own_belowP HOy0.out hb)
      have HOz1 := Lib.hid (own_belowP HOz0.out hb)
      have HOp1 := Lib.hid ho
      clear ho
      clear hb
      have a0 := cell_of_blk (j := 0) HA1.out rfl
      have a1 := cell_of_blk (j := 1) HA1.out rfl
      have a2 := cell_of_blk (j := 2) HA1.out rfl
      go_wp2_with (fail)
      clear a0 a1 a2
      refine (mergeN_any (y) (x) ny nx cy cx Ay Ax w1 HKy.out HKx.out HNy.out HNx.out (own_cap HOy1.out) (own_cap HOx1.out) (own_ly HOy1.out) (own_ly HOx1.out) (HT.out _ HB1.out).u8).mono ?_
      rintro e w2 ⟨Aq, cq, nq, rfl, hn, ho, hb⟩
      have HKq := Lib.hid (jnN_ok HKy.out HKx.out)
      rw [jnN_turn HKy.out HKx.out] at hn ho
      clear HKq
      have HKq := HKp
      have HNq := Lib.hid hn
      have h3q : nq ≤ 3 := by rw [← hn]; exact HKq.out.len
      clear hn
      have HB2 := Lib.hid (HB1.out.trans (hb.mono HB1.out.size))
      have HA2 := Lib.hid ((hb.block a (Array.getElem?_eq_some_iff.1 HA1.out).1).trans HA1.out)
      have HOx2 := Lib.hid (own_belowP HOx1.out hb)
      have HOy2 := Lib.hid (own_belowP HOy1.out hb)
      have HOz2 := Lib.hid (own_belowP HOz1.out hb)
      have HOp2 := Lib.hid (own_belowP HOp1.out hb)
      have HOq2 := Lib.hid ho
      clear ho
      clear hb
      have a0 := cell_of_blk (j := 0) HA2.out rfl
      have a1 := cell_of_blk (j := 1) HA2.out rfl
      have a2 := cell_of_blk (j := 2) HA2.out rfl
      go_wp2_with (fail)
      clear a0 a1 a2
      refine (mergeN_any (y) (z) ny nz cy cz Ay Az w2 HKy.out HKz.out HNy.out HNz.out (own_cap HOy2.out) (own_cap HOz2.out) (own_ly HOy2.out) (own_ly HOz2.out) (HT.out _ HB2.out).u8).mono ?_
      rintro e w3 ⟨Ar, cr, nr, rfl, hn, ho, hb⟩
      have HKr := Lib.hid (jnN_ok HKy.out HKz.out)
      have HNr := Lib.hid hn
      have h3r : nr ≤ 3 := by rw [← hn]; exact HKr.out.len
      clear hn
      have HB3 := Lib.hid (HB2.out.trans (hb.mono HB2.out.size))
      have HA3 := Lib.hid ((hb.block a (Array.getElem?_eq_some_iff.1 HA2.out).1).trans HA2.out)
      have HOx3 := Lib.hid (own_belowP HOx2.out hb)
      have HOy3 := Lib.hid (own_belowP HOy2.out hb)
      have HOz3 := Lib.hid (own_belowP HOz2.out hb)
      have HOp3 := Lib.hid (own_belowP HOp2.out hb)
      have HOq3 := Lib.hid (own_belowP HOq2.out hb)
      have HOr3 := Lib.hid ho
      clear ho
      clear hb
      have a0 := cell_of_blk (j := 0) HA3.out rfl
      have a1 := cell_of_blk (j := 1) HA3.out rfl
      have a2 := cell_of_blk (j := 2) HA3.out rfl
      go_wp2_with (fail)
      clear a0 a1 a2
      refine (mergeN_any (jnN (x) (y)) (z) np nz cp cz Ap Az w3 HKp.out HKz.out HNp.out HNz.out (own_cap HOp3.out) (own_cap HOz3.out) (own_ly HOp3.out) (own_ly HOz3.out) (HT.out _ HB3.out).u8).mono ?_
      rintro e w4 ⟨As, cs, ns, rfl, hn, ho, hb⟩
      have HKs := Lib.hid (jnN_ok HKp.out HKz.out)
      have HNs := Lib.hid hn
      have h3s : ns ≤ 3 := by rw [← hn]; exact HKs.out.len
      clear hn
      have HB4 := Lib.hid (HB3.out.trans (hb.mono HB3.out.size))
      have HA4 := Lib.hid ((hb.block a (Array.getElem?_eq_some_iff.1 HA3.out).1).trans HA3.out)
      have HOx4 := Lib.hid (own_belowP HOx3.out hb)
      have HOy4 := Lib.hid (own_belowP HOy3.out hb)
      have HOz4 := Lib.hid (own_belowP HOz3.out hb)
      have HOp4 := Lib.hid (own_belowP HOp3.out hb)
      have HOq4 := Lib.hid (own_belowP HOq3.out hb)
      have HOr4 := Lib.hid (own_belowP HOr3.out hb)
      have HOs4 := Lib.hid ho
      clear ho
      clear hb
      have a0 := cell_of_blk (j := 0) HA4.out rfl
      have a1 := cell_of_blk (j := 1) HA4.out rfl
      have a2 := cell_of_blk (j := 2) HA4.out rfl
      go_wp2_with (fail)
      clear a0 a1 a2
      refine (mergeN_any (x) (jnN (y) (z)) nx nr cx cr Ax Ar w4 HKx.out HKr.out HNx.out HNr.out (own_cap HOx4.out) (own_cap HOr4.out) (own_ly HOx4.out) (own_ly HOr4.out) (HT.out _ HB4.out).u8).mono ?_
      rintro e w5 ⟨At, ct, nt, rfl, hn, ho, hb⟩
      have HKt := Lib.hid (jnN_ok HKx.out HKr.out)
      rw [← jnN_assoc HKx.out HKy.out HKz.out] at hn ho
      clear HKt
      have HKt := HKs
      have HNt := Lib.hid hn
      have h3t : nt ≤ 3 := by rw [← hn]; exact HKt.out.len
      clear hn
      have HB5 := Lib.hid (HB4.out.trans (hb.mono HB4.out.size))
      have HA5 := Lib.hid ((hb.block a (Array.getElem?_eq_some_iff.1 HA4.out).1).trans HA4.out)
      have HOx5 := Lib.hid (own_belowP HOx4.out hb)
      have HOy5 := Lib.hid (own_belowP HOy4.out hb)
      have HOz5 := Lib.hid (own_belowP HOz4.out hb)
      have HOp5 := Lib.hid (own_belowP HOp4.out hb)
      have HOq5 := Lib.hid (own_belowP HOq4.out hb)
      have HOr5 := Lib.hid (own_belowP HOr4.out hb)
      have HOs5 := Lib.hid (own_belowP HOs4.out hb)
      have HOt5 := Lib.hid ho
      clear ho
      clear hb
      have a0 := cell_of_blk (j := 0) HA5.out rfl
      have a1 := cell_of_blk (j := 1) HA5.out rfl
      have a2 := cell_of_blk (j := 2) HA5.out rfl
      go_wp2_with (fail)
      clear a0 a1 a2
      refine (mergeN_any (jnN (jnN (x) (y)) (z)) (y) ns ny cs cy As Ay w5 HKs.out HKy.out HNs.out HNy.out (own_cap HOs5.out) (own_cap HOy5.out) (own_ly HOs5.out) (own_ly HOy5.out) (HT.out _ HB5.out).u8).mono ?_
      rintro e w6 ⟨Au, cu, nu, rfl, hn, ho, hb⟩
      have HKu := Lib.hid (jnN_ok HKs.out HKy.out)
      rw [jnN_again HKx.out HKy.out HKz.out] at hn ho
      clear HKu
      have HKu := HKs
      have HNu := Lib.hid hn
      have h3u : nu ≤ 3 := by rw [← hn]; exact HKu.out.len
      clear hn
      have HB6 := Lib.hid (HB5.out.trans (hb.mono HB5.out.size))
      have HA6 := Lib.hid ((hb.block a (Array.getElem?_eq_some_iff.1 HA5.out).1).trans HA5.out)
      have HOx6 := Lib.hid (own_belowP HOx5.out hb)
      have HOy6 := Lib.hid (own_belowP HOy5.out hb)
      have HOz6 := Lib.hid (own_belowP HOz5.out hb)
      have HOp6 := Lib.hid (own_belowP HOp5.out hb)
      have HOq6 := Lib.hid (own_belowP HOq5.out hb)
      have HOr6 := Lib.hid (own_belowP HOr5.out hb)
      have HOs6 := Lib.hid (own_belowP HOs5.out hb)
      have HOt6 := Lib.hid (own_belowP HOt5.out hb)
      have HOu6 := Lib.hid ho
      clear ho
      clear hb
      have a0 := cell_of_blk (j := 0) HA6.out rfl
      have a1 := cell_of_blk (j := 1) HA6.out rfl
      have a2 := cell_of_blk (j := 2) HA6.out rfl
      go_wp2_with (fail)
      clear a0 a1 a2
      refine (textN_any (jnN (jnN (x) (y)) (z)) ns cs As w6 HKs.out HNs.out (own_ly HOs6.out) (HT.out _ HB6.out)).mono ?_
      rintro e w7 ⟨rfl, hb⟩
      have HB7 := Lib.hid (HB6.out.trans (hb.mono HB6.out.size))
      have HA7 := Lib.hid ((hb.block a (Array.getElem?_eq_some_iff.1 HA6.out).1).trans HA6.out)
      have HOx7 := Lib.hid (own_belowP HOx6.out hb)
      have HOy7 := Lib.hid (own_belowP HOy6.out hb)
      have HOz7 := Lib.hid (own_belowP HOz6.out hb)
      have HOp7 := Lib.hid (own_belowP HOp6.out hb)
      have HOq7 := Lib.hid (own_belowP HOq6.out hb)
      have HOr7 := Lib.hid (own_belowP HOr6.out hb)
      have HOs7 := Lib.hid (own_belowP HOs6.out hb)
      have HOt7 := Lib.hid (own_belowP HOt6.out hb)
      have HOu7 := Lib.hid (own_belowP HOu6.out hb)
      clear hb
      have a0 := cell_of_blk (j := 0) HA7.out rfl
      have a1 := cell_of_blk (j := 1) HA7.out rfl
      have a2 := cell_of_blk (j := 2) HA7.out rfl
      go_wp2_with (fail)
      clear a0 a1 a2
      refine (readN_any (jnN (jnN (x) (y)) (z)) w7 HKs.out (HT.out _ HB7.out)).mono ?_
      rintro e w8 ⟨Av, nv, cv, rfl, hn, ho, hb⟩
      have HNv := Lib.hid hn.symm
      have h3v : nv ≤ 3 := by rw [hn]; exact HKs.out.len
      clear hn
      have HB8 := Lib.hid (HB7.out.trans (hb.mono HB7.out.size))
      have HA8 := Lib.hid ((hb.block a (Array.getElem?_eq_some_iff.1 HA7.out).1).trans HA7.out)
      have HOx8 := Lib.hid (own_belowP HOx7.out hb)
      have HOy8 := Lib.hid (own_belowP HOy7.out hb)
      have HOz8 := Lib.hid (own_belowP HOz7.out hb)
      have HOp8 := Lib.hid (own_belowP HOp7.out hb)
      have HOq8 := Lib.hid (own_belowP HOq7.out hb)
      have HOr8 := Lib.hid (own_belowP HOr7.out hb)
      have HOs8 := Lib.hid (own_belowP HOs7.out hb)
      have HOt8 := Lib.hid (own_belowP HOt7.out hb)
      have HOu8 := Lib.hid (own_belowP HOu7.out hb)
      have HOv8 := Lib.hid ho
      clear ho
      clear hb
      have a0 := cell_of_blk (j := 0) HA8.out rfl
      have a1 := cell_of_blk (j := 1) HA8.out rfl
      have a2 := cell_of_blk (j := 2) HA8.out rfl
      go_wp2_with (fail)
      clear a0 a1 a2
      refine (errs_ok 8 8 _ _ (by omega) (Cells.new _ _ _ _ _ rfl)).mono ?_
      rintro e w9 ⟨rfl, ew⟩
      have hb : Below w8.heap.size w8 w9 := by rw [← ew]; exact (Below.refl _ _).alloc (Nat.le_refl _) _
      clear ew
      have HB9 := Lib.hid (HB8.out.trans (hb.mono HB8.out.size))
      have HA9 := Lib.hid ((hb.block a (Array.getElem?_eq_some_iff.1 HA8.out).1).trans HA8.out)
      have HOx9 := Lib.hid (own_belowP HOx8.out hb)
      have HOy9 := Lib.hid (own_belowP HOy8.out hb)
      have HOz9 := Lib.hid (own_belowP HOz8.out hb)
      have HOp9 := Lib.hid (own_belowP HOp8.out hb)
      have HOq9 := Lib.hid (own_belowP HOq8.out hb)
      have HOr9 := Lib.hid (own_belowP HOr8.out hb)
      have HOs9 := Lib.hid (own_belowP HOs8.out hb)
      have HOt9 := Lib.hid (own_belowP HOt8.out hb)
      have HOu9 := Lib.hid (own_belowP HOu8.out hb)
      have HOv9 := Lib.hid (own_belowP HOv8.out hb)
      clear hb
      have a0 := cell_of_blk (j := 0) HA9.out rfl
      have a1 := cell_of_blk (j := 1) HA9.out rfl
      have a2 := cell_of_blk (j := 2) HA9.out rfl
      go_wp2_with (fail)
      clear a0 a1 a2
      obtain rfl : np = nq := HNp.out.symm.trans HNq.out
      refine (eqNo_any (jnN (x) (y)) np cp cq Ap Aq w9 HNp.out (by omega) (own_row HOp9.out) (own_row HOq9.out)).mono ?_
      rintro e w10 ⟨rfl, hb⟩
      have HB10 := Lib.hid (HB9.out.trans (hb.mono HB9.out.size))
      have HA10 := Lib.hid ((hb.block a (Array.getElem?_eq_some_iff.1 HA9.out).1).trans HA9.out)
      have HOx10 := Lib.hid (own_belowP HOx9.out hb)
      have HOy10 := Lib.hid (own_belowP HOy9.out hb)
      have HOz10 := Lib.hid (own_belowP HOz9.out hb)
      have HOp10 := Lib.hid (own_belowP HOp9.out hb)
      have HOq10 := Lib.hid (own_belowP HOq9.out hb)
      have HOr10 := Lib.hid (own_belowP HOr9.out hb)
      have HOs10 := Lib.hid (own_belowP HOs9.out hb)
      have HOt10 := Lib.hid (own_belowP HOt9.out hb)
      have HOu10 := Lib.hid (own_belowP HOu9.out hb)
      have HOv10 := Lib.hid (own_belowP HOv9.out hb)
      clear hb
      have a0 := cell_of_blk (j := 0) HA10.out rfl
      have a1 := cell_of_blk (j := 1) HA10.out rfl
      have a2 := cell_of_blk (j := 2) HA10.out rfl
      go_wp2_with (fail)
      clear a0 a1 a2
      obtain rfl : ns = nt := HNs.out.symm.trans HNt.out
      refine (eqNo_any (jnN (jnN (x) (y)) (z)) ns cs ct As At w10 HNs.out (by omega) (own_row HOs10.out) (own_row HOt10.out)).mono ?_
      rintro e w11 ⟨rfl, hb⟩
      have HB11 := Lib.hid (HB10.out.trans (hb.mono HB10.out.size))
      have HA11 := Lib.hid ((hb.block a (Array.getElem?_eq_some_iff.1 HA10.out).1).trans HA10.out)
      have HOx11 := Lib.hid (own_belowP HOx10.out hb)
      have HOy11 := Lib.hid (own_belowP HOy10.out hb)
      have HOz11 := Lib.hid (own_belowP HOz10.out hb)
      have HOp11 := Lib.hid (own_belowP HOp10.out hb)
      have HOq11 := Lib.hid (own_belowP HOq10.out hb)
      have HOr11 := Lib.hid (own_belowP HOr10.out hb)
      have HOs11 := Lib.hid (own_belowP HOs10.out hb)
      have HOt11 := Lib.hid (own_belowP HOt10.out hb)
      have HOu11 := Lib.hid (own_belowP HOu10.out hb)
      have HOv11 := Lib.hid (own_belowP HOv10.out hb)
      clear hb
      have a0 := cell_of_blk (j := 0) HA11.out rfl
      have a1 := cell_of_blk (j := 1) HA11.out rfl
      have a2 := cell_of_blk (j := 2) HA11.out rfl
      go_wp2_with (fail)
      clear a0 a1 a2
      obtain rfl : ns = nu := HNs.out.symm.trans HNu.out
      refine (eqNo_any (jnN (jnN (x) (y)) (z)) ns cs cu As Au w11 HNs.out (by omega) (own_row HOs11.out) (own_row HOu11.out)).mono ?_
      rintro e w12 ⟨rfl, hb⟩
      have HB12 := Lib.hid (HB11.out.trans (hb.mono HB11.out.size))
      have HA12 := Lib.hid ((hb.block a (Array.getElem?_eq_some_iff.1 HA11.out).1).trans HA11.out)
      have HOx12 := Lib.hid (own_belowP HOx11.out hb)
      have HOy12 := Lib.hid (own_belowP HOy11.out hb)
      have HOz12 := Lib.hid (own_belowP HOz11.out hb)
      have HOp12 := Lib.hid (own_belowP HOp11.out hb)
      have HOq12 := Lib.hid (own_belowP HOq11.out hb)
      have HOr12 := Lib.hid (own_belowP HOr11.out hb)
      have HOs12 := Lib.hid (own_belowP HOs11.out hb)
      have HOt12 := Lib.hid (own_belowP HOt11.out hb)
      have HOu12 := Lib.hid (own_belowP HOu11.out hb)
      have HOv12 := Lib.hid (own_belowP HOv11.out hb)
      clear hb
      have a0 := cell_of_blk (j := 0) HA12.out rfl
      have a1 := cell_of_blk (j := 1) HA12.out rfl
      have a2 := cell_of_blk (j := 2) HA12.out rfl
      go_wp2_with (fail)
      clear a0 a1 a2
      obtain rfl : ns = nv := HNs.out.symm.trans HNv.out
      refine (eqNo_any (jnN (jnN (x) (y)) (z)) ns cs cv As Av w12 HNs.out (by omega) (own_row HOs12.out) (own_row HOv12.out)).mono ?_
      rintro e w13 ⟨rfl, hb⟩
      have HB13 := Lib.hid (HB12.out.trans (hb.mono HB12.out.size))
      have HA13 := Lib.hid ((hb.block a (Array.getElem?_eq_some_iff.1 HA12.out).1).trans HA12.out)
      have HOx13 := Lib.hid (own_belowP HOx12.out hb)
      have HOy13 := Lib.hid (own_belowP HOy12.out hb)
      have HOz13 := Lib.hid (own_belowP HOz12.out hb)
      have HOp13 := Lib.hid (own_belowP HOp12.out hb)
      have HOq13 := Lib.hid (own_belowP HOq12.out hb)
      have HOr13 := Lib.hid (own_belowP HOr12.out hb)
      have HOs13 := Lib.hid (own_belowP HOs12.out hb)
      have HOt13 := Lib.hid (own_belowP HOt12.out hb)
      have HOu13 := Lib.hid (own_belowP HOu12.out hb)
      have HOv13 := Lib.hid (own_belowP HOv12.out hb)
      clear hb
      have a0 := cell_of_blk (j := 0) HA13.out rfl
      have a1 := cell_of_blk (j := 1) HA13.out rfl
      have a2 := cell_of_blk (j := 2) HA13.out rfl
      go_wp2_with (fail)
      clear a0 a1 a2
      refine (ready_yes w13).mono ?_
      rintro e w14 ⟨rfl, hb⟩
      have HBF := Lib.hid (HB13.out.trans (hb.mono HB13.out.size))
      clear hb
      go_wp2_with (fail)
      go_ret
      exact ⟨rfl, HBF.out⟩
end Go.Proofs.YtjjfhblaefbpgaaGreatDoor
