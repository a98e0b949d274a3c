/- Shifts of the stream, their result as a function of the list. Printed by gen_GnH.py out of XSfG. -/
import Derived.Test.YtgdnedhcbjonkaaGreatDoorMgE
import Derived.Test.YtgdnedhcbjonkaaGreatDoorMgG
namespace Go.Proofs.YtgdnedhcbjonkaaGreatDoor
open Go.RowKit

theorem Tryz.infoSf : (Tryz.prog.info? 73).map (fun i => (i.zero, i.size, i.bytes)) = some (some (.agg #[.string ⟨#[]⟩, .string ⟨#[]⟩, .int .i64 0, .int .i64 0]), 4, 48) := by kernel_rfl
def sfPk : List Int := [0, 10]
theorem sfPk_range (j : Nat) (h : j < 2) : 0 ≤ sfPk.getD j 0 ∧ sfPk.getD j 0 ≤ 10 := by
  have : j = 0 ∨ j = 1 := by omega
  rcases this with h | h <;> subst h <;> decide
def sfPk2 : List Int := [5, 20, 50]
theorem sfPk2_range (j : Nat) (h : j < 3) : 5 ≤ sfPk2.getD j 0 ∧ sfPk2.getD j 0 ≤ 50 := by
  have : j = 0 ∨ j = 1 ∨ j = 2 := by omega
  rcases this with h | h | h <;> subst h <;> decide
def sfPk3 : List Int := [0, 0, 10]
theorem sfPk3_range (j : Nat) (h : j < 3) : 0 ≤ sfPk3.getD j 0 ∧ sfPk3.getD j 0 ≤ 10 := by
  have : j = 0 ∨ j = 1 ∨ j = 2 := by omega
  rcases this with h | h | h <;> subst h <;> decide
theorem tm_pick (b j : Nat) (h : j < 3) : ([b, 2, 3].map tmT).getD j ⟨#[]⟩ = tmT ([b, 2, 3].getD j 0) := by
  have : j = 0 ∨ j = 1 ∨ j = 2 := by omega
  rcases this with h | h | h <;> subst h <;> rfl
theorem alw_pick2 (b j : Nat) (h : j < 2) : ([b, 3].map alwT).getD j ⟨#[]⟩ = alwT ([b, 3].getD j 0) := by
  have : j = 0 ∨ j = 1 := by omega
  rcases this with h | h <;> subst h <;> rfl
theorem u3_range (u f : Int) (j : Nat) (h : j < 3) (h1 : 0 ≤ u ∧ u ≤ 1000) (h2 : 0 ≤ f ∧ f ≤ 1000) : 0 ≤ [u, f, 500].getD j 0 ∧ [u, f, 500].getD j 0 ≤ 1000 := by
  have : j = 0 ∨ j = 1 ∨ j = 2 := by omega
  rcases this with h | h | h <;> subst h <;> simp <;> omega
/-- The stages of the odd shift. -/
def sfX (x : Sf) (t b : Nat) (u : Int) : Nat → Sf
  | 0 => x
  | 1 => x
  | 2 => x
  | 3 => x
  | 4 => { x with t := t }
  | 5 => { x with t := t, b := b }
  | _ => { x with t := t, b := b, u := u }
def sfD : Nat → Nat
  | 0 => 0
  | 1 => 1
  | 2 => 2
  | _ => 3
theorem sfX_low (x : Sf) (t b : Nat) (u : Int) (s : Nat) (hs : s ≤ 3) : sfX x t b u s = x := by
  have : s = 0 ∨ s = 1 ∨ s = 2 ∨ s = 3 := by omega
  rcases this with h | h | h | h <;> subst h <;> rfl
def shI (xs : LiA) (j k0 : Nat) (a0 : Int) (L0 : List Sf) : Nat → Nat × Int × List Sf
  | 0 => (k0, a0, L0)
  | q + 1 => ((shI xs j k0 a0 L0 q).1 + 1 + 1 + 1, (shI xs j k0 a0 L0 q).2.1 + sfPk2.getD (nextN xs (shI xs j k0 a0 L0 q).1 3) 0 + sfPk3.getD (nextN xs ((shI xs j k0 a0 L0 q).1 + 1 + 1) 3) 0,
      (shI xs j k0 a0 L0 q).2.2 ++ [⟨j, whPk.getD (nextN xs ((shI xs j k0 a0 L0 q).1 + 1) 2) 0, (shI xs j k0 a0 L0 q).2.1, (shI xs j k0 a0 L0 q).2.1 + sfPk2.getD (nextN xs (shI xs j k0 a0 L0 q).1 3) 0⟩])
theorem shI_step {xs : LiA} {j k0 q k2 b : Nat} {a0 at_ d da : Int} {L0 M : List Sf} (h : shI xs j k0 a0 L0 q = (k2, at_, M)) (hd : d = sfPk2.getD (nextN xs k2 3) 0) (hb : b = whPk.getD (nextN xs (k2 + 1) 2) 0) (hda : da = sfPk3.getD (nextN xs (k2 + 1 + 1) 3) 0) :
    shI xs j k0 a0 L0 (q + 1) = (k2 + 1 + 1 + 1, at_ + d + da, M ++ [⟨j, b, at_, at_ + d⟩]) := by
  rw [shI, h, hd, hb, hda]
def shO (xs : LiA) (k : Nat) : Nat → Nat × List Sf
  | 0 => (k, [])
  | j + 1 => ((shI xs j ((shO xs k j).1 + 2) (sfPk.getD (nextN xs (shO xs k j).1 2) 0) (shO xs k j).2 (nextN xs ((shO xs k j).1 + 1) 4)).1, (shI xs j ((shO xs k j).1 + 2) (sfPk.getD (nextN xs (shO xs k j).1 2) 0) (shO xs k j).2 (nextN xs ((shO xs k j).1 + 1) 4)).2.2)
theorem shO_step {xs : LiA} {k j k' k2 N : Nat} {at0 at_ : Int} {L M : List Sf} (h : shO xs k j = (k', L)) (hat : at0 = sfPk.getD (nextN xs k' 2) 0) (hN : N = nextN xs (k' + 1) 4) (hI : shI xs j (k' + 2) at0 L N = (k2, at_, M)) : shO xs k (j + 1) = (k2, M) := by
  rw [shO, h, ← hat, ← hN, hI]
def shF (xs : LiA) (k : Nat) : List Sf × Nat :=
  if (shO xs k 2).2.length = 0 then ((shO xs k 2).2, (shO xs k 2).1)
  else if nextV xs (shO xs k 2).1 12 = 0 then
    match (shO xs k 2).2[nextN xs ((shO xs k 2).1 + 1) (shO xs k 2).2.length]? with
    | some x => ((shO xs k 2).2.set (nextN xs ((shO xs k 2).1 + 1) (shO xs k 2).2.length) (sfX x ([x.t, 2, 3].getD (nextN xs ((shO xs k 2).1 + 1 + 1) 3) 0) ([x.b, 3].getD (nextN xs ((shO xs k 2).1 + 1 + 1 + 1) 2) 0) ([x.u, x.f, 500].getD (nextN xs ((shO xs k 2).1 + 1 + 1 + 2) 3) 0) 6), (shO xs k 2).1 + 1 + 1 + sfD 6)
    | none => ([], 0)
  else ((shO xs k 2).2, (shO xs k 2).1 + 1)
theorem shF_nil {xs : LiA} {k k' : Nat} {L : List Sf} (h : shO xs k 2 = (k', L)) (hn : L.length = 0) : shF xs k = (L, k') := by
  unfold shF
  rw [h, if_pos hn]
theorem shF_no {xs : LiA} {k k' n : Nat} {L : List Sf} (h : shO xs k 2 = (k', L)) (hn : L.length = n) (h0 : ¬ n = 0) (hb : false = decide (nextV xs k' 12 = 0)) : shF xs k = (L, k' + 1) := by
  unfold shF
  rw [h, if_neg (by rw [hn]; exact h0), if_neg (by simpa using hb.symm)]
theorem shF_yes {xs : LiA} {k k' n i kk vt vb : Nat} {vu : Int} {L : List Sf} {x : Sf} (h : shO xs k 2 = (k', L)) (hn : L.length = n) (h0 : ¬ n = 0) (hb : true = decide (nextV xs k' 12 = 0)) (hi : i = nextN xs (k' + 1) n) (hx : L[i]? = some x)
    (hkk : kk = k' + 1 + 1) (hv : [x.t, 2, 3].getD (nextN xs kk 3) 0 = vt ∧ [x.b, 3].getD (nextN xs (kk + 1) 2) 0 = vb ∧ [x.u, x.f, 500].getD (nextN xs (kk + 2) 3) 0 = vu) : shF xs k = (L.set i (sfX x vt vb vu 6), kk + sfD 6) := by
  unfold shF
  subst hkk
  rw [h, if_neg (by rw [hn]; exact h0), if_pos (by simpa using hb.symm), hn, ← hi, hx]
  simp only [hv.1, hv.2.1, hv.2.2]
def SfPost (w : World) (p k : Nat) (xs : LiA) (e : Ending) (w' : World) : Prop :=
  ∃ (L : List Sf) (A : Option Addr) (c k' n : Nat), shF xs k = (L, k') ∧ e = .returned (.slice A n c) ∧ (∀ x ∈ L, SfG x) ∧ L.length = n ∧ n ≤ 6 ∧ w'.ownsRow w.heap.size 73 4 (.slice A n c) n (recs sfC L) ∧ Strm w' p xs k' ∧ k' ≤ k + 60 ∧ w.grownBy w' (some p)
set_option maxRecDepth 100000 in
set_option maxHeartbeats 4000000 in
theorem shifts_any (w : World) (p k : Nat) (xs : LiA) (hk : k < 100000) (hs : Strm w p xs k) :
    Calls Tryz.prog 7 #[.pointer (some ⟨p, 0, none⟩)] w fun e w' => SfPost w p k xs e w' := by
  obtain ⟨i0, hi0, hz0, hz1, hz2⟩ := info_parts Tryz.infoSf
  have hplt := hs.lt
  have HS := Lib.hid hs
  clear hs
  go_enter Tryz.func7, Tryz.ntmps7
  go_upto_region 3 with (fail)
  obtain ⟨gn, egn⟩ : ∃ g, g = w.heap.size := ⟨_, rfl⟩
  obtain ⟨w1, e1⟩ : ∃ V, V = w.alloc (.cells #[.string ⟨#[98, 111, 115, 115]⟩, .string ⟨#[111, 112, 115]⟩] 9) := ⟨_, rfl⟩
  have hn1 : w1.heap[gn]? = some (.cells #[.string ⟨#[98, 111, 115, 115]⟩, .string ⟨#[111, 112, 115]⟩] 9 (0, 0)) := by rw [e1, egn]; exact heap_new w _
  have HG01 := Lib.hid (show w.grownBy w1 (some p) from by rw [e1]; exact World.grownBy_alloc _ _ (some p))
  have HS1 := Lib.hid (show Strm w1 p xs k from by rw [e1]; exact HS.out.alloc _)
  have hgn1 : gn < w1.heap.size := by rw [e1, egn]; simp
  have hpg : p < gn := by omega
  have HGN := Lib.hid (fun (V : World) (hV : w1.grownBy V (some p)) => show V.cell? ⟨gn, 0, none⟩ = some (.string (tmT 0)) ∧ V.cell? ⟨gn, 1, none⟩ = some (.string (tmT 1)) from
    ⟨cell_of_blk (j := 0) ((hV.block gn hgn1 (by intro e; injection e with e; omega)).trans hn1) rfl, cell_of_blk (j := 1) ((hV.block gn hgn1 (by intro e; injection e with e; omega)).trans hn1) rfl⟩)
  rw [← egn, ← e1]
  have hgw : w.heap.size ≤ gn := by omega
  clear egn e1 hn1
  go_wp2_with (fail)
  go_loopw [3, 11] (fun v s wr => ∃ (j k' : Nat) (L : List Sf), j ≤ 2 ∧ s = .int .i64 (j : Int) ∧ (∀ x ∈ L, SfG x) ∧ L.length ≤ 3 * j ∧ wr.ownsRow w1.heap.size 73 4 v L.length (recs sfC L) ∧ Strm wr p xs k' ∧ k' ≤ k + 11 * j ∧ w1.grownBy wr (some p) ∧ Hid (shO xs k j = (k', L))) (fun _ s _ => 2 - (intOf s).toNat)
  case atStart => exact ⟨0, k, [], by omega, rfl, by simp, by simp, World.ownsRow_nil _ _ _ _, HS1.out, by omega, grown_refl _ _, Lib.hid rfl⟩
  case round =>
    obtain ⟨j, k', L, hj, rfl, hok, hln, hown, hst, hk', hgr, HSO⟩ := hrel
    have HOK := Lib.hid hok
    have HO := Lib.hid hown
    have HST := Lib.hid hst
    have HGR := Lib.hid hgr
    have hrs := hgr.size
    have hplt2 := hst.lt
    by_cases hlt : j < 2
    · have hltI : (j : Int) < 2 := by omega
      obtain ⟨n0, n1⟩ := HGN.out wr hgr
      have hgnr : gn < wr.heap.size := by omega
      have nj : wr.cell? ⟨gn, j, none⟩ = some (.string (tmT j)) := by
        have : j = 0 ∨ j = 1 := by omega
        rcases this with rfl | rfl
        · exact n0
        · exact n1
      obtain ⟨ln, eln⟩ : ∃ n, n = L.length := ⟨_, rfl⟩
      rw [← eln] at HO hln
      have HLN := Lib.hid eln.symm
      clear hok hown hst hgr n0 n1 eln
      go_wp2_with (fail)
      refine (pick_any _ p k' wr.heap.size 2 2 xs sfPk (by omega) rfl (by omega) (by omega) (HST.out.alloc _) (by omega) (Cells.new _ _ _ _ _ rfl)).mono ?_
      have ha0 := sfPk_range (nextN xs k' 2) (nextN_lt _ _ _ (by omega))
      obtain ⟨at0, eat⟩ : ∃ r, r = sfPk.getD (nextN xs k' 2) 0 := ⟨_, rfl⟩
      rw [← eat] at ha0 ⊢
      have HAT := Lib.hid eat
      clear eat
      rintro e w3 ⟨rfl, hst3, hg3⟩
      have hg3' := grown_of_alloc hg3
      have hs3 := hg3'.size
      have HO3 := Lib.hid (own_kept HO.out hg3' (by omega))
      have HST3 := Lib.hid hst3
      have HG3 := Lib.hid (grown_trans HGR.out hg3')
      clear hst3 hg3 hg3' nj
      go_wp2_with (fail)
      refine (next_any w3 p (k' + 1) xs 4 (by omega) (by omega) HST3.out).mono ?_
      obtain ⟨N, eN⟩ : ∃ N, N = nextN xs (k' + 1) 4 := ⟨_, rfl⟩
      have hN : N < 4 := by rw [eN]; exact nextN_lt _ _ _ (by omega)
      rw [show nextV xs (k' + 1) 4 = ((nextN xs (k' + 1) 4 : Nat) : Int) from nextN_eq xs (k' + 1) 4 (by omega), ← eN]
      have HNN := Lib.hid eN
      clear eN
      rintro e w4 ⟨rfl, hst4, hg4⟩
      have hs4 := hg4.size
      have HO4 := Lib.hid (own_kept HO3.out hg4 (by omega))
      have HST4 := Lib.hid hst4
      have HG4 := Lib.hid (grown_trans HG3.out hg4)
      clear hst4 hg4
      go_wp2_with (fail)
      go_loopw [3, 6, 20] (fun v a s wx => ∃ (q k2 : Nat) (at_ : Int) (M : List Sf), q ≤ N ∧ s = .int .i64 (q : Int) ∧ a = .int .i64 at_ ∧ (0 ≤ at_ ∧ at_ ≤ 10 + 60 * (q : Int)) ∧ (∀ x ∈ M, SfG x) ∧ M.length = ln + q ∧ wx.ownsRow w1.heap.size 73 4 v (ln + q) (recs sfC M) ∧ Strm wx p xs k2 ∧ k2 ≤ k' + 2 + 3 * q ∧ w1.grownBy wx (some p) ∧ Hid (shI xs j (k' + 2) at0 L q = (k2, at_, M))) (fun _ _ s _ => N - (intOf s).toNat)
      case atStart => exact ⟨0, k' + 2, at0, L, Nat.zero_le _, rfl, rfl, by omega, HOK.out, HLN.out, HO4.out, HST4.out, by omega, HG4.out, Lib.hid rfl⟩
      case round =>
        obtain ⟨q, k2, at_, M, hq, rfl, rfl, hat, hokM, hlnM, hown, hst, hk2, hgr, HSI⟩ := hrel
        have HOK2 := Lib.hid hokM
        have HLN2 := Lib.hid hlnM
        have HO5 := Lib.hid hown
        have HST5 := Lib.hid hst
        have HG5 := Lib.hid hgr
        have hs5 := hgr.size
        have hp5 := hst.lt
        clear hokM hlnM hown hst hgr
        by_cases hql : q < N
        · have hqlI : (q : Int) < N := by omega
          go_wp2_with (fail)
          refine (pick_any _ p k2 wr.heap.size 3 3 xs sfPk2 (by omega) rfl (by omega) (by omega) (HST5.out.alloc _) (by omega) (Cells.new _ _ _ _ _ rfl)).mono ?_
          have hd := sfPk2_range (nextN xs k2 3) (nextN_lt _ _ _ (by omega))
          obtain ⟨d, ed⟩ : ∃ r, r = sfPk2.getD (nextN xs k2 3) 0 := ⟨_, rfl⟩
          rw [← ed] at hd ⊢
          have HDD := Lib.hid ed
          clear ed
          rintro e w6 ⟨rfl, hst6, hg6⟩
          have hg6' := grown_of_alloc hg6
          have hs6 := hg6'.size
          have HO6 := Lib.hid (own_kept HO5.out hg6' (by omega))
          have HST6 := Lib.hid hst6
          have HG6 := Lib.hid (grown_trans HG5.out hg6')
          have hwu : IntKind.i64.wrap (at_ + d) = at_ + d := by rw [IntKind.wrap_i64]; omega
          clear hst6 hg6 hg6'
          go_wp2_with (fail)
          refine (some_any _ p (k2 + 1) w6.heap.size 2 2 xs (whPk.map alwT) (by omega) rfl (by omega) (by omega) (HST6.out.alloc _) (by omega) (Cells.new _ _ _ _ _ rfl)).mono ?_
          obtain ⟨h1, hb4⟩ := whPk_lt (nextN xs (k2 + 1) 2) (nextN_lt _ _ _ (by omega))
          rw [h1]
          obtain ⟨b, eb⟩ : ∃ r, r = whPk.getD (nextN xs (k2 + 1) 2) 0 := ⟨_, rfl⟩
          rw [← eb] at hb4 ⊢
          have HBB := Lib.hid eb
          clear eb h1
          rintro e w7 ⟨rfl, hst7, hg7⟩
          have hg7' := grown_of_alloc hg7
          have hs7 := hg7'.size
          have HO7 := Lib.hid (own_kept HO6.out hg7' (by omega))
          have HST7 := Lib.hid hst7
          have HG7 := Lib.hid (grown_trans HG6.out hg7')
          clear hst7 hg7 hg7'
          go_wp2_with (at_builtin; refine wpList_append_own2 _ rfl _ _ 37 rfl w1.heap.size 73 i0 _ 4 48 Tryz.underlying37 hi0 hz0 hz1 hz2 rfl (by decide) _ _ _ rfl (HO7.out.alloc _) ⟨_, 0, none⟩ 1 1 (sfC ⟨j, b, at_, at_ + d⟩) rfl rfl ?c1 ?c2 ?c3 ?c4 ?c5 ?_)
          case c1 => first | exact cells_add (cells_atF (by rfl) (by first | rfl | simp)) | exact fun j u h => h
          case c2 => exact sfC_one _
          case c3 => unfold maxLen; omega
          case c4 => omega
          case c5 => first | omega | (simp; omega)
          intro v9 w9 ho9 hg9 hm9
          have hlo : ∀ q, u3.ownBlock = some q → w1.heap.size ≤ q := fun q hq => (HO7.out.lt q hq).1
          have hlo2 : ∀ q, u3.ownBlock = some q → p < q := fun q hq => by have := hlo q hq; omega
          have HST9 := Lib.hid ((HST7.out.alloc _).row hg9 hlo2)
          have HG9 := Lib.hid (grown_more (grown_trans HG7.out (World.grownBy_alloc _ _ (some p))) hg9 hlo)
          have HO9 := Lib.hid ho9
          have hs9 := HG9.out.size
          have HOK9 := Lib.hid (show ∀ y ∈ M ++ [(⟨j, b, at_, at_ + d⟩ : Sf)], SfG y from fun y hy => by
            rw [List.mem_append, List.mem_singleton] at hy
            rcases hy with hy | rfl
            · exact HOK2.out y hy
            · exact ⟨by show 0 ≤ at_ ∧ at_ ≤ 1000; omega, by show 0 ≤ at_ + d ∧ at_ + d ≤ 1000; omega⟩)
          have hp9 := HST9.out.lt
          clear ho9 hg9 hm9 hlo hlo2
          go_wp2_with (fail)
          refine (pick_any _ p (k2 + 1 + 1) w9.heap.size 3 3 xs sfPk3 (by omega) rfl (by omega) (by omega) (HST9.out.alloc _) (by omega) (Cells.new _ _ _ _ _ rfl)).mono ?_
          have hda := sfPk3_range (nextN xs (k2 + 1 + 1) 3) (nextN_lt _ _ _ (by omega))
          obtain ⟨da, eda⟩ : ∃ r, r = sfPk3.getD (nextN xs (k2 + 1 + 1) 3) 0 := ⟨_, rfl⟩
          rw [← eda] at hda ⊢
          have HSI2 := Lib.hid (shI_step HSI.out HDD.out HBB.out eda)
          clear eda
          rintro e w10 ⟨rfl, hst10, hg10⟩
          have hg10' := grown_of_alloc hg10
          have HO10 := Lib.hid (own_kept HO9.out hg10' (by omega))
          have HST10 := Lib.hid hst10
          have HG10 := Lib.hid (grown_trans HG9.out hg10')
          have hwa : IntKind.i64.wrap (at_ + d + da) = at_ + d + da := by rw [IntKind.wrap_i64]; omega
          clear hst10 hg10 hg10'
          go_wp2_with (fail)
          go_roundw
          case rel => exact ⟨q + 1, k2 + 1 + 1 + 1, at_ + d + da, M ++ [(⟨j, b, at_, at_ + d⟩ : Sf)], by omega, by go_num, rfl, by omega, HOK9.out, by rw [List.length_append, HLN2.out]; rfl, by rw [recs_snoc]; exact HO10.out, HST10.out, by omega, HG10.out, HSI2⟩
          case measure => simp [intOf]; omega
        · have hqlI : ¬ (q : Int) < N := by omega
          obtain rfl : q = N := by omega
          go_wp2_with (fail)
          go_roundw
          case rel => exact ⟨j + 1, k2, M, by omega, by go_num, HOK2.out, by have := HLN2.out; omega, by rw [HLN2.out]; exact HO5.out, HST5.out, by omega, HG5.out, Lib.hid (shO_step HSO.out HAT.out HNN.out HSI.out)⟩
          case measure => simp [intOf]; omega
    · have hltI : ¬ (j : Int) < 2 := by omega
      obtain rfl : j = 2 := by omega
      obtain ⟨n, en⟩ : ∃ n, n = L.length := ⟨_, rfl⟩
      rw [← en] at hown hln HO
      obtain ⟨A, c, rfl⟩ := own_slice hown
      have HLN := Lib.hid en.symm
      clear hok hown hst hgr en
      by_cases hn0 : n = 0
      case pos =>
        subst hn0
        have HF := Lib.hid (show SfPost w p k xs (.returned (.slice A 0 c)) wr from ⟨L, A, c, k', 0, shF_nil HSO.out HLN.out, rfl, HOK.out, HLN.out, by omega, own_mono HO.out (by omega), HST.out, by omega, grown_trans HG01.out HGR.out⟩)
        go_wp2_with (fail)
        go_ret
        exact HF.out
      have hn0I : (0 : Int) < (n : Int) := by omega
      go_wp2_with (fail)
      refine (flipD_any wr p k' xs 12 (by omega) (by omega) (by omega) HST.out).mono ?_
      obtain ⟨b2, eb2⟩ : ∃ b : Bool, b = decide (nextV xs k' 12 = 0) := ⟨_, rfl⟩
      rw [← eb2]
      have HB2F := Lib.hid eb2
      clear eb2
      rintro e w5 ⟨rfl, hst5, hg5⟩
      have hs5 := hg5.size
      have HO5 := Lib.hid (own_kept HO.out hg5 (by omega))
      have HST5 := Lib.hid hst5
      have HG5 := Lib.hid (grown_trans HGR.out hg5)
      clear hst5 hg5
      cases b2 with
      | false =>
        have HF := Lib.hid (show SfPost w p k xs (.returned (.slice A n c)) w5 from ⟨L, A, c, k' + 1, n, shF_no HSO.out HLN.out hn0 HB2F.out, rfl, HOK.out, HLN.out, by omega, own_mono HO5.out (by omega), HST5.out, by omega, grown_trans HG01.out HG5.out⟩)
        go_wp2_with (fail)
        go_ret
        exact HF.out
      | true =>
        go_wp2_with (fail)
        refine (next_any w5 p (k' + 1) xs (n : Int) (by omega) (by omega) HST5.out).mono ?_
        have hxl := nextN_lt xs (k' + 1) n (by omega)
        rw [nextN_eq xs (k' + 1) n (by omega)]
        obtain ⟨i, ei⟩ : ∃ i, i = nextN xs (k' + 1) n := ⟨_, rfl⟩
        rw [← ei] at hxl ⊢
        have HEI := Lib.hid ei
        clear ei
        rintro e w6 ⟨rfl, hst6, hg6⟩
        have hs6 := hg6.size
        have HO6 := Lib.hid (own_kept HO5.out hg6 (by omega))
        have HST6 := Lib.hid hst6
        have HG6 := Lib.hid (grown_trans HG5.out hg6)
        clear hst6 hg6
        obtain ⟨g, rfl, hwg, hg6lt⟩ : ∃ g, A = some ⟨g, 0, none⟩ ∧ w1.heap.size ≤ g ∧ g < w6.heap.size := by
          rcases own_two HO6.out with ⟨_, h0, _⟩ | ⟨g, hA', hb', hlt'⟩
          · omega
          · exact ⟨g, hA', hb', hlt'⟩
        have hiI : (i : Int) < (n : Int) := by omega
        go_upto_region 15 with (fail)
        obtain ⟨x, hx⟩ : ∃ x, L[i]? = some x := ⟨_, List.getElem?_eq_getElem (by have := HLN.out; omega)⟩
        have HXI := Lib.hid (HOK.out x (List.mem_of_getElem? hx))
        obtain ⟨kk, ekk⟩ : ∃ kk, kk = k' + 1 + 1 := ⟨_, rfl⟩
        rw [← ekk] at HST6
        have hkk : kk < 100200 ∧ kk ≤ k + 30 := by omega
        obtain ⟨vt, evt⟩ : ∃ v : Nat, v = [x.t, 2, 3].getD (nextN xs kk 3) 0 := ⟨_, rfl⟩
        obtain ⟨vb, evb⟩ : ∃ v : Nat, v = [x.b, 3].getD (nextN xs (kk + 1) 2) 0 := ⟨_, rfl⟩
        obtain ⟨vu, evu⟩ : ∃ v : Int, v = [x.u, x.f, 500].getD (nextN xs (kk + 2) 3) 0 := ⟨_, rfl⟩
        have HV := Lib.hid (And.intro evt.symm (And.intro evb.symm evu.symm))
        have HSF := Lib.hid (shF_yes HSO.out HLN.out hn0 HB2F.out HEI.out hx ekk HV.out)
        clear evt evb evu ekk
        have hiL : i < L.length := by have := HLN.out; omega
        have hgp : ¬ g = p := by omega
        have hpgl : p < g := by omega
        have HK0 := Lib.hid (show KG sfC 4 73 w6 p kk w1.heap.size g c n i xs L (sfX x vt vb vu) sfD 0 w6.drew from KG.first x HO6.out hx rfl HST6.out rfl)
        clear hx
        refine qRegionSt (KG sfC 4 73 w6 p kk w1.heap.size g c n i xs L (sfX x vt vb vu) sfD)
          [.pointer (some ⟨g, i * 4, none⟩), .pointer (some ⟨g, i * 4, none⟩), .pointer (some ⟨g, i * 4, none⟩), .pointer (some ⟨p, 0, none⟩), .pointer (some ⟨g, i * 4, none⟩), .pointer (some ⟨g, i * 4, none⟩), .pointer (some ⟨g, i * 4, none⟩), .string (tmT x.t), undef, .string (tmT vt), .pointer (some ⟨p, 0, none⟩), .pointer (some ⟨g, i * 4, none⟩), .pointer (some ⟨g, i * 4, none⟩), .pointer (some ⟨g, i * 4 + 1, none⟩), .string (alwT x.b), undef, .string (alwT vb), .pointer (some ⟨p, 0, none⟩), .pointer (some ⟨g, i * 4, none⟩), .pointer (some ⟨g, i * 4, none⟩), .pointer (some ⟨g, i * 4 + 2, none⟩), .pointer (some ⟨g, i * 4 + 3, none⟩), .int .i64 x.u, .pointer (some ⟨g, i * 4, none⟩), .pointer (some ⟨g, i * 4, none⟩), .pointer (some ⟨g, i * 4 + 2, none⟩), .pointer (some ⟨g, i * 4 + 2, none⟩), .int .i64 x.f, undef, .int .i64 vu, .pointer (some ⟨g, i * 4, none⟩), .pointer (some ⟨g, i * 4, none⟩), .tuple #[], .pointer (some ⟨g, i * 4, none⟩), .pointer (some ⟨g, i * 4 + 1, none⟩), .tuple #[], .pointer (some ⟨g, i * 4, none⟩), .pointer (some ⟨g, i * 4 + 2, none⟩), .pointer (some ⟨g, i * 4 + 3, none⟩), .tuple #[]]
          [none, none, none, none, none, none, none, none, some (.cells #[.string (tmT x.t), .string ⟨#[]⟩, .string ⟨#[122, 122]⟩] 9, fun b => .slice (some ⟨b, 0, none⟩) 3 3), none, none, none, none, none, none, some (.cells #[.string (alwT x.b), .string ⟨#[65]⟩] 9, fun b => .slice (some ⟨b, 0, none⟩) 2 2), none, none, none, none, none, none, none, none, none, none, none, none, some (.cells #[.int .i64 x.u, .int .i64 x.f, .int .i64 500] 3, fun b => .slice (some ⟨b, 0, none⟩) 3 3), none, none, none, none, none, none, none, none, none, none, none]
          [0, 0, 0, 0, 0, 0, 0, 0, 0, 1, 0, 0, 0, 0, 0, 0, 2, 0, 0, 0, 0, 0, 0, 0, 0, 0, 0, 0, 0, 3, 0, 0, 4, 0, 0, 5, 0, 0, 0, 6]
          [6, 6, 6, 6, 6, 6, 6, 3, 6, 6, 6, 6, 6, 6, 3, 6, 6, 6, 6, 6, 6, 6, 3, 6, 6, 6, 6, 3, 6, 6, 6, 6, 6, 6, 6, 6, 6, 6, 6, 6] 6 (by kernel_rfl) (by kernel_rfl) rfl rfl (by rfl) HK0.out (fun s w o h => h.alloc o) ?_ ?_
        · simp only [putL, Act.put, List.setIfInBounds_toArray, List.set_cons_zero, List.set_cons_succ]
          refine ⟨?_, ?_, ?_, ?_, ?_, ?_, ?_, ?_, ?_, ?_, ?_, ?_, ?_, ?_, ?_, ?_, ?_, ?_, ?_, ?_, ?_, ?_, ?_, ?_, ?_, ?_, ?_, ?_, ?_, ?_, ?_, ?_, ?_, ?_, ?_, ?_, ?_, ?_, ?_, ?_, trivial⟩
          · exact OneSt.pure (fun G V => by simp only [putH, Act.put, List.setIfInBounds_toArray, List.set_cons_zero, List.set_cons_succ]; go_simp)
          · exact OneSt.pure (fun G V => by simp only [putH, Act.put, List.setIfInBounds_toArray, List.set_cons_zero, List.set_cons_succ]; go_simp)
          · exact OneSt.pure (fun G V => by simp only [putH, Act.put, List.setIfInBounds_toArray, List.set_cons_zero, List.set_cons_succ]; go_simp)
          · exact OneSt.pure (fun G V => by simp only [putH, Act.put, List.setIfInBounds_toArray, List.set_cons_zero, List.set_cons_succ]; go_simp)
          · exact OneSt.pure (fun G V => by simp only [putH, Act.put, List.setIfInBounds_toArray, List.set_cons_zero, List.set_cons_succ]; go_simp)
          · exact OneSt.pure (fun G V => by simp only [putH, Act.put, List.setIfInBounds_toArray, List.set_cons_zero, List.set_cons_succ]; go_simp)
          · exact OneSt.pure (fun G V => by simp only [putH, Act.put, List.setIfInBounds_toArray, List.set_cons_zero, List.set_cons_succ]; go_simp)
          · exact OneSt.load (fun G s V hK hs => by have c0 := hK.cells sfC_len hiL 0 (.string (tmT x.t)) (by rw [sfX_low x vt vb vu s hs]; rfl); have hgl := hK.lt; simp only [Nat.add_zero] at c0; simp only [putH, Act.put, List.setIfInBounds_toArray, List.set_cons_zero, List.set_cons_succ]; go_simp)
          · exact OneSt.lay (fun G V => by simp only [putH, Act.put, List.setIfInBounds_toArray, List.set_cons_zero, List.set_cons_succ]; go_simp)
          · exact OneSt.call (fun G V hK hL => ⟨_, _, by simp only [putH, Act.put, List.setIfInBounds_toArray, List.set_cons_zero, List.set_cons_succ]; go_simp <;> exact ⟨rfl, rfl⟩, by obtain ⟨hg1, hg2⟩ := hL 8 _ _ rfl (by kernel_rfl); exact (some_any V p kk (G 8) 3 3 xs ([x.t, 2, 3].map tmT) (by omega) rfl (by omega) (by omega) hK.strm (by omega) (cells_blk hg2 rfl)).mono (fun e w' h => ⟨by rw [h.1, tm_pick x.t _ (nextN_lt xs kk 3 (by omega)), HV.out.1], hK.call h.2.2 (by omega) (by omega) h.2.1 rfl⟩)⟩)
          · exact OneSt.pure (fun G V => by simp only [putH, Act.put, List.setIfInBounds_toArray, List.set_cons_zero, List.set_cons_succ]; go_simp)
          · exact OneSt.pure (fun G V => by simp only [putH, Act.put, List.setIfInBounds_toArray, List.set_cons_zero, List.set_cons_succ]; go_simp)
          · exact OneSt.pure (fun G V => by simp only [putH, Act.put, List.setIfInBounds_toArray, List.set_cons_zero, List.set_cons_succ]; go_simp)
          · exact OneSt.pure (fun G V => by simp only [putH, Act.put, List.setIfInBounds_toArray, List.set_cons_zero, List.set_cons_succ]; go_simp)
          · exact OneSt.load (fun G s V hK hs => by have c0 := hK.cells sfC_len hiL 1 (.string (alwT x.b)) (by rw [sfX_low x vt vb vu s hs]; rfl); have hgl := hK.lt; skip; simp only [putH, Act.put, List.setIfInBounds_toArray, List.set_cons_zero, List.set_cons_succ]; go_simp)
          · exact OneSt.lay (fun G V => by simp only [putH, Act.put, List.setIfInBounds_toArray, List.set_cons_zero, List.set_cons_succ]; go_simp)
          · exact OneSt.call (fun G V hK hL => ⟨_, _, by simp only [putH, Act.put, List.setIfInBounds_toArray, List.set_cons_zero, List.set_cons_succ]; go_simp <;> exact ⟨rfl, rfl⟩, by obtain ⟨hg1, hg2⟩ := hL 15 _ _ rfl (by kernel_rfl); exact (some_any V p (kk + 1) (G 15) 2 2 xs ([x.b, 3].map alwT) (by omega) rfl (by omega) (by omega) hK.strm (by omega) (cells_blk hg2 rfl)).mono (fun e w' h => ⟨by rw [h.1, alw_pick2 x.b _ (nextN_lt xs (kk + 1) 2 (by omega)), HV.out.2.1], hK.call h.2.2 (by omega) (by omega) h.2.1 rfl⟩)⟩)
          · exact OneSt.pure (fun G V => by simp only [putH, Act.put, List.setIfInBounds_toArray, List.set_cons_zero, List.set_cons_succ]; go_simp)
          · exact OneSt.pure (fun G V => by simp only [putH, Act.put, List.setIfInBounds_toArray, List.set_cons_zero, List.set_cons_succ]; go_simp)
          · exact OneSt.pure (fun G V => by simp only [putH, Act.put, List.setIfInBounds_toArray, List.set_cons_zero, List.set_cons_succ]; go_simp)
          · exact OneSt.pure (fun G V => by simp only [putH, Act.put, List.setIfInBounds_toArray, List.set_cons_zero, List.set_cons_succ]; go_simp)
          · exact OneSt.pure (fun G V => by simp only [putH, Act.put, List.setIfInBounds_toArray, List.set_cons_zero, List.set_cons_succ]; go_simp)
          · exact OneSt.load (fun G s V hK hs => by have c0 := hK.cells sfC_len hiL 3 (.int .i64 x.u) (by rw [sfX_low x vt vb vu s hs]; rfl); have hgl := hK.lt; skip; simp only [putH, Act.put, List.setIfInBounds_toArray, List.set_cons_zero, List.set_cons_succ]; go_simp)
          · exact OneSt.pure (fun G V => by simp only [putH, Act.put, List.setIfInBounds_toArray, List.set_cons_zero, List.set_cons_succ]; go_simp)
          · exact OneSt.pure (fun G V => by simp only [putH, Act.put, List.setIfInBounds_toArray, List.set_cons_zero, List.set_cons_succ]; go_simp)
          · exact OneSt.pure (fun G V => by simp only [putH, Act.put, List.setIfInBounds_toArray, List.set_cons_zero, List.set_cons_succ]; go_simp)
          · exact OneSt.pure (fun G V => by simp only [putH, Act.put, List.setIfInBounds_toArray, List.set_cons_zero, List.set_cons_succ]; go_simp)
          · exact OneSt.load (fun G s V hK hs => by have c0 := hK.cells sfC_len hiL 2 (.int .i64 x.f) (by rw [sfX_low x vt vb vu s hs]; rfl); have hgl := hK.lt; skip; simp only [putH, Act.put, List.setIfInBounds_toArray, List.set_cons_zero, List.set_cons_succ]; go_simp)
          · exact OneSt.lay (fun G V => by simp only [putH, Act.put, List.setIfInBounds_toArray, List.set_cons_zero, List.set_cons_succ]; go_simp)
          · exact OneSt.call (fun G V hK hL => ⟨_, _, by simp only [putH, Act.put, List.setIfInBounds_toArray, List.set_cons_zero, List.set_cons_succ]; go_simp <;> exact ⟨rfl, rfl⟩, by obtain ⟨hg1, hg2⟩ := hL 28 _ _ rfl (by kernel_rfl); exact (pick_any V p (kk + 2) (G 28) 3 3 xs [x.u, x.f, 500] (by omega) rfl (by omega) (by omega) hK.strm (by omega) (cells_blk hg2 rfl)).mono (fun e w' h => ⟨by rw [h.1, HV.out.2.2], hK.call h.2.2 (by omega) (by omega) h.2.1 rfl⟩)⟩)
          · exact OneSt.pure (fun G V => by simp only [putH, Act.put, List.setIfInBounds_toArray, List.set_cons_zero, List.set_cons_succ]; go_simp)
          · exact OneSt.pure (fun G V => by simp only [putH, Act.put, List.setIfInBounds_toArray, List.set_cons_zero, List.set_cons_succ]; go_simp)
          · exact OneSt.store (fun G V hK hL => by have c0 := hK.cells sfC_len hiL 0 _ rfl; have f0 := hK.fro (i * 4 + 0); have hgl := hK.lt; have hs := hK.store sfC_len hiL (by omega) hpgl 0 (by omega) (.string (tmT vt)) rfl rfl; simp only [Nat.add_zero] at c0 f0 hs; refine ⟨_, ?_, rfl, hs.1, hs.2⟩; simp only [putH, Act.put, List.setIfInBounds_toArray, List.set_cons_zero, List.set_cons_succ]; go_simp)
          · exact OneSt.pure (fun G V => by simp only [putH, Act.put, List.setIfInBounds_toArray, List.set_cons_zero, List.set_cons_succ]; go_simp)
          · exact OneSt.pure (fun G V => by simp only [putH, Act.put, List.setIfInBounds_toArray, List.set_cons_zero, List.set_cons_succ]; go_simp)
          · exact OneSt.store (fun G V hK hL => by have c0 := hK.cells sfC_len hiL 1 _ rfl; have f0 := hK.fro (i * 4 + 1); have hgl := hK.lt; have hs := hK.store sfC_len hiL (by omega) hpgl 1 (by omega) (.string (alwT vb)) rfl rfl; refine ⟨_, ?_, rfl, hs.1, hs.2⟩; simp only [putH, Act.put, List.setIfInBounds_toArray, List.set_cons_zero, List.set_cons_succ]; go_simp)
          · exact OneSt.pure (fun G V => by simp only [putH, Act.put, List.setIfInBounds_toArray, List.set_cons_zero, List.set_cons_succ]; go_simp)
          · exact OneSt.pure (fun G V => by simp only [putH, Act.put, List.setIfInBounds_toArray, List.set_cons_zero, List.set_cons_succ]; go_simp)
          · exact OneSt.pure (fun G V => by simp only [putH, Act.put, List.setIfInBounds_toArray, List.set_cons_zero, List.set_cons_succ]; go_simp)
          · exact OneSt.store (fun G V hK hL => by have c0 := hK.cells sfC_len hiL 3 _ rfl; have f0 := hK.fro (i * 4 + 3); have hgl := hK.lt; have hs := hK.store sfC_len hiL (by omega) hpgl 3 (by omega) (.int .i64 vu) rfl rfl; refine ⟨_, ?_, rfl, hs.1, hs.2⟩; simp only [putH, Act.put, List.setIfInBounds_toArray, List.set_cons_zero, List.set_cons_succ]; go_simp)
        · intro G W7 hK hsz hG
          clear hG
          have HK := Lib.hid hK
          clear hK
          simp only [putL, putH, Act.put, List.setIfInBounds_toArray, List.set_cons_zero, List.set_cons_succ]
          have HX8 := Lib.hid (show ∀ y ∈ L.set i (sfX x vt vb vu 6), SfG y from fun y hy => by
            rcases List.mem_or_eq_of_mem_set hy with hy | rfl
            · exact HOK.out y hy
            · have e1 := u3_range x.u x.f (nextN xs (kk + 2) 3) (nextN_lt xs (kk + 2) 3 (by omega)) HXI.out.u HXI.out.f
              rw [HV.out.2.2] at e1
              exact ⟨HXI.out.f, e1⟩)
          have HGF := Lib.hid (show w.grownBy W7 (some p) from grown_trans HG01.out ⟨HK.out.gr.os.trans HG6.out.os, HK.out.gr.tape.trans HG6.out.tape, HK.out.gr.output.trans HG6.out.output, Nat.le_trans HG6.out.size HK.out.gr.size, fun b hb hne => (HK.out.gr.block b (Nat.lt_of_lt_of_le hb HG6.out.size) (fun h => h.elim (fun h => hne (by rw [h])) (fun h => by omega))).trans (HG6.out.block b hb hne)⟩)
          go_wp2_with (fail)
          go_ret
          exact ⟨_, some ⟨g, 0, none⟩, c, _, n, HSF.out, rfl, HX8.out, by rw [List.length_set]; exact HLN.out, by omega, own_mono HK.out.own (by omega), HK.out.strm, by simp only [sfD]; omega, HGF.out⟩
end Go.Proofs.YtgdnedhcbjonkaaGreatDoor
