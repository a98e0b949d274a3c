/- (*command.Doer).Do of the law's letters by its contract. -/
import Derived.Test.YtbimiojoihfnkaaGreatDoorDoB
import Derived.Deep.RegionHeld3
namespace Go.Proofs.YtbimiojoihfnkaaGreatDoor
open Go.RowKit

/-- A slice lies in memory, from block q on, and not in block g. -/
def LiesX (w : World) (q g : Nat) (A : Option Addr) (n c : Nat) (xs : List Value) : Prop := (A = none ∧ n = 0 ∧ c = 0 ∧ xs = []) ∨ ∃ b o, A = some ⟨b, o, none⟩ ∧ b < w.heap.size ∧ (q ≤ b ∧ b ≠ g ∧ ∃ cs, w.heap[b]? = some (.cells cs 148 (0, 0))) ∧ Cells w b o xs
theorem LiesX.lies {w : World} {q g : Nat} {A : Option Addr} {n c : Nat} {xs : List Value} (h : LiesX w q g A n c xs) : Lies w A n c xs := by
  rcases h with h | ⟨b, o, e, hlt, _, hc⟩
  · exact .inl h
  · exact .inr ⟨b, o, e, hlt, hc⟩
theorem LiesX.row {w w' : World} {q g : Nat} {A : Option Addr} {n c : Nat} {xs : List Value} {row : Option Nat} (h : LiesX w q g A n c xs) (hg : w.grownBy w' row) (hr : ∀ p, row = some p → p < q ∨ p = g ∨ ∀ cs, w.heap[p]? ≠ some (.cells cs 148 (0, 0))) : LiesX w' q g A n c xs := by
  rcases h with h | ⟨b, o, e, hlt, ⟨h1, h2, cs, h3⟩, hc⟩
  · exact .inl h
  · have hne : some b ≠ row := by
      intro e
      rcases hr b e.symm with h | h | h
      · omega
      · exact h2 h
      · exact h cs h3
    exact .inr ⟨b, o, e, by have := hg.size; omega, ⟨h1, h2, cs, (hg.block b hlt hne).trans h3⟩, hc.keep (hg.block b hlt hne)⟩
theorem LiesX.grown {w w' : World} {q g : Nat} {A : Option Addr} {n c : Nat} {xs : List Value} (h : LiesX w q g A n c xs) (hg : w.grownBy w' (some g)) : LiesX w' q g A n c xs := h.row hg (fun _ e => .inr (.inl (Option.some.inj e).symm))
/-- Block g is a device's memory that holds the letters L. -/
structure Doer (w : World) (q g r : Nat) (L : List Nat) (t : Int) : Prop where
  blk : ∃ A c, w.heap[g]? = some (.cells #[.int .i64 (r : Int), .slice A L.length c, .int .i64 t] 145 (0, 0)) ∧ LiesX w q g A L.length c (recs dnC L)
  room : L.length ≤ r
  five : ∀ j ∈ L, j < 5
  t0 : 0 ≤ t
  qg : q ≤ g
theorem Doer.row {w w' : World} {q g r : Nat} {L : List Nat} {t : Int} {row : Option Nat} (h : Doer w q g r L t) (hb : w.grownBy w' row) (hr : ∀ p, row = some p → p ≠ g ∧ (p < q ∨ ∀ cs, w.heap[p]? ≠ some (.cells cs 148 (0, 0)))) : Doer w' q g r L t := by
  obtain ⟨⟨A, c, h1, h2⟩, h3, h4, h5, h6⟩ := h
  have hg := (Array.getElem?_eq_some_iff.1 h1).1
  refine ⟨⟨A, c, (hb.block g hg (fun e => (hr g e.symm).1 rfl)).trans h1, h2.row hb (fun p e => (hr p e).2.imp id .inr)⟩, h3, h4, h5, h6⟩
theorem Doer.grown {w w' : World} {p q g r : Nat} {L : List Nat} {t : Int} (h : Doer w q g r L t) (hb : w.grownBy w' (some p)) (hp : p < q) : Doer w' q g r L t :=
  h.row hb (fun p' e => by have := h.qg; obtain rfl := Option.some.inj e; exact ⟨by omega, .inl hp⟩)
theorem Doer.keep {w w' : World} {q g r : Nat} {L : List Nat} {t : Int} (h : Doer w q g r L t) (hb : Below w.heap.size w w') : Doer w' q g r L t :=
  h.row (row := none) ⟨hb.os, hb.tape, hb.output, hb.size, fun i hi _ => hb.block i hi⟩ (fun p e => by cases e)
/-- What Do answers. -/
def DoAns (L N : List Nat) (i : Nat) (at_ : Int) (ok : Bool) (er : Int) : Prop := (ok = true ∧ er = 0 ∧ at_ < ltU i ∧ i ∉ L ∧ Mem L N i at_) ∨ (ok = false ∧ (er = 0 ∨ er = 12) ∧ N = L)
/-- What holds behind Do. -/
def DoPost (w : World) (q g r : Nat) (L : List Nat) (i : Nat) (at_ : Int) (e : Ending) (w' : World) : Prop :=
  ∃ (ok : Bool) (er : Int) (N : List Nat) (t' : Int), e = .returned (.tuple #[.bool ok, .int .i64 er]) ∧ Doer w' q g r N t' ∧ t' ≤ at_ ∧ w.grownBy w' (some g) ∧ DoAns L N i at_ ok er
theorem DoPost.of {w w' : World} {q g r : Nat} {L : List Nat} {i : Nat} {at_ : Int} {e : Ending} (ok : Bool) (er : Int) (N : List Nat) (t' : Int) (h1 : e = .returned (.tuple #[.bool ok, .int .i64 er])) (h2 : Doer w' q g r N t') (h3 : t' ≤ at_) (h4 : w.grownBy w' (some g)) (h5 : DoAns L N i at_ ok er) :
    DoPost w q g r L i at_ e w' := ⟨ok, er, N, t', h1, h2, h3, h4, h5⟩
theorem below_grown_g {w w' : World} (h : Below w.heap.size w w') (g : Nat) : w.grownBy w' (some g) := ⟨h.os, h.tape, h.output, h.size, fun i hi _ => h.block i hi⟩
theorem set_blk {w : World} {g : Nat} {cs : Array Value} {t : TypeId} (h : w.heap[g]? = some (.cells cs t (0, 0))) (j : Nat) (v : Value) : (w.setCell ⟨g, j, none⟩ v).heap[g]? = some (.cells (cs.setIfInBounds j v) t (0, 0)) := heap_setCell_same w g j cs t v h

set_option maxRecDepth 100000 in
set_option maxHeartbeats 8000000 in
theorem do_any (L : List Nat) (i r q g : Nat) (t at_ : Int) (w : World) (hd : Doer w q g r L t) (hr4 : r ≤ 4) (hi : i < 5) (hta : t ≤ at_) (hat : at_ ≤ 1000000) :
    Calls Tryz.prog 18 #[.pointer (some ⟨g, 0, none⟩), ltV i, .int .i64 at_] w fun e w' => DoPost w q g r L i at_ e w' := by
  obtain ⟨i0, hi0, hz0, hz1, hz2⟩ := info_parts Tryz.infoDn
  have HD := Lib.hid hd
  have ht0 := hd.t0
  have hroom := hd.room
  have H5 := Lib.hid hd.five
  have hqg := hd.qg
  obtain ⟨⟨A, c, hg, hA⟩, _, _, _, _⟩ := hd
  have hglt := (Array.getElem?_eq_some_iff.1 hg).1
  have hu := ltU_range hi
  have HI := Lib.hid hi
  have HLN := Lib.hid (show ∃ n, n = L.length from ⟨_, rfl⟩)
  obtain ⟨n, en⟩ := HLN.out
  have HN := Lib.hid en.symm
  rw [← en] at hg hA hroom
  have HGB := Lib.hid hg
  have HA := Lib.hid hA
  obtain ⟨u, eu⟩ : ∃ u, u = ltU i := ⟨_, rfl⟩
  obtain ⟨id, eid⟩ : ∃ id, id = ltId i := ⟨_, rfl⟩
  have HU := Lib.hid (And.intro eu eid)
  have HCK := Lib.hid (fun V => checkLetter_i i hi V)
  unfold ltV at HCK ⊢
  rw [← eu, ← eid] at HCK ⊢
  rw [← eu] at hu
  clear hA hg hi en HLN eu eid
  go_enter Tryz.func18, Tryz.ntmps18
  go_wp2_with (fail)
  generalize hW : w.alloc (.cells #[.string id, .string ⟨#[]⟩, .string ⟨#[]⟩, .int .i64 0, .int .i64 0, .int .i64 u] 46) = W
  have hWs : W.heap.size = w.heap.size + 1 := by rw [← hW]; simp
  have hBW : Below w.heap.size w W := hW ▸ (Below.refl _ _).alloc (Nat.le_refl _) _
  have HP := Lib.hid (show W.heap[w.heap.size]? = some (.cells #[.string id, .string ⟨#[]⟩, .string ⟨#[]⟩, .int .i64 0, .int .i64 0, .int .i64 u] 46) by rw [← hW]; exact heap_new w _)
  have HBW := Lib.hid hBW
  clear hW hBW
  refine (HCK.out W).mono ?_
  rintro e w1 ⟨rfl, hb1⟩
  have hs1 := hb1.size
  have HP1 := Lib.hid ((hb1.block w.heap.size (by omega)).trans HP.out)
  have HB1 := Lib.hid (HBW.out.trans (hb1.mono (by omega)))
  have hg1 := (HB1.out.block g hglt).trans HGB.out
  have g2 := cell_of_blk (j := 2) hg1 rfl
  have g1 := cell_of_blk (j := 1) hg1 rfl
  have p5 := cell_of_blk (j := 5) HP1.out rfl
  have p0 := cell_of_blk (j := 0) HP1.out rfl
  have hp1 : w.heap.size < w1.heap.size := by omega
  have hg1lt : g < w1.heap.size := by omega
  have hfr : ∀ j, w1.frozen? ⟨g, j, none⟩ = false := by intro j; simp [World.frozen?, hg1]
  have f2 := hfr 2
  have f1 := hfr 1
  have hnlt : ¬ at_ < t := by omega
  clear hb1 hfr HBW HP
  have HSTOP := Lib.hid (show Doer (w1.setCell ⟨g, 2, none⟩ (.int .i64 at_)) q g r L at_ ∧ w.grownBy (w1.setCell ⟨g, 2, none⟩ (.int .i64 at_)) (some g) by
    have hgr := grown_set (g := g) (below_grown_g HB1.out g) (q := ⟨g, 2, none⟩) (.inl rfl) (.int .i64 at_)
    refine ⟨⟨⟨A, c, ?_, ?_⟩, by rw [HN.out]; exact hroom, H5.out, by omega, hqg⟩, hgr⟩
    · rw [HN.out]
      have := set_blk hg1 2 (.int .i64 at_)
      simpa using this
    · rw [HN.out]; exact HA.out.grown hgr)
  have HG1 := Lib.hid hg1
  clear hg1
  by_cases hua : u ≤ at_
  · go_wp2_with (go_at_call 73; refine (moment_yes _ _ (by omega) (by omega)).mono ?_; rintro e w' ⟨rfl, rfl⟩)
    go_ret2
    exact DoPost.of false 0 L at_ rfl HSTOP.out.1 (Int.le_refl _) HSTOP.out.2 (.inr ⟨rfl, .inl rfl, rfl⟩)
  · have HL1 := Lib.hid (HA.out.lies.below HB1.out)
    have HHAS := Lib.hid (hasD_any L i w.heap.size n c A w1 HN.out (by omega) HL1.out (HU.out.2 ▸ p0) HI.out H5.out)
    have HST1 := Lib.hid p0
    go_wp2_with (go_at_call 73; refine (moment_yes _ _ (by omega) (by omega)).mono ?_; rintro e w' ⟨rfl, rfl⟩)
    refine HHAS.out.mono ?_
    rintro e w2 ⟨rfl, hb2⟩
    have hs2 := hb2.size
    have HP2 := Lib.hid ((hb2.block w.heap.size (by omega)).trans HP1.out)
    have HB2 := Lib.hid (HB1.out.trans (hb2.mono (by omega)))
    have hg2 := (hb2.block g (by omega)).trans HG1.out
    have HG2 := Lib.hid hg2
    have k2 := cell_of_blk (j := 2) hg2 rfl
    have k1 := cell_of_blk (j := 1) hg2 rfl
    have q5 := cell_of_blk (j := 5) HP2.out rfl
    have q0 := cell_of_blk (j := 0) HP2.out rfl
    have hp2 : w.heap.size < w2.heap.size := by omega
    have hg2lt : g < w2.heap.size := by omega
    have hfr : ∀ j, w2.frozen? ⟨g, j, none⟩ = false := by intro j; simp [World.frozen?, hg2]
    have f2' := hfr 2
    have HLX2 := Lib.hid (HA.out.grown (below_grown_g HB2.out g))
    clear hb2 hfr hg2 g1 g2 p0 p5 f1 f2 HHAS
    by_cases him : i ∈ L
    · have HSTOP2 := Lib.hid (show Doer (w2.setCell ⟨g, 2, none⟩ (.int .i64 at_)) q g r L at_ ∧ w.grownBy (w2.setCell ⟨g, 2, none⟩ (.int .i64 at_)) (some g) by
        have hgr := grown_set (g := g) (below_grown_g HB2.out g) (q := ⟨g, 2, none⟩) (.inl rfl) (.int .i64 at_)
        refine ⟨⟨⟨A, c, ?_, ?_⟩, by rw [HN.out]; exact hroom, H5.out, by omega, hqg⟩, hgr⟩
        · rw [HN.out]
          have := set_blk HG2.out 2 (.int .i64 at_)
          simpa using this
        · rw [HN.out]; exact HA.out.grown hgr)
      rw [decide_eq_true him]
      clear him HSTOP
      go_wp2_with (fail)
      go_ret2
      exact DoPost.of false 0 L at_ rfl HSTOP2.out.1 (Int.le_refl _) HSTOP2.out.2 (.inr ⟨rfl, .inl rfl, rfl⟩)
    · rw [decide_eq_false him]
      have HIM := Lib.hid him
      clear him HSTOP
      have HCL := Lib.hid (fun (V : World) (hV : Below w2.heap.size w2 V) => show Calls Tryz.prog 76 #[.slice A n c] V fun e w3 => ∃ v3, e = .returned v3 ∧ w3.ownsRow (w.heap.size + 1) 148 2 v3 n (recs dnC L) ∧ (∀ k, v3.ownBlock = some k → w2.heap.size ≤ k) ∧ Below w2.heap.size w2 w3 ∧ (∀ b, b < V.heap.size → w3.heap[b]? = V.heap[b]?) from
        (cloneD_any L n c A V HN.out (by omega) (HLX2.out.lies.below hV)).mono fun e w3 ⟨v3, h1, h2, h3⟩ => ⟨v3, h1, own_mono h2 (by have := hV.size; omega), fun k hk => by have := hV.size; have := (h2.lt k hk).1; omega, hV.trans (h3.mono hV.size), h3.block⟩)
      have HSL := Lib.hid (fun (V V' : World) (hV : Below w2.heap.size w2 V) (hV' : Below V.heap.size V V') => show V'.cell? ⟨g, 1, none⟩ = some (.slice A n c) ∧ V'.cell? ⟨w.heap.size, 0, none⟩ = some (.string id) ∧ V'.cell? ⟨w.heap.size, 5, none⟩ = some (.int .i64 u) by
        have h := hV.trans (hV'.mono hV.size)
        exact ⟨(h.cell (p := ⟨g, 1, none⟩) hg2lt).trans k1, (h.cell (p := ⟨w.heap.size, 0, none⟩) hp2).trans q0, (h.cell (p := ⟨w.heap.size, 5, none⟩) hp2).trans q5⟩)
      have HSA := Lib.hid (fun (w3 w' : World) (v3 : Value) (hb3 : Below w2.heap.size w2 w3) (hlo3 : ∀ k, v3.ownBlock = some k → w2.heap.size ≤ k) (h2 : w3.grownBy w' v3.ownBlock) => show Below w2.heap.size w2 w' from hb3.grown h2 hb3.size hlo3)
      go_upto_region 11 with (fail)
      go_cut [9] (fun s9 wx => ∃ A9 c9, s9 = .slice A9 (n + 1) c9 ∧ wx.ownsRow (w.heap.size + 1) 148 2 (.slice A9 (n + 1) c9) (n + 1) (recs dnC (L ++ [i])) ∧ Below w2.heap.size w2 wx)
      case first =>
        have HNEWS : ∀ (V : World), Cells (V.alloc (.cells #[.string id, .int .i64 u] 148)) V.heap.size 0 [.string id, .int .i64 u] := fun V => Cells.new V _ _ _ _ rfl
        have HNW := Lib.hid HNEWS
        clear HNEWS
        go_region_held3 (fun w' => w'.cell? ⟨g, 1, none⟩ = some (.slice A n c) ∧ w'.cell? ⟨w.heap.size, 0, none⟩ = some (.string id) ∧ w'.cell? ⟨w.heap.size, 5, none⟩ = some (.int .i64 u))
          (first | go_keep | (exact hS))
          (first
            | (go_at_call 76; refine (HCL.out _ (by first | with_reducible exact (Below.refl _ _).drew | with_reducible exact ((Below.refl _ _).alloc (Nat.le_refl _) _).drew | with_reducible exact ((Below.refl _ _).drew).alloc (Nat.le_refl _) _)).mono ?_; rintro e w3 ⟨v3, rfl, ho3, hlo3, hb3, hk3⟩; have hS := HSL.out w2 w3 (Below.refl _ _) hb3)
            | (refine step_append_row rfl (.tmp 49) (.tmp 55) 143 rfl (w.heap.size + 1) 148 i0 _ 2 24 Tryz.underlying143 hi0 hz0 hz1 hz2 rfl (by decide) v3 n (recs dnC L) (by simp [Act.eval]) (ho3.alloc _) ⟨w3.heap.size, 0, none⟩ 1 1 [.string id, .int .i64 u] (by simp [Act.eval]) rfl (cells_add (HNW.out _)) (by intro x hx; simp at hx; rcases hx with rfl | rfl <;> rfl) (by unfold maxLen; omega) (by omega) (by have h : w2.heap.size ≤ w3.heap.size := hb3.size; simp; omega) ?_; intro v' w' h1 h2; have hB' := HSA.out _ w' v3 (hb3.alloc hb3.size _) hlo3 h2; have hS := HSL.out w2 w' (Below.refl _ _) hB'; obtain ⟨A9, c9, hv⟩ := own_slice h1; subst hv)
            | (refine step_append_row rfl (.tmp 49) (.tmp 55) 143 rfl (w.heap.size + 1) 148 i0 _ 2 24 Tryz.underlying143 hi0 hz0 hz1 hz2 rfl (by decide) v3 n (recs dnC L) (by simp [Act.eval]) ho3 ⟨w2.heap.size, 0, none⟩ 1 1 [.string id, .int .i64 u] (by simp [Act.eval]) rfl (cells_add ((HNW.out w2).keep (hk3 w2.heap.size (by simp)))) (by intro x hx; simp at hx; rcases hx with rfl | rfl <;> rfl) (by unfold maxLen; omega) (by omega) (by have h : w2.heap.size ≤ w3.heap.size := hb3.size; omega) ?_; intro v' w' h1 h2; have hB' := HSA.out _ w' v3 hb3 hlo3 h2; have hS := HSL.out w2 w' (Below.refl _ _) hB'; obtain ⟨A9, c9, hv⟩ := own_slice h1; subst hv))
        all_goals
          go_wp2_with (fail)
          go_meet
          exact ⟨_, _, rfl, by rw [recs_snoc]; unfold dnC; rw [← HU.out.1, ← HU.out.2]; exact h1, hB'⟩
      case rest =>
        obtain ⟨A9, c9, rfl, ho9, hb9⟩ := hcut
        obtain ⟨w4, rfl⟩ : ∃ w4 : World, w4 = wc := ⟨_, rfl⟩
        have hs4 := hb9.size
        have HO9 := Lib.hid ho9
        have HB4 := Lib.hid (HB2.out.trans (hb9.mono (by omega)))
        have hg4 := (hb9.block g hg2lt).trans HG2.out
        have HG4 := Lib.hid hg4
        have hlen := HN.out
        have HSTAY := Lib.hid (fun (V : World) (hV : Below w4.heap.size w4 V) => show Doer V q g r L t ∧ w.grownBy V (some g) from
          ⟨HD.out.keep (HB4.out.trans (hV.mono (by have := HB4.out.size; omega))), below_grown_g (HB4.out.trans (hV.mono (by have := HB4.out.size; omega))) g⟩)
        clear ho9 hb9 hg4 HCL HSL HSA k1 k2 q0 q5 f2'
        go_wp2_with (fail)
        go_loopw [9] (fun s9 wr => ∃ (N : List Nat) (A9 : Option Addr) (c9 : Nat), s9 = .slice A9 N.length c9 ∧ wr.ownsRow (w.heap.size + 1) 148 2 (.slice A9 N.length c9) N.length (recs dnC N) ∧ Mem L N i at_ ∧ N.length ≤ 5 ∧ wr.heap[g]? = some (.cells #[.int .i64 (r : Int), .slice A n c, .int .i64 t] 145 (0, 0)) ∧ w4.heap.size ≤ wr.heap.size ∧ Below w.heap.size w wr) (fun s9 _ => slLen s9)
        case atStart => exact ⟨L ++ [i], A9, c9, by simp [HN.out], by have := HO9.out; simpa [HN.out] using this, Mem.start H5.out HI.out, by simp; omega, HG4.out, Nat.le_refl _, HB4.out⟩
        case round =>
          obtain ⟨N, A9, c9, rfl, hown, hmem, hN5, hgr, hszr, hblr⟩ := hrel
          have HMEM := Lib.hid hmem
          have HOWN := Lib.hid hown
          have HBLR := Lib.hid hblr
          have HGR := Lib.hid hgr
          have hgrlt : g < wr.heap.size := by omega
          have r0 := cell_of_blk (j := 0) hgr rfl
          have r1 := cell_of_blk (j := 1) hgr rfl
          have r2 := cell_of_blk (j := 2) hgr rfl
          obtain ⟨M, eM⟩ : ∃ M, M = N.length := ⟨_, rfl⟩
          rw [← eM] at hN5 hown ⊢
          have HM := Lib.hid eM.symm
          clear eM
          by_cases hle : M ≤ r
          · have hnl : ¬ (r : Int) < (M : Int) := by omega
            have hfr : ∀ j, wr.frozen? ⟨g, j, none⟩ = false := by intro j; simp [World.frozen?, hgr]
            have f1 := hfr 1
            have f2 := hfr 2
            have HFIN := Lib.hid (show Doer ((wr.setCell ⟨g, 1, none⟩ (.slice A9 M c9)).setCell ⟨g, 2, none⟩ (.int .i64 at_)) q g r N at_ ∧ w.grownBy ((wr.setCell ⟨g, 1, none⟩ (.slice A9 M c9)).setCell ⟨g, 2, none⟩ (.int .i64 at_)) (some g) by
              have h1 := set_blk (set_blk hgr 1 (.slice A9 M c9)) 2 (.int .i64 at_)
              have hgw := grown_set (g := g) (grown_set (g := g) (below_grown_g HBLR.out g) (q := ⟨g, 1, none⟩) (.inl rfl) (.slice A9 M c9)) (q := ⟨g, 2, none⟩) (.inl rfl) (.int .i64 at_)
              have h2 := grown_set (g := g) (grown_set (g := g) (grown_refl wr (some g)) (q := ⟨g, 1, none⟩) (.inl rfl) (.slice A9 M c9)) (q := ⟨g, 2, none⟩) (.inl rfl) (.int .i64 at_)
              refine ⟨⟨⟨A9, c9, ?_, ?_⟩, by rw [HM.out]; exact hle, HMEM.out.five, by omega, hqg⟩, hgw⟩
              · rw [HM.out]
                simpa using h1
              · rw [HM.out]
                refine LiesX.grown ?_ h2
                rcases own_two hown with ⟨rfl, h3, rfl⟩ | ⟨g9, rfl, h4, h5⟩
                · exact .inl ⟨rfl, h3, rfl, List.eq_nil_of_length_eq_zero (by rw [hown.1, h3])⟩
                · exact .inr ⟨g9, 0, rfl, h5, ⟨by omega, by omega, own_blk hown⟩, own_cells0 hown⟩)
            clear hmem hown hblr hgr hfr
            go_wp2_with (fail)
            go_ret2
            exact DoPost.of true 0 N at_ rfl HFIN.out.1 (Int.le_refl _) HFIN.out.2 (.inl ⟨rfl, rfl, by rw [← HU.out.1]; omega, HIM.out, HMEM.out⟩)
          · have hnl : (r : Int) < (M : Int) := by omega
            have hM0 : 0 < M := by omega
            obtain ⟨g9, rfl, hg9, hg9lt⟩ : ∃ g9, A9 = some ⟨g9, 0, none⟩ ∧ w.heap.size + 1 ≤ g9 ∧ g9 < wr.heap.size := by
              rcases own_two hown with ⟨_, h3, _⟩ | h
              · omega
              · exact h
            have HC := Lib.hid (own_cells0 hown)
            have HSR := Lib.hid (fun (V : World) (hV : Below wr.heap.size wr V) => show Doer V q g r L t ∧ w.grownBy V (some g) ∧ V.ownsRow (w.heap.size + 1) 148 2 (.slice (some ⟨g9, 0, none⟩) M c9) M (recs dnC N) ∧ V.heap[g]? = some (.cells #[.int .i64 (r : Int), .slice A n c, .int .i64 t] 145 (0, 0)) ∧ Below w.heap.size w V from by
              have hb := HBLR.out.trans (hV.mono (by have := HBLR.out.size; omega))
              exact ⟨HD.out.keep hb, below_grown_g hb g, own_below hown hV, (hV.block g hgrlt).trans hgr, hb⟩)
            clear hmem hown hblr hgr
            go_wp2_with (fail)
            obtain ⟨wo, rfl⟩ : ∃ wo : World, wo = wr := ⟨_, rfl⟩
            go_loopw [10, 66] (fun f s wi => ∃ fN k : Nat, f = .int .i64 (fN : Int) ∧ fN < M ∧ k ≤ M ∧ s = .int .i64 (k : Int) ∧ Below wo.heap.size wo wi) (fun _ s _ => M - (intOf s).toNat)
            case atStart => exact ⟨0, 0, rfl, hM0, Nat.zero_le _, rfl, Below.refl _ _⟩
            case round =>
              obtain ⟨fN, k, rfl, hfN, hk, rfl, hbi⟩ := hrel
              have hsi := hbi.size
              have HBI := Lib.hid hbi
              have hci := HC.out.keep (hbi.block g9 hg9lt)
              obtain ⟨y, hy⟩ : ∃ y, N[fN]? = some y := ⟨_, List.getElem?_eq_getElem (by have := HM.out; omega)⟩
              have d0 := rec_cell dnC_len hci fN y hy 0 _ rfl
              have d1 := rec_cell dnC_len hci fN y hy 1 _ rfl
              simp only [Nat.zero_add, Nat.add_zero] at d0 d1
              have HY := Lib.hid hy
              obtain ⟨uy, euy⟩ : ∃ uy, uy = ltU y := ⟨_, rfl⟩
              obtain ⟨iy, eiy⟩ : ∃ iy, iy = ltId y := ⟨_, rfl⟩
              have HEY := Lib.hid euy
              rw [← euy] at d1
              rw [← eiy] at d0
              have hg9i : g9 < wr.heap.size := by omega
              have hfM : (fN : Int) < (M : Int) := by omega
              clear hy euy eiy
              by_cases hlt : k < M
              · obtain ⟨x, hx⟩ : ∃ x, N[k]? = some x := ⟨_, List.getElem?_eq_getElem (by have := HM.out; omega)⟩
                have c0 := rec_cell dnC_len hci k x hx 0 _ rfl
                have c1 := rec_cell dnC_len hci k x hx 1 _ rfl
                simp only [Nat.zero_add, Nat.add_zero] at c0 c1
                obtain ⟨ux, eux⟩ : ∃ ux, ux = ltU x := ⟨_, rfl⟩
                obtain ⟨ix, eix⟩ : ∃ ix, ix = ltId x := ⟨_, rfl⟩
                rw [← eux] at c1
                rw [← eix] at c0
                have hlt' : (k : Int) < (M : Int) := by omega
                clear hx eux eix hci hbi
                by_cases hxy : ux < uy
                · go_wp2_with (fail)
                  go_quiet (fail)
                  go_wp2_with (fail)
                  go_roundw
                  case rel => exact ⟨k, k + 1, rfl, by omega, by omega, by go_num, below_drewN (HBI.out.alloc hsi _) _⟩
                  case measure => simp [intOf]; omega
                · go_wp2_with (fail)
                  go_quiet (fail)
                  go_wp2_with (fail)
                  go_roundw
                  case rel => exact ⟨fN, k + 1, rfl, by omega, by omega, by go_num, below_drewN (HBI.out.alloc hsi _) _⟩
                  case measure => simp [intOf]; omega
              · have hkM : k = M := by omega
                subst hkM
                clear hci hbi
                by_cases huy : at_ < uy
                · go_wp2_with (fail)
                  go_ret2
                  obtain ⟨q1, q2, _⟩ := HSR.out wr HBI.out
                  exact DoPost.of false 12 L t rfl q1 (hta) q2 (.inr ⟨rfl, .inr rfl, rfl⟩)
                · obtain ⟨m, rfl⟩ : ∃ m, k = fN + m + 1 := ⟨k - fN - 1, by omega⟩
                  have HDEL := Lib.hid (del_any N fN m g9 c9 (w.heap.size + 1) wr HM.out (by omega) (HSR.out wr HBI.out).2.2.1)
                  go_wp2_with (fail)
                  refine HDEL.out.mono ?_
                  rintro e w5 ⟨rfl, ho5, hg5⟩
                  have HO5 := Lib.hid ho5
                  have HG5 := Lib.hid hg5
                  have hs5 := hg5.size
                  clear ho5 hg5
                  go_wp2_with (fail)
                  go_roundw
                  case rel =>
                    have hl : (N.eraseIdx fN).length = fN + m := by rw [List.length_eraseIdx_of_lt (by have := HM.out; omega), HM.out]; omega
                    refine ⟨N.eraseIdx fN, some ⟨g9, 0, none⟩, c9, by rw [hl], by rw [hl]; exact HO5.out, HMEM.out.erase (by rw [← HU.out.1]; omega) HY.out (by rw [← HEY.out]; omega), by omega, ?_, by omega, ?_⟩
                    · exact (HG5.out.block g (by omega) (by intro e; injection e with e; omega)).trans (HSR.out wr HBI.out).2.2.2.1
                    · exact (HSR.out wr HBI.out).2.2.2.2.grown HG5.out (by omega) (fun q hq => by injection hq with hq; omega)
                  case measure => simp [slLen]
end Go.Proofs.YtbimiojoihfnkaaGreatDoor
