/- LettersEnd: the law function. Printed by gen_LeL.py. -/
import Derived.Test.YtjfjmlmnilmihaaGreatDoorLeQ
import Derived.Test.YtjfjmlmnilmihaaGreatDoorQtt
import Derived.Test.YtjfjmlmnilmihaaGreatDoorOfA
import Derived.Test.YtjfjmlmnilmihaaGreatDoorMgA
import Derived.BigRegion
import Derived.Deep.RegionLawGrows
namespace Go.Proofs.YtjfjmlmnilmihaaGreatDoor
open Go.RowKit

/-- What holds of the memory, round by round. -/
structure LeN (w wx : World) (p k : Nat) (xs : List Int) (q : Po) (o gd ga gp bs : Nat) (a : Int) (m ck : Nat) (M : Mp) (tm : Int) (cn : Nat) (v : Value) (np : Nat) (ys : List Value) (A : Option Addr) (nd c : Nat) (D E : List Nat) : Prop where
  st : Strm wx p xs k
  be : Below w.heap.size w wx
  ia : OfI wx o m ck M q tm
  iv : LeI q (fM M) tm cn E
  la : tm ≤ a
  bd : wx.heap[gd]? = some (.cells #[.slice A nd c] 53 (0, 0))
  ba : wx.heap[ga]? = some (.cells #[.int .i64 a] 3 (0, 0))
  bp : wx.heap[gp]? = some (.cells #[.int .i64 q.room, .int .i64 q.tmo, .int .i64 q.tri, .int .i64 q.kept] 27 (0, 0))
  rp : wx.ownsRow bs 35 6 v np ys
  rd : wx.ownsRow bs 9 1 (.slice A nd c) nd (recs isC D)
  dl : D.length = nd
  ne : ∀ b, v.ownBlock = some b → (Value.slice A nd c).ownBlock ≠ some b
  or : p < gp ∧ gp < o ∧ o < gd ∧ gd < ga ∧ ga < bs
  sz : bs ≤ wx.heap.size
  wp : w.heap.size ≤ p
/-- The same, where the names done are those the office says. -/
abbrev LeM (w wx : World) (p k : Nat) (xs : List Int) (q : Po) (o gd ga gp bs : Nat) (a : Int) (m ck : Nat) (M : Mp) (tm : Int) (cn : Nat) (v : Value) (np : Nat) (ys : List Value) (A : Option Addr) (nd c : Nat) (D : List Nat) : Prop := LeN w wx p k xs q o gd ga gp bs a m ck M tm cn v np ys A nd c D D
theorem own_ne_map {w : World} {base m ck : Nat} {e : TypeId} {size n : Nat} {v : Value} {xs : List Value} {M : Mp} (h : w.ownsRow base e size v n xs) (hm : MpI w m M ck) : ∀ b, v.ownBlock = some b → b ≠ m := by
  intro b hb he
  rcases h.2 with ⟨h1, _⟩ | ⟨g, cap, cur, hv, hbb, hh, r⟩
  · rw [h1] at hb; cases hb
  · rw [hv] at hb
    have : g = b := by simpa [Value.ownBlock] using hb
    unfold MpI at hm
    rw [← he, ← this, hh] at hm
    cases hm
section
variable {w wx wy : World} {p k : Nat} {xs : List Int} {q : Po} {o gd ga gp bs : Nat} {a : Int} {m ck : Nat} {M : Mp} {tm : Int} {cn : Nat} {v : Value} {np : Nat} {ys : List Value} {A : Option Addr} {nd c : Nat} {D E : List Nat}
theorem strm_neL {w : World} {p k m ck : Nat} {xs : List Int} {M : Mp} (h : Strm w p xs k) (hm : MpI w m M ck) : m ≠ p := by
  intro e
  obtain ⟨_, A, c, hb, _⟩ := h
  unfold MpI at hm
  unfold SBlk at hb
  rw [e, hb] at hm
  cases hm
theorem LeN.stream (h : LeN w wx p k xs q o gd ga gp bs a m ck M tm cn v np ys A nd c D E) {k' : Nat} (hs : Strm wy p xs k') (hg : wx.grownBy wy (some p)) : LeN w wy p k' xs q o gd ga gp bs a m ck M tm cn v np ys A nd c D E := by
  obtain ⟨o1, o2, o3, o4, o5⟩ := h.or
  have hlt : ∀ b, b ≠ p → b < wx.heap.size → wy.heap[b]? = wx.heap[b]? := fun b hb hl => hg.block b hl (fun e => hb (Option.some.inj e))
  have hsz := h.sz
  exact ⟨hs, h.be.grown hg h.be.size (fun k hk => by cases hk; exact h.wp), h.ia.row hg (by omega) (strm_neL h.st h.ia.map), h.iv, h.la, (hlt gd (by omega) (by omega)).trans h.bd, (hlt ga (by omega) (by omega)).trans h.ba, (hlt gp (by omega) (by omega)).trans h.bp, own_kept h.rp hg (by omega), own_kept h.rd hg (by omega), h.dl, h.ne, h.or, Nat.le_trans h.sz hg.size, h.wp⟩
theorem LeN.below (h : LeN w wx p k xs q o gd ga gp bs a m ck M tm cn v np ys A nd c D E) (hb : Below wx.heap.size wx wy) : LeN w wy p k xs q o gd ga gp bs a m ck M tm cn v np ys A nd c D E := by
  obtain ⟨o1, o2, o3, o4, o5⟩ := h.or
  have hsz := h.sz
  exact ⟨h.st.below hb, h.be.trans (hb.mono h.be.size), h.ia.below hb, h.iv, h.la, (hb.block gd (by omega)).trans h.bd, (hb.block ga (by omega)).trans h.ba, (hb.block gp (by omega)).trans h.bp, own_below h.rp hb, own_below h.rd hb, h.dl, h.ne, h.or, Nat.le_trans h.sz hb.size, h.wp⟩
theorem LeN.op (h : LeN w wx p k xs q o gd ga gp bs a m ck M tm cn v np ys A nd c D E) {m' ck' : Nat} {M' : Mp} {tm' : Int} {cn' : Nat} (hg : wx.grownBy wy (some o)) (hi : OfI wy o m' ck' M' q tm') {E' : List Nat} (hv : LeI q (fM M') tm' cn' E') (hl : tm' ≤ a) : LeN w wy p k xs q o gd ga gp bs a m' ck' M' tm' cn' v np ys A nd c D E' := by
  obtain ⟨o1, o2, o3, o4, o5⟩ := h.or
  have hsz := h.sz
  have hlt : ∀ b, b ≠ o → b < wx.heap.size → wy.heap[b]? = wx.heap[b]? := fun b hb hl => hg.block b hl (fun e => hb (Option.some.inj e))
  exact ⟨h.st.row hg (fun g e => by cases e; omega), h.be.grown hg h.be.size (fun k hk => by cases hk; have := h.wp; omega), hi, hv, hl, (hlt gd (by omega) (by omega)).trans h.bd, (hlt ga (by omega) (by omega)).trans h.ba, (hlt gp (by omega) (by omega)).trans h.bp, own_kept h.rp hg (by omega), own_kept h.rd hg (by omega), h.dl, h.ne, h.or, Nat.le_trans h.sz hg.size, h.wp⟩
/-- Another letter in the list of those that were put. -/
theorem LeN.app (h : LeN w wx p k xs q o gd ga gp bs a m ck M tm cn v np ys A nd c D E) {v' : Value} {ys' : List Value} (hg : wx.grownBy wy v.ownBlock) (ho : wy.ownsRow bs 35 6 v' (np + 1) ys') (hm : v'.ownBlock = v.ownBlock ∨ ∀ b, v'.ownBlock = some b → wx.heap.size ≤ b) : LeN w wy p k xs q o gd ga gp bs a m ck M tm cn v' (np + 1) ys' A nd c D E := by
  obtain ⟨o1, o2, o3, o4, o5⟩ := h.or
  have hsz := h.sz
  have hlo : ∀ b, v.ownBlock = some b → bs ≤ b := fun b hb => (h.rp.lt b hb).1
  have hlt : ∀ b, b < bs → wy.heap[b]? = wx.heap[b]? := fun b hb => hg.block b (by omega) (fun e => by have := hlo b e.symm; omega)
  refine ⟨h.st.row hg (fun g e => by have := hlo g e; omega), h.be.grown hg h.be.size (fun k hk => by have := hlo k hk; have := h.wp; omega), h.ia.keep (hlt o (by omega)) (hg.block m h.ia.map.lt (fun e => own_ne_map h.rp h.ia.map m e.symm rfl)), h.iv, h.la, (hlt gd (by omega)).trans h.bd, (hlt ga (by omega)).trans h.ba, (hlt gp (by omega)).trans h.bp, ho, h.rd.kept hg ?_, h.dl, ?_, h.or, Nat.le_trans h.sz hg.size, h.wp⟩
  · cases hx : (Value.slice A nd c).ownBlock with
    | none => exact .inl rfl
    | some x => right; intro e; exact h.ne x e.symm hx
  · intro b hb
    rcases hm with hm | hm
    · rw [hm] at hb; exact h.ne b hb
    · intro e
      have h1 := (h.rd.lt b e).2
      have h2 := hm b hb
      omega
/-- The moment moves on. -/
theorem LeN.time (h : LeN w wx p k xs q o gd ga gp bs a m ck M tm cn v np ys A nd c D E) {a' : Int} (ha : a ≤ a') (ho : Oth wx wy ga) (hb : wy.heap[ga]? = some (.cells #[.int .i64 a'] 3 (0, 0))) : LeN w wy p k xs q o gd ga gp bs a' m ck M tm cn v np ys A nd c D E := by
  obtain ⟨o1, o2, o3, o4, o5⟩ := h.or
  have hsz := h.sz
  have hwp := h.wp
  have hm : m ≠ ga := by
    intro e
    have h1 := h.ba
    have h2 := h.ia.map
    unfold MpI at h2
    rw [← e, h2] at h1
    cases h1
  exact ⟨h.st.keep (fun b hb2 => ho.blk b (by omega)), Oth.belowT h.be ho (by omega), h.ia.keep (ho.blk o (by omega)) (ho.blk m hm), h.iv, by have := h.la; omega, (ho.blk gd (by omega)).trans h.bd, hb, (ho.blk gp (by omega)).trans h.bp, own_oth h.rp ho (fun b hb2 => by have := (h.rp.lt b hb2).1; omega), own_oth h.rd ho (fun b hb2 => by have := (h.rd.lt b hb2).1; omega), h.dl, h.ne, h.or, by rw [ho.size]; exact h.sz, h.wp⟩
/-- Another name among those done. -/
theorem LeN.done (h : LeN w wx p k xs q o gd ga gp bs a m ck M tm cn v np ys A nd c D E) {wz : World} {A' : Option Addr} {c' : Nat} {i : Nat} (hg : wx.grownBy wy (Value.slice A nd c).ownBlock) (ho : wy.ownsRow bs 9 1 (.slice A' (nd + 1) c') (nd + 1) (recs isC (D ++ [i]))) (hm : (Value.slice A' (nd + 1) c').ownBlock = (Value.slice A nd c).ownBlock ∨ ∀ b, (Value.slice A' (nd + 1) c').ownBlock = some b → wx.heap.size ≤ b) (hz : Oth wy wz gd) (hb : wz.heap[gd]? = some (.cells #[.slice A' (nd + 1) c'] 53 (0, 0))) : LeN w wz p k xs q o gd ga gp bs a m ck M tm cn v np ys A' (nd + 1) c' (D ++ [i]) E := by
  obtain ⟨o1, o2, o3, o4, o5⟩ := h.or
  have hsz := h.sz
  have hwp := h.wp
  have hlo : ∀ b, (Value.slice A nd c).ownBlock = some b → bs ≤ b := fun b hb => (h.rd.lt b hb).1
  have hlt : ∀ b, b < bs → wy.heap[b]? = wx.heap[b]? := fun b hb => hg.block b (by omega) (fun e => by have := hlo b e.symm; omega)
  have hmg : m ≠ gd := by
    intro e
    have h1 := h.bd
    have h2 := h.ia.map
    unfold MpI at h2
    rw [← e, h2] at h1
    cases h1
  have hbe := h.be.grown hg h.be.size (fun k hk => by have := hlo k hk; omega)
  have hrp : wy.ownsRow bs 35 6 v np ys := h.rp.kept hg (by
    cases hx : v.ownBlock with
    | none => exact .inl rfl
    | some x => right; intro e; exact h.ne x hx e.symm)
  have hsy : wx.heap.size ≤ wy.heap.size := hg.size
  refine ⟨(h.st.row hg (fun g e => by have := hlo g e; omega)).keep (fun b hb2 => hz.blk b (by omega)), Oth.belowT hbe hz (by omega), (h.ia.keep (hlt o (by omega)) (hg.block m h.ia.map.lt (fun e => own_ne_map h.rd h.ia.map m e.symm rfl))).keep (hz.blk o (by omega)) (hz.blk m hmg), h.iv, h.la, hb, (hz.blk ga (by omega)).trans ((hlt ga (by omega)).trans h.ba), (hz.blk gp (by omega)).trans ((hlt gp (by omega)).trans h.bp), own_oth hrp hz (fun b hb2 => by have := (h.rp.lt b hb2).1; omega), own_oth ho hz (fun b hb2 => by have := (ho.lt b hb2).1; omega), by rw [List.length_append, h.dl]; rfl, ?_, h.or, by rw [hz.size]; omega, h.wp⟩
  intro b hb2 e
  rcases hm with hm | hm
  · rw [hm] at e; exact h.ne b hb2 e
  · have h1 := (h.rp.lt b hb2).2
    have h2 := hm b e
    omega
end
theorem Tryz.infoSt : (Tryz.prog.info? 9).map (fun i => (i.zero, i.size, i.bytes)) = some (some (.string ⟨#[]⟩), 1, 16) := by kernel_rfl
def pkAt : List Int := [0, 1, 2, 5]
def smLa : List ByteArray := [⟨#[108, 97]⟩, ⟨#[108, 98]⟩, ⟨#[108, 99]⟩]
theorem smLa_get (i : Nat) (h : i < 3) : ∃ k, k < 6 ∧ smLa.getD i ⟨#[]⟩ = idL k := by
  have h1 : i = 0 ∨ i = 1 ∨ i = 2 := by omega
  rcases h1 with h | h | h <;> subst h
  · exact ⟨0, by omega, rfl⟩
  · exact ⟨1, by omega, rfl⟩
  · exact ⟨2, by omega, rfl⟩
set_option maxRecDepth 100000 in
set_option maxHeartbeats 8000000 in
theorem leL_yes (w : World) (xs : List Int) (n c : Nat) (A0 : Option Addr) (hs : ∀ (W : World), Below w.heap.size w W → W.heap[w.heap.size]? = some (.cells #[.slice A0 n c, .int .i64 0] 25) → Strm W w.heap.size xs 0) (hT : U8T w) :
    Calls Tryz.prog 4 #[.slice A0 n c] w fun e w' => e = .returned (.bool true) ∧ Below w.heap.size w w' := by
  obtain ⟨il0, hil0, hzl0, hzl1, hzl2⟩ := info_parts Tryz.infoOl
  obtain ⟨is0, his0, hzs0, hzs1, hzs2⟩ := info_parts Tryz.infoSt
  have HS := Lib.hid hs
  have HT := Lib.hid (fun V (hV : Below w.heap.size w V) => hT.below hV)
  clear hs hT
  go_enter Tryz.func4, Tryz.ntmps4
  go_upto_region 2 with (fail)
  generalize hW : w.alloc (.cells #[.slice A0 n c, .int .i64 0] 25) = w0
  have hB0 : Below w.heap.size w w0 := hW ▸ (Below.refl _ _).alloc (Nat.le_refl _) _
  have HST0 := Lib.hid (HS.out w0 hB0 (by rw [← hW]; exact heap_new w _))
  have HB0 := Lib.hid hB0
  clear hW hB0 HS
  obtain ⟨p, ep⟩ : ∃ p, p = w.heap.size := ⟨_, rfl⟩
  have hpw : w.heap.size ≤ p := by omega
  rw [← ep] at HST0 ⊢
  clear ep
  go_wp2_with (fail)
  refine (rightPost_any w0 p 0 xs (by omega) HST0.out).mono ?_
  rintro e w1 ⟨q0, hq, _, rfl, hst1, hg1⟩
  have HB1 := Lib.hid (HB0.out.grown hg1 HB0.out.size (fun k hk => by cases hk; exact hpw))
  have HST1 := Lib.hid hst1
  have HP0 := Lib.hid hq
  clear hst1 hg1 hq
  go_upto_region 3 with (fail)
  obtain ⟨gp, egp⟩ : ∃ b, b = w1.heap.size := ⟨_, rfl⟩
  obtain ⟨w2, e2⟩ : ∃ V : World, V = w1.alloc (.cells #[.int .i64 q0.room, .int .i64 q0.tmo, .int .i64 q0.tri, .int .i64 q0.kept] 27) := ⟨_, rfl⟩
  have hb2 : Below w1.heap.size w1 w2 := by rw [e2]; exact (Below.refl _ _).alloc (Nat.le_refl _) _
  have hg2 : w2.heap[gp]? = some (.cells #[.int .i64 q0.room, .int .i64 q0.tmo, .int .i64 q0.tri, .int .i64 q0.kept] 27 (0, 0)) := by rw [e2, egp]; exact heap_new w1 _
  have hpg : p < gp := by have := HST1.out.lt; omega
  have hgw : w1.heap.size ≤ gp := by omega
  rw [← egp, ← e2]
  clear egp e2
  have hlg2 := (Array.getElem?_eq_some_iff.1 hg2).1
  have k3 := cell_of_blk (j := 3) hg2 rfl
  have f3 : w2.frozen? ⟨gp, 3, none⟩ = false := by simp [World.frozen?, hg2]
  have x3 : (w2.setCell ⟨gp, 3, none⟩ (.int .i64 1000)).heap[gp]? = some (.cells #[.int .i64 q0.room, .int .i64 q0.tmo, .int .i64 q0.tri, .int .i64 1000] 27 (0, 0)) := (setblkO (j := 3) (.int .i64 1000) hg2).trans rfl
  have HX3 := Lib.hid x3
  have HB2 := Lib.hid hb2
  clear x3 hg2 hb2
  go_upto_region 4 with (fail)
  obtain ⟨w3, e3⟩ : ∃ V : World, V = w2.setCell ⟨gp, 3, none⟩ (.int .i64 1000) := ⟨_, rfl⟩
  have hg3 := HX3.out
  rw [← e3] at hg3 ⊢
  have ho3 : Oth w2 w3 gp := by rw [e3]; exact ⟨by simp [World.setCell], fun b hb => setcO _ _ _ _ _ hb, by simp only [World.setCell], by simp only [World.setCell], by simp only [World.setCell]⟩
  have HST3 := Lib.hid ((HST1.out.below HB2.out).keep (fun b hb => ho3.blk b (by omega)))
  have HB3 := Lib.hid (Oth.belowT (HB1.out.trans (HB2.out.mono HB1.out.size)) ho3 (by have := HB1.out.size; omega))
  have hlg3 := (Array.getElem?_eq_some_iff.1 hg3).1
  clear e3 HX3 k3 f3 ho3 hlg2
  obtain ⟨q, hq⟩ : ∃ z : Po, z = ⟨q0.room, q0.tmo, q0.tri, 1000⟩ := ⟨_, rfl⟩
  have HKE := Lib.hid (show q.kept = 1000 from by rw [hq])
  have HP := Lib.hid (show PoOk q from by rw [hq]; exact ⟨HP0.out.room, HP0.out.tmo, HP0.out.tri, ⟨by show (0 : Int) ≤ 1000; omega, by show (1000 : Int) ≤ 1000; omega⟩⟩)
  have HG3 := Lib.hid (show w3.heap[gp]? = some (.cells #[.int .i64 q.room, .int .i64 q.tmo, .int .i64 q.tri, .int .i64 q.kept] 27 (0, 0)) from by rw [hg3, hq])
  clear hg3 hq HP0
  have hg3 := HG3.out
  have k0 := cell_of_blk (j := 0) hg3 rfl
  have k1 := cell_of_blk (j := 1) hg3 rfl
  have k2 := cell_of_blk (j := 2) hg3 rfl
  have k3 := cell_of_blk (j := 3) hg3 rfl
  clear hg3
  go_wp2_with (fail)
  refine (new_any q w3 HP.out).mono ?_
  rintro e w4 ⟨o, m0, rfl, hia, hb4, hoa, hma⟩
  clear k0 k1 k2 k3
  have HIA := Lib.hid hia
  have HB4 := Lib.hid hb4
  have hol := hia.lt
  clear hia hb4 hma
  go_upto_region 10 with (fail)
  obtain ⟨gd, egd⟩ : ∃ z, z = w4.heap.size := ⟨_, rfl⟩
  obtain ⟨ga, ega⟩ : ∃ z, z = w4.heap.size + 1 := ⟨_, rfl⟩
  obtain ⟨w5, e5⟩ : ∃ V : World, V = (w4.alloc (.cells #[.slice none 0 0] 53)).alloc (.cells #[.int .i64 0] 3) := ⟨_, rfl⟩
  obtain ⟨bs, ebs⟩ : ∃ z, z = w5.heap.size := ⟨_, rfl⟩
  have hb45 : Below w4.heap.size w4 w5 := by rw [e5]; exact ((Below.refl _ _).alloc (Nat.le_refl _) _).alloc (by simp) _
  have hs5 : w5.heap.size = w4.heap.size + 2 := by rw [e5]; simp
  have HI5 := Lib.hid (show LeM w w5 p 4 xs q o gd ga gp bs 0 m0 0 [] 0 0 (.slice none 0 0) 0 [] none 0 0 [] from by
    have hbe := HB3.out.trans (HB4.out.mono HB3.out.size)
    have h1 := HB4.out.size
    refine ⟨(HST3.out.below HB4.out).below hb45, hbe.trans (hb45.mono hbe.size), HIA.out.below hb45, LeI.nil HP.out 0, Int.le_refl _, ?_, ?_, (hb45.block gp (by omega)).trans ((HB4.out.block gp hlg3).trans HG3.out), World.ownsRow_nil _ _ _ _, World.ownsRow_nil _ _ _ _, rfl, (fun b hb => by cases hb), ⟨hpg, by omega, by omega, by omega, by omega⟩, by omega, hpw⟩
    · rw [e5, egd, Below.heap_alloc _ _ _ (by simp)]; exact heap_new w4 _
    · rw [e5, ega]; have := heap_new (w4.alloc (.cells #[.slice none 0 0] 53)) (.cells #[.int .i64 0] 3); simpa using this)
  rw [← ega, ← egd, ← e5]
  clear ega egd e5 ebs hb45 hs5 HST3 HB3 HB4 HIA HG3 hlg3 hoa hol hgw hpg HST1 HB2 HB1 HST0 HB0
  go_wp2_with (fail)
  refine (range_any w5 p 4 xs 1 16 (by omega) (by omega) (by omega) (by omega) (by omega) HI5.out.st).mono ?_
  have hN := nextV_range xs 4 16 (by omega)
  obtain ⟨N, eN⟩ : ∃ N, N = 1 + nextV xs 4 (16 - 1 + 1) := ⟨_, rfl⟩
  have hN1 : 1 ≤ N ∧ N ≤ 16 := by
    rw [eN]
    have e : (16 : Int) - 1 + 1 = 16 := by omega
    rw [e]; omega
  rw [← eN]
  clear eN hN
  rintro e w6 ⟨rfl, hst6, hg6⟩
  have HI6 := Lib.hid (HI5.out.stream hst6 hg6)
  clear hst6 hg6 HI5
  go_wp2_with (fail)
  go_loopw [7, 41] (fun v u wx => ∃ (i k : Nat) (a : Int) (m ck : Nat) (M : Mp) (tm : Int) (np : Nat) (ys : List Value) (A : Option Addr) (nd c : Nat) (D : List Nat), (i : Int) ≤ N ∧ u = .int .i64 (i : Int) ∧ 0 ≤ a ∧ a ≤ 5 * (i : Int) ∧ k ≤ 5 + 10 * i ∧ np ≤ i ∧ nd ≤ i ∧ Hid (LeM w wx p k xs q o gd ga gp bs a m ck M tm np v np ys A nd c D)) (fun _ u _ => 16 - (intOf u).toNat)
  case atStart => exact ⟨0, 5, 0, m0, 0, [], 0, 0, [], none, 0, 0, [], by omega, rfl, by omega, by omega, by omega, by omega, by omega, HI6⟩
  case round =>
    obtain ⟨i, k, a, m, ck, M, tm, np, ys, A, nd, c, D, hiN, rfl, ha0, ha1, hk, hnp, hnd, HI⟩ := hrel
    by_cases hlt : (i : Int) < N
    case neg =>
      obtain ⟨Av, cv, rfl⟩ := own_slice HI.out.rp
      have hor := HI.out.or
      have hsz := HI.out.sz
      have hba := HI.out.ba
      have hla := HI.out.la
      have a0 := cell_of_blk (j := 0) hba rfl
      have hlga := (Array.getElem?_eq_some_iff.1 hba).1
      have haw : IntKind.i64.wrap (a + 1000) = a + 1000 := by rw [IntKind.wrap_i64]; omega
      obtain ⟨ae, eae⟩ : ∃ z, z = a + 1000 := ⟨_, rfl⟩
      have HAE := Lib.hid eae
      have hae : 0 ≤ ae ∧ ae ≤ 10000000 := by omega
      have hta : tm ≤ ae := by omega
      have HNA := Lib.hid (notes_any wr o m ck M q tm ae HI.out.ia HP.out HI.out.iv.ok hta hae)
      unfold NotesPost at HNA
      rw [eae] at HNA
      clear hba eae
      go_wp2_with (fail)
      refine HNA.out.mono ?_
      rw [← HAE.out]
      rintro e w7 ⟨h, L, vL, m1, ck1, M1, hag, hL, rfl, hoL, hi1, hg1, hf1⟩
      have HV := Lib.hid (HI.out.iv.aged HP.out HKE.out hta hag)
      have HAG := Lib.hid hag
      have HL := Lib.hid hL
      have hln : L.length = np := (note_dom hL HV.out.ok).trans HV.out.ct
      rw [hln] at hoL
      obtain ⟨AL, cL, rfl⟩ := own_slice hoL
      have hg7 : ∀ b, b ≠ o → b < wr.heap.size → w7.heap[b]? = wr.heap[b]? := fun b hb hl => hg1.block b hl (fun e => hb (Option.some.inj e))
      have HD7 := Lib.hid ((hg7 gd (by omega) (by omega)).trans HI.out.bd)
      have HP7 := Lib.hid ((hg7 gp (by omega) (by omega)).trans HI.out.bp)
      have HRD := Lib.hid (own_row (own_kept HI.out.rd hg1 (by omega)))
      have HOL := Lib.hid hoL
      have HI1 := Lib.hid hi1
      have HF1 := Lib.hid hf1
      have HB7 := Lib.hid (HI.out.be.grown hg1 HI.out.be.size (fun k hk => by cases hk; have := HI.out.wp; omega))
      have HDL := Lib.hid (And.intro HI.out.dl HI.out.iv.d6)
      have HOV := Lib.hid (fun (h2 : Of) (hh : Aged q (fM M) ae h2) => HI.out.iv.over HI.out.la (by rw [← HAE.out]; exact hh))
      have HLN := Lib.hid hln
      have hs17 := hg1.size
      have how : w.heap.size ≤ o ∧ o < w7.heap.size := by have := HI.out.wp; omega
      have HOM := Lib.hid HI.out.iv.ok
      clear hag hL hln hoL hi1 hg1 hf1 hg7 HNA a0 haw HI hlga
      go_wp2_with (fail)
      go_loopw [126] (fun s wx => ∃ j : Nat, j ≤ np ∧ s = .int .i64 (j : Int) ∧ Hid (Below w7.heap.size w7 wx)) (fun s _ => np - (intOf s).toNat)
      case atStart => exact ⟨0, by omega, rfl, Lib.hid (Below.refl _ _)⟩
      case round =>
        obtain ⟨j, hj, rfl, HB⟩ := hrel
        by_cases hlj : j < np
        · have hljI : (j : Int) < np := by omega
          obtain ⟨n, hn⟩ : ∃ n, L[j]? = some n := ⟨_, List.getElem?_eq_getElem (by have := HLN.out; omega)⟩
          obtain ⟨ab, o2, rfl, hab, hC⟩ := ((own_row HOL.out).below HB.out).posR onC_len (by omega) (by have := HLN.out; omega)
          obtain ⟨jj, hjj⟩ := (HL.out.2 n).1 (List.mem_of_getElem? hn)
          have hid := HV.out.ok.id jj n hjj
          have hs3 : 3 ≤ n.s := by have := HOV.out h HAG.out jj n hjj; unfold enB at this; simpa using this
          have hs7 : n.s ≤ 7 := (HV.out.ok.s jj n hjj).2
          obtain ⟨hc1, _, hc2⟩ := HV.out.ok.c jj n hjj
          have ht2 := (HV.out.ok.t jj n hjj).2
          have hi6 := (HV.out.ok.ol jj n hjj).id
          have HDN := Lib.hid (show decide (n.l.id ∈ D) = decide (n.s = 3) from by
            rw [decide_eq_decide, HV.out.dn, hid]
            constructor
            · rintro ⟨k, hk, hs⟩; rw [hjj] at hk; rw [Option.some.inj hk]; exact hs
            · intro hs; exact ⟨n, hjj, hs⟩)
          have c0 : wr.cell? ⟨ab, o2 + j * 9, none⟩ = some (.string (idL n.l.id)) := rec_cell onC_len hC j n hn 0 _ rfl
          have c1 := rec_cell onC_len hC j n hn 1 _ rfl
          have c2 := rec_cell onC_len hC j n hn 2 _ rfl
          have c3 := rec_cell onC_len hC j n hn 3 _ rfl
          have c4 := rec_cell onC_len hC j n hn 4 _ rfl
          have c5 := rec_cell onC_len hC j n hn 5 _ rfl
          have c6 := rec_cell onC_len hC j n hn 6 _ rfl
          have c7 := rec_cell onC_len hC j n hn 7 _ rfl
          have c8 := rec_cell onC_len hC j n hn 8 _ rfl
          have hbl : ab < wr.heap.size := by have := HB.out.size; omega
          clear hC hn hjj hid
          go_upto_region 36 with (fail)
          obtain ⟨g, eg⟩ : ∃ z, z = wr.heap.size := ⟨_, rfl⟩
          obtain ⟨w8, e8⟩ : ∃ V : World, V = wr.alloc (.cells #[.string (idL n.l.id), .string (slL n.l.sl), .string (boL n.l.bo), .int .i64 n.l.pr, .int .i64 n.l.at_, .int .i64 n.l.un, .int .i64 n.s, .int .i64 n.t, .int .i64 n.c] 50) := ⟨_, rfl⟩
          have hb8 : Below wr.heap.size wr w8 := by rw [e8]; exact (Below.refl _ _).alloc (Nat.le_refl _) _
          have hg8 : w8.heap[g]? = some (.cells #[.string (idL n.l.id), .string (slL n.l.sl), .string (boL n.l.bo), .int .i64 n.l.pr, .int .i64 n.l.at_, .int .i64 n.l.un, .int .i64 n.s, .int .i64 n.t, .int .i64 n.c] 50 (0, 0)) := by rw [e8, eg]; exact heap_new wr _
          rw [← eg, ← e8]
          clear eg e8 c0 c1 c2 c3 c4 c5 c6 c7 c8
          have hlg8 := (Array.getElem?_eq_some_iff.1 hg8).1
          have HB8 := Lib.hid (HB.out.trans (hb8.mono HB.out.size))
          have k6 := cell_of_blk (j := 6) hg8 rfl
          have HQ := Lib.hid (fun (V : World) (hV : Below w8.heap.size w8 V) => show V.cell? ⟨g, 0, none⟩ = some (.string (idL n.l.id)) ∧ V.cell? ⟨g, 4, none⟩ = some (.int .i64 n.l.at_) ∧ V.cell? ⟨g, 5, none⟩ = some (.int .i64 n.l.un) ∧ V.cell? ⟨g, 6, none⟩ = some (.int .i64 n.s) ∧ V.cell? ⟨g, 7, none⟩ = some (.int .i64 n.t) ∧ V.cell? ⟨g, 8, none⟩ = some (.int .i64 n.c) ∧ V.cell? ⟨gp, 2, none⟩ = some (.int .i64 q.tri) ∧ V.cell? ⟨gd, 0, none⟩ = some (.slice A nd c) from by
            have h1 := (hV.block g hlg8).trans hg8
            have hbv := HB8.out.trans (hV.mono HB8.out.size)
            have h2 := (hbv.block gp (Array.getElem?_eq_some_iff.1 HP7.out).1).trans HP7.out
            have h3 := (hbv.block gd (Array.getElem?_eq_some_iff.1 HD7.out).1).trans HD7.out
            exact ⟨cell_of_blk (j := 0) h1 rfl, cell_of_blk (j := 4) h1 rfl, cell_of_blk (j := 5) h1 rfl, cell_of_blk (j := 6) h1 rfl, cell_of_blk (j := 7) h1 rfl, cell_of_blk (j := 8) h1 rfl, cell_of_blk (j := 2) h2 rfl, cell_of_blk (j := 0) h3 rfl⟩)
          obtain ⟨b3, eb3⟩ : ∃ b3, b3 = decide (n.s = 3) := ⟨_, rfl⟩
          have HCS := Lib.hid (fun (V : World) (hV : Below w8.heap.size w8 V) => show Calls Tryz.prog 20 #[.slice A nd c, .string (idL n.l.id)] V fun e w' => e = .returned (.bool b3) ∧ Below V.heap.size V w' from by
            have hbv := HB8.out.trans (hV.mono HB8.out.size)
            refine (contS_any D nd c n.l.id A V HDL.out.1 (by omega) HDL.out.2 hi6 ((HRD.out.below hbv).mono hbv.size)).mono ?_
            rintro e w' ⟨rfl, rfl⟩
            exact ⟨by rw [HDN.out, eb3], Below.refl _ _⟩)
          have b0 : (n.s == 3) = b3 := by rw [eb3]; rfl
          have d1 : decide (n.l.un < n.c) = false := decide_eq_false (by omega)
          have d2 : decide (n.c < n.l.at_) = false := decide_eq_false (by omega)
          have d3 : decide (q.tri < n.t) = false := decide_eq_false (by omega)
          have d4 : decide (3 ≤ n.s) = true := decide_eq_true hs3
          have d5 : decide (n.s ≤ 7) = true := decide_eq_true hs7
          have d6 : (b3 != b3) = false := by simp
          clear hb8 hg8 eb3
          go_upto_region 37 with (fail)
          refine qRegion (by kernel_rfl) (by kernel_rfl) ?_
          repeat (first
            | (go_big_quiet_want; refine qVal (fun V hV => (by (obtain ⟨q0, q4, q5, q6, q7, q8, qt, qd⟩ := HQ.out V hV; go_simp; try rfl))) ?_; simp only [Act.put, List.setIfInBounds_toArray, List.set_cons_zero, List.set_cons_succ]; go_big_quiet_on)
            | (go_big_quiet_want
               refine qCall (fun V hV => (by (obtain ⟨q0, q4, q5, q6, q7, q8, qt, qd⟩ := HQ.out V hV; go_simp; exact ⟨rfl, rfl⟩))) (fun V hV => (by first
                 | with_reducible exact (HCS.out V hV).mono (fun e w' h => ⟨h.1, hV.trans (h.2.mono hV.size)⟩))) ?_
               simp only [Act.put, List.setIfInBounds_toArray, List.set_cons_zero, List.set_cons_succ]; go_big_quiet_on)
            | go_big_quiet_skip)
          refine wpQuiet_nil ?_
          intro w9 hb9
          have HB9 := Lib.hid (HB8.out.trans (hb9.mono HB8.out.size))
          clear hb9 HQ HCS
          go_wp2_with (fail)
          go_roundw
          case rel => exact ⟨j + 1, by omega, by go_num, HB9⟩
          case measure => simp [intOf]; omega
        · have hljI : ¬ (j : Int) < np := by omega
          have HI9 := Lib.hid (HI1.out.below HB.out)
          have hokh : OfOk q (fM M1) ae := by rw [HF1.out]; exact HV.out.ok
          have HWK := Lib.hid (wake_any wr o m1 ck1 M1 q ae ae HI9.out HP.out hokh (Int.le_refl _) hae)
          unfold WakePost at HWK
          clear hokh
          go_wp2_with (fail)
          refine HWK.out.mono ?_
          rintro e w9 ⟨h2, m2, ck2, M2, kk, hag2, rfl, hkk, _, hg9, _⟩
          have hover := HOV.out h2 (Aged.comp HOM.out hta (Int.le_refl _) HAG.out (by rw [← HF1.out]; exact hag2))
          have hk1 : kk = -1 := by
            rcases hkk with ⟨h1, _⟩ | ⟨_, i2, n2, h1, h3⟩
            · exact h1
            · rw [hover i2 n2 h1] at h3; cases h3
          subst hk1
          have hb79 := HB.out.size
          have HOL9 := Lib.hid (own_kept' (own_below HOL.out HB.out) hg9 (fun b hb2 e => by
            have h1 := (HOL.out.lt b hb2).1
            omega))
          have HB9 := Lib.hid ((HB7.out.trans (HB.out.mono HB7.out.size)).grown hg9 (HB7.out.trans (HB.out.mono HB7.out.size)).size (fun k hk => by cases hk; omega))
          have HNO := Lib.hid (show ∀ x ∈ L, NnOk x from fun x hx => by
            obtain ⟨jj, hjj⟩ := (HL.out.2 x).1 hx
            have h1 := HV.out.ok.c jj x hjj
            have h2 := HV.out.ok.t jj x hjj
            have h3 := HP.out.tri
            have h4 := HV.out.ok.ol jj x hjj
            have h5 := h4.at0
            have h6 := h4.un
            exact ⟨h4, HV.out.ok.s jj x hjj, by omega, by omega⟩)
          have HCN := Lib.hid (checkNotesO_any L np cL AL w9 HL.out.1 HNO.out HLN.out (by omega) (own_row HOL9.out) (HT.out _ HB9.out))
          clear hag2 hkk hg9 hover HWK
          go_wp2_with (fail)
          refine HCN.out.mono ?_
          rintro e w10 ⟨rfl, hb10⟩
          have HB10 := Lib.hid (HB9.out.trans (hb10.mono HB9.out.size))
          clear hb10 HCN
          go_wp2_with (fail)
          refine (ready_yes w10).mono ?_
          rintro e w11 ⟨rfl, hb11⟩
          have HB11 := Lib.hid (HB10.out.trans (hb11.mono HB10.out.size))
          clear hb11
          go_wp2_with (fail)
          go_ret
          exact ⟨rfl, HB11.out⟩
    have hi16 : (i : Int) < 16 := by omega
    have hwt : ∀ z : Int, 0 ≤ z → z ≤ 5 → IntKind.i64.wrap (a + z) = a + z := by intro z h1 h2; rw [IntKind.wrap_i64]; omega
    have hlga := (Array.getElem?_eq_some_iff.1 HI.out.ba).1
    have hpg : ga ≠ p := by have := HI.out.or; omega
    have a0 : wr.cell? ⟨ga, 0, none⟩ = some (.int .i64 a) := cell_of_blk (j := 0) HI.out.ba rfl
    have hbl : Below wr.heap.size wr ((wr.alloc (.cells #[.int .i64 0, .int .i64 1, .int .i64 2, .int .i64 5] 3)).drew) := by
      have h1 : Below wr.heap.size wr (wr.alloc (.cells #[.int .i64 0, .int .i64 1, .int .i64 2, .int .i64 5] 3)) := (Below.refl _ _).alloc (Nat.le_refl _) _
      exact ⟨h1.os, h1.tape, h1.output, h1.size, h1.block⟩
    have HIL := Lib.hid (HI.out.below hbl)
    have HPK := Lib.hid (pick_any ((wr.alloc (.cells #[.int .i64 0, .int .i64 1, .int .i64 2, .int .i64 5] 3)).drew) p k wr.heap.size 4 4 xs pkAt (by omega) rfl (by omega) (by omega) HIL.out.st (by have := HI.out.st.lt; omega) (Cells.new wr #[.int .i64 0, .int .i64 1, .int .i64 2, .int .i64 5] 3 (0, 0) _ rfl))
    obtain ⟨z, ez⟩ : ∃ z, z = pkAt.getD (nextN xs k 4) 0 := ⟨_, rfl⟩
    have hz := pk_all (fun v => 0 ≤ v ∧ v ≤ 5) pkAt (by decide) (nextN xs k 4) (nextN_lt _ _ _ (by omega))
    rw [← ez] at hz HPK
    clear ez hbl
    have hwz := hwt z hz.1 hz.2
    go_upto_region 12 with (fail)
    go_cut [7] (fun s wx => s = u7 ∧ LeM w wx p (k + 1) xs q o gd ga gp bs (a + z) m ck M tm np u7 np ys A nd c D)
    case first =>
      go_region_law (first
        | (go_simp
           go_at_call 12
           (with_reducible refine HPK.out.mono ?_)
           rintro e w7 ⟨rfl, hst7, hg7⟩
           have HI7 := Lib.hid (HIL.out.stream hst7 hg7)
           have a7 : w7.cell? ⟨ga, 0, none⟩ = some (.int .i64 a) := cell_of_blk (j := 0) HI7.out.ba rfl
           have hl7 := (Array.getElem?_eq_some_iff.1 HI7.out.ba).1
           have f7 : w7.frozen? ⟨ga, 0, none⟩ = false := by simp [World.frozen?, HI7.out.ba]
           (try clear hst7)))
      all_goals
        have HF := Lib.hid (show LeM w (w7.setCell ⟨ga, 0, none⟩ (.int .i64 (a + z))) p (k + 1) xs q o gd ga gp bs (a + z) m ck M tm np u7 np ys A nd c D from HI7.out.time (by omega) ⟨by simp [World.setCell], fun b hb => setcO _ _ _ _ _ hb, by simp only [World.setCell], by simp only [World.setCell], by simp only [World.setCell]⟩ ((setblkO (j := 0) (.int .i64 (a + z)) HI7.out.ba).trans rfl))
        go_wp2_with (fail)
        go_meet
        exact ⟨rfl, HF.out⟩
    case rest =>
    obtain ⟨rfl, hi⟩ := hcut
    obtain ⟨w8, rfl⟩ : ∃ wy : World, wy = wc := ⟨_, rfl⟩
    have HI8 := Lib.hid hi
    obtain ⟨a1, ea1⟩ : ∃ y, y = a + z := ⟨_, rfl⟩
    rw [← ea1] at HI8
    have ha2 : 0 ≤ a1 ∧ a1 ≤ 5 * ((i : Int) + 1) := by omega
    clear hi ea1 HIL HPK HI hwt hwz a0 hlga hpg hz ha0 ha1
    go_wp2_with (fail)
    refine (next_any w8 p (k + 1) xs 3 (by omega) (by omega) HI8.out.st).mono ?_
    have hr := nextV_range xs (k + 1) 3 (by omega)
    obtain ⟨y, ey⟩ : ∃ y, y = nextV xs (k + 1) 3 := ⟨_, rfl⟩
    rw [← ey] at hr ⊢
    clear ey
    rintro e w9 ⟨rfl, hst9, hg9⟩
    have HI9 := Lib.hid (HI8.out.stream hst9 hg9)
    clear hst9 hg9 HI8
    have hy : y = 0 ∨ y = 1 ∨ y = 2 := by omega
    clear hr
    have a9 : w9.cell? ⟨ga, 0, none⟩ = some (.int .i64 a1) := cell_of_blk (j := 0) HI9.out.ba rfl
    have hl9 := (Array.getElem?_eq_some_iff.1 HI9.out.ba).1
    rcases hy with rfl | rfl | rfl
    · go_wp2_with (fail)
      refine (rightLetter_any w9 p (k + 2) xs a1 (by omega) ⟨by omega, by omega⟩ HI9.out.st).mono ?_
      rintro e w10 ⟨x, hx, hxa, hxu, rfl, hst10, hg10⟩
      subst hxa
      unfold olV
      have HX := Lib.hid hx
      have HXU := Lib.hid hxu
      have HI10 := Lib.hid (HI9.out.stream hst10 hg10)
      clear hx hxu hst10 hg10 a9 hl9 HI9
      go_upto_region 19 with (fail)
      obtain ⟨gx, egx⟩ : ∃ y, y = w10.heap.size := ⟨_, rfl⟩
      obtain ⟨w11, e11⟩ : ∃ V : World, V = w10.alloc (.cells #[.string (idL x.id), .string (slL x.sl), .string (boL x.bo), .int .i64 x.pr, .int .i64 x.at_, .int .i64 x.un] 35) := ⟨_, rfl⟩
      have hb11 : Below w10.heap.size w10 w11 := by rw [e11]; exact (Below.refl _ _).alloc (Nat.le_refl _) _
      have hg11 : w11.heap[gx]? = some (.cells #[.string (idL x.id), .string (slL x.sl), .string (boL x.bo), .int .i64 x.pr, .int .i64 x.at_, .int .i64 x.un] 35 (0, 0)) := by rw [e11, egx]; exact heap_new w10 _
      rw [← egx, ← e11]
      have hox : o ≠ gx := by have := HI10.out.ia.lt; omega
      clear egx e11
      have hlg11 := (Array.getElem?_eq_some_iff.1 hg11).1
      have HI11 := Lib.hid (HI10.out.below hb11)
      have HG11 := Lib.hid hg11
      have k0 := cell_of_blk (j := 0) hg11 rfl
      have k1 := cell_of_blk (j := 1) hg11 rfl
      have k2 := cell_of_blk (j := 2) hg11 rfl
      have k3 := cell_of_blk (j := 3) hg11 rfl
      have k4 := cell_of_blk (j := 4) hg11 rfl
      have k5 := cell_of_blk (j := 5) hg11 rfl
      clear hb11 hg11 HI10
      have HPU := Lib.hid (put_any w11 o m ck M q tm x HI11.out.ia HP.out HI11.out.iv.ok HX.out HI11.out.la (HT.out _ HI11.out.be))
      unfold PutPost olV at HPU
      go_wp2_with (fail)
      refine HPU.out.mono ?_
      rintro e w12 ⟨hh, m1, ck1, M1, tm1, hag, rfl, hi1, hg1, hc⟩
      have hva := HI11.out.iv.aged HP.out HKE.out HI11.out.la hag
      have HG12 := Lib.hid ((hg1.block gx hlg11 (fun e => hox (Option.some.inj e).symm)).trans HG11.out)
      rcases hc with ⟨h0, hf, ht⟩ | ⟨h0, hf, ht⟩
      · have hlp := hva.put HP.out HX.out HXU.out h0 hag.due
        have HI12 := Lib.hid (HI11.out.op hg1 hi1 (by rw [hf, ht]; exact hlp) (by rw [ht]; exact Int.le_refl _))
        rw [h0]
        clear hva hlp h0 hf ht hag hi1 hg1 HPU k0 k1 k2 k3 k4 k5
        have hg12 := HG12.out
        have hlg12 := (Array.getElem?_eq_some_iff.1 hg12).1
        have k0 := cell_of_blk (j := 0) hg12 rfl
        have k1 := cell_of_blk (j := 1) hg12 rfl
        have k2 := cell_of_blk (j := 2) hg12 rfl
        have k3 := cell_of_blk (j := 3) hg12 rfl
        have k4 := cell_of_blk (j := 4) hg12 rfl
        have k5 := cell_of_blk (j := 5) hg12 rfl
        clear hg12
        have HAL := Lib.hid (HI12.out.below ((Below.refl _ _).alloc (Nat.le_refl _) (.cells #[.string (idL x.id), .string (slL x.sl), .string (boL x.bo), .int .i64 x.pr, .int .i64 x.at_, .int .i64 x.un] 35)))
        have hbs := HAL.out.sz
        go_wp2_with (at_builtin; refine wpList_append_own2 _ rfl _ _ 38 rfl bs 35 il0 _ 6 72 Tryz.underlying38 hil0 hzl0 hzl1 hzl2 rfl (by decide) _ _ _ rfl HAL.out.rp ⟨_, 0, none⟩ 1 1 (olC x) rfl rfl ?c1 ?c2 ?c3 ?c4 ?c5 ?_)
        case c1 => exact cells_add (cells_atO (by rfl) (by first | rfl | omega))
        case c2 => exact olC_one x
        case c3 => unfold maxLen; omega
        case c4 => omega
        case c5 => exact hbs
        intro v13 w13 ho13 hg13 hm13
        have HI13 := Lib.hid (HAL.out.app hg13 ho13 (hm13.imp id (fun ⟨b, hb, hl⟩ c hc => by rw [hb] at hc; cases hc; exact hl)))
        have a13 : w13.cell? ⟨ga, 0, none⟩ = some (.int .i64 x.at_) := cell_of_blk (j := 0) HI13.out.ba rfl
        have hl13 := (Array.getElem?_eq_some_iff.1 HI13.out.ba).1
        have HWT := Lib.hid (waiting_any w13 o m1 ck1 M1 q tm1 x.at_ HI13.out.ia HP.out HI13.out.iv.ok HI13.out.la ⟨by omega, by omega⟩)
        unfold WaitPost at HWT
        clear ho13 hg13 hm13 k0 k1 k2 k3 k4 k5 hbs HAL HI12 HG12 hlg12 hlg11
        go_wp2_with (fail)
        refine HWT.out.mono ?_
        rintro e wz ⟨hw, m2, ck2, M2, hagw, rfl, hiw, hgw, hfw⟩
        have hvw := HI13.out.iv.aged HP.out HKE.out HI13.out.la hagw
        have HIZ := Lib.hid (HI13.out.op hgw hiw (by rw [hfw]; exact hvw) (Int.le_refl _))
        have hpe := hvw.pe
        have hpn : ¬ q.room < (pen hw : Int) := by omega
        have p0 : wz.cell? ⟨gp, 0, none⟩ = some (.int .i64 q.room) := cell_of_blk (j := 0) HIZ.out.bp rfl
        have hlp := (Array.getElem?_eq_some_iff.1 HIZ.out.bp).1
        clear hagw hiw hgw hfw hvw a13 hl13 HWT
        go_wp2_with (fail)
        go_roundw
        case rel => exact ⟨i + 1, k + 7, x.at_, m2, ck2, M2, x.at_, np + 1, _, A, nd, c, D, by omega, by go_num, by omega, by omega, by omega, by omega, by omega, HIZ⟩
        case measure => simp [intOf]; omega
      · have HI12 := Lib.hid (HI11.out.op hg1 hi1 (by rw [hf, ht]; exact HI11.out.iv) (by rw [ht]; exact HI11.out.la))
        have hzb : (putZ q hh x == 0) = false := by simpa using h0
        clear hva hf ht hag hi1 hg1 HPU k0 k1 k2 k3 k4 k5
        have HI13 := HI12
        have a13 : w12.cell? ⟨ga, 0, none⟩ = some (.int .i64 x.at_) := cell_of_blk (j := 0) HI13.out.ba rfl
        have hl13 := (Array.getElem?_eq_some_iff.1 HI13.out.ba).1
        have HWT := Lib.hid (waiting_any w12 o m1 ck1 M1 q tm1 x.at_ HI13.out.ia HP.out HI13.out.iv.ok HI13.out.la ⟨by omega, by omega⟩)
        unfold WaitPost at HWT
        go_wp2_with (fail)
        refine HWT.out.mono ?_
        rintro e wz ⟨hw, m2, ck2, M2, hagw, rfl, hiw, hgw, hfw⟩
        have hvw := HI13.out.iv.aged HP.out HKE.out HI13.out.la hagw
        have HIZ := Lib.hid (HI13.out.op hgw hiw (by rw [hfw]; exact hvw) (Int.le_refl _))
        have hpe := hvw.pe
        have hpn : ¬ q.room < (pen hw : Int) := by omega
        have p0 : wz.cell? ⟨gp, 0, none⟩ = some (.int .i64 q.room) := cell_of_blk (j := 0) HIZ.out.bp rfl
        have hlp := (Array.getElem?_eq_some_iff.1 HIZ.out.bp).1
        clear hagw hiw hgw hfw hvw a13 hl13 HWT
        go_wp2_with (fail)
        go_roundw
        case rel => exact ⟨i + 1, k + 7, x.at_, m2, ck2, M2, x.at_, np, _, A, nd, c, D, by omega, by go_num, by omega, by omega, by omega, by omega, by omega, HIZ⟩
        case measure => simp [intOf]; omega
    · obtain ⟨mn, emn⟩ : ∃ mn : Nat, mn = (nextV xs (k + 2) 4).toNat := ⟨_, rfl⟩
      have hnr := nextV_range xs (k + 2) 4 (by omega)
      have hmn : (0 : Int) + nextV xs (k + 2) (3 - 0 + 1) = (mn : Int) := by
        have e : (3 : Int) - 0 + 1 = 4 := by omega
        rw [e, emn]; omega
      have hm3 : mn ≤ 500 := by omega
      have hbd : Below w9.heap.size w9 w9.drew := by
        have h1 : Below w9.heap.size w9 w9 := Below.refl _ _
        exact ⟨h1.os, h1.tape, h1.output, h1.size, h1.block⟩
      have HID := Lib.hid (HI9.out.below hbd)
      have HRG := Lib.hid (range_any w9.drew p (k + 2) xs 0 3 (by omega) (by omega) (by omega) (by omega) (by omega) HID.out.st)
      rw [hmn] at HRG
      clear emn hnr hmn hbd
      go_upto_region 22 with (fail)
      go_cut [11, 12] (fun ve ee wx => ∃ (W : List Ol) (AL : Option Addr) (cL : Nat) (m1 ck1 : Nat) (M1 : Mp), ve = .slice AL (min mn W.length) cL ∧ ee = .int .i64 0 ∧ Row wx wx.heap.size AL (recs olC (W.take mn)) ∧ (∀ l ∈ W.take mn, l.id < 6 ∧ l.id ∉ D ∧ a1 < l.un) ∧ LeM w wx p (k + 3) xs q o gd ga gp bs a1 m1 ck1 M1 a1 np u7 np ys A nd c D)
      case first =>
        go_region_law (first
          | (go_simp
             go_at_call 7
             (with_reducible refine HRG.out.mono ?_)
             rintro e w10 ⟨rfl, hst10, hg10⟩
             have HI10 := Lib.hid (HID.out.stream hst10 hg10)
             have a10 : w10.cell? ⟨ga, 0, none⟩ = some (.int .i64 a1) := cell_of_blk (j := 0) HI10.out.ba rfl
             have l10 := (Array.getElem?_eq_some_iff.1 HI10.out.ba).1
             have HFE := Lib.hid (fetch_any w10 o m ck M q tm a1 mn HI10.out.ia HP.out HI10.out.iv.ok HI10.out.la ⟨by omega, by omega⟩ hm3)
             unfold FetPost at HFE
             (try clear hst10 hg10))
          | (go_simp
             go_at_call 10
             (with_reducible refine HFE.out.mono ?_)
             rintro e w11 ⟨hh, W, v11, m1, ck1, M1, hag, hW, rfl, how, hi1, hg1, hfm⟩
             (try skip)))
        all_goals
          have hva := HI10.out.iv.aged HP.out HKE.out HI10.out.la hag
          have HGT := Lib.hid (hva.got (mn := mn) hW hag.due)
          have HI11 := Lib.hid (HI10.out.op hg1 hi1 (by rw [hfm]; exact hva.fet hW hag.due) (Int.le_refl _))
          obtain ⟨AL, cL, hv11⟩ := own_slice how
          rw [hv11] at how
          have HRW := Lib.hid (own_row how)
          clear hva hag hW hi1 hg1 hfm how
          go_wp2_with (fail)
          go_meet
          exact ⟨W, AL, cL, m1, ck1, M1, hv11, rfl, HRW.out, HGT.out, HI11.out⟩
      case rest =>
      obtain ⟨W, AL, cL, m1, ck1, M1, rfl, rfl, hrw, hgt, hi⟩ := hcut
      obtain ⟨w11, rfl⟩ : ∃ wy : World, wy = wc := ⟨_, rfl⟩
      have HI11 := Lib.hid hi
      have HCO := Lib.hid (contL_no (W.take mn) (min mn W.length) cL AL gd ga A nd c D a1 w11 (List.length_take) (by omega) hrw HI11.out.dl (by omega) HI11.out.iv.d6 hgt ⟨cell_of_blk (j := 0) HI11.out.bd rfl, cell_of_blk (j := 0) HI11.out.ba rfl, (Array.getElem?_eq_some_iff.1 HI11.out.bd).1, (Array.getElem?_eq_some_iff.1 HI11.out.ba).1, own_row HI11.out.rd⟩)
      clear hrw hgt hi a9 hl9 HRG HI9 HID
      go_wp2_with (fail)
      refine HCO.out.mono ?_
      rintro e w13 ⟨rfl, hb13⟩
      have HI13 := Lib.hid (HI11.out.below hb13)
      clear hb13 HCO HI11
      have a13 : w13.cell? ⟨ga, 0, none⟩ = some (.int .i64 a1) := cell_of_blk (j := 0) HI13.out.ba rfl
      have hl13 := (Array.getElem?_eq_some_iff.1 HI13.out.ba).1
      have HWT := Lib.hid (waiting_any w13 o m1 ck1 M1 q a1 a1 HI13.out.ia HP.out HI13.out.iv.ok HI13.out.la ⟨by omega, by omega⟩)
      unfold WaitPost at HWT
      go_wp2_with (fail)
      refine HWT.out.mono ?_
      rintro e wz ⟨hw, m2, ck2, M2, hagw, rfl, hiw, hgw, hfw⟩
      have hvw := HI13.out.iv.aged HP.out HKE.out HI13.out.la hagw
      have HIZ := Lib.hid (HI13.out.op hgw hiw (by rw [hfw]; exact hvw) (Int.le_refl _))
      have hpe := hvw.pe
      have hpn : ¬ q.room < (pen hw : Int) := by omega
      have p0 : wz.cell? ⟨gp, 0, none⟩ = some (.int .i64 q.room) := cell_of_blk (j := 0) HIZ.out.bp rfl
      have hlp := (Array.getElem?_eq_some_iff.1 HIZ.out.bp).1
      clear hagw hiw hgw hfw hvw a13 hl13 HWT
      go_wp2_with (fail)
      go_roundw
      case rel => exact ⟨i + 1, k + 3, a1, m2, ck2, M2, a1, np, _, A, nd, c, D, by omega, by go_num, by omega, by omega, by omega, by omega, by omega, HIZ⟩
      case measure => simp [intOf]; omega
    · have hbl : Below w9.heap.size w9 (w9.alloc (.cells #[.string ⟨#[108, 97]⟩, .string ⟨#[108, 98]⟩, .string ⟨#[108, 99]⟩] 9)) := (Below.refl _ _).alloc (Nat.le_refl _) _
      have HIL := Lib.hid (HI9.out.below hbl)
      have HSM := Lib.hid (some_any (w9.alloc (.cells #[.string ⟨#[108, 97]⟩, .string ⟨#[108, 98]⟩, .string ⟨#[108, 99]⟩] 9)) p (k + 2) w9.heap.size 3 3 xs smLa (by omega) rfl (by omega) (by omega) HIL.out.st (by have := HI9.out.st.lt; omega) (Cells.new w9 #[.string ⟨#[108, 97]⟩, .string ⟨#[108, 98]⟩, .string ⟨#[108, 99]⟩] 9 (0, 0) _ rfl))
      obtain ⟨nid, hid6, eid⟩ := smLa_get (nextN xs (k + 2) 3) (nextN_lt _ _ _ (by omega))
      rw [eid] at HSM
      clear eid hbl a9 hl9
      go_wp2_with (fail)
      refine HSM.out.mono ?_
      rintro e w10 ⟨rfl, hst10, hg10⟩
      have HI10 := Lib.hid (HIL.out.stream hst10 hg10)
      have a10 : w10.cell? ⟨ga, 0, none⟩ = some (.int .i64 a1) := cell_of_blk (j := 0) HI10.out.ba rfl
      have l10 := (Array.getElem?_eq_some_iff.1 HI10.out.ba).1
      have HAN := Lib.hid (answer_any w10 o m ck M q tm a1 nid hid6 HI10.out.ia HP.out HI10.out.iv.ok HI10.out.la ⟨by omega, by omega⟩)
      unfold AnsPost at HAN
      clear hst10 hg10 HSM HIL HI9
      go_wp2_with (fail)
      refine HAN.out.mono ?_
      rintro e w12 ⟨hh, m1, ck1, M1, tm1, hag, rfl, hi1, hg1, hc⟩
      have hva := HI10.out.iv.aged HP.out HKE.out HI10.out.la hag
      rcases hc with ⟨h0, hf, ht⟩ | ⟨h0, hf, ht⟩
      · have hla := hva.ans hid6 h0 hag.due
        have HI12 := Lib.hid (HI10.out.op hg1 hi1 (show LeI q (fM M1) tm1 np (D ++ [nid]) from by rw [hf, ht]; exact hla) (by rw [ht]; exact Int.le_refl _))
        rw [h0]
        clear hva hla h0 hf ht hag hi1 hg1 HAN a10 l10 HI10
        have d12 : w12.cell? ⟨gd, 0, none⟩ = some (.slice A nd c) := cell_of_blk (j := 0) HI12.out.bd rfl
        have l12 := (Array.getElem?_eq_some_iff.1 HI12.out.bd).1
        have HAL := Lib.hid (HI12.out.below ((Below.refl _ _).alloc (Nat.le_refl _) (.cells #[.string (idL nid)] 9)))
        have hbs := HAL.out.sz
        go_wp2_with (at_builtin; refine wpList_append_own2 _ rfl _ _ 53 rfl bs 9 is0 _ 1 16 Tryz.underlying53 his0 hzs0 hzs1 hzs2 rfl (by decide) _ _ _ rfl HAL.out.rd ⟨_, 0, none⟩ 1 1 (isC nid) rfl rfl ?c1 ?c2 ?c3 ?c4 ?c5 ?_)
        case c1 => exact cells_add (cells_atO (by rfl) (by first | rfl | omega))
        case c2 => exact isC_one nid
        case c3 => unfold maxLen; omega
        case c4 => omega
        case c5 => exact hbs
        intro v13 w13 ho13 hg13 hm13
        obtain ⟨A3, c3, rfl⟩ := own_slice ho13
        have hlo : ∀ b, (Value.slice A nd c).ownBlock = some b → bs ≤ b := fun b hb => (HAL.out.rd.lt b hb).1
        have hb13 : w13.heap[gd]? = some (.cells #[.slice A nd c] 53 (0, 0)) := (hg13.block gd (by have := HAL.out.or; omega) (fun e => by have := hlo gd e.symm; have := HAL.out.or; omega)).trans HAL.out.bd
        have k0 := cell_of_blk (j := 0) hb13 rfl
        have f0 : w13.frozen? ⟨gd, 0, none⟩ = false := by simp [World.frozen?, hb13]
        have er : recs isC (D ++ [nid]) = recs isC D ++ isC nid := by simp [recs]
        have HF := Lib.hid (show LeM w (w13.setCell ⟨gd, 0, none⟩ (.slice A3 (nd + 1) c3)) p (k + 3) xs q o gd ga gp bs a1 m1 ck1 M1 tm1 np u7 np ys A3 (nd + 1) c3 (D ++ [nid]) from HAL.out.done hg13 (by rw [er]; exact ho13) (hm13.imp id (fun ⟨b, hb, hl⟩ c hc => by rw [hb] at hc; cases hc; exact hl)) ⟨by simp [World.setCell], fun b hb => setcO _ _ _ _ _ hb, by simp only [World.setCell], by simp only [World.setCell], by simp only [World.setCell]⟩ ((setblkO (j := 0) (.slice A3 (nd + 1) c3) hb13).trans rfl))
        clear ho13 hg13 hm13 hlo hb13 er HAL HI12 d12 l12 hbs
        go_upto_region 25 with (fail)
        obtain ⟨w14, e14⟩ : ∃ V : World, V = w13.setCell ⟨gd, 0, none⟩ (.slice A3 (nd + 1) c3) := ⟨_, rfl⟩
        have HI13 := Lib.hid (show LeM w w14 p (k + 3) xs q o gd ga gp bs a1 m1 ck1 M1 tm1 np u7 np ys A3 (nd + 1) c3 (D ++ [nid]) from by rw [e14]; exact HF.out)
        rw [← e14]
        clear e14 k0 f0 HF
        have a13 : w14.cell? ⟨ga, 0, none⟩ = some (.int .i64 a1) := cell_of_blk (j := 0) HI13.out.ba rfl
        have hl13 := (Array.getElem?_eq_some_iff.1 HI13.out.ba).1
        have HWT := Lib.hid (waiting_any w14 o m1 ck1 M1 q tm1 a1 HI13.out.ia HP.out HI13.out.iv.ok HI13.out.la ⟨by omega, by omega⟩)
        unfold WaitPost at HWT
        go_wp2_with (fail)
        refine HWT.out.mono ?_
        rintro e wz ⟨hw, m2, ck2, M2, hagw, rfl, hiw, hgw, hfw⟩
        have hvw := HI13.out.iv.aged HP.out HKE.out HI13.out.la hagw
        have HIZ := Lib.hid (HI13.out.op hgw hiw (by rw [hfw]; exact hvw) (Int.le_refl _))
        have hpe := hvw.pe
        have hpn : ¬ q.room < (pen hw : Int) := by omega
        have p0 : wz.cell? ⟨gp, 0, none⟩ = some (.int .i64 q.room) := cell_of_blk (j := 0) HIZ.out.bp rfl
        have hlp := (Array.getElem?_eq_some_iff.1 HIZ.out.bp).1
        clear hagw hiw hgw hfw hvw a13 hl13 HWT
        go_wp2_with (fail)
        go_roundw
        case rel => exact ⟨i + 1, k + 3, a1, m2, ck2, M2, a1, np, _, A3, nd + 1, c3, D ++ [nid], by omega, by go_num, by omega, by omega, by omega, by omega, by omega, HIZ⟩
        case measure => simp [intOf]; omega
      · have HI13 := Lib.hid (HI10.out.op hg1 hi1 (by rw [hf, ht]; exact HI10.out.iv) (by rw [ht]; exact HI10.out.la))
        have hzb : (ansZ hh nid == 0) = false := by simpa using h0
        clear hva hf ht hag hi1 hg1 HAN a10 l10
        have a13 : w12.cell? ⟨ga, 0, none⟩ = some (.int .i64 a1) := cell_of_blk (j := 0) HI13.out.ba rfl
        have hl13 := (Array.getElem?_eq_some_iff.1 HI13.out.ba).1
        have HWT := Lib.hid (waiting_any w12 o m1 ck1 M1 q tm1 a1 HI13.out.ia HP.out HI13.out.iv.ok HI13.out.la ⟨by omega, by omega⟩)
        unfold WaitPost at HWT
        go_wp2_with (fail)
        refine HWT.out.mono ?_
        rintro e wz ⟨hw, m2, ck2, M2, hagw, rfl, hiw, hgw, hfw⟩
        have hvw := HI13.out.iv.aged HP.out HKE.out HI13.out.la hagw
        have HIZ := Lib.hid (HI13.out.op hgw hiw (by rw [hfw]; exact hvw) (Int.le_refl _))
        have hpe := hvw.pe
        have hpn : ¬ q.room < (pen hw : Int) := by omega
        have p0 : wz.cell? ⟨gp, 0, none⟩ = some (.int .i64 q.room) := cell_of_blk (j := 0) HIZ.out.bp rfl
        have hlp := (Array.getElem?_eq_some_iff.1 HIZ.out.bp).1
        clear hagw hiw hgw hfw hvw a13 hl13 HWT
        go_wp2_with (fail)
        go_roundw
        case rel => exact ⟨i + 1, k + 3, a1, m2, ck2, M2, a1, np, _, A, nd, c, D, by omega, by go_num, by omega, by omega, by omega, by omega, by omega, HIZ⟩
        case measure => simp [intOf]; omega
end Go.Proofs.YtjfjmlmnilmihaaGreatDoor
