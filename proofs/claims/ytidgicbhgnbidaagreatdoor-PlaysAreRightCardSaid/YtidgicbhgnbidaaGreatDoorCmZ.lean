/- RightCampaign of the stream by its contract. -/
import Derived.Test.YtidgicbhgnbidaaGreatDoorCmX
namespace Go.Proofs.YtidgicbhgnbidaaGreatDoor
open Go.RowKit

def pkCk : List ByteArray := [ckT 0, ckT 1, ckT 2]
def pkCt : List Int := [2, 3, 4]
def pkCa : List Int := [0, 10, 100]
def pkCr : List Int := [1, 2, 5]
def pkWt : List Int := [0, 0, 10, 30]
def pkWl : List Int := [1, 1, 2, 3]
def pkWf : List Int := [0, 300, 500, 1000]
def pkH0 : List Int := [0, 50, 3600000]
def pkH1 : List Int := [0, 40, 200, 86400000]
theorem pkCk_get {j : Nat} (h : j < 3) : pkCk.getD j ⟨#[]⟩ = ckT j := by
  rcases (show j = 0 ∨ j = 1 ∨ j = 2 by omega) with h | h | h <;> subst h <;> rfl
/-- A campaign in the making. -/
structure CpS (w : World) (p g2 g3 : Nat) (xs : List Int) (kk key : Nat) (T at_ rm h0 h1 : Int) (W : List Wv) (n c : Nat) (A : Option Addr) (wx : World) : Prop where
  st : Strm wx p xs kk
  gr : w.grownBy wx (some p)
  b3 : wx.heap[g3]? = some (.cells #[.string (ckT key), .int .i64 T, .int .i64 0, .int .i64 0, .int .i64 at_, .slice A n c, .int .i64 h0, .int .i64 h1, .int .i64 rm] 53 (0, 0))
  b2 : wx.heap[g2]? = some (.cells #[.string ⟨#[]⟩, .int .i64 0, .int .i64 0, .int .i64 0, .int .i64 0, .slice none 0 0, .int .i64 0, .int .i64 0, .int .i64 0] 53 (0, 0))
  ow : wx.ownsRow w.heap.size 138 4 (.slice A n c) n (recs wvC W)
  ln : W.length = n
  lo : p < w.heap.size ∧ w.heap.size ≤ g2 ∧ w.heap.size ≤ g3 ∧ g2 ≠ g3
section
variable {w wx wy : World} {p g2 g3 kk key n c : Nat} {xs : List Int} {T at_ rm h0 h1 : Int} {W : List Wv} {A : Option Addr}
theorem CpS.strm (h : CpS w p g2 g3 xs kk key T at_ rm h0 h1 W n c A wx) {kk' : Nat} (hs : Strm wy p xs kk') (hg : wx.grownBy wy (some p)) : CpS w p g2 g3 xs kk' key T at_ rm h0 h1 W n c A wy := by
  obtain ⟨l1, l2, l3, l4⟩ := h.lo
  exact ⟨hs, grown_trans h.gr hg, (hg.block g3 (Array.getElem?_eq_some_iff.1 h.b3).1 (fun e => by have := Option.some.inj e; omega)).trans h.b3, (hg.block g2 (Array.getElem?_eq_some_iff.1 h.b2).1 (fun e => by have := Option.some.inj e; omega)).trans h.b2, own_p h.ow l1 hg, h.ln, h.lo⟩
theorem CpS.below (h : CpS w p g2 g3 xs kk key T at_ rm h0 h1 W n c A wx) (hb : Below wx.heap.size wx wy) : CpS w p g2 g3 xs kk key T at_ rm h0 h1 W n c A wy :=
  h.strm (h.st.below hb) ⟨hb.os, hb.tape, hb.output, hb.size, fun b hl _ => hb.block b hl⟩
theorem CpS.push (h : CpS w p g2 g3 xs kk key T at_ rm h0 h1 W n c A wx) {x : Wv} {A' : Option Addr} {c' : Nat} (hg : wx.grownBy wy (Value.slice A n c).ownBlock) (ho : wy.ownsRow w.heap.size 138 4 (.slice A' (n + 1) c') (n + 1) (recs wvC (W ++ [x]))) :
    CpS w p g2 g3 xs kk key T at_ rm h0 h1 (W ++ [x]) (n + 1) c' A' (wy.setCell ⟨g3, 5, none⟩ (.slice A' (n + 1) c')) ∧ wy.heap[g3]? = some (.cells #[.string (ckT key), .int .i64 T, .int .i64 0, .int .i64 0, .int .i64 at_, .slice A n c, .int .i64 h0, .int .i64 h1, .int .i64 rm] 53 (0, 0)) := by
  obtain ⟨l1, l2, l3, l4⟩ := h.lo
  have hb3 := (hg.block g3 (Array.getElem?_eq_some_iff.1 h.b3).1 (fun e => own_ne h.ow h.b3 (by decide) e)).trans h.b3
  have hb2 := (hg.block g2 (Array.getElem?_eq_some_iff.1 h.b2).1 (fun e => own_ne h.ow h.b2 (by decide) e)).trans h.b2
  have hgr := grown_over h.gr ((Below.refl w.heap.size wx).grown hg h.gr.size (fun q hq => (h.ow.lt q hq).1))
  refine ⟨⟨?_, ?_, (setblkV (j := 5) _ hb3).trans rfl, (Below.heap_setCell _ _ _ _ l4).trans hb2, ?_, by rw [List.length_append, h.ln]; rfl, h.lo⟩, hb3⟩
  · exact (h.st.row hg (fun g hg' => by have := (h.ow.lt g hg').1; omega)).keep (fun b hb => Below.heap_setCell _ _ _ _ (by show b ≠ g3; omega))
  · exact grown_over hgr ((Below.refl w.heap.size wy).setCell l3 _)
  · exact ownsRow_setCell_other ho (fun e => own_ne ho hb3 (by decide) e.symm) _
theorem CpS.hours (h : CpS w p g2 g3 xs kk key T at_ rm h0 h1 W n c A wx) (a b : Int) : CpS w p g2 g3 xs kk key T at_ rm a b W n c A ((wx.setCell ⟨g3, 6, none⟩ (.int .i64 a)).setCell ⟨g3, 7, none⟩ (.int .i64 b)) := by
  obtain ⟨l1, l2, l3, l4⟩ := h.lo
  have k6 := (setblkV (j := 6) (.int .i64 a) h.b3).trans rfl
  have hk : ∀ z, z ≠ g3 → ((wx.setCell ⟨g3, 6, none⟩ (.int .i64 a)).setCell ⟨g3, 7, none⟩ (.int .i64 b)).heap[z]? = wx.heap[z]? := fun z hz => (Below.heap_setCell _ _ _ _ hz).trans (Below.heap_setCell _ _ _ _ hz)
  refine ⟨h.st.keep (fun z hz => hk z (by omega)), grown_over h.gr (((Below.refl w.heap.size wx).setCell l3 _).setCell l3 _), (setblkV (j := 7) _ k6).trans rfl, (hk g2 l4).trans h.b2, ?_, h.ln, h.lo⟩
  have h2 := ownsRow_setCell_other h.ow (a := ⟨g3, 6, none⟩) (fun e => own_ne h.ow h.b3 (by decide) e.symm) (.int .i64 a)
  exact ownsRow_setCell_other h2 (fun e => own_ne h2 k6 (by decide) e.symm) _
def cpOut (wx : World) (g2 : Nat) (v0 v1 v2 v3 v4 v5 v6 v7 v8 : Value) : World :=
  ((((((((wx.setCell ⟨g2, 0, none⟩ v0).setCell ⟨g2, 1, none⟩ v1).setCell ⟨g2, 2, none⟩ v2).setCell ⟨g2, 3, none⟩ v3).setCell ⟨g2, 4, none⟩ v4).setCell ⟨g2, 5, none⟩ v5).setCell ⟨g2, 6, none⟩ v6).setCell ⟨g2, 7, none⟩ v7).setCell ⟨g2, 8, none⟩ v8
set_option maxHeartbeats 4000000 in
theorem CpS.out (h : CpS w p g2 g3 xs kk key T at_ rm h0 h1 W n c A wx) (v0 v1 v2 v3 v4 v5 v6 v7 v8 : Value) : (cpOut wx g2 v0 v1 v2 v3 v4 v5 v6 v7 v8).heap[g2]? = some (.cells #[v0, v1, v2, v3, v4, v5, v6, v7, v8] 53 (0, 0)) ∧ Strm (cpOut wx g2 v0 v1 v2 v3 v4 v5 v6 v7 v8) p xs kk ∧ w.grownBy (cpOut wx g2 v0 v1 v2 v3 v4 v5 v6 v7 v8) (some p) ∧ (cpOut wx g2 v0 v1 v2 v3 v4 v5 v6 v7 v8).ownsRow w.heap.size 138 4 (.slice A n c) n (recs wvC W) := by
  obtain ⟨l1, l2, l3, l4⟩ := h.lo
  have e0 := (setblkV (j := 0) v0 h.b2).trans rfl
  have e1 := (setblkV (j := 1) v1 e0).trans rfl
  have e2 := (setblkV (j := 2) v2 e1).trans rfl
  have e3 := (setblkV (j := 3) v3 e2).trans rfl
  have e4 := (setblkV (j := 4) v4 e3).trans rfl
  have e5 := (setblkV (j := 5) v5 e4).trans rfl
  have e6 := (setblkV (j := 6) v6 e5).trans rfl
  have e7 := (setblkV (j := 7) v7 e6).trans rfl
  have e8 := (setblkV (j := 8) v8 e7).trans rfl
  have hb : ∀ B, B ≤ g2 → Below B wx (cpOut wx g2 v0 v1 v2 v3 v4 v5 v6 v7 v8) := fun B hB => (((((((((Below.refl B wx).setCell hB _).setCell hB _).setCell hB _).setCell hB _).setCell hB _).setCell hB _).setCell hB _).setCell hB _).setCell hB _
  have hk : ∀ z, z ≠ g2 → (cpOut wx g2 v0 v1 v2 v3 v4 v5 v6 v7 v8).heap[z]? = wx.heap[z]? := fun z hz =>
    (Below.heap_setCell _ _ _ _ hz).trans ((Below.heap_setCell _ _ _ _ hz).trans ((Below.heap_setCell _ _ _ _ hz).trans ((Below.heap_setCell _ _ _ _ hz).trans ((Below.heap_setCell _ _ _ _ hz).trans ((Below.heap_setCell _ _ _ _ hz).trans ((Below.heap_setCell _ _ _ _ hz).trans ((Below.heap_setCell _ _ _ _ hz).trans (Below.heap_setCell _ _ _ _ hz))))))))
  refine ⟨e8, h.st.keep (fun z hz => hk z (by omega)), grown_over h.gr (hb _ l2), own_keepS h.ow fun z hz => hk z (fun e => own_ne h.ow h.b2 (by decide) (by rw [← e, hz]))⟩
end
theorem five (w : World) (o0 o1 o2 o3 o4 : Obj) (b : Nat) (hb : b = w.heap.size) (V : World) (hV : V = ((((w.alloc o0).alloc o1).alloc o2).alloc o3).alloc o4) :
    V.heap[b]? = some o0 ∧ V.heap[b + 1]? = some o1 ∧ V.heap[b + 1 + 1]? = some o2 ∧ V.heap[b + 1 + 1 + 1]? = some o3 ∧ V.heap[b + 1 + 1 + 1 + 1]? = some o4 := by
  subst hb hV
  have h1 := zz_heap (w.alloc o0) o1
  have h2 := zz_heap ((w.alloc o0).alloc o1) o2
  have h3 := zz_heap (((w.alloc o0).alloc o1).alloc o2) o3
  have h4 := zz_heap ((((w.alloc o0).alloc o1).alloc o2).alloc o3) o4
  simp only [World.size_alloc] at h1 h2 h3 h4
  have e : ∀ (u : World) (o : Obj) (k : Nat) (x : Obj), u.heap[k]? = some x → (u.alloc o).heap[k]? = some x := fun u o k x h => (Below.heap_alloc _ _ _ (Array.getElem?_eq_some_iff.1 h).1).trans h
  exact ⟨e _ _ _ _ (e _ _ _ _ (e _ _ _ _ (e _ _ _ _ (zz_heap w o0)))), e _ _ _ _ (e _ _ _ _ (e _ _ _ _ h1)), e _ _ _ _ (e _ _ _ _ h2), e _ _ _ _ h3, h4⟩
/-- The parts that were chosen, and where they lie. -/
def ptL : Nat → List Int
  | 0 => [1000]
  | 1 => [500, 500]
  | 2 => [200, 300, 500]
  | _ => [100, 900]
structure PtOk (N : Nat) (l : List Int) : Prop where
  len : l.length = N
  n : 1 ≤ N ∧ N ≤ 3
  sum : l.sum = 1000
  ok : ∀ x ∈ l, 1 ≤ x ∧ x ≤ 1000
theorem ptL_ok {z : Nat} (h : z < 4) : ∃ N, PtOk N (ptL z) := by
  rcases four_of h with h | h | h | h <;> subst h
  · exact ⟨1, rfl, by omega, by decide, by decide⟩
  · exact ⟨2, rfl, by omega, by decide, by decide⟩
  · exact ⟨3, rfl, by omega, by decide, by decide⟩
  · exact ⟨2, rfl, by omega, by decide, by decide⟩
def CpE (w : World) (p g2 g3 : Nat) (xs : List Int) (kk key : Nat) (T at_ rm : Int) (W : List Wv) (n c : Nat) (A : Option Addr) (wx : World) : Prop :=
  ∃ (kk2 : Nat) (h0 h1 : Int), CpS w p g2 g3 xs kk2 key T at_ rm h0 h1 W n c A wx ∧ (0 ≤ h0 ∧ h0 ≤ 86400000) ∧ (0 ≤ h1 ∧ h1 ≤ 86400000) ∧ kk2 ≤ kk + 3
def PtR (w : World) (p g2 g3 : Nat) (xs : List Int) (kk key : Nat) (T at_ rm : Int) (B : Nat) (s : Value) (wx : World) : Prop :=
  ∃ (gp N : Nat) (l : List Int), s = .slice (some ⟨gp, 0, none⟩) N N ∧ PtOk N l ∧ wx.heap[gp]? = some (.cells (l.map (Value.int .i64)).toArray 3 (0, 0)) ∧ B ≤ gp ∧ CpS w p g2 g3 xs kk key T at_ rm 0 0 [] 0 0 none wx
theorem Tryz.infoWv : (Tryz.prog.info? 138).map (fun i => (i.zero, i.size, i.bytes)) = some (some (.agg #[.int .i64 0, .int .i64 0, .int .i64 0, .int .i64 0]), 4, 32) := by kernel_rfl
abbrev rcMs (pt wt ls fl : Int) : List ObD := [none, none, none, none, some (fun _ => .cells #[.int .i64 0, .int .i64 0, .int .i64 10, .int .i64 30] 3), none, none, some (fun _ => .cells #[.int .i64 1, .int .i64 1, .int .i64 2, .int .i64 3] 3), none, none, some (fun _ => .cells #[.int .i64 0, .int .i64 300, .int .i64 500, .int .i64 1000] 3), none, none, some (fun _ => .cells #[.int .i64 pt, .int .i64 wt, .int .i64 ls, .int .i64 fl] 138)]
abbrev rcDs : List (List Nat) := [[], [], [], [], [4], [4], [], [7], [7], [], [10], [10], [], [13]]
def rcV (g3 p n c : Nat) (A : Option Addr) (pt wt ls fl : Int) (G : Nat → Nat) : List Value := [.pointer (some ⟨g3, 5, none⟩), .slice A n c, .int .i64 pt, .pointer (some ⟨p, 0, none⟩), .slice (some ⟨G 4, 0, none⟩) 4 4, .int .i64 wt, .pointer (some ⟨p, 0, none⟩), .slice (some ⟨G 7, 0, none⟩) 4 4, .int .i64 ls, .pointer (some ⟨p, 0, none⟩), .slice (some ⟨G 10, 0, none⟩) 4 4, .int .i64 fl, .agg #[.int .i64 pt, .int .i64 wt, .int .i64 ls, .int .i64 fl], .slice (some ⟨G 13, 0, none⟩) 1 1]
theorem rcDep (g3 p n c : Nat) (A : Option Addr) (pt wt ls fl : Int) : ∀ (k : Nat) (l : List Nat), rcDs[k]? = some l → ∀ G G' : Nat → Nat, (∀ j ∈ l, G j = G' j) → gv (rcV g3 p n c A pt wt ls fl G) k = gv (rcV g3 p n c A pt wt ls fl G') k
  | 0, _, _, _, _, _ => rfl
  | 1, _, _, _, _, _ => rfl
  | 2, _, _, _, _, _ => rfl
  | 3, _, _, _, _, _ => rfl
  | 4, _, h, G, G', e => by
    cases h
    have e1 := e 4 (by decide)
    simp only [gv, rcV, List.getD_cons_zero, List.getD_cons_succ, e1]
  | 5, _, _, _, _, _ => rfl
  | 6, _, _, _, _, _ => rfl
  | 7, _, h, G, G', e => by
    cases h
    have e1 := e 7 (by decide)
    simp only [gv, rcV, List.getD_cons_zero, List.getD_cons_succ, e1]
  | 8, _, _, _, _, _ => rfl
  | 9, _, _, _, _, _ => rfl
  | 10, _, h, G, G', e => by
    cases h
    have e1 := e 10 (by decide)
    simp only [gv, rcV, List.getD_cons_zero, List.getD_cons_succ, e1]
  | 11, _, _, _, _, _ => rfl
  | 12, _, _, _, _, _ => rfl
  | 13, _, h, G, G', e => by
    cases h
    have e1 := e 13 (by decide)
    simp only [gv, rcV, List.getD_cons_zero, List.getD_cons_succ, e1]
  | n + 14, _, h, _, _, _ => by simp [rcDs] at h
theorem rcObj (pt wt ls fl : Int) : ∀ (k : Nat) (l : List Nat) (ob : (Nat → Nat) → Obj), rcDs[k]? = some l → (rcMs pt wt ls fl)[k]? = some (some ob) → ∀ G G' : Nat → Nat, (∀ j ∈ l, j ≠ k → G j = G' j) → ob G = ob G'
  | 0, _, _, _, h, _, _, _ => by cases h
  | 1, _, _, _, h, _, _, _ => by cases h
  | 2, _, _, _, h, _, _, _ => by cases h
  | 3, _, _, _, h, _, _, _ => by cases h
  | 4, _, _, _, h, _, _, _ => by cases h; rfl
  | 5, _, _, _, h, _, _, _ => by cases h
  | 6, _, _, _, h, _, _, _ => by cases h
  | 7, _, _, _, h, _, _, _ => by cases h; rfl
  | 8, _, _, _, h, _, _, _ => by cases h
  | 9, _, _, _, h, _, _, _ => by cases h
  | 10, _, _, _, h, _, _, _ => by cases h; rfl
  | 11, _, _, _, h, _, _, _ => by cases h
  | 12, _, _, _, h, _, _, _ => by cases h
  | 13, _, _, _, h, _, _, _ => by cases h; rfl
  | n + 14, _, _, h, _, _, _, _ => by simp [rcDs] at h
set_option maxRecDepth 100000 in
set_option maxHeartbeats 8000000 in
theorem rightCampaign_any (w : World) (p k0 : Nat) (xs : List Int) (hk : k0 < 900000) (hs : Strm w p xs k0) :
    Calls Tryz.prog 18 #[.pointer (some ⟨p, 0, none⟩)] w fun e w' => ∃ (C : Cm) (k : Nat), CmOk C ∧ k ≤ k0 + 30 ∧ e = .returned (cmV C) ∧ w'.ownsRow w.heap.size 138 4 (.slice C.wa C.ws.length C.wc) C.ws.length (recs wvC C.ws) ∧ Strm w' p xs k ∧ w.grownBy w' (some p) := by
  have hplt := hs.lt
  obtain ⟨g2, eg2⟩ : ∃ g, g = w.heap.size := ⟨_, rfl⟩
  obtain ⟨w0, e0⟩ : ∃ V : World, V = w.alloc (.cells #[.string ⟨#[]⟩, .int .i64 0, .int .i64 0, .int .i64 0, .int .i64 0, .slice none 0 0, .int .i64 0, .int .i64 0, .int .i64 0] 53) := ⟨_, rfl⟩
  have hg0 : w0.heap[g2]? = some (.cells #[.string ⟨#[]⟩, .int .i64 0, .int .i64 0, .int .i64 0, .int .i64 0, .slice none 0 0, .int .i64 0, .int .i64 0, .int .i64 0] 53 (0, 0)) := by rw [e0, eg2]; exact heap_new w _
  have H0 := Lib.hid (show w.grownBy w0 (some p) ∧ Strm w0 p xs k0 ∧ w0.heap[g2]? = some (.cells #[.string ⟨#[]⟩, .int .i64 0, .int .i64 0, .int .i64 0, .int .i64 0, .slice none 0 0, .int .i64 0, .int .i64 0, .int .i64 0] 53 (0, 0)) from ⟨by rw [e0]; exact World.grownBy_alloc _ _ (some p), by rw [e0]; exact hs.alloc _, hg0⟩)
  have hpg : p < g2 ∧ w.heap.size ≤ g2 := by omega
  clear hs hg0
  go_enter Tryz.func18, Tryz.ntmps18
  go_upto_region 1 with (fail)
  rw [← eg2, ← e0]
  clear eg2 e0
  have hp0 : p < w0.heap.size := H0.out.2.1.lt
  go_wp2_with (fail)
  refine (some_any _ p k0 w0.heap.size 3 3 xs pkCk (by omega) rfl (by omega) (by omega) (H0.out.2.1.alloc _) (by omega) (Cells.new _ _ _ _ _ rfl)).mono ?_
  have hkey := nextN_lt xs k0 3 (by omega)
  rw [pkCk_get hkey]
  obtain ⟨key, ekey⟩ : ∃ z, z = nextN xs k0 3 := ⟨_, rfl⟩
  rw [← ekey] at hkey ⊢
  clear ekey
  rintro e w1 ⟨rfl, hs1, hg1⟩
  have hg1' := grown_of_alloc hg1
  have H1 := Lib.hid (show w.grownBy w1 (some p) ∧ Strm w1 p xs (k0 + 1) ∧ w1.heap[g2]? = some (.cells #[.string ⟨#[]⟩, .int .i64 0, .int .i64 0, .int .i64 0, .int .i64 0, .slice none 0 0, .int .i64 0, .int .i64 0, .int .i64 0] 53 (0, 0)) from ⟨grown_trans H0.out.1 hg1', hs1, (hg1'.block g2 (Array.getElem?_eq_some_iff.1 H0.out.2.2).1 (fun e => by have := Option.some.inj e; omega)).trans H0.out.2.2⟩)
  clear hs1 hg1 hg1' H0 hp0
  have hp1 : p < w1.heap.size := H1.out.2.1.lt
  go_wp2_with (fail)
  refine (pick_any _ p (k0 + 1) w1.heap.size 3 3 xs pkCt (by omega) rfl (by omega) (by omega) (H1.out.2.1.alloc _) (by omega) (Cells.new _ _ _ _ _ rfl)).mono ?_
  have hT := pkv_all (fun v => 2 ≤ v ∧ v ≤ 4) pkCt (by decide) (nextN xs (k0 + 1) 3) (nextN_lt _ _ _ (by omega))
  obtain ⟨T, eT⟩ : ∃ z, z = pkCt.getD (nextN xs (k0 + 1) 3) 0 := ⟨_, rfl⟩
  rw [← eT] at hT ⊢
  clear eT
  rintro e w2 ⟨rfl, hs2, hg2⟩
  have hg2' := grown_of_alloc hg2
  have H2 := Lib.hid (show w.grownBy w2 (some p) ∧ Strm w2 p xs (k0 + 2) ∧ w2.heap[g2]? = some (.cells #[.string ⟨#[]⟩, .int .i64 0, .int .i64 0, .int .i64 0, .int .i64 0, .slice none 0 0, .int .i64 0, .int .i64 0, .int .i64 0] 53 (0, 0)) from ⟨grown_trans H1.out.1 hg2', hs2, (hg2'.block g2 (Array.getElem?_eq_some_iff.1 H1.out.2.2).1 (fun e => by have := Option.some.inj e; omega)).trans H1.out.2.2⟩)
  clear hs2 hg2 hg2' H1 hp1
  go_wp2_with (fail)
  refine (whole_any T w2).mono ?_
  rintro e w3 ⟨rfl, hb3⟩
  have H3 := Lib.hid (show w.grownBy w3 (some p) ∧ Strm w3 p xs (k0 + 2) ∧ w3.heap[g2]? = some (.cells #[.string ⟨#[]⟩, .int .i64 0, .int .i64 0, .int .i64 0, .int .i64 0, .slice none 0 0, .int .i64 0, .int .i64 0, .int .i64 0] 53 (0, 0)) from ⟨grown_below H2.out.1 hb3, H2.out.2.1.below hb3, (hb3.block g2 (Array.getElem?_eq_some_iff.1 H2.out.2.2).1).trans H2.out.2.2⟩)
  clear hb3 H2
  have hp3 : p < w3.heap.size := H3.out.2.1.lt
  unfold veV
  go_wp2_with (fail)
  refine (pick_any _ p (k0 + 2) w3.heap.size 3 3 xs pkCa (by omega) rfl (by omega) (by omega) (H3.out.2.1.alloc _) (by omega) (Cells.new _ _ _ _ _ rfl)).mono ?_
  have hat := pkv_all (fun v => 0 ≤ v ∧ v ≤ 100) pkCa (by decide) (nextN xs (k0 + 2) 3) (nextN_lt _ _ _ (by omega))
  obtain ⟨at_, eat⟩ : ∃ z, z = pkCa.getD (nextN xs (k0 + 2) 3) 0 := ⟨_, rfl⟩
  rw [← eat] at hat ⊢
  clear eat
  rintro e w4 ⟨rfl, hs4, hg4⟩
  have hg4' := grown_of_alloc hg4
  have H4 := Lib.hid (show w.grownBy w4 (some p) ∧ Strm w4 p xs (k0 + 3) ∧ w4.heap[g2]? = some (.cells #[.string ⟨#[]⟩, .int .i64 0, .int .i64 0, .int .i64 0, .int .i64 0, .slice none 0 0, .int .i64 0, .int .i64 0, .int .i64 0] 53 (0, 0)) from ⟨grown_trans H3.out.1 hg4', hs4, (hg4'.block g2 (Array.getElem?_eq_some_iff.1 H3.out.2.2).1 (fun e => by have := Option.some.inj e; omega)).trans H3.out.2.2⟩)
  clear hs4 hg4 hg4' H3 hp3
  have hp4 : p < w4.heap.size := H4.out.2.1.lt
  go_wp2_with (fail)
  refine (pick_any _ p (k0 + 3) w4.heap.size 3 3 xs pkCr (by omega) rfl (by omega) (by omega) (H4.out.2.1.alloc _) (by omega) (Cells.new _ _ _ _ _ rfl)).mono ?_
  have hrm := pkv_all (fun v => 1 ≤ v ∧ v ≤ 5) pkCr (by decide) (nextN xs (k0 + 3) 3) (nextN_lt _ _ _ (by omega))
  obtain ⟨rm, erm⟩ : ∃ z, z = pkCr.getD (nextN xs (k0 + 3) 3) 0 := ⟨_, rfl⟩
  rw [← erm] at hrm ⊢
  clear erm
  rintro e w5 ⟨rfl, hs5, hg5⟩
  have hg5' := grown_of_alloc hg5
  have H5 := Lib.hid (show w.grownBy w5 (some p) ∧ Strm w5 p xs (k0 + 4) ∧ w5.heap[g2]? = some (.cells #[.string ⟨#[]⟩, .int .i64 0, .int .i64 0, .int .i64 0, .int .i64 0, .slice none 0 0, .int .i64 0, .int .i64 0, .int .i64 0] 53 (0, 0)) from ⟨grown_trans H4.out.1 hg5', hs5, (hg5'.block g2 (Array.getElem?_eq_some_iff.1 H4.out.2.2).1 (fun e => by have := Option.some.inj e; omega)).trans H4.out.2.2⟩)
  clear hs5 hg5 hg5' H4 hp4
  go_upto_region 2 with (fail)
  obtain ⟨g3, eg3⟩ : ∃ g, g = w5.heap.size := ⟨_, rfl⟩
  obtain ⟨w6, e6⟩ : ∃ V : World, V = w5.alloc (.cells #[.string (ckT key), .int .i64 T, .int .i64 0, .int .i64 0, .int .i64 at_, .slice none 0 0, .int .i64 0, .int .i64 0, .int .i64 rm] 53) := ⟨_, rfl⟩
  have hb6 : Below w5.heap.size w5 w6 := by rw [e6]; exact (Below.refl _ _).alloc (Nat.le_refl _) _
  have hg6 : w6.heap[g3]? = some (.cells #[.string (ckT key), .int .i64 T, .int .i64 0, .int .i64 0, .int .i64 at_, .slice none 0 0, .int .i64 0, .int .i64 0, .int .i64 rm] 53 (0, 0)) := by rw [e6, eg3]; exact heap_new w5 _
  have hl2 := (Array.getElem?_eq_some_iff.1 H5.out.2.2).1
  have hw5 := H5.out.1.size
  have HS := Lib.hid (show CpS w p g2 g3 xs (k0 + 4) key T at_ rm 0 0 [] 0 0 none w6 from ⟨H5.out.2.1.below hb6, grown_below H5.out.1 hb6, hg6, (hb6.block g2 hl2).trans H5.out.2.2, World.ownsRow_nil _ _ _ _, rfl, by omega, by omega, by omega, by omega⟩)
  rw [← eg3, ← e6]
  clear eg3 e6 hb6 hg6 hl2 hw5 H5
  go_cut [4] (fun s wx => PtR w p g2 g3 xs (k0 + 5) key T at_ rm w6.heap.size s wx)
  case first =>
    go_wp2_with (fail)
    obtain ⟨b, eb⟩ : ∃ b, b = w6.heap.size := ⟨_, rfl⟩
    obtain ⟨w7, e7⟩ : ∃ V : World, V = (((((w6.alloc (Obj.cells #[Value.int IntKind.i64 1000] 3)).alloc (Obj.cells #[Value.int IntKind.i64 500, Value.int IntKind.i64 500] 3)).alloc (Obj.cells #[Value.int IntKind.i64 200, Value.int IntKind.i64 300, Value.int IntKind.i64 500] 3)).alloc (Obj.cells #[Value.int IntKind.i64 100, Value.int IntKind.i64 900] 3)).alloc (Obj.cells #[Value.slice (some { block := w6.heap.size, off := 0 }) 1 1, Value.slice (some { block := w6.heap.size + 1, off := 0 }) 2 2, Value.slice (some { block := w6.heap.size + 1 + 1, off := 0 }) 3 3, Value.slice (some { block := w6.heap.size + 1 + 1 + 1, off := 0 }) 2 2] 22)) := ⟨_, rfl⟩
    rw [← e7, ← eb]
    rw [← eb] at e7
    have hb7 : Below w6.heap.size w6 w7 := by rw [e7, ← eb]; exact (((((Below.refl _ _).alloc (by omega) _).alloc (by simp; omega) _).alloc (by simp; omega) _).alloc (by simp; omega) _).alloc (by simp; omega) _
    obtain ⟨h70, h71, h72, h73, h74⟩ := five w6 _ _ _ _ _ b eb w7 e7
    have hh : ∀ z, z < 4 → w7.heap[b + z]? = some (.cells ((ptL z).map (Value.int .i64)).toArray 3 (0, 0)) := by
      intro z hz
      rcases four_of hz with h | h | h | h <;> subst h
      · exact h70
      · exact h71
      · exact h72
      · exact h73
    have HS7 := Lib.hid (HS.out.below hb7)
    have HH := Lib.hid hh
    have hs7 := hb7.size
    have HBS := Lib.hid (And.intro eb hs7)
    have hpb : p < b := by rw [eb]; exact HS.out.st.lt
    clear e7 eb hb7 hh hs7 h70 h71 h72 h73
    refine (next_any w7 p (k0 + 4) xs 4 (by omega) (by omega) HS7.out.st).mono ?_
    obtain ⟨z, hz, ez⟩ : ∃ z : Nat, z < 4 ∧ nextV xs (k0 + 4) 4 = (z : Int) := by
      have h := nextV_range xs (k0 + 4) 4 (by omega)
      exact ⟨(nextV xs (k0 + 4) 4).toNat, by omega, by omega⟩
    rw [ez]
    clear ez
    rintro e w8 ⟨rfl, hs8, hg8⟩
    have HS8 := Lib.hid (HS7.out.strm hs8 hg8)
    have hlt : ∀ o k, w7.heap[k]? = some o → k < w7.heap.size := fun o k h => (Array.getElem?_eq_some_iff.1 h).1
    have h84 := (hg8.block (b + 1 + 1 + 1 + 1) (hlt _ _ h74) (fun e => by have := Option.some.inj e; omega)).trans h74
    have HH8 := Lib.hid ((hg8.block (b + z) (hlt _ _ (HH.out z hz)) (fun e => by have := Option.some.inj e; omega)).trans (HH.out z hz))
    have k0' := cell_of_blk (j := 0) h84 rfl
    have k1 := cell_of_blk (j := 1) h84 rfl
    have k2 := cell_of_blk (j := 2) h84 rfl
    have k3 := cell_of_blk (j := 3) h84 rfl
    have hl84 := (Array.getElem?_eq_some_iff.1 h84).1
    obtain ⟨N, hN⟩ := ptL_ok hz
    have HPT := Lib.hid (show PtR w p g2 g3 xs (k0 + 5) key T at_ rm w6.heap.size (.slice (some ⟨b + z, 0, none⟩) N N) w8 from ⟨b + z, N, ptL z, rfl, hN, HH8.out, by have := HBS.out; omega, HS8.out⟩)
    have hNz := hN.len
    clear h74 h84 hs8 hg8 hlt HH8 HH hN
    rcases four_of hz with h | h | h | h <;> subst h <;> simp only [ptL, List.length_cons, List.length_nil, Nat.zero_add, Nat.reduceAdd] at hNz <;> subst hNz
    · go_wp2_with (fail)
      go_meet
      exact HPT.out
    · go_wp2_with (fail)
      go_meet
      exact HPT.out
    · go_wp2_with (fail)
      go_meet
      exact HPT.out
    · go_wp2_with (fail)
      go_meet
      exact HPT.out
  case rest =>
  obtain ⟨gp, N, PL, rfl, hPT, hgp, hgpb, hC8⟩ := hcut
  obtain ⟨w8, rfl⟩ : ∃ wy : World, wy = wc := ⟨_, rfl⟩
  have HPT := Lib.hid hPT
  have hN3 := hPT.n
  have HGP := Lib.hid hgp
  have HC8 := Lib.hid hC8
  have hlo := hC8.lo
  have hw6 : w.heap.size ≤ w6.heap.size := HS.out.gr.size
  have hgp3 : gp ≠ g3 := by
    intro e
    have h1 := hgp
    rw [e, hC8.b3] at h1
    injection h1 with h1
    injection h1 with _ h2
    exact absurd h2 (by decide)
  clear hgp hC8 hPT HS
  obtain ⟨iw0, hiw0, hzw0, hzw1, hzw2⟩ := info_parts Tryz.infoWv
  go_wp2_with (fail)
  go_loopw [32] (fun i wr => ∃ (j kk c : Nat) (A : Option Addr), j ≤ N ∧ kk ≤ k0 + 5 + 3 * j ∧ i = .int .i64 (j : Int) ∧ Hid (∃ W : List Wv, CpS w p g2 g3 xs kk key T at_ rm 0 0 W j c A wr ∧ W.map (·.pt) = PL.take j ∧ (∀ x ∈ W, WvOk x) ∧ wr.heap[gp]? = some (.cells (PL.map (Value.int .i64)).toArray 3 (0, 0)))) (fun i _ => N - (intOf i).toNat)
  case atStart => exact ⟨0, k0 + 5, 0, none, Nat.zero_le _, by omega, rfl, Lib.hid ⟨[], HC8.out, rfl, fun _ h => absurd h List.not_mem_nil, HGP.out⟩⟩
  case round =>
    obtain ⟨j, kk, c, A, hj, hkk, rfl, HR⟩ := hrel
    obtain ⟨W, hCp, hWm, hWo, hgr⟩ := HR.out
    have HCP := Lib.hid hCp
    have HWM := Lib.hid (And.intro hWm hWo)
    have HGR := Lib.hid hgr
    have hlgr := (Array.getElem?_eq_some_iff.1 hgr).1
    by_cases hlt : j < N
    · have hltI : (j : Int) < (N : Int) := by omega
      obtain ⟨pt, hpt⟩ : ∃ x, PL[j]? = some x := ⟨_, List.getElem?_eq_getElem (by have := HPT.out.len; omega)⟩
      have c0 : wr.cell? ⟨gp, j, none⟩ = some (.int .i64 pt) := cell_of_blk hgr (by simp [hpt])
      have HPJ := Lib.hid hpt
      have hpr : p < wr.heap.size := hCp.st.lt
      have hl3 := (Array.getElem?_eq_some_iff.1 hCp.b3).1
      clear hCp hWm hWo hgr HR hpt
      go_upto_region 6 with (fail)
      clear c0
      obtain ⟨wt, ewt⟩ : ∃ z, z = pkWt.getD (nextN xs (kk + 0) 4) 0 := ⟨_, rfl⟩
      obtain ⟨ls, els⟩ : ∃ z, z = pkWl.getD (nextN xs (kk + 1) 4) 0 := ⟨_, rfl⟩
      obtain ⟨fl, efl⟩ : ∃ z, z = pkWf.getD (nextN xs (kk + 2) 4) 0 := ⟨_, rfl⟩
      have hwt : 0 ≤ wt ∧ wt ≤ 30 := by rw [ewt]; exact pkv_all (fun v => 0 ≤ v ∧ v ≤ 30) pkWt (by decide) _ (nextN_lt _ _ _ (by omega))
      have hls : 1 ≤ ls ∧ ls ≤ 3 := by rw [els]; exact pkv_all (fun v => 1 ≤ v ∧ v ≤ 3) pkWl (by decide) _ (nextN_lt _ _ _ (by omega))
      have hfl : 0 ≤ fl ∧ fl ≤ 1000 := by rw [efl]; exact pkv_all (fun v => 0 ≤ v ∧ v ≤ 1000) pkWf (by decide) _ (nextN_lt _ _ _ (by omega))
      have HE0 := Lib.hid ewt.symm
      have HE1 := Lib.hid els.symm
      have HE2 := Lib.hid efl.symm
      have HWV := Lib.hid (show WvOk ⟨pt, wt, ls, fl⟩ from ⟨HPT.out.ok pt (List.mem_of_getElem? HPJ.out), hwt, hls, hfl⟩)
      have HK0 := Lib.hid (show KRi wr wr p kk xs 0 wr.drew from ⟨HCP.out.st, ⟨rfl, rfl, rfl, Nat.le_refl _, fun _ _ _ => rfl⟩, Nat.le_refl _⟩)
      clear ewt els efl hwt hls hfl
      refine qRegionSe 14 (KRi wr wr p kk xs) (rcV g3 p j c A pt wt ls fl) (rcMs pt wt ls fl) rcDs [0, 0, 0, 0, 0, 1, 0, 0, 2, 0, 0, 3, 0, 0] [3, 3, 3, 3, 3, 3, 3, 3, 3, 3, 3, 3, 3, 3] 3 (by kernel_rfl) (by kernel_rfl) (by kernel_rfl) (fun G => rfl) rfl rfl (by rfl) (rcDep _ _ _ _ _ _ _ _ _) (rcObj _ _ _ _) HK0.out (fun s w o h => h.alloc o) ?_ ?_
      · simp only [List.take_succ_cons, List.take_zero]
        refine ⟨?_, ?_, ?_, ?_, ?_, ?_, ?_, ?_, ?_, ?_, ?_, ?_, ?_, ?_, trivial⟩
        · exact OneSd.pure (fun G V => by simp only [rcV, putL, Act.put, List.setIfInBounds_toArray, List.set_cons_zero, List.set_cons_succ, gv, List.getD_cons_zero]; go_simp)
        · exact OneSd.load (fun G s V hK hs hL => by
            have hv := (hK.gr.block g3 hl3 (fun e => by have := Option.some.inj e; omega)).trans HCP.out.b3
            have k5 := cell_of_blk (j := 5) hv rfl
            have hl3v := (Array.getElem?_eq_some_iff.1 hv).1
            simp only [rcV, putL, Act.put, List.setIfInBounds_toArray, List.set_cons_zero, List.set_cons_succ, gv, List.getD_cons_zero, List.getD_cons_succ]; go_simp)
        · exact OneSd.pure (fun G V => by simp only [rcV, putL, Act.put, List.setIfInBounds_toArray, List.set_cons_zero, List.set_cons_succ, gv, List.getD_cons_zero, List.getD_cons_succ]; go_simp)
        · exact OneSd.pure (fun G V => by simp only [rcV, putL, Act.put, List.setIfInBounds_toArray, List.set_cons_zero, List.set_cons_succ, gv, List.getD_cons_zero, List.getD_cons_succ]; go_simp)
        · exact OneSd.lay (fun G V => by simp only [rcV, putL, Act.put, List.setIfInBounds_toArray, List.set_cons_zero, List.set_cons_succ, gv, List.getD_cons_zero, List.getD_cons_succ, updG, if_true]; go_simp <;> rfl)
        · exact OneSd.call (s := 0) (fun G V hK hL => ⟨_, _, by simp only [rcV, putL, Act.put, List.setIfInBounds_toArray, List.set_cons_zero, List.set_cons_succ]; go_simp <;> exact ⟨rfl, rfl⟩, by
            obtain ⟨hg1, hg2⟩ := hL 4 (by decide) (by decide) _ rfl
            exact (pick_any V p (kk + 0) (G 4) 4 4 xs pkWt (by omega) rfl (by omega) (by omega) hK.st (by omega) (cells_blkV hg2 rfl)).mono (fun e w' h => ⟨by rw [h.1, HE0.out]; rfl, hK.call hpr h.2.2 h.2.1⟩)⟩)
        · exact OneSd.pure (fun G V => by simp only [rcV, putL, Act.put, List.setIfInBounds_toArray, List.set_cons_zero, List.set_cons_succ, gv, List.getD_cons_zero, List.getD_cons_succ]; go_simp)
        · exact OneSd.lay (fun G V => by simp only [rcV, putL, Act.put, List.setIfInBounds_toArray, List.set_cons_zero, List.set_cons_succ, gv, List.getD_cons_zero, List.getD_cons_succ, updG, if_true]; go_simp <;> rfl)
        · exact OneSd.call (s := 1) (fun G V hK hL => ⟨_, _, by simp only [rcV, putL, Act.put, List.setIfInBounds_toArray, List.set_cons_zero, List.set_cons_succ]; go_simp <;> exact ⟨rfl, rfl⟩, by
            obtain ⟨hg1, hg2⟩ := hL 7 (by decide) (by decide) _ rfl
            exact (pick_any V p (kk + 1) (G 7) 4 4 xs pkWl (by omega) rfl (by omega) (by omega) hK.st (by omega) (cells_blkV hg2 rfl)).mono (fun e w' h => ⟨by rw [h.1, HE1.out]; rfl, hK.call hpr h.2.2 h.2.1⟩)⟩)
        · exact OneSd.pure (fun G V => by simp only [rcV, putL, Act.put, List.setIfInBounds_toArray, List.set_cons_zero, List.set_cons_succ, gv, List.getD_cons_zero, List.getD_cons_succ]; go_simp)
        · exact OneSd.lay (fun G V => by simp only [rcV, putL, Act.put, List.setIfInBounds_toArray, List.set_cons_zero, List.set_cons_succ, gv, List.getD_cons_zero, List.getD_cons_succ, updG, if_true]; go_simp <;> rfl)
        · exact OneSd.call (s := 2) (fun G V hK hL => ⟨_, _, by simp only [rcV, putL, Act.put, List.setIfInBounds_toArray, List.set_cons_zero, List.set_cons_succ]; go_simp <;> exact ⟨rfl, rfl⟩, by
            obtain ⟨hg1, hg2⟩ := hL 10 (by decide) (by decide) _ rfl
            exact (pick_any V p (kk + 2) (G 10) 4 4 xs pkWf (by omega) rfl (by omega) (by omega) hK.st (by omega) (cells_blkV hg2 rfl)).mono (fun e w' h => ⟨by rw [h.1, HE2.out]; rfl, hK.call hpr h.2.2 h.2.1⟩)⟩)
        · exact OneSd.pure (fun G V => by simp only [rcV, putL, Act.put, List.setIfInBounds_toArray, List.set_cons_zero, List.set_cons_succ, gv, List.getD_cons_zero, List.getD_cons_succ]; go_simp)
        · exact OneSd.lay (fun G V => by simp only [rcV, putL, Act.put, List.setIfInBounds_toArray, List.set_cons_zero, List.set_cons_succ, gv, List.getD_cons_zero, List.getD_cons_succ, updG, if_true]; go_simp <;> rfl)
      intro G w9 hK9 hs9 hG9
      obtain ⟨ho1, ho2⟩ := hG9 13 _ rfl
      obtain ⟨g13, eg13⟩ : ∃ y, y = G 13 := ⟨_, rfl⟩
      rw [← eg13] at ho1 ho2
      simp only [List.take_succ_cons, List.take_zero, List.drop_succ_cons, List.drop_zero, rcV, putL, Act.put, List.setIfInBounds_toArray, List.set_cons_zero, List.set_cons_succ]
      rw [← eg13]
      clear eg13 hG9
      have HCP9 := Lib.hid (HCP.out.strm hK9.st hK9.gr)
      have HGP9 := Lib.hid ((hK9.gr.block gp hlgr (fun e => by have := Option.some.inj e; omega)).trans HGR.out)
      have HO2 := Lib.hid ho2
      have hw9 := HCP9.out.gr.size
      clear hK9 hs9 ho2 HCP HGR hlgr HE0 HE1 HE2 HK0
      go_wp2_with (at_builtin; refine wpList_append_own2 _ rfl _ _ 49 rfl w.heap.size 138 iw0 _ 4 32 Tryz.underlying49 hiw0 hzw0 hzw1 hzw2 rfl (by decide) _ _ _ rfl HCP9.out.ow ⟨_, 0, none⟩ 1 1 (wvC ⟨pt, wt, ls, fl⟩) rfl rfl ?c1 ?c2 ?c3 ?c4 ?c5 ?_)
      case c1 => exact cells_add (cells_blkV HO2.out rfl)
      case c2 => exact wvC_one _
      case c3 => unfold maxLen; omega
      case c4 => omega
      case c5 => omega
      intro v10 w10 ho10 hg10 hm10
      obtain ⟨A3, c3, rfl⟩ := own_slice ho10
      have hrec : recs wvC (W ++ [⟨pt, wt, ls, fl⟩]) = recs wvC W ++ wvC ⟨pt, wt, ls, fl⟩ := by simp [recs]
      rw [← hrec] at ho10
      obtain ⟨hC10, hb10⟩ := HCP9.out.push hg10 ho10
      have k5 := cell_of_blk (j := 5) hb10 rfl
      have hf5 : w10.frozen? ⟨g3, 5, none⟩ = false := zz_froz hb10 5
      have hl310 := (Array.getElem?_eq_some_iff.1 hb10).1
      have hgp10 := (hg10.block gp (Array.getElem?_eq_some_iff.1 HGP9.out).1 (fun e => own_ne HCP9.out.ow HGP9.out (by decide) e)).trans HGP9.out
      have HR3 := Lib.hid (show ∃ W : List Wv, CpS w p g2 g3 xs (kk + 3) key T at_ rm 0 0 W (j + 1) c3 A3 (w10.setCell ⟨g3, 5, none⟩ (.slice A3 (j + 1) c3)) ∧ W.map (·.pt) = PL.take (j + 1) ∧ (∀ x ∈ W, WvOk x) ∧ (w10.setCell ⟨g3, 5, none⟩ (.slice A3 (j + 1) c3)).heap[gp]? = some (.cells (PL.map (Value.int .i64)).toArray 3 (0, 0)) from
        ⟨W ++ [⟨pt, wt, ls, fl⟩], hC10, by rw [List.map_append, HWM.out.1, List.take_add_one, HPJ.out]; rfl, fun x hx => by
          rcases List.mem_append.1 hx with h | h
          · exact HWM.out.2 x h
          · rw [List.mem_singleton] at h
            rw [h]
            exact HWV.out, (Below.heap_setCell _ _ _ _ hgp3).trans hgp10⟩)
      clear ho10 hg10 hm10 hrec hC10 hb10 hgp10 HCP9 HGP9 HO2
      go_wp2_with (fail)
      go_roundw
      case rel => exact ⟨j + 1, kk + 3, c3, A3, by omega, by omega, by go_num, HR3⟩
      case measure => simp [intOf]; omega
    · have hltI : ¬ (j : Int) < (N : Int) := by omega
      obtain rfl : j = N := by omega
      have hpm : W.map (·.pt) = PL := by rw [hWm, List.take_of_length_le (by rw [HPT.out.len]; exact Nat.le_refl _)]
      have HPM := Lib.hid hpm
      clear hCp hWm hgr HR hlgr HGR hpm
      go_wp2_with (fail)
      refine (flip_any wr p kk xs 3 (by omega) (by omega) (by omega) HCP.out.st).mono ?_
      rintro e w9 ⟨b, rfl, hs9, hg9⟩
      have HC9 := Lib.hid (HCP.out.strm hs9 hg9)
      clear hs9 hg9 HCP
      go_upto_if 54 with (fail)
      obtain ⟨HA, hHA⟩ : ∃ a, a = pkH0.getD (nextN xs (kk + 1) 3) 0 := ⟨_, rfl⟩
      obtain ⟨HB, hHB⟩ : ∃ a, a = pkH1.getD (nextN xs (kk + 1 + 1) 4) 0 := ⟨_, rfl⟩
      have hA := pkv_all (fun v => 0 ≤ v ∧ v ≤ 86400000) pkH0 (by decide) (nextN xs (kk + 1) 3) (nextN_lt _ _ _ (by omega))
      have hB := pkv_all (fun v => 0 ≤ v ∧ v ≤ 86400000) pkH1 (by decide) (nextN xs (kk + 1 + 1) 4) (nextN_lt _ _ _ (by omega))
      rw [← hHA] at hA
      rw [← hHB] at hB
      have HAH := Lib.hid hHA.symm
      have HBH := Lib.hid hHB.symm
      clear hHA hHB
      go_cut [] (fun wx => CpE w p g2 g3 xs kk key T at_ rm W j c A wx)
      case first =>
        cases b with
        | false =>
          go_wp2_with (fail)
          go_meet
          exact ⟨kk + 1, 0, 0, HC9.out, by omega, by omega, by omega⟩
        | true =>
          have hp9 : p < w9.heap.size := HC9.out.st.lt
          go_wp2_with (fail)
          refine (pick_any _ p (kk + 1) w9.heap.size 3 3 xs pkH0 (by omega) rfl (by omega) (by omega) (HC9.out.st.alloc _) (by omega) (Cells.new _ _ _ _ _ rfl)).mono ?_
          rw [HAH.out]
          rintro e w10 ⟨rfl, hs10, hg10⟩
          have HC10 := Lib.hid (HC9.out.strm hs10 (grown_of_alloc hg10))
          clear hs10 hg10 HC9
          have hp10 : p < w10.heap.size := HC10.out.st.lt
          go_wp2_with (fail)
          refine (pick_any _ p (kk + 1 + 1) w10.heap.size 4 4 xs pkH1 (by omega) rfl (by omega) (by omega) (HC10.out.st.alloc _) (by omega) (Cells.new _ _ _ _ _ rfl)).mono ?_
          rw [HBH.out]
          rintro e w11 ⟨rfl, hs11, hg11⟩
          have hc11 := HC10.out.strm hs11 (grown_of_alloc hg11)
          have HC11 := Lib.hid (hc11.hours HA HB)
          have k6 := cell_of_blk (j := 6) hc11.b3 rfl
          have k7 := cell_of_blk (j := 7) hc11.b3 rfl
          have f6 := zz_froz hc11.b3 6
          have f7 := zz_froz hc11.b3 7
          have hl11 := (Array.getElem?_eq_some_iff.1 hc11.b3).1
          clear hs11 hg11 hc11 HC10
          go_wp2_with (fail)
          go_meet
          exact ⟨kk + 1 + 1 + 1, HA, HB, HC11.out, hA, hB, by omega⟩
      case rest =>
      obtain ⟨kk2, h0, h1, hcE, hh0, hh1, hkk2⟩ := hcut
      obtain ⟨w12, rfl⟩ : ∃ wy : World, wy = wc := ⟨_, rfl⟩
      have hln := hcE.ln
      have HCE := Lib.hid hcE
      have k0 := cell_of_blk (j := 0) hcE.b3 rfl
      have k1 := cell_of_blk (j := 1) hcE.b3 rfl
      have k2 := cell_of_blk (j := 2) hcE.b3 rfl
      have k3 := cell_of_blk (j := 3) hcE.b3 rfl
      have k4 := cell_of_blk (j := 4) hcE.b3 rfl
      have k5 := cell_of_blk (j := 5) hcE.b3 rfl
      have k6 := cell_of_blk (j := 6) hcE.b3 rfl
      have k7 := cell_of_blk (j := 7) hcE.b3 rfl
      have k8 := cell_of_blk (j := 8) hcE.b3 rfl
      have m0 := cell_of_blk (j := 0) hcE.b2 rfl
      have m1 := cell_of_blk (j := 1) hcE.b2 rfl
      have m2 := cell_of_blk (j := 2) hcE.b2 rfl
      have m3 := cell_of_blk (j := 3) hcE.b2 rfl
      have m4 := cell_of_blk (j := 4) hcE.b2 rfl
      have m5 := cell_of_blk (j := 5) hcE.b2 rfl
      have m6 := cell_of_blk (j := 6) hcE.b2 rfl
      have m7 := cell_of_blk (j := 7) hcE.b2 rfl
      have m8 := cell_of_blk (j := 8) hcE.b2 rfl
      have f0 := zz_froz hcE.b2 0
      have f1 := zz_froz hcE.b2 1
      have f2 := zz_froz hcE.b2 2
      have f3 := zz_froz hcE.b2 3
      have f4 := zz_froz hcE.b2 4
      have f5 := zz_froz hcE.b2 5
      have f6 := zz_froz hcE.b2 6
      have f7 := zz_froz hcE.b2 7
      have f8 := zz_froz hcE.b2 8
      have hl2 := (Array.getElem?_eq_some_iff.1 hcE.b2).1
      have hl3 := (Array.getElem?_eq_some_iff.1 hcE.b3).1
      have HLN := Lib.hid hln
      clear hcE hln
      go_wp2_with (fail)
      obtain ⟨hz, hs, hg, ho⟩ := HCE.out.out (.string (ckT key)) (.int .i64 T) (.int .i64 0) (.int .i64 0) (.int .i64 at_) (.slice A j c) (.int .i64 h0) (.int .i64 h1) (.int .i64 rm)
      obtain ⟨w13, e13⟩ : ∃ V : World, V = cpOut w12 g2 (.string (ckT key)) (.int .i64 T) (.int .i64 0) (.int .i64 0) (.int .i64 at_) (.slice A j c) (.int .i64 h0) (.int .i64 h1) (.int .i64 rm) := ⟨_, rfl⟩
      rw [← e13] at hz hs hg ho
      unfold cpOut at e13
      rw [← e13]
      have HZZ := Lib.hid (And.intro hs (And.intro hg ho))
      clear e13 hs hg ho k0 k1 k2 k3 k4 k5 k6 k7 k8 m0 m1 m2 m3 m4 m5 m6 m7 m8 f0 f1 f2 f3 f4 f5 f6 f7 f8
      have k0 := cell_of_blk (j := 0) hz rfl
      have k1 := cell_of_blk (j := 1) hz rfl
      have k2 := cell_of_blk (j := 2) hz rfl
      have k3 := cell_of_blk (j := 3) hz rfl
      have k4 := cell_of_blk (j := 4) hz rfl
      have k5 := cell_of_blk (j := 5) hz rfl
      have k6 := cell_of_blk (j := 6) hz rfl
      have k7 := cell_of_blk (j := 7) hz rfl
      have k8 := cell_of_blk (j := 8) hz rfl
      obtain rfl := HLN.out
      refine bodyPost_ret (v := cmV ⟨key, ⟨T, 0, 0⟩, at_, W, A, c, h0, h1, rm⟩) (by unfold cmV; simp [results, Tryz.results18, go_sem, k0, k1, k2, k3, k4, k5, k6, k7, k8]) rfl ?_
      exact ⟨⟨key, ⟨T, 0, 0⟩, at_, W, A, c, h0, h1, rm⟩, kk2, ⟨hkey, ⟨⟨by show 0 ≤ T; omega, by show T ≤ 9999; omega⟩, ⟨Int.le_refl 0, by show (0 : Int) ≤ 9999; omega⟩, ⟨Int.le_refl 0, by show (0 : Int) ≤ 9999; omega⟩⟩, hat, hN3, HWM.out.2, by show (W.map (·.pt)).sum = 1000; rw [HPM.out]; exact HPT.out.sum, hh0, hh1, hrm⟩, by omega, rfl, HZZ.out.2.2, HZZ.out.1, HZZ.out.2.1⟩
end Go.Proofs.YtidgicbhgnbidaaGreatDoor
