/- newState by its contract. Printed by gen_CmD.py. -/
import Derived.Test.YtidgicbhgnbidaaGreatDoorCmC
import Derived.Test.YtidgicbhgnbidaaGreatDoorSmB
import Derived.Test.YtidgicbhgnbidaaGreatDoorMgB
import Derived.Maps.OwnOps
namespace Go.Proofs.YtidgicbhgnbidaaGreatDoor
open Go.RowKit

theorem opn_snoc (wvN : Nat → Nat) (C : Cm) (d : Dv) : ∀ (F : List Dv) (op : List Int), opn wvN C (F ++ [d]) op = if rdV C (cu0 d) then opn wvN C F op else (opn wvN C F op).set (wvN d.k) ((opn wvN C F op).getD (wvN d.k) 0 + 1)
  | [], op => by
    show opn wvN C [] (if rdV C (cu0 d) then op else op.set (wvN d.k) (op.getD (wvN d.k) 0 + 1)) = _
    rfl
  | e :: F, op => by
    show opn wvN C (F ++ [d]) _ = _
    rw [opn_snoc wvN C d F]
    rfl
theorem ofL_snoc (d : Dv) (g : Nat) : ∀ (F : List Dv) (cb : List Nat), cb.length = F.length → ofL (F ++ [d]) (cb ++ [g]) = ofL F cb ++ [(dvT d.k, .pointer (some ⟨g, 0, none⟩))]
  | [], [], _ => rfl
  | [], _ :: _, h => by simp at h
  | _ :: _, [], h => by simp at h
  | e :: F, b :: cb, h => by
    show (dvT e.k, _) :: ofL (F ++ [d]) (cb ++ [g]) = _
    rw [ofL_snoc d g F cb (by simpa using h)]
    rfl
theorem ixF_none {F : List Dv} {k : Nat} : (∀ d ∈ F, d.k ≠ k) → ixF F k = none := by
  intro h
  cases hi : ixF F k with
  | none => rfl
  | some i =>
    obtain ⟨d, h1, h2⟩ := ixF_get hi
    exact absurd h2 (h d (List.mem_of_getElem? h1))
/-- One more device. -/
theorem StI.grow {B : Nat} {C : Cm} {F : List Dv} {wvN : Nat → Nat} {a : StA} {s : St} {w w' : World} (h : StI B C F wvN a s w) {d : Dv} {g : Nat} (hg : g ∉ a.all) (hgB : B ≤ g) (hx : w'.heap[g]? = some (cuB (cu0 d)))
    (hk : ∀ b, b ≠ a.mo → b ≠ a.mw → b ≠ g → b < w.heap.size → w'.heap[b]? = w.heap[b]?) (hs : w.heap.size ≤ w'.heap.size) (hlc : s.cs.length = F.length)
    (ho : SmI w' a.mo (ofL F a.cb ++ [(dvT d.k, .pointer (some ⟨g, 0, none⟩))])) (hw : SmI w' a.mw (wvL wvN F ++ [(dvT d.k, .int .i64 (wvN d.k : Int))]))
    (hbn : ∀ b, b ∈ a.all → b < w.heap.size) (hgw : ∀ A c b, w.ownsRow B 3 1 (.slice A s.be.length c) s.be.length (recs inC s.be) → (Value.slice A s.be.length c).ownBlock = some b → b ≠ g) :
    StI B C (F ++ [d]) wvN { a with cb := a.cb ++ [g] } { s with cs := s.cs ++ [cu0 d] } w' := by
  obtain ⟨A, c, h1, h2, h3⟩ := h.st
  obtain ⟨n1, n2, n3, n4, n5, n6, n7, n8, n9, n10, n11, n12, n13, n14, n15, n16, n17, n18, n19, n20, n21⟩ := StA.neg h.nd
  have hm := StA.mem a
  have hall : StA.all { a with cb := a.cb ++ [g] } = a.all ++ [g] := by unfold StA.all; simp
  have hne : ∀ b, b ∈ a.all → b ≠ g := fun b hb e => hg (e ▸ hb)
  have kp : ∀ b o, b ∈ a.all → b ≠ a.mo → b ≠ a.mw → w.heap[b]? = some o → w'.heap[b]? = some o := fun b o hb e1 e2 ho => (hk b e1 e2 (hne b hb) (hbn b hb)).trans ho
  have hB1 := h.ge a.mo hm.2.2.1
  have hB2 := h.ge a.mw hm.2.2.2.1
  refine ⟨?_, ?_, ?_, Nat.le_trans h.sz hs, h.ws.keep fun b hlt => hk b (by omega) (by omega) (by omega) (Nat.lt_of_lt_of_le hlt h.sz), ⟨A, c, kp _ _ hm.1 n2 n3 h1, own_keepS h2 fun b hb' => hk b (fun e => h3 b hb' (e ▸ hm.2.2.1)) (fun e => h3 b hb' (e ▸ hm.2.2.2.1)) (hgw A c b h2 hb') (own_ltS h2 hb').2, ?_⟩, kp _ _ hm.2.1 n7 n8 h.cm, ?_, ?_, ?_, kp _ _ hm.2.2.2.2.1 n13.symm n16.symm h.op, kp _ _ hm.2.2.2.2.2.1 n14.symm n17.symm h.en, kp _ _ hm.2.2.2.2.2.2 n15.symm n18.symm h.fa⟩
  · rw [hall, List.nodup_append]
    exact ⟨h.nd, by simp, fun x hx y hy => by rw [List.mem_singleton] at hy; rw [hy]; exact hne x hx⟩
  · intro b hb
    rw [hall, List.mem_append, List.mem_singleton] at hb
    rcases hb with hb | rfl
    · exact h.ge b hb
    · exact hgB
  · show (a.cb ++ [g]).length = (F ++ [d]).length
    rw [List.length_append, List.length_append, h.lb]; rfl
  · intro b hb'
    rw [hall, List.mem_append, List.mem_singleton, not_or]
    exact ⟨h3 b hb', hgw A c b h2 hb'⟩
  · show SmI w' a.mo (ofL (F ++ [d]) (a.cb ++ [g]))
    rw [ofL_snoc d g F a.cb h.lb]; exact ho
  · show SmI w' a.mw (wvL wvN (F ++ [d]))
    unfold wvL at hw ⊢
    rw [List.map_append]; exact hw
  · intro i b x h4 h5
    have h4' : (a.cb ++ [g])[i]? = some b := h4
    have h5' : (s.cs ++ [cu0 d])[i]? = some x := h5
    rcases Nat.lt_or_ge i a.cb.length with hi | hi
    · rw [List.getElem?_append_left hi] at h4'
      rw [List.getElem?_append_left (by rw [hlc, ← h.lb]; exact hi)] at h5'
      have hbm := StA.cmem h4'
      obtain ⟨_, _, e3, e4, _⟩ := StA.cne h.nd h4'
      exact kp _ _ hbm e3.symm e4.symm (h.cu i b x h4' h5')
    · rw [List.getElem?_append_right hi] at h4'
      rw [List.getElem?_append_right (by rw [hlc, ← h.lb]; exact hi)] at h5'
      have hi0 : i - a.cb.length = 0 := by
        have := (List.getElem?_eq_some_iff.1 h4').1
        simpa using this
      rw [hi0] at h4'
      rw [show i - s.cs.length = 0 by rw [hlc, ← h.lb]; exact hi0] at h5'
      simp only [List.getElem?_cons_zero, Option.some.injEq] at h4' h5'
      rw [← h4', ← h5']; exact hx
theorem madeCells_in (n : Nat) : madeCells (Value.int .i64 0).cells (n * 1) = (List.replicate n (Value.int .i64 0)).toArray := by
  have hz : (Value.int .i64 0).cells = #[.int .i64 0] := rfl
  rw [hz, Nat.mul_one]
  apply Array.ext
  · simp [madeCells]
  · intro i h1 h2
    simp [madeCells, Nat.mod_one]
theorem inB_rep (n : Nat) : inB (List.replicate n 0) = .cells (List.replicate n (Value.int .i64 0)).toArray 3 (0, 0) := by unfold inB; simp
theorem Tryz.infoIn : (Tryz.prog.info? 3).map (fun i => (i.zero, i.size, i.bytes)) = some (some (.int .i64 0), 1, 8) := by kernel_rfl

abbrev nsMs (n gc : Nat) (at_ : Int) : List ObD := [none, some (fun _ => .map #[] 0), some (fun _ => .map #[] 0), none, some (fun _ => inB (List.replicate n 0)), none, some (fun _ => inB (List.replicate n 0)), none, some (fun _ => inB (List.replicate n 0)), none, none, none, none, none, some (fun G => .cells #[.pointer (some ⟨gc, 0, none⟩), .map (some (G 1)), .map (some (G 2)), .slice (some ⟨G 4, 0, none⟩) n n, .slice (some ⟨G 6, 0, none⟩) n n, .slice (some ⟨G 8, 0, none⟩) n n, .slice none 0 0, .int .i64 (-1), .int .i64 at_] 165), none]
abbrev nsDs : List (List Nat) := [[], [1], [2], [], [4], [], [6], [], [8], [], [], [], [], [1, 2, 4, 6, 8], [14, 1, 2, 4, 6, 8], [14]]
def nsV (n gc : Nat) (at_ : Int) (G : Nat → Nat) : List Value := [.pointer (some ⟨gc, 0, none⟩), .map (some (G 1)), .map (some (G 2)), .int .i64 (n : Int), .slice (some ⟨G 4, 0, none⟩) n n, .int .i64 (n : Int), .slice (some ⟨G 6, 0, none⟩) n n, .int .i64 (n : Int), .slice (some ⟨G 8, 0, none⟩) n n, .pointer (some ⟨gc, 0, none⟩), .pointer (some ⟨gc, 0, none⟩), .pointer (some ⟨gc, 4, none⟩), .int .i64 at_, .agg #[.pointer (some ⟨gc, 0, none⟩), .map (some (G 1)), .map (some (G 2)), .slice (some ⟨G 4, 0, none⟩) n n, .slice (some ⟨G 6, 0, none⟩) n n, .slice (some ⟨G 8, 0, none⟩) n n, .slice none 0 0, .int .i64 (-1), .int .i64 at_], .pointer (some ⟨G 14, 0, none⟩), .pointer (some ⟨G 14, 0, none⟩)]
theorem nsDep (n gc : Nat) (at_ : Int) : ∀ (k : Nat) (l : List Nat), nsDs[k]? = some l → ∀ G G' : Nat → Nat, (∀ j ∈ l, G j = G' j) → gv (nsV n gc at_ G) k = gv (nsV n gc at_ G') k
  | 0, _, _, _, _, _ => rfl
  | 1, _, h, G, G', e => by
    cases h
    have e1 := e 1 (by decide)
    simp only [gv, nsV, List.getD_cons_zero, List.getD_cons_succ, e1]
  | 2, _, h, G, G', e => by
    cases h
    have e2 := e 2 (by decide)
    simp only [gv, nsV, List.getD_cons_zero, List.getD_cons_succ, e2]
  | 3, _, _, _, _, _ => rfl
  | 4, _, h, G, G', e => by
    cases h
    have e4 := e 4 (by decide)
    simp only [gv, nsV, List.getD_cons_zero, List.getD_cons_succ, e4]
  | 5, _, _, _, _, _ => rfl
  | 6, _, h, G, G', e => by
    cases h
    have e6 := e 6 (by decide)
    simp only [gv, nsV, List.getD_cons_zero, List.getD_cons_succ, e6]
  | 7, _, _, _, _, _ => rfl
  | 8, _, h, G, G', e => by
    cases h
    have e8 := e 8 (by decide)
    simp only [gv, nsV, List.getD_cons_zero, List.getD_cons_succ, e8]
  | 9, _, _, _, _, _ => rfl
  | 10, _, _, _, _, _ => rfl
  | 11, _, _, _, _, _ => rfl
  | 12, _, _, _, _, _ => rfl
  | 13, _, h, G, G', e => by
    cases h
    have e1 := e 1 (by decide)
    have e2 := e 2 (by decide)
    have e4 := e 4 (by decide)
    have e6 := e 6 (by decide)
    have e8 := e 8 (by decide)
    simp only [gv, nsV, List.getD_cons_zero, List.getD_cons_succ, e1, e2, e4, e6, e8]
  | 14, _, h, G, G', e => by
    cases h
    have e14 := e 14 (by decide)
    have e1 := e 1 (by decide)
    have e2 := e 2 (by decide)
    have e4 := e 4 (by decide)
    have e6 := e 6 (by decide)
    have e8 := e 8 (by decide)
    simp only [gv, nsV, List.getD_cons_zero, List.getD_cons_succ, e14, e1, e2, e4, e6, e8]
  | 15, _, h, G, G', e => by
    cases h
    have e14 := e 14 (by decide)
    simp only [gv, nsV, List.getD_cons_zero, List.getD_cons_succ, e14]
  | n + 16, _, h, _, _, _ => by simp [nsDs] at h
theorem nsObj (n gc : Nat) (at_ : Int) : ∀ (k : Nat) (l : List Nat) (ob : (Nat → Nat) → Obj), nsDs[k]? = some l → (nsMs n gc at_)[k]? = some (some ob) → ∀ G G' : Nat → Nat, (∀ j ∈ l, j ≠ k → G j = G' j) → ob G = ob G'
  | 0, _, _, _, h, _, _, _ => by cases h
  | 1, _, _, _, h, _, _, _ => by cases h; rfl
  | 2, _, _, _, h, _, _, _ => by cases h; rfl
  | 3, _, _, _, h, _, _, _ => by cases h
  | 4, _, _, _, h, _, _, _ => by cases h; rfl
  | 5, _, _, _, h, _, _, _ => by cases h
  | 6, _, _, _, h, _, _, _ => by cases h; rfl
  | 7, _, _, _, h, _, _, _ => by cases h
  | 8, _, _, _, h, _, _, _ => by cases h; rfl
  | 9, _, _, _, h, _, _, _ => by cases h
  | 10, _, _, _, h, _, _, _ => by cases h
  | 11, _, _, _, h, _, _, _ => by cases h
  | 12, _, _, _, h, _, _, _ => by cases h
  | 13, _, _, _, h, _, _, _ => by cases h
  | 14, _, _, h, h2, G, G', e => by
    cases h
    cases h2
    have e1 := e 1 (by decide) (by decide)
    have e2 := e 2 (by decide) (by decide)
    have e4 := e 4 (by decide) (by decide)
    have e6 := e 6 (by decide) (by decide)
    have e8 := e 8 (by decide) (by decide)
    simp only [e1, e2, e4, e6, e8]
  | 15, _, _, _, h, _, _, _ => by cases h
  | n + 16, _, _, h, _, _, _, _ => by simp [nsDs] at h
/-- What a state's maps hold while one more device is put in. -/
structure KN (W : World) (mo mw : Nat) (La Lb : SmL) (V : World) : Prop where
  smo : SmI V mo La
  smw : SmI V mw Lb
  blk : ∀ b, b ≠ mo → b ≠ mw → b < W.heap.size → V.heap[b]? = W.heap[b]?
  size : W.heap.size ≤ V.heap.size
  os : V.os = W.os
  tape : V.tape = W.tape
  output : V.output = W.output
section
variable {W V V' : World} {mo mw : Nat} {La Lb : SmL}
theorem KN.below (h : KN W mo mw La Lb V) (hb : Below V.heap.size V V') : KN W mo mw La Lb V' ∧ GrN W V V' :=
  ⟨⟨h.smo.below hb, h.smw.below hb, fun b h1 h2 h3 => (hb.block b (Nat.lt_of_lt_of_le h3 h.size)).trans (h.blk b h1 h2 h3), Nat.le_trans h.size hb.size, hb.os.trans h.os, hb.tape.trans h.tape, hb.output.trans h.output⟩, hb.size, fun b _ hl => hb.block b hl⟩
theorem KN.setO {La' : SmL} (h : KN W mo mw La Lb V) (hne : mo ≠ mw) (hm : mo < W.heap.size) : KN W mo mw La' Lb (smW V mo La') ∧ GrN W V (smW V mo La') :=
  ⟨⟨h.smo.smW, h.smw.keep (smW_blk _ hne.symm), fun b h1 h2 h3 => (smW_blk b h1).trans (h.blk b h1 h2 h3), by rw [smW_size]; exact h.size, h.os, h.tape, h.output⟩, by rw [smW_size]; exact Nat.le_refl _, fun b hb _ => smW_blk b (by omega)⟩
theorem KN.setW {Lb' : SmL} (h : KN W mo mw La Lb V) (hne : mo ≠ mw) (hm : mw < W.heap.size) : KN W mo mw La Lb' (smW V mw Lb') ∧ GrN W V (smW V mw Lb') :=
  ⟨⟨h.smo.keep (smW_blk _ hne), h.smw.smW, fun b h1 h2 h3 => (smW_blk b h2).trans (h.blk b h1 h2 h3), by rw [smW_size]; exact h.size, h.os, h.tape, h.output⟩, by rw [smW_size]; exact Nat.le_refl _, fun b hb _ => smW_blk b (by omega)⟩
end
/-- The stages of region 7. -/
def kaL (La : SmL) (k : ByteArray) (p : Value) : Nat → SmL
  | 0 => La
  | 1 => La
  | 2 => La ++ [(k, .pointer none)]
  | _ => La ++ [(k, p)]
def kbL (Lb : SmL) (k : ByteArray) (v : Int) : Nat → SmL
  | 0 => Lb
  | 1 => Lb
  | 2 => Lb
  | 3 => Lb
  | 4 => Lb ++ [(k, .int .i64 0)]
  | _ => Lb ++ [(k, .int .i64 v)]
def KNs (W : World) (mo mw : Nat) (La Lb : SmL) (k : ByteArray) (p : Value) (v : Int) (s : Nat) (V : World) : Prop := KN W mo mw (kaL La k p s) (kbL Lb k v s) V
abbrev nvMs : List ObD := [none, none, none, none, none, none, none, none, none, none, none, none, none, none, none, none, none, none, none, none, none, none, none]
abbrev nvDs : List (List Nat) := [[], [], [], [], [], [], [], [], [], [], [], [], [], [], [], [], [], [], [], [], [], [], []]
theorem nvObj : ∀ (k : Nat) (l : List Nat) (ob : (Nat → Nat) → Obj), nvDs[k]? = some l → nvMs[k]? = some (some ob) → ∀ G G' : Nat → Nat, (∀ j ∈ l, j ≠ k → G j = G' j) → ob G = ob G' := by
  intro k l ob _ h
  have := List.mem_of_getElem? h
  simp [nvMs] at this
def nvL (gs gd gx gc mo mw nk : Nat) (key : ByteArray) (v : Int) (_ : Nat → Nat) : List Value :=
  [.pointer (some ⟨gs, 0, none⟩), .pointer (some ⟨gs, 0, none⟩), .pointer (some ⟨gs, 1, none⟩), .map (some mo), .pointer (some ⟨gd, 0, none⟩), .string key, .pointer (some ⟨gs, 0, none⟩), .pointer (some ⟨gs, 0, none⟩), .pointer (some ⟨gs, 2, none⟩), .map (some mw), .pointer (some ⟨gd, 0, none⟩), .string key, .pointer (some ⟨gx, 0, none⟩), .pointer (some ⟨gc, 0, none⟩), .pointer (some ⟨gd, 0, none⟩), .string key, .int .i64 v,
   .tuple #[.pointer none, .int .i64 (nk : Int)], .int .i64 (nk : Int), undef, .tuple #[.int .i64 0, .int .i64 (nk : Int)], .int .i64 (nk : Int), undef]

theorem StI.lt {B : Nat} {C : Cm} {F : List Dv} {wvN : Nat → Nat} {a : StA} {s : St} {w : World} (h : StI B C F wvN a s w) (hlc : s.cs.length = F.length) : ∀ b ∈ a.all, b < w.heap.size := by
  intro b hb
  have hk : ∀ b o, w.heap[b]? = some o → b < w.heap.size := fun b o ho => (Array.getElem?_eq_some_iff.1 ho).1
  obtain ⟨A, c, h1, _⟩ := h.st
  unfold StA.all at hb
  simp only [List.mem_cons] at hb
  rcases hb with rfl | rfl | rfl | rfl | rfl | rfl | rfl | hb
  · exact hk _ _ h1
  · exact hk _ _ h.cm
  · exact hk _ _ h.of_
  · exact hk _ _ h.wv
  · exact hk _ _ h.op
  · exact hk _ _ h.en
  · exact hk _ _ h.fa
  · obtain ⟨i, hi⟩ := List.getElem?_of_mem hb
    have hil := (List.getElem?_eq_some_iff.1 hi).1
    obtain ⟨x, hx⟩ : ∃ x, s.cs[i]? = some x := ⟨_, List.getElem?_eq_getElem (by rw [hlc, ← h.lb]; exact hil)⟩
    exact hk _ _ (h.cu i b x hi hx)
theorem StI.zero {B : Nat} {C : Cm} {wvN : Nat → Nat} {gs gc mo mw bo be bf M : Nat} {w : World} (hB : B ≤ gc) (hM : gc < M) (h1 : M ≤ gs) (h2 : M ≤ mo) (h3 : M ≤ mw) (h4 : M ≤ bo) (h5 : M ≤ be) (h6 : M ≤ bf)
    (hne : [gs, mo, mw, bo, be, bf].Nodup) (hw : Row w B C.wa (recs wvC C.ws)) (hc : w.heap[gc]? = some (cmB C)) (hs : w.heap[gs]? = some (.cells #[.pointer (some ⟨gc, 0, none⟩), .map (some mo), .map (some mw), .slice (some ⟨bo, 0, none⟩) C.ws.length C.ws.length, .slice (some ⟨be, 0, none⟩) C.ws.length C.ws.length, .slice (some ⟨bf, 0, none⟩) C.ws.length C.ws.length, .slice none 0 0, .int .i64 (-1), .int .i64 C.at_] 165 (0, 0)))
    (hmo : w.heap[mo]? = some (.map #[] 0)) (hmw : w.heap[mw]? = some (.map #[] 0)) (hbo : w.heap[bo]? = some (inB (List.replicate C.ws.length 0))) (hbe : w.heap[be]? = some (inB (List.replicate C.ws.length 0))) (hbf : w.heap[bf]? = some (inB (List.replicate C.ws.length 0))) :
    StI B C [] wvN ⟨gs, gc, mo, mw, bo, be, bf, []⟩ (nwV wvN C []) w := by
  have hlt := (Array.getElem?_eq_some_iff.1 hc).1
  refine ⟨?_, ?_, rfl, by omega, hw, ⟨none, 0, hs, World.ownsRow_nil _ _ _ _, fun b hb => by cases hb⟩, hc, hmo, hmw, fun i b x h => by simp at h, hbo, hbe, hbf⟩
  · simp only [List.nodup_cons, List.mem_cons, not_or] at hne
    obtain ⟨⟨a1, a2, a3, a4, a5, _⟩, ⟨b1, b2, b3, b4, _⟩, ⟨c1, c2, c3, _⟩, ⟨d1, d2, _⟩, ⟨e1, _⟩, _⟩ := hne
    show [gs, gc, mo, mw, bo, be, bf].Nodup
    simp only [List.nodup_cons, List.mem_cons, not_or]
    refine ⟨⟨by omega, a1, a2, a3, a4, a5, by simp⟩, ⟨by omega, by omega, by omega, by omega, by omega, by simp⟩, ⟨b1, b2, b3, b4, by simp⟩, ⟨c1, c2, c3, by simp⟩, ⟨d1, d2, by simp⟩, ⟨e1, by simp⟩, by simp, List.nodup_nil⟩
  · intro b hb
    have hb' : b ∈ [gs, gc, mo, mw, bo, be, bf] := hb
    simp only [List.mem_cons, List.not_mem_nil, or_false] at hb'
    omega
theorem nwV_snoc (wvN : Nat → Nat) (C : Cm) (F : List Dv) (d : Dv) : nwV wvN C (F ++ [d]) = if rdV C (cu0 d) then { nwV wvN C F with cs := (nwV wvN C F).cs ++ [cu0 d] } else { nwV wvN C F with cs := (nwV wvN C F).cs ++ [cu0 d], op := (nwV wvN C F).op.set (wvN d.k) ((nwV wvN C F).op.getD (wvN d.k) 0 + 1) } := by
  unfold nwV
  rw [opn_snoc, List.map_append]
  split <;> rfl
set_option maxRecDepth 100000 in
set_option maxHeartbeats 8000000 in
theorem newState_any (C : Cm) (F : List Dv) (n c gc B : Nat) (A : Option Addr) (w : World) (hC : CmOk C) (hF : FlOk F) (hn : F.length = n) (hg : w.heap[gc]? = some (cmB C)) (hB : B ≤ gc) (hw : Row w B C.wa (recs wvC C.ws)) (hr : Row w w.heap.size A (recs dvC F)) :
    Calls Tryz.prog 64 #[.pointer (some ⟨gc, 0, none⟩), .slice A n c] w fun e w' => ∃ a : StA, e = .returned (.pointer (some ⟨a.s, 0, none⟩)) ∧ a.c = gc ∧ StI B C F (wvN C) a (nwV (wvN C) C F) w' ∧ Below w.heap.size w w' := by
  have hmm := @run_makeMap Tryz.prog
  obtain ⟨ii0, hii0, hzi0, hzi1, hzi2⟩ := info_parts Tryz.infoIn
  have hgl := (Array.getElem?_eq_some_iff.1 hg).1
  obtain ⟨N, hN⟩ : ∃ N, N = C.ws.length := ⟨_, rfl⟩
  obtain ⟨at_, hat⟩ : ∃ t, t = C.at_ := ⟨_, rfl⟩
  have hN3 : 1 ≤ N ∧ N ≤ 3 := by rw [hN]; exact hC.n
  have hn6 : n ≤ 6 := by rw [← hn]; exact hF.n
  have HNN := Lib.hid (And.intro hN hat)
  have HG := Lib.hid (show w.heap[gc]? = some (.cells #[.string (ckT C.key), .int .i64 C.t.a, .int .i64 C.t.b, .int .i64 C.t.c, .int .i64 at_, .slice C.wa N C.wc, .int .i64 C.h0, .int .i64 C.h1, .int .i64 C.rm] 53 (0, 0)) from by rw [hN, hat]; exact hg)
  have HC := Lib.hid hC
  have HF := Lib.hid hF
  have HN := Lib.hid hn
  have HW := Lib.hid hw
  have HR := Lib.hid hr
  have hmk : ∀ V : World, (Instr.makeSlice 22 (.int .i64 (N : Int)) (.int .i64 (N : Int))).run Tryz.prog V = .ok (.slice (some ⟨V.heap.size, 0, none⟩) N N) (V.alloc (.cells (List.replicate N (Value.int .i64 0)).toArray 3)) := by
    intro V
    have h := run_make (P := Tryz.prog) V 22 3 ii0 (.int .i64 0) Tryz.underlying22 hii0 hzi0 .i64 .i64 (N : Int) (N : Int) (by omega) (Int.le_refl _) (by rw [hzi2]; omega) (by omega)
    rw [Int.toNat_natCast, hzi1, madeCells_in] at h
    exact h
  have c5 : w.cell? ⟨gc, 5, none⟩ = some (.slice C.wa N C.wc) := cell_of_blk (j := 5) HG.out rfl
  clear hg hC hF hn hw hr hN hat
  go_enter Tryz.func64, Tryz.ntmps64
  go_upto_region 2 with (fail)
  clear c5
  refine qRegionSi (fun _ V => Below w.heap.size w V) (nsV N gc at_) (nsMs N gc at_) nsDs [0, 0, 0, 0, 0, 0, 0, 0, 0, 0, 0, 0, 0, 0, 0, 0] [0, 0, 0, 0, 0, 0, 0, 0, 0, 0, 0, 0, 0, 0, 0, 0] 0 (by kernel_rfl) (by kernel_rfl) (by kernel_rfl) (fun G => rfl) rfl rfl (by rfl) (nsDep _ _ _) (nsObj _ _ _) ((Below.refl _ _).drew) (fun s V o h => h.alloc h.size o) ?_ ?_
  · refine ⟨?_, ?_, ?_, ?_, ?_, ?_, ?_, ?_, ?_, ?_, ?_, ?_, ?_, ?_, ?_, ?_, trivial⟩
    · exact OneSd.pure (fun G V => by simp only [nsV, putL, Act.put, List.setIfInBounds_toArray, List.set_cons_zero, List.set_cons_succ, gv, List.getD_cons_zero]; go_simp)
    · exact OneSd.lay (fun G V => by simp only [nsV, putL, Act.put, List.setIfInBounds_toArray, List.set_cons_zero, List.set_cons_succ, gv, List.getD_cons_zero, List.getD_cons_succ, updG, if_true]; go_simp)
    · exact OneSd.lay (fun G V => by simp only [nsV, putL, Act.put, List.setIfInBounds_toArray, List.set_cons_zero, List.set_cons_succ, gv, List.getD_cons_zero, List.getD_cons_succ, updG, if_true]; go_simp)
    · exact OneSd.pure (fun G V => by simp only [nsV, putL, Act.put, List.setIfInBounds_toArray, List.set_cons_zero, List.set_cons_succ, gv, List.getD_cons_zero, List.getD_cons_succ]; go_simp)
    · exact OneSd.lay (fun G V => by have hmk2 := hmk V; rw [inB_rep]; simp only [nsV, putL, Act.put, List.setIfInBounds_toArray, List.set_cons_zero, List.set_cons_succ, gv, List.getD_cons_zero, List.getD_cons_succ, updG, if_true]; go_simp)
    · exact OneSd.pure (fun G V => by simp only [nsV, putL, Act.put, List.setIfInBounds_toArray, List.set_cons_zero, List.set_cons_succ, gv, List.getD_cons_zero, List.getD_cons_succ]; go_simp)
    · exact OneSd.lay (fun G V => by have hmk2 := hmk V; rw [inB_rep]; simp only [nsV, putL, Act.put, List.setIfInBounds_toArray, List.set_cons_zero, List.set_cons_succ, gv, List.getD_cons_zero, List.getD_cons_succ, updG, if_true]; go_simp)
    · exact OneSd.pure (fun G V => by simp only [nsV, putL, Act.put, List.setIfInBounds_toArray, List.set_cons_zero, List.set_cons_succ, gv, List.getD_cons_zero, List.getD_cons_succ]; go_simp)
    · exact OneSd.lay (fun G V => by have hmk2 := hmk V; rw [inB_rep]; simp only [nsV, putL, Act.put, List.setIfInBounds_toArray, List.set_cons_zero, List.set_cons_succ, gv, List.getD_cons_zero, List.getD_cons_succ, updG, if_true]; go_simp)
    · exact OneSd.pure (fun G V => by simp only [nsV, putL, Act.put, List.setIfInBounds_toArray, List.set_cons_zero, List.set_cons_succ, gv, List.getD_cons_zero, List.getD_cons_succ]; go_simp)
    · exact OneSd.pure (fun G V => by simp only [nsV, putL, Act.put, List.setIfInBounds_toArray, List.set_cons_zero, List.set_cons_succ, gv, List.getD_cons_zero, List.getD_cons_succ]; go_simp)
    · exact OneSd.pure (fun G V => by simp only [nsV, putL, Act.put, List.setIfInBounds_toArray, List.set_cons_zero, List.set_cons_succ, gv, List.getD_cons_zero, List.getD_cons_succ]; go_simp)
    · exact OneSd.load (fun G s V hK hs hL => by
      have hv := (hK.block gc hgl).trans HG.out
      have k4 := cell_of_blk (j := 4) hv rfl
      simp only [nsV, putL, Act.put, List.setIfInBounds_toArray, List.set_cons_zero, List.set_cons_succ, gv, List.getD_cons_zero, List.getD_cons_succ]; go_simp)
    · exact OneSd.pure (fun G V => by simp only [nsV, putL, Act.put, List.setIfInBounds_toArray, List.set_cons_zero, List.set_cons_succ, gv, List.getD_cons_zero, List.getD_cons_succ]; go_simp)
    · exact OneSd.lay (fun G V => by simp only [nsV, putL, Act.put, List.setIfInBounds_toArray, List.set_cons_zero, List.set_cons_succ, gv, List.getD_cons_zero, List.getD_cons_succ, updG, if_true]; go_simp <;> rfl)
    · exact OneSd.pure (fun G V => by simp only [nsV, putL, Act.put, List.setIfInBounds_toArray, List.set_cons_zero, List.set_cons_succ, gv, List.getD_cons_zero, List.getD_cons_succ]; go_simp)
  intro G w1 hK1 hs1 hG1 hI1
  simp only [nsV, putL, Act.put, List.setIfInBounds_toArray, List.set_cons_zero, List.set_cons_succ]
  have hz : StI B C [] (wvN C) ⟨G 14, gc, G 1, G 2, G 4, G 6, G 8, []⟩ (nwV (wvN C) C []) w1 := by
    have hge : ∀ k ob, (nsMs N gc at_)[k]? = some (some ob) → w.heap.size ≤ G k := fun k ob h => (hG1 k ob h).1
    refine StI.zero (M := w.heap.size) hB hgl (hge 14 _ rfl) (hge 1 _ rfl) (hge 2 _ rfl) (hge 4 _ rfl) (hge 6 _ rfl) (hge 8 _ rfl) ?_ (HW.out.keep fun b hb => hK1.block b (by omega)) ?_ ?_ (hG1 1 _ rfl).2 (hG1 2 _ rfl).2 ?_ ?_ ?_
    · simp only [List.nodup_cons, List.mem_cons, List.not_mem_nil, or_false, not_or, not_false_eq_true, List.nodup_nil, and_true]
      exact ⟨⟨hI1 14 1 _ _ (by decide) rfl rfl, hI1 14 2 _ _ (by decide) rfl rfl, hI1 14 4 _ _ (by decide) rfl rfl, hI1 14 6 _ _ (by decide) rfl rfl, hI1 14 8 _ _ (by decide) rfl rfl⟩, ⟨hI1 1 2 _ _ (by decide) rfl rfl, hI1 1 4 _ _ (by decide) rfl rfl, hI1 1 6 _ _ (by decide) rfl rfl, hI1 1 8 _ _ (by decide) rfl rfl⟩, ⟨hI1 2 4 _ _ (by decide) rfl rfl, hI1 2 6 _ _ (by decide) rfl rfl, hI1 2 8 _ _ (by decide) rfl rfl⟩, ⟨hI1 4 6 _ _ (by decide) rfl rfl, hI1 4 8 _ _ (by decide) rfl rfl⟩, hI1 6 8 _ _ (by decide) rfl rfl⟩
    · rw [hK1.block gc hgl, HG.out, HNN.out.1, HNN.out.2]; rfl
    · have h := (hG1 14 _ rfl).2
      rw [← HNN.out.1, ← HNN.out.2]; exact h
    · have h := (hG1 4 _ rfl).2
      rw [← HNN.out.1]; exact h
    · have h := (hG1 6 _ rfl).2
      rw [← HNN.out.1]; exact h
    · have h := (hG1 8 _ rfl).2
      rw [← HNN.out.1]; exact h
  obtain ⟨gs, egs⟩ : ∃ g, g = G 14 := ⟨_, rfl⟩
  obtain ⟨mo, emo⟩ : ∃ g, g = G 1 := ⟨_, rfl⟩
  obtain ⟨mw, emw⟩ : ∃ g, g = G 2 := ⟨_, rfl⟩
  obtain ⟨bo, ebo⟩ : ∃ g, g = G 4 := ⟨_, rfl⟩
  obtain ⟨be, ebe⟩ : ∃ g, g = G 6 := ⟨_, rfl⟩
  obtain ⟨bf, ebf⟩ : ∃ g, g = G 8 := ⟨_, rfl⟩
  have hmoW : w.heap.size ≤ mo ∧ w.heap.size ≤ mw ∧ w.heap.size ≤ bo := by rw [emo, emw, ebo]; exact ⟨(hG1 1 _ rfl).1, (hG1 2 _ rfl).1, (hG1 4 _ rfl).1⟩
  rw [← egs, ← emo, ← emw, ← ebo, ← ebe, ← ebf] at hz ⊢
  have HZ := Lib.hid hz
  have HB1 := Lib.hid hK1
  clear hz hK1 hs1 hG1 hI1 egs emo emw ebo ebe ebf hmk hmm
  go_wp2_with (fail)
  go_loopw [32] (fun i wr => ∃ (k : Nat) (cb : List Nat), k ≤ n ∧ i = .int .i64 (k : Int) ∧ Hid (StI B C (F.take k) (wvN C) ⟨gs, gc, mo, mw, bo, be, bf, cb⟩ (nwV (wvN C) C (F.take k)) wr ∧ Below w.heap.size w wr)) (fun i _ => n - (intOf i).toNat)
  case atStart => exact ⟨0, [], Nat.zero_le _, rfl, Lib.hid ⟨HZ.out, HB1.out⟩⟩
  case round =>
    obtain ⟨k, cb, hk, rfl, HQ⟩ := hrel
    by_cases hlt : k < n
    · have hltI : (k : Int) < (n : Int) := by omega
      obtain ⟨d, hd⟩ : ∃ d, F[k]? = some d := ⟨_, List.getElem?_eq_getElem (by have := HN.out; omega)⟩
      have HDO := Lib.hid (HF.out.ok d (List.mem_of_getElem? hd))
      have hrs := HQ.out.2.size
      obtain ⟨b, o, rfl, hbw, hCl⟩ := (HR.out.below HQ.out.2).posR dvC_len (by omega) (by have := HN.out; omega)
      have hbr : b < wr.heap.size := by omega
      have e0 : wr.cell? ⟨b, o + k * 7, none⟩ = some (.string (dvT d.k)) := rec_cell dvC_len hCl k d hd 0 _ rfl
      have e1 := rec_cell dvC_len hCl k d hd 1 _ rfl
      have e2 := rec_cell dvC_len hCl k d hd 2 _ rfl
      have e3 := rec_cell dvC_len hCl k d hd 3 _ rfl
      have e4 := rec_cell dvC_len hCl k d hd 4 _ rfl
      have e5 := rec_cell dvC_len hCl k d hd 5 _ rfl
      have e6 := rec_cell dvC_len hCl k d hd 6 _ rfl
      have HD := Lib.hid hd
      clear hCl hd
      go_upto_region 6 with (fail)
      obtain ⟨gd, egd⟩ : ∃ y, y = wr.heap.size := ⟨_, rfl⟩
      obtain ⟨w2, ew2⟩ : ∃ V : World, V = wr.alloc (.cells #[.string (dvT d.k), .string (mdT d.md), .string tnT, .int .i64 d.fw.a, .int .i64 d.fw.b, .int .i64 d.fw.c, .slice none 0 0] 67) := ⟨_, rfl⟩
      have hb2 : Below wr.heap.size wr w2 := by rw [ew2]; exact (Below.refl _ _).alloc (Nat.le_refl _) _
      have hd2 : w2.heap[gd]? = some (dvB d) := by rw [ew2, egd]; exact heap_new wr _
      rw [← egd, ← ew2]
      have hld2 := (Array.getElem?_eq_some_iff.1 hd2).1
      have HB2 := Lib.hid hb2
      have HD2 := Lib.hid hd2
      have hgdr : wr.heap.size ≤ gd := by omega
      clear egd ew2 hb2 e0 e1 e2 e3 e4 e5 e6 hbr
      have p3 := cell_of_blk (j := 3) hd2 rfl
      have p4 := cell_of_blk (j := 4) hd2 rfl
      have p5 := cell_of_blk (j := 5) hd2 rfl
      clear hd2
      go_upto_region 7 with (fail)
      obtain ⟨gx, egx⟩ : ∃ y, y = w2.heap.size := ⟨_, rfl⟩
      obtain ⟨w3, ew3⟩ : ∃ V : World, V = w2.alloc (.cells #[.int .i64 0, .int .i64 0, .int .i64 d.fw.a, .int .i64 d.fw.b, .int .i64 d.fw.c, .int .i64 0, .int .i64 0, .int .i64 0, .int .i64 0] 168) := ⟨_, rfl⟩
      have hb3 : Below w2.heap.size w2 w3 := by rw [ew3]; exact (Below.refl _ _).alloc (Nat.le_refl _) _
      have hx3 : w3.heap[gx]? = some (cuB (cu0 d)) := by rw [ew3, egx]; exact heap_new w2 _
      rw [← egx, ← ew3]
      have hgx2 : w2.heap.size ≤ gx := by omega
      have HB3 := Lib.hid (HB2.out.trans (hb3.mono HB2.out.size))
      have HD3 := Lib.hid ((hb3.block gd hld2).trans HD2.out)
      have HX3 := Lib.hid hx3
      have HI3 := Lib.hid (HQ.out.1.below HB3.out)
      have hlx3 := (Array.getElem?_eq_some_iff.1 hx3).1
      have hld3 : gd < w3.heap.size := (Array.getElem?_eq_some_iff.1 HD3.out).1
      have hs2 := HB2.out.size
      clear egx ew3 hb3 hx3 p3 p4 p5
      have hok3 : (nwV (wvN C) C (F.take k)).cs.length = (F.take k).length := by unfold nwV; rw [List.length_map]
      have hall3 := HI3.out.lt hok3
      have hmem := StA.mem (⟨gs, gc, mo, mw, bo, be, bf, cb⟩ : StA)
      have hneg := StA.neg HI3.out.nd
      have hallr := HQ.out.1.lt hok3
      have hmo3 : mo < w3.heap.size := hall3 _ hmem.2.2.1
      have hmw3 : mw < w3.heap.size := hall3 _ hmem.2.2.2.1
      have hlgs : gs < w3.heap.size := hall3 _ hmem.1
      have hgcl3 : gc < w3.heap.size := hall3 _ hmem.2.1
      have hgsmo : gs ≠ mo := hneg.2.1
      have hgsmw : gs ≠ mw := hneg.2.2.1
      have hgcmo : gc ≠ mo := hneg.2.2.2.2.2.2.1
      have hgcmw : gc ≠ mw := hneg.2.2.2.2.2.2.2.1
      have hmne : mo ≠ mw := hneg.2.2.2.2.2.2.2.2.2.2.2.1
      have hmor : mo < wr.heap.size := hallr _ hmem.2.2.1
      have hmwr : mw < wr.heap.size := hallr _ hmem.2.2.2.1
      have hgdmo : gd ≠ mo := by omega
      have hgdmw : gd ≠ mw := by omega
      have hlF : (F.take k).length = k := by rw [List.length_take]; have := HN.out; omega
      have hlO : (ofL (F.take k) cb).length = k := by
        have h1 : cb.length = (F.take k).length := HI3.out.lb
        unfold ofL
        rw [List.length_zipWith, h1, hlF, Nat.min_self]
      have hlW : (wvL (wvN C) (F.take k)).length = k := by unfold wvL; rw [List.length_map, hlF]
      have hnew : ixF (F.take k) d.k = none := ixF_none (fun e he => by
        obtain ⟨j, hj, rfl⟩ := List.getElem_of_mem he
        rw [hlF] at hj
        rw [List.getElem_take]
        obtain ⟨hi, rfl⟩ := List.getElem?_eq_some_iff.1 HD.out
        have := (List.pairwise_iff_getElem.1 HF.out.ord) j k (by omega) hi hj
        omega)
      have hF6 : ∀ e ∈ F.take k, e.k < 6 := fun e he => (HF.out.ok e (List.mem_of_mem_take he)).k
      have hgO : smG (dvT d.k) (ofL (F.take k) cb) = none := by rw [smG_of hF6 HDO.out.k HI3.out.lb, hnew]; rfl
      have hgW : smG (dvT d.k) (wvL (wvN C) (F.take k)) = none := by rw [smG_wv hF6 HDO.out.k, hnew]; rfl
      obtain ⟨La, eLa⟩ : ∃ l, l = ofL (F.take k) cb := ⟨_, rfl⟩
      obtain ⟨Lb, eLb⟩ : ∃ l, l = wvL (wvN C) (F.take k) := ⟨_, rfl⟩
      obtain ⟨A0, c0, hst, _⟩ := HI3.out.st
      have HGS := Lib.hid hst
      have HGC := Lib.hid HI3.out.cm
      have hso : SmI w3 mo La := by rw [eLa]; exact HI3.out.of_
      have hsw : SmI w3 mw Lb := by rw [eLb]; exact HI3.out.wv
      rw [← eLa] at hgO hlO
      rw [← eLb] at hgW hlW
      have HEL := Lib.hid (And.intro eLa eLb)
      have HE1 := Lib.hid (fun (V : World) (h : SmI V mo La) => show (Instr.mapEntry 162 (.map (some mo)) (.string (dvT d.k))).run Tryz.prog V = .ok (.tuple #[.pointer none, .int .i64 (k : Int)]) (smW V mo (La ++ [(dvT d.k, .pointer none)])) from by
        have h2 := entry_sm (P := Tryz.prog) (z := .pointer none) Tryz.underlying162 Tryz.underlying9 (by kernel_rfl) (dvT_size d.k) h hgO
        rw [hlO] at h2
        exact h2)
      have HS1 := Lib.hid (fun (V : World) (h : SmI V mo (La ++ [(dvT d.k, .pointer none)])) => show (Instr.entryStore 162 (.map (some mo)) (.int .i64 (k : Int)) (.pointer (some ⟨gx, 0, none⟩))).run Tryz.prog V = .ok () (smW V mo (La ++ [(dvT d.k, .pointer (some ⟨gx, 0, none⟩))])) from by
        have h2 := store_sm (P := Tryz.prog) (t := 162) (v := .pointer (some ⟨gx, 0, none⟩)) h
        rw [hlO] at h2
        exact h2)
      have HE2 := Lib.hid (fun (V : World) (h : SmI V mw Lb) => show (Instr.mapEntry 163 (.map (some mw)) (.string (dvT d.k))).run Tryz.prog V = .ok (.tuple #[.int .i64 0, .int .i64 (k : Int)]) (smW V mw (Lb ++ [(dvT d.k, .int .i64 0)])) from by
        have h2 := entry_sm (P := Tryz.prog) (z := .int .i64 0) Tryz.underlying163 Tryz.underlying9 (by kernel_rfl) (dvT_size d.k) h hgW
        rw [hlW] at h2
        exact h2)
      have HS2 := Lib.hid (fun (V : World) (h : SmI V mw (Lb ++ [(dvT d.k, .int .i64 0)])) => show (Instr.entryStore 163 (.map (some mw)) (.int .i64 (k : Int)) (.int .i64 (wvN C d.k : Int))).run Tryz.prog V = .ok () (smW V mw (Lb ++ [(dvT d.k, .int .i64 (wvN C d.k : Int))])) from by
        have h2 := store_sm (P := Tryz.prog) (t := 163) (v := .int .i64 (wvN C d.k : Int)) h
        rw [hlW] at h2
        exact h2)
      have HWV := Lib.hid (fun (V : World) {s : Nat} (hK : KNs w3 mo mw La Lb (dvT d.k) (.pointer (some ⟨gx, 0, none⟩)) (wvN C d.k : Int) s V) => show Row V V.heap.size C.wa (recs wvC C.ws) from
        (HI3.out.ws.keep fun b hb => hK.blk b (by omega) (by omega) (by omega)).mono (by have h1 := hK.size; have h2 := HI3.out.sz; omega))
      have hK0 : KNs w3 mo mw La Lb (dvT d.k) (.pointer (some ⟨gx, 0, none⟩)) (wvN C d.k : Int) 0 w3.drew := ⟨hso, hsw, fun b _ _ _ => rfl, Nat.le_refl _, rfl, rfl, rfl⟩
      have HK0 := Lib.hid hK0
      clear hok3 hall3 hmem hneg hallr hnew hF6 hgO hgW eLa eLb hst hso hsw hK0 hlO hlW
      refine qRegionSi (KNs w3 mo mw La Lb (dvT d.k) (.pointer (some ⟨gx, 0, none⟩)) (wvN C d.k : Int)) (nvL gs gd gx gc mo mw k (dvT d.k) (wvN C d.k : Int)) nvMs nvDs [0, 0, 0, 0, 0, 0, 0, 0, 0, 0, 0, 0, 0, 0, 0, 0, 1, 2, 0, 3, 4, 0, 5] [5, 5, 5, 5, 5, 5, 5, 5, 5, 5, 5, 5, 5, 5, 5, 5, 5, 5, 5, 5, 5, 5, 5] 5 (by kernel_rfl) (by kernel_rfl) (by kernel_rfl) (fun G => rfl) rfl rfl (by rfl) (fun _ _ _ _ _ _ => rfl) nvObj HK0.out (fun s V o h => (h.below ((Below.refl _ _).alloc (Nat.le_refl _) o)).1) ?_ ?_
      · refine ⟨?_, ?_, ?_, ?_, ?_, ?_, ?_, ?_, ?_, ?_, ?_, ?_, ?_, ?_, ?_, ?_, ?_, ?_, ?_, ?_, ?_, ?_, ?_, trivial⟩
        · exact OneSd.pure (fun G V => by simp only [nvL, putL, Act.put, List.setIfInBounds_toArray, List.set_cons_zero, List.set_cons_succ, gv, List.getD_cons_zero]; go_simp)
        · exact OneSd.pure (fun G V => by simp only [nvL, putL, Act.put, List.setIfInBounds_toArray, List.set_cons_zero, List.set_cons_succ, gv, List.getD_cons_zero, List.getD_cons_succ]; go_simp)
        · exact OneSd.pure (fun G V => by simp only [nvL, putL, Act.put, List.setIfInBounds_toArray, List.set_cons_zero, List.set_cons_succ, gv, List.getD_cons_zero, List.getD_cons_succ]; go_simp)
        · exact OneSd.load (fun G s V hK hs hL => by
            have hv := (hK.blk gs hgsmo hgsmw hlgs).trans HGS.out
            have q1 := cell_of_blk (j := 1) hv rfl
            have hl := (Array.getElem?_eq_some_iff.1 hv).1
            simp only [nvL, putL, Act.put, List.setIfInBounds_toArray, List.set_cons_zero, List.set_cons_succ, gv, List.getD_cons_zero, List.getD_cons_succ]; go_simp)
        · exact OneSd.pure (fun G V => by simp only [nvL, putL, Act.put, List.setIfInBounds_toArray, List.set_cons_zero, List.set_cons_succ, gv, List.getD_cons_zero, List.getD_cons_succ]; go_simp)
        · exact OneSd.load (fun G s V hK hs hL => by
            have hv := (hK.blk gd hgdmo hgdmw hld3).trans HD3.out
            have q0 := cell_of_blk (j := 0) hv rfl
            have hl := (Array.getElem?_eq_some_iff.1 hv).1
            simp only [nvL, putL, Act.put, List.setIfInBounds_toArray, List.set_cons_zero, List.set_cons_succ, gv, List.getD_cons_zero, List.getD_cons_succ]; go_simp)
        · exact OneSd.pure (fun G V => by simp only [nvL, putL, Act.put, List.setIfInBounds_toArray, List.set_cons_zero, List.set_cons_succ, gv, List.getD_cons_zero, List.getD_cons_succ]; go_simp)
        · exact OneSd.pure (fun G V => by simp only [nvL, putL, Act.put, List.setIfInBounds_toArray, List.set_cons_zero, List.set_cons_succ, gv, List.getD_cons_zero, List.getD_cons_succ]; go_simp)
        · exact OneSd.pure (fun G V => by simp only [nvL, putL, Act.put, List.setIfInBounds_toArray, List.set_cons_zero, List.set_cons_succ, gv, List.getD_cons_zero, List.getD_cons_succ]; go_simp)
        · exact OneSd.load (fun G s V hK hs hL => by
            have hv := (hK.blk gs hgsmo hgsmw hlgs).trans HGS.out
            have q2 := cell_of_blk (j := 2) hv rfl
            have hl := (Array.getElem?_eq_some_iff.1 hv).1
            simp only [nvL, putL, Act.put, List.setIfInBounds_toArray, List.set_cons_zero, List.set_cons_succ, gv, List.getD_cons_zero, List.getD_cons_succ]; go_simp)
        · exact OneSd.pure (fun G V => by simp only [nvL, putL, Act.put, List.setIfInBounds_toArray, List.set_cons_zero, List.set_cons_succ, gv, List.getD_cons_zero, List.getD_cons_succ]; go_simp)
        · exact OneSd.load (fun G s V hK hs hL => by
            have hv := (hK.blk gd hgdmo hgdmw hld3).trans HD3.out
            have q0 := cell_of_blk (j := 0) hv rfl
            have hl := (Array.getElem?_eq_some_iff.1 hv).1
            simp only [nvL, putL, Act.put, List.setIfInBounds_toArray, List.set_cons_zero, List.set_cons_succ, gv, List.getD_cons_zero, List.getD_cons_succ]; go_simp)
        · exact OneSd.pure (fun G V => by simp only [nvL, putL, Act.put, List.setIfInBounds_toArray, List.set_cons_zero, List.set_cons_succ, gv, List.getD_cons_zero, List.getD_cons_succ]; go_simp)
        · exact OneSd.pure (fun G V => by simp only [nvL, putL, Act.put, List.setIfInBounds_toArray, List.set_cons_zero, List.set_cons_succ, gv, List.getD_cons_zero, List.getD_cons_succ]; go_simp)
        · exact OneSd.pure (fun G V => by simp only [nvL, putL, Act.put, List.setIfInBounds_toArray, List.set_cons_zero, List.set_cons_succ, gv, List.getD_cons_zero, List.getD_cons_succ]; go_simp)
        · exact OneSd.load (fun G s V hK hs hL => by
            have hv := (hK.blk gd hgdmo hgdmw hld3).trans HD3.out
            have q0 := cell_of_blk (j := 0) hv rfl
            have hl := (Array.getElem?_eq_some_iff.1 hv).1
            simp only [nvL, putL, Act.put, List.setIfInBounds_toArray, List.set_cons_zero, List.set_cons_succ, gv, List.getD_cons_zero, List.getD_cons_succ]; go_simp)
        · exact OneSd.call (s := 0) (fun G V hK hL => ⟨_, _, by simp only [nvL, putL, Act.put, List.setIfInBounds_toArray, List.set_cons_zero, List.set_cons_succ]; go_simp <;> exact ⟨rfl, rfl⟩, by
            have hv := (hK.blk gc hgcmo hgcmw hgcl3).trans HGC.out
            exact (waveOf_any C d.k gc V HC.out hv (HWV.out V hK)).mono (fun e w' h => ⟨h.1, hK.below h.2⟩)⟩)
        · exact OneSd.put (s := 1) (fun G V hK hL => by
            have hup := HE1.out V hK.smo
            refine ⟨_, ?_, hK.setO hmne hmo3⟩
            simp only [nvL, putL, Act.put, List.setIfInBounds_toArray, List.set_cons_zero, List.set_cons_succ, gv, List.getD_cons_zero, List.getD_cons_succ]; go_simp <;> rfl)
        · exact OneSd.pure (fun G V => by simp only [nvL, putL, Act.put, List.setIfInBounds_toArray, List.set_cons_zero, List.set_cons_succ, gv, List.getD_cons_zero, List.getD_cons_succ]; go_simp)
        · exact OneSd.store (s := 2) (fun G V hK hL => by
            have hup := HS1.out V hK.smo
            refine ⟨_, ?_, rfl, hK.setO hmne hmo3⟩
            simp only [nvL, putL, Act.put, List.setIfInBounds_toArray, List.set_cons_zero, List.set_cons_succ]; go_simp <;> rfl)
        · exact OneSd.put (s := 3) (fun G V hK hL => by
            have hup := HE2.out V hK.smw
            refine ⟨_, ?_, hK.setW hmne hmw3⟩
            simp only [nvL, putL, Act.put, List.setIfInBounds_toArray, List.set_cons_zero, List.set_cons_succ, gv, List.getD_cons_zero, List.getD_cons_succ]; go_simp <;> rfl)
        · exact OneSd.pure (fun G V => by simp only [nvL, putL, Act.put, List.setIfInBounds_toArray, List.set_cons_zero, List.set_cons_succ, gv, List.getD_cons_zero, List.getD_cons_succ]; go_simp)
        · exact OneSd.store (s := 4) (fun G V hK hL => by
            have hup := HS2.out V hK.smw
            refine ⟨_, ?_, rfl, hK.setW hmne hmw3⟩
            simp only [nvL, putL, Act.put, List.setIfInBounds_toArray, List.set_cons_zero, List.set_cons_succ]; go_simp <;> rfl)
      intro G w4 hK4 hs4 hG4 hI4
      simp only [nvL, putL, Act.put, List.setIfInBounds_toArray, List.set_cons_zero, List.set_cons_succ]
      have hlx4 : gx < w4.heap.size := by have := hK4.size; omega
      have hgxn : gx ≠ mo ∧ gx ≠ mw := by omega
      have hx4 : w4.heap[gx]? = some (cuB (cu0 d)) := (hK4.blk gx hgxn.1 hgxn.2 hlx3).trans HX3.out
      have hlo0 := HQ.out.1.lt (by unfold nwV; rw [List.length_map])
      have hI4 := HQ.out.1.grow (d := d) (g := gx) (w' := w4) (fun h => by have := hlo0 gx h; omega) (by have := HQ.out.1.sz; omega) hx4 (fun b h1 h2 h3 h4 => (hK4.blk b h1 h2 (by have := HB3.out.size; omega)).trans (HB3.out.block b h4)) (by have := HB3.out.size; have := hK4.size; omega) (by unfold nwV; rw [List.length_map])
        (by have h := hK4.smo; rw [HEL.out.1] at h; exact h) (by have h := hK4.smw; rw [HEL.out.2] at h; exact h) hlo0 (fun A c b h1 h2 => by have := (own_ltS h1 h2).2; omega)
      have hB4 : Below w.heap.size w w4 := by
        have h1 := HQ.out.2.trans (HB3.out.mono HQ.out.2.size)
        refine ⟨hK4.os.trans h1.os, hK4.tape.trans h1.tape, hK4.output.trans h1.output, Nat.le_trans h1.size hK4.size, fun b hb => ?_⟩
        exact (hK4.blk b (by omega) (by omega) (Nat.lt_of_lt_of_le hb h1.size)).trans (h1.block b hb)
      have hd4 : w4.heap[gd]? = some (dvB d) := (hK4.blk gd hgdmo hgdmw hld3).trans HD3.out
      have HI4 := Lib.hid hI4
      have HB4 := Lib.hid hB4
      have HD4 := Lib.hid hd4
      obtain ⟨A4, c4, hs4', _⟩ := hI4.st
      have hc0 : w4.cell? ⟨gs, 0, none⟩ = some (.pointer (some ⟨gc, 0, none⟩)) := cell_of_blk (j := 0) hs4' rfl
      have HRD := Lib.hid (ready_any C (cu0 d) gs gc gx w4 hc0 hI4.cm hx4)
      have HTK := Lib.hid (show F.take (k + 1) = F.take k ++ [d] from by rw [List.take_add_one, HD.out]; rfl)
      clear hK4 hs4 hG4 hI4 hlo0 hx4 hB4 hd4 hs4' hc0 HE1 HE2 HS1 HS2 HK0 HWV
      go_wp2_with (fail)
      refine HRD.out.mono ?_
      rintro e w5 ⟨rfl, hb5⟩
      have HI5 := Lib.hid (HI4.out.below hb5)
      have HB5 := Lib.hid (HB4.out.trans (hb5.mono HB4.out.size))
      have hld4 : gd < w4.heap.size := (Array.getElem?_eq_some_iff.1 HD4.out).1
      have HD5 := Lib.hid ((hb5.block gd hld4).trans HD4.out)
      clear hb5 HRD
      cases hrd : rdV C (cu0 d) with
      | true =>
        have HF5 := Lib.hid (show StI B C (F.take (k + 1)) (wvN C) ⟨gs, gc, mo, mw, bo, be, bf, cb ++ [gx]⟩ (nwV (wvN C) C (F.take (k + 1))) w5 from by
          rw [HTK.out, nwV_snoc, if_pos hrd]; exact HI5.out)
        clear hrd
        go_wp2_with (fail)
        go_roundw
        case rel => exact ⟨k + 1, cb ++ [gx], by omega, by go_num, Lib.hid ⟨HF5.out, HB5.out⟩⟩
        case measure => simp [intOf]; omega
      | false =>
        have HOP := Lib.hid (show (nwV (wvN C) C (F.take k)).op.length = N ∧ ∀ x ∈ (nwV (wvN C) C (F.take k)).op, 0 ≤ x ∧ x ≤ (6 : Int) from by
          obtain ⟨h1, h2⟩ := opn_ok (wvN := wvN C) (C := C) (F.take k) (List.replicate C.ws.length (0 : Int)) 0 (fun x hx => by have := List.eq_of_mem_replicate hx; omega)
          refine ⟨by rw [HNN.out.1]; show (opn (wvN C) C (F.take k) _).length = _; rw [h1, List.length_replicate], fun x hx => ?_⟩
          have := h2 x hx
          omega)
        obtain ⟨op, eop⟩ : ∃ op, op = (nwV (wvN C) C (F.take k)).op := ⟨_, rfl⟩
        have hwl := wvN_lt HC.out d.k
        obtain ⟨wv, ewv⟩ : ∃ v, v = wvN C d.k := ⟨_, rfl⟩
        have HF5 := Lib.hid (fun (V : World) (hV : Below w5.heap.size w5 V) => show StI B C (F.take (k + 1)) (wvN C) ⟨gs, gc, mo, mw, bo, be, bf, cb ++ [gx]⟩ (nwV (wvN C) C (F.take (k + 1))) (V.setCell ⟨bo, wv, none⟩ (.int .i64 (op.getD wv 0 + 1))) from by
          rw [HTK.out, nwV_snoc, if_neg (by rw [hrd]; decide)]
          have h := (HI5.out.below hV).setOp (wvN C d.k) ((nwV (wvN C) C (F.take k)).op.getD (wvN C d.k) 0 + 1)
          rw [eop, ewv]; exact h)
        rw [← ewv] at hwl
        have hwlN : wv < N := by rw [HNN.out.1]; exact hwl
        have hoi : w5.heap[bo]? = some (inB op) := by rw [eop]; exact HI5.out.op
        have hopl : op.length = N := by rw [eop]; exact HOP.out.1
        have hopv : 0 ≤ op.getD wv 0 ∧ op.getD wv 0 ≤ 6 := by
          rw [eop]
          exact getD_all (P := fun y => 0 ≤ y ∧ y ≤ (6 : Int)) (by omega) HOP.out.2 wv
        obtain ⟨A5, c5, hs5, _⟩ := HI5.out.st
        have HLK := Lib.hid (fun (V : World) (h : Below w5.heap.size w5 V) => show (Instr.lookup 163 (.map (some mw)) (.string (dvT d.k)) false).run Tryz.prog V = .ok (.int .i64 (wv : Int)) V from by
          have h2 := look_sm (P := Tryz.prog) (z := .int .i64 0) Tryz.underlying163 Tryz.underlying9 (by kernel_rfl) (dvT_size d.k) (HI5.out.below h).wv
          have h3 : smG (dvT d.k) (wvL (wvN C) (F.take k ++ [d])) = some (.int .i64 (wv : Int)) := by
            have hF7 : ∀ e ∈ F.take k ++ [d], e.k < 6 := fun e he => (HF.out.ok e (by rw [← HTK.out] at he; exact List.mem_of_mem_take he)).k
            rw [smG_wv hF7 HDO.out.k, ewv]
            obtain ⟨i, hi⟩ : ∃ i, ixF (F.take k ++ [d]) d.k = some i := by
              refine ⟨k, ixF_at ?_ ?_⟩
              · rw [← HTK.out]; exact HF.out.ord.sublist (List.take_sublist _ _)
              · rw [List.getElem?_append_right (by omega), hlF, Nat.sub_self]; rfl
            rw [hi]; rfl
          rw [h3] at h2
          exact h2)
        have HQ5 := Lib.hid (fun (V : World) (hV : Below w5.heap.size w5 V) => show V.cell? ⟨gs, 3, none⟩ = some (.slice (some ⟨bo, 0, none⟩) N N) ∧ V.cell? ⟨gs, 2, none⟩ = some (.map (some mw)) ∧ V.cell? ⟨gd, 0, none⟩ = some (.string (dvT d.k)) ∧ V.cell? ⟨bo, wv, none⟩ = some (.int .i64 (op.getD wv 0)) ∧ (Instr.lookup 163 (.map (some mw)) (.string (dvT d.k)) false).run Tryz.prog V = .ok (.int .i64 (wv : Int)) V from by
          have h1 := (hV.block gs (Array.getElem?_eq_some_iff.1 hs5).1).trans hs5
          have h2 := (hV.block gd (Array.getElem?_eq_some_iff.1 HD5.out).1).trans HD5.out
          have h3 := (hV.block bo (Array.getElem?_eq_some_iff.1 hoi).1).trans hoi
          refine ⟨?_, cell_of_blk (j := 2) h1 rfl, cell_of_blk (j := 0) h2 rfl, inB_cell h3 (by omega), HLK.out V hV⟩
          rw [HNN.out.1]; exact cell_of_blk (j := 3) h1 rfl)
        have hwvI : (wv : Int) < (N : Int) := by omega
        have hbol := (Array.getElem?_eq_some_iff.1 hoi).1
        have HOI := Lib.hid hoi
        have HOPL := Lib.hid hopl
        obtain ⟨ov, eov⟩ : ∃ v, v = op.getD wv 0 := ⟨_, rfl⟩
        rw [← eov] at HQ5 hopv HF5
        have HOV := Lib.hid eov
        clear hrd eop ewv hoi hopl hs5 HLK eov HOP
        go_upto_region 9 with (fail)
        refine qRegionTail 13 (by kernel_rfl) (by kernel_rfl) ?_
        simp only [List.take_succ_cons, List.take_zero, List.drop_succ_cons, List.drop_zero]
        repeat (first
          | (go_big_quiet_want; refine qVal (fun V hV => (by (obtain ⟨q0, q1, q2, q3, q4⟩ := HQ5.out V hV; go_simp; try rfl))) ?_; simp only [Act.put, List.setIfInBounds_toArray, List.set_cons_zero, List.set_cons_succ]; go_big_quiet_on)
          | go_big_quiet_skip)
        refine wpQuiet_nil ?_
        intro w6 hb6
        have HF6 := Lib.hid (HF5.out w6 hb6)
        have HB6 := Lib.hid ((HB5.out.trans (hb6.mono HB5.out.size)).setCell (p := ⟨bo, wv, none⟩) hmoW.2.2 (.int .i64 (ov + 1)))
        have hoi6 := (hb6.block bo hbol).trans HOI.out
        have k0 : w6.cell? ⟨bo, wv, none⟩ = some (.int .i64 ov) := by rw [HOV.out]; exact inB_cell hoi6 (by rw [HOPL.out]; omega)
        have kf : w6.frozen? ⟨bo, wv, none⟩ = false := by simp [World.frozen?, hoi6, inB]
        have hbol6 := (Array.getElem?_eq_some_iff.1 hoi6).1
        clear hb6 hoi6 HF5 HQ5
        go_wp2_with (fail)
        go_roundw
        case rel => exact ⟨k + 1, cb ++ [gx], by omega, by go_num, Lib.hid ⟨HF6.out, HB6.out⟩⟩
        case measure => simp [intOf]; omega
    · have hltI : ¬ (k : Int) < (n : Int) := by omega
      have HE := Lib.hid (show F.take k = F from List.take_of_length_le (by have := HN.out; omega))
      go_wp2_with (fail)
      go_ret
      refine ⟨⟨gs, gc, mo, mw, bo, be, bf, cb⟩, rfl, rfl, ?_, HQ.out.2⟩
      have h := HQ.out.1
      rw [HE.out] at h
      exact h
end Go.Proofs.YtidgicbhgnbidaaGreatDoor
