/- A campaign's state in memory: where its parts lie, and what a store leaves. -/
import Derived.Test.YtidgicbhgnbidaaGreatDoorMgB
import Derived.Test.YtidgicbhgnbidaaGreatDoorMgC
namespace Go.Proofs.YtidgicbhgnbidaaGreatDoor
open Go.RowKit

def ckT : Nat → ByteArray
  | 0 => ⟨#[99]⟩
  | 1 => ⟨#[107]⟩
  | _ => ⟨#[122, 57]⟩
def dvT : Nat → ByteArray
  | 0 => ⟨#[100, 49]⟩
  | 1 => ⟨#[100, 50]⟩
  | 2 => ⟨#[100, 51]⟩
  | 3 => ⟨#[100, 52]⟩
  | 4 => ⟨#[100, 53]⟩
  | 5 => ⟨#[100, 54]⟩
  | _ => ⟨#[]⟩
theorem six_ofD {i : Nat} (h : i < 6) : i = 0 ∨ i = 1 ∨ i = 2 ∨ i = 3 ∨ i = 4 ∨ i = 5 := by omega
theorem dvT_eq {i j : Nat} (hi : i < 6) (hj : j < 6) : (dvT i = dvT j) ↔ i = j := by
  constructor
  · intro h
    have h2 : (dvT i == dvT j) = decide (i = j) := by
      rcases six_ofD hi with h | h | h | h | h | h <;> subst h <;> rcases six_ofD hj with h | h | h | h | h | h <;> subst h <;> decide +kernel
    rw [h, ba_beq, decide_eq_true rfl] at h2
    exact of_decide_eq_true h2.symm
  · intro h; rw [h]
theorem dvT_size (i : Nat) : (dvT i).size ≤ maxLen := by
  unfold dvT
  split <;> decide
theorem dvT_size2 (i : Nat) : (dvT i).size ≤ 2 := by
  unfold dvT
  split <;> decide
theorem ckT_size2 (i : Nat) : (ckT i).size ≤ 2 := by
  unfold ckT
  split <;> decide
def inC (x : Int) : List Value := [.int .i64 x]
theorem inC_len (x : Int) : (inC x).length = 1 := rfl
theorem inC_one (x : Int) : ∀ u ∈ inC x, u.oneCell' = true := by
  intro u hu; simp only [inC, List.mem_singleton] at hu; subst hu; rfl
def wvC (x : Wv) : List Value := [.int .i64 x.pt, .int .i64 x.wt, .int .i64 x.ls, .int .i64 x.fl]
theorem wvC_len (x : Wv) : (wvC x).length = 4 := rfl
theorem wvC_one (x : Wv) : ∀ u ∈ wvC x, u.oneCell' = true := by
  intro u hu
  simp only [wvC, List.mem_cons, List.not_mem_nil, or_false] at hu
  rcases hu with h | h | h | h <;> rw [h] <;> rfl
def mkC (m : Mk) : List Value := [.int .i64 m.at_, .string (dvT m.d), .int .i64 m.kd, .int .i64 m.v.a, .int .i64 m.v.b, .int .i64 m.v.c]
def mkW (m : Mk) : Value := .agg #[.int .i64 m.at_, .string (dvT m.d), .int .i64 m.kd, .int .i64 m.v.a, .int .i64 m.v.b, .int .i64 m.v.c]
def mkB (m : Mk) : Obj := .cells #[.int .i64 m.at_, .string (dvT m.d), .int .i64 m.kd, .int .i64 m.v.a, .int .i64 m.v.b, .int .i64 m.v.c] 64 (0, 0)
theorem mkC_len (m : Mk) : (mkC m).length = 6 := rfl
theorem mkC_one (m : Mk) : ∀ u ∈ mkC m, u.oneCell' = true := by
  intro u hu
  simp only [mkC, List.mem_cons, List.not_mem_nil, or_false] at hu
  rcases hu with h | h | h | h | h | h <;> rw [h] <;> rfl
def tnT : ByteArray := ⟨#[116]⟩
def dvC (d : Dv) : List Value := [.string (dvT d.k), .string (mdT d.md), .string tnT, .int .i64 d.fw.a, .int .i64 d.fw.b, .int .i64 d.fw.c, .slice none 0 0]
def dvW (d : Dv) : Value := .agg #[.string (dvT d.k), .string (mdT d.md), .string tnT, .int .i64 d.fw.a, .int .i64 d.fw.b, .int .i64 d.fw.c, .slice none 0 0]
def dvB (d : Dv) : Obj := .cells #[.string (dvT d.k), .string (mdT d.md), .string tnT, .int .i64 d.fw.a, .int .i64 d.fw.b, .int .i64 d.fw.c, .slice none 0 0] 67 (0, 0)
theorem dvC_len (d : Dv) : (dvC d).length = 7 := rfl
theorem dvC_one (d : Dv) : ∀ u ∈ dvC d, u.oneCell' = true := by
  intro u hu
  simp only [dvC, List.mem_cons, List.not_mem_nil, or_false] at hu
  rcases hu with h | h | h | h | h | h | h <;> rw [h] <;> rfl
def cmV (C : Cm) : Value := .agg #[.string (ckT C.key), .int .i64 C.t.a, .int .i64 C.t.b, .int .i64 C.t.c, .int .i64 C.at_, .slice C.wa C.ws.length C.wc, .int .i64 C.h0, .int .i64 C.h1, .int .i64 C.rm]
def cmB (C : Cm) : Obj := .cells #[.string (ckT C.key), .int .i64 C.t.a, .int .i64 C.t.b, .int .i64 C.t.c, .int .i64 C.at_, .slice C.wa C.ws.length C.wc, .int .i64 C.h0, .int .i64 C.h1, .int .i64 C.rm] 53 (0, 0)
def cuB (x : Cu) : Obj := .cells #[.int .i64 x.kd, .int .i64 x.si, .int .i64 x.v.a, .int .i64 x.v.b, .int .i64 x.v.c, .int .i64 x.f, .int .i64 x.o.a, .int .i64 x.o.b, .int .i64 x.o.c] 168 (0, 0)
def inB (l : List Int) : Obj := .cells (l.map (Value.int .i64)).toArray 3 (0, 0)
theorem inB_cell {w : World} {b : Nat} {l : List Int} (h : w.heap[b]? = some (inB l)) {k : Nat} (hk : k < l.length) : w.cell? ⟨b, k, none⟩ = some (.int .i64 (l.getD k 0)) := by
  refine cell_of_blk h ?_
  simp [List.getD_eq_getElem?_getD, List.getElem?_eq_getElem hk]
theorem inB_set {w : World} {b : Nat} {l : List Int} (h : w.heap[b]? = some (inB l)) (k : Nat) (v : Int) : (w.setCell ⟨b, k, none⟩ (.int .i64 v)).heap[b]? = some (inB (l.set k v)) := by
  unfold inB at h ⊢
  rw [setblkV (j := k) (.int .i64 v) h]
  congr 2
  simp
/-- Where a state lies. -/
structure StA where
  s : Nat
  c : Nat
  mo : Nat
  mw : Nat
  bo : Nat
  be : Nat
  bf : Nat
  cb : List Nat
def StA.all (a : StA) : List Nat := a.s :: a.c :: a.mo :: a.mw :: a.bo :: a.be :: a.bf :: a.cb
def sttB (a : StA) (C : Cm) (s : St) (A : Option Addr) (c : Nat) : Obj :=
  .cells #[.pointer (some ⟨a.c, 0, none⟩), .map (some a.mo), .map (some a.mw), .slice (some ⟨a.bo, 0, none⟩) C.ws.length C.ws.length, .slice (some ⟨a.be, 0, none⟩) C.ws.length C.ws.length, .slice (some ⟨a.bf, 0, none⟩) C.ws.length C.ws.length, .slice A s.be.length c, .int .i64 s.sp, .int .i64 s.nx] 165 (0, 0)
def ofL (F : List Dv) (cb : List Nat) : SmL := List.zipWith (fun d b => (dvT d.k, Value.pointer (some ⟨b, 0, none⟩))) F cb
def wvL (wvN : Nat → Nat) (F : List Dv) : SmL := F.map fun d => (dvT d.k, Value.int .i64 (wvN d.k : Int))
theorem smG_of : ∀ {F : List Dv} {cb : List Nat} {k : Nat}, (∀ d ∈ F, d.k < 6) → k < 6 → cb.length = F.length → smG (dvT k) (ofL F cb) = (ixF F k).bind fun i => (cb[i]?).map fun b => Value.pointer (some ⟨b, 0, none⟩)
  | [], cb, k, _, _, hl => by
    have : cb = [] := List.eq_nil_of_length_eq_zero hl
    subst this
    rfl
  | d :: F, [], k, _, _, hl => by simp at hl
  | d :: F, b :: cb, k, hF, hk, hl => by
    have h1 := hF d List.mem_cons_self
    show (if dvT k = dvT d.k then _ else _) = _
    unfold ixF
    by_cases h : k = d.k
    · rw [if_pos ((dvT_eq hk h1).2 h), if_pos h]
      rfl
    · rw [if_neg (fun e => h ((dvT_eq hk h1).1 e)), if_neg h]
      have ih := smG_of (F := F) (cb := cb) (k := k) (fun x hx => hF x (List.mem_cons_of_mem _ hx)) hk (by simpa using hl)
      show smG (dvT k) (ofL F cb) = _
      rw [ih]
      cases ixF F k with
      | none => rfl
      | some i => simp
theorem smG_wv {wvN : Nat → Nat} : ∀ {F : List Dv} {k : Nat}, (∀ d ∈ F, d.k < 6) → k < 6 → smG (dvT k) (wvL wvN F) = (ixF F k).map fun _ => Value.int .i64 (wvN k : Int)
  | [], k, _, _ => rfl
  | d :: F, k, hF, hk => by
    have h1 := hF d List.mem_cons_self
    show (if dvT k = dvT d.k then _ else _) = _
    unfold ixF
    by_cases h : k = d.k
    · rw [if_pos ((dvT_eq hk h1).2 h), if_pos h, h]
      rfl
    · rw [if_neg (fun e => h ((dvT_eq hk h1).1 e)), if_neg h]
      have ih := smG_wv (wvN := wvN) (F := F) (k := k) (fun x hx => hF x (List.mem_cons_of_mem _ hx)) hk
      show smG (dvT k) (wvL wvN F) = _
      rw [ih]
      cases ixF F k with
      | none => rfl
      | some i => rfl
/-- A state in memory. -/
structure StI (B : Nat) (C : Cm) (F : List Dv) (wvN : Nat → Nat) (a : StA) (s : St) (w : World) : Prop where
  nd : a.all.Nodup
  ge : ∀ b ∈ a.all, B ≤ b
  lb : a.cb.length = F.length
  sz : B ≤ w.heap.size
  ws : Row w B C.wa (recs wvC C.ws)
  st : ∃ A c, w.heap[a.s]? = some (sttB a C s A c) ∧ w.ownsRow B 3 1 (.slice A s.be.length c) s.be.length (recs inC s.be) ∧ ∀ b, (Value.slice A s.be.length c).ownBlock = some b → b ∉ a.all
  cm : w.heap[a.c]? = some (cmB C)
  of_ : SmI w a.mo (ofL F a.cb)
  wv : SmI w a.mw (wvL wvN F)
  cu : ∀ (i b : Nat) (x : Cu), a.cb[i]? = some b → s.cs[i]? = some x → w.heap[b]? = some (cuB x)
  op : w.heap[a.bo]? = some (inB s.op)
  en : w.heap[a.be]? = some (inB s.en)
  fa : w.heap[a.bf]? = some (inB s.fa)
section
variable {B : Nat} {C : Cm} {F : List Dv} {wvN : Nat → Nat} {a : StA} {s : St} {w w' : World}
theorem StA.neg (h : a.all.Nodup) : a.s ≠ a.c ∧ a.s ≠ a.mo ∧ a.s ≠ a.mw ∧ a.s ≠ a.bo ∧ a.s ≠ a.be ∧ a.s ≠ a.bf ∧ a.c ≠ a.mo ∧ a.c ≠ a.mw ∧ a.c ≠ a.bo ∧ a.c ≠ a.be ∧ a.c ≠ a.bf ∧ a.mo ≠ a.mw ∧ a.mo ≠ a.bo ∧ a.mo ≠ a.be ∧ a.mo ≠ a.bf ∧ a.mw ≠ a.bo ∧ a.mw ≠ a.be ∧ a.mw ≠ a.bf ∧ a.bo ≠ a.be ∧ a.bo ≠ a.bf ∧ a.be ≠ a.bf := by
  unfold StA.all at h
  simp only [List.nodup_cons, List.mem_cons, not_or] at h
  obtain ⟨⟨h1, h2, h3, h4, h5, h6, _⟩, ⟨h7, h8, h9, h10, h11, _⟩, ⟨h12, h13, h14, h15, _⟩, ⟨h16, h17, h18, _⟩, ⟨h19, h20, _⟩, ⟨h21, _⟩, _⟩ := h
  exact ⟨h1, h2, h3, h4, h5, h6, h7, h8, h9, h10, h11, h12, h13, h14, h15, h16, h17, h18, h19, h20, h21⟩
theorem StA.cne (h : a.all.Nodup) {i b : Nat} (hb : a.cb[i]? = some b) : a.s ≠ b ∧ a.c ≠ b ∧ a.mo ≠ b ∧ a.mw ≠ b ∧ a.bo ≠ b ∧ a.be ≠ b ∧ a.bf ≠ b := by
  have hm := List.mem_of_getElem? hb
  unfold StA.all at h
  simp only [List.nodup_cons, List.mem_cons, not_or] at h
  obtain ⟨⟨_, _, _, _, _, _, h1⟩, ⟨_, _, _, _, _, h2⟩, ⟨_, _, _, _, h3⟩, ⟨_, _, _, h4⟩, ⟨_, _, h5⟩, ⟨_, h6⟩, h7, _⟩ := h
  exact ⟨fun e => h1 (e ▸ hm), fun e => h2 (e ▸ hm), fun e => h3 (e ▸ hm), fun e => h4 (e ▸ hm), fun e => h5 (e ▸ hm), fun e => h6 (e ▸ hm), fun e => h7 (e ▸ hm)⟩
theorem StA.cnd (h : a.all.Nodup) : a.cb.Nodup := by
  unfold StA.all at h
  simp only [List.nodup_cons] at h
  exact h.2.2.2.2.2.2.2
theorem StA.mem (a : StA) : a.s ∈ a.all ∧ a.c ∈ a.all ∧ a.mo ∈ a.all ∧ a.mw ∈ a.all ∧ a.bo ∈ a.all ∧ a.be ∈ a.all ∧ a.bf ∈ a.all := by
  unfold StA.all
  refine ⟨?_, ?_, ?_, ?_, ?_, ?_, ?_⟩ <;> simp
theorem StA.cmem {i b : Nat} (hb : a.cb[i]? = some b) : b ∈ a.all := by
  have hm := List.mem_of_getElem? hb
  unfold StA.all
  simp [hm]
/-- All that is not a given block stays. -/
theorem row_keep {xs : List Value} {A : Option Addr} {B : Nat} (h : Row w B A xs) (hk : ∀ b, b < B → w'.heap[b]? = w.heap[b]?) : Row w' B A xs := h.keep hk
theorem own_keepS {base : Nat} {e : TypeId} {size n : Nat} {v : Value} {xs : List Value} (h : w.ownsRow base e size v n xs) (hk : ∀ b, v.ownBlock = some b → w'.heap[b]? = w.heap[b]?) : w'.ownsRow base e size v n xs := by
  refine ⟨h.1, ?_⟩
  rcases h.2 with h | ⟨g, cap, cur, hv, hb, hh, r⟩
  · exact .inl h
  · exact .inr ⟨g, cap, cur, hv, hb, (hk g (by rw [hv]; rfl)).trans hh, r⟩
theorem own_ltS {base : Nat} {e : TypeId} {size n b : Nat} {v : Value} {xs : List Value} (h : w.ownsRow base e size v n xs) (hb : v.ownBlock = some b) : base ≤ b ∧ b < w.heap.size := h.lt b hb
theorem StI.below (h : StI B C F wvN a s w) (hb : Below w.heap.size w w') : StI B C F wvN a s w' := by
  obtain ⟨A, c, h1, h2, h3⟩ := h.st
  have hk : ∀ b o, w.heap[b]? = some o → w'.heap[b]? = some o := fun b o ho => (hb.block b (Array.getElem?_eq_some_iff.1 ho).1).trans ho
  exact ⟨h.nd, h.ge, h.lb, Nat.le_trans h.sz hb.size, h.ws.keep fun b hlt => hb.block b (Nat.lt_of_lt_of_le hlt h.sz), ⟨A, c, hk _ _ h1, own_keepS h2 fun b hb' => hb.block b (own_ltS h2 hb').2, h3⟩, hk _ _ h.cm, h.of_.below hb, h.wv.below hb, fun i b x h4 h5 => hk _ _ (h.cu i b x h4 h5), hk _ _ h.op, hk _ _ h.en, hk _ _ h.fa⟩
/-- A course is stored anew. -/
theorem StI.course (h : StI B C F wvN a s w) {i g : Nat} {y : Cu} (hi : a.cb[i]? = some g) (hy : w'.heap[g]? = some (cuB y)) (hg : w.grownBy w' (some g)) : StI B C F wvN a { s with cs := s.cs.set i y } w' := by
  obtain ⟨A, c, h1, h2, h3⟩ := h.st
  have hne := StA.cne h.nd hi
  have hk : ∀ b o, g ≠ b → w.heap[b]? = some o → w'.heap[b]? = some o := fun b o hb ho => (hg.block b (Array.getElem?_eq_some_iff.1 ho).1 (by intro e; injection e with e; exact hb e.symm)).trans ho
  have hgB := h.ge g (StA.cmem hi)
  refine ⟨h.nd, h.ge, h.lb, Nat.le_trans h.sz hg.size, h.ws.keep fun b hlt => hg.block b (Nat.lt_of_lt_of_le hlt h.sz) (by intro e; injection e with e; omega), ⟨A, c, hk _ _ hne.1.symm h1, own_keepS h2 fun b hb' => hg.block b (own_ltS h2 hb').2 (by intro e; injection e with e; exact h3 b hb' (e ▸ StA.cmem hi)), h3⟩, hk _ _ hne.2.1.symm h.cm, hk _ _ hne.2.2.1.symm h.of_, hk _ _ hne.2.2.2.1.symm h.wv, ?_, hk _ _ hne.2.2.2.2.1.symm h.op, hk _ _ hne.2.2.2.2.2.1.symm h.en, hk _ _ hne.2.2.2.2.2.2.symm h.fa⟩
  intro j b x h4 h5
  by_cases hji : j = i
  · subst hji
    rw [hi] at h4
    cases h4
    have hlt := (List.getElem?_eq_some_iff.1 h5).1
    simp only [List.length_set] at hlt
    simp only [List.getElem?_set_self hlt, Option.some.injEq] at h5
    rw [← h5]; exact hy
  · simp only [List.getElem?_set_ne (fun e => hji e.symm)] at h5
    refine hk _ _ ?_ (h.cu j b x h4 h5)
    intro e
    subst e
    have h6 := (List.getElem?_eq_some_iff.1 hi)
    have h7 := (List.getElem?_eq_some_iff.1 h4)
    obtain ⟨l1, e1⟩ := h6
    obtain ⟨l2, e2⟩ := h7
    exact hji ((List.getElem_inj (StA.cnd h.nd)).1 (e2.trans e1.symm))
theorem setK (p : Addr) (v : Value) (b : Nat) (hb : b ≠ p.block) : (w.setCell p v).heap[b]? = w.heap[b]? := Below.heap_setCell w p v b hb
theorem setSz (p : Addr) (v : Value) : (w.setCell p v).heap.size = w.heap.size := by simp [World.setCell]
theorem StI.setOp (h : StI B C F wvN a s w) (k : Nat) (v : Int) : StI B C F wvN a { s with op := s.op.set k v } (w.setCell ⟨a.bo, k, none⟩ (.int .i64 v)) := by
  obtain ⟨A, c, h1, h2, h3⟩ := h.st
  obtain ⟨n1, n2, n3, n4, n5, n6, n7, n8, n9, n10, n11, n12, n13, n14, n15, n16, n17, n18, n19, n20, n21⟩ := StA.neg h.nd
  have hm := StA.mem a
  have hgB := h.ge a.bo hm.2.2.2.2.1
  refine ⟨h.nd, h.ge, h.lb, by rw [setSz]; exact h.sz, h.ws.keep fun b hlt => setK _ _ b (by show b ≠ a.bo; omega), ⟨A, c, (setK _ _ _ n4).trans h1, own_keepS h2 fun b hb' => setK _ _ b (fun e => h3 b hb' (by have e' : b = a.bo := e; rw [e']; exact hm.2.2.2.2.1)), h3⟩, (setK _ _ _ n9).trans h.cm, (setK _ _ _ n13).trans h.of_, (setK _ _ _ n16).trans h.wv, fun i b x h4 h5 => (setK _ _ _ (StA.cne h.nd h4).2.2.2.2.1.symm).trans (h.cu i b x h4 h5), inB_set h.op k v, (setK _ _ _ n19.symm).trans h.en, (setK _ _ _ n20.symm).trans h.fa⟩
theorem StI.setEn (h : StI B C F wvN a s w) (k : Nat) (v : Int) : StI B C F wvN a { s with en := s.en.set k v } (w.setCell ⟨a.be, k, none⟩ (.int .i64 v)) := by
  obtain ⟨A, c, h1, h2, h3⟩ := h.st
  obtain ⟨n1, n2, n3, n4, n5, n6, n7, n8, n9, n10, n11, n12, n13, n14, n15, n16, n17, n18, n19, n20, n21⟩ := StA.neg h.nd
  have hm := StA.mem a
  have hgB := h.ge a.be hm.2.2.2.2.2.1
  refine ⟨h.nd, h.ge, h.lb, by rw [setSz]; exact h.sz, h.ws.keep fun b hlt => setK _ _ b (by show b ≠ a.be; omega), ⟨A, c, (setK _ _ _ n5).trans h1, own_keepS h2 fun b hb' => setK _ _ b (fun e => h3 b hb' (by have e' : b = a.be := e; rw [e']; exact hm.2.2.2.2.2.1)), h3⟩, (setK _ _ _ n10).trans h.cm, (setK _ _ _ n14).trans h.of_, (setK _ _ _ n17).trans h.wv, fun i b x h4 h5 => (setK _ _ _ (StA.cne h.nd h4).2.2.2.2.2.1.symm).trans (h.cu i b x h4 h5), (setK _ _ _ n19).trans h.op, inB_set h.en k v, (setK _ _ _ n21.symm).trans h.fa⟩
theorem StI.setFa (h : StI B C F wvN a s w) (k : Nat) (v : Int) : StI B C F wvN a { s with fa := s.fa.set k v } (w.setCell ⟨a.bf, k, none⟩ (.int .i64 v)) := by
  obtain ⟨A, c, h1, h2, h3⟩ := h.st
  obtain ⟨n1, n2, n3, n4, n5, n6, n7, n8, n9, n10, n11, n12, n13, n14, n15, n16, n17, n18, n19, n20, n21⟩ := StA.neg h.nd
  have hm := StA.mem a
  have hgB := h.ge a.bf hm.2.2.2.2.2.2
  refine ⟨h.nd, h.ge, h.lb, by rw [setSz]; exact h.sz, h.ws.keep fun b hlt => setK _ _ b (by show b ≠ a.bf; omega), ⟨A, c, (setK _ _ _ n6).trans h1, own_keepS h2 fun b hb' => setK _ _ b (fun e => h3 b hb' (by have e' : b = a.bf := e; rw [e']; exact hm.2.2.2.2.2.2)), h3⟩, (setK _ _ _ n11).trans h.cm, (setK _ _ _ n15).trans h.of_, (setK _ _ _ n18).trans h.wv, fun i b x h4 h5 => (setK _ _ _ (StA.cne h.nd h4).2.2.2.2.2.2.symm).trans (h.cu i b x h4 h5), (setK _ _ _ n20).trans h.op, (setK _ _ _ n21).trans h.en, inB_set h.fa k v⟩
/-- The state's own block is stored anew; the moments at which waves began may lie elsewhere. -/
theorem StI.own (h : StI B C F wvN a s w) {sp nx : Int} {be : List Int} {A : Option Addr} {c : Nat} (hg : w.grownBy w' (some a.s)) (hs : w'.heap[a.s]? = some (sttB a C { s with sp := sp, nx := nx, be := be } A c))
    (ho : w'.ownsRow B 3 1 (.slice A be.length c) be.length (recs inC be)) (hn : ∀ b, (Value.slice A be.length c).ownBlock = some b → b ∉ a.all) : StI B C F wvN a { s with sp := sp, nx := nx, be := be } w' := by
  obtain ⟨n1, n2, n3, n4, n5, n6, _⟩ := StA.neg h.nd
  have hgB := h.ge a.s (StA.mem a).1
  have hk : ∀ b o, a.s ≠ b → w.heap[b]? = some o → w'.heap[b]? = some o := fun b o hb ho => (hg.block b (Array.getElem?_eq_some_iff.1 ho).1 (by intro e; injection e with e; exact hb e.symm)).trans ho
  exact ⟨h.nd, h.ge, h.lb, Nat.le_trans h.sz hg.size, h.ws.keep fun b hlt => hg.block b (Nat.lt_of_lt_of_le hlt h.sz) (by intro e; injection e with e; omega), ⟨A, c, hs, ho, hn⟩, hk _ _ n1 h.cm, hk _ _ n2 h.of_, hk _ _ n3 h.wv, fun i b x h4 h5 => hk _ _ (StA.cne h.nd h4).1 (h.cu i b x h4 h5), hk _ _ n4 h.op, hk _ _ n5 h.en, hk _ _ n6 h.fa⟩
theorem StI.setSp (h : StI B C F wvN a s w) (v : Int) : StI B C F wvN a { s with sp := v } (w.setCell ⟨a.s, 7, none⟩ (.int .i64 v)) := by
  obtain ⟨A, c, h1, h2, h3⟩ := h.st
  refine h.own (sp := v) (nx := s.nx) (be := s.be) (A := A) (c := c) (grown_set (grown_refl w (some a.s)) (q := ⟨a.s, 7, none⟩) (.inl rfl) _) (by unfold sttB at h1 ⊢; exact (setblkV (j := 7) (.int .i64 v) h1).trans rfl) ?_ h3
  exact own_keepS h2 fun b hb' => setK _ _ b (fun e => h3 b hb' (by have e' : b = a.s := e; rw [e']; exact (StA.mem a).1))
theorem StI.setNx (h : StI B C F wvN a s w) (v : Int) : StI B C F wvN a { s with nx := v } (w.setCell ⟨a.s, 8, none⟩ (.int .i64 v)) := by
  obtain ⟨A, c, h1, h2, h3⟩ := h.st
  refine h.own (sp := s.sp) (nx := v) (be := s.be) (A := A) (c := c) (grown_set (grown_refl w (some a.s)) (q := ⟨a.s, 8, none⟩) (.inl rfl) _) (by unfold sttB at h1 ⊢; exact (setblkV (j := 8) (.int .i64 v) h1).trans rfl) ?_ h3
  exact own_keepS h2 fun b hb' => setK _ _ b (fun e => h3 b hb' (by have e' : b = a.s := e; rw [e']; exact (StA.mem a).1))
end
end Go.Proofs.YtidgicbhgnbidaaGreatDoor
