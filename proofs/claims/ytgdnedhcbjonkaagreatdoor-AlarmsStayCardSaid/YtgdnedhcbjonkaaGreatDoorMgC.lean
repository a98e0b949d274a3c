/- Several texts in one: AlM, AlN, OwK, LayLP, AlO, AlR, AlQ, AlS, AlU, AlV. -/
import Derived.Test.YtgdnedhcbjonkaaGreatDoorMgA
import Derived.Test.YtgdnedhcbjonkaaGreatDoorMgB
import Derived.Shelf.GgSortFunc.InsertionK
import Derived.Sort.OwnSorted
import Derived.Test.YtgdnedhcbjonkaaGreatDoorProg
import Derived.Shelf.SlSortCmp.Whole1

/- Look-ups and stores in a map whose keys are names of alarms, of any entries. -/
namespace Go.Proofs.YtgdnedhcbjonkaaGreatDoor
open Go.RowKit Go.Shelf

/-- A name: which device, which rule. -/
abbrev Nm2 := Nat × Nat
def NmOk (n : Nm2) : Prop := n.1 < 3 ∧ n.2 < 2
def nmK (n : Nm2) : Value := nmV (aldT n.1) (alrT n.2)
def lfP (x : Nat) : Value := .pointer (some ⟨x, 0, none⟩)
/-- The map's entries: names and where their lives lie. -/
def mEf : Nat → List (Nm2 × Nat) → List MapEntry
  | _, [] => []
  | i, p :: l => { key := nmK p.1, val := lfP p.2, born := i } :: mEf (i + 1) l
theorem mEf_snoc (i : Nat) (l : List (Nm2 × Nat)) (p : Nm2 × Nat) : mEf i (l ++ [p]) = mEf i l ++ [{ key := nmK p.1, val := lfP p.2, born := i + l.length }] := by
  induction l generalizing i with
  | nil => rfl
  | cons q l ih => simp only [List.cons_append, mEf, ih, List.length_cons]; rw [show i + 1 + l.length = i + (l.length + 1) by omega]
/-- Where a name's life lies. -/
def lkN (l : List (Nm2 × Nat)) (n : Nm2) : Option Nat := (l.find? fun p => p.1 == n).map (·.2)
theorem ald_eqv (i j : Nat) (hi : i < 3) (hj : j < 3) : ((aldT i).toList == (aldT j).toList) = decide (i = j) := by
  match i, hi with
  | 0, _ => match j, hj with | 0, _ => simp | 1, _ => decide +kernel | 2, _ => decide +kernel
  | 1, _ => match j, hj with | 0, _ => decide +kernel | 1, _ => simp | 2, _ => decide +kernel
  | 2, _ => match j, hj with | 0, _ => decide +kernel | 1, _ => decide +kernel | 2, _ => simp
theorem alr_eqv (i j : Nat) (hi : i < 2) (hj : j < 2) : ((alrT i).toList == (alrT j).toList) = decide (i = j) := by
  match i, hi with
  | 0, _ => match j, hj with | 0, _ => simp | 1, _ => decide +kernel
  | 1, _ => match j, hj with | 0, _ => decide +kernel | 1, _ => simp
theorem nmK_equal (a b : Nm2) (ha : NmOk a) (hb : NmOk b) (w : World) : (Op.equal 142 (nmK a) (nmK b)).run Tryz.prog w = .ok (b == a) w := by
  unfold nmK
  rw [name_equal, ald_eqv _ _ ha.1 hb.1, alr_eqv _ _ ha.2 hb.2]
  congr 1
  obtain ⟨a1, a2⟩ := a
  obtain ⟨b1, b2⟩ := b
  rw [Bool.eq_iff_iff]
  simp only [Bool.and_eq_true, decide_eq_true_eq, beq_iff_eq, Prod.mk.injEq]
  exact ⟨fun h => ⟨h.1.symm, h.2.symm⟩, fun h => ⟨h.1.symm, h.2.symm⟩⟩
theorem find_asking (n : Nm2) (hn : NmOk n) (w : World) : ∀ (l : List (Nm2 × Nat)) (i j : Nat), (∀ p ∈ l, NmOk p.1) → ∃ k, (Instr.findAsking 142 (nmK n) (mEf i l) j).run Tryz.prog w = .ok ((lkN l n).map fun x => (k, lfP x)) w
  | [], _, _, _ => ⟨0, by simp [mEf, Instr.findAsking, lkN]⟩
  | p :: l, i, j, h => by
    have he := nmK_equal n p.1 hn (h p List.mem_cons_self) w
    obtain ⟨k, hk⟩ := find_asking n hn w l (i + 1) (j + 1) (fun q hq => h q (List.mem_cons_of_mem _ hq))
    cases hp : (p.1 == n) with
    | true =>
      rw [hp] at he
      exact ⟨j, by simp [mEf, Instr.findAsking, he, lkN, hp, Result.andThen]⟩
    | false =>
      rw [hp] at he
      refine ⟨k, ?_⟩
      have e : lkN (p :: l) n = lkN l n := by simp [lkN, hp]
      rw [e]
      simp [mEf, Instr.findAsking, he, hk, Result.andThen]
theorem now_none (n : Nm2) (l : List (Nm2 × Nat)) (i j : Nat) : Instr.findNow (.struct (Tryz.prog.fieldsOf 142)) (nmK n) (mEf i l) j = if l = [] then some none else none := by
  cases l with
  | nil => rfl
  | cons p l => rfl
theorem find_key (n : Nm2) (hn : NmOk n) (w : World) (l : List (Nm2 × Nat)) (h : ∀ p ∈ l, NmOk p.1) : ∃ k, (Instr.findKey 142 (nmK n) (mEf 0 l)).run Tryz.prog w = .ok ((lkN l n).map fun x => (k, lfP x)) w := by
  have hu : Tryz.prog.underlying 142 = some (.struct (Tryz.prog.fieldsOf 142)) := by kernel_rfl
  obtain ⟨k, hk⟩ := find_asking n hn w l 0 0 h
  refine ⟨k, ?_⟩
  cases l with
  | nil =>
    simp [Instr.findKey, run_underlying hu, now_none, lkN, Result.andThen]
  | cons p l =>
    simp only [Instr.findKey, Sem.run_bind, run_underlying hu, now_none, Result.andThen_ok]
    simpa using hk
/-- The pointer that a look-up gives. -/
def ptrO : Option Nat → Value
  | some x => lfP x
  | none => .pointer none
theorem lookup_names {n : Nm2} (hn : NmOk n) {w : World} {m : Nat} {l : List (Nm2 × Nat)} (h : ∀ p ∈ l, NmOk p.1) (hb : w.heap[m]? = some (.map (mEf 0 l).toArray l.length)) :
    (Instr.lookup 133 (.map (some m)) (nmK n) false).run Tryz.prog w = .ok (ptrO (lkN l n)) w := by
  have hz : (zeroValue 139).run Tryz.prog w = .ok (.pointer none) w := by kernel_rfl
  obtain ⟨k, hk⟩ := find_key n hn w l h
  have hc := fun b => name_check b (aldT n.1) (alrT n.2) w
  change ∀ b, (Instr.checkKey b 10000 142 (nmK n)).run Tryz.prog w = _ at hc
  cases hl : lkN l n with
  | none =>
    rw [hl] at hk
    simp [Instr.lookup, run_underlying Tryz.underlying133, MapKept.run_getObj_map hb, hc, hk, hz, Result.andThen, ptrO]
  | some x =>
    rw [hl] at hk
    simp [Instr.lookup, run_underlying Tryz.underlying133, MapKept.run_getObj_map hb, hc, hk, Result.andThen, ptrO]
theorem update_names {n : Nm2} (hn : NmOk n) {w : World} {m x : Nat} {l : List (Nm2 × Nat)} (h : ∀ p ∈ l, NmOk p.1) (hl : lkN l n = none) (hb : w.heap[m]? = some (.map (mEf 0 l).toArray l.length)) :
    (Instr.mapUpdate 133 (.map (some m)) (nmK n) (lfP x)).run Tryz.prog w = .ok () { w with heap := w.heap.setIfInBounds m (.map (mEf 0 (l ++ [(n, x)])).toArray (l ++ [(n, x)]).length) } := by
  obtain ⟨k, hk⟩ := find_key n hn w l h
  have hc := name_check false (aldT n.1) (alrT n.2) w
  change (Instr.checkKey false 10000 142 (nmK n)).run Tryz.prog w = _ at hc
  rw [hl] at hk
  have e : (mEf 0 (l ++ [(n, x)])).toArray = (mEf 0 l).toArray.push { key := nmK n, val := lfP x, born := l.length } := by rw [mEf_snoc]; simp
  simp [Instr.mapUpdate, run_underlying Tryz.underlying133, MapKept.run_getObj_map hb, hc, hk, MapKept.run_setObj_map _ hb, Result.andThen, e]
end Go.Proofs.YtgdnedhcbjonkaaGreatDoor

/- A house of lives in memory; no walk. -/
namespace Go.Proofs.YtgdnedhcbjonkaaGreatDoor
open Go.RowKit

/-- A life in a house. -/
structure Mb where
  n : Nm2
  x : Nat
  L : Lf
  v : Nat → Value
def mbE (M : List Mb) : List (Nm2 × Nat) := M.map fun y => (y.n, y.x)
structure HsI (w : World) (B hs m : Nat) (o : List Nat) (M : List Mb) : Prop where
  blk : ∃ A c, w.heap[hs]? = some (.cells #[.map (some m), .slice A M.length c] 136 (0, 0)) ∧ w.ownsRow B 139 1 (.slice A M.length c) M.length (o.map lfP)
  map : w.heap[m]? = some (.map (mEf 0 (mbE M)).toArray M.length)
  each : ∀ y ∈ M, LfI w y.x y.L y.v ∧ NmOk y.n ∧ y.L.d = y.n.1 ∧ y.L.r = y.n.2
  low : ∀ y ∈ M, ∀ b, lfFoot y.x y.v b → B ≤ b
  names : M.Pairwise (fun a b => a.n ≠ b.n)
  apart : M.Pairwise (fun a b => ∀ q, lfFoot a.x a.v q → ¬ lfFoot b.x b.v q)
  perm : o.Perm (M.map (·.x))
  lo : B ≤ hs ∧ B ≤ m
theorem foot_cells {w : World} {x b : Nat} {L : Lf} {v : Nat → Value} (h : LfI w x L v) (hf : lfFoot x v b) : ∃ cs t f, w.heap[b]? = some (.cells cs t f) ∧ (t = 145 ∨ ∃ m, t = rTy m) := by
  rcases hf with rfl | ⟨m, hm, hb⟩
  · exact ⟨_, _, _, h.blk, .inl rfl⟩
  · rcases (h.row m hm).2 with ⟨hv, _⟩ | ⟨g, cap, cur, hv, _, hh, _⟩
    · rw [hv] at hb; cases hb
    · rw [hv] at hb
      obtain rfl : g = b := by simpa [Value.ownBlock] using hb
      exact ⟨_, _, _, hh, .inr ⟨m, rfl⟩⟩
theorem ty_house {t : TypeId} (h : t = 145 ∨ ∃ m, t = rTy m) : t ≠ 136 ∧ t ≠ 139 := by
  rcases h with rfl | ⟨m, rfl⟩
  · exact ⟨by decide, by decide⟩
  · match m with
    | 0 => exact ⟨by decide, by decide⟩
    | 1 => exact ⟨by decide, by decide⟩
    | 2 => exact ⟨by decide, by decide⟩
    | 3 => exact ⟨by decide, by decide⟩
    | _ + 4 => exact ⟨(by decide : (3 : TypeId) ≠ 136), (by decide : (3 : TypeId) ≠ 139)⟩
/-- A life's blocks are neither the house's block, nor its map, nor its row. -/
theorem HsI.off {w : World} {B hs m : Nat} {o : List Nat} {M : List Mb} (h : HsI w B hs m o M) {x : Nat} {L : Lf} {v : Nat → Value} (hl : LfI w x L v) {b : Nat} (hf : lfFoot x v b) :
    b ≠ hs ∧ b ≠ m ∧ ∀ A c, w.heap[hs]? = some (.cells #[.map (some m), .slice A M.length c] 136 (0, 0)) → w.ownsRow B 139 1 (.slice A M.length c) M.length (o.map lfP) → ∀ q, (Value.slice A M.length c).ownBlock = some q → b ≠ q := by
  obtain ⟨cs, t, f, hb, ht⟩ := foot_cells hl hf
  have ht' := ty_house ht
  obtain ⟨A0, c0, h1, h2⟩ := h.blk
  refine ⟨fun e => ?_, fun e => ?_, fun A c h3 h4 q hq e => ?_⟩
  · rw [e, h1] at hb
    injection hb with hb
    injection hb with _ hb _
    exact ht'.1 hb.symm
  · rw [e, h.map] at hb
    injection hb with hb
    cases hb
  · rw [e] at hb
    exact own_ne h4 hb (Ne.symm ht'.2) hq.symm
theorem HsI.len {w : World} {B hs m : Nat} {o : List Nat} {M : List Mb} (h : HsI w B hs m o M) : hs < w.heap.size ∧ m < w.heap.size := by
  obtain ⟨A, c, h1, _⟩ := h.blk
  exact ⟨(Array.getElem?_eq_some_iff.1 h1).1, (Array.getElem?_eq_some_iff.1 h.map).1⟩
/-- What is of the house. -/
def hsFoot (w : World) (hs m : Nat) (M : List Mb) (b : Nat) : Prop := b = hs ∨ b = m ∨ (∃ A n c, w.cell? ⟨hs, 1, none⟩ = some (.slice A n c) ∧ (Value.slice A n c).ownBlock = some b) ∨ ∃ y ∈ M, lfFoot y.x y.v b
theorem HsI.keep {w w' : World} {B hs m : Nat} {o : List Nat} {M : List Mb} (h : HsI w B hs m o M) (hk : ∀ b, b < w.heap.size → B ≤ b → w'.heap[b]? = w.heap[b]?) : HsI w' B hs m o M := by
  obtain ⟨h1, h2⟩ := h.len
  obtain ⟨A, c, h3, h4⟩ := h.blk
  refine ⟨⟨A, c, (hk hs h1 h.lo.1).trans h3, own_keptB h4 fun b hb => hk b (own_block_lt h4 hb) (h4.lt b hb).1⟩, (hk m h2 h.lo.2).trans h.map, fun y hy => ?_, h.low, h.names, h.apart, h.perm, h.lo⟩
  obtain ⟨g1, g2⟩ := h.each y hy
  exact ⟨g1.keep fun b hb => hk b (g1.foot_lt hb) (h.low y hy b hb), g2⟩
theorem HsI.below {w w' : World} {B hs m : Nat} {o : List Nat} {M : List Mb} (h : HsI w B hs m o M) (hb : Below w.heap.size w w') : HsI w' B hs m o M := h.keep fun b h1 _ => hb.block b h1
/-- One life of a house goes on. -/
theorem HsI.step {w w' : World} {B hs m : Nat} {o : List Nat} {P S : List Mb} {y : Mb} {L' : Lf} {v' : Nat → Value} (h : HsI w B hs m o (P ++ y :: S)) (hB : B ≤ w.heap.size) (hl : LfI w' y.x L' v') (hg : LfGo w w' y.x y.v v') (hd : L'.d = y.L.d) (hr : L'.r = y.L.r) :
    HsI w' B hs m o (P ++ { y with L := L', v := v' } :: S) := by
  have hy : y ∈ P ++ y :: S := by simp
  obtain ⟨g1, g2, g3, g4⟩ := h.each y hy
  obtain ⟨h1, h2⟩ := h.len
  obtain ⟨A, c, h3, h4⟩ := h.blk
  have hlen : (P ++ { y with L := L', v := v' } :: S).length = (P ++ y :: S).length := by simp
  have hmb : mbE (P ++ { y with L := L', v := v' } :: S) = mbE (P ++ y :: S) := by simp [mbE]
  have hap := List.pairwise_append.1 h.apart
  have hap2 := List.pairwise_cons.1 hap.2.1
  have oth : ∀ z, z ∈ P ∨ z ∈ S → ∀ b, lfFoot z.x z.v b → ¬ lfFoot y.x y.v b := fun z hz b hb hyb => by
    rcases hz with hz | hz
    · exact hap.2.2 z hz y List.mem_cons_self b hb hyb
    · exact hap2.1 z hz b hyb hb
  have zmem : ∀ z, z ∈ P ∨ z ∈ S → z ∈ P ++ y :: S := fun z hz => by
    rcases hz with hz | hz
    · exact List.mem_append_left _ hz
    · exact List.mem_append_right _ (List.mem_cons_of_mem _ hz)
  have keep : ∀ z, z ∈ P ∨ z ∈ S → LfI w' z.x z.L z.v := fun z hz => by
    obtain ⟨k1, _⟩ := h.each z (zmem z hz)
    exact k1.gr hg.gr (oth z hz)
  have newoth : ∀ z, z ∈ P ∨ z ∈ S → ∀ b, lfFoot z.x z.v b → ¬ lfFoot y.x v' b := fun z hz b hb hyb => by
    rcases hg.sub b hyb with hyb | hyb
    · exact oth z hz b hb hyb
    · have := (h.each z (zmem z hz)).1.foot_lt hb
      omega
  refine ⟨⟨A, c, ?_, ?_⟩, ?_, fun z hz => ?_, fun z hz b hb => ?_, ?_, ?_, ?_, h.lo⟩
  · rw [hlen]
    exact (hg.gr.block hs h1 fun hf => (h.off g1 hf).1 rfl).trans h3
  · rw [hlen]
    exact own_keptB h4 fun b hb => hg.gr.block b (own_block_lt h4 hb) fun hf => (h.off g1 hf).2.2 A c h3 h4 b hb rfl
  · rw [hmb, hlen]
    exact (hg.gr.block m h2 fun hf => (h.off g1 hf).2.1 rfl).trans h.map
  · rcases List.mem_append.1 hz with hz | hz
    · exact ⟨keep z (.inl hz), (h.each z (zmem z (.inl hz))).2⟩
    · rcases List.mem_cons.1 hz with rfl | hz
      · exact ⟨hl, g2, hd.trans g3, hr.trans g4⟩
      · exact ⟨keep z (.inr hz), (h.each z (zmem z (.inr hz))).2⟩
  · rcases List.mem_append.1 hz with hz | hz
    · exact h.low z (zmem z (.inl hz)) b hb
    · rcases List.mem_cons.1 hz with rfl | hz
      · rcases hg.sub b hb with hb | hb
        · exact h.low y hy b hb
        · omega
      · exact h.low z (zmem z (.inr hz)) b hb
  · have hn := List.pairwise_append.1 h.names
    have hn2 := List.pairwise_cons.1 hn.2.1
    refine List.pairwise_append.2 ⟨hn.1, List.pairwise_cons.2 ⟨hn2.1, hn2.2⟩, fun a ha b hb => ?_⟩
    rcases List.mem_cons.1 hb with rfl | hb
    · exact hn.2.2 a ha y List.mem_cons_self
    · exact hn.2.2 a ha b (List.mem_cons_of_mem _ hb)
  · refine List.pairwise_append.2 ⟨hap.1, List.pairwise_cons.2 ⟨fun z hz q h1 h2 => newoth z (.inr hz) q h2 h1, hap2.2⟩, fun a ha b hb => ?_⟩
    rcases List.mem_cons.1 hb with rfl | hb
    · exact newoth a (.inl ha)
    · exact hap.2.2 a ha b (List.mem_cons_of_mem _ hb)
  · have : (P ++ { y with L := L', v := v' } :: S).map (·.x) = (P ++ y :: S).map (·.x) := by simp
    rw [this]
    exact h.perm
/-- Where a name's life lies in a house. -/
theorem lkN_split {M : List Mb} {n : Nm2} {x : Nat} (h : lkN (mbE M) n = some x) : ∃ P y S, M = P ++ y :: S ∧ y.n = n ∧ y.x = x ∧ ∀ z ∈ P, z.n ≠ n := by
  induction M with
  | nil => cases h
  | cons z M ih =>
    by_cases hz : z.n = n
    · refine ⟨[], z, M, rfl, hz, ?_, by simp⟩
      simpa [lkN, mbE, hz] using h
    · have h' : lkN (mbE M) n = some x := by simpa [lkN, mbE, hz] using h
      obtain ⟨P, y, S, rfl, h1, h2, h3⟩ := ih h'
      exact ⟨z :: P, y, S, rfl, h1, h2, fun q hq => by
        rcases List.mem_cons.1 hq with rfl | hq
        · exact hz
        · exact h3 q hq⟩
theorem lkN_none {M : List Mb} {n : Nm2} : lkN (mbE M) n = none ↔ n ∉ M.map (·.n) := by
  induction M with
  | nil => simp [lkN, mbE]
  | cons z M ih =>
    by_cases hz : z.n = n
    · simp [lkN, mbE, hz]
    · have : lkN (mbE (z :: M)) n = lkN (mbE M) n := by simp [lkN, mbE, hz]
      rw [this, ih]
      simp [Ne.symm hz]
end Go.Proofs.YtgdnedhcbjonkaaGreatDoor

/- A row of records that the library sorts: between the words of append and those of the sort; no program in sight. -/
namespace Go.Proofs.YtgdnedhcbjonkaaGreatDoor
open Go.RowKit Go.Sort

section
variable {α : Type} [Inhabited α] {f : α → List Value} {k : Nat}
theorem flat_recs (hf : ∀ x, (f x).length = k) (l : List α) : flatK f k l.toArray = (recs f l).toArray := by
  refine ext_get! (by simp [recs_length hf]) fun t ht => ?_
  have ht' : t < l.length * k := by simpa using ht
  rw [get_flatK _ _ _ t (by simpa using ht')]
  have hk0 : 0 < k := by
    rcases Nat.eq_zero_or_pos k with h | h
    · subst h; simp at ht'
    · exact h
  have hdiv : t / k < l.length := (Nat.div_lt_iff_lt_mul hk0).2 ht'
  have hmod := Nat.mod_lt t hk0
  have e := recs_get hf l (t / k) l[t / k] (List.getElem?_eq_getElem hdiv) (t % k) hmod
  rw [Nat.div_add_mod' t k] at e
  have h1 : l.toArray[t / k]! = l[t / k] := by simp [getElem!_pos, hdiv]
  have hlen : t % k < (f l[t / k]).length := by rw [hf]; exact hmod
  have h2 : t < (recs f l).length := by rw [recs_length hf]; exact ht'
  rw [h1, getElem!_pos (f l[t / k]) _ hlen, getElem!_pos (recs f l).toArray t (by simpa using h2)]
  rw [List.getElem?_eq_getElem h2, List.getElem?_eq_getElem hlen] at e
  simpa using (Option.some.inj e).symm
theorem holdsK_of_own (hf : ∀ x, (f x).length = k) {w : World} {base g cap n : Nat} {e : TypeId} {l : List α} (h : w.ownsRow base e k (.slice (some ⟨g, 0, none⟩) n cap) n (recs f l)) (hn : l.length = n) : HoldsK f k w g 0 l.toArray := by
  unfold HoldsK
  rw [flat_recs hf]
  rcases h.2 with ⟨hv, _⟩ | ⟨g', cap', cur, hv, hb, hg, h1, h2, h3, ht⟩
  · cases hv
  · cases hv
    intro j hj
    have hj' : j < (recs f l).length := by simpa using hj
    have hlen := recs_length hf l
    refine ⟨?_, by simp [World.frozen?, hg]⟩
    have e1 : (cur.toList.take (n * k))[j]? = (recs f l)[j]? := by rw [ht]
    rw [List.getElem?_take, if_pos (by rw [← hn, ← hlen]; exact hj'), Array.getElem?_toList, List.getElem?_eq_getElem hj'] at e1
    simp only [World.cell?, hg, Nat.zero_add]
    simp only [Option.isSome_none, Bool.false_eq_true, if_false]
    rw [e1]
    simp [getElem!_pos, hj']
theorem own_sortedK (hf : ∀ x, (f x).length = k) {w : World} {base g cap n : Nat} {e : TypeId} {l m : List α} (h : w.ownsRow base e k (.slice (some ⟨g, 0, none⟩) n cap) n (recs f l)) (hm : m.length = n) (q : Nat) (os : Array Obj) :
    (sortWorldK f k w g 0 q m.toArray os).ownsRow base e k (.slice (some ⟨g, 0, none⟩) n cap) n (recs f m) := by
  unfold sortWorldK putRowK
  rw [flat_recs hf]
  rcases h.2 with ⟨hv, _⟩ | ⟨g', cap', cur, hv, hb, hg, h1, h2, h3, ht⟩
  · cases hv
  · cases hv
    have hlt : g < w.heap.size := (Array.getElem?_eq_some_iff.1 hg).1
    have hlen := recs_length hf m
    rw [hm] at hlen
    refine ⟨hlen, .inr ⟨g, cap, putCells id 0 (recs f m).toArray cur, rfl, hb, ?_, h1, h2, by simpa [putCells] using h3, ?_⟩⟩
    · rw [heap_grow_old _ _ (by simpa using hlt)]
      simp [putRow, mapBlock, Sort.ahead, Array.getElem?_modify, hg, onCells]
    · apply List.ext_getElem?
      intro j
      by_cases hj : j < n * k
      · have hjc : j < cur.size := by rw [h3]; exact Nat.lt_of_lt_of_le hj (Nat.mul_le_mul_right _ h1)
        have hjr : j < (recs f m).length := by rw [hlen]; exact hj
        rw [List.getElem?_take, if_pos hj, Array.getElem?_toList]
        simp only [putCells, Array.getElem?_mapIdx, Array.getElem?_eq_getElem hjc, Option.map_some]
        rw [if_pos (by simp; exact hjr), List.getElem?_eq_getElem hjr]
        simp [getElem!_pos, hjr]
      · rw [List.getElem?_take_eq_none (by omega), List.getElem?_eq_none (by rw [hlen]; omega)]
theorem grown_sortedK {w : World} {g q : Nat} {os : Array Obj} (d : Array α) : w.grownBy (sortWorldK f k w g 0 q d os) (some g) := by
  unfold sortWorldK putRowK
  refine ⟨rfl, rfl, rfl, by simp, fun j hj hne => ?_⟩
  rw [heap_grow_old _ _ (by simpa using hj)]
  have : g ≠ j := fun e => hne (by rw [e])
  simp [putRow, mapBlock, Sort.ahead, Array.getElem?_modify, this]
/-- What the sort's contract says of a whole row, in lists. -/
theorem sorted_list {l : List α} {lt : α → α → Bool} {d' : Array α} (hp : PermIn 0 l.toArray.size l.toArray d') (hs : SortedIn lt 0 l.toArray.size d') : d'.toList.Perm l ∧ d'.toList.length = l.length ∧ d'.toList.Pairwise (fun x y => lt y x = false) := by
  obtain ⟨h1, _, h3⟩ := hp
  have hl : d'.size = l.length := by simpa using h1
  refine ⟨?_, by simpa using hl, ?_⟩
  · have e1 : d'.extract 0 l.toArray.size = d' := by rw [← h1]; simp
    rw [e1] at h3
    simpa using h3
  · rw [List.pairwise_iff_getElem]
    intro i j hi hj hij
    have hi' : i < d'.size := by simpa using hi
    have hj' : j < d'.size := by simpa using hj
    have := hs i j (Nat.zero_le _) hij (by simpa [hl] using hj')
    rw [getElem!_pos d' j hj', getElem!_pos d' i hi'] at this
    simpa using this
end
end Go.Proofs.YtgdnedhcbjonkaaGreatDoor

/- The shelf's SlLaysF.n6 at this program. -/
namespace Go.Proofs.YtgdnedhcbjonkaaGreatDoor
open Go.RowKit Go.Shelf

def layLP_ren : Go.Shelf.Ren := ⟨fun | 6 => 157 | 15 => 91 | 14 => 198 | 28 => 146 | 29 => 147 | 20 => 219 | 21 => 220 | 22 => 221 | 23 => 222 | 24 => 223 | 25 => 224 | 26 => 225 | 27 => 226 | 46 => 245 | 47 => 191 | 48 => 192 | 49 => 246 | 50 => 247 | 57 => 254 | n => n, fun | 22 => 134 | 24 => 139 | 25 => 246 | 3 => 3 | 39 => 176 | 0 => 0 | 53 => 235 | 55 => 237 | 4 => 4 | 46 => 229 | 45 => 228 | 50 => 223 | 5 => 5 | 9 => 9 | 66 => 273 | 70 => 277 | 76 => 294 | 77 => 295 | n => n, fun  | n => n⟩
theorem layLP : SlLaysF.n6 Tryz.prog layLP_ren := {
  mixed := by kernel_rfl,
  f6 := ⟨Tryz.f157.name, by kernel_rfl, Tryz.func157.trans (congrArg some (by kernel_rfl))⟩,
  f14 := ⟨Tryz.f198.name, by kernel_rfl, Tryz.func198.trans (congrArg some (by kernel_rfl))⟩,
  f15 := Tryz.func91.trans (congrArg some (by kernel_rfl)),
  f20 := ⟨Tryz.f219.name, by kernel_rfl, Tryz.func219.trans (congrArg some (by kernel_rfl))⟩,
  f21 := ⟨Tryz.f220.name, by kernel_rfl, Tryz.func220.trans (congrArg some (by kernel_rfl))⟩,
  f22 := ⟨Tryz.f221.name, by kernel_rfl, Tryz.func221.trans (congrArg some (by kernel_rfl))⟩,
  f23 := ⟨Tryz.f222.name, by kernel_rfl, Tryz.func222.trans (congrArg some (by kernel_rfl))⟩,
  f24 := ⟨Tryz.f223.name, by kernel_rfl, Tryz.func223.trans (congrArg some (by kernel_rfl))⟩,
  f25 := ⟨Tryz.f224.name, by kernel_rfl, Tryz.func224.trans (congrArg some (by kernel_rfl))⟩,
  f26 := ⟨Tryz.f225.name, by kernel_rfl, Tryz.func225.trans (congrArg some (by kernel_rfl))⟩,
  f27 := ⟨Tryz.f226.name, by kernel_rfl, Tryz.func226.trans (congrArg some (by kernel_rfl))⟩,
  f28 := Tryz.func146.trans (congrArg some (by kernel_rfl)),
  f29 := Tryz.func147.trans (congrArg some (by kernel_rfl)),
  f46 := ⟨Tryz.f245.name, by kernel_rfl, Tryz.func245.trans (congrArg some (by kernel_rfl))⟩,
  f47 := Tryz.func191.trans (congrArg some (by kernel_rfl)),
  f48 := Tryz.func192.trans (congrArg some (by kernel_rfl)),
  f49 := ⟨Tryz.f246.name, by kernel_rfl, Tryz.func246.trans (congrArg some (by kernel_rfl))⟩,
  f50 := ⟨Tryz.f247.name, by kernel_rfl, Tryz.func247.trans (congrArg some (by kernel_rfl))⟩,
  f57 := ⟨Tryz.f254.name, by kernel_rfl, Tryz.func254.trans (congrArg some (by kernel_rfl))⟩,
  t0 := Tryz.underlying0,
  a0 := Tryz.isAgg0,
  z0 := Tryz.sizeOf0,
  v0 := Tryz.zeroValue0,
  t3 := Tryz.underlying3,
  a3 := Tryz.isAgg3,
  z3 := Tryz.sizeOf3,
  v3 := Tryz.zeroValue3,
  t4 := Tryz.underlying4,
  a4 := Tryz.isAgg4,
  z4 := Tryz.sizeOf4,
  v4 := Tryz.zeroValue4,
  t5 := Tryz.underlying5,
  a5 := Tryz.isAgg5,
  z5 := Tryz.sizeOf5,
  v5 := Tryz.zeroValue5,
  t9 := Tryz.underlying9,
  a9 := Tryz.isAgg9,
  z9 := Tryz.sizeOf9,
  v9 := Tryz.zeroValue9,
  t22 := Tryz.underlying134,
  a22 := Tryz.isAgg134,
  z22 := Tryz.sizeOf134,
  v22 := Tryz.zeroValue134,
  a24 := Tryz.isAgg139,
  z24 := Tryz.sizeOf139,
  t25 := Tryz.underlying246,
  a25 := Tryz.isAgg246,
  z25 := Tryz.sizeOf246,
  v25 := Tryz.zeroValue246,
  t39 := Tryz.underlying176,
  a39 := Tryz.isAgg176,
  z39 := Tryz.sizeOf176,
  v39 := Tryz.zeroValue176,
  t45 := Tryz.underlying228,
  a45 := Tryz.isAgg228,
  z45 := Tryz.sizeOf228,
  v45 := Tryz.zeroValue228,
  t46 := Tryz.underlying229,
  a46 := Tryz.isAgg229,
  z46 := Tryz.sizeOf229,
  v46 := Tryz.zeroValue229,
  t50 := Tryz.underlying223,
  a50 := Tryz.isAgg223,
  z50 := Tryz.sizeOf223,
  v50 := Tryz.zeroValue223,
  t53 := Tryz.underlying235,
  a53 := Tryz.isAgg235,
  z53 := Tryz.sizeOf235,
  v53 := Tryz.zeroValue235,
  t55 := Tryz.underlying237,
  a55 := Tryz.isAgg237,
  z55 := Tryz.sizeOf237,
  v55 := Tryz.zeroValue237,
  t66 := Tryz.underlying273,
  a66 := Tryz.isAgg273,
  z66 := Tryz.sizeOf273,
  v66 := Tryz.zeroValue273,
  t70 := Tryz.underlying277,
  a70 := Tryz.isAgg277,
  z70 := Tryz.sizeOf277,
  v70 := Tryz.zeroValue277,
  t76 := Tryz.underlying294,
  a76 := Tryz.isAgg294,
  z76 := Tryz.sizeOf294,
  v76 := Tryz.zeroValue294,
  t77 := Tryz.underlying295,
  a77 := Tryz.isAgg295,
  z77 := Tryz.sizeOf295,
  v77 := Tryz.zeroValue295 }
end Go.Proofs.YtgdnedhcbjonkaaGreatDoor

/- slices.SortFunc of the lives of a house by their names. -/
namespace Go.Proofs.YtgdnedhcbjonkaaGreatDoor
open Go.RowKit Go.Shelf Go.Sort

/-- A name's rank. -/
def rkN (n : Nm2) : Nat := n.1 * 2 + n.2
theorem ald_cmp (i j : Nat) (hi : i < 3) (hj : j < 3) : Lib.compareBytes (aldT i).data.toList (aldT j).data.toList = cmpI (i : Int) (j : Int) := by
  have h1 : i = 0 ∨ i = 1 ∨ i = 2 := by omega
  have h2 : j = 0 ∨ j = 1 ∨ j = 2 := by omega
  rcases h1 with h | h | h <;> subst h <;> rcases h2 with h | h | h <;> subst h <;> rfl
theorem alr_cmp (i j : Nat) (hi : i < 2) (hj : j < 2) : Lib.compareBytes (alrT i).data.toList (alrT j).data.toList = cmpI (i : Int) (j : Int) := by
  have h1 : i = 0 ∨ i = 1 := by omega
  have h2 : j = 0 ∨ j = 1 := by omega
  rcases h1 with h | h <;> subst h <;> rcases h2 with h | h <;> subst h <;> rfl
theorem name_or {a b : Nm2} (ha : NmOk a) (hb : NmOk b) : orI [cmpI (a.1 : Int) (b.1 : Int), cmpI (a.2 : Int) (b.2 : Int)] = cmpI (rkN a : Int) (rkN b : Int) := by
  obtain ⟨h1, h2⟩ := ha
  obtain ⟨g1, g2⟩ := hb
  simp only [orI, cmpI, rkN]
  repeat' split
  all_goals omega
set_option maxRecDepth 100000 in
set_option maxHeartbeats 1000000 in
theorem byName_grow (a b : Nm2) (ha : NmOk a) (hb : NmOk b) (w : World) : Calls Tryz.prog 159 #[nmK a, nmK b] w fun e w' => e = .returned (.int .i64 (cmpI (rkN a : Int) (rkN b : Int))) ∧ ∃ q os', w' = grow (w.drewN q) os' := by
  have HR := Lib.hid (name_or ha hb)
  have HD := Lib.hid (fun V => scompare_any (aldT a.1) (aldT b.1) V)
  have HRr := Lib.hid (fun V => scompare_any (alrT a.2) (alrT b.2) V)
  rw [ald_cmp _ _ ha.1 hb.1] at HD
  rw [alr_cmp _ _ ha.2 hb.2] at HRr
  unfold nmK nmV
  generalize cmpI (rkN a : Int) (rkN b : Int) = r at HR ⊢
  generalize cmpI (a.1 : Int) (b.1 : Int) = r1 at HR HD
  generalize cmpI (a.2 : Int) (b.2 : Int) = r2 at HR HRr
  generalize aldT a.1 = a1 at HD ⊢
  generalize aldT b.1 = b1 at HD ⊢
  generalize alrT a.2 = a2 at HRr ⊢
  generalize alrT b.2 = b2 at HRr ⊢
  clear ha hb
  go_enter Tryz.func159, Tryz.ntmps159
  go_wp2_with (fail)
  generalize hW : ((w.alloc (.cells #[.string a1, .string a2] 142)).alloc (.cells #[.string b1, .string b2] 142)) = W
  have hG : W = grow (w.drewN 0) #[.cells #[.string a1, .string a2] 142, .cells #[.string b1, .string b2] 142] := by rw [← hW, alloc_eq_grow, alloc_eq_grow, grow_grow]; rfl
  have hB : Below w.heap.size w W := by rw [← hW]; exact ((Below.refl _ _).alloc (Nat.le_refl _) _).alloc (by simp) _
  have hx : W.heap[w.heap.size]? = some (.cells #[.string a1, .string a2] 142) := by
    rw [← hW, Below.heap_alloc _ _ _ (by simp)]; exact heap_new w _
  have hy : W.heap[w.heap.size + 1]? = some (.cells #[.string b1, .string b2] 142) := by
    rw [← hW]; have := heap_new (w.alloc (.cells #[.string a1, .string a2] 142)) (.cells #[.string b1, .string b2] 142); simpa using this
  have p0 : W.cell? ⟨w.heap.size, 0, none⟩ = some (.string a1) := cell_of_blk hx rfl
  have p1 : W.cell? ⟨w.heap.size, 1, none⟩ = some (.string a2) := cell_of_blk hx rfl
  have q0 : W.cell? ⟨w.heap.size + 1, 0, none⟩ = some (.string b1) := cell_of_blk hy rfl
  have q1 : W.cell? ⟨w.heap.size + 1, 1, none⟩ = some (.string b2) := cell_of_blk hy rfl
  have HG := Lib.hid hG
  clear hW hx hy hG hB
  refine wp_region_still_tail 10 (by kernel_rfl) (by kernel_rfl) ?_
  simp only [List.take_succ_cons, List.take_zero, List.drop_succ_cons, List.drop_zero]
  change wpStill _ _ W.drew _ _ _
  repeat still_step
  still_call (flip_ (HD.out _))
  repeat still_step
  still_call (flip_ (HRr.out _))
  try refine wpStill_nil ?_
  have hsz' : W.drew.heap.size = W.heap.size := rfl
  go_wp2_with (fail)
  have hcs : Cells (W.alloc (.cells #[.int .i64 r1, .int .i64 r2] 3)).drew W.heap.size 0 ([r1, r2].map (Value.int .i64)) := Cells.new W #[.int .i64 r1, .int .i64 r2] 3 (0, 0) _ rfl
  refine (or_any [r1, r2] 2 2 W.heap.size _ rfl (by omega) hcs).mono ?_
  rw [HR.out]
  rintro e w' ⟨rfl, rfl⟩
  go_wp2_with (fail)
  go_ret
  refine ⟨rfl, 1, #[.cells #[.string a1, .string a2] 142, .cells #[.string b1, .string b2] 142] ++ #[.cells #[.int .i64 r1, .int .i64 r2] 3], ?_⟩
  rw [HG.out, alloc_eq_grow, grow_grow]
  rfl
set_option maxRecDepth 100000 in
set_option maxHeartbeats 1000000 in
theorem nh1_grow (x y : Nat) (a b : Nm2) (ha : NmOk a) (hb : NmOk b) (w : World) (x0 : w.cell? ⟨x, 0, none⟩ = some (.string (aldT a.1))) (x1 : w.cell? ⟨x, 1, none⟩ = some (.string (alrT a.2))) (y0 : w.cell? ⟨y, 0, none⟩ = some (.string (aldT b.1))) (y1 : w.cell? ⟨y, 1, none⟩ = some (.string (alrT b.2))) :
    Calls Tryz.prog 158 #[.pointer (some ⟨x, 0, none⟩), .pointer (some ⟨y, 0, none⟩)] w fun e w' => e = .returned (.int .i64 (cmpI (rkN a : Int) (rkN b : Int))) ∧ ∃ q os', w' = grow (w.drewN q) os' := by
  have HN := Lib.hid (byName_grow a b ha hb w.drew)
  unfold nmK nmV at HN
  generalize cmpI (rkN a : Int) (rkN b : Int) = r at HN ⊢
  generalize aldT a.1 = a1 at HN x0
  generalize aldT b.1 = b1 at HN y0
  generalize alrT a.2 = a2 at HN x1
  generalize alrT b.2 = b2 at HN y1
  clear ha hb
  go_enter Tryz.func158, Tryz.ntmps158
  go_wp2_with (fail)
  refine wp_region_still_tail 8 (by kernel_rfl) (by kernel_rfl) ?_
  simp only [List.take_succ_cons, List.take_zero, List.drop_succ_cons, List.drop_zero]
  change wpStill _ _ w.drew _ _ _
  repeat still_step
  try refine wpStill_nil ?_
  go_wp2_with (fail)
  refine HN.out.mono ?_
  rintro e w' ⟨rfl, q, os', rfl⟩
  go_wp2_with (fail)
  go_ret
  exact ⟨rfl, 1 + q, os', by rw [← World.drewN_drewN]⟩
/-- One cell an element: what a row owned holds for the sort, and behind it. -/
theorem holds1_of_own {α : Type} [Inhabited α] {enc : α → Value} {w : World} {base g cap n : Nat} {e : TypeId} {l : List α} (h : w.ownsRow base e 1 (.slice (some ⟨g, 0, none⟩) n cap) n (l.map enc)) (hn : l.length = n) : Holds enc w g 0 l.toArray := by
  rcases h.2 with ⟨hv, _⟩ | ⟨g', cap', cur, hv, hb, hg, h1, h2, h3, ht⟩
  · cases hv
  · cases hv
    intro j hj
    have hj' : j < l.length := by simpa using hj
    refine ⟨?_, by simp [World.frozen?, hg]⟩
    have e1 : (cur.toList.take (n * 1))[j]? = (l.map enc)[j]? := by rw [ht]
    rw [List.getElem?_take, if_pos (by omega), Array.getElem?_toList, List.getElem?_map, List.getElem?_eq_getElem hj'] at e1
    simp only [World.cell?, hg, Nat.zero_add]
    simp only [Option.isSome_none, Bool.false_eq_true, if_false]
    rw [e1]
    simp [getElem!_pos, hj']
theorem own_sorted1 {α : Type} [Inhabited α] {enc : α → Value} {w : World} {base g cap n : Nat} {e : TypeId} {l m : List α} (h : w.ownsRow base e 1 (.slice (some ⟨g, 0, none⟩) n cap) n (l.map enc)) (hm : m.length = n) (q : Nat) (os : Array Obj) :
    (sortWorld enc w g 0 q m.toArray os).ownsRow base e 1 (.slice (some ⟨g, 0, none⟩) n cap) n (m.map enc) := by
  unfold sortWorld
  rcases h.2 with ⟨hv, _⟩ | ⟨g', cap', cur, hv, hb, hg, h1, h2, h3, ht⟩
  · cases hv
  · cases hv
    have hlt : g < w.heap.size := (Array.getElem?_eq_some_iff.1 hg).1
    refine ⟨by simp [hm], .inr ⟨g, cap, putCells enc 0 m.toArray cur, rfl, hb, ?_, h1, h2, by simpa [putCells] using h3, ?_⟩⟩
    · rw [heap_grow_old _ _ (by simpa using hlt)]
      simp [putRow, mapBlock, Sort.ahead, Array.getElem?_modify, hg, onCells]
    · apply List.ext_getElem?
      intro j
      by_cases hj : j < n * 1
      · have hjc : j < cur.size := by omega
        have hjr : j < m.length := by omega
        rw [List.getElem?_take, if_pos hj, Array.getElem?_toList]
        simp only [putCells, Array.getElem?_mapIdx, Array.getElem?_eq_getElem hjc, Option.map_some]
        rw [if_pos (by simp; exact hjr), List.getElem?_map, List.getElem?_eq_getElem hjr]
        simp [getElem!_pos, hjr]
      · rw [List.getElem?_take_eq_none (by omega), List.getElem?_eq_none (by simp [hm]; omega)]
theorem grown_sorted1 {α : Type} [Inhabited α] {enc : α → Value} {w : World} {g q : Nat} {os : Array Obj} (d : Array α) : w.grownBy (sortWorld enc w g 0 q d os) (some g) := by
  unfold sortWorld
  refine ⟨rfl, rfl, rfl, by simp, fun j hj hne => ?_⟩
  rw [heap_grow_old _ _ (by simpa using hj)]
  have : g ≠ j := fun e => hne (by rw [e])
  simp [putRow, mapBlock, Sort.ahead, Array.getElem?_modify, this]
end Go.Proofs.YtgdnedhcbjonkaaGreatDoor

/- slices.SortFunc of a house's lives by its contract. -/
namespace Go.Proofs.YtgdnedhcbjonkaaGreatDoor
open Go.RowKit Go.Shelf Go.Sort

theorem insL_none (p : Option Addr) (cap : Nat) (fv : Value) (w : World) : Calls Tryz.prog 219 #[.slice p 0 cap, .int .i64 0, .int .i64 0, fv] w fun e w' => e = .returned (.tuple #[]) ∧ w' = w := by
  go_enter Tryz.func219, Tryz.ntmps219
  go_wp2_with (fail)
  refine wp_loop_rounds 1 ?_
  rw [rounds_succ]
  go_wp2_with (fail)
  go_end0
  exact ⟨rfl, rfl⟩
theorem pdqL_none (p : Option Addr) (cap : Nat) (lim : Int) (fv : Value) (w : World) : Calls Tryz.prog 198 #[.slice p 0 cap, .int .i64 0, .int .i64 0, .int .i64 lim, fv] w fun e w' => e = .returned (.tuple #[]) ∧ w' = w := by
  go_enter Tryz.func198, Tryz.ntmps198
  go_wp2_with (fail)
  refine wp_loop_rounds 1 ?_
  rw [rounds_succ]
  go_wp2_with (go_at_call 219; refine (insL_none _ _ _ _).mono ?_; rintro e w' ⟨rfl, rfl⟩)
  (try simp only [Exit.inBlock, Exit.then]); refine bodyPost_ret (results_none rfl _ _ _) rfl ?_
  exact ⟨rfl, rfl⟩
theorem sortL_none (p : Option Addr) (cap : Nat) (fv : Value) (w : World) : Calls Tryz.prog 157 #[.slice p 0 cap, fv] w fun e w' => e = .returned (.tuple #[]) ∧ w' = w := by
  have hl := fun W => bitsLenS 0 W (by omega) (by omega)
  change ∀ W, Calls Tryz.prog 91 _ W _ at hl
  go_enter Tryz.func157, Tryz.ntmps157
  go_wp2_with (first | (go_at_call 91; refine (hl _).mono ?_; rintro e w' ⟨⟨l, rfl⟩, rfl⟩) | (go_at_call 198; refine (pdqL_none _ _ _ _ _).mono ?_; rintro e w' ⟨rfl, rfl⟩))
  go_end0
  exact ⟨rfl, rfl⟩
def rkLt (M : List Mb) (x y : { z : Mb // z ∈ M }) : Int := cmpI (rkN x.1.n : Int) (rkN y.1.n : Int)
theorem rkLt_lt (M : List Mb) (x y : { z : Mb // z ∈ M }) : ltOf (rkLt M) x y = decide (rkN x.1.n < rkN y.1.n) := by
  unfold ltOf rkLt cmpI
  by_cases h1 : rkN x.1.n < rkN y.1.n
  · rw [if_pos (by omega)]; simp [h1]
  · rw [if_neg (by omega)]
    by_cases h2 : (rkN y.1.n : Int) < rkN x.1.n
    · rw [if_pos h2]; simp [h1]
    · rw [if_neg h2]; simp [h1]
theorem rkLt_swo (M : List Mb) : SWO (ltOf (rkLt M)) where
  irrefl x := by rw [rkLt_lt]; simp
  trans x y z h1 h2 := by rw [rkLt_lt] at *; simp only [decide_eq_true_eq] at *; omega
  ntrans x y z h1 h2 := by rw [rkLt_lt] at *; simp only [decide_eq_false_iff_not] at *; omega
theorem LfI.grow {w : World} {x : Nat} {L : Lf} {v : Nat → Value} (h : LfI w x L v) (n : Nat) (os : Array Obj) : LfI (grow (w.drewN n) os) x L v := by
  refine h.keep fun b hb => ?_
  rw [heap_grow_old _ _ (by exact h.foot_lt hb)]
  rfl
/-- The lives in order. -/
def Ordd (M : List Mb) (o : List Nat) : Prop := ∃ M' : List Mb, M'.Perm M ∧ M'.Pairwise (fun a b => rkN a.n ≤ rkN b.n) ∧ o = M'.map (·.x)
theorem sortL_any (B hs m : Nat) (M : List Mb) (A : Option Addr) (c : Nat) (w : World) (h : HsI w B hs m (M.map (·.x)) M) (hsz : M.length ≤ 100000) (h3 : w.heap[hs]? = some (.cells #[.map (some m), .slice A M.length c] 136 (0, 0))) (h4 : w.ownsRow B 139 1 (.slice A M.length c) M.length ((M.map (·.x)).map lfP)) (hB : B ≤ w.heap.size) :
    Calls Tryz.prog 157 #[.slice A M.length c, .func (.func 158) #[] #[]] w fun e w' => e = .returned (.tuple #[]) ∧ (∃ o, HsI w' B hs m o M ∧ Ordd M o) ∧ Below B w w' := by
  rcases own_two h4 with ⟨rfl, h0, rfl⟩ | ⟨g, rfl, hg, hlt⟩
  · have hM : M = [] := List.eq_nil_of_length_eq_zero h0
    subst hM
    refine (sortL_none none 0 _ w).mono ?_
    rintro e w' ⟨rfl, rfl⟩
    exact ⟨rfl, ⟨_, h, [], List.Perm.refl _, List.Pairwise.nil, rfl⟩, Below.refl _ _⟩
  · by_cases h0 : M = []
    · subst h0
      refine (sortL_none _ c _ w).mono ?_
      rintro e w' ⟨rfl, rfl⟩
      exact ⟨rfl, ⟨_, h, [], List.Perm.refl _, List.Pairwise.nil, rfl⟩, Below.refl _ _⟩
    · obtain ⟨y0, M0, hM0⟩ := List.exists_cons_of_ne_nil h0
      haveI : Inhabited { z : Mb // z ∈ M } := ⟨⟨y0, by rw [hM0]; exact List.mem_cons_self⟩⟩
      have eg : ∀ args w, (callFunc 158 args).run Tryz.prog w = .ok (.enter 158 args) w := enters_of Tryz.func158 (by kernel_rfl) rfl
      let enc : { z : Mb // z ∈ M } → Value := fun z => lfP z.1.x
      have hone : OneCell enc := fun x => rfl
      have e1 : M.attach.map enc = (M.map (·.x)).map lfP := by simp [enc]
      have ho : w.ownsRow B 139 1 (.slice (some ⟨g, 0, none⟩) M.length c) M.length (M.attach.map enc) := e1 ▸ h4
      have hcmp : CmpLays1 Tryz.prog 158 #[] enc (rkLt M) g 0 M.attach.toArray.size w := by
        intro k os dk _ x y
        have hgr := grown_sorted1 (enc := enc) (w := w) (g := g) (q := k) (os := os) dk
        have hne : ∀ z ∈ M, ∀ b, lfFoot z.x z.v b → (sortWorld enc w g 0 k dk os).heap[b]? = w.heap[b]? := fun z hz b hb =>
          hgr.block b ((h.each z hz).1.foot_lt hb) (fun e => (h.off (h.each z hz).1 hb).2.2 _ c h3 h4 b (by rw [e]; rfl) rfl)
        obtain ⟨a1, a2, a3, a4⟩ := h.each x.1 x.2
        obtain ⟨b1, b2, b3, b4⟩ := h.each y.1 y.2
        have hx := (a1.keep (hne _ x.2)).blk
        have hy := (b1.keep (hne _ y.2)).blk
        exact nh1_grow x.1.x y.1.x x.1.n y.1.n a2 b2 _ (by rw [← a3]; exact cell_of_blk hx rfl) (by rw [← a4]; exact cell_of_blk hx rfl) (by rw [← b3]; exact cell_of_blk hy rfl) (by rw [← b4]; exact cell_of_blk hy rfl)
      have hs' := Any.slices_SortFunc layLP enc hone (rkLt M) (rkLt_swo M) 158 #[] g 0 c M.attach.toArray w eg hcmp (holds1_of_own ho (by simp)) hlt (by simp; omega)
      have hsz' : M.attach.toArray.size = M.length := by simp
      rw [hsz'] at hs'
      refine hs'.mono ?_
      rintro e w' ⟨rfl, d', q, os, hp, hsrt, rfl⟩
      rw [← hsz'] at hp hsrt
      obtain ⟨p1, p2, p3⟩ := sorted_list hp hsrt
      obtain ⟨d, rfl⟩ : ∃ d : List { z : Mb // z ∈ M }, d' = d.toArray := ⟨d'.toList, by simp⟩
      replace p1 : d.Perm M.attach := by simpa using p1
      replace p3 : d.Pairwise (fun x y => rkN x.1.n ≤ rkN y.1.n) := (show d.Pairwise _ from by simpa using p3).imp fun {x y} hxy => by
        rw [rkLt_lt] at hxy
        simpa using hxy
      have hdl : d.length = M.length := by rw [p1.length_eq]; simp
      have hgr := grown_sorted1 (enc := enc) (w := w) (g := g) (q := q) (os := os) d.toArray
      have hok := own_sorted1 ho hdl q os
      have e2 : d.map enc = (d.map (·.1.x)).map lfP := by simp [enc]
      rw [e2] at hok
      have pm : (d.map (·.1)).Perm M := by
        have := p1.map (fun z : { z : Mb // z ∈ M } => z.1)
        simpa using this
      have hsg : some hs ≠ (Value.slice (some ⟨g, 0, none⟩) M.length c).ownBlock := own_ne h4 h3 (by decide)
      have hmg : m ≠ g := fun e => by
        obtain ⟨cs, hcs⟩ := own_blk h4
        rw [← e, h.map] at hcs
        cases hcs
      refine ⟨rfl, ⟨d.map (·.1.x), ⟨⟨_, c, (hgr.block hs h.len.1 hsg).trans h3, hok⟩, (hgr.block m h.len.2 (fun e => hmg (Option.some.inj e))).trans h.map, fun y hy => ?_, h.low, h.names, h.apart, ?_, h.lo⟩, d.map (·.1), pm, ?_, by simp⟩, ?_⟩
      · obtain ⟨a1, a2⟩ := h.each y hy
        exact ⟨a1.keep fun b hb => hgr.block b (a1.foot_lt hb) (fun e => (h.off a1 hb).2.2 _ c h3 h4 b (by rw [e]; rfl) rfl), a2⟩
      · have := pm.map (·.x)
        simpa using this
      · exact List.pairwise_map.2 p3
      · exact ⟨hgr.os, hgr.tape, hgr.output, hgr.size, fun b hb => hgr.block b (by omega) (fun e => by injection e with e; omega)⟩
end Go.Proofs.YtgdnedhcbjonkaaGreatDoor

/- (*alarm.house).follow by its contract. -/
namespace Go.Proofs.YtgdnedhcbjonkaaGreatDoor
open Go.RowKit

theorem follow_name (L : Lf) (s : Sg) : (followL L s).1.d = L.d ∧ (followL L s).1.r = L.r := by
  unfold followL
  repeat' split
  all_goals exact ⟨rfl, rfl⟩
theorem lkN_at (P S : List Mb) (y : Mb) (hP : ∀ z ∈ P, z.n ≠ y.n) : lkN (mbE (P ++ y :: S)) y.n = some y.x := by
  induction P with
  | nil => simp [lkN, mbE]
  | cons z P ih =>
    have h1 : z.n ≠ y.n := hP z List.mem_cons_self
    have h2 := ih fun q hq => hP q (List.mem_cons_of_mem _ hq)
    have : lkN (mbE (z :: P ++ y :: S)) y.n = lkN (mbE (P ++ y :: S)) y.n := by simp [lkN, mbE, h1]
    rw [this, h2]
theorem sg_box {w : World} {g : Nat} {s : Sg} (h : w.heap[g]? = some (sgO s)) :
    w.cell? ⟨g, 0, none⟩ = some (.int .i64 s.at_) ∧ w.cell? ⟨g, 1, none⟩ = some (.int .i64 s.kd) ∧ w.cell? ⟨g, 2, none⟩ = some (.string (aldT s.d)) ∧ w.cell? ⟨g, 3, none⟩ = some (.string (alrT s.r)) ∧ w.cell? ⟨g, 4, none⟩ = some (.string (alwT s.b)) ∧ w.cell? ⟨g, 5, none⟩ = some (.int .i64 s.un) :=
  ⟨cell_of_blk h rfl, cell_of_blk h rfl, cell_of_blk h rfl, cell_of_blk h rfl, cell_of_blk h rfl, cell_of_blk h rfl⟩
set_option maxRecDepth 100000 in
set_option maxHeartbeats 2000000 in
theorem hfollow_gr (hs m B k : Nat) (o : List Nat) (P S : List Mb) (y : Mb) (s : Sg) (w : World) (h : HsI w B hs m o (P ++ y :: S)) (hP : ∀ z ∈ P, z.n ≠ y.n) (hy : y.n = (s.d, s.r)) (hB : B ≤ w.heap.size) (hL : LfOk y.L k) (hk : k ≤ 100000) (hkd : 1 ≤ s.kd ∧ s.kd ≤ 5) (h1 : 0 ≤ s.at_) (h2 : s.at_ < alEnd) :
    Calls Tryz.prog 101 #[.pointer (some ⟨hs, 0, none⟩), sgV s] w fun e w' => e = .returned (.int .i64 (followL y.L s).2) ∧ (∃ v', HsI w' B hs m o (P ++ { y with L := (followL y.L s).1, v := v' } :: S)) ∧ Below B w w' ∧ GrF w w' (lfFoot y.x y.v) := by
  have hyM : y ∈ P ++ y :: S := by simp
  obtain ⟨g1, g2, g3, g4⟩ := h.each y hyM
  have hb1 : Below w.heap.size w (w.alloc (sgO s)) := (Below.refl _ _).alloc (Nat.le_refl _) _
  have hnw := heap_new w (sgO s)
  have hw1 := hb1.size
  have HH := Lib.hid (fun (V : World) (hV : Below w.heap.size w V) => h.below hV)
  have HLK := Lib.hid (fun (V : World) (hV : Below w.heap.size w V) => show (Instr.lookup 133 (.map (some m)) (.agg #[.string (aldT s.d), .string (alrT s.r)]) false).run Tryz.prog V = .ok (.pointer (some ⟨y.x, 0, none⟩)) V from by
    have hl := lookup_names (n := y.n) g2 (w := V) (m := m) (l := mbE (P ++ y :: S)) (fun p hp => by
      simp only [mbE, List.mem_map] at hp
      obtain ⟨z, hz, rfl⟩ := hp
      exact (h.each z hz).2.1) (by have := (h.below hV).map; simpa [mbE] using this)
    rw [lkN_at P S y hP, hy] at hl
    exact hl)
  have HF := Lib.hid (fun (V : World) (hV : Below w.heap.size w V) => follow_any y.x k s y.L y.v V (g1.below hV) hL hk hkd h1 h2)
  have HNM := Lib.hid (follow_name y.L s)
  obtain ⟨A, c, hbk, _⟩ := h.blk
  have hc0 := cell_of_blk (j := 0) hbk rfl
  have hll := h.len.1
  have hgl : w.heap.size < (w.alloc (sgO s)).heap.size := by simp
  have HQ := Lib.hid (fun (V : World) (hV : Below (w.alloc (sgO s)).heap.size (w.alloc (sgO s)) V) => show V.cell? ⟨hs, 0, none⟩ = some (.map (some m)) ∧ (Instr.lookup 133 (.map (some m)) (.agg #[.string (aldT s.d), .string (alrT s.r)]) false).run Tryz.prog V = .ok (.pointer (some ⟨y.x, 0, none⟩)) V ∧
      V.cell? ⟨w.heap.size, 0, none⟩ = some (.int .i64 s.at_) ∧ V.cell? ⟨w.heap.size, 1, none⟩ = some (.int .i64 s.kd) ∧ V.cell? ⟨w.heap.size, 2, none⟩ = some (.string (aldT s.d)) ∧ V.cell? ⟨w.heap.size, 3, none⟩ = some (.string (alrT s.r)) ∧ V.cell? ⟨w.heap.size, 4, none⟩ = some (.string (alwT s.b)) ∧ V.cell? ⟨w.heap.size, 5, none⟩ = some (.int .i64 s.un) from
    ⟨((hb1.trans (hV.mono hw1)).cell (p := ⟨hs, 0, none⟩) hll).trans hc0, HLK.out V (hb1.trans (hV.mono hw1)), sg_box ((hV.block w.heap.size hgl).trans hnw)⟩)
  have HB1 := Lib.hid (And.intro hb1 hw1)
  have HFT := Lib.hid (fun (V w' : World) (v' : Nat → Value) (hV : Below w.heap.size w V) (hi : LfI w' y.x (followL y.L s).1 v') (hg : LfGo V w' y.x y.v v') => show (∃ v', HsI w' B hs m o (P ++ { y with L := (followL y.L s).1, v := v' } :: S)) ∧ Below B w w' ∧ GrF w w' (lfFoot y.x y.v) from
    ⟨⟨v', (h.below hV).step (Nat.le_trans hB hV.size) hi hg HNM.out.1 HNM.out.2⟩, (hV.mono hB).trans (hg.gr.below (fun b _ hb => h.low y hyM b hb) (Nat.le_trans hB hV.size)), (GrF.of_below hV _ (fun b h1 h2 => by omega)).trans hg.gr⟩)
  clear h g1 g2 g3 g4 hnw hb1 hw1 hbk hc0 hll hgl hL h1 h2 hkd hP hyM
  unfold sgV
  unfold sgO at *
  go_enter Tryz.func101, Tryz.ntmps101
  go_upto_region 1 with (fail)
  refine qRegionTail 11 (by kernel_rfl) (by kernel_rfl) ?_
  simp only [List.take_succ_cons, List.take_zero, List.drop_succ_cons, List.drop_zero]
  repeat (first
    | (go_big_quiet_want; refine qVal (fun V hV => (by (obtain ⟨q0, q1, q2, q3, q4, q5, q6, q7⟩ := HQ.out V hV; go_simp; try rfl))) ?_; simp only [Act.put, List.setIfInBounds_toArray, List.set_cons_zero, List.set_cons_succ]; go_big_quiet_on)
    | go_big_quiet_skip)
  refine wpQuiet_nil ?_
  intro V hV
  have hVw := HB1.out.1.trans (hV.mono HB1.out.2)
  have HF2 := Lib.hid (And.intro (HF.out V hVw) hVw)
  clear hV hVw HB1 HQ
  go_wp2_with (fail)
  refine HF2.out.1.mono ?_
  rintro e w' ⟨rfl, v', hi, hg⟩
  have HR := Lib.hid (HFT.out V w' v' HF2.out.2 hi hg)
  clear hi hg
  go_wp2_with (fail)
  go_ret
  exact ⟨rfl, HR.out⟩
theorem hfollow_any (hs m B k : Nat) (o : List Nat) (P S : List Mb) (y : Mb) (s : Sg) (w : World) (h : HsI w B hs m o (P ++ y :: S)) (hP : ∀ z ∈ P, z.n ≠ y.n) (hy : y.n = (s.d, s.r)) (hB : B ≤ w.heap.size) (hL : LfOk y.L k) (hk : k ≤ 100000) (hkd : 1 ≤ s.kd ∧ s.kd ≤ 5) (h1 : 0 ≤ s.at_) (h2 : s.at_ < alEnd) :
    Calls Tryz.prog 101 #[.pointer (some ⟨hs, 0, none⟩), sgV s] w fun e w' => e = .returned (.int .i64 (followL y.L s).2) ∧ (∃ v', HsI w' B hs m o (P ++ { y with L := (followL y.L s).1, v := v' } :: S)) ∧ Below B w w' :=
  (hfollow_gr hs m B k o P S y s w h hP hy hB hL hk hkd h1 h2).mono fun _ _ h => ⟨h.1, h.2.1, h.2.2.1⟩
end Go.Proofs.YtgdnedhcbjonkaaGreatDoor

/- alarm.newHouse by its contract. -/
namespace Go.Proofs.YtgdnedhcbjonkaaGreatDoor
open Go.RowKit Go.Shelf

def addN (ns : List Nm2) (n : Nm2) : List Nm2 := if n ∈ ns then ns else ns ++ [n]
/-- The names of signals, each once, in the order in which they come up. -/
def namesOf (l : List Sg) : List Nm2 := l.foldl (fun ns s => addN ns (s.d, s.r)) []
theorem namesOf_snoc (l : List Sg) (s : Sg) : namesOf (l ++ [s]) = addN (namesOf l) (s.d, s.r) := by simp [namesOf]
theorem Tryz.infoLfP : (Tryz.prog.info? 139).map (fun i => (i.zero, i.size, i.bytes)) = some (some (.pointer none), 1, 8) := by kernel_rfl
def mkMb (n : Nm2) (x : Nat) : Mb := ⟨n, x, newL n.1 n.2, fun _ => .slice none 0 0⟩
theorem newLf_blk (n : Nm2) (x : Nat) : lfCells (mkMb n x).L (mkMb n x).v = #[.string (aldT n.1), .string (alrT n.2), .int .i64 0, .int .i64 0, .slice none 0 0, .int .i64 0, .slice none 0 0, .slice none 0 0, .slice none 0 0, .slice none 0 0, .slice none 0 0] := rfl
theorem newLf {w : World} {x : Nat} (n : Nm2) (h : w.heap[x]? = some (.cells #[.string (aldT n.1), .string (alrT n.2), .int .i64 0, .int .i64 0, .slice none 0 0, .int .i64 0, .slice none 0 0, .slice none 0 0, .slice none 0 0, .slice none 0 0, .slice none 0 0] 145)) : LfI w x (newL n.1 n.2) (mkMb n x).v := by
  refine ⟨by rw [h]; rfl, fun m hm => ?_, fun m m' _ _ _ q hq => by cases hq⟩
  match m, hm with
  | 0, _ => exact World.ownsRow_nil _ _ _ _
  | 1, _ => exact World.ownsRow_nil _ _ _ _
  | 2, _ => exact World.ownsRow_nil _ _ _ _
  | 3, _ => exact World.ownsRow_nil _ _ _ _
  | 4, _ => exact World.ownsRow_nil _ _ _ _
  | 5, _ => exact World.ownsRow_nil _ _ _ _
theorem newFoot {n : Nm2} {x b : Nat} (h : lfFoot x (mkMb n x).v b) : b = x := by
  rcases h with h | ⟨m, hm, h⟩
  · exact h
  · cases h
/-- A house that has one more life, a new one. -/
theorem HsI.more {w w' : World} {B hs m x : Nat} {M : List Mb} {n : Nm2} {A : Option Addr} {c : Nat} (h : HsI w B hs m (M.map (·.x)) M) (hn : NmOk n) (hnew : n ∉ M.map (·.n)) (hx : w.heap.size ≤ x) (hB : B ≤ w.heap.size)
    (hl : w'.heap[x]? = some (.cells #[.string (aldT n.1), .string (alrT n.2), .int .i64 0, .int .i64 0, .slice none 0 0, .int .i64 0, .slice none 0 0, .slice none 0 0, .slice none 0 0, .slice none 0 0, .slice none 0 0] 145))
    (hb : w'.heap[hs]? = some (.cells #[.map (some m), .slice A (M.length + 1) c] 136 (0, 0))) (ho : w'.ownsRow B 139 1 (.slice A (M.length + 1) c) (M.length + 1) ((M.map (·.x)).map lfP ++ [lfP x]))
    (hm : w'.heap[m]? = some (.map (mEf 0 (mbE M ++ [(n, x)])).toArray (mbE M ++ [(n, x)]).length)) (hk : ∀ y ∈ M, ∀ b, lfFoot y.x y.v b → w'.heap[b]? = w.heap[b]?) : HsI w' B hs m ((M ++ [mkMb n x]).map (·.x)) (M ++ [mkMb n x]) := by
  have hmb : mbE (M ++ [mkMb n x]) = mbE M ++ [(n, x)] := by simp [mbE, mkMb]
  have hlen : (mbE M ++ [(n, x)]).length = M.length + 1 := by simp [mbE]
  refine ⟨⟨A, c, by simpa using hb, by simpa [mkMb] using ho⟩, ?_, fun y hy => ?_, fun y hy b hf => ?_, ?_, ?_, List.Perm.refl _, h.lo⟩
  · rw [hmb, hm, hlen]; simp
  · rcases List.mem_append.1 hy with hy | hy
    · obtain ⟨a1, a2⟩ := h.each y hy
      exact ⟨a1.keep (hk y hy), a2⟩
    · rw [List.mem_singleton.1 hy]
      exact ⟨newLf n hl, hn, rfl, rfl⟩
  · rcases List.mem_append.1 hy with hy | hy
    · exact h.low y hy b hf
    · rw [List.mem_singleton.1 hy] at hf
      rw [newFoot hf]
      show B ≤ x
      omega
  · refine List.pairwise_append.2 ⟨h.names, List.pairwise_singleton _ _, fun a ha b hb => ?_⟩
    rw [List.mem_singleton.1 hb]
    exact fun e => hnew (List.mem_map.2 ⟨a, ha, e⟩)
  · refine List.pairwise_append.2 ⟨h.apart, List.pairwise_singleton _ _, fun a ha b hb q h1 h2 => ?_⟩
    rw [List.mem_singleton.1 hb] at h2
    rw [newFoot h2] at h1
    have := (h.each a ha).1.foot_lt h1
    have e : (mkMb n x).x = x := rfl
    omega
theorem two_all (w : World) (A B : Obj) : ((w.alloc A).alloc B).heap[w.heap.size + 1]? = some B ∧ Below w.heap.size w ((w.alloc A).alloc B) := by
  have e1 : (w.alloc A).heap.size = w.heap.size + 1 := by simp
  exact ⟨e1 ▸ heap_new (w.alloc A) B, ((Below.refl _ w).alloc (Nat.le_refl _) A).alloc (by simp) B⟩
theorem onePt (x : Nat) : ∀ u ∈ [lfP x], u.oneCell' = true := by
  intro u hu
  rw [List.mem_singleton] at hu
  subst hu
  rfl
def HouseP (w : World) (l : List Sg) (F : Nm2 → Lf) (e : Ending) (w' : World) : Prop :=
  ∃ hs m o M, e = .returned (.pointer (some ⟨hs, 0, none⟩)) ∧ HsI w' w.heap.size hs m o M ∧ Ordd M o ∧ M.map (·.n) = namesOf l ∧ (∀ y ∈ M, y.L = F y.n) ∧ Below w.heap.size w w'
theorem HsI.zero {w V : World} {hs : Nat} (hb : V.heap[w.heap.size]? = some (.map #[] 0)) (hh : V.heap[hs]? = some (.cells #[.map (some w.heap.size), .slice none 0 0] 136 (0, 0))) (hl : w.heap.size ≤ hs) : HsI V w.heap.size hs w.heap.size [] [] :=
  ⟨⟨none, 0, hh, World.ownsRow_nil _ _ _ _⟩, hb, (fun y hy => by cases hy), (fun y hy => by cases hy), List.Pairwise.nil, List.Pairwise.nil, List.Perm.refl _, hl, Nat.le_refl _⟩
theorem house_put {w U T X w9 Y : World} {hs x q c1 c9 : Nat} {A1 A9 : Option Addr} {M : List Mb} {n : Nm2} {ob2 : Obj} (eY : Y = w9.setCell ⟨hs, 1, none⟩ (.slice A9 (q + 1) c9)) (hq : M.length = q) (hn : NmOk n) (hnew : n ∉ M.map (·.n)) (hxe : U.heap.size = x)
    (hU : HsI U w.heap.size hs w.heap.size (M.map (·.x)) M) (hT : HsI T w.heap.size hs w.heap.size (M.map (·.x)) M) (hUT : Below U.heap.size U T)
    (hTx : T.heap[x]? = some (.cells #[.string (aldT n.1), .string (alrT n.2), .int .i64 0, .int .i64 0, .slice none 0 0, .int .i64 0, .slice none 0 0, .slice none 0 0, .slice none 0 0, .slice none 0 0, .slice none 0 0] 145))
    (hob : ob2 = Obj.map (mEf 0 (mbE M ++ [(n, x)])).toArray (mbE M ++ [(n, x)]).length)
    (hX : (∀ k, k ≠ w.heap.size → X.heap[k]? = T.heap[k]?) ∧ X.heap.size = T.heap.size ∧ X.heap[w.heap.size]? = some ob2 ∧ (X.os = T.os ∧ X.tape = T.tape ∧ X.output = T.output) ∧ hs ≠ w.heap.size ∧ x ≠ w.heap.size ∧ X.heap[hs]? = some (.cells #[.map (some w.heap.size), .slice A1 M.length c1] 136 (0, 0)) ∧ X.ownsRow w.heap.size 139 1 (.slice A1 M.length c1) M.length ((M.map (·.x)).map lfP))
    (hXO : X.ownsRow w.heap.size 139 1 (.slice A1 q c1) q ((M.map (·.x)).map lfP))
    (h9 : w9.ownsRow w.heap.size 139 1 (.slice A9 (q + 1) c9) (q + 1) ((M.map (·.x)).map lfP ++ [lfP x]) ∧ X.grownBy w9 (Value.slice A1 q c1).ownBlock ∧ w9.heap[hs]? = some (.cells #[.map (some w.heap.size), .slice A1 M.length c1] 136 (0, 0)))
    (hwU : Below w.heap.size w U) : HsI Y w.heap.size hs w.heap.size ((M ++ [mkMb n x]).map (·.x)) (M ++ [mkMb n x]) ∧ Below w.heap.size w Y := by
  obtain ⟨x1, x2, x3, ⟨x4, x5, x6⟩, x7, x8, x9, x10⟩ := hX
  obtain ⟨k1, k2, k3⟩ := h9
  have hobn : ∀ {cs : Array Value} {t : TypeId} {k : Nat}, X.heap[k]? = some (.cells cs t (0, 0)) → t ≠ 139 → some k ≠ (Value.slice A1 q c1).ownBlock := fun h1 h2 => own_ne hXO h1 (Ne.symm h2)
  have hmob : some w.heap.size ≠ (Value.slice A1 q c1).ownBlock := fun e => by
    rcases hXO.2 with ⟨hv, _⟩ | ⟨g', cap', cur, hv, _, hh, _⟩
    · rw [hv] at e; cases e
    · rw [hv] at e
      obtain rfl : w.heap.size = g' := by simpa [Value.ownBlock] using e
      rw [x3, hob] at hh
      cases hh
  have hset : ∀ k, k ≠ hs → Y.heap[k]? = w9.heap[k]? := fun k hk => by rw [eY]; exact Below.heap_setCell _ _ _ _ hk
  have hhsX : hs < X.heap.size := (Array.getElem?_eq_some_iff.1 x9).1
  have hTX := hT.len
  have hxT : x < X.heap.size := by rw [x2]; exact (Array.getElem?_eq_some_iff.1 hTx).1
  have hXx := (x1 x x8).trans hTx
  have hxhs : x ≠ hs := fun e => by
    rw [e, x9] at hXx
    injection hXx with hXx
    injection hXx with _ hXx _
    exact absurd hXx (by decide)
  have hUlen := hU.len
  have hsUx : hs < x := by omega
  refine ⟨HsI.more hU hn hnew (by omega) hwU.size ?_ ?_ ?_ ?_ ?_ (A := A9) (c := c9), ?_⟩
  · rw [hset x hxhs, k2.block x hxT (hobn hXx (by decide)), hXx]
  · rw [eY, heap_setCell_blk _ k3, hq]; rfl
  · rw [hq]
    refine own_keptB k1 fun b hb => hset b fun e => ?_
    have : some hs ≠ (Value.slice A9 (q + 1) c9).ownBlock := own_ne k1 k3 (by decide)
    exact this (by rw [hb, e])
  · rw [hset _ (Ne.symm x7), k2.block _ (by rw [x2]; exact hTX.2) hmob, x3, hob]
  · intro y hy b hb
    obtain ⟨a1, _⟩ := hU.each y hy
    obtain ⟨b1, _⟩ := hT.each y hy
    have hbl := a1.foot_lt hb
    obtain ⟨o1, o2, _⟩ := hU.off a1 hb
    obtain ⟨cs, t, f, hcs, ht⟩ := foot_cells b1 hb
    have hbX : X.heap[b]? = T.heap[b]? := x1 b o2
    have hob' : some b ≠ (Value.slice A1 q c1).ownBlock := fun e => by
      rcases hXO.2 with ⟨hv, _⟩ | ⟨g', cap', cur, hv, _, hh, _⟩
      · rw [hv] at e; cases e
      · rw [hv] at e
        obtain rfl : b = g' := by simpa [Value.ownBlock] using e
        rw [hbX, hcs] at hh
        injection hh with hh
        injection hh with _ hh _
        exact (ty_house ht).2 hh
    have hTs := hUT.size
    rw [hset b o1, k2.block b (by omega) hob', hbX]
    exact hUT.block b hbl
  · refine ⟨?_, ?_, ?_, ?_, fun b hb => ?_⟩
    · rw [eY]; exact (k2.os.trans x4).trans (hUT.os.trans hwU.os)
    · rw [eY]; exact (k2.tape.trans x5).trans (hUT.tape.trans hwU.tape)
    · rw [eY]; exact (k2.output.trans x6).trans (hUT.output.trans hwU.output)
    · rw [eY]
      have := k2.size
      have := hUT.size
      have := hwU.size
      simp only [World.setCell, Array.size_modify]
      omega
    · have hlo := hT.lo
      have := hUT.size
      have := hwU.size
      rw [hset b (by omega), k2.block b (by omega) (fun e => by have := (hXO.lt b e.symm).1; omega), x1 b (by omega), hUT.block b (by omega)]
      exact hwU.block b hb
set_option maxRecDepth 100000 in
set_option maxHeartbeats 4000000 in
theorem newHouse_any (l : List Sg) (n c : Nat) (A : Option Addr) (w : World) (hn : l.length = n) (hn2 : n ≤ 10000) (hr : Row w w.heap.size A (recs sgC l)) (hok : ∀ s ∈ l, NmOk (s.d, s.r)) :
    Calls Tryz.prog 100 #[.slice A n c] w fun e w' => HouseP w l (fun n => newL n.1 n.2) e w' := by
  have hmm := @run_makeMap Tryz.prog
  obtain ⟨i0, hi0, hz0, hz1, hz2⟩ := info_parts Tryz.infoLfP
  have HN := Lib.hid hn
  have HR := Lib.hid hr
  have HOK := Lib.hid hok
  clear hn hr hok
  go_enter Tryz.func100, Tryz.ntmps100
  go_wp2_with (fail)
  obtain ⟨V0, eV⟩ : ∃ V : World, V = (w.alloc (.map #[] 0)).alloc (.cells #[.map (some w.heap.size), .slice none 0 0] 136) := ⟨_, rfl⟩
  rw [← eV]
  have h0 : HsI V0 w.heap.size (w.heap.size + 1) w.heap.size [] [] ∧ Below w.heap.size w V0 := by
    subst eV
    have e1 : (w.alloc (.map #[] 0)).heap.size = w.heap.size + 1 := by simp
    exact ⟨HsI.zero ((((Below.refl (w.heap.size + 1) (w.alloc (.map #[] 0))).alloc (by simp) _).block _ (by omega)).trans (heap_new w _)) (e1 ▸ heap_new (w.alloc (.map #[] 0)) _) (by omega), ((Below.refl _ w).alloc (Nat.le_refl _) _).alloc (by simp) _⟩
  have H0 := Lib.hid h0
  clear h0 eV
  generalize hge : w.heap.size + 1 = hs at H0 ⊢
  clear hge
  go_loopw [13] (fun s wr => ∃ (i : Nat) (M : List Mb), i ≤ n ∧ s = .int .i64 (i : Int) ∧ HsI wr w.heap.size hs w.heap.size (M.map (·.x)) M ∧ M.map (·.n) = namesOf (l.take i) ∧ (∀ y ∈ M, y.L = newL y.n.1 y.n.2) ∧ M.length ≤ i ∧ Below w.heap.size w wr) (fun s _ => n - (intOf s).toNat)
  case atStart => exact ⟨0, [], Nat.zero_le _, rfl, H0.out.1, by simp [namesOf], (by simp), Nat.le_refl _, H0.out.2⟩
  case round =>
    obtain ⟨i, M, hin, rfl, hI, hnm, hL, hMl, hbr⟩ := hrel
    have hbs := hbr.size
    by_cases hlt : i < n
    · obtain ⟨s, hs'⟩ : ∃ s, l[i]? = some s := ⟨_, List.getElem?_eq_getElem (by have := HN.out; omega)⟩
      obtain ⟨b, ob, hA, hb, hcs⟩ := HR.out.posR sgC_len (by omega) (by have := HN.out; omega)
      subst hA
      have hcc := fun j u hj => (hbr.cell (p := ⟨b, ob + i * 6 + j, none⟩) hb).trans (rec_cell sgC_len hcs i s hs' j u hj)
      have d0 := hcc 0 _ rfl
      have d1 := hcc 1 _ rfl
      have d2 := hcc 2 _ rfl
      have d3 := hcc 3 _ rfl
      have d4 := hcc 4 _ rfl
      have d5 := hcc 5 _ rfl
      simp only [Nat.add_zero] at d0
      have hsn := HOK.out s (List.mem_of_getElem? hs')
      have HS := Lib.hid (And.intro hs' hsn)
      have hbw : b < wr.heap.size := by omega
      have hltI : (i : Int) < (n : Int) := by omega
      have HI := Lib.hid (And.intro hI (And.intro hnm (And.intro hL (And.intro hMl hbr))))
      clear hcc hcs hs' hsn hI hnm hL hMl hbr
      have hV := two_all wr (.cells #[.int .i64 s.at_, .int .i64 s.kd, .string (aldT s.d), .string (alrT s.r), .string (alwT s.b), .int .i64 s.un] 47) (.cells #[.string (aldT s.d), .string (alrT s.r)] 142)
      go_upto_region 6 with (fail)
      obtain ⟨V, eV⟩ : ∃ V : World, V = (wr.alloc (.cells #[.int .i64 s.at_, .int .i64 s.kd, .string (aldT s.d), .string (alrT s.r), .string (alwT s.b), .int .i64 s.un] 47)).alloc (.cells #[.string (aldT s.d), .string (alrT s.r)] 142) := ⟨_, rfl⟩
      rw [← eV] at hV ⊢
      clear eV d0 d1 d2 d3 d4 d5 hbw
      obtain ⟨hVn, hVb⟩ := hV
      have hgn : wr.heap.size + 1 < V.heap.size := (Array.getElem?_eq_some_iff.1 hVn).1
      have HVH := Lib.hid (HI.out.1.below hVb)
      have hhs := HVH.out.len.1
      obtain ⟨A0, c0, hbk, _⟩ := HVH.out.blk
      have hc0 := cell_of_blk (j := 0) hbk rfl
      have HVB := Lib.hid (And.intro hVb (HI.out.2.2.2.2.trans (hVb.mono hbs)))
      generalize hge : wr.heap.size + 1 = gn at hVn hgn ⊢
      have HGE := Lib.hid hge
      have HQ := Lib.hid (fun (U : World) (hU : Below V.heap.size V U) => show U.cell? ⟨hs, 0, none⟩ = some (.map (some w.heap.size)) ∧ U.cell? ⟨gn, 0, none⟩ = some (.string (aldT s.d)) ∧ U.cell? ⟨gn, 1, none⟩ = some (.string (alrT s.r)) ∧ (Instr.lookup 133 (.map (some w.heap.size)) (.agg #[.string (aldT s.d), .string (alrT s.r)]) false).run Tryz.prog U = .ok (ptrO (lkN (mbE M) (s.d, s.r))) U from
        ⟨(hU.cell (p := ⟨hs, 0, none⟩) hhs).trans hc0, cell_of_blk (j := 0) ((hU.block gn hgn).trans hVn) rfl, cell_of_blk (j := 1) ((hU.block gn hgn).trans hVn) rfl,
          lookup_names (n := (s.d, s.r)) HS.out.2 (fun p hp => by
            simp only [mbE, List.mem_map] at hp
            obtain ⟨z, hz, rfl⟩ := hp
            exact (HI.out.1.each z hz).2.1) (by have := (HVH.out.below hU).map; simpa [mbE] using this)⟩)
      have HVN := Lib.hid hVn
      have HTK := Lib.hid (show namesOf (l.take (i + 1)) = addN (M.map (·.n)) (s.d, s.r) from by
        rw [List.take_add_one, HS.out.1, HI.out.2.1]
        exact namesOf_snoc _ _)
      clear hVb hVn hge hbk hc0
      cases hlk : lkN (mbE M) (s.d, s.r) with
      | some x =>
        rw [hlk] at HQ
        unfold ptrO lfP at HQ
        have HIN := Lib.hid (show (s.d, s.r) ∈ M.map (·.n) from by
          by_cases h : (s.d, s.r) ∈ M.map (·.n)
          · exact h
          · rw [lkN_none.2 h] at hlk; cases hlk)
        clear hlk
        go_upto_region 6 with (fail)
        refine qRegion (by kernel_rfl) (by kernel_rfl) ?_
        repeat (first
          | (go_big_quiet_want; refine qVal (fun V hV => (by (obtain ⟨q0, q1, q2, q3⟩ := HQ.out V hV; go_simp; try rfl))) ?_; simp only [Act.put, List.setIfInBounds_toArray, List.set_cons_zero, List.set_cons_succ]; go_big_quiet_on)
          | go_big_quiet_skip)
        refine wpQuiet_nil ?_
        intro U hU
        have HU := Lib.hid hU
        clear hU
        go_wp2_with (fail)
        go_roundw
        case rel => exact ⟨i + 1, M, by omega, by go_num, HVH.out.below HU.out, by rw [HTK.out]; unfold addN; rw [if_pos HIN.out], HI.out.2.2.1, by have := HI.out.2.2.2.1; omega, HVB.out.2.trans (HU.out.mono HVB.out.2.size)⟩
        case measure => simp [intOf]; omega
      | none =>
        rw [hlk] at HQ
        unfold ptrO at HQ
        have HIN := Lib.hid hlk
        clear hlk
        go_upto_region 6 with (fail)
        refine qRegion (by kernel_rfl) (by kernel_rfl) ?_
        repeat (first
          | (go_big_quiet_want; refine qVal (fun V hV => (by (obtain ⟨q0, q1, q2, q3⟩ := HQ.out V hV; go_simp; try rfl))) ?_; simp only [Act.put, List.setIfInBounds_toArray, List.set_cons_zero, List.set_cons_succ]; go_big_quiet_on)
          | go_big_quiet_skip)
        refine wpQuiet_nil ?_
        intro U hU
        have HU := Lib.hid hU
        have hgnU : gn < U.heap.size := Nat.lt_of_lt_of_le hgn hU.size
        have n0 := cell_of_blk (j := 0) ((hU.block gn hgn).trans HVN.out) rfl
        have n1 := cell_of_blk (j := 1) ((hU.block gn hgn).trans HVN.out) rfl
        have hWb : Below U.heap.size U (U.alloc (.cells #[.string (aldT s.d), .string (alrT s.r), .int .i64 0, .int .i64 0, .slice none 0 0, .int .i64 0, .slice none 0 0, .slice none 0 0, .slice none 0 0, .slice none 0 0, .slice none 0 0] 145)) := (Below.refl _ _).alloc (Nat.le_refl _) _
        have hWx := heap_new U (.cells #[.string (aldT s.d), .string (alrT s.r), .int .i64 0, .int .i64 0, .slice none 0 0, .int .i64 0, .slice none 0 0, .slice none 0 0, .slice none 0 0, .slice none 0 0, .slice none 0 0] 145)
        go_upto_region 8 with (fail)
        obtain ⟨W, eW⟩ : ∃ W : World, W = U.alloc (.cells #[.string (aldT s.d), .string (alrT s.r), .int .i64 0, .int .i64 0, .slice none 0 0, .int .i64 0, .slice none 0 0, .slice none 0 0, .slice none 0 0, .slice none 0 0, .slice none 0 0] 145) := ⟨_, rfl⟩
        rw [← eW] at hWb hWx ⊢
        have hVW : Below V.heap.size V W := hU.trans (hWb.mono hU.size)
        have hxW : U.heap.size < W.heap.size := (Array.getElem?_eq_some_iff.1 hWx).1
        have hhsW : hs < W.heap.size := (HVH.out.below hVW).len.1
        have hgnW : gn < W.heap.size := by omega
        have HQ8 := Lib.hid (fun (T : World) (hT : Below W.heap.size W T) => show T.cell? ⟨hs, 0, none⟩ = some (.map (some w.heap.size)) ∧ T.cell? ⟨gn, 0, none⟩ = some (.string (aldT s.d)) ∧ T.cell? ⟨gn, 1, none⟩ = some (.string (alrT s.r)) from by
          obtain ⟨r0, r1, r2, _⟩ := HQ.out T (hVW.trans (hT.mono hVW.size))
          exact ⟨r0, r1, r2⟩)
        have HW := Lib.hid (And.intro hWb (And.intro hWx (And.intro hVW hxW)))
        clear eW hU hWb hWx hVW n0 n1
        generalize hxe : U.heap.size = x at HW hxW ⊢
        have HXE := Lib.hid hxe
        clear hxe
        go_upto_region 8 with (fail)
        refine qRegionTail 6 (by kernel_rfl) (by kernel_rfl) ?_
        simp only [List.take_succ_cons, List.take_zero, List.drop_succ_cons, List.drop_zero]
        repeat (first
          | (go_big_quiet_want; refine qVal (fun V hV => (by (obtain ⟨q0, q1, q2⟩ := HQ8.out V hV; go_simp; try rfl))) ?_; simp only [Act.put, List.setIfInBounds_toArray, List.set_cons_zero, List.set_cons_succ]; go_big_quiet_on)
          | go_big_quiet_skip)
        refine wpQuiet_nil ?_
        intro T hT
        have hTb := HW.out.1.trans (hT.mono (by have := HW.out.1.size; have := HXE.out; omega))
        have hTx := (hT.block x hxW).trans HW.out.2.1
        have hHT := HVH.out.below (HW.out.2.2.1.trans (hT.mono HW.out.2.2.1.size))
        obtain ⟨A1, c1, hbk1, hown1⟩ := hHT.blk
        have hup := update_names (n := (s.d, s.r)) (w := T) (m := w.heap.size) (x := x) (l := mbE M) HS.out.2 (fun p hp => by
            simp only [mbE, List.mem_map] at hp
            obtain ⟨z, hz, rfl⟩ := hp
            exact (HI.out.1.each z hz).2.1) HIN.out (by have := hHT.map; simpa [mbE] using this)
        unfold lfP nmK nmV at hup
        simp only at hup
        have HT := Lib.hid (And.intro hTb (And.intro hTx (And.intro hHT (And.intro hbk1 (And.intro hown1 hT)))))
        have hmT := hHT.len.2
        obtain ⟨ob2, eob⟩ : ∃ ob2, ob2 = Obj.map (mEf 0 (mbE M ++ [((s.d, s.r), x)])).toArray (mbE M ++ [((s.d, s.r), x)]).length := ⟨_, rfl⟩
        rw [← eob] at hup
        have HOB := Lib.hid eob
        clear hTb hTx hHT hbk1 hown1 hT eob
        go_upto_region 9 with (fail)
        obtain ⟨X, eX⟩ : ∃ X : World, X = { heap := T.heap.setIfInBounds w.heap.size ob2, tape := T.tape, drawn := T.drawn, os := T.os, output := T.output } := ⟨_, rfl⟩
        rw [← eX]
        have hX : ∀ k, k ≠ w.heap.size → X.heap[k]? = T.heap[k]? := fun k hk => by rw [eX]; exact Array.getElem?_setIfInBounds_ne (Ne.symm hk)
        have sX : X.heap.size = T.heap.size := by rw [eX]; exact Array.size_setIfInBounds
        have mX : X.heap[w.heap.size]? = some ob2 := by rw [eX]; exact Array.getElem?_setIfInBounds_self_of_lt hmT
        have oX : X.os = T.os ∧ X.tape = T.tape ∧ X.output = T.output := by rw [eX]; exact ⟨rfl, rfl, rfl⟩
        obtain ⟨hTb, hTx, hHT, hbk1, hown1, hT⟩ := HT.out
        have hhm : hs ≠ w.heap.size := fun e => by rw [e, hHT.map] at hbk1; cases hbk1
        have hxm : x ≠ w.heap.size := fun e => by rw [e, hHT.map] at hTx; cases hTx
        have hXb := (hX hs hhm).trans hbk1
        have hXo : X.ownsRow w.heap.size 139 1 (.slice A1 M.length c1) M.length ((M.map (·.x)).map lfP) := own_keptB hown1 fun k hk => hX k fun e => by
          obtain ⟨cs, hcs⟩ : ∃ cs, T.heap[k]? = some (.cells cs 139 (0, 0)) := by
            rcases hown1.2 with ⟨hv, _⟩ | ⟨g', cap', cur, hv, _, hh, _⟩
            · rw [hv] at hk; cases hk
            · rw [hv] at hk
              obtain rfl : g' = k := by simpa [Value.ownBlock] using hk
              exact ⟨_, hh⟩
          rw [e, hHT.map] at hcs
          cases hcs
        have p1 := cell_of_blk (j := 1) hXb rfl
        have hhX : hs < X.heap.size := (Array.getElem?_eq_some_iff.1 hXb).1
        have hMl : M.length ≤ 100000 := by have := HI.out.2.2.2.1; omega
        have hUwr : U.heap.size ≤ T.heap.size := hTb.size
        have hVU := HU.out.size
        have hVwr := HVB.out.2.size
        have hwX : w.heap.size ≤ X.heap.size := by omega
        have HX := Lib.hid (And.intro hX (And.intro sX (And.intro mX (And.intro oX (And.intro hhm (And.intro hxm (And.intro hXb hXo)))))))
        obtain ⟨q, hq⟩ : ∃ q, M.length = q := ⟨_, rfl⟩
        have HLQ := Lib.hid hq
        rw [hq] at p1 hXo hMl
        have HXO := Lib.hid hXo
        clear hUwr hVU hVwr eX hX sX mX oX hTb hTx hHT hbk1 hown1 hT hhm hxm hXb hXo hq hup hmT
        go_wp2_with (at_builtin; go_loud (refine wpList_append_own2 _ rfl _ _ 134 rfl w.heap.size 139 i0 _ 1 8 Tryz.underlying134 hi0 hz0 hz1 hz2 rfl (by decide) (.slice A1 q c1) q ((M.map (·.x)).map lfP) rfl (HXO.out.alloc _) ⟨X.heap.size, 0, none⟩ 1 1 [lfP x] rfl rfl (cells_add (Cells.new _ _ _ _ _ rfl)) (onePt x) (h63A hMl) (h47A hMl) (by simp; omega) ?_))
        intro v9 w9 ho9 hg9 hm9
        obtain ⟨A9, c9, rfl⟩ := own_slice ho9
        have hg9' := grown_of_alloc hg9
        obtain ⟨hX, sX, mX, oX, hhm, hxm, hXb, _⟩ := HX.out
        have hobn : ∀ {cs : Array Value} {t : TypeId} {k : Nat}, X.heap[k]? = some (.cells cs t (0, 0)) → t ≠ 139 → some k ≠ (Value.slice A1 q c1).ownBlock := fun h1 h2 => own_ne HXO.out h1 (Ne.symm h2)
        have hb9 := (hg9'.block hs hhX (hobn hXb (by decide))).trans hXb
        have z9 := cell_of_blk (j := 1) hb9 rfl
        have f9 : w9.frozen? ⟨hs, 1, none⟩ = false := by simp [World.frozen?, hb9]
        have hl9 : hs < w9.heap.size := (Array.getElem?_eq_some_iff.1 hb9).1
        have HO9 := Lib.hid (And.intro ho9 (And.intro hg9' hb9))
        clear ho9 hg9 hm9 hg9' hobn hb9 hX sX mX oX hhm hxm hXb p1
        go_wp2_with (fail)
        obtain ⟨Y, eY⟩ : ∃ Y : World, Y = w9.setCell ⟨hs, 1, none⟩ (.slice A9 (q + 1) c9) := ⟨_, rfl⟩
        rw [← eY]
        have HF := Lib.hid (house_put (w := w) (U := U) (T := T) (X := X) (w9 := w9) (Y := Y) (hs := hs) (x := x) (q := q) (c9 := c9) (c1 := c1) (A9 := A9) (A1 := A1) (M := M) (n := (s.d, s.r)) (ob2 := ob2) eY HLQ.out HS.out.2 (lkN_none.1 HIN.out) HXE.out (HVH.out.below HU.out) HT.out.2.2.1 (by rw [HXE.out]; exact HT.out.1) HT.out.2.1 HOB.out HX.out HXO.out ⟨by rw [List.map_map]; exact HO9.out.1, HO9.out.2⟩ (HVB.out.2.trans (HU.out.mono HVB.out.2.size)))
        clear eY
        go_roundw
        case rel =>
          refine ⟨i + 1, M ++ [mkMb (s.d, s.r) x], by omega, by go_num, HF.out.1, ?_, fun y hy => ?_, by have := HI.out.2.2.2.1; simp; omega, HF.out.2⟩
          · rw [HTK.out]; unfold addN; rw [if_neg (lkN_none.1 HIN.out)]; simp [mkMb]
          · rcases List.mem_append.1 hy with hy | hy
            · exact HI.out.2.2.1 y hy
            · rw [List.mem_singleton.1 hy]; rfl
        case measure => simp [intOf]; omega
    · have hni : i = n := by omega
      subst hni
      obtain ⟨A0, c0, hbk, hown⟩ := hI.blk
      have hMl : M.length ≤ 100000 := by omega
      have h1 := cell_of_blk (j := 1) hbk rfl
      have hhs := hI.len.1
      have HS0 := Lib.hid (sortL_any w.heap.size hs w.heap.size M A0 c0 wr hI hMl hbk hown hbs)
      have HE := Lib.hid (And.intro hnm (And.intro hL hbr))
      have hltI : ¬ (i : Int) < (i : Int) := by omega
      clear hI hnm hL hbr hbk hown
      go_wp2_with (fail)
      refine HS0.out.mono ?_
      rintro e w' ⟨rfl, ⟨o, hI2, hord⟩, hb2⟩
      have HR2 := Lib.hid (And.intro hI2 (And.intro hord hb2))
      clear hI2 hord hb2
      go_wp2_with (fail)
      go_ret
      exact ⟨hs, w.heap.size, o, M, rfl, HR2.out.1, HR2.out.2.1, by rw [HE.out.1, ← HN.out, List.take_length], HE.out.2.1, HE.out.2.2.trans HR2.out.2.2⟩
end Go.Proofs.YtgdnedhcbjonkaaGreatDoor

/- alarm.at by its contract. -/
namespace Go.Proofs.YtgdnedhcbjonkaaGreatDoor
open Go.RowKit

/-- Names and lives in order. -/
def OrdE (E : List (Nm2 × Nat)) (o : List Nat) : Prop := ∃ E' : List (Nm2 × Nat), E'.Perm E ∧ E'.Pairwise (fun a b => rkN a.1 ≤ rkN b.1) ∧ o = E'.map (·.2)
theorem Ordd.toE {M : List Mb} {o : List Nat} (h : Ordd M o) : OrdE (mbE M) o := by
  obtain ⟨M', h1, h2, h3⟩ := h
  exact ⟨mbE M', h1.map _, List.pairwise_map.2 h2, by rw [h3]; simp [mbE]⟩
/-- A signal that may be followed. -/
structure SgV (s : Sg) : Prop where
  nm : NmOk (s.d, s.r)
  kd : 1 ≤ s.kd ∧ s.kd ≤ 5
  at0 : 0 ≤ s.at_
  at1 : s.at_ < alEnd
def lifeStep (t : Int) (n : Nm2) (L : Lf) (s : Sg) : Lf := if (s.d, s.r) = n ∧ s.at_ ≤ t then (followL L s).1 else L
/-- A name's life behind the signals up to a moment. -/
def lifeAt (l : List Sg) (t : Int) (n : Nm2) : Lf := l.foldl (lifeStep t n) (newL n.1 n.2)
theorem lifeAt_snoc (l : List Sg) (s : Sg) (t : Int) (n : Nm2) : lifeAt (l ++ [s]) t n = lifeStep t n (lifeAt l t n) s := by simp [lifeAt]
theorem lifeAt_ok (t : Int) (n : Nm2) (l : List Sg) (h : ∀ s ∈ l, SgV s) : LfOk (lifeAt l t n) l.length := by
  have key : ∀ (l : List Sg) (L : Lf) (k : Nat), (∀ s ∈ l, SgV s) → LfOk L k → LfOk (l.foldl (lifeStep t n) L) (k + l.length) := by
    intro l
    induction l with
    | nil => intro L k _ hL; exact hL
    | cons s l ih =>
      intro L k h hL
      have hs := h s List.mem_cons_self
      have : LfOk (lifeStep t n L s) (k + 1) := by
        unfold lifeStep
        split
        · exact follow_ok hL hs.at0 hs.at1
        · exact hL.mono (by omega)
      have := ih _ (k + 1) (fun q hq => h q (List.mem_cons_of_mem _ hq)) this
      rw [List.foldl_cons, List.length_cons, show k + (l.length + 1) = k + 1 + l.length by omega]
      exact this
  have := key l (newL n.1 n.2) 0 h (newL_ok _ _)
  rwa [Nat.zero_add] at this
theorem mem_addN (ns : List Nm2) (n k : Nm2) : k ∈ addN ns n ↔ k ∈ ns ∨ k = n := by
  unfold addN
  split
  · rename_i h
    exact ⟨.inl, fun h' => h'.elim id (fun e => e ▸ h)⟩
  · simp
theorem mem_namesOf (l : List Sg) (k : Nm2) : k ∈ namesOf l ↔ ∃ s ∈ l, (s.d, s.r) = k := by
  have key : ∀ (l : List Sg) (ns : List Nm2), k ∈ l.foldl (fun ns s => addN ns (s.d, s.r)) ns ↔ k ∈ ns ∨ ∃ s ∈ l, (s.d, s.r) = k := by
    intro l
    induction l with
    | nil => intro ns; simp
    | cons s l ih =>
      intro ns
      rw [List.foldl_cons, ih, mem_addN]
      simp only [List.mem_cons, exists_eq_or_imp]
      rw [or_assoc, eq_comm (a := k)]
  have := key l []
  simpa [namesOf] using this
def HouseQ (w : World) (l : List Sg) (F : Nm2 → Lf) (e : Ending) (w' : World) : Prop :=
  ∃ hs m o M, e = .returned (.pointer (some ⟨hs, 0, none⟩)) ∧ HsI w' w.heap.size hs m o M ∧ OrdE (mbE M) o ∧ M.map (·.n) = namesOf l ∧ (∀ y ∈ M, y.L = F y.n) ∧ Below w.heap.size w w'
theorem mbE_step (P S : List Mb) (y : Mb) (L' : Lf) (v' : Nat → Value) : mbE (P ++ { y with L := L', v := v' } :: S) = mbE (P ++ y :: S) := by simp [mbE]
set_option maxRecDepth 100000 in
set_option maxHeartbeats 4000000 in
theorem at_any (l : List Sg) (n c : Nat) (t : Int) (A : Option Addr) (w : World) (hn : l.length = n) (hn2 : n ≤ 10000) (hr : Row w w.heap.size A (recs sgC l)) (hok : ∀ s ∈ l, SgV s) :
    Calls Tryz.prog 59 #[.slice A n c, .int .i64 t] w fun e w' => HouseQ w l (lifeAt l t) e w' := by
  have HNH := Lib.hid (newHouse_any l n c A w hn hn2 hr (fun s hs => (hok s hs).nm))
  have HN := Lib.hid hn
  have HR := Lib.hid hr
  have HOK := Lib.hid hok
  clear hn hr hok
  go_enter Tryz.func59, Tryz.ntmps59
  go_wp2_with (fail)
  refine HNH.out.mono ?_
  rintro e w1 ⟨hs, m, o, M, rfl, hI, hord, hnm, hL, hb1⟩
  have H1 := Lib.hid (And.intro hI (And.intro hord.toE (And.intro hnm (And.intro hL hb1))))
  clear hI hord hnm hL hb1 HNH
  go_wp2_with (fail)
  go_loopw [12] (fun s wr => ∃ (i : Nat) (M : List Mb), i ≤ n ∧ s = .int .i64 (i : Int) ∧ HsI wr w.heap.size hs m o M ∧ OrdE (mbE M) o ∧ M.map (·.n) = namesOf l ∧ (∀ y ∈ M, y.L = lifeAt (l.take i) t y.n) ∧ Below w.heap.size w wr) (fun s _ => n - (intOf s).toNat)
  case atStart => exact ⟨0, M, Nat.zero_le _, rfl, H1.out.1, H1.out.2.1, H1.out.2.2.1, fun y hy => by rw [H1.out.2.2.2.1 y hy]; simp [lifeAt], H1.out.2.2.2.2⟩
  case round =>
    obtain ⟨i, M, hin, rfl, hI, hord, hnm, hL, hbr⟩ := hrel
    have hbs := hbr.size
    by_cases hlt : i < n
    · obtain ⟨s, hs'⟩ : ∃ s, l[i]? = some s := ⟨_, List.getElem?_eq_getElem (by have := HN.out; omega)⟩
      obtain ⟨b, ob, hA, hb, hcs⟩ := HR.out.posR sgC_len (by omega) (by have := HN.out; omega)
      subst hA
      have hcc := fun j u hj => (hbr.cell (p := ⟨b, ob + i * 6 + j, none⟩) hb).trans (rec_cell sgC_len hcs i s hs' j u hj)
      have d0 := hcc 0 _ rfl
      have d1 := hcc 1 _ rfl
      have d2 := hcc 2 _ rfl
      have d3 := hcc 3 _ rfl
      have d4 := hcc 4 _ rfl
      have d5 := hcc 5 _ rfl
      simp only [Nat.add_zero] at d0
      have hsn := HOK.out s (List.mem_of_getElem? hs')
      have hbw : b < wr.heap.size := by omega
      have hltI : (i : Int) < (n : Int) := by omega
      have hnmE : (s.d, s.r) ∈ M.map (·.n) := by rw [hnm, mem_namesOf]; exact ⟨s, List.mem_of_getElem? hs', rfl⟩
      obtain ⟨x, hx⟩ : ∃ x, lkN (mbE M) (s.d, s.r) = some x := by
        cases h : lkN (mbE M) (s.d, s.r) with
        | some x => exact ⟨x, rfl⟩
        | none => exact absurd hnmE (lkN_none.1 h)
      obtain ⟨P, y, S, rfl, hyn, _, hPn⟩ := lkN_split hx
      have hwb : Below wr.heap.size wr (wr.alloc (sgO s)) := (Below.refl _ _).alloc (Nat.le_refl _) _
      have hyM : y ∈ P ++ y :: S := by simp
      have hyL := hL y hyM
      have htk : l.take (i + 1) = l.take i ++ [s] := by rw [List.take_add_one, hs']; rfl
      have hLk : LfOk y.L i := by
        rw [hyL]
        have := lifeAt_ok t y.n (l.take i) (fun q hq => HOK.out q (List.mem_of_mem_take hq))
        exact this.mono (by rw [List.length_take]; omega)
      have HF := Lib.hid (hfollow_any hs m w.heap.size i o P S y s _ (hI.below hwb) (fun z hz => by rw [hyn]; exact hPn z hz) hyn (Nat.le_trans hbs hwb.size) hLk (by omega) hsn.kd hsn.at0 hsn.at1)
      unfold sgV sgO at HF
      have HT := Lib.hid htk
      have HI := Lib.hid (And.intro hI (And.intro hord (And.intro hnm (And.intro hL (And.intro hbr (And.intro hwb (And.intro hyn (And.intro hyL hPn))))))))
      clear hcc hcs hs' hsn hI hord hnm hL hbr hnmE hx hwb hyM hyL hLk htk hPn
      by_cases hat : s.at_ ≤ t
      · go_wp2_with (fail)
        refine HF.out.mono ?_
        rintro e w2 ⟨rfl, ⟨v', hI2⟩, hb2⟩
        have HI2 := Lib.hid (And.intro hI2 (HI.out.2.2.2.2.1.trans ((HI.out.2.2.2.2.2.1.mono hbs).trans hb2)))
        have HAT := Lib.hid hat
        clear hI2 hb2 d0 d1 d2 d3 d4 d5 hat
        go_wp2_with (fail)
        go_roundw
        case rel =>
          refine ⟨i + 1, P ++ { y with L := (followL y.L s).1, v := v' } :: S, by omega, by go_num, HI2.out.1, by rw [mbE_step]; exact HI.out.2.1, by rw [← HI.out.2.2.1]; simp, fun z hz => ?_, HI2.out.2⟩
          have hnn := HI2.out.1.names
          rw [HT.out, lifeAt_snoc]
          unfold lifeStep
          have hyn := HI.out.2.2.2.2.2.2.1
          rcases List.mem_append.1 hz with hz | hz
          · rw [if_neg (fun h => HI.out.2.2.2.2.2.2.2.2 z hz h.1.symm)]
            exact HI.out.2.2.2.1 z (List.mem_append_left _ hz)
          · rcases List.mem_cons.1 hz with rfl | hz
            · rw [if_pos ⟨hyn.symm, HAT.out⟩]
              show (followL y.L s).1 = _
              rw [HI.out.2.2.2.2.2.2.2.1]
            · have h1 := (List.pairwise_cons.1 (List.pairwise_append.1 hnn).2.1).1 z hz
              rw [if_neg (fun h => h1 (hyn.trans h.1))]
              exact HI.out.2.2.2.1 z (List.mem_append_right _ (List.mem_cons_of_mem _ hz))
        case measure => simp [intOf]; omega
      · have HAT := Lib.hid hat
        go_wp2_with (fail)
        go_roundw
        case rel =>
          refine ⟨i + 1, P ++ y :: S, by omega, by go_num, HI.out.1.below HI.out.2.2.2.2.2.1, HI.out.2.1, HI.out.2.2.1, fun z hz => ?_, HI.out.2.2.2.2.1.trans (HI.out.2.2.2.2.2.1.mono hbs)⟩
          rw [HT.out, lifeAt_snoc]
          unfold lifeStep
          rw [if_neg (fun h => HAT.out h.2)]
          exact HI.out.2.2.2.1 z hz
        case measure => simp [intOf]; omega
    · have hni : i = n := by omega
      subst hni
      have hltI : ¬ (i : Int) < (i : Int) := by omega
      have HE := Lib.hid (And.intro hI (And.intro hord (And.intro hnm (And.intro hL hbr))))
      clear hI hord hnm hL hbr
      go_wp2_with (fail)
      go_ret
      exact ⟨hs, m, o, M, rfl, HE.out.1, HE.out.2.1, HE.out.2.2.1, fun y hy => by rw [HE.out.2.2.2.1 y hy, ← HN.out, List.take_length], HE.out.2.2.2.2⟩
end Go.Proofs.YtgdnedhcbjonkaaGreatDoor

/- (*alarm.life).view by its contract. -/
namespace Go.Proofs.YtgdnedhcbjonkaaGreatDoor
open Go.RowKit

/-- An alarm as a value. -/
structure Am where
  d : Nat
  r : Nat
  st : Int
  si : Int
  n : Int
  sh : Int
def amC (a : Am) : List Value := [.string (aldT a.d), .string (alrT a.r), .int .i64 a.st, .int .i64 a.si, .int .i64 a.n, .int .i64 a.sh]
def viewL (L : Lf) (t : Int) : Am := ⟨L.d, L.r, L.st, L.si, (L.ra.length : Int), if t < L.sh then L.sh else 0⟩
def shownA (a : Am) : Bool := decide (a.st ≠ 0) || decide (0 < a.sh)
theorem frz {w : World} {g : Nat} {cs : Array Value} {t : TypeId} (h : w.heap[g]? = some (.cells cs t (0, 0))) (j : Nat) : w.frozen? ⟨g, j, none⟩ = false := by simp [World.frozen?, h]
theorem six_set0 {w V : World} {g B : Nat} {a0 a1 a2 a3 a4 a5 : Value} {t : TypeId} (a b c d e f : Value) (hV : Below B w V) (hg : B ≤ g) (h : V.heap[g]? = some (.cells #[a0, a1, a2, a3, a4, a5] t (0, 0))) :
    Below B w ((((((V.setCell ⟨g, 0, none⟩ a).setCell ⟨g, 1, none⟩ b).setCell ⟨g, 2, none⟩ c).setCell ⟨g, 3, none⟩ d).setCell ⟨g, 4, none⟩ e).setCell ⟨g, 5, none⟩ f) ∧
      ((((((V.setCell ⟨g, 0, none⟩ a).setCell ⟨g, 1, none⟩ b).setCell ⟨g, 2, none⟩ c).setCell ⟨g, 3, none⟩ d).setCell ⟨g, 4, none⟩ e).setCell ⟨g, 5, none⟩ f).heap[g]? = some (.cells #[a, b, c, d, e, f] t (0, 0)) :=
  ⟨(((((hV.setCell (p := ⟨g, 0, none⟩) hg a).setCell (p := ⟨g, 1, none⟩) hg b).setCell (p := ⟨g, 2, none⟩) hg c).setCell (p := ⟨g, 3, none⟩) hg d).setCell (p := ⟨g, 4, none⟩) hg e).setCell (p := ⟨g, 5, none⟩) hg f,
   heap_setCell_blk f (heap_setCell_blk e (heap_setCell_blk d (heap_setCell_blk c (heap_setCell_blk b (heap_setCell_blk a h)))))⟩
theorem six_set {w V : World} {g : Nat} {a0 a1 a2 a3 a4 a5 : Value} {t : TypeId} (a b c d e f : Value) (hV : Below w.heap.size w V) (hg : w.heap.size ≤ g) (h : V.heap[g]? = some (.cells #[a0, a1, a2, a3, a4, a5] t (0, 0))) :
    Below w.heap.size w ((((((V.setCell ⟨g, 0, none⟩ a).setCell ⟨g, 1, none⟩ b).setCell ⟨g, 2, none⟩ c).setCell ⟨g, 3, none⟩ d).setCell ⟨g, 4, none⟩ e).setCell ⟨g, 5, none⟩ f) ∧
      ((((((V.setCell ⟨g, 0, none⟩ a).setCell ⟨g, 1, none⟩ b).setCell ⟨g, 2, none⟩ c).setCell ⟨g, 3, none⟩ d).setCell ⟨g, 4, none⟩ e).setCell ⟨g, 5, none⟩ f).heap[g]? = some (.cells #[a, b, c, d, e, f] t (0, 0)) :=
  ⟨(((((hV.setCell (p := ⟨g, 0, none⟩) hg a).setCell (p := ⟨g, 1, none⟩) hg b).setCell (p := ⟨g, 2, none⟩) hg c).setCell (p := ⟨g, 3, none⟩) hg d).setCell (p := ⟨g, 4, none⟩) hg e).setCell (p := ⟨g, 5, none⟩) hg f,
   heap_setCell_blk f (heap_setCell_blk e (heap_setCell_blk d (heap_setCell_blk c (heap_setCell_blk b (heap_setCell_blk a h)))))⟩
theorem box6 {w : World} {g : Nat} {a b c d e f : Value} {t : TypeId} (h : w.heap[g]? = some (.cells #[a, b, c, d, e, f] t (0, 0))) :
    w.cell? ⟨g, 0, none⟩ = some a ∧ w.cell? ⟨g, 1, none⟩ = some b ∧ w.cell? ⟨g, 2, none⟩ = some c ∧ w.cell? ⟨g, 3, none⟩ = some d ∧ w.cell? ⟨g, 4, none⟩ = some e ∧ w.cell? ⟨g, 5, none⟩ = some f :=
  ⟨cell_of_blk h rfl, cell_of_blk h rfl, cell_of_blk h rfl, cell_of_blk h rfl, cell_of_blk h rfl, cell_of_blk h rfl⟩
def ViewPost (w : World) (L : Lf) (t : Int) (e : Ending) (w' : World) : Prop := e = .returned (.tuple #[.agg (amC (viewL L t)).toArray, .bool (shownA (viewL L t))]) ∧ Below w.heap.size w w'
set_option maxRecDepth 100000 in
set_option maxHeartbeats 2000000 in
theorem view_any (x : Nat) (t : Int) (L : Lf) (v : Nat → Value) (w : World) (h : LfI w x L v) :
    Calls Tryz.prog 79 #[.pointer (some ⟨x, 0, none⟩), .int .i64 t] w fun e w' => ViewPost w L t e w' := by
  obtain ⟨A, p, hv⟩ := own_slice (h.row 0 (by omega))
  replace hv : v 0 = .slice A L.ra.length p := hv
  have hP := fun a => show ViewPost w L t = ViewPost w L a → True from fun _ => trivial
  have hb1 : Below w.heap.size w (w.alloc (.cells #[.string ⟨#[]⟩, .string ⟨#[]⟩, .int .i64 0, .int .i64 0, .int .i64 0, .int .i64 0] 99)) := (Below.refl _ _).alloc (Nat.le_refl _) _
  have hnw := heap_new w (.cells #[.string ⟨#[]⟩, .string ⟨#[]⟩, .int .i64 0, .int .i64 0, .int .i64 0, .int .i64 0] 99)
  have hlt := h.lt
  clear hP
  unfold ViewPost viewL shownA amC
  simp only
  have hbk := h.blk
  unfold lfCells at hbk
  rw [hv] at hbk
  obtain ⟨d, r, st, si, ra, sh, up, fr, as_, ak, wt⟩ := L
  simp only at hbk hv ⊢
  generalize aldT d = dd at hbk ⊢
  generalize alrT r = rr at hbk ⊢
  generalize ra.length = n at hbk ⊢
  obtain ⟨S, hS⟩ : ∃ S, S = (if t < sh then sh else 0) := ⟨_, rfl⟩
  rw [← hS]
  obtain ⟨bz, hbz⟩ : ∃ bz, bz = (decide (st ≠ 0) || decide (0 < S)) := ⟨_, rfl⟩
  rw [← hbz]
  have HSZ := Lib.hid (And.intro hS hbz)
  clear hS hbz
  have HB1 := Lib.hid (And.intro hb1 hnw)
  have hbk1 := (hb1.block x hlt).trans hbk
  go_enter Tryz.func79, Tryz.ntmps79
  go_upto_region 1 with (fail)
  obtain ⟨w1, eW⟩ : ∃ W : World, W = w.alloc (.cells #[.string ⟨#[]⟩, .string ⟨#[]⟩, .int .i64 0, .int .i64 0, .int .i64 0, .int .i64 0] 99) := ⟨_, rfl⟩
  rw [← eW] at HB1 hbk1 hb1 ⊢
  have hlt1 : x < w1.heap.size := (Array.getElem?_eq_some_iff.1 hbk1).1
  have hgl : w.heap.size < w1.heap.size := (Array.getElem?_eq_some_iff.1 HB1.out.2).1
  have HX := Lib.hid (fun (V : World) (hV : Below w1.heap.size w1 V) => (hV.block x hlt1).trans hbk1)
  have HQ := Lib.hid (fun (V : World) (hV : Below w1.heap.size w1 V) => show V.cell? ⟨x, 0, none⟩ = some (.string dd) ∧ V.cell? ⟨x, 1, none⟩ = some (.string rr) ∧ V.cell? ⟨x, 2, none⟩ = some (.int .i64 st) ∧ V.cell? ⟨x, 3, none⟩ = some (.int .i64 si) ∧ V.cell? ⟨x, 4, none⟩ = some (.slice A n p) from
    ⟨cell_of_blk (HX.out V hV) rfl, cell_of_blk (HX.out V hV) rfl, cell_of_blk (HX.out V hV) rfl, cell_of_blk (HX.out V hV) rfl, cell_of_blk (HX.out V hV) rfl⟩)
  clear hnw eW hb1 hbk1 hbk hv
  refine QM.qRegionPt 25 (.pointer (some ⟨x, 0, none⟩)) [.pointer (some ⟨x, 0, none⟩), .pointer (some ⟨x, 0, none⟩), .pointer (some ⟨x, 0, none⟩), .string dd, .pointer (some ⟨x, 0, none⟩), .pointer (some ⟨x, 0, none⟩), .pointer (some ⟨x, 0, none⟩), .pointer (some ⟨x, 1, none⟩), .string rr, .pointer (some ⟨x, 0, none⟩), .pointer (some ⟨x, 0, none⟩), .pointer (some ⟨x, 2, none⟩), .int .i64 st, .pointer (some ⟨x, 0, none⟩), .pointer (some ⟨x, 0, none⟩), .pointer (some ⟨x, 3, none⟩), .int .i64 si, .pointer (some ⟨x, 0, none⟩), .pointer (some ⟨x, 0, none⟩), .pointer (some ⟨x, 4, none⟩), .slice A n p, .int .i64 (n : Int), .agg #[.string dd, .string rr, .int .i64 st, .int .i64 si, .int .i64 (n : Int), .int .i64 0], undef]
    [none, none, none, none, none, none, none, none, none, none, none, none, none, none, none, none, none, none, none, none, none, none, none, none, some (.cells #[.string ⟨#[]⟩, .string ⟨#[]⟩, .int .i64 0, .int .i64 0, .int .i64 0, .int .i64 0] 99, fun n => .pointer (some ⟨n, 0, none⟩))] (by kernel_rfl) (by kernel_rfl) rfl (Or.inl ⟨by rfl, fun w => by go_simp⟩) (fun _ _ _ h => h) rfl rfl (by rfl) ?_ ?_
  · simp only [List.take_succ_cons, List.take_zero, QM.putL, Act.put, List.setIfInBounds_toArray, List.set_cons_zero, List.set_cons_succ]
    refine ⟨?_, ?_, ?_, ?_, ?_, ?_, ?_, ?_, ?_, ?_, ?_, ?_, ?_, ?_, ?_, ?_, ?_, ?_, ?_, ?_, ?_, ?_, ?_, ?_, ?_, trivial⟩
    iterate 24 (· exact fun V hV => .inl (by obtain ⟨r0, r1, r2, r3, r4⟩ := HQ.out V hV; go_simp))
    · exact fun V => by go_simp
  intro G V hV hG
  obtain ⟨ha, hb⟩ := hG.1 24 _ rfl
  simp only [List.take_succ_cons, List.take_zero, List.drop_succ_cons, List.drop_zero, QM.putL, QM.putG, Act.put, List.setIfInBounds_toArray, List.set_cons_zero, List.set_cons_succ, Nat.zero_add, Nat.reduceAdd]
  generalize G 24 = g at ha hb ⊢
  have HGB := Lib.hid hb
  have f0 := frz hb 0
  have f1 := frz hb 1
  have f2 := frz hb 2
  have f3 := frz hb 3
  have f4 := frz hb 4
  have f5 := frz hb 5
  have p0 := cell_of_blk (j := 0) hb rfl
  have p1 := cell_of_blk (j := 1) hb rfl
  have p2 := cell_of_blk (j := 2) hb rfl
  have p3 := cell_of_blk (j := 3) hb rfl
  have p4 := cell_of_blk (j := 4) hb rfl
  have p5 := cell_of_blk (j := 5) hb rfl
  have HSX := Lib.hid (six_set (w := w1) (V := V) (g := g) (t := 99) (.string dd) (.string rr) (.int .i64 st) (.int .i64 si) (.int .i64 (n : Int)) (.int .i64 0) hV ha HGB.out)
  clear hb hG hV
  go_upto_region 2 with (fail)
  obtain ⟨Y, eY⟩ : ∃ Y : World, Y = (((((V.setCell ⟨g, 0, none⟩ (.string dd)).setCell ⟨g, 1, none⟩ (.string rr)).setCell ⟨g, 2, none⟩ (.int .i64 st)).setCell ⟨g, 3, none⟩ (.int .i64 si)).setCell ⟨g, 4, none⟩ (.int .i64 (n : Int))).setCell ⟨g, 5, none⟩ (.int .i64 0) := ⟨_, rfl⟩
  rw [← eY] at HSX ⊢
  clear eY f0 f1 f2 f3 f4 f5 p0 p1 p2 p3 p4 p5 HGB
  have hyx := HX.out Y HSX.out.1
  have c5 : Y.cell? ⟨x, 5, none⟩ = some (.int .i64 sh) := cell_of_blk hyx rfl
  have hgY := (Array.getElem?_eq_some_iff.1 HSX.out.2).1
  clear hyx
  by_cases hsh : t < sh
  · have hdec : decide (t < sh) = true := decide_eq_true hsh
    have p5 := cell_of_blk (j := 5) HSX.out.2 rfl
    have f5 := frz HSX.out.2 5
    have HZ0 := Lib.hid (And.intro (HSX.out.1.setCell (p := ⟨g, 5, none⟩) ha (.int .i64 sh)) (heap_setCell_blk (j := 5) (.int .i64 sh) HSX.out.2))
    have HS := Lib.hid (show S = sh from by rw [HSZ.out.1, if_pos hsh])
    clear hsh
    go_upto_region 4 with (fail)
    obtain ⟨Z, eZ⟩ : ∃ Z : World, Z = Y.setCell ⟨g, 5, none⟩ (.int .i64 sh) := ⟨_, rfl⟩
    rw [← eZ] at HZ0 ⊢
    have HZ := Lib.hid (show Below w1.heap.size w1 Z ∧ Z.heap[g]? = some (.cells #[.string dd, .string rr, .int .i64 st, .int .i64 si, .int .i64 (n : Int), .int .i64 S] 99 (0, 0)) from ⟨HZ0.out.1, by rw [HS.out]; exact HZ0.out.2⟩)
    clear eZ HZ0 hdec p5 f5 c5 hgY HQ HS
    have hgZ := (Array.getElem?_eq_some_iff.1 HZ.out.2).1
    obtain ⟨p0, p1, p2, p3, p4, p5⟩ := box6 HZ.out.2
    have hnV := (HZ.out.1.block w.heap.size hgl).trans HB1.out.2
    have hlw : w.heap.size < Z.heap.size := (Array.getElem?_eq_some_iff.1 hnV).1
    have hne : ¬ w.heap.size = g := by omega
    have hne' : ¬ g = w.heap.size := by omega
    have HFIN := Lib.hid (six_set0 (V := Z) (g := w.heap.size) (t := 99) (.string dd) (.string rr) (.int .i64 st) (.int .i64 si) (.int .i64 (n : Int)) (.int .i64 S) (HB1.out.1.trans (HZ.out.1.mono HB1.out.1.size)) (Nat.le_refl _) hnV)
    have f0 := frz hnV 0
    have f1 := frz hnV 1
    have f2 := frz hnV 2
    have f3 := frz hnV 3
    have f4 := frz hnV 4
    have f5 := frz hnV 5
    obtain ⟨s0, s1, s2, s3, s4, s5⟩ := box6 hnV
    clear hnV
    by_cases h0 : st = 0
    · subst h0
      have HBZ := Lib.hid (show bz = decide (0 < S) from by rw [HSZ.out.2]; simp)
      go_region
      all_goals go_wp2_with (fail)
      all_goals (
        have hF := HFIN.out
        generalize ((((((Z.setCell ⟨w.heap.size, 0, none⟩ (.string dd)).setCell ⟨w.heap.size, 1, none⟩ (.string rr)).setCell ⟨w.heap.size, 2, none⟩ (.int .i64 0)).setCell ⟨w.heap.size, 3, none⟩ (.int .i64 si)).setCell ⟨w.heap.size, 4, none⟩ (.int .i64 (n : Int))).setCell ⟨w.heap.size, 5, none⟩ (.int .i64 S)) = U at hF ⊢
        obtain ⟨q0, q1, q2, q3, q4, q5⟩ := box6 hF.2
        exact bodyPost_ret (v := .tuple #[.agg #[.string dd, .string rr, .int .i64 0, .int .i64 si, .int .i64 (n : Int), .int .i64 S], .bool bz]) (by rw [HBZ.out]; simp [results, Tryz.results79, go_sem, q0, q1, q2, q3, q4, q5]) rfl ⟨rfl, hF.1.drew⟩)
    · have hd0 : (st != 0) = true := by simpa using h0
      have HBZ := Lib.hid (show bz = true from by rw [HSZ.out.2]; simp [h0])
      clear h0
      go_region
      all_goals go_wp2_with (fail)
      all_goals (
        have hF := HFIN.out
        generalize ((((((Z.setCell ⟨w.heap.size, 0, none⟩ (.string dd)).setCell ⟨w.heap.size, 1, none⟩ (.string rr)).setCell ⟨w.heap.size, 2, none⟩ (.int .i64 st)).setCell ⟨w.heap.size, 3, none⟩ (.int .i64 si)).setCell ⟨w.heap.size, 4, none⟩ (.int .i64 (n : Int))).setCell ⟨w.heap.size, 5, none⟩ (.int .i64 S)) = U at hF ⊢
        obtain ⟨q0, q1, q2, q3, q4, q5⟩ := box6 hF.2
        exact bodyPost_ret (v := .tuple #[.agg #[.string dd, .string rr, .int .i64 st, .int .i64 si, .int .i64 (n : Int), .int .i64 S], .bool bz]) (by rw [HBZ.out]; simp [results, Tryz.results79, go_sem, q0, q1, q2, q3, q4, q5]) rfl ⟨rfl, hF.1.drew⟩)
  · have hdec : decide (t < sh) = false := decide_eq_false hsh
    have HS := Lib.hid (show S = 0 from by rw [HSZ.out.1, if_neg hsh])
    clear hsh
    go_upto_region 4 with (fail)
    obtain ⟨Z, eZ⟩ : ∃ Z : World, Z = Y := ⟨_, rfl⟩
    rw [← eZ] at HSX ⊢
    have HZ := Lib.hid (show Below w1.heap.size w1 Z ∧ Z.heap[g]? = some (.cells #[.string dd, .string rr, .int .i64 st, .int .i64 si, .int .i64 (n : Int), .int .i64 S] 99 (0, 0)) from ⟨HSX.out.1, by rw [HS.out]; exact HSX.out.2⟩)
    clear eZ hdec c5 hgY HQ HS
    have hgZ := (Array.getElem?_eq_some_iff.1 HZ.out.2).1
    obtain ⟨p0, p1, p2, p3, p4, p5⟩ := box6 HZ.out.2
    have hnV := (HZ.out.1.block w.heap.size hgl).trans HB1.out.2
    have hlw : w.heap.size < Z.heap.size := (Array.getElem?_eq_some_iff.1 hnV).1
    have hne : ¬ w.heap.size = g := by omega
    have hne' : ¬ g = w.heap.size := by omega
    have HFIN := Lib.hid (six_set0 (V := Z) (g := w.heap.size) (t := 99) (.string dd) (.string rr) (.int .i64 st) (.int .i64 si) (.int .i64 (n : Int)) (.int .i64 S) (HB1.out.1.trans (HZ.out.1.mono HB1.out.1.size)) (Nat.le_refl _) hnV)
    have f0 := frz hnV 0
    have f1 := frz hnV 1
    have f2 := frz hnV 2
    have f3 := frz hnV 3
    have f4 := frz hnV 4
    have f5 := frz hnV 5
    obtain ⟨s0, s1, s2, s3, s4, s5⟩ := box6 hnV
    clear hnV
    by_cases h0 : st = 0
    · subst h0
      have HBZ := Lib.hid (show bz = decide (0 < S) from by rw [HSZ.out.2]; simp)
      go_region
      all_goals go_wp2_with (fail)
      all_goals (
        have hF := HFIN.out
        generalize ((((((Z.setCell ⟨w.heap.size, 0, none⟩ (.string dd)).setCell ⟨w.heap.size, 1, none⟩ (.string rr)).setCell ⟨w.heap.size, 2, none⟩ (.int .i64 0)).setCell ⟨w.heap.size, 3, none⟩ (.int .i64 si)).setCell ⟨w.heap.size, 4, none⟩ (.int .i64 (n : Int))).setCell ⟨w.heap.size, 5, none⟩ (.int .i64 S)) = U at hF ⊢
        obtain ⟨q0, q1, q2, q3, q4, q5⟩ := box6 hF.2
        exact bodyPost_ret (v := .tuple #[.agg #[.string dd, .string rr, .int .i64 0, .int .i64 si, .int .i64 (n : Int), .int .i64 S], .bool bz]) (by rw [HBZ.out]; simp [results, Tryz.results79, go_sem, q0, q1, q2, q3, q4, q5]) rfl ⟨rfl, hF.1.drew⟩)
    · have hd0 : (st != 0) = true := by simpa using h0
      have HBZ := Lib.hid (show bz = true from by rw [HSZ.out.2]; simp [h0])
      clear h0
      go_region
      all_goals go_wp2_with (fail)
      all_goals (
        have hF := HFIN.out
        generalize ((((((Z.setCell ⟨w.heap.size, 0, none⟩ (.string dd)).setCell ⟨w.heap.size, 1, none⟩ (.string rr)).setCell ⟨w.heap.size, 2, none⟩ (.int .i64 st)).setCell ⟨w.heap.size, 3, none⟩ (.int .i64 si)).setCell ⟨w.heap.size, 4, none⟩ (.int .i64 (n : Int))).setCell ⟨w.heap.size, 5, none⟩ (.int .i64 S)) = U at hF ⊢
        obtain ⟨q0, q1, q2, q3, q4, q5⟩ := box6 hF.2
        exact bodyPost_ret (v := .tuple #[.agg #[.string dd, .string rr, .int .i64 st, .int .i64 si, .int .i64 (n : Int), .int .i64 S], .bool bz]) (by rw [HBZ.out]; simp [results, Tryz.results79, go_sem, q0, q1, q2, q3, q4, q5]) rfl ⟨rfl, hF.1.drew⟩)
end Go.Proofs.YtgdnedhcbjonkaaGreatDoor
