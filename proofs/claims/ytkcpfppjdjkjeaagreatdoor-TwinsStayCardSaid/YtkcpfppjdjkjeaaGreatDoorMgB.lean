/- Several texts in one: Rec, PrP, PrB, PrC, PrD, Lay196, PrZ, U8, PrE, PrF, PrG. -/
import Derived.Test.YtkcpfppjdjkjeaaGreatDoorMgA
import Derived.Test.YtkcpfppjdjkjeaaGreatDoorProg
import Derived.Shelf.Unicode.ValidAny
import Derived.Lib.Strings

/- Rows of records: plain lemmas on memory; no program in sight. -/
namespace Go.Proofs.YtkcpfppjdjkjeaaGreatDoor
open Go.RowKit

/-- The cells of records, each of k cells. -/
def recs {α : Type} (f : α → List Value) (l : List α) : List Value := l.flatMap f
theorem recs_nil {α : Type} (f : α → List Value) : recs f [] = [] := rfl
theorem recs_append {α : Type} (f : α → List Value) (a b : List α) : recs f (a ++ b) = recs f a ++ recs f b := by simp [recs]
theorem recs_snoc {α : Type} (f : α → List Value) (a : List α) (x : α) : recs f (a ++ [x]) = recs f a ++ f x := by simp [recs]
section
variable {α : Type} {f : α → List Value} {k : Nat}
theorem recs_length (hf : ∀ x, (f x).length = k) (l : List α) : (recs f l).length = l.length * k := by
  induction l with
  | nil => simp [recs]
  | cons x l ih => simp only [recs, List.flatMap_cons, List.length_append, List.length_cons] at ih ⊢; rw [ih, hf, Nat.succ_mul]; omega
theorem recs_get (hf : ∀ x, (f x).length = k) (l : List α) (i : Nat) (x : α) (h : l[i]? = some x) (j : Nat) (hj : j < k) : (recs f l)[i * k + j]? = (f x)[j]? := by
  induction l generalizing i with
  | nil => simp at h
  | cons y l ih =>
    cases i with
    | zero =>
      simp only [List.getElem?_cons_zero, Option.some.injEq] at h
      subst h
      simp only [recs, List.flatMap_cons]
      rw [List.getElem?_append_left (by rw [hf]; omega)]
      simp
    | succ i =>
      simp only [List.getElem?_cons_succ] at h
      have := ih i h
      simp only [recs, List.flatMap_cons] at this ⊢
      rw [List.getElem?_append_right (by rw [hf, Nat.succ_mul]; omega), ← this, hf]
      congr 1
      rw [Nat.succ_mul]; omega
theorem rec_cell (hf : ∀ x, (f x).length = k) {w : World} {b o : Nat} {l : List α} (h : Cells w b o (recs f l)) (i : Nat) (x : α) (hx : l[i]? = some x) (j : Nat) (u : Value) (hj : (f x)[j]? = some u) : w.cell? ⟨b, o + i * k + j, none⟩ = some u := by
  have hjk : j < k := by have := (List.getElem?_eq_some_iff.1 hj).1; rw [hf] at this; exact this
  have := h (i * k + j) u ((recs_get hf l i x hx j hjk).trans hj)
  rwa [← Nat.add_assoc] at this
theorem Row.posR (hf : ∀ x, (f x).length = k) (hk : 0 < k) {w : World} {B : Nat} {A : Option Addr} {l : List α} (h : Row w B A (recs f l)) (hl : 0 < l.length) : ∃ b o, A = some ⟨b, o, none⟩ ∧ b < B ∧ Cells w b o (recs f l) := by
  rcases h with h | h
  · have := recs_length hf l
    rw [h] at this
    simp only [List.length_nil] at this
    have := Nat.mul_pos hl hk
    omega
  · exact h
theorem recs_one (h1 : ∀ x, ∀ u ∈ f x, u.oneCell' = true) (l : List α) : ∀ u ∈ recs f l, u.oneCell' = true := by
  intro u hu
  simp only [recs, List.mem_flatMap] at hu
  obtain ⟨x, _, hx⟩ := hu
  exact h1 x u hx
theorem recs_drop (hf : ∀ x, (f x).length = k) (l : List α) (i : Nat) : (recs f l).drop (i * k) = recs f (l.drop i) := by
  induction l generalizing i with
  | nil => simp [recs]
  | cons y l ih =>
    cases i with
    | zero => simp
    | succ i =>
      simp only [recs, List.flatMap_cons, List.drop_succ_cons] at ih ⊢
      rw [Nat.succ_mul, Nat.add_comm, ← List.drop_drop, List.drop_left' (hf y), ih]
end
theorem Cells.drop {w : World} {b o : Nat} {xs : List Value} (h : Cells w b o xs) (i : Nat) : Cells w b (o + i) (xs.drop i) := by
  intro j u hu
  rw [List.getElem?_drop] at hu
  have := h (i + j) u hu
  rwa [← Nat.add_assoc] at this
theorem Cells.take {w : World} {b o : Nat} {xs : List Value} (h : Cells w b o xs) (i : Nat) : Cells w b o (xs.take i) := by
  intro j u hu
  rw [List.getElem?_take] at hu
  split at hu
  · exact h j u hu
  · cases hu
/-- A row that is owned, read from an element on. -/
theorem Row.dropR {α : Type} {f : α → List Value} {k : Nat} (hf : ∀ x, (f x).length = k) {w : World} {B b o : Nat} {l : List α} (h : Cells w b o (recs f l)) (hb : b < B) (i : Nat) : Row w B (some ⟨b, o + i * k, none⟩) (recs f (l.drop i)) := by
  have := h.drop (i * k)
  rw [recs_drop hf] at this
  exact .inr ⟨b, _, rfl, hb, this⟩
theorem own_cap {w : World} {base : Nat} {e : TypeId} {size n : Nat} {A : Option Addr} {c : Nat} {xs : List Value} (h : w.ownsRow base e size (.slice A n c) n xs) : n ≤ c := by
  rcases h.2 with ⟨hv, hn⟩ | ⟨g, cap, cur, hv, _, _, hc, _⟩
  · omega
  · injection hv with _ _ hc'
    omega
theorem own_two {w : World} {base : Nat} {e : TypeId} {size n : Nat} {A : Option Addr} {c : Nat} {xs : List Value} (h : w.ownsRow base e size (.slice A n c) n xs) : (A = none ∧ n = 0 ∧ c = 0) ∨ ∃ g, A = some ⟨g, 0, none⟩ ∧ base ≤ g ∧ g < w.heap.size := by
  rcases h.2 with ⟨hv, hn⟩ | ⟨g, cap, cur, hv, hb, hh, hc, _⟩
  · injection hv with h1 h2 h3
    exact .inl ⟨h1, hn, h3⟩
  · injection hv with h1 h2 h3
    exact .inr ⟨g, h1, hb, (Array.getElem?_eq_some_iff.1 hh).1⟩
end Go.Proofs.YtkcpfppjdjkjeaaGreatDoor

/- Properties as data: ranks of names, values; the plain law of changes; no program in sight. -/
namespace Go.Proofs.YtkcpfppjdjkjeaaGreatDoor
open Go.RowKit

structure Pv where
  k : Int
  f : Bool
  n : Int
  s : ByteArray
deriving DecidableEq
def pvNone : Pv := ⟨0, false, 0, ⟨#[]⟩⟩
/-- The names, by rank. -/
def nm (i : Nat) : ByteArray :=
  match i with
  | 0 => ⟨#[97]⟩
  | 1 => ⟨#[97, 46, 120]⟩
  | 2 => ⟨#[97, 46, 120, 46, 112]⟩
  | 3 => ⟨#[97, 46, 121]⟩
  | 4 => ⟨#[97, 98]⟩
  | 5 => ⟨#[98]⟩
  | _ => ⟨#[98, 46, 122]⟩
def wdT (i : Nat) : ByteArray :=
  match i with
  | 0 => ⟨#[]⟩
  | 1 => ⟨#[120]⟩
  | 2 => ⟨#[97, 32, 34, 98, 34]⟩
  | 3 => ⟨#[92]⟩
  | 4 => ⟨#[195, 169]⟩
  | _ => ⟨#[45, 32, 49]⟩
def PvOk (v : Pv) : Prop :=
  (v.k = 1 ∧ v.n = 0 ∧ v.s = ⟨#[]⟩) ∨ (v.k = 2 ∧ v.f = false ∧ v.s = ⟨#[]⟩ ∧ -1000000000 ≤ v.n ∧ v.n ≤ 1000000000) ∨ (v.k = 3 ∧ v.f = false ∧ v.n = 0 ∧ ∃ i, i < 6 ∧ v.s = wdT i)
theorem PvOk.ne {v : Pv} (h : PvOk v) : v ≠ pvNone := by
  rintro rfl
  rcases h with h | h | h <;> simp [pvNone] at h
theorem PvOk.kne {v : Pv} (h : PvOk v) : v.k ≠ 0 := by
  rcases h with h | h | h <;> omega

abbrev Pr := Nat × Pv
def pvC (v : Pv) : List Value := [.int .i64 v.k, .bool v.f, .int .i64 v.n, .string v.s]
def prC (p : Pr) : List Value := [.string (nm p.1), .int .i64 p.2.k, .bool p.2.f, .int .i64 p.2.n, .string p.2.s]
theorem prC_len (p : Pr) : (prC p).length = 5 := rfl
theorem prC_one (p : Pr) : ∀ u ∈ prC p, u.oneCell' = true := by
  intro u hu
  simp only [prC, List.mem_cons, List.not_mem_nil, or_false] at hu
  rcases hu with h | h | h | h | h <;> rw [h] <;> rfl

/-- Lists that rise strictly and have the same members are one. -/
theorem ext_rising {α : Type} (key : α → Nat) : ∀ l m : List α, l.Pairwise (fun x y => key x < key y) → m.Pairwise (fun x y => key x < key y) → (∀ x, x ∈ l ↔ x ∈ m) → l = m
  | [], [], _, _, _ => rfl
  | [], y :: m, _, _, h => absurd ((h y).2 (by simp)) (by simp)
  | x :: l, [], _, _, h => absurd ((h x).1 (by simp)) (by simp)
  | x :: l, y :: m, hl, hm, h => by
    rw [List.pairwise_cons] at hl hm
    have hxy : x = y := by
      rcases List.mem_cons.1 ((h x).1 (by simp)) with e | hx
      · exact e
      · rcases List.mem_cons.1 ((h y).2 (by simp)) with e | hy
        · exact e.symm
        · have h1 := hm.1 x hx
          have h2 := hl.1 y hy
          omega
    subst hxy
    congr 1
    refine ext_rising key l m hl.2 hm.2 (fun z => ⟨fun hz => ?_, fun hz => ?_⟩)
    · rcases List.mem_cons.1 ((h z).1 (List.mem_cons_of_mem _ hz)) with e | hz'
      · subst e
        exact absurd (hl.1 z hz) (Nat.lt_irrefl _)
      · exact hz'
    · rcases List.mem_cons.1 ((h z).2 (List.mem_cons_of_mem _ hz)) with e | hz'
      · subst e
        exact absurd (hm.1 z hz) (Nat.lt_irrefl _)
      · exact hz'
/-- What a list of ranks shows. -/
def frn {β : Type} (g : Nat → Option β) : List β := (List.range 7).filterMap g
theorem range_rising (n : Nat) : (List.range n).Pairwise (· < ·) := List.pairwise_lt_range
theorem frn_rising {β : Type} (key : β → Nat) (g : Nat → Option β) (hg : ∀ i x, g i = some x → key x = i) : (frn g).Pairwise (fun x y => key x < key y) := by
  unfold frn
  refine List.Pairwise.filterMap g ?_ (range_rising 7)
  intro a a' h x hx y hy
  rw [hg _ _ hx, hg _ _ hy]
  exact h
theorem mem_frn {β : Type} (g : Nat → Option β) (x : β) : x ∈ frn g ↔ ∃ i, i < 7 ∧ g i = some x := by
  simp [frn, List.mem_filterMap]

/-- The properties of a function from ranks to values. -/
def prs (v : Nat → Pv) : List Pr := frn (fun i => if v i = pvNone then none else some (i, v i))
theorem mem_prs (v : Nat → Pv) (x : Pr) : x ∈ prs v ↔ x.1 < 7 ∧ v x.1 ≠ pvNone ∧ x.2 = v x.1 := by
  unfold prs
  rw [mem_frn]
  constructor
  · rintro ⟨i, hi, h⟩
    split at h
    · cases h
    · next hn => cases h; exact ⟨hi, hn, rfl⟩
  · rintro ⟨h1, h2, h3⟩
    exact ⟨x.1, h1, by rw [if_neg h2, ← h3]⟩
theorem prs_rising (v : Nat → Pv) : (prs v).Pairwise (fun x y => x.1 < y.1) := by
  refine frn_rising _ _ ?_
  intro i x h
  split at h
  · cases h
  · cases h; rfl
/-- Right lists: they rise, and their values are right. -/
def PrsOk (l : List Pr) : Prop := l.Pairwise (fun x y => x.1 < y.1) ∧ ∀ x ∈ l, x.1 < 7 ∧ PvOk x.2
/-- The value at a rank. -/
def vo (l : List Pr) (i : Nat) : Pv := match l.find? (fun p => p.1 == i) with | some p => p.2 | none => pvNone
theorem vo_mem {l : List Pr} (h : l.Pairwise (fun x y => x.1 < y.1)) {x : Pr} (hx : x ∈ l) : vo l x.1 = x.2 := by
  unfold vo
  cases hf : l.find? (fun p => p.1 == x.1) with
  | none =>
    rw [List.find?_eq_none] at hf
    exact absurd (hf x hx) (by simp)
  | some p =>
    have h1 : p.1 = x.1 := by simpa using List.find?_some hf
    have h2 := List.mem_of_find?_eq_some hf
    simp only
    have : p = x := by
      rw [List.pairwise_iff_getElem] at h
      obtain ⟨i, hi, rfl⟩ := List.getElem_of_mem h2
      obtain ⟨j, hj, rfl⟩ := List.getElem_of_mem hx
      rcases Nat.lt_trichotomy i j with hl | hl | hl
      · have := h i j hi hj hl; omega
      · subst hl; rfl
      · have := h j i hj hi hl; omega
    rw [this]
theorem vo_none {l : List Pr} {i : Nat} (h : ∀ x ∈ l, x.1 ≠ i) : vo l i = pvNone := by
  unfold vo
  rw [List.find?_eq_none.2 (by intro x hx; simpa using h x hx)]
theorem vo_some {l : List Pr} {i : Nat} (h : vo l i ≠ pvNone) : ∃ x ∈ l, x.1 = i ∧ x.2 = vo l i := by
  unfold vo at h ⊢
  cases hf : l.find? (fun p => p.1 == i) with
  | none => rw [hf] at h; exact absurd rfl h
  | some p => exact ⟨p, List.mem_of_find?_eq_some hf, by simpa using List.find?_some hf, rfl⟩
theorem PrsOk.prs {l : List Pr} (h : PrsOk l) : l = prs (vo l) := by
  refine ext_rising (·.1) _ _ h.1 (prs_rising _) (fun x => ?_)
  rw [mem_prs]
  constructor
  · intro hx
    have e := vo_mem h.1 hx
    have := h.2 x hx
    exact ⟨this.1, by rw [e]; exact this.2.ne, e.symm⟩
  · rintro ⟨h1, h2, h3⟩
    obtain ⟨y, hy, hy1, hy2⟩ := vo_some h2
    have : x = y := Prod.ext hy1.symm (by rw [h3, hy2])
    rw [this]; exact hy
theorem vo_prs (v : Nat → Pv) (i : Nat) (hi : i < 7) : vo (prs v) i = v i := by
  by_cases hv : v i = pvNone
  · rw [vo_none, hv]
    intro x hx e
    rw [mem_prs] at hx
    rw [e] at hx
    exact hx.2.1 hv
  · exact vo_mem (x := (i, v i)) (prs_rising v) ((mem_prs v _).2 ⟨hi, hv, rfl⟩)
theorem prs_ok {v : Nat → Pv} (h : ∀ i, i < 7 → v i = pvNone ∨ PvOk (v i)) : PrsOk (prs v) := by
  refine ⟨prs_rising v, fun x hx => ?_⟩
  rw [mem_prs] at hx
  refine ⟨hx.1, ?_⟩
  rw [hx.2.2]
  rcases h x.1 hx.1 with e | e
  · exact absurd e hx.2.1
  · exact e
theorem PrsOk.vo {l : List Pr} (h : PrsOk l) (i : Nat) : vo l i = pvNone ∨ PvOk (vo l i) := by
  by_cases e : Go.Proofs.YtkcpfppjdjkjeaaGreatDoor.vo l i = pvNone
  · exact .inl e
  · obtain ⟨x, hx, _, hx2⟩ := vo_some e
    rw [← hx2]
    exact .inr (h.2 x hx).2
/-- Changes. -/
abbrev Ch := Nat × Pv × Pv
def chs (v w : Nat → Pv) : List Ch := frn (fun i => if v i = w i then none else some (i, v i, w i))
theorem mem_chs (v w : Nat → Pv) (x : Ch) : x ∈ chs v w ↔ x.1 < 7 ∧ v x.1 ≠ w x.1 ∧ x.2 = (v x.1, w x.1) := by
  unfold chs
  rw [mem_frn]
  constructor
  · rintro ⟨i, hi, h⟩
    split at h
    · cases h
    · next hn => cases h; exact ⟨hi, hn, rfl⟩
  · rintro ⟨h1, h2, h3⟩
    exact ⟨x.1, h1, by rw [if_neg h2, ← h3]⟩
theorem chs_rising (v w : Nat → Pv) : (chs v w).Pairwise (fun x y => x.1 < y.1) := by
  refine frn_rising _ _ ?_
  intro i x h
  split at h
  · cases h
  · cases h; rfl
theorem chs_turn (v w : Nat → Pv) : (chs v w).map (fun x => (x.1, x.2.2, x.2.1)) = chs w v := by
  refine ext_rising (·.1) _ _ ?_ (chs_rising _ _) (fun x => ?_)
  · rw [List.pairwise_map]; exact chs_rising v w
  · rw [List.mem_map, mem_chs]
    constructor
    · rintro ⟨y, hy, rfl⟩
      rw [mem_chs] at hy
      obtain ⟨h1, h2, h3⟩ := hy
      exact ⟨h1, fun e => h2 e.symm, by rw [h3]⟩
    · rintro ⟨h1, h2, h3⟩
      refine ⟨(x.1, v x.1, w x.1), (mem_chs _ _ _).2 ⟨h1, fun e => h2 e.symm, rfl⟩, ?_⟩
      exact Prod.ext rfl h3.symm
theorem fm_congr {α β : Type} {f g : α → Option β} : ∀ l : List α, (∀ x ∈ l, f x = g x) → l.filterMap f = l.filterMap g
  | [], _ => rfl
  | x :: l, h => by
    rw [List.filterMap_cons, List.filterMap_cons, h x (by simp), fm_congr l (fun y hy => h y (List.mem_cons_of_mem _ hy))]
/-- The names of lists. -/
def nmsF (ls : List (List Pr)) : List Nat := (List.range 7).filter (fun i => ls.any (fun l => l.any (fun p => p.1 == i)))
theorem mem_nmsF (ls : List (List Pr)) (i : Nat) : i ∈ nmsF ls ↔ i < 7 ∧ ∃ l ∈ ls, ∃ p ∈ l, p.1 = i := by
  simp [nmsF, List.mem_filter]
theorem nmsF_rising (ls : List (List Pr)) : (nmsF ls).Pairwise (· < ·) := List.Pairwise.filter _ (range_rising 7)
theorem nmsF_frn {β : Type} (ls : List (List Pr)) (g : Nat → Option β) (h : ∀ i, i < 7 → (∀ l ∈ ls, ∀ p ∈ l, p.1 ≠ i) → g i = none) : (nmsF ls).filterMap g = frn g := by
  unfold nmsF frn
  rw [List.filterMap_filter]
  refine fm_congr _ ?_
  intro i hi
  rw [List.mem_range] at hi
  split
  · rfl
  · next hn =>
    symm
    refine h i hi ?_
    intro l hl p hp e
    exact hn (by simp only [List.any_eq_true]; exact ⟨l, hl, p, hp, by simpa using e⟩)
/-- The changes, as they are found by names. -/
theorem differ_chs {a b : List Pr} : (nmsF [a, b]).filterMap (fun i => if vo a i = vo b i then none else some (i, vo a i, vo b i)) = chs (vo a) (vo b) := by
  refine nmsF_frn _ _ ?_
  intro i _ h
  rw [vo_none (h a (by simp)), vo_none (h b (by simp)), if_pos rfl]
/-- What is left, and what comes, once sorted, is the other list. -/
theorem apply_prs (v w : Nat → Pv) (m : List Pr)
    (hp : m.Perm ((prs v).filter (fun p => !(chs v w).any (fun c => c.1 == p.1)) ++ (chs v w).filterMap (fun c => if c.2.2 = pvNone then none else some (c.1, c.2.2))))
    (hs : m.Pairwise (fun x y => x.1 ≤ y.1)) : m = prs w := by
  have hmem : ∀ x, x ∈ m ↔ x ∈ prs w := by
    intro x
    rw [hp.mem_iff, List.mem_append, List.mem_filter, List.mem_filterMap, mem_prs, mem_prs]
    constructor
    · rintro (⟨⟨h1, h2, h3⟩, h4⟩ | ⟨c, hc, h⟩)
      · have e : v x.1 = w x.1 := by
          by_cases e : v x.1 = w x.1
          · exact e
          · have : (chs v w).any (fun c => c.1 == x.1) = true := by
              rw [List.any_eq_true]
              exact ⟨(x.1, v x.1, w x.1), (mem_chs _ _ _).2 ⟨h1, e, rfl⟩, by simp⟩
            rw [this] at h4; simp at h4
        rw [← e]
        exact ⟨h1, h2, h3⟩
      · rw [mem_chs] at hc
        obtain ⟨h1, h2, h3⟩ := hc
        split at h
        · cases h
        · next hn =>
          cases h
          rw [h3] at hn ⊢
          exact ⟨h1, hn, rfl⟩
    · rintro ⟨h1, h2, h3⟩
      by_cases e : v x.1 = w x.1
      · refine .inl ⟨⟨h1, by rw [e]; exact h2, by rw [e]; exact h3⟩, ?_⟩
        have : (chs v w).any (fun c => c.1 == x.1) = false := by
          rw [List.any_eq_false]
          intro c hc hcx
          rw [mem_chs] at hc
          have : c.1 = x.1 := by simpa using hcx
          rw [this] at hc
          exact hc.2.1 e
        rw [this]; rfl
      · refine .inr ⟨(x.1, v x.1, w x.1), (mem_chs _ _ _).2 ⟨h1, e, rfl⟩, ?_⟩
        simp only
        rw [if_neg h2, ← h3]
  have hnd : m.Pairwise (fun x y => x.1 ≠ y.1) := by
    refine (hp.pairwise_iff (fun h => Ne.symm h)).2 ?_
    rw [List.pairwise_append]
    refine ⟨?_, ?_, ?_⟩
    · exact ((prs_rising v).imp (fun h => Nat.ne_of_lt h)).filter _
    · refine List.Pairwise.filterMap _ ?_ ((chs_rising v w).imp (fun h => Nat.ne_of_lt h))
      intro c c' h x hx y hy
      split at hx
      · cases hx
      · split at hy
        · cases hy
        · cases hx; cases hy; exact h
    · intro x hx y hy e
      rw [List.mem_filter] at hx
      rw [List.mem_filterMap] at hy
      obtain ⟨c, hc, h⟩ := hy
      split at h
      · cases h
      · cases h
        have : (chs v w).any (fun c => c.1 == x.1) = true := by
          rw [List.any_eq_true]
          exact ⟨c, hc, by simpa using e.symm⟩
        rw [this] at hx; simp at hx
  refine ext_rising (·.1) _ _ ?_ (prs_rising w) hmem
  exact (hs.and hnd).imp (fun h => by omega)
/-- What two sides make of one base. -/
def thV (o x y : Pv) : Pv := if x = o ∨ x = y then y else if y = o then x else o
def thK (o x y : Pv) : Bool := !(decide (x = o) || decide (x = y) || decide (y = o))
theorem thV_turn (o x y : Pv) : thV o x y = thV o y x := by
  unfold thV
  by_cases h1 : x = o <;> by_cases h2 : y = o <;> by_cases h3 : x = y
  all_goals (simp_all; try (intro h; exact absurd h.symm h3))
theorem thK_turn (o x y : Pv) : thK o x y = thK o y x := by
  unfold thK
  by_cases h1 : x = o <;> by_cases h2 : y = o <;> by_cases h3 : x = y
  all_goals simp_all [eq_comm]
theorem thV_same (o x : Pv) : thV o x o = x := by
  unfold thV
  by_cases h1 : x = o <;> simp_all
theorem thV_or (o x y : Pv) : thV o x y = o ∨ thV o x y = x ∨ thV o x y = y := by
  unfold thV
  split
  · exact .inr (.inr rfl)
  · split
    · exact .inr (.inl rfl)
    · exact .inl rfl
theorem three_prs {o a b : List Pr} : (nmsF [o, a, b]).filterMap (fun i => if thV (vo o i) (vo a i) (vo b i) = pvNone then none else some (i, thV (vo o i) (vo a i) (vo b i))) = prs (fun i => thV (vo o i) (vo a i) (vo b i)) := by
  refine nmsF_frn _ _ ?_
  intro i _ h
  rw [vo_none (h o (by simp)), vo_none (h a (by simp)), vo_none (h b (by simp))]
  rfl
end Go.Proofs.YtkcpfppjdjkjeaaGreatDoor

/- Names are ordered by rank; the orders of properties by their contracts. -/
namespace Go.Proofs.YtkcpfppjdjkjeaaGreatDoor
open Go.RowKit

def cmpN (i j : Nat) : Int := if i < j then -1 else if i = j then 0 else 1
theorem nm_cmp (i j : Nat) (hi : i < 7) (hj : j < 7) : Lib.compareBytes (nm i).data.toList (nm j).data.toList = cmpN i j := by
  have h1 : i = 0 ∨ i = 1 ∨ i = 2 ∨ i = 3 ∨ i = 4 ∨ i = 5 ∨ i = 6 := by omega
  have h2 : j = 0 ∨ j = 1 ∨ j = 2 ∨ j = 3 ∨ j = 4 ∨ j = 5 ∨ j = 6 := by omega
  rcases h1 with h | h | h | h | h | h | h <;> subst h <;> rcases h2 with h | h | h | h | h | h | h <;> subst h <;> rfl
theorem scompare_nm (i j : Nat) (hi : i < 7) (hj : j < 7) (w : World) : Calls Tryz.prog 44 #[.string (nm i), .string (nm j)] w fun e w' => e = .returned (.int .i64 (cmpN i j)) ∧ w = w' := by
  refine (scompare_any _ _ w).mono ?_
  rintro e w' ⟨h, rfl⟩
  rw [nm_cmp i j hi hj] at h
  exact ⟨h, rfl⟩
def prV (p : Pr) : Value := .agg #[.string (nm p.1), .int .i64 p.2.k, .bool p.2.f, .int .i64 p.2.n, .string p.2.s]
set_option maxRecDepth 100000 in
theorem find1_any (p : Pr) (j : Nat) (hi : p.1 < 7) (hj : j < 7) (w : World) : Calls Tryz.prog 117 #[prV p, .string (nm j)] w fun e w' => e = .returned (.int .i64 (cmpN p.1 j)) ∧ Below w.heap.size w w' := by
  unfold prV
  go_enter Tryz.func117, Tryz.ntmps117
  go_wp2_with (go_at_call 44; refine (scompare_nm _ _ hi hj _).mono ?_; rintro e w' ⟨rfl, rfl⟩)
  go_ret
  exact ⟨rfl, (Below.refl _ _).alloc (Nat.le_refl _) _⟩
end Go.Proofs.YtkcpfppjdjkjeaaGreatDoor

/- find, valueOf of right properties by their contracts. -/
namespace Go.Proofs.YtkcpfppjdjkjeaaGreatDoor
open Go.RowKit

theorem pr_cells {w : World} {b o : Nat} {l : List Pr} (h : Cells w b o (recs prC l)) (i : Nat) (x : Pr) (hx : l[i]? = some x) :
    w.cell? ⟨b, o + i * 5, none⟩ = some (.string (nm x.1)) ∧ w.cell? ⟨b, o + i * 5 + 1, none⟩ = some (.int .i64 x.2.k) ∧ w.cell? ⟨b, o + i * 5 + 2, none⟩ = some (.bool x.2.f) ∧ w.cell? ⟨b, o + i * 5 + 3, none⟩ = some (.int .i64 x.2.n) ∧ w.cell? ⟨b, o + i * 5 + 4, none⟩ = some (.string x.2.s) :=
  ⟨rec_cell prC_len h i x hx 0 _ rfl, rec_cell prC_len h i x hx 1 _ rfl, rec_cell prC_len h i x hx 2 _ rfl, rec_cell prC_len h i x hx 3 _ rfl, rec_cell prC_len h i x hx 4 _ rfl⟩
def BsPost (l : List Pr) (j : Nat) (w : World) (e : Ending) (w' : World) : Prop :=
  ∃ (r : Nat) (t : Bool), e = .returned (.tuple #[.int .i64 (r : Int), .bool t]) ∧ (t = true → ∃ v, l[r]? = some (j, v)) ∧ (t = false → ∀ x ∈ l, x.1 ≠ j) ∧ Below w.heap.size w w'
theorem rising_get {l : List Pr} (h : l.Pairwise (fun x y => x.1 < y.1)) {i k : Nat} {x y : Pr} (hi : l[i]? = some x) (hk : l[k]? = some y) (hik : i < k) : x.1 < y.1 := by
  obtain ⟨h1, rfl⟩ := List.getElem?_eq_some_iff.1 hi
  obtain ⟨h2, rfl⟩ := List.getElem?_eq_some_iff.1 hk
  exact (List.pairwise_iff_getElem.1 h) i k h1 h2 hik
set_option maxRecDepth 100000 in
set_option maxHeartbeats 2000000 in
theorem bin_any (l : List Pr) (n c j : Nat) (A : Option Addr) (w : World) (hl : PrsOk l) (hn : l.length = n) (hn7 : n ≤ 500) (hj : j < 7) (hr : Row w w.heap.size A (recs prC l)) :
    Calls Tryz.prog 116 #[.slice A n c, .string (nm j), .func (.func 117) #[] #[]] w fun e w' => BsPost l j w e w' := by
  have HR := Lib.hid hr
  have HL := Lib.hid hl
  have HN := Lib.hid hn
  clear hr hl hn
  go_enter Tryz.func116, Tryz.ntmps116
  go_wp2_with (fail)
  go_loopw [9, 10] (fun s t wr => ∃ (i k : Nat), i ≤ k ∧ k ≤ n ∧ s = .int .i64 (i : Int) ∧ t = .int .i64 (k : Int) ∧ Hid ((∀ q x, q < i → l[q]? = some x → x.1 < j) ∧ (∀ q x, k ≤ q → l[q]? = some x → j ≤ x.1)) ∧ Below w.heap.size w wr) (fun s t _ => (intOf t).toNat - (intOf s).toNat)
  case atStart => exact ⟨0, n, by omega, by omega, rfl, rfl, Lib.hid ⟨fun q x hq _ => by omega, fun q x hq hx => by have := (List.getElem?_eq_some_iff.1 hx).1; have := HN.out; omega⟩, Below.refl _ _⟩
  case round =>
    obtain ⟨i, k, hik, hkn, rfl, rfl, HI, hbr⟩ := hrel
    have hbs := hbr.size
    have HB := Lib.hid hbr
    have HRr := Lib.hid (HR.out.below hbr)
    clear hbr
    by_cases hlt : i < k
    · have hltI : (i : Int) < k := by omega
      obtain ⟨m, em⟩ : ∃ m, m = (i + k) / 2 := ⟨_, rfl⟩
      have hmI : ((i : Int) + k) / 2 = (m : Int) := by omega
      have hm1 : i ≤ m := by omega
      have hm2 : m < k := by omega
      obtain ⟨p, hp⟩ : ∃ p, l[m]? = some p := ⟨_, List.getElem?_eq_getElem (by have := HN.out; omega)⟩
      obtain ⟨b, o, rfl, hb, hC⟩ := HRr.out.posR prC_len (by omega) (by have := HN.out; omega)
      have hp7 := (HL.out.2 p (List.mem_of_getElem? hp)).1
      obtain ⟨c0, c1, c2, c3, c4⟩ := pr_cells hC m p hp
      have HP := Lib.hid hp
      clear em hp hC
      go_wp2_with (fail)
      refine (find1_any p j hp7 hj _).mono ?_
      rintro e w1 ⟨rfl, hb1⟩
      have HB1 := Lib.hid (HB.out.trans (hb1.mono hbs))
      clear hb1
      by_cases hc : p.1 < j
      · have hc1 : cmpN p.1 j = -1 := by rw [cmpN, if_pos hc]
        rw [hc1]
        clear hc1
        go_wp2_with (fail)
        go_roundw
        case rel =>
          refine ⟨m + 1, k, by omega, hkn, by simp, rfl, Lib.hid ⟨fun q x hq hx => ?_, HI.out.2⟩, HB1.out⟩
          by_cases hqm : q = m
          · subst hqm
            have := HP.out
            rw [hx] at this
            cases this
            exact hc
          · have := rising_get HL.out.1 hx HP.out (by omega)
            omega
        case measure => simp [intOf]; omega
      · have hc1 : cmpN p.1 j = 0 ∨ cmpN p.1 j = 1 := by
          rw [cmpN, if_neg hc]; split <;> simp
        have hc2 : ¬ cmpN p.1 j < 0 := by omega
        obtain ⟨z, ez⟩ : ∃ z, z = cmpN p.1 j := ⟨_, rfl⟩
        rw [← ez] at hc2 ⊢
        clear ez hc1
        go_wp2_with (fail)
        go_roundw
        case rel =>
          refine ⟨i, m, by omega, by omega, rfl, rfl, Lib.hid ⟨HI.out.1, fun q x hq hx => ?_⟩, HB1.out⟩
          by_cases hqm : q = m
          · subst hqm
            have := HP.out
            rw [hx] at this
            cases this
            omega
          · have := rising_get HL.out.1 HP.out hx (by omega)
            omega
        case measure => simp [intOf]; omega
    · have hltI : ¬ (i : Int) < k := by omega
      have hik' : i = k := by omega
      subst hik'
      by_cases hin : i < n
      · have hinI : (i : Int) < n := by omega
        obtain ⟨p, hp⟩ : ∃ p, l[i]? = some p := ⟨_, List.getElem?_eq_getElem (by have := HN.out; omega)⟩
        obtain ⟨b, o, rfl, hb, hC⟩ := HRr.out.posR prC_len (by omega) (by have := HN.out; omega)
        have hp7 := (HL.out.2 p (List.mem_of_getElem? hp)).1
        obtain ⟨c0, c1, c2, c3, c4⟩ := pr_cells hC i p hp
        have HP := Lib.hid hp
        clear hp hC
        go_wp2_with (fail)
        refine (find1_any p j hp7 hj _).mono ?_
        rintro e w1 ⟨rfl, hb1⟩
        have HB1 := Lib.hid (HB.out.trans (hb1.mono hbs))
        clear hb1
        by_cases hc : p.1 = j
        · have hc1 : cmpN p.1 j = 0 := by rw [cmpN, if_neg (by omega), if_pos hc]
          rw [hc1]
          clear hc1
          go_wp2_with (fail)
          go_ret2
          refine ⟨i, true, rfl, fun _ => ⟨p.2, ?_⟩, fun h => (by cases h), HB1.out⟩
          rw [HP.out, ← hc]
        · have hc1 : ¬ cmpN p.1 j = 0 := by
            unfold cmpN
            split
            · omega
            · omega
          obtain ⟨z, ez⟩ : ∃ z, z = cmpN p.1 j := ⟨_, rfl⟩
          rw [← ez] at hc1 ⊢
          clear ez
          go_wp2_with (fail)
          go_ret2
          refine ⟨i, z == 0, rfl, fun h => absurd (by simpa using h) hc1, fun _ x hx => ?_, HB1.out⟩
          obtain ⟨q, hq⟩ := List.getElem?_of_mem hx
          by_cases hqi : q < i
          · have := HI.out.1 q x hqi hq; omega
          · by_cases hqe : q = i
            · subst hqe
              have := HP.out
              rw [hq] at this
              cases this
              exact hc
            · have h1 := rising_get HL.out.1 HP.out hq (by omega)
              have h2 := HI.out.2 i p (by omega) HP.out
              omega
      · have hinI : ¬ (i : Int) < n := by omega
        go_wp2_with (fail)
        go_ret2
        refine ⟨i, false, rfl, fun h => (by cases h), fun _ x hx => ?_, HB.out⟩
        obtain ⟨q, hq⟩ := List.getElem?_of_mem hx
        have hq2 := (List.getElem?_eq_some_iff.1 hq).1
        have := HI.out.1 q x (by have := HN.out; omega) hq
        omega

def FdPost (l : List Pr) (j : Nat) (w : World) (e : Ending) (w' : World) : Prop :=
  ∃ r : Int, e = .returned (.int .i64 r) ∧ ((∃ (q : Nat) (v : Pv), r = (q : Int) ∧ l[q]? = some (j, v)) ∨ (r = -1 ∧ ∀ x ∈ l, x.1 ≠ j)) ∧ Below w.heap.size w w'
set_option maxRecDepth 100000 in
theorem find_any (l : List Pr) (n c j : Nat) (A : Option Addr) (w : World) (hl : PrsOk l) (hn : l.length = n) (hn7 : n ≤ 500) (hj : j < 7) (hr : Row w w.heap.size A (recs prC l)) :
    Calls Tryz.prog 74 #[.slice A n c, .string (nm j)] w fun e w' => FdPost l j w e w' := by
  have HB := Lib.hid (bin_any l n c j A w hl hn hn7 hj hr)
  clear hl hn hr
  go_enter Tryz.func74, Tryz.ntmps74
  go_wp2_with (fail)
  refine HB.out.mono ?_
  rintro e w1 ⟨r, t, rfl, h1, h2, hb⟩
  have H1 := Lib.hid h1
  have H2 := Lib.hid h2
  have H3 := Lib.hid hb
  clear h1 h2 hb
  cases t
  · go_wp2_with (fail)
    go_ret
    exact ⟨-1, rfl, .inr ⟨rfl, H2.out trivial⟩, H3.out⟩
  · go_wp2_with (fail)
    go_ret
    obtain ⟨v, hv⟩ := H1.out trivial
    exact ⟨r, rfl, .inl ⟨r, v, rfl, hv⟩, H3.out⟩
theorem blk_set4 {V : World} {g : Nat} {a b c d : Value} (u0 u1 u2 u3 : Value) (hV : V.heap[g]? = some (.cells #[a, b, c, d] 35 (0, 0))) :
    ((((V.setCell ⟨g, 0, none⟩ u0).setCell ⟨g, 1, none⟩ u1).setCell ⟨g, 2, none⟩ u2).setCell ⟨g, 3, none⟩ u3).heap[g]? = some (.cells #[u0, u1, u2, u3] 35 (0, 0)) ∧
    ∀ B, B ≤ g → Below B V ((((V.setCell ⟨g, 0, none⟩ u0).setCell ⟨g, 1, none⟩ u1).setCell ⟨g, 2, none⟩ u2).setCell ⟨g, 3, none⟩ u3) := by
  refine ⟨by simp [World.setCell, Array.getElem?_modify, hV], fun B hB => ?_⟩
  exact ((((Below.refl B V).setCell hB _).setCell hB _).setCell hB _).setCell hB _
set_option maxRecDepth 100000 in
set_option maxHeartbeats 2000000 in
theorem valueOf_any (l : List Pr) (n c j : Nat) (A : Option Addr) (w : World) (hl : PrsOk l) (hn : l.length = n) (hn7 : n ≤ 500) (hj : j < 7) (hr : Row w w.heap.size A (recs prC l)) :
    Calls Tryz.prog 42 #[.slice A n c, .string (nm j)] w fun e w' => e = .returned (.agg #[.int .i64 (vo l j).k, .bool (vo l j).f, .int .i64 (vo l j).n, .string (vo l j).s]) ∧ Below w.heap.size w w' := by
  have HF := Lib.hid (fun W (h : Below w.heap.size w W) => find_any l n c j A W hl hn hn7 hj ((hr.below h).mono h.size))
  have HR := Lib.hid hr
  have HL := Lib.hid hl
  have HN := Lib.hid hn
  clear hl hn hr
  go_enter Tryz.func42, Tryz.ntmps42
  go_wp2_with (fail)
  refine (HF.out _ ((Below.refl _ _).alloc (Nat.le_refl _) _)).mono ?_
  rintro e w1 ⟨r, rfl, hr1, hb1⟩
  have hz1 := hb1.size
  simp only [World.size_alloc] at hz1
  have hbk := (hb1.block w.heap.size (by simp)).trans (heap_new w (.cells #[.int .i64 0, .bool false, .int .i64 0, .string ⟨#[]⟩] 35))
  have HB1 := Lib.hid (((Below.refl _ w).alloc (Nat.le_refl _) (.cells #[.int .i64 0, .bool false, .int .i64 0, .string ⟨#[]⟩] 35)).trans (hb1.mono (by simp)))
  have n0 := cell_of_blk (j := 0) hbk rfl
  have n1 := cell_of_blk (j := 1) hbk rfl
  have n2 := cell_of_blk (j := 2) hbk rfl
  have n3 := cell_of_blk (j := 3) hbk rfl
  have fr : ∀ j, w1.frozen? ⟨w.heap.size, j, none⟩ = false := by intro j; simp [World.frozen?, hbk]
  have f0 := fr 0
  have f1 := fr 1
  have f2 := fr 2
  have f3 := fr 3
  have hlt : w.heap.size < w1.heap.size := by omega
  have HK := Lib.hid hbk
  clear hb1 hbk fr
  rcases hr1 with ⟨q, v, rfl, hq⟩ | ⟨rfl, hno⟩
  · obtain ⟨b, o, rfl, hb, hC⟩ := (HR.out.below HB1.out).posR prC_len (by omega) (by have := (List.getElem?_eq_some_iff.1 hq).1; omega)
    obtain ⟨c0, c1, c2, c3, c4⟩ := pr_cells hC q _ hq
    have hqn : q < n := by have := (List.getElem?_eq_some_iff.1 hq).1; have := HN.out; omega
    have hvo : vo l j = v := vo_mem (x := (j, v)) HL.out.1 (List.mem_of_getElem? hq)
    have HV := Lib.hid hvo
    obtain ⟨k1, k2⟩ := blk_set4 (.int .i64 v.k) (.bool v.f) (.int .i64 v.n) (.string v.s) HK.out
    have HK1 := Lib.hid k1
    have HK2 := Lib.hid k2
    clear hC hq hvo k1 k2
    go_wp2_with (fail)
    have r0 := cell_of_blk (j := 0) HK1.out rfl
    have r1 := cell_of_blk (j := 1) HK1.out rfl
    have r2 := cell_of_blk (j := 2) HK1.out rfl
    have r3 := cell_of_blk (j := 3) HK1.out rfl
    exact bodyPost_ret (v := .agg #[.int .i64 v.k, .bool v.f, .int .i64 v.n, .string v.s]) (by simp [results, Tryz.results42, go_sem, r0, r1, r2, r3]) rfl ⟨by rw [HV.out]; try rfl, HB1.out.trans (HK2.out _ (Nat.le_refl _))⟩
  · have HV := Lib.hid (vo_none hno)
    clear hno
    obtain ⟨k1, k2⟩ := blk_set4 (.int .i64 0) (.bool false) (.int .i64 0) (.string ⟨#[]⟩) HK.out
    have HK1 := Lib.hid k1
    have HK2 := Lib.hid k2
    clear k1 k2
    go_wp2_with (fail)
    have r0 := cell_of_blk (j := 0) HK1.out rfl
    have r1 := cell_of_blk (j := 1) HK1.out rfl
    have r2 := cell_of_blk (j := 2) HK1.out rfl
    have r3 := cell_of_blk (j := 3) HK1.out rfl
    exact bodyPost_ret (v := .agg #[.int .i64 0, .bool false, .int .i64 0, .string ⟨#[]⟩]) (by simp [results, Tryz.results42, go_sem, r0, r1, r2, r3]) rfl ⟨by rw [HV.out]; try rfl, HB1.out.trans (HK2.out _ (Nat.le_refl _))⟩
end Go.Proofs.YtkcpfppjdjkjeaaGreatDoor

/- twin.isName at the seven names, base.Unmarked at the six texts, twin.valueFault at right values. Printed by gen_PrD.py. -/
namespace Go.Proofs.YtkcpfppjdjkjeaaGreatDoor
open Go.RowKit

theorem cutN_a (w : World) : Calls Tryz.prog 118 #[.string ⟨#[97]⟩, .string ⟨#[46]⟩] w fun e w' => e = .returned (.tuple #[.string ⟨#[97]⟩, .string ⟨#[]⟩, .bool false]) ∧ Below w.heap.size w w' := by
  have H := lindex_dot ⟨#[97]⟩ (-1) w (by rw [Lib.toList_data]; decide) (by decide)
  go_enter Tryz.func118, Tryz.ntmps118
  go_wp2_with (fail)
  go_enter Tryz.func145, Tryz.ntmps145
  go_wp2_with (go_at_call 167; refine H.mono ?_; rintro e w' ⟨rfl, rfl⟩)
  go_ret3
  exact ⟨rfl, Below.refl _ _⟩
theorem cutN_a_x (w : World) : Calls Tryz.prog 118 #[.string ⟨#[97, 46, 120]⟩, .string ⟨#[46]⟩] w fun e w' => e = .returned (.tuple #[.string ⟨#[97]⟩, .string ⟨#[120]⟩, .bool true]) ∧ Below w.heap.size w w' := by
  have H := lindex_dot ⟨#[97, 46, 120]⟩ (1) w (by rw [Lib.toList_data]; decide) (by decide)
  go_enter Tryz.func118, Tryz.ntmps118
  go_wp2_with (fail)
  go_enter Tryz.func145, Tryz.ntmps145
  go_wp2_with (go_at_call 167; refine H.mono ?_; rintro e w' ⟨rfl, rfl⟩)
  go_quiet (fail)
  go_wp2_with (fail)
  go_ret3
  exact ⟨rfl, below_drewN (Below.refl _ _) _⟩
theorem cutN_x (w : World) : Calls Tryz.prog 118 #[.string ⟨#[120]⟩, .string ⟨#[46]⟩] w fun e w' => e = .returned (.tuple #[.string ⟨#[120]⟩, .string ⟨#[]⟩, .bool false]) ∧ Below w.heap.size w w' := by
  have H := lindex_dot ⟨#[120]⟩ (-1) w (by rw [Lib.toList_data]; decide) (by decide)
  go_enter Tryz.func118, Tryz.ntmps118
  go_wp2_with (fail)
  go_enter Tryz.func145, Tryz.ntmps145
  go_wp2_with (go_at_call 167; refine H.mono ?_; rintro e w' ⟨rfl, rfl⟩)
  go_ret3
  exact ⟨rfl, Below.refl _ _⟩
theorem cutN_a_x_p (w : World) : Calls Tryz.prog 118 #[.string ⟨#[97, 46, 120, 46, 112]⟩, .string ⟨#[46]⟩] w fun e w' => e = .returned (.tuple #[.string ⟨#[97]⟩, .string ⟨#[120, 46, 112]⟩, .bool true]) ∧ Below w.heap.size w w' := by
  have H := lindex_dot ⟨#[97, 46, 120, 46, 112]⟩ (1) w (by rw [Lib.toList_data]; decide) (by decide)
  go_enter Tryz.func118, Tryz.ntmps118
  go_wp2_with (fail)
  go_enter Tryz.func145, Tryz.ntmps145
  go_wp2_with (go_at_call 167; refine H.mono ?_; rintro e w' ⟨rfl, rfl⟩)
  go_quiet (fail)
  go_wp2_with (fail)
  go_ret3
  exact ⟨rfl, below_drewN (Below.refl _ _) _⟩
theorem cutN_x_p (w : World) : Calls Tryz.prog 118 #[.string ⟨#[120, 46, 112]⟩, .string ⟨#[46]⟩] w fun e w' => e = .returned (.tuple #[.string ⟨#[120]⟩, .string ⟨#[112]⟩, .bool true]) ∧ Below w.heap.size w w' := by
  have H := lindex_dot ⟨#[120, 46, 112]⟩ (1) w (by rw [Lib.toList_data]; decide) (by decide)
  go_enter Tryz.func118, Tryz.ntmps118
  go_wp2_with (fail)
  go_enter Tryz.func145, Tryz.ntmps145
  go_wp2_with (go_at_call 167; refine H.mono ?_; rintro e w' ⟨rfl, rfl⟩)
  go_quiet (fail)
  go_wp2_with (fail)
  go_ret3
  exact ⟨rfl, below_drewN (Below.refl _ _) _⟩
theorem cutN_p (w : World) : Calls Tryz.prog 118 #[.string ⟨#[112]⟩, .string ⟨#[46]⟩] w fun e w' => e = .returned (.tuple #[.string ⟨#[112]⟩, .string ⟨#[]⟩, .bool false]) ∧ Below w.heap.size w w' := by
  have H := lindex_dot ⟨#[112]⟩ (-1) w (by rw [Lib.toList_data]; decide) (by decide)
  go_enter Tryz.func118, Tryz.ntmps118
  go_wp2_with (fail)
  go_enter Tryz.func145, Tryz.ntmps145
  go_wp2_with (go_at_call 167; refine H.mono ?_; rintro e w' ⟨rfl, rfl⟩)
  go_ret3
  exact ⟨rfl, Below.refl _ _⟩
theorem cutN_a_y (w : World) : Calls Tryz.prog 118 #[.string ⟨#[97, 46, 121]⟩, .string ⟨#[46]⟩] w fun e w' => e = .returned (.tuple #[.string ⟨#[97]⟩, .string ⟨#[121]⟩, .bool true]) ∧ Below w.heap.size w w' := by
  have H := lindex_dot ⟨#[97, 46, 121]⟩ (1) w (by rw [Lib.toList_data]; decide) (by decide)
  go_enter Tryz.func118, Tryz.ntmps118
  go_wp2_with (fail)
  go_enter Tryz.func145, Tryz.ntmps145
  go_wp2_with (go_at_call 167; refine H.mono ?_; rintro e w' ⟨rfl, rfl⟩)
  go_quiet (fail)
  go_wp2_with (fail)
  go_ret3
  exact ⟨rfl, below_drewN (Below.refl _ _) _⟩
theorem cutN_y (w : World) : Calls Tryz.prog 118 #[.string ⟨#[121]⟩, .string ⟨#[46]⟩] w fun e w' => e = .returned (.tuple #[.string ⟨#[121]⟩, .string ⟨#[]⟩, .bool false]) ∧ Below w.heap.size w w' := by
  have H := lindex_dot ⟨#[121]⟩ (-1) w (by rw [Lib.toList_data]; decide) (by decide)
  go_enter Tryz.func118, Tryz.ntmps118
  go_wp2_with (fail)
  go_enter Tryz.func145, Tryz.ntmps145
  go_wp2_with (go_at_call 167; refine H.mono ?_; rintro e w' ⟨rfl, rfl⟩)
  go_ret3
  exact ⟨rfl, Below.refl _ _⟩
theorem cutN_ab (w : World) : Calls Tryz.prog 118 #[.string ⟨#[97, 98]⟩, .string ⟨#[46]⟩] w fun e w' => e = .returned (.tuple #[.string ⟨#[97, 98]⟩, .string ⟨#[]⟩, .bool false]) ∧ Below w.heap.size w w' := by
  have H := lindex_dot ⟨#[97, 98]⟩ (-1) w (by rw [Lib.toList_data]; decide) (by decide)
  go_enter Tryz.func118, Tryz.ntmps118
  go_wp2_with (fail)
  go_enter Tryz.func145, Tryz.ntmps145
  go_wp2_with (go_at_call 167; refine H.mono ?_; rintro e w' ⟨rfl, rfl⟩)
  go_ret3
  exact ⟨rfl, Below.refl _ _⟩
theorem cutN_b (w : World) : Calls Tryz.prog 118 #[.string ⟨#[98]⟩, .string ⟨#[46]⟩] w fun e w' => e = .returned (.tuple #[.string ⟨#[98]⟩, .string ⟨#[]⟩, .bool false]) ∧ Below w.heap.size w w' := by
  have H := lindex_dot ⟨#[98]⟩ (-1) w (by rw [Lib.toList_data]; decide) (by decide)
  go_enter Tryz.func118, Tryz.ntmps118
  go_wp2_with (fail)
  go_enter Tryz.func145, Tryz.ntmps145
  go_wp2_with (go_at_call 167; refine H.mono ?_; rintro e w' ⟨rfl, rfl⟩)
  go_ret3
  exact ⟨rfl, Below.refl _ _⟩
theorem cutN_b_z (w : World) : Calls Tryz.prog 118 #[.string ⟨#[98, 46, 122]⟩, .string ⟨#[46]⟩] w fun e w' => e = .returned (.tuple #[.string ⟨#[98]⟩, .string ⟨#[122]⟩, .bool true]) ∧ Below w.heap.size w w' := by
  have H := lindex_dot ⟨#[98, 46, 122]⟩ (1) w (by rw [Lib.toList_data]; decide) (by decide)
  go_enter Tryz.func118, Tryz.ntmps118
  go_wp2_with (fail)
  go_enter Tryz.func145, Tryz.ntmps145
  go_wp2_with (go_at_call 167; refine H.mono ?_; rintro e w' ⟨rfl, rfl⟩)
  go_quiet (fail)
  go_wp2_with (fail)
  go_ret3
  exact ⟨rfl, below_drewN (Below.refl _ _) _⟩
theorem cutN_z (w : World) : Calls Tryz.prog 118 #[.string ⟨#[122]⟩, .string ⟨#[46]⟩] w fun e w' => e = .returned (.tuple #[.string ⟨#[122]⟩, .string ⟨#[]⟩, .bool false]) ∧ Below w.heap.size w w' := by
  have H := lindex_dot ⟨#[122]⟩ (-1) w (by rw [Lib.toList_data]; decide) (by decide)
  go_enter Tryz.func118, Tryz.ntmps118
  go_wp2_with (fail)
  go_enter Tryz.func145, Tryz.ntmps145
  go_wp2_with (go_at_call 167; refine H.mono ?_; rintro e w' ⟨rfl, rfl⟩)
  go_ret3
  exact ⟨rfl, Below.refl _ _⟩
theorem dottedN_0 (w : World) : Calls Tryz.prog 75 #[.string ⟨#[97]⟩, .int .i64 8] w fun e w' => e = .returned (.bool true) ∧ Below w.heap.size w w' := by
  go_enter Tryz.func75, Tryz.ntmps75
  go_wp2_with (fail)
  refine wp_loop_rounds 1 ?_
  rw [rounds_succ]
  go_wp2_with (fail)
  refine (cutN_a _).mono ?_
  rintro e w1 ⟨rfl, hb1⟩
  have hs1 := hb1.size
  have HB1 := Lib.hid (hb1)
  clear hb1
  go_wp2_with (go_at_call 78; refine (key_yes _ _ (by kernel_rfl)).mono ?_; rintro e w' ⟨rfl, rfl⟩)
  go_ret
  exact ⟨rfl, HB1.out⟩
theorem dottedN_1 (w : World) : Calls Tryz.prog 75 #[.string ⟨#[97, 46, 120]⟩, .int .i64 8] w fun e w' => e = .returned (.bool true) ∧ Below w.heap.size w w' := by
  go_enter Tryz.func75, Tryz.ntmps75
  go_wp2_with (fail)
  refine wp_loop_rounds 2 ?_
  rw [rounds_succ]
  go_wp2_with (fail)
  refine (cutN_a_x _).mono ?_
  rintro e w1 ⟨rfl, hb1⟩
  have hs1 := hb1.size
  have HB1 := Lib.hid (hb1)
  clear hb1
  go_wp2_with (go_at_call 78; refine (key_yes _ _ (by kernel_rfl)).mono ?_; rintro e w' ⟨rfl, rfl⟩)
  rw [rounds_succ]
  go_wp2_with (fail)
  refine (cutN_x _).mono ?_
  rintro e w2 ⟨rfl, hb2⟩
  have hs2 := hb2.size
  have HB2 := Lib.hid (HB1.out.trans (hb2.mono hs1))
  clear hb2
  have hs2 := HB2.out.size
  go_wp2_with (go_at_call 78; refine (key_yes _ _ (by kernel_rfl)).mono ?_; rintro e w' ⟨rfl, rfl⟩)
  go_ret
  exact ⟨rfl, HB2.out⟩
theorem dottedN_2 (w : World) : Calls Tryz.prog 75 #[.string ⟨#[97, 46, 120, 46, 112]⟩, .int .i64 8] w fun e w' => e = .returned (.bool true) ∧ Below w.heap.size w w' := by
  go_enter Tryz.func75, Tryz.ntmps75
  go_wp2_with (fail)
  refine wp_loop_rounds 3 ?_
  rw [rounds_succ]
  go_wp2_with (fail)
  refine (cutN_a_x_p _).mono ?_
  rintro e w1 ⟨rfl, hb1⟩
  have hs1 := hb1.size
  have HB1 := Lib.hid (hb1)
  clear hb1
  go_wp2_with (go_at_call 78; refine (key_yes _ _ (by kernel_rfl)).mono ?_; rintro e w' ⟨rfl, rfl⟩)
  rw [rounds_succ]
  go_wp2_with (fail)
  refine (cutN_x_p _).mono ?_
  rintro e w2 ⟨rfl, hb2⟩
  have hs2 := hb2.size
  have HB2 := Lib.hid (HB1.out.trans (hb2.mono hs1))
  clear hb2
  have hs2 := HB2.out.size
  go_wp2_with (go_at_call 78; refine (key_yes _ _ (by kernel_rfl)).mono ?_; rintro e w' ⟨rfl, rfl⟩)
  rw [rounds_succ]
  go_wp2_with (fail)
  refine (cutN_p _).mono ?_
  rintro e w3 ⟨rfl, hb3⟩
  have hs3 := hb3.size
  have HB3 := Lib.hid (HB2.out.trans (hb3.mono hs2))
  clear hb3
  have hs3 := HB3.out.size
  go_wp2_with (go_at_call 78; refine (key_yes _ _ (by kernel_rfl)).mono ?_; rintro e w' ⟨rfl, rfl⟩)
  go_ret
  exact ⟨rfl, HB3.out⟩
theorem dottedN_3 (w : World) : Calls Tryz.prog 75 #[.string ⟨#[97, 46, 121]⟩, .int .i64 8] w fun e w' => e = .returned (.bool true) ∧ Below w.heap.size w w' := by
  go_enter Tryz.func75, Tryz.ntmps75
  go_wp2_with (fail)
  refine wp_loop_rounds 2 ?_
  rw [rounds_succ]
  go_wp2_with (fail)
  refine (cutN_a_y _).mono ?_
  rintro e w1 ⟨rfl, hb1⟩
  have hs1 := hb1.size
  have HB1 := Lib.hid (hb1)
  clear hb1
  go_wp2_with (go_at_call 78; refine (key_yes _ _ (by kernel_rfl)).mono ?_; rintro e w' ⟨rfl, rfl⟩)
  rw [rounds_succ]
  go_wp2_with (fail)
  refine (cutN_y _).mono ?_
  rintro e w2 ⟨rfl, hb2⟩
  have hs2 := hb2.size
  have HB2 := Lib.hid (HB1.out.trans (hb2.mono hs1))
  clear hb2
  have hs2 := HB2.out.size
  go_wp2_with (go_at_call 78; refine (key_yes _ _ (by kernel_rfl)).mono ?_; rintro e w' ⟨rfl, rfl⟩)
  go_ret
  exact ⟨rfl, HB2.out⟩
theorem dottedN_4 (w : World) : Calls Tryz.prog 75 #[.string ⟨#[97, 98]⟩, .int .i64 8] w fun e w' => e = .returned (.bool true) ∧ Below w.heap.size w w' := by
  go_enter Tryz.func75, Tryz.ntmps75
  go_wp2_with (fail)
  refine wp_loop_rounds 1 ?_
  rw [rounds_succ]
  go_wp2_with (fail)
  refine (cutN_ab _).mono ?_
  rintro e w1 ⟨rfl, hb1⟩
  have hs1 := hb1.size
  have HB1 := Lib.hid (hb1)
  clear hb1
  go_wp2_with (go_at_call 78; refine (key_yes _ _ (by kernel_rfl)).mono ?_; rintro e w' ⟨rfl, rfl⟩)
  go_ret
  exact ⟨rfl, HB1.out⟩
theorem dottedN_5 (w : World) : Calls Tryz.prog 75 #[.string ⟨#[98]⟩, .int .i64 8] w fun e w' => e = .returned (.bool true) ∧ Below w.heap.size w w' := by
  go_enter Tryz.func75, Tryz.ntmps75
  go_wp2_with (fail)
  refine wp_loop_rounds 1 ?_
  rw [rounds_succ]
  go_wp2_with (fail)
  refine (cutN_b _).mono ?_
  rintro e w1 ⟨rfl, hb1⟩
  have hs1 := hb1.size
  have HB1 := Lib.hid (hb1)
  clear hb1
  go_wp2_with (go_at_call 78; refine (key_yes _ _ (by kernel_rfl)).mono ?_; rintro e w' ⟨rfl, rfl⟩)
  go_ret
  exact ⟨rfl, HB1.out⟩
theorem dottedN_6 (w : World) : Calls Tryz.prog 75 #[.string ⟨#[98, 46, 122]⟩, .int .i64 8] w fun e w' => e = .returned (.bool true) ∧ Below w.heap.size w w' := by
  go_enter Tryz.func75, Tryz.ntmps75
  go_wp2_with (fail)
  refine wp_loop_rounds 2 ?_
  rw [rounds_succ]
  go_wp2_with (fail)
  refine (cutN_b_z _).mono ?_
  rintro e w1 ⟨rfl, hb1⟩
  have hs1 := hb1.size
  have HB1 := Lib.hid (hb1)
  clear hb1
  go_wp2_with (go_at_call 78; refine (key_yes _ _ (by kernel_rfl)).mono ?_; rintro e w' ⟨rfl, rfl⟩)
  rw [rounds_succ]
  go_wp2_with (fail)
  refine (cutN_z _).mono ?_
  rintro e w2 ⟨rfl, hb2⟩
  have hs2 := hb2.size
  have HB2 := Lib.hid (HB1.out.trans (hb2.mono hs1))
  clear hb2
  have hs2 := HB2.out.size
  go_wp2_with (go_at_call 78; refine (key_yes _ _ (by kernel_rfl)).mono ?_; rintro e w' ⟨rfl, rfl⟩)
  go_ret
  exact ⟨rfl, HB2.out⟩
theorem dotted_nm (j : Nat) (w : World) : Calls Tryz.prog 75 #[.string (nm j), .int .i64 8] w fun e w' => e = .returned (.bool true) ∧ Below w.heap.size w w' := by
  match j with
  | 0 => exact dottedN_0 w
  | 1 => exact dottedN_1 w
  | 2 => exact dottedN_2 w
  | 3 => exact dottedN_3 w
  | 4 => exact dottedN_4 w
  | 5 => exact dottedN_5 w
  | _ + 6 => exact dottedN_6 w
theorem isName_nm (j : Nat) (w : World) : Calls Tryz.prog 40 #[.string (nm j)] w fun e w' => e = .returned (.bool true) ∧ Below w.heap.size w w' := by
  go_enter Tryz.func40, Tryz.ntmps40
  go_wp2_with (fail)
  refine (dotted_nm _ _).mono ?_
  rintro e w1 ⟨rfl, hb⟩
  have HB := Lib.hid hb
  clear hb
  go_wp2_with (fail)
  go_ret
  exact ⟨rfl, HB.out⟩
end Go.Proofs.YtkcpfppjdjkjeaaGreatDoor

/- The shelf's Lays.n196 at this program. -/
namespace Go.Proofs.YtkcpfppjdjkjeaaGreatDoor
open Go.RowKit Go.Shelf

def lay196_ren : Go.Shelf.Ren := ⟨fun | 196 => 140 | 259 => 165 | n => n, fun | 9 => 9 | 4 => 4 | 3 => 3 | 5 => 5 | 12 => 12 | 119 => 202 | 0 => 0 | 46 => 117 | 139 => 205 | 138 => 204 | 53 => 153 | n => n, fun | 3 => 1 | 4 => 2 | n => n⟩
theorem lay196 : Lays.n196 Tryz.prog lay196_ren := {
  mixed := by kernel_rfl,
  f196 := Tryz.func140.trans (congrArg some (by kernel_rfl)),
  f259 := Tryz.func165.trans (congrArg some (by kernel_rfl)),
  t0 := Tryz.underlying0,
  a0 := Tryz.isAgg0,
  z0 := Tryz.sizeOf0,
  v0 := Tryz.zeroValue0,
  t3 := Tryz.underlying3,
  a3 := Tryz.isAgg3,
  z3 := Tryz.sizeOf3,
  v3 := Tryz.zeroValue3,
  t4 := Tryz.underlying4,
  a4 := Tryz.isAgg4,
  z4 := Tryz.sizeOf4,
  v4 := Tryz.zeroValue4,
  t5 := Tryz.underlying5,
  a5 := Tryz.isAgg5,
  z5 := Tryz.sizeOf5,
  v5 := Tryz.zeroValue5,
  t9 := Tryz.underlying9,
  a9 := Tryz.isAgg9,
  z9 := Tryz.sizeOf9,
  v9 := Tryz.zeroValue9,
  t12 := Tryz.underlying12,
  a12 := Tryz.isAgg12,
  z12 := Tryz.sizeOf12,
  v12 := Tryz.zeroValue12,
  t46 := Tryz.underlying117,
  a46 := Tryz.isAgg117,
  z46 := Tryz.sizeOf117,
  v46 := Tryz.zeroValue117,
  t53 := Tryz.underlying153,
  a53 := Tryz.isAgg153,
  z53 := Tryz.sizeOf153,
  v53 := Tryz.zeroValue153,
  t119 := Tryz.underlying202,
  a119 := Tryz.isAgg202,
  z119 := Tryz.sizeOf202,
  t138 := Tryz.underlying204,
  a138 := Tryz.isAgg204,
  z138 := Tryz.sizeOf204,
  v138 := Tryz.zeroValue204,
  t139 := Tryz.underlying205,
  a139 := Tryz.isAgg205,
  z139 := Tryz.sizeOf205,
  v139 := Tryz.zeroValue205,
  g3 := by kernel_rfl,
  g4 := by kernel_rfl }
end Go.Proofs.YtkcpfppjdjkjeaaGreatDoor

/- Owned rows kept, worlds grown; equal texts; no program in sight. -/
namespace Go.Proofs.YtkcpfppjdjkjeaaGreatDoor
open Go.RowKit

theorem own_belowP {w w' : World} {base : Nat} {e : TypeId} {size n : Nat} {v : Value} {xs : List Value} (h : w.ownsRow base e size v n xs) (hb : Below w.heap.size w w') : w'.ownsRow base e size v n xs := by
  refine h.kept (row := none) ⟨hb.os, hb.tape, hb.output, hb.size, fun i hi _ => hb.block i hi⟩ ?_
  cases hv : v.ownBlock with
  | none => exact .inl rfl
  | some g => exact .inr (by simp)
theorem toList_same (s t : ByteArray) : (s.toList = t.toList) = (s = t) := by
  apply propext
  constructor
  · intro h
    rw [Lib.toList_data, Lib.toList_data] at h
    cases s; cases t
    simpa using h
  · rintro rfl; rfl
theorem own_neG {w w' : World} {base : Nat} {e : TypeId} {size n : Nat} {v : Value} {xs : List Value} {g : Nat} (h : w.ownsRow base e size v n xs) (hg : w.grownBy w' (some g)) (hne : ∀ q, v.ownBlock = some q → q ≠ g) : w'.ownsRow base e size v n xs := by
  refine h.kept (row := some g) hg ?_
  cases hv : v.ownBlock with
  | none => exact .inl rfl
  | some q => exact .inr (by have := hne q hv; simpa using this)
theorem own_apart {w : World} {base base' : Nat} {e e' : TypeId} {size size' n n' : Nat} {v v' : Value} {xs xs' : List Value} (h : w.ownsRow base e size v n xs) (h' : w.ownsRow base' e' size' v' n' xs') (hne : e' ≠ e) : v.ownBlock = none ∨ v.ownBlock ≠ v'.ownBlock := by
  rcases h.2 with ⟨rfl, _⟩ | ⟨g, cap, cur, rfl, _, hh, _⟩
  · exact .inl rfl
  · exact .inr (own_ne h' hh hne)
theorem grown_more {w w1 w2 : World} {r row : Option Nat} (h : w.grownBy w1 r) (h2 : w1.grownBy w2 row) (hr : ∀ g, row = some g → w.heap.size ≤ g) : w.grownBy w2 r :=
  ⟨h2.os.trans h.os, h2.tape.trans h.tape, h2.output.trans h.output, Nat.le_trans h.size h2.size, fun k hk hne => (h2.block k (by have := h.size; omega) (by intro e; have := hr _ e.symm; omega)).trans (h.block k hk hne)⟩
theorem grown_belowP {w w' : World} {r : Option Nat} (hb : Below w.heap.size w w') : w.grownBy w' r := ⟨hb.os, hb.tape, hb.output, hb.size, fun i hi _ => hb.block i hi⟩
end Go.Proofs.YtkcpfppjdjkjeaaGreatDoor

/- unicode/utf8.ValidString at the library's tables as laid. -/
namespace Go.Proofs.YtkcpfppjdjkjeaaGreatDoor
open Go.RowKit Go.Shelf

/-- The library's two tables are as they were laid. -/
def U8T (w : World) : Prop := Lib.Utf8Tabs (lay196_ren.g 3) (lay196_ren.g 4) w
theorem U8T.below {w w' : World} (h : U8T w) (hb : Below w.heap.size w w') : U8T w' := Utf8Tabs_below h hb
theorem valid_at (s : ByteArray) (w : World) (hs : s.size ≤ 1000) (hv : Lib.validD s.data.toList = true) (hT : U8T w) : Calls Tryz.prog 140 #[.string s] w fun e w' => e = .returned (.bool true) ∧ Below w.heap.size w w' := by
  refine (Any.utf8_ValidString lay196 s w (by omega) hT).mono ?_
  rintro e w' ⟨h, hb⟩
  rw [hv] at h
  exact ⟨h, hb⟩

end Go.Proofs.YtkcpfppjdjkjeaaGreatDoor

/- base.Unmarked at the six texts, twin.valueFault at right values. Printed by gen_PrE.py. -/
namespace Go.Proofs.YtkcpfppjdjkjeaaGreatDoor
open Go.RowKit Go.Shelf

theorem unmarked_0 (w : World) (hT : U8T w) : Calls Tryz.prog 114 #[.string ⟨#[]⟩] w fun e w' => e = .returned (.bool true) ∧ Below w.heap.size w w' := by
  have HV := Lib.hid (valid_at ⟨#[]⟩ w (by decide) (by decide) hT)
  go_enter Tryz.func114, Tryz.ntmps114
  go_wp2_with (fail)
  refine wp_loop_rounds 1 ?_
  rw [rounds_succ]
  go_wp2_with (fail)
  refine HV.out.mono ?_
  rintro e w1 ⟨rfl, hb⟩
  have HB := Lib.hid hb
  clear hb
  go_wp2_with (fail)
  go_ret
  exact ⟨rfl, HB.out⟩
theorem unmarked_1 (w : World) (hT : U8T w) : Calls Tryz.prog 114 #[.string ⟨#[120]⟩] w fun e w' => e = .returned (.bool true) ∧ Below w.heap.size w w' := by
  have HV := Lib.hid (valid_at ⟨#[120]⟩ w (by decide) (by decide) hT)
  go_enter Tryz.func114, Tryz.ntmps114
  go_wp2_with (fail)
  refine wp_loop_rounds 2 ?_
  rw [rounds_succ]
  go_wp2_with (fail)
  rw [rounds_succ]
  go_wp2_with (fail)
  refine HV.out.mono ?_
  rintro e w1 ⟨rfl, hb⟩
  have HB := Lib.hid hb
  clear hb
  go_wp2_with (fail)
  go_ret
  exact ⟨rfl, HB.out⟩
theorem unmarked_2 (w : World) (hT : U8T w) : Calls Tryz.prog 114 #[.string ⟨#[97, 32, 34, 98, 34]⟩] w fun e w' => e = .returned (.bool true) ∧ Below w.heap.size w w' := by
  have HV := Lib.hid (valid_at ⟨#[97, 32, 34, 98, 34]⟩ w (by decide) (by decide) hT)
  go_enter Tryz.func114, Tryz.ntmps114
  go_wp2_with (fail)
  refine wp_loop_rounds 6 ?_
  rw [rounds_succ]
  go_wp2_with (fail)
  rw [rounds_succ]
  go_wp2_with (fail)
  rw [rounds_succ]
  go_wp2_with (fail)
  rw [rounds_succ]
  go_wp2_with (fail)
  rw [rounds_succ]
  go_wp2_with (fail)
  rw [rounds_succ]
  go_wp2_with (fail)
  refine HV.out.mono ?_
  rintro e w1 ⟨rfl, hb⟩
  have HB := Lib.hid hb
  clear hb
  go_wp2_with (fail)
  go_ret
  exact ⟨rfl, HB.out⟩
theorem unmarked_3 (w : World) (hT : U8T w) : Calls Tryz.prog 114 #[.string ⟨#[92]⟩] w fun e w' => e = .returned (.bool true) ∧ Below w.heap.size w w' := by
  have HV := Lib.hid (valid_at ⟨#[92]⟩ w (by decide) (by decide) hT)
  go_enter Tryz.func114, Tryz.ntmps114
  go_wp2_with (fail)
  refine wp_loop_rounds 2 ?_
  rw [rounds_succ]
  go_wp2_with (fail)
  rw [rounds_succ]
  go_wp2_with (fail)
  refine HV.out.mono ?_
  rintro e w1 ⟨rfl, hb⟩
  have HB := Lib.hid hb
  clear hb
  go_wp2_with (fail)
  go_ret
  exact ⟨rfl, HB.out⟩
theorem unmarked_4 (w : World) (hT : U8T w) : Calls Tryz.prog 114 #[.string ⟨#[195, 169]⟩] w fun e w' => e = .returned (.bool true) ∧ Below w.heap.size w w' := by
  have HV := Lib.hid (valid_at ⟨#[195, 169]⟩ w (by decide) (by decide) hT)
  go_enter Tryz.func114, Tryz.ntmps114
  go_wp2_with (fail)
  refine wp_loop_rounds 3 ?_
  rw [rounds_succ]
  go_wp2_with (fail)
  rw [rounds_succ]
  go_wp2_with (fail)
  rw [rounds_succ]
  go_wp2_with (fail)
  refine HV.out.mono ?_
  rintro e w1 ⟨rfl, hb⟩
  have HB := Lib.hid hb
  clear hb
  go_wp2_with (fail)
  go_ret
  exact ⟨rfl, HB.out⟩
theorem unmarked_5 (w : World) (hT : U8T w) : Calls Tryz.prog 114 #[.string ⟨#[45, 32, 49]⟩] w fun e w' => e = .returned (.bool true) ∧ Below w.heap.size w w' := by
  have HV := Lib.hid (valid_at ⟨#[45, 32, 49]⟩ w (by decide) (by decide) hT)
  go_enter Tryz.func114, Tryz.ntmps114
  go_wp2_with (fail)
  refine wp_loop_rounds 4 ?_
  rw [rounds_succ]
  go_wp2_with (fail)
  rw [rounds_succ]
  go_wp2_with (fail)
  rw [rounds_succ]
  go_wp2_with (fail)
  rw [rounds_succ]
  go_wp2_with (fail)
  refine HV.out.mono ?_
  rintro e w1 ⟨rfl, hb⟩
  have HB := Lib.hid hb
  clear hb
  go_wp2_with (fail)
  go_ret
  exact ⟨rfl, HB.out⟩
theorem unmarked_wd (i : Nat) (w : World) (hT : U8T w) : Calls Tryz.prog 114 #[.string (wdT i)] w fun e w' => e = .returned (.bool true) ∧ Below w.heap.size w w' := by
  match i with
  | 0 => exact unmarked_0 w hT
  | 1 => exact unmarked_1 w hT
  | 2 => exact unmarked_2 w hT
  | 3 => exact unmarked_3 w hT
  | 4 => exact unmarked_4 w hT
  | _ + 5 => exact unmarked_5 w hT
theorem wdT_size (i : Nat) : (wdT i).size ≤ 5 := by
  match i with
  | 0 => exact (by decide : (wdT 0).size ≤ 5)
  | 1 => exact (by decide : (wdT 1).size ≤ 5)
  | 2 => exact (by decide : (wdT 2).size ≤ 5)
  | 3 => exact (by decide : (wdT 3).size ≤ 5)
  | 4 => exact (by decide : (wdT 4).size ≤ 5)
  | _ + 5 => exact (by decide : (wdT 5).size ≤ 5)
set_option maxRecDepth 100000 in
set_option maxHeartbeats 1000000 in
theorem valueFault_noneV  (w : World) (hT : U8T w) : Calls Tryz.prog 67 #[.agg #[.int .i64 0, .bool false, .int .i64 0, .string ⟨#[]⟩]] w fun e w' => e = .returned (.int .i64 0) ∧ Below w.heap.size w w' := by
  have HT := Lib.hid (fun V (hV : Below w.heap.size w V) => hT.below hV)
  clear hT
  go_enter Tryz.func67, Tryz.ntmps67
  go_wp2_with (go_at_call 33; refine (out_no _ _ _ _ (by omega) (by omega)).mono ?_; rintro e w' ⟨rfl, rfl⟩)
  refine (unmarked_0 _ (HT.out _ (((Below.refl _ _).alloc (Nat.le_refl _) _).alloc (by simp) _))).mono ?_
  rintro e w1 ⟨rfl, hb⟩
  have HB := Lib.hid (((((Below.refl _ _).alloc (Nat.le_refl _) _).alloc (by simp) _)).trans (hb.mono (by simp; omega)))
  clear hb
  go_wp2_with (fail)
  go_ret
  exact ⟨rfl, HB.out⟩
set_option maxRecDepth 100000 in
set_option maxHeartbeats 1000000 in
theorem valueFault_flagV (b : Bool) (w : World) (hT : U8T w) : Calls Tryz.prog 67 #[.agg #[.int .i64 1, .bool b, .int .i64 0, .string ⟨#[]⟩]] w fun e w' => e = .returned (.int .i64 0) ∧ Below w.heap.size w w' := by
  have HT := Lib.hid (fun V (hV : Below w.heap.size w V) => hT.below hV)
  clear hT
  go_enter Tryz.func67, Tryz.ntmps67
  go_wp2_with (go_at_call 33; refine (out_no _ _ _ _ (by omega) (by omega)).mono ?_; rintro e w' ⟨rfl, rfl⟩)
  refine (unmarked_0 _ (HT.out _ (((Below.refl _ _).alloc (Nat.le_refl _) _).alloc (by simp) _))).mono ?_
  rintro e w1 ⟨rfl, hb⟩
  have HB := Lib.hid (((((Below.refl _ _).alloc (Nat.le_refl _) _).alloc (by simp) _)).trans (hb.mono (by simp; omega)))
  clear hb
  go_wp2_with (fail)
  go_ret
  exact ⟨rfl, HB.out⟩
set_option maxRecDepth 100000 in
set_option maxHeartbeats 1000000 in
theorem valueFault_numberV (t : Int) (w : World) (h1 : -1000000000 ≤ t) (h2 : t ≤ 1000000000) (hT : U8T w) : Calls Tryz.prog 67 #[.agg #[.int .i64 2, .bool false, .int .i64 t, .string ⟨#[]⟩]] w fun e w' => e = .returned (.int .i64 0) ∧ Below w.heap.size w w' := by
  have HT := Lib.hid (fun V (hV : Below w.heap.size w V) => hT.below hV)
  clear hT
  go_enter Tryz.func67, Tryz.ntmps67
  go_wp2_with (go_at_call 33; refine (out_no _ _ _ _ (by omega) (by omega)).mono ?_; rintro e w' ⟨rfl, rfl⟩)
  refine (unmarked_0 _ (HT.out _ (((Below.refl _ _).alloc (Nat.le_refl _) _).alloc (by simp) _))).mono ?_
  rintro e w1 ⟨rfl, hb⟩
  have HB := Lib.hid (((((Below.refl _ _).alloc (Nat.le_refl _) _).alloc (by simp) _)).trans (hb.mono (by simp; omega)))
  clear hb
  go_wp2_with (fail)
  go_ret
  exact ⟨rfl, HB.out⟩
set_option maxRecDepth 100000 in
set_option maxHeartbeats 1000000 in
theorem valueFault_wordsV (i : Nat) (w : World) (hT : U8T w) : Calls Tryz.prog 67 #[.agg #[.int .i64 3, .bool false, .int .i64 0, .string (wdT i)]] w fun e w' => e = .returned (.int .i64 0) ∧ Below w.heap.size w w' := by
  have hsz := wdT_size i
  have hszI : ¬ ((wdT i).size : Int) > 1000 := by omega
  have hszI2 : ¬ (1000 : Int) < ((wdT i).size : Int) := by omega
  have HT := Lib.hid (fun V (hV : Below w.heap.size w V) => hT.below hV)
  clear hT
  go_enter Tryz.func67, Tryz.ntmps67
  go_wp2_with (go_at_call 33; refine (out_no _ _ _ _ (by omega) (by omega)).mono ?_; rintro e w' ⟨rfl, rfl⟩)
  refine (unmarked_wd i _ (HT.out _ (((Below.refl _ _).alloc (Nat.le_refl _) _).alloc (by simp) _))).mono ?_
  rintro e w1 ⟨rfl, hb⟩
  have HB := Lib.hid (((((Below.refl _ _).alloc (Nat.le_refl _) _).alloc (by simp) _)).trans (hb.mono (by simp; omega)))
  clear hb
  go_wp2_with (fail)
  go_ret
  exact ⟨rfl, HB.out⟩
theorem valueFault_any (v : Pv) (w : World) (hv : v = pvNone ∨ PvOk v) (hT : U8T w) : Calls Tryz.prog 67 #[.agg #[.int .i64 v.k, .bool v.f, .int .i64 v.n, .string v.s]] w fun e w' => e = .returned (.int .i64 0) ∧ Below w.heap.size w w' := by
  obtain ⟨k, f, n, s⟩ := v
  rcases hv with h | ⟨h1, h2, h3⟩ | ⟨h1, h2, h3, h4, h5⟩ | ⟨h1, h2, h3, i, h4, h5⟩
  · cases h
    exact valueFault_noneV w hT
  · simp only at h1 h2 h3
    subst h1 h2 h3
    exact valueFault_flagV f w hT
  · simp only at h1 h2 h3 h4 h5
    subst h1 h2 h3
    exact valueFault_numberV n w h4 h5 hT
  · simp only at h1 h2 h3 h5
    subst h1 h2 h3 h5
    exact valueFault_wordsV i w hT
end Go.Proofs.YtkcpfppjdjkjeaaGreatDoor

/- twin.above at the seven names, with the closure of CheckProps. Printed by gen_PrF.py. -/
namespace Go.Proofs.YtkcpfppjdjkjeaaGreatDoor
open Go.RowKit

/-- The ranks above a rank. -/
def ups (j : Nat) : List Nat :=
  match j with
  | 1 => [0]
  | 2 => [0, 1]
  | 3 => [0]
  | 6 => [5]
  | _ => []
def inF (l : List Pr) (i : Nat) : Bool := l.any (fun p => p.1 == i)
def abvF (l : List Pr) (j : Nat) : Bool := (ups j).any (inF l)
theorem inF_true {l : List Pr} {i q : Nat} {v : Pv} (h : l[q]? = some (i, v)) : inF l i = true := by
  unfold inF
  rw [List.any_eq_true]
  exact ⟨(i, v), List.mem_of_getElem? h, by simp⟩
theorem inF_false {l : List Pr} {i : Nat} (h : ∀ x ∈ l, x.1 ≠ i) : inF l i = false := by
  unfold inF
  rw [List.any_eq_false]
  intro x hx
  simpa using h x hx
set_option maxRecDepth 100000 in
theorem closure1_any (l : List Pr) (n c i bl : Nat) (A : Option Addr) (w : World) (hl : PrsOk l) (hn : l.length = n) (hn7 : n ≤ 500) (hi : i < 7) (hr : Row w w.heap.size A (recs prC l)) (hc : w.cell? ⟨bl, 0, none⟩ = some (.slice A n c)) :
    Calls Tryz.prog 73 #[.string (nm i), .pointer (some ⟨bl, 0, none⟩)] w fun e w' => e = .returned (.bool (inF l i)) ∧ Below w.heap.size w w' := by
  have HF := Lib.hid (find_any l n c i A w hl hn hn7 hi hr)
  clear hl hn hr
  go_enter Tryz.func73, Tryz.ntmps73
  go_wp2_with (fail)
  refine HF.out.mono ?_
  rintro e w1 ⟨r, rfl, hr1, hb1⟩
  have HB := Lib.hid hb1
  clear hb1
  rcases hr1 with ⟨q, v, rfl, hq⟩ | ⟨rfl, hno⟩
  · have hin := Lib.hid (inF_true hq)
    clear hq
    go_wp2_with (fail)
    go_ret
    exact ⟨by rw [hin.out]; rfl, HB.out⟩
  · have hin := Lib.hid (inF_false hno)
    clear hno
    go_wp2_with (fail)
    go_ret
    exact ⟨by rw [hin.out]; rfl, HB.out⟩
/-- What the closure needs. -/
def ClH (l : List Pr) (f : Value) (w : World) : Prop := ∀ V, Below w.heap.size w V → ∀ i, i < 7 → Calls Tryz.prog 73 #[.string (nm i), f] V fun e w' => e = .returned (.bool (inF l i)) ∧ Below V.heap.size V w'

theorem aboveN_0 (l : List Pr) (a : Value) (w : World) (h : ClH l a w) : Calls Tryz.prog 72 #[.string ⟨#[97]⟩, .func (.func 73) #[] #[a]] w fun e w' => e = .returned (.bool (abvF l 0)) ∧ Below w.heap.size w w' := by
  have HC := Lib.hid h
  clear h
  go_enter Tryz.func72, Tryz.ntmps72
  go_wp2_with (fail)
  refine wp_loop_rounds 2 ?_
  rw [rounds_succ]
  go_wp2_with (fail)
  rw [rounds_succ]
  go_wp2_with (fail)
  go_ret
  exact ⟨by rw [show abvF l 0 = false by simp [abvF, ups]]; rfl, Below.refl _ _⟩
theorem aboveN_1 (l : List Pr) (a : Value) (w : World) (h : ClH l a w) : Calls Tryz.prog 72 #[.string ⟨#[97, 46, 120]⟩, .func (.func 73) #[] #[a]] w fun e w' => e = .returned (.bool (abvF l 1)) ∧ Below w.heap.size w w' := by
  have HC := Lib.hid h
  clear h
  go_enter Tryz.func72, Tryz.ntmps72
  go_wp2_with (fail)
  refine wp_loop_rounds 4 ?_
  rw [rounds_succ]
  go_wp2_with (fail)
  rw [rounds_succ]
  go_wp2_with (fail)
  refine (HC.out _ (Below.refl _ _) 0 (by omega)).mono ?_
  rintro e w1 ⟨rfl, hb1⟩
  have HB1 := Lib.hid hb1
  clear hb1
  by_cases hq1 : inF l 0 = true
  · have hab := Lib.hid (show abvF l 1 = true by simp [abvF, ups, hq1])
    rw [hq1]
    clear hq1
    go_wp2_with (fail)
    go_ret
    exact ⟨by rw [hab.out]; rfl, HB1.out⟩
  have hz1 : inF l 0 = false := by simpa using hq1
  rw [hz1]
  have HZ1 := Lib.hid hz1
  clear hq1 hz1
  go_wp2_with (fail)
  rw [rounds_succ]
  go_wp2_with (fail)
  rw [rounds_succ]
  go_wp2_with (fail)
  go_ret
  exact ⟨by rw [show abvF l 1 = false by simp [abvF, ups, HZ1.out]]; rfl, HB1.out⟩
theorem aboveN_2 (l : List Pr) (a : Value) (w : World) (h : ClH l a w) : Calls Tryz.prog 72 #[.string ⟨#[97, 46, 120, 46, 112]⟩, .func (.func 73) #[] #[a]] w fun e w' => e = .returned (.bool (abvF l 2)) ∧ Below w.heap.size w w' := by
  have HC := Lib.hid h
  clear h
  go_enter Tryz.func72, Tryz.ntmps72
  go_wp2_with (fail)
  refine wp_loop_rounds 6 ?_
  rw [rounds_succ]
  go_wp2_with (fail)
  rw [rounds_succ]
  go_wp2_with (fail)
  refine (HC.out _ (Below.refl _ _) 0 (by omega)).mono ?_
  rintro e w1 ⟨rfl, hb1⟩
  have HB1 := Lib.hid hb1
  clear hb1
  by_cases hq1 : inF l 0 = true
  · have hab := Lib.hid (show abvF l 2 = true by simp [abvF, ups, hq1])
    rw [hq1]
    clear hq1
    go_wp2_with (fail)
    go_ret
    exact ⟨by rw [hab.out]; rfl, HB1.out⟩
  have hz1 : inF l 0 = false := by simpa using hq1
  rw [hz1]
  have HZ1 := Lib.hid hz1
  clear hq1 hz1
  go_wp2_with (fail)
  rw [rounds_succ]
  go_wp2_with (fail)
  rw [rounds_succ]
  go_wp2_with (fail)
  refine (HC.out _ HB1.out 1 (by omega)).mono ?_
  rintro e w2 ⟨rfl, hb2⟩
  have HB2 := Lib.hid (HB1.out.trans (hb2.mono HB1.out.size))
  clear hb2
  by_cases hq2 : inF l 1 = true
  · have hab := Lib.hid (show abvF l 2 = true by simp [abvF, ups, hq2])
    rw [hq2]
    clear hq2
    go_wp2_with (fail)
    go_ret
    exact ⟨by rw [hab.out]; rfl, HB2.out⟩
  have hz2 : inF l 1 = false := by simpa using hq2
  rw [hz2]
  have HZ2 := Lib.hid hz2
  clear hq2 hz2
  go_wp2_with (fail)
  rw [rounds_succ]
  go_wp2_with (fail)
  rw [rounds_succ]
  go_wp2_with (fail)
  go_ret
  exact ⟨by rw [show abvF l 2 = false by simp [abvF, ups, HZ1.out, HZ2.out]]; rfl, HB2.out⟩
theorem aboveN_3 (l : List Pr) (a : Value) (w : World) (h : ClH l a w) : Calls Tryz.prog 72 #[.string ⟨#[97, 46, 121]⟩, .func (.func 73) #[] #[a]] w fun e w' => e = .returned (.bool (abvF l 3)) ∧ Below w.heap.size w w' := by
  have HC := Lib.hid h
  clear h
  go_enter Tryz.func72, Tryz.ntmps72
  go_wp2_with (fail)
  refine wp_loop_rounds 4 ?_
  rw [rounds_succ]
  go_wp2_with (fail)
  rw [rounds_succ]
  go_wp2_with (fail)
  refine (HC.out _ (Below.refl _ _) 0 (by omega)).mono ?_
  rintro e w1 ⟨rfl, hb1⟩
  have HB1 := Lib.hid hb1
  clear hb1
  by_cases hq1 : inF l 0 = true
  · have hab := Lib.hid (show abvF l 3 = true by simp [abvF, ups, hq1])
    rw [hq1]
    clear hq1
    go_wp2_with (fail)
    go_ret
    exact ⟨by rw [hab.out]; rfl, HB1.out⟩
  have hz1 : inF l 0 = false := by simpa using hq1
  rw [hz1]
  have HZ1 := Lib.hid hz1
  clear hq1 hz1
  go_wp2_with (fail)
  rw [rounds_succ]
  go_wp2_with (fail)
  rw [rounds_succ]
  go_wp2_with (fail)
  go_ret
  exact ⟨by rw [show abvF l 3 = false by simp [abvF, ups, HZ1.out]]; rfl, HB1.out⟩
theorem aboveN_4 (l : List Pr) (a : Value) (w : World) (h : ClH l a w) : Calls Tryz.prog 72 #[.string ⟨#[97, 98]⟩, .func (.func 73) #[] #[a]] w fun e w' => e = .returned (.bool (abvF l 4)) ∧ Below w.heap.size w w' := by
  have HC := Lib.hid h
  clear h
  go_enter Tryz.func72, Tryz.ntmps72
  go_wp2_with (fail)
  refine wp_loop_rounds 3 ?_
  rw [rounds_succ]
  go_wp2_with (fail)
  rw [rounds_succ]
  go_wp2_with (fail)
  rw [rounds_succ]
  go_wp2_with (fail)
  go_ret
  exact ⟨by rw [show abvF l 4 = false by simp [abvF, ups]]; rfl, Below.refl _ _⟩
theorem aboveN_5 (l : List Pr) (a : Value) (w : World) (h : ClH l a w) : Calls Tryz.prog 72 #[.string ⟨#[98]⟩, .func (.func 73) #[] #[a]] w fun e w' => e = .returned (.bool (abvF l 5)) ∧ Below w.heap.size w w' := by
  have HC := Lib.hid h
  clear h
  go_enter Tryz.func72, Tryz.ntmps72
  go_wp2_with (fail)
  refine wp_loop_rounds 2 ?_
  rw [rounds_succ]
  go_wp2_with (fail)
  rw [rounds_succ]
  go_wp2_with (fail)
  go_ret
  exact ⟨by rw [show abvF l 5 = false by simp [abvF, ups]]; rfl, Below.refl _ _⟩
theorem aboveN_6 (l : List Pr) (a : Value) (w : World) (h : ClH l a w) : Calls Tryz.prog 72 #[.string ⟨#[98, 46, 122]⟩, .func (.func 73) #[] #[a]] w fun e w' => e = .returned (.bool (abvF l 6)) ∧ Below w.heap.size w w' := by
  have HC := Lib.hid h
  clear h
  go_enter Tryz.func72, Tryz.ntmps72
  go_wp2_with (fail)
  refine wp_loop_rounds 4 ?_
  rw [rounds_succ]
  go_wp2_with (fail)
  rw [rounds_succ]
  go_wp2_with (fail)
  refine (HC.out _ (Below.refl _ _) 5 (by omega)).mono ?_
  rintro e w1 ⟨rfl, hb1⟩
  have HB1 := Lib.hid hb1
  clear hb1
  by_cases hq1 : inF l 5 = true
  · have hab := Lib.hid (show abvF l 6 = true by simp [abvF, ups, hq1])
    rw [hq1]
    clear hq1
    go_wp2_with (fail)
    go_ret
    exact ⟨by rw [hab.out]; rfl, HB1.out⟩
  have hz1 : inF l 5 = false := by simpa using hq1
  rw [hz1]
  have HZ1 := Lib.hid hz1
  clear hq1 hz1
  go_wp2_with (fail)
  rw [rounds_succ]
  go_wp2_with (fail)
  rw [rounds_succ]
  go_wp2_with (fail)
  go_ret
  exact ⟨by rw [show abvF l 6 = false by simp [abvF, ups, HZ1.out]]; rfl, HB1.out⟩
theorem above_nm (l : List Pr) (a : Value) (j : Nat) (w : World) (hj : j < 7) (h : ClH l a w) : Calls Tryz.prog 72 #[.string (nm j), .func (.func 73) #[] #[a]] w fun e w' => e = .returned (.bool (abvF l j)) ∧ Below w.heap.size w w' := by
  have h1 : j = 0 ∨ j = 1 ∨ j = 2 ∨ j = 3 ∨ j = 4 ∨ j = 5 ∨ j = 6 := by omega
  rcases h1 with e | e | e | e | e | e | e <;> subst e
  · exact aboveN_0 l a w h
  · exact aboveN_1 l a w h
  · exact aboveN_2 l a w h
  · exact aboveN_3 l a w h
  · exact aboveN_4 l a w h
  · exact aboveN_5 l a w h
  · exact aboveN_6 l a w h
end Go.Proofs.YtkcpfppjdjkjeaaGreatDoor

/- twin.CheckProps at right properties by its contract. -/
namespace Go.Proofs.YtkcpfppjdjkjeaaGreatDoor
open Go.RowKit

theorem nm_le (i j : Nat) (hi : i < 7) (hj : j < 7) : (Op.bytesLess (nm i).toList (nm j).toList || (nm i).toList == (nm j).toList) = decide (i ≤ j) := by
  rw [Lib.toList_data, Lib.toList_data]
  have h1 : i = 0 ∨ i = 1 ∨ i = 2 ∨ i = 3 ∨ i = 4 ∨ i = 5 ∨ i = 6 := by omega
  have h2 : j = 0 ∨ j = 1 ∨ j = 2 ∨ j = 3 ∨ j = 4 ∨ j = 5 ∨ j = 6 := by omega
  rcases h1 with h | h | h | h | h | h | h <;> subst h <;> rcases h2 with h | h | h | h | h | h | h <;> subst h <;> decide
def cpF (l : List Pr) : Int := if l.any (fun p => abvF l p.1) = true then 13 else 0
theorem cpF_no {l : List Pr} (h : ∀ (q : Nat) (x : Pr), l[q]? = some x → abvF l x.1 = false) : cpF l = 0 := by
  unfold cpF
  rw [if_neg]
  intro hc
  rw [List.any_eq_true] at hc
  obtain ⟨x, hx, hx2⟩ := hc
  obtain ⟨q, hq⟩ := List.getElem?_of_mem hx
  rw [h q x hq] at hx2
  cases hx2
theorem cpF_yes {l : List Pr} {q : Nat} {x : Pr} (h : l[q]? = some x) (hx : abvF l x.1 = true) : cpF l = 13 := by
  unfold cpF
  rw [if_pos]
  rw [List.any_eq_true]
  exact ⟨x, List.mem_of_getElem? h, hx⟩
/-- Right properties without a name above another one. -/
def PrsGood (l : List Pr) : Prop := PrsOk l ∧ cpF l = 0
set_option maxRecDepth 100000 in
set_option maxHeartbeats 4000000 in
theorem checkProps_any (l : List Pr) (n c : Nat) (A : Option Addr) (w : World) (hl : PrsOk l) (hn : l.length = n) (hn7 : n ≤ 500) (hr : Row w w.heap.size A (recs prC l)) (hT : U8T w) :
    Calls Tryz.prog 39 #[.slice A n c] w fun e w' => e = .returned (.int .i64 (cpF l)) ∧ Below w.heap.size w w' := by
  have HR := Lib.hid hr
  have HL := Lib.hid hl
  have HN := Lib.hid hn
  have HT := Lib.hid (fun V (hV : Below w.heap.size w V) => hT.below hV)
  have hnI : ¬ (n : Int) > 500 := by omega
  have hnI2 : ¬ (500 : Int) < n := by omega
  clear hr hl hn hT
  go_enter Tryz.func39, Tryz.ntmps39
  go_wp2_with (fail)
  go_loopw [13] (fun s wr => ∃ (i : Nat), i ≤ n ∧ s = .int .i64 (i : Int) ∧ Below w.heap.size w wr ∧ wr.heap[w.heap.size]? = some (.cells #[.slice A n c] 28 (0, 0))) (fun s _ => n - (intOf s).toNat)
  case atStart => exact ⟨0, by omega, rfl, (Below.refl _ _).alloc (Nat.le_refl _) _, heap_new w _⟩
  case round =>
    obtain ⟨i, hin, rfl, hbr, hbx⟩ := hrel
    have hbs := hbr.size
    have hbl : w.heap.size < wr.heap.size := (Array.getElem?_eq_some_iff.1 hbx).1
    have HB := Lib.hid hbr
    have HX := Lib.hid hbx
    have x0 := cell_of_blk (j := 0) hbx rfl
    clear hbr hbx
    by_cases hlt : i < n
    · have hltI : (i : Int) < n := by omega
      obtain ⟨p, hp⟩ : ∃ p, l[i]? = some p := ⟨_, List.getElem?_eq_getElem (by have := HN.out; omega)⟩
      obtain ⟨b, o, rfl, hb, hC⟩ := (HR.out.below HB.out).posR prC_len (by omega) (by have := HN.out; omega)
      have hp7 := (HL.out.2 p (List.mem_of_getElem? hp)).1
      have hpk := (HL.out.2 p (List.mem_of_getElem? hp)).2.kne
      have HPv := Lib.hid (HL.out.2 p (List.mem_of_getElem? hp)).2
      obtain ⟨c0, c1, c2, c3, c4⟩ := pr_cells hC i p hp
      have HP := Lib.hid hp
      clear hp hC
      go_wp2_with (fail)
      refine (isName_nm p.1 _).mono ?_
      rintro e w1 ⟨rfl, hb1⟩
      have hg := (hb1.block wr.heap.size (by simp)).trans (heap_new wr (.cells #[.string (nm p.1), .int .i64 p.2.k, .bool p.2.f, .int .i64 p.2.n, .string p.2.s] 37))
      have hz1 := hb1.size
      simp only [World.size_alloc] at hz1
      have hB1 := (HB.out.alloc hbs (.cells #[.string (nm p.1), .int .i64 p.2.k, .bool p.2.f, .int .i64 p.2.n, .string p.2.s] 37)).trans (hb1.mono (by simp; omega))
      have hx1 := (hb1.block w.heap.size (by simp; omega)).trans ((Below.heap_alloc wr _ _ hbl).trans HX.out)
      have g0 := cell_of_blk (j := 0) hg rfl
      have g1 := cell_of_blk (j := 1) hg rfl
      have g2 := cell_of_blk (j := 2) hg rfl
      have g3 := cell_of_blk (j := 3) hg rfl
      have g4 := cell_of_blk (j := 4) hg rfl
      have HB1 := Lib.hid hB1
      have HX1 := Lib.hid hx1
      have HG1 := Lib.hid hg
      have hlt1 : wr.heap.size < w1.heap.size := by omega
      clear hb1 hB1 hx1 hg c0 c1 c2 c3 c4 x0
      go_wp2_with (fail)
      refine (valueFault_any p.2 w1 (.inr HPv.out) (HT.out _ HB1.out)).mono ?_
      rintro e w2 ⟨rfl, hb2⟩
      have hz2 := hb2.size
      have hg := (hb2.block wr.heap.size hlt1).trans HG1.out
      have hx2 := (hb2.block w.heap.size (by omega)).trans HX1.out
      have hB2 := HB1.out.trans (hb2.mono (by omega))
      clear g0 g1 g2 g3 g4
      have g0 := cell_of_blk (j := 0) hg rfl
      have g1 := cell_of_blk (j := 1) hg rfl
      have x0 := cell_of_blk (j := 0) hx2 rfl
      have HB2 := Lib.hid hB2
      have HX2 := Lib.hid hx2
      clear hb2 hg hx2 hB2
      by_cases hi0 : i = 0
      · subst hi0
        have hd : decide ((0 : Int) < 0) = false := by decide
        go_wp2_with (fail)
        go_quiet (fail)
        go_wp2_with (fail)
        go_roundw
        case rel => exact ⟨1, by omega, by simp, below_drewN HB2.out _, HX2.out⟩
        case measure => simp [intOf]; omega
      · have hi1 : 1 ≤ i := by omega
        have hi1I : (0 : Int) < i := by omega
        have hd : decide ((0 : Int) < i) = true := by simpa using hi1I
        have hd2 : decide (0 < i) = true := by simp; omega
        have hd3 : 0 < i := hi1
        obtain ⟨q, hq⟩ : ∃ q, l[i - 1]? = some q := ⟨_, List.getElem?_eq_getElem (by have := HN.out; omega)⟩
        obtain ⟨b', o', e', hb', hC⟩ := (HR.out.below HB2.out).posR prC_len (by omega) (by have := HN.out; omega)
        cases e'
        have hq7 := (HL.out.2 q (List.mem_of_getElem? hq)).1
        have hqp := rising_get HL.out.1 hq HP.out (by omega)
        obtain ⟨d0, _⟩ := pr_cells hC (i - 1) q hq
        have hwrap : (i : Int) - 1 = ((i - 1 : Nat) : Int) := by omega
        clear hC hq
        go_wp2_with (fail)
        go_quiet (fail)
        have hle : (Op.bytesLess (nm p.1).toList (nm q.1).toList || (nm p.1).toList == (nm q.1).toList) = false := by rw [nm_le _ _ hp7 hq7]; simp; omega
        rw [hle]
        clear hle
        go_wp2_with (fail)
        go_roundw
        case rel => exact ⟨i + 1, by omega, by simp, below_drewN HB2.out _, HX2.out⟩
        case measure => simp [intOf]; omega
    · have hltI : ¬ (i : Int) < n := by omega
      have hin' : i = n := by omega
      subst hin'
      go_wp2_with (fail)
      go_loopw [48] (fun s wr => ∃ (k : Nat), k ≤ i ∧ s = .int .i64 (k : Int) ∧ Below w.heap.size w wr ∧ wr.heap[w.heap.size]? = some (.cells #[.slice A i c] 28 (0, 0)) ∧ Hid (∀ q x, q < k → l[q]? = some x → abvF l x.1 = false)) (fun s _ => i - (intOf s).toNat)
      case atStart => exact ⟨0, by omega, rfl, HB.out, HX.out, Lib.hid (fun q x hq _ => by omega)⟩
      case round =>
        obtain ⟨k, hki, rfl, hbq, hxq, HN2⟩ := hrel
        have hbs2 := hbq.size
        have hbl2 : w.heap.size < wr.heap.size := (Array.getElem?_eq_some_iff.1 hxq).1
        have HBq := Lib.hid hbq
        have HXq := Lib.hid hxq
        clear hbq hxq x0
        by_cases hlt2 : k < i
        · have hltI2 : (k : Int) < i := by omega
          obtain ⟨p, hp⟩ : ∃ p, l[k]? = some p := ⟨_, List.getElem?_eq_getElem (by have := HN.out; omega)⟩
          obtain ⟨b, o, rfl, hb, hC⟩ := (HR.out.below HBq.out).posR prC_len (by omega) (by have := HN.out; omega)
          have hp7 := (HL.out.2 p (List.mem_of_getElem? hp)).1
          obtain ⟨c0, c1, c2, c3, c4⟩ := pr_cells hC k p hp
          have HP := Lib.hid hp
          clear hp hC
          go_wp2_with (fail)
          have HCl := Lib.hid (show ClH l (.pointer (some ⟨w.heap.size, 0, none⟩)) (wr.alloc (.cells #[.string (nm p.1), .int .i64 p.2.k, .bool p.2.f, .int .i64 p.2.n, .string p.2.s] 37)) from by
            intro V hV j hj
            have hwV : Below w.heap.size w V := (HBq.out.alloc hbs2 _).trans (hV.mono (by simp; omega))
            exact closure1_any l i c j w.heap.size _ V HL.out HN.out hn7 hj ((HR.out.below hwV).mono hwV.size) (cell_of_blk (j := 0) ((hV.block w.heap.size (by simp; omega)).trans ((Below.heap_alloc wr _ _ hbl2).trans HXq.out)) rfl))
          refine (above_nm l _ p.1 _ hp7 HCl.out).mono ?_
          rintro e w1 ⟨rfl, hb1⟩
          have HB1 := Lib.hid ((HBq.out.alloc hbs2 (.cells #[.string (nm p.1), .int .i64 p.2.k, .bool p.2.f, .int .i64 p.2.n, .string p.2.s] 37)).trans (hb1.mono (by simp; omega)))
          have HX1 := Lib.hid ((hb1.block w.heap.size (by simp; omega)).trans ((Below.heap_alloc wr _ _ hbl2).trans HXq.out))
          clear hb1
          by_cases hab : abvF l p.1 = true
          · have HF := Lib.hid (cpF_yes HP.out hab)
            rw [hab]
            clear hab
            go_wp2_with (fail)
            go_ret
            exact ⟨by rw [HF.out]; rfl, HB1.out⟩
          · have hab' : abvF l p.1 = false := by simpa using hab
            have HF := Lib.hid hab'
            rw [hab']
            clear hab hab'
            go_wp2_with (fail)
            go_roundw
            case rel =>
              refine ⟨k + 1, by omega, by simp, HB1.out, HX1.out, Lib.hid (fun q x hq hx => ?_)⟩
              by_cases hqk : q = k
              · subst hqk
                have := HP.out
                rw [hx] at this
                cases this
                exact HF.out
              · exact HN2.out q x (by omega) hx
            case measure => simp [intOf]; omega
        · have hltI2 : ¬ (k : Int) < i := by omega
          have HF := Lib.hid (cpF_no (l := l) (fun q x hx => HN2.out q x (by have := (List.getElem?_eq_some_iff.1 hx).1; have := HN.out; omega) hx))
          go_wp2_with (fail)
          go_ret
          exact ⟨by rw [HF.out]; rfl, HBq.out⟩
end Go.Proofs.YtkcpfppjdjkjeaaGreatDoor
