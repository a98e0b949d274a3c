/- Several texts in one: Rec, FxD, TpP, TpK, Geo, Geo2. -/
import Derived.Test.YthplhibdapjjgaaGreatDoorMgA

/- Rows of records: plain lemmas on memory; no program in sight. -/
namespace Go.Proofs.YthplhibdapjjgaaGreatDoor
open Go.RowKit

/-- The cells of records, each of k cells. -/
def recs {α : Type} (f : α → List Value) (l : List α) : List Value := l.flatMap f
theorem recs_nil {α : Type} (f : α → List Value) : recs f [] = [] := rfl
theorem recs_append {α : Type} (f : α → List Value) (a b : List α) : recs f (a ++ b) = recs f a ++ recs f b := by simp [recs]
theorem recs_snoc {α : Type} (f : α → List Value) (a : List α) (x : α) : recs f (a ++ [x]) = recs f a ++ f x := by simp [recs]
section
variable {α : Type} {f : α → List Value} {k : Nat}
theorem recs_length (hf : ∀ x, (f x).length = k) (l : List α) : (recs f l).length = l.length * k := by
  induction l with
  | nil => simp [recs]
  | cons x l ih => simp only [recs, List.flatMap_cons, List.length_append, List.length_cons] at ih ⊢; rw [ih, hf, Nat.succ_mul]; omega
theorem recs_get (hf : ∀ x, (f x).length = k) (l : List α) (i : Nat) (x : α) (h : l[i]? = some x) (j : Nat) (hj : j < k) : (recs f l)[i * k + j]? = (f x)[j]? := by
  induction l generalizing i with
  | nil => simp at h
  | cons y l ih =>
    cases i with
    | zero =>
      simp only [List.getElem?_cons_zero, Option.some.injEq] at h
      subst h
      simp only [recs, List.flatMap_cons]
      rw [List.getElem?_append_left (by rw [hf]; omega)]
      simp
    | succ i =>
      simp only [List.getElem?_cons_succ] at h
      have := ih i h
      simp only [recs, List.flatMap_cons] at this ⊢
      rw [List.getElem?_append_right (by rw [hf, Nat.succ_mul]; omega), ← this, hf]
      congr 1
      rw [Nat.succ_mul]; omega
theorem rec_cell (hf : ∀ x, (f x).length = k) {w : World} {b o : Nat} {l : List α} (h : Cells w b o (recs f l)) (i : Nat) (x : α) (hx : l[i]? = some x) (j : Nat) (u : Value) (hj : (f x)[j]? = some u) : w.cell? ⟨b, o + i * k + j, none⟩ = some u := by
  have hjk : j < k := by have := (List.getElem?_eq_some_iff.1 hj).1; rw [hf] at this; exact this
  have := h (i * k + j) u ((recs_get hf l i x hx j hjk).trans hj)
  rwa [← Nat.add_assoc] at this
theorem Row.posR (hf : ∀ x, (f x).length = k) (hk : 0 < k) {w : World} {B : Nat} {A : Option Addr} {l : List α} (h : Row w B A (recs f l)) (hl : 0 < l.length) : ∃ b o, A = some ⟨b, o, none⟩ ∧ b < B ∧ Cells w b o (recs f l) := by
  rcases h with h | h
  · have := recs_length hf l
    rw [h] at this
    simp only [List.length_nil] at this
    have := Nat.mul_pos hl hk
    omega
  · exact h
theorem recs_one (h1 : ∀ x, ∀ u ∈ f x, u.oneCell' = true) (l : List α) : ∀ u ∈ recs f l, u.oneCell' = true := by
  intro u hu
  simp only [recs, List.mem_flatMap] at hu
  obtain ⟨x, _, hx⟩ := hu
  exact h1 x u hx
theorem recs_drop (hf : ∀ x, (f x).length = k) (l : List α) (i : Nat) : (recs f l).drop (i * k) = recs f (l.drop i) := by
  induction l generalizing i with
  | nil => simp [recs]
  | cons y l ih =>
    cases i with
    | zero => simp
    | succ i =>
      simp only [recs, List.flatMap_cons, List.drop_succ_cons] at ih ⊢
      rw [Nat.succ_mul, Nat.add_comm, ← List.drop_drop, List.drop_left' (hf y), ih]
end
theorem Cells.drop {w : World} {b o : Nat} {xs : List Value} (h : Cells w b o xs) (i : Nat) : Cells w b (o + i) (xs.drop i) := by
  intro j u hu
  rw [List.getElem?_drop] at hu
  have := h (i + j) u hu
  rwa [← Nat.add_assoc] at this
theorem Cells.take {w : World} {b o : Nat} {xs : List Value} (h : Cells w b o xs) (i : Nat) : Cells w b o (xs.take i) := by
  intro j u hu
  rw [List.getElem?_take] at hu
  split at hu
  · exact h j u hu
  · cases hu
/-- A row that is owned, read from an element on. -/
theorem Row.dropR {α : Type} {f : α → List Value} {k : Nat} (hf : ∀ x, (f x).length = k) {w : World} {B b o : Nat} {l : List α} (h : Cells w b o (recs f l)) (hb : b < B) (i : Nat) : Row w B (some ⟨b, o + i * k, none⟩) (recs f (l.drop i)) := by
  have := h.drop (i * k)
  rw [recs_drop hf] at this
  exact .inr ⟨b, _, rfl, hb, this⟩
theorem own_cap {w : World} {base : Nat} {e : TypeId} {size n : Nat} {A : Option Addr} {c : Nat} {xs : List Value} (h : w.ownsRow base e size (.slice A n c) n xs) : n ≤ c := by
  rcases h.2 with ⟨hv, hn⟩ | ⟨g, cap, cur, hv, _, _, hc, _⟩
  · omega
  · injection hv with _ _ hc'
    omega
theorem own_two {w : World} {base : Nat} {e : TypeId} {size n : Nat} {A : Option Addr} {c : Nat} {xs : List Value} (h : w.ownsRow base e size (.slice A n c) n xs) : (A = none ∧ n = 0 ∧ c = 0) ∨ ∃ g, A = some ⟨g, 0, none⟩ ∧ base ≤ g ∧ g < w.heap.size := by
  rcases h.2 with ⟨hv, hn⟩ | ⟨g, cap, cur, hv, hb, hh, hc, _⟩
  · injection hv with h1 h2 h3
    exact .inl ⟨h1, hn, h3⟩
  · injection hv with h1 h2 h3
    exact .inr ⟨g, h1, hb, (Array.getElem?_eq_some_iff.1 hh).1⟩
end Go.Proofs.YthplhibdapjjgaaGreatDoor

/- Tracks as data; StaysAreNear: the plain law of stays. -/
namespace Go.Proofs.YthplhibdapjjgaaGreatDoor
open Go.RowKit

/-- A fix of device d: at, x, y, error. -/
abbrev Fx := Int × Int × Int × Int
def fxC (x : Fx) : List Value := [.string ⟨#[100]⟩, .int .i64 x.1, .int .i64 x.2.1, .int .i64 x.2.2.1, .int .i64 x.2.2.2]
def fxV (x : Fx) : Value := .agg #[.string ⟨#[100]⟩, .int .i64 x.1, .int .i64 x.2.1, .int .i64 x.2.2.1, .int .i64 x.2.2.2]
theorem fxC_len (x : Fx) : (fxC x).length = 5 := rfl
theorem fxC_one (x : Fx) : ∀ u ∈ fxC x, u.oneCell' = true := by
  intro u hu
  simp only [fxC, List.mem_cons, List.not_mem_nil, or_false] at hu
  rcases hu with rfl | rfl | rfl | rfl | rfl <;> rfl
structure OkF (x : Fx) : Prop where
  at0 : 0 ≤ x.1
  at1 : x.1 ≤ 100000
  x0 : -10000 ≤ x.2.1
  x1 : x.2.1 ≤ 10000
  y0 : -10000 ≤ x.2.2.1
  y1 : x.2.2.1 ≤ 10000
  e0 : 0 ≤ x.2.2.2
  e1 : x.2.2.2 ≤ 10000
structure GoodF (l : List Fx) : Prop where
  len : l.length ≤ 100
  ok : ∀ x ∈ l, OkF x
  rise : l.Pairwise (fun x y => x.1 < y.1)
theorem GoodF.lt {l : List Fx} (h : GoodF l) {i j : Nat} {x y : Fx} (hij : i < j) (hx : l[i]? = some x) (hy : l[j]? = some y) : x.1 < y.1 := by
  have hr := h.rise
  rw [List.pairwise_iff_getElem] at hr
  obtain ⟨a1, a2⟩ := List.getElem?_eq_some_iff.1 hx
  obtain ⟨b1, b2⟩ := List.getElem?_eq_some_iff.1 hy
  have := hr i j a1 b1 hij
  rw [a2, b2] at this
  exact this
theorem GoodF.get {l : List Fx} (h : GoodF l) {i : Nat} {x : Fx} (hx : l[i]? = some x) : OkF x := h.ok x (List.mem_of_getElem? hx)
/-- The square of a distance. -/
def sq2 (a b c d : Int) : Int := (a - c) * (a - c) + (b - d) * (b - d)
theorem sqr_le {a B : Int} (h1 : -B ≤ a) (h2 : a ≤ B) : 0 ≤ a * a ∧ a * a ≤ B * B := by
  rcases Int.le_total 0 a with h | h
  · exact ⟨Int.mul_nonneg h h, Int.mul_le_mul h2 h2 h (by omega)⟩
  · have e : a * a = (-a) * (-a) := by rw [Int.neg_mul_neg]
    rw [e]
    exact ⟨Int.mul_nonneg (by omega) (by omega), Int.mul_le_mul (by omega) (by omega) (by omega) (by omega)⟩
theorem sq2_symm (a b c d : Int) : sq2 a b c d = sq2 c d a b := by
  have h : ∀ p q : Int, (p - q) * (p - q) = (q - p) * (q - p) := fun p q => by rw [← Int.neg_mul_neg (p - q)]; congr 1 <;> omega
  unfold sq2
  rw [h a c, h b d]

/-- A stay: from, to, x, y. -/
abbrev Sty := Int × Int × Int × Int
def stC (s : Sty) : List Value := [.int .i64 s.1, .int .i64 s.2.1, .int .i64 s.2.2.1, .int .i64 s.2.2.2]
theorem stC_len (s : Sty) : (stC s).length = 4 := rfl
theorem stC_one (s : Sty) : ∀ u ∈ stC s, u.oneCell' = true := by
  intro u hu
  simp only [stC, List.mem_cons, List.not_mem_nil, or_false] at hu
  rcases hu with rfl | rfl | rfl | rfl <;> rfl
structure StOk (l : List Fx) (near long : Int) (S : List Sty) : Prop where
  from_ : ∀ s ∈ S, 0 ≤ s.1 ∧ s.1 ≤ 100000 ∧ s.1 ≤ s.2.1 ∧ s.2.1 ≤ 100000
  x_ : ∀ s ∈ S, -10000 ≤ s.2.2.1 ∧ s.2.2.1 ≤ 10000 ∧ -10000 ≤ s.2.2.2 ∧ s.2.2.2 ≤ 10000
  long_ : ∀ s ∈ S, long ≤ s.2.1 - s.1
  near_ : ∀ s ∈ S, ∀ y ∈ l, s.1 ≤ y.1 → y.1 ≤ s.2.1 → sq2 y.2.1 y.2.2.1 s.2.2.1 s.2.2.2 ≤ near * near
  apart : S.Pairwise (fun s t => s.2.1 < t.1)
/-- Stays found before element i. -/
structure StInv (l : List Fx) (near long : Int) (i : Nat) (S : List Sty) : Prop where
  ok : StOk l near long S
  len : S.length ≤ i
  past : ∀ s ∈ S, ∀ (j : Nat) (y : Fx), i ≤ j → l[j]? = some y → s.2.1 < y.1
theorem StInv.start (l : List Fx) (near long : Int) : StInv l near long 0 [] :=
  ⟨⟨by simp, by simp, by simp, by simp, by simp⟩, by simp, by simp⟩
theorem StInv.skip {l : List Fx} {near long : Int} {i : Nat} {S : List Sty} (h : StInv l near long i S) : StInv l near long (i + 1) S :=
  ⟨h.ok, by have := h.len; omega, fun s hs j y hj hy => h.past s hs j y (by omega) hy⟩
theorem StInv.step {l : List Fx} {near long : Int} {i k : Nat} {S : List Sty} (h : StInv l near long i S) (hg : GoodF l) (hik : i ≤ k) (x z : Fx) (hx : l[i]? = some x) (hz : l[k]? = some z) (hl : long ≤ z.1 - x.1) (hlong : 0 ≤ long)
    (hn : ∀ (j : Nat) (y : Fx), i ≤ j → j ≤ k → l[j]? = some y → sq2 x.2.1 x.2.2.1 y.2.1 y.2.2.1 ≤ near * near) : StInv l near long (k + 1) (S ++ [(x.1, z.1, x.2.1, x.2.2.1)]) := by
  have ox := hg.get hx
  have oz := hg.get hz
  refine ⟨⟨?_, ?_, ?_, ?_, ?_⟩, ?_, ?_⟩
  · intro s hs
    rcases List.mem_append.1 hs with hs | hs
    · exact h.ok.from_ s hs
    · simp only [List.mem_singleton] at hs; subst hs
      have := ox.at0; have := ox.at1; have := oz.at1
      simp only; omega
  · intro s hs
    rcases List.mem_append.1 hs with hs | hs
    · exact h.ok.x_ s hs
    · simp only [List.mem_singleton] at hs; subst hs
      exact ⟨ox.x0, ox.x1, ox.y0, ox.y1⟩
  · intro s hs
    rcases List.mem_append.1 hs with hs | hs
    · exact h.ok.long_ s hs
    · simp only [List.mem_singleton] at hs; subst hs
      exact hl
  · intro s hs y hy h1 h2
    rcases List.mem_append.1 hs with hs | hs
    · exact h.ok.near_ s hs y hy h1 h2
    · simp only [List.mem_singleton] at hs; subst hs
      simp only at h1 h2 ⊢
      obtain ⟨j, hj⟩ := List.getElem?_of_mem hy
      have hij : i ≤ j := by
        rcases Nat.lt_or_ge j i with h3 | h3
        · have := hg.lt h3 hj hx; omega
        · exact h3
      have hjk : j ≤ k := by
        rcases Nat.lt_or_ge k j with h3 | h3
        · have := hg.lt h3 hz hj; omega
        · exact h3
      rw [sq2_symm]
      exact hn j y hij hjk hj
  · rw [List.pairwise_append]
    refine ⟨h.ok.apart, by simp, ?_⟩
    intro s hs t ht
    simp only [List.mem_singleton] at ht; subst ht
    exact h.past s hs i x (Nat.le_refl _) hx
  · have := h.len
    simp; omega
  · intro s hs j y hj hy
    rcases List.mem_append.1 hs with hs | hs
    · exact h.past s hs j y (by omega) hy
    · simp only [List.mem_singleton] at hs; subst hs
      exact hg.lt (show k < j by omega) hz hy
/-- Where the last of some stays ends. -/
def lastS (S : List Sty) : Int := (S.getLast?.map (·.2.1)).getD (-1)
theorem lastS_snoc (S : List Sty) (s : Sty) : lastS (S ++ [s]) = s.2.1 := by simp [lastS]
theorem lastS_lt {l : List Fx} {near long : Int} {S : List Sty} (h : StOk l near long S) (k : Nat) (s : Sty) (hs : S[k]? = some s) : lastS (S.take k) < s.1 := by
  cases k with
  | zero =>
    have := h.from_ s (List.mem_of_getElem? hs)
    simp [lastS]; omega
  | succ k =>
    obtain ⟨hk, e⟩ := List.getElem?_eq_some_iff.1 hs
    have : S.take (k + 1) = S.take k ++ [S[k]] := by rw [List.take_succ_eq_append_getElem (by omega)]
    rw [this, lastS_snoc]
    have hr := h.apart
    rw [List.pairwise_iff_getElem] at hr
    have := hr k (k + 1) (by omega) hk (by omega)
    rw [e] at this
    exact this
end Go.Proofs.YthplhibdapjjgaaGreatDoor

/- TracksStayPlain: the plain law of lengths. -/
namespace Go.Proofs.YthplhibdapjjgaaGreatDoor
open Go.RowKit

theorem sqr0 (a : Int) : 0 ≤ a * a := by
  rcases Int.le_total 0 a with h | h
  · exact Int.mul_nonneg h h
  · have e : a * a = (-a) * (-a) := by rw [Int.neg_mul_neg]
    rw [e]; exact Int.mul_nonneg (by omega) (by omega)
theorem le_of_sqr {x y : Int} (hy : 0 ≤ y) (h : x * x ≤ y * y) : x ≤ y := by
  rcases Int.lt_or_le y x with h1 | h1
  · have h2 : y * y < x * x := by
      have a1 : y * y ≤ y * x := Int.mul_le_mul_of_nonneg_left (by omega) hy
      have a2 : y * x < x * x := Int.mul_lt_mul_of_pos_right h1 (by omega)
      omega
    omega
  · exact h1
theorem cauchy (a b c d : Int) : (a * c + b * d) * (a * c + b * d) ≤ (a * a + b * b) * (c * c + d * d) := by
  have h : (a * a + b * b) * (c * c + d * d) = (a * c + b * d) * (a * c + b * d) + (a * d - b * c) * (a * d - b * c) := by grind
  have := sqr0 (a * d - b * c)
  omega
theorem tri {a b c d U V : Int} (hU : 0 ≤ U) (hV : 0 ≤ V) (h1 : a * a + b * b ≤ U * U) (h2 : c * c + d * d ≤ V * V) : (a + c) * (a + c) + (b + d) * (b + d) ≤ (U + V) * (U + V) := by
  have hc := cauchy a b c d
  have n1 : 0 ≤ a * a + b * b := by have := sqr0 a; have := sqr0 b; omega
  have n2 : 0 ≤ c * c + d * d := by have := sqr0 c; have := sqr0 d; omega
  have h3 : (a * a + b * b) * (c * c + d * d) ≤ (U * U) * (V * V) := Int.mul_le_mul h1 h2 n2 (sqr0 U)
  have h4 : (U * U) * (V * V) = (U * V) * (U * V) := by grind
  have h5 : a * c + b * d ≤ U * V := le_of_sqr (Int.mul_nonneg hU hV) (by omega)
  have h6 : (a + c) * (a + c) + (b + d) * (b + d) = (a * a + b * b) + (c * c + d * d) + 2 * (a * c + b * d) := by grind
  have h7 : (U + V) * (U + V) = U * U + V * V + 2 * (U * V) := by grind
  omega

/-- The square root, rounded down. -/
def isq : Nat → Nat
  | 0 => 0
  | n + 1 => if (isq n + 1) * (isq n + 1) ≤ n + 1 then isq n + 1 else isq n
theorem isq_spec (n : Nat) : isq n * isq n ≤ n ∧ n < (isq n + 1) * (isq n + 1) := by
  induction n with
  | zero => simp [isq]
  | succ n ih =>
    simp only [isq]
    split
    · rename_i h
      refine ⟨h, ?_⟩
      have h1 : (isq n + 1 + 1) * (isq n + 1 + 1) = (isq n + 1) * (isq n + 1) + 2 * (isq n + 1) + 1 := by grind
      omega
    · omega
theorem isq_unique {n r : Nat} (h1 : r * r ≤ n) (h2 : n < (r + 1) * (r + 1)) : isq n = r := by
  obtain ⟨a, b⟩ := isq_spec n
  have h : ∀ {p q : Nat}, p * p ≤ n → n < (q + 1) * (q + 1) → p ≤ q := by
    intro p q hp hq
    rcases Nat.lt_or_ge q p with h | h
    · have : (q + 1) * (q + 1) ≤ p * p := Nat.mul_le_mul h h
      omega
    · exact h
  exact Nat.le_antisymm (h a h2) (h h1 b)
theorem isq_le {n U : Nat} (h : n ≤ U * U) : isq n ≤ U := by
  obtain ⟨a, b⟩ := isq_spec n
  rcases Nat.lt_or_ge U (isq n) with h1 | h1
  · have : (U + 1) * (U + 1) ≤ isq n * isq n := Nat.mul_le_mul h1 h1
    have : (U + 1) * (U + 1) = U * U + 2 * U + 1 := by grind
    omega
  · exact h1
/-- How long the way between two fixes is, rounded down. -/
def dst (x y : Fx) : Nat := isq (sq2 x.2.1 x.2.2.1 y.2.1 y.2.2.1).toNat
theorem sq2_nonneg (a b c d : Int) : 0 ≤ sq2 a b c d := by
  have := sqr0 (a - c); have := sqr0 (b - d); unfold sq2; omega
def getF (l : List Fx) (i : Nat) : Fx := l.getD i (0, 0, 0, 0)
/-- How long the ways from fix to fix are together. -/
def lenW (l : List Fx) : Nat → Nat
  | 0 => 0
  | i + 1 => lenW l i + dst (getF l i) (getF l (i + 1))
theorem way_le (l : List Fx) (p d : Nat) : sq2 (getF l p).2.1 (getF l p).2.2.1 (getF l (p + d)).2.1 (getF l (p + d)).2.2.1 ≤ ((lenW l (p + d) + d - lenW l p : Nat) : Int) * ((lenW l (p + d) + d - lenW l p : Nat) : Int) := by
  have hm : ∀ d, lenW l p ≤ lenW l (p + d) := by
    intro d
    induction d with
    | zero => simp
    | succ d ih => rw [← Nat.add_assoc]; simp only [lenW]; omega
  induction d with
  | zero => simp [sq2]
  | succ d ih =>
    have hd := hm d
    have hs := isq_spec (sq2 (getF l (p + d)).2.1 (getF l (p + d)).2.2.1 (getF l (p + d + 1)).2.1 (getF l (p + d + 1)).2.2.1).toNat
    have h0 := sq2_nonneg (getF l (p + d)).2.1 (getF l (p + d)).2.2.1 (getF l (p + d + 1)).2.1 (getF l (p + d + 1)).2.2.1
    obtain ⟨r, er⟩ : ∃ r, r = dst (getF l (p + d)) (getF l (p + d + 1)) := ⟨_, rfl⟩
    have hs2 : sq2 (getF l (p + d)).2.1 (getF l (p + d)).2.2.1 (getF l (p + d + 1)).2.1 (getF l (p + d + 1)).2.2.1 ≤ ((r + 1 : Nat) : Int) * ((r + 1 : Nat) : Int) := by
      have h2 := hs.2
      have : isq (sq2 (getF l (p + d)).2.1 (getF l (p + d)).2.2.1 (getF l (p + d + 1)).2.1 (getF l (p + d + 1)).2.2.1).toNat = r := er.symm
      rw [this] at h2
      have h3 : (((r + 1) * (r + 1) : Nat) : Int) = ((r + 1 : Nat) : Int) * ((r + 1 : Nat) : Int) := by rw [Int.natCast_mul]
      omega
    have hl : lenW l (p + (d + 1)) = lenW l (p + d) + r := by rw [← Nat.add_assoc, er]; rfl
    have hn : ((lenW l (p + (d + 1)) + (d + 1) - lenW l p : Nat) : Int) = ((lenW l (p + d) + d - lenW l p : Nat) : Int) + ((r + 1 : Nat) : Int) := by omega
    rw [hn, ← Nat.add_assoc]
    unfold sq2 at ih hs2 ⊢
    have ht := tri (by omega) (by omega) ih hs2
    have e1 : ∀ x y z : Int, x - y + (y - z) = x - z := fun x y z => by omega
    rw [e1, e1] at ht
    exact ht
theorem dst_le (l : List Fx) (p q : Nat) (h : p ≤ q) : dst (getF l p) (getF l q) + lenW l p ≤ lenW l q + (q - p) := by
  obtain ⟨d, rfl⟩ : ∃ d, q = p + d := ⟨q - p, by omega⟩
  have hm : lenW l p ≤ lenW l (p + d) := by
    induction d with
    | zero => simp
    | succ d ih => have := ih (by omega); rw [← Nat.add_assoc]; simp only [lenW]; omega
  have hw := way_le l p d
  have hi : (sq2 (getF l p).2.1 (getF l p).2.2.1 (getF l (p + d)).2.1 (getF l (p + d)).2.2.1).toNat ≤ (lenW l (p + d) + d - lenW l p) * (lenW l (p + d) + d - lenW l p) := by
    have h3 : (((lenW l (p + d) + d - lenW l p) * (lenW l (p + d) + d - lenW l p) : Nat) : Int) = ((lenW l (p + d) + d - lenW l p : Nat) : Int) * ((lenW l (p + d) + d - lenW l p : Nat) : Int) := by rw [Int.natCast_mul]
    omega
  have := isq_le hi
  unfold dst
  omega
/-- The fixes with some numbers. -/
def atF (l : List Fx) (is : List Nat) : List Fx := is.map (getF l)
/-- The way over some of the fixes is not much longer. -/
theorem len_at (l : List Fx) (is : List Nat) (hr : is.Pairwise (· < ·)) (k : Nat) (hk : k < is.length) : lenW (atF l is) k + lenW l (is.getD 0 0) + is.getD 0 0 ≤ lenW l (is.getD k 0) + is.getD k 0 := by
  induction k with
  | zero => simp [lenW]
  | succ k ih =>
    have ih := ih (by omega)
    rw [List.pairwise_iff_getElem] at hr
    have hlt := hr k (k + 1) (by omega) hk (by omega)
    have e1 : is.getD k 0 = is[k] := by simp [List.getD, List.getElem?_eq_getElem (show k < is.length by omega)]
    have e2 : is.getD (k + 1) 0 = is[k + 1] := by simp [List.getD, List.getElem?_eq_getElem hk]
    have g1 : getF (atF l is) k = getF l is[k] := by simp [getF, atF, List.getD, List.getElem?_eq_getElem (show k < is.length by omega)]
    have g2 : getF (atF l is) (k + 1) = getF l is[k + 1] := by simp [getF, atF, List.getD, List.getElem?_eq_getElem hk]
    have hd := dst_le l is[k] is[k + 1] (by omega)
    simp only [lenW, g1, g2]
    rw [e1] at ih
    rw [e2]
    omega
end Go.Proofs.YthplhibdapjjgaaGreatDoor

/- TracksStayPlain: the plain law of what is kept. -/
namespace Go.Proofs.YthplhibdapjjgaaGreatDoor
open Go.RowKit

def alongW (a b s : Fx) : Int := (s.2.1 - a.2.1) * (b.2.1 - a.2.1) + (s.2.2.1 - a.2.2.1) * (b.2.2.1 - a.2.2.1)
def longW (a b : Fx) : Int := (b.2.1 - a.2.1) * (b.2.1 - a.2.1) + (b.2.2.1 - a.2.2.1) * (b.2.2.1 - a.2.2.1)
def crossW (a b s : Fx) : Int := (b.2.1 - a.2.1) * (s.2.2.1 - a.2.2.1) - (b.2.2.1 - a.2.2.1) * (s.2.1 - a.2.1)
/-- Is a fix not farther than told from the way between two others? -/
def nearW (far : Int) (a b s : Fx) : Prop :=
  if alongW a b s ≤ 0 then sq2 s.2.1 s.2.2.1 a.2.1 a.2.2.1 ≤ far * far
  else if longW a b ≤ alongW a b s then sq2 s.2.1 s.2.2.1 b.2.1 b.2.2.1 ≤ far * far
  else crossW a b s * crossW a b s ≤ far * far * longW a b
/-- The square of the distance from a way, as a fraction. -/
def farIs (a b s : Fx) (p q : Int) : Prop :=
  if alongW a b s ≤ 0 then p = sq2 a.2.1 a.2.2.1 s.2.1 s.2.2.1 ∧ q = 1
  else if longW a b ≤ alongW a b s then p = sq2 b.2.1 b.2.2.1 s.2.1 s.2.2.1 ∧ q = 1
  else ∃ g, 1 ≤ g ∧ p * g = crossW a b s * crossW a b s ∧ q * g = longW a b ∧ 1 ≤ q
theorem nearW_of {far : Int} {a b s : Fx} {p q : Int} (h : farIs a b s p q) (hp : p ≤ far * far * q) : nearW far a b s := by
  unfold farIs at h
  unfold nearW
  split
  · rename_i h1
    rw [if_pos h1] at h
    rw [sq2_symm, ← h.1]
    rw [h.2] at hp
    omega
  · rename_i h1
    rw [if_neg h1] at h
    split
    · rename_i h2
      rw [if_pos h2] at h
      rw [sq2_symm, ← h.1]
      rw [h.2] at hp
      omega
    · rename_i h2
      rw [if_neg h2] at h
      obtain ⟨g, hg, e1, e2, _⟩ := h
      rw [← e1, ← e2, ← Int.mul_assoc]
      exact Int.mul_le_mul_of_nonneg_right hp (by omega)

/-- From i to k all is near the way between what is kept. -/
structure GoodK (far : Int) (l : List Fx) (B : List Bool) (i k : Nat) : Prop where
  fst : B[i]? = some true
  lst : B[k]? = some true
  near : ∀ p q : Nat, i ≤ p → p < q → q ≤ k → B[p]? = some true → B[q]? = some true → (∀ m, p < m → m < q → B[m]? = some false) → ∀ m, p < m → m < q → nearW far (getF l p) (getF l q) (getF l m)
/-- What the marks from i to k are turned to. -/
structure Btw (far : Int) (l : List Fx) (B B' : List Bool) (i k : Nat) : Prop where
  len : B'.length = B.length
  out : ∀ m, m < i ∨ k < m → B'[m]? = B[m]?
  good : GoodK far l B' i k
theorem set2_get (B : List Bool) (i k m : Nat) (hi : i < B.length) (hk : k < B.length) : ((B.set i true).set k true)[m]? = if m = i ∨ m = k then some true else B[m]? := by
  rw [List.getElem?_set, List.getElem?_set, List.length_set]
  by_cases h1 : k = m
  · subst h1; simp [hk]
  · by_cases h2 : i = m
    · subst h2; simp [h1, hi]
    · rw [if_neg h1, if_neg h2, if_neg (by omega)]
theorem Btw.base {far : Int} {l : List Fx} {B : List Bool} {i k : Nat} (hik : i ≤ k) (hk : k < B.length) (hn : ∀ m, i < m → m < k → nearW far (getF l i) (getF l k) (getF l m)) (hb : ∀ m, i < m → m < k → B[m]? = some false) :
    Btw far l B ((B.set i true).set k true) i k := by
  have hs := fun m => set2_get B i k m (by omega) hk
  refine ⟨by simp, ?_, ?_, ?_, ?_⟩
  · intro m hm; rw [hs, if_neg (by omega)]
  · rw [hs, if_pos (Or.inl rfl)]
  · rw [hs, if_pos (Or.inr rfl)]
  · intro p q hp hpq hq h1 h2 _ m hm1 hm2
    have hpe : p = i := by
      rcases Nat.lt_or_ge i p with h | h
      · have hb := hb p h (by omega)
        rw [hs, if_neg (by omega), hb] at h1
        cases h1
      · omega
    have hqe : q = k := by
      rcases Nat.lt_or_ge q k with h | h
      · have hb := hb q (by omega) h
        rw [hs, if_neg (by omega), hb] at h2
        cases h2
      · omega
    subst hpe hqe
    exact hn m hm1 hm2
theorem Btw.join {far : Int} {l : List Fx} {B B1 B2 : List Bool} {i b k : Nat} (hib : i < b) (hbk : b < k) (hk : k < B.length) (h1 : Btw far l ((B.set i true).set k true) B1 i b) (h2 : Btw far l B1 B2 b k) : Btw far l B B2 i k := by
  have hs := fun m => set2_get B i k m (by omega) hk
  have hB2 : ∀ m, m ≤ b → B2[m]? = B1[m]? := by
    intro m hm
    rcases Nat.lt_or_ge m b with h | h
    · exact h2.out m (Or.inl h)
    · obtain rfl : m = b := by omega
      rw [h2.good.fst, h1.good.lst]
  refine ⟨by rw [h2.len, h1.len]; simp, ?_, ?_, h2.good.lst, ?_⟩
  · intro m hm
    rw [h2.out m (by omega), h1.out m (by omega), hs, if_neg (by omega)]
  · rw [hB2 i (by omega)]; exact h1.good.fst
  · intro p q hp hpq hq e1 e2 hb m hm1 hm2
    rcases Nat.lt_or_ge b q with h | h
    · rcases Nat.lt_or_ge p b with h' | h'
      · have := hb b h' h
        rw [h2.good.fst] at this
        cases this
      · exact h2.good.near p q h' hpq hq e1 e2 hb m hm1 hm2
    · refine h1.good.near p q hp hpq h ?_ ?_ ?_ m hm1 hm2
      · rw [← hB2 p (by omega)]; exact e1
      · rw [← hB2 q h]; exact e2
      · intro m h3 h4; rw [← hB2 m (by omega)]; exact hb m h3 h4

/-- The numbers of what is kept, of the first j. -/
def kI (B : List Bool) (j : Nat) : List Nat := (List.range j).filter fun m => B.getD m false
theorem kI_succ (B : List Bool) (j : Nat) : kI B (j + 1) = if B.getD j false then kI B j ++ [j] else kI B j := by
  simp only [kI, List.range_succ, List.filter_append]
  split <;> simp_all
theorem kI_mem {B : List Bool} {j m : Nat} : m ∈ kI B j ↔ m < j ∧ B.getD m false = true := by simp [kI]
theorem kI_sorted (B : List Bool) (j : Nat) : (kI B j).Pairwise (· < ·) := List.pairwise_lt_range.filter _
theorem kI_length (B : List Bool) (j : Nat) : (kI B j).length ≤ j := by
  have := List.length_filter_le (fun m => B.getD m false) (List.range j)
  simpa [kI] using this
theorem getD_true {B : List Bool} {m : Nat} (h : B[m]? = some true) : B.getD m false = true := by simp [List.getD, h]
theorem getD_some {B : List Bool} {m : Nat} (h : B.getD m false = true) : B[m]? = some true := by
  simp only [List.getD] at h
  cases e : B[m]? with
  | none => rw [e] at h; simp at h
  | some b => rw [e] at h; simp at h; rw [h]
/-- All that the law asks of the numbers. -/
structure KeptF (far : Int) (l : List Fx) (n : Nat) (is : List Nat) : Prop where
  sorted : is.Pairwise (· < ·)
  lt : ∀ i ∈ is, i < n
  head : is[0]? = some 0
  last : is[is.length - 1]? = some (n - 1)
  near : ∀ (c p q : Nat), is[c]? = some p → is[c + 1]? = some q → ∀ m, p < m → m < q → nearW far (getF l p) (getF l q) (getF l m)
theorem sorted_get {is : List Nat} (h : is.Pairwise (· < ·)) {a b p q : Nat} (hab : a < b) (hp : is[a]? = some p) (hq : is[b]? = some q) : p < q := by
  rw [List.pairwise_iff_getElem] at h
  obtain ⟨a1, a2⟩ := List.getElem?_eq_some_iff.1 hp
  obtain ⟨b1, b2⟩ := List.getElem?_eq_some_iff.1 hq
  have := h a b a1 b1 hab
  rw [a2, b2] at this
  exact this
theorem kept_of {far : Int} {l : List Fx} {B : List Bool} {n : Nat} (hn : 0 < n) (hl : B.length = n) (h : GoodK far l B 0 (n - 1)) : KeptF far l n (kI B n) := by
  have hs := kI_sorted B n
  have hget : ∀ {m : Nat}, m ∈ kI B n → ∃ c, (kI B n)[c]? = some m := fun hm => List.getElem?_of_mem hm
  refine ⟨hs, fun i hi => (kI_mem.1 hi).1, ?_, ?_, ?_⟩
  · obtain ⟨c, hc⟩ := hget (kI_mem.2 ⟨hn, getD_true h.fst⟩)
    rcases Nat.eq_zero_or_pos c with h0 | h0
    · rw [h0] at hc; exact hc
    · have hl0 : 0 < (kI B n).length := by have := (List.getElem?_eq_some_iff.1 hc).1; omega
      have := sorted_get hs h0 (List.getElem?_eq_getElem hl0) hc
      omega
  · obtain ⟨c, hc⟩ := hget (kI_mem.2 ⟨show n - 1 < n by omega, getD_true h.lst⟩)
    have hcl := (List.getElem?_eq_some_iff.1 hc).1
    rcases Nat.lt_or_ge c ((kI B n).length - 1) with h0 | h0
    · have hg := List.getElem?_eq_getElem (show (kI B n).length - 1 < (kI B n).length by omega)
      have := sorted_get hs h0 hc hg
      have := (kI_mem.1 (List.mem_of_getElem? hg)).1
      omega
    · obtain rfl : c = (kI B n).length - 1 := by omega
      exact hc
  · intro c p q hp hq m hm1 hm2
    have hpq := sorted_get hs (Nat.lt_succ_self c) hp hq
    have hpm := kI_mem.1 (List.mem_of_getElem? hp)
    have hqm := kI_mem.1 (List.mem_of_getElem? hq)
    refine h.near p q (Nat.zero_le _) hpq (by omega) (getD_some hpm.2) (getD_some hqm.2) ?_ m hm1 hm2
    intro m h3 h4
    have hml : m < B.length := by omega
    rw [List.getElem?_eq_getElem hml]
    cases e : B[m] with
    | false => rfl
    | true =>
      exfalso
      obtain ⟨d, hd⟩ := hget (m := m) (kI_mem.2 ⟨by omega, by simp [List.getD, List.getElem?_eq_getElem hml, e]⟩)
      rcases Nat.lt_trichotomy d c with h5 | h5 | h5
      · have := sorted_get hs h5 hd hp; omega
      · subst h5; rw [hp] at hd; injection hd with hd; omega
      · rcases Nat.lt_trichotomy d (c + 1) with h6 | h6 | h6
        · omega
        · subst h6; rw [hq] at hd; injection hd with hd; omega
        · have := sorted_get hs h6 hq hd; omega
end Go.Proofs.YthplhibdapjjgaaGreatDoor

/- Ways, edges and crossings: what is counted to the right of a spot changes only where ways meet; no program in sight. -/
namespace Go.Proofs.YthplhibdapjjgaaGreatDoor

abbrev Pt := Int × Int
/-- On which side of a way a spot is. -/
def sd (a b s : Pt) : Int := (b.1 - a.1) * (s.2 - a.2) - (b.2 - a.2) * (s.1 - a.1)
def OnW (a b s : Pt) : Prop := sd a b s = 0 ∧ min a.1 b.1 ≤ s.1 ∧ s.1 ≤ max a.1 b.1 ∧ min a.2 b.2 ≤ s.2 ∧ s.2 ≤ max a.2 b.2
def opp (x y : Int) : Prop := x < 0 ∧ 0 < y ∨ 0 < x ∧ y < 0
def Meets (a b c d : Pt) : Prop := OnW a b c ∨ OnW a b d ∨ OnW c d a ∨ OnW c d b ∨ (opp (sd a b c) (sd a b d) ∧ opp (sd c d a) (sd c d b))
theorem sd_swap (a b s : Pt) : sd b a s = - sd a b s := by unfold sd; grind
theorem OnW.swap {a b s : Pt} (h : OnW a b s) : OnW b a s := by
  obtain ⟨h1, h2, h3, h4, h5⟩ := h
  exact ⟨by rw [sd_swap, h1]; rfl, by omega, by omega, by omega, by omega⟩
theorem opp_neg {x y : Int} (h : opp x y) : opp (-x) (-y) := by unfold opp at *; omega
theorem opp_symm {x y : Int} (h : opp x y) : opp y x := by unfold opp at *; omega
theorem Meets.symm {a b c d : Pt} (h : Meets a b c d) : Meets c d a b := by
  rcases h with h | h | h | h | ⟨h, h'⟩
  · exact .inr (.inr (.inl h))
  · exact .inr (.inr (.inr (.inl h)))
  · exact .inl h
  · exact .inr (.inl h)
  · exact .inr (.inr (.inr (.inr ⟨h', h⟩)))
theorem Meets.swapL {a b c d : Pt} (h : Meets a b c d) : Meets b a c d := by
  rcases h with h | h | h | h | ⟨h, h'⟩
  · exact .inl h.swap
  · exact .inr (.inl h.swap)
  · exact .inr (.inr (.inr (.inl h)))
  · exact .inr (.inr (.inl h))
  · exact .inr (.inr (.inr (.inr ⟨by rw [sd_swap a b, sd_swap a b]; exact opp_neg h, opp_symm h'⟩)))
theorem Meets.swapR {a b c d : Pt} (h : Meets a b c d) : Meets a b d c := h.symm.swapL.symm

/-- How far the way c d is beside the way a b, at a height. -/
def vee (a b c d : Pt) (y : Int) : Int := (d.2 - y) * sd a b c + (y - c.2) * sd a b d
theorem vee_pt (a b c d p : Pt) : vee a b c d p.2 = (d.2 - c.2) * sd a b p - (b.2 - a.2) * sd c d p := by unfold vee sd; grind
theorem sd_fst (a b : Pt) : sd a b a = 0 := by unfold sd; grind
theorem sd_snd (a b : Pt) : sd a b b = 0 := by unfold sd; grind
theorem vee_a (a b c d : Pt) : vee a b c d a.2 = - ((b.2 - a.2) * sd c d a) := by rw [vee_pt, sd_fst]; omega
theorem vee_b (a b c d : Pt) : vee a b c d b.2 = - ((b.2 - a.2) * sd c d b) := by rw [vee_pt, sd_snd]; omega
theorem vee_c (a b c d : Pt) : vee a b c d c.2 = (d.2 - c.2) * sd a b c := by rw [vee_pt, sd_fst]; omega
theorem vee_d (a b c d : Pt) : vee a b c d d.2 = (d.2 - c.2) * sd a b d := by rw [vee_pt, sd_snd]; omega
theorem vee_swap (a b c d : Pt) (y : Int) : vee a b d c y = - vee a b c d y := by unfold vee; grind
theorem vee_mono (a b c d : Pt) : (∀ x y : Int, x ≤ y → vee a b c d x ≤ vee a b c d y) ∨ (∀ x y : Int, x ≤ y → vee a b c d y ≤ vee a b c d x) := by
  have e : ∀ x y : Int, vee a b c d y - vee a b c d x = (y - x) * (sd a b d - sd a b c) := by intro x y; unfold vee; grind
  rcases Int.le_total 0 (sd a b d - sd a b c) with h | h
  · left; intro x y hxy
    have := e x y
    have := Int.mul_nonneg (show 0 ≤ y - x by omega) h
    omega
  · right; intro x y hxy
    have := e x y
    have := Int.mul_nonneg (show 0 ≤ y - x by omega) (show 0 ≤ -(sd a b d - sd a b c) by omega)
    rw [Int.mul_neg] at this
    omega
theorem neg_of {h x : Int} (hh : 0 < h) (hx : h * x < 0) : x < 0 := by
  rcases Int.lt_or_le x 0 with h1 | h1
  · exact h1
  · have := Int.mul_nonneg (Int.le_of_lt hh) h1; omega
theorem pos_of {h x : Int} (hh : 0 < h) (hx : 0 < h * x) : 0 < x := by
  rcases Int.lt_or_le 0 x with h1 | h1
  · exact h1
  · have := Int.mul_nonneg (Int.le_of_lt hh) (show 0 ≤ -x by omega); rw [Int.mul_neg] at this; omega
theorem zero_of {h x : Int} (hh : 0 < h) (hx : h * x = 0) : x = 0 := by
  rcases Int.lt_trichotomy x 0 with h1 | h1 | h1
  · have := Int.mul_pos hh (show 0 < -x by omega); rw [Int.mul_neg] at this; omega
  · exact h1
  · have := Int.mul_pos hh h1; omega
theorem on_of_zero {a b s : Pt} (h : sd a b s = 0) (hab : a.2 < b.2) (h1 : a.2 ≤ s.2) (h2 : s.2 ≤ b.2) : OnW a b s := by
  obtain ⟨ax, ay⟩ := a
  obtain ⟨bx, by_⟩ := b
  obtain ⟨sx, sy⟩ := s
  simp only [sd] at h hab h1 h2
  have hx : min ax bx ≤ sx ∧ sx ≤ max ax bx := by
    have hh : 0 < by_ - ay := by omega
    rcases Int.le_total ax bx with h3 | h3
    · have p1 : 0 ≤ (bx - ax) * (sy - ay) := Int.mul_nonneg (by omega) (by omega)
      have p2 : (bx - ax) * (sy - ay) ≤ (bx - ax) * (by_ - ay) := Int.mul_le_mul_of_nonneg_left (by omega) (by omega)
      have e : (by_ - ay) * (sx - ax) = (bx - ax) * (sy - ay) := by omega
      have e2 : (by_ - ay) * (bx - ax) = (bx - ax) * (by_ - ay) := Int.mul_comm _ _
      have l1 : 0 ≤ sx - ax := Int.le_of_mul_le_mul_left (a := by_ - ay) (by omega) hh
      have l2 : sx - ax ≤ bx - ax := Int.le_of_mul_le_mul_left (a := by_ - ay) (by omega) hh
      omega
    · have p1 : 0 ≤ (ax - bx) * (sy - ay) := Int.mul_nonneg (by omega) (by omega)
      have p2 : (ax - bx) * (sy - ay) ≤ (ax - bx) * (by_ - ay) := Int.mul_le_mul_of_nonneg_left (by omega) (by omega)
      have e : (by_ - ay) * (ax - sx) = (ax - bx) * (sy - ay) := by
        have a1 : (ax - bx) * (sy - ay) = - ((bx - ax) * (sy - ay)) := by rw [← Int.neg_mul]; congr 1; omega
        have a2 : (by_ - ay) * (ax - sx) = - ((by_ - ay) * (sx - ax)) := by rw [← Int.mul_neg]; congr 1; omega
        omega
      have e2 : (by_ - ay) * (ax - bx) = (ax - bx) * (by_ - ay) := Int.mul_comm _ _
      have l1 : 0 ≤ ax - sx := Int.le_of_mul_le_mul_left (a := by_ - ay) (by omega) hh
      have l2 : ax - sx ≤ ax - bx := Int.le_of_mul_le_mul_left (a := by_ - ay) (by omega) hh
      omega
  exact ⟨h, hx.1, hx.2, by simp only; omega, by simp only; omega⟩

/-- Two ways that go up and do not meet: the one is on one side of the other at all heights that both have. -/
theorem vee_sign {a b c d : Pt} (hab : a.2 < b.2) (hcd : c.2 < d.2) (hm : ¬ Meets a b c d) :
    (∀ y, a.2 ≤ y → c.2 ≤ y → y ≤ b.2 → y ≤ d.2 → vee a b c d y < 0) ∨ (∀ y, a.2 ≤ y → c.2 ≤ y → y ≤ b.2 → y ≤ d.2 → 0 < vee a b c d y) := by
  have va := vee_a a b c d
  have vb := vee_b a b c d
  have vc := vee_c a b c d
  have vd := vee_d a b c d
  have hB : 0 < b.2 - a.2 := by omega
  have hD : 0 < d.2 - c.2 := by omega
  by_cases hJ : max a.2 c.2 ≤ min b.2 d.2
  · have nz : ∀ y, (y = a.2 ∨ y = b.2 ∨ y = c.2 ∨ y = d.2) → max a.2 c.2 ≤ y → y ≤ min b.2 d.2 → vee a b c d y ≠ 0 := by
      intro y hy h1 h2 h0
      rcases hy with rfl | rfl | rfl | rfl
      · exact hm (.inr (.inr (.inl (on_of_zero (zero_of hB (by omega)) hcd (by omega) (by omega)))))
      · exact hm (.inr (.inr (.inr (.inl (on_of_zero (zero_of hB (by omega)) hcd (by omega) (by omega))))))
      · exact hm (.inl (on_of_zero (zero_of hD (by omega)) hab (by omega) (by omega)))
      · exact hm (.inr (.inl (on_of_zero (zero_of hD (by omega)) hab (by omega) (by omega))))
    have n1 := nz (max a.2 c.2) (by omega) (Int.le_refl _) hJ
    have n2 := nz (min b.2 d.2) (by omega) hJ (Int.le_refl _)
    rcases Int.lt_or_lt_of_ne n1 with s1 | s1 <;> rcases Int.lt_or_lt_of_ne n2 with s2 | s2
    · left
      intro y h1 h2 h3 h4
      rcases vee_mono a b c d with hmo | hmo
      · have := hmo y (min b.2 d.2) (by omega); omega
      · have := hmo (max a.2 c.2) y (by omega); omega
    · exfalso
      rcases vee_mono a b c d with hmo | hmo
      · have q1 := hmo a.2 (max a.2 c.2) (by omega)
        have q2 := hmo c.2 (max a.2 c.2) (by omega)
        have q3 := hmo (min b.2 d.2) b.2 (by omega)
        have q4 := hmo (min b.2 d.2) d.2 (by omega)
        refine hm (.inr (.inr (.inr (.inr ⟨.inl ⟨neg_of hD (by omega), pos_of hD (by omega)⟩, .inr ⟨pos_of hB (by omega), neg_of hB (by omega)⟩⟩))))
      · have := hmo (max a.2 c.2) (min b.2 d.2) hJ; omega
    · exfalso
      rcases vee_mono a b c d with hmo | hmo
      · have := hmo (max a.2 c.2) (min b.2 d.2) hJ; omega
      · have q1 := hmo a.2 (max a.2 c.2) (by omega)
        have q2 := hmo c.2 (max a.2 c.2) (by omega)
        have q3 := hmo (min b.2 d.2) b.2 (by omega)
        have q4 := hmo (min b.2 d.2) d.2 (by omega)
        refine hm (.inr (.inr (.inr (.inr ⟨.inr ⟨pos_of hD (by omega), neg_of hD (by omega)⟩, .inl ⟨neg_of hB (by omega), pos_of hB (by omega)⟩⟩))))
    · right
      intro y h1 h2 h3 h4
      rcases vee_mono a b c d with hmo | hmo
      · have := hmo (max a.2 c.2) y (by omega); omega
      · have := hmo y (min b.2 d.2) (by omega); omega
  · left
    intro y h1 h2 h3 h4
    omega

/-- Is a way that goes up to the right of a spot, at its height? -/
def crU (c d s : Pt) : Bool := decide (c.2 ≤ s.2 ∧ s.2 < d.2 ∧ 0 < sd c d s)
def cr (c d s : Pt) : Bool := if d.2 < c.2 then crU d c s else crU c d s
/-- Is a way to the right of the way a b, at a height? -/
def rgU (a b c d : Pt) (y : Int) : Bool := decide (c.2 ≤ y ∧ y < d.2 ∧ vee a b c d y < 0)
def rg (a b c d : Pt) (y : Int) : Bool := if d.2 < c.2 then rgU a b d c y else rgU a b c d y
/-- Is a spot above a height, not above b, and to the right of the way a b? -/
def abv (a b : Pt) (y : Int) (z : Pt) : Bool := decide (y < z.2 ∧ z.2 ≤ b.2 ∧ sd a b z < 0)

theorem up_xor {a b c d : Pt} {y : Int} (hab : a.2 < b.2) (hcd : c.2 < d.2) (h0 : a.2 ≤ y) (h1 : y ≤ b.2) (hm : ¬ Meets a b c d) : xor (rgU a b c d y) (crU c d b) = xor (abv a b y c) (abv a b y d) := by
  have vb := vee_b a b c d
  have vc := vee_c a b c d
  have vd := vee_d a b c d
  have hB : 0 < b.2 - a.2 := by omega
  have hD : 0 < d.2 - c.2 := by omega
  have eb : 0 < sd c d b ↔ vee a b c d b.2 < 0 := by
    rw [vb]
    exact ⟨fun h => by have := Int.mul_pos hB h; omega, fun h => pos_of hB (by omega)⟩
  have ec : sd a b c < 0 ↔ vee a b c d c.2 < 0 := by
    rw [vc]
    exact ⟨fun h => by have := Int.mul_pos hD (show 0 < - sd a b c by omega); rw [Int.mul_neg] at this; omega, fun h => neg_of hD h⟩
  have ed : sd a b d < 0 ↔ vee a b c d d.2 < 0 := by
    rw [vd]
    exact ⟨fun h => by have := Int.mul_pos hD (show 0 < - sd a b d by omega); rw [Int.mul_neg] at this; omega, fun h => neg_of hD h⟩
  unfold rgU crU abv
  simp only [eb, ec, ed]
  clear vb vc vd eb ec ed
  rcases vee_sign hab hcd hm with hs | hs
  · have q1 := hs y
    have q2 := hs b.2
    have q3 := hs c.2
    have q4 := hs d.2
    generalize vee a b c d y = w1 at *
    generalize vee a b c d b.2 = w2 at *
    generalize vee a b c d c.2 = w3 at *
    generalize vee a b c d d.2 = w4 at *
    clear hs hm
    have k1 : (c.2 ≤ y ∧ y < d.2 ∧ w1 < 0) ↔ (c.2 ≤ y ∧ y < d.2) := by constructor <;> intro h <;> omega
    have k2 : (c.2 ≤ b.2 ∧ b.2 < d.2 ∧ w2 < 0) ↔ (c.2 ≤ b.2 ∧ b.2 < d.2) := by constructor <;> intro h <;> omega
    have k3 : (y < c.2 ∧ c.2 ≤ b.2 ∧ w3 < 0) ↔ (y < c.2 ∧ c.2 ≤ b.2) := by constructor <;> intro h <;> omega
    have k4 : (y < d.2 ∧ d.2 ≤ b.2 ∧ w4 < 0) ↔ (y < d.2 ∧ d.2 ≤ b.2) := by constructor <;> intro h <;> omega
    simp only [k1, k2, k3, k4]
    by_cases e1 : c.2 ≤ y ∧ y < d.2 <;> by_cases e2 : c.2 ≤ b.2 ∧ b.2 < d.2 <;> by_cases e3 : y < c.2 ∧ c.2 ≤ b.2 <;> by_cases e4 : y < d.2 ∧ d.2 ≤ b.2 <;> (first | rw [decide_eq_true e1] | rw [decide_eq_false e1]) <;> (first | rw [decide_eq_true e2] | rw [decide_eq_false e2]) <;> (first | rw [decide_eq_true e3] | rw [decide_eq_false e3]) <;> (first | rw [decide_eq_true e4] | rw [decide_eq_false e4]) <;> first | rfl | (exfalso; omega)
  · have q1 := hs y
    have q2 := hs b.2
    have q3 := hs c.2
    have q4 := hs d.2
    generalize vee a b c d y = w1 at *
    generalize vee a b c d b.2 = w2 at *
    generalize vee a b c d c.2 = w3 at *
    generalize vee a b c d d.2 = w4 at *
    clear hs hm
    have k1 : ¬ (c.2 ≤ y ∧ y < d.2 ∧ w1 < 0) := fun h => by have := q1 (by omega) (by omega) (by omega) (by omega); omega
    have k2 : ¬ (c.2 ≤ b.2 ∧ b.2 < d.2 ∧ w2 < 0) := fun h => by have := q2 (by omega) (by omega) (by omega) (by omega); omega
    have k3 : ¬ (y < c.2 ∧ c.2 ≤ b.2 ∧ w3 < 0) := fun h => by have := q3 (by omega) (by omega) (by omega) (by omega); omega
    have k4 : ¬ (y < d.2 ∧ d.2 ≤ b.2 ∧ w4 < 0) := fun h => by have := q4 (by omega) (by omega) (by omega) (by omega); omega
    simp only [k1, k2, k3, k4, decide_false]

/-- Of two spots of one height that a way joins, both are to the right of a b or neither is. -/
theorem flat_abv {a b c d : Pt} {y : Int} (hab : a.2 < b.2) (hcd : c.2 = d.2) (h0 : a.2 ≤ y) (hm : ¬ Meets a b c d) : abv a b y c = abv a b y d := by
  have key : ∀ {c d : Pt}, c.2 = d.2 → ¬ Meets a b c d → y < c.2 → c.2 ≤ b.2 → sd a b c < 0 → sd a b d < 0 := by
    intro c d hcd hm h1 h2 hc
    rcases Int.lt_trichotomy (sd a b d) 0 with h | h | h
    · exact h
    · exact absurd (.inr (.inl (on_of_zero h hab (by omega) (by omega)))) hm
    · exfalso
      have tb : sd c d b = (d.1 - c.1) * (b.2 - c.2) := by unfold sd; rw [hcd]; grind
      have ta : sd c d a = (d.1 - c.1) * (a.2 - c.2) := by unfold sd; rw [hcd]; grind
      have e : sd a b d - sd a b c = (b.2 - a.2) * (c.1 - d.1) := by unfold sd; rw [hcd]; grind
      have hx : 0 < c.1 - d.1 := pos_of (show 0 < b.2 - a.2 by omega) (by omega)
      have ta' : 0 < sd c d a := by
        rw [ta, show (d.1 - c.1) * (a.2 - c.2) = (c.1 - d.1) * (c.2 - a.2) by grind]
        exact Int.mul_pos hx (by omega)
      rcases Int.lt_or_le c.2 b.2 with h3 | h3
      · have tb' : sd c d b < 0 := by
          have := Int.mul_pos hx (show 0 < b.2 - c.2 by omega)
          have e2 : (d.1 - c.1) * (b.2 - c.2) = - ((c.1 - d.1) * (b.2 - c.2)) := by grind
          omega
        exact hm (.inr (.inr (.inr (.inr ⟨.inl ⟨hc, h⟩, .inr ⟨ta', tb'⟩⟩))))
      · have hb : c.2 = b.2 := by omega
        have sc : sd a b c = (b.2 - a.2) * (b.1 - c.1) := by unfold sd; rw [hb]; grind
        have sdd : sd a b d = (b.2 - a.2) * (b.1 - d.1) := by unfold sd; rw [← hcd, hb]; grind
        have x1 : b.1 - c.1 < 0 := neg_of (show 0 < b.2 - a.2 by omega) (by omega)
        have x2 : 0 < b.1 - d.1 := pos_of (show 0 < b.2 - a.2 by omega) (by omega)
        refine hm (.inr (.inr (.inr (.inl ⟨?_, by omega, by omega, by omega, by omega⟩))))
        rw [tb, hb]; simp
  unfold abv
  congr 1
  refine propext ⟨fun ⟨h1, h2, h3⟩ => ⟨by omega, by omega, key hcd hm h1 h2 h3⟩, fun ⟨h1, h2, h3⟩ => ⟨by omega, by omega, key hcd.symm (fun h => hm h.swapR) h1 h2 h3⟩⟩

theorem rg_xor {a b c d : Pt} {y : Int} (hab : a.2 < b.2) (h0 : a.2 ≤ y) (h1 : y ≤ b.2) (hm : ¬ Meets a b c d) : xor (rg a b c d y) (cr c d b) = xor (abv a b y c) (abv a b y d) := by
  unfold rg cr
  rcases Int.lt_trichotomy c.2 d.2 with h | h | h
  · rw [if_neg (by omega), if_neg (by omega)]
    exact up_xor hab h h0 h1 hm
  · rw [if_neg (by omega), if_neg (by omega), flat_abv hab h h0 hm]
    have e1 : rgU a b c d y = false := by unfold rgU; simp; omega
    have e2 : crU c d b = false := by unfold crU; simp; omega
    rw [e1, e2]; simp
  · rw [if_pos h, if_pos h, up_xor hab h h0 h1 (fun h => hm h.swapR), Bool.xor_comm]

theorem rg_on {a b c d p : Pt} (hab : a.2 < b.2) (hp : sd a b p = 0) : rg a b c d p.2 = cr c d p := by
  have hB : 0 < b.2 - a.2 := by omega
  have key : ∀ c d : Pt, rgU a b c d p.2 = crU c d p := by
    intro c d
    unfold rgU crU
    have e := vee_pt a b c d p
    rw [hp, Int.mul_zero, Int.zero_sub] at e
    rw [e]
    congr 1
    refine propext ⟨fun ⟨h1, h2, h3⟩ => ⟨h1, h2, pos_of hB (by omega)⟩, fun ⟨h1, h2, h3⟩ => ⟨h1, h2, by have := Int.mul_pos hB h3; omega⟩⟩
  unfold rg cr
  rw [key, key]

/-- A way along a height: what is to the right of its spots. -/
theorem flat_cr {a b p c d : Pt} (hab : a.2 = b.2) (hp : OnW a b p) (hm : ¬ Meets a b c d) : cr c d p = cr c d b := by
  have hpy : p.2 = b.2 := by obtain ⟨_, _, _, h4, h5⟩ := hp; omega
  have key : ∀ {c d : Pt}, c.2 < d.2 → ¬ Meets a b c d → crU c d p = crU c d b := by
    intro c d hcd hm
    have hD : 0 < d.2 - c.2 := by omega
    unfold crU
    rw [hpy]
    congr 1
    have ta : ∀ z : Pt, z.2 = b.2 → sd c d z = sd c d b + (d.2 - c.2) * (b.1 - z.1) := by intro z hz; unfold sd; rw [hz]; grind
    have tP := ta p hpy
    have tA := ta a hab
    by_cases hin : c.2 ≤ b.2 ∧ b.2 < d.2
    · have nb : sd c d b ≠ 0 := fun h => hm (.inr (.inr (.inr (.inl (on_of_zero h hcd (by omega) (by omega))))))
      have na : sd c d a ≠ 0 := fun h => hm (.inr (.inr (.inl (on_of_zero h hcd (by omega) (by omega)))))
      have no : ¬ opp (sd c d a) (sd c d b) := by
        intro ho
        have sc : sd a b c = (b.1 - a.1) * (c.2 - b.2) := by unfold sd; rw [hab]; grind
        have sdd : sd a b d = (b.1 - a.1) * (d.2 - b.2) := by unfold sd; rw [hab]; grind
        have tc : sd c d a - sd c d b = (d.2 - c.2) * (b.1 - a.1) := by omega
        rcases Int.lt_or_le c.2 b.2 with h | h
        · refine hm (.inr (.inr (.inr (.inr ⟨?_, ho⟩))))
          rcases ho with ho | ho
          · have hx : b.1 - a.1 < 0 := neg_of hD (by omega)
            right
            rw [sc, sdd]
            have p1 := Int.mul_pos (show 0 < -(b.1 - a.1) by omega) (show 0 < b.2 - c.2 by omega)
            have p2 := Int.mul_pos (show 0 < -(b.1 - a.1) by omega) (show 0 < d.2 - b.2 by omega)
            have e1 : (b.1 - a.1) * (c.2 - b.2) = -(b.1 - a.1) * (b.2 - c.2) := by grind
            have e2 : (b.1 - a.1) * (d.2 - b.2) = -(-(b.1 - a.1) * (d.2 - b.2)) := by grind
            omega
          · have hx : 0 < b.1 - a.1 := pos_of hD (by omega)
            left
            rw [sc, sdd]
            have p1 := Int.mul_pos hx (show 0 < b.2 - c.2 by omega)
            have p2 := Int.mul_pos hx (show 0 < d.2 - b.2 by omega)
            have e1 : (b.1 - a.1) * (c.2 - b.2) = -((b.1 - a.1) * (b.2 - c.2)) := by grind
            omega
        · have hcb : c.2 = b.2 := by omega
          have xb : sd c d b = (d.2 - c.2) * (c.1 - b.1) := by unfold sd; rw [hcb]; grind
          have xa : sd c d a = (d.2 - c.2) * (c.1 - a.1) := by unfold sd; rw [hcb, hab]; grind
          refine hm (.inl ⟨?_, ?_, ?_, by omega, by omega⟩)
          · rw [sc, hcb]; simp
          · rcases ho with ho | ho
            · have y1 : c.1 - a.1 < 0 := neg_of hD (by omega)
              have y2 : 0 < c.1 - b.1 := pos_of hD (by omega)
              omega
            · have y1 : 0 < c.1 - a.1 := pos_of hD (by omega)
              have y2 : c.1 - b.1 < 0 := neg_of hD (by omega)
              omega
          · rcases ho with ho | ho
            · have y1 : c.1 - a.1 < 0 := neg_of hD (by omega)
              have y2 : 0 < c.1 - b.1 := pos_of hD (by omega)
              omega
            · have y1 : 0 < c.1 - a.1 := pos_of hD (by omega)
              have y2 : c.1 - b.1 < 0 := neg_of hD (by omega)
              omega
      obtain ⟨_, hx1, hx2, _, _⟩ := hp
      refine propext ⟨fun ⟨h1, h2, h3⟩ => ⟨h1, h2, ?_⟩, fun ⟨h1, h2, h3⟩ => ⟨h1, h2, ?_⟩⟩
      · rcases Int.lt_or_lt_of_ne nb with h4 | h4
        · exfalso
          have hxp : 0 < b.1 - p.1 := pos_of hD (by omega)
          have hxa : b.1 - p.1 ≤ b.1 - a.1 := by omega
          have := Int.mul_le_mul_of_nonneg_left hxa (Int.le_of_lt hD)
          exact no (.inr ⟨by omega, h4⟩)
        · exact h4
      · rcases Int.lt_or_le 0 (sd c d p) with h4 | h4
        · exact h4
        · exfalso
          have hxp : b.1 - p.1 < 0 := neg_of hD (by omega)
          have hxa : b.1 - a.1 ≤ b.1 - p.1 := by omega
          have := Int.mul_le_mul_of_nonneg_left hxa (Int.le_of_lt hD)
          exact no (.inl ⟨by omega, h3⟩)
    · refine propext ⟨fun ⟨h1, h2, _⟩ => absurd ⟨h1, h2⟩ hin, fun ⟨h1, h2, _⟩ => absurd ⟨h1, h2⟩ hin⟩
  unfold cr
  rcases Int.lt_trichotomy c.2 d.2 with h | h | h
  · rw [if_neg (by omega), if_neg (by omega)]; exact key h hm
  · rw [if_neg (by omega), if_neg (by omega)]
    unfold crU
    have e : ∀ z : Pt, ¬ (c.2 ≤ z.2 ∧ z.2 < d.2 ∧ 0 < sd c d z) := fun z h => by omega
    rw [decide_eq_false (e p), decide_eq_false (e b)]
  · rw [if_pos h, if_pos h]; exact key h (fun h => hm h.swapR)
end Go.Proofs.YthplhibdapjjgaaGreatDoor

/- Fences that have a spot in common touch: the plain law; no program in sight. -/
namespace Go.Proofs.YthplhibdapjjgaaGreatDoor

theorem on_on_up {a b c d p : Pt} (h1 : OnW a b p) (h2 : OnW c d p) (hab : a.2 < b.2) (hcd : c.2 < d.2) : Meets a b c d := by
  refine Classical.byContradiction fun hm => ?_
  have e := vee_pt a b c d p
  rw [h1.1, h2.1] at e
  obtain ⟨_, _, _, p1, p2⟩ := h1
  obtain ⟨_, _, _, p3, p4⟩ := h2
  rcases vee_sign hab hcd hm with hs | hs
  · have := hs p.2 (by omega) (by omega) (by omega) (by omega); omega
  · have := hs p.2 (by omega) (by omega) (by omega) (by omega); omega
theorem on_on_flat {a b c d p : Pt} (h1 : OnW a b p) (h2 : OnW c d p) (hab : a.2 = b.2) (hcd : c.2 < d.2) : Meets a b c d := by
  obtain ⟨_, x1, x2, y1, y2⟩ := h1
  obtain ⟨hz, _, _, y3, y4⟩ := h2
  have hp : p.2 = a.2 := by omega
  have hD : 0 < d.2 - c.2 := by omega
  have ta : ∀ z : Pt, z.2 = p.2 → sd c d z = (d.2 - c.2) * (p.1 - z.1) := by
    intro z hz2
    have : sd c d z = sd c d p + (d.2 - c.2) * (p.1 - z.1) := by unfold sd; rw [hz2]; grind
    omega
  have ea := ta a hp.symm
  have eb := ta b (by omega)
  by_cases ha : p.1 = a.1
  · exact .inr (.inr (.inl (on_of_zero (by rw [ea, ha]; simp) hcd (by omega) (by omega))))
  by_cases hb : p.1 = b.1
  · exact .inr (.inr (.inr (.inl (on_of_zero (by rw [eb, hb]; simp) hcd (by omega) (by omega)))))
  have sc : sd a b c = (b.1 - a.1) * (c.2 - p.2) := by unfold sd; rw [hp, ← hab]; grind
  have sdd : sd a b d = (b.1 - a.1) * (d.2 - p.2) := by unfold sd; rw [hp, ← hab]; grind
  rcases Int.lt_or_le c.2 p.2 with h3 | h3
  · rcases Int.lt_or_le p.2 d.2 with h4 | h4
    · refine .inr (.inr (.inr (.inr ⟨?_, ?_⟩)))
      · rcases Int.lt_or_le a.1 b.1 with h5 | h5
        · left
          have q1 := Int.mul_pos (show 0 < b.1 - a.1 by omega) (show 0 < p.2 - c.2 by omega)
          have q2 := Int.mul_pos (show 0 < b.1 - a.1 by omega) (show 0 < d.2 - p.2 by omega)
          have e1 : (b.1 - a.1) * (c.2 - p.2) = -((b.1 - a.1) * (p.2 - c.2)) := by grind
          omega
        · right
          have q1 := Int.mul_pos (show 0 < a.1 - b.1 by omega) (show 0 < p.2 - c.2 by omega)
          have q2 := Int.mul_pos (show 0 < a.1 - b.1 by omega) (show 0 < d.2 - p.2 by omega)
          have e1 : (b.1 - a.1) * (c.2 - p.2) = (a.1 - b.1) * (p.2 - c.2) := by grind
          have e2 : (b.1 - a.1) * (d.2 - p.2) = -((a.1 - b.1) * (d.2 - p.2)) := by grind
          omega
      · rcases Int.lt_or_le a.1 b.1 with h5 | h5
        · right
          have q1 := Int.mul_pos hD (show 0 < p.1 - a.1 by omega)
          have q2 := Int.mul_pos hD (show 0 < b.1 - p.1 by omega)
          have e2 : (d.2 - c.2) * (p.1 - b.1) = -((d.2 - c.2) * (b.1 - p.1)) := by grind
          omega
        · left
          have q1 := Int.mul_pos hD (show 0 < a.1 - p.1 by omega)
          have q2 := Int.mul_pos hD (show 0 < p.1 - b.1 by omega)
          have e2 : (d.2 - c.2) * (p.1 - a.1) = -((d.2 - c.2) * (a.1 - p.1)) := by grind
          omega
    · have hd : d.2 = p.2 := by omega
      have := ta d hd
      rw [sd_snd] at this
      have hx : p.1 - d.1 = 0 := zero_of hD this.symm
      exact .inr (.inl ⟨by rw [sdd, hd]; simp, by omega, by omega, by omega, by omega⟩)
  · have hc : c.2 = p.2 := by omega
    have := ta c hc
    rw [sd_fst] at this
    have hx : p.1 - c.1 = 0 := zero_of hD this.symm
    exact .inl ⟨by rw [sc, hc]; simp, by omega, by omega, by omega, by omega⟩
theorem on_on_flats {a b c d p : Pt} (h1 : OnW a b p) (h2 : OnW c d p) (hab : a.2 = b.2) (hcd : c.2 = d.2) : Meets a b c d := by
  obtain ⟨_, x1, x2, y1, y2⟩ := h1
  obtain ⟨_, x3, x4, y3, y4⟩ := h2
  have z1 : ∀ z : Pt, z.2 = a.2 → sd a b z = 0 := by intro z hz; unfold sd; rw [hz, ← hab]; simp
  have z2 : ∀ z : Pt, z.2 = c.2 → sd c d z = 0 := by intro z hz; unfold sd; rw [hz, ← hcd]; simp
  by_cases k1 : min a.1 b.1 ≤ c.1 ∧ c.1 ≤ max a.1 b.1
  · exact .inl ⟨z1 c (by omega), k1.1, k1.2, by omega, by omega⟩
  by_cases k2 : min a.1 b.1 ≤ d.1 ∧ d.1 ≤ max a.1 b.1
  · exact .inr (.inl ⟨z1 d (by omega), k2.1, k2.2, by omega, by omega⟩)
  by_cases k3 : min c.1 d.1 ≤ a.1 ∧ a.1 ≤ max c.1 d.1
  · exact .inr (.inr (.inl ⟨z2 a (by omega), k3.1, k3.2, by omega, by omega⟩))
  exact .inr (.inr (.inr (.inl ⟨z2 b (by omega), by omega, by omega, by omega, by omega⟩)))
theorem on_on {a b c d p : Pt} (h1 : OnW a b p) (h2 : OnW c d p) : Meets a b c d := by
  rcases Int.lt_trichotomy a.2 b.2 with h | h | h <;> rcases Int.lt_trichotomy c.2 d.2 with k | k | k
  · exact on_on_up h1 h2 h k
  · exact (on_on_flat h2 h1 k h).symm
  · exact (on_on_up h1 h2.swap h k).swapR
  · exact on_on_flat h1 h2 h k
  · exact on_on_flats h1 h2 h k
  · exact (on_on_flat h1 h2.swap h k).swapR
  · exact (on_on_up h1.swap h2 h k).swapL
  · exact (on_on_flat h2 h1.swap k h).symm.swapL
  · exact (on_on_up h1.swap h2.swap h k).swapL.swapR

/-! ### edges of corners -/
def gp (l : List Pt) (i : Nat) : Pt := l.getD i (0, 0)
def ed1 (l : List Pt) (i : Nat) : Pt := gp l i
def ed2 (l : List Pt) (i : Nat) : Pt := gp l ((i + 1) % l.length)
def xsum (F : Nat → Bool) : Nat → Bool
  | 0 => false
  | n + 1 => xor (xsum F n) (F n)
theorem xsum_xor (F G : Nat → Bool) (n : Nat) : xor (xsum F n) (xsum G n) = xsum (fun i => xor (F i) (G i)) n := by
  induction n with
  | zero => rfl
  | succ n ih => simp only [xsum]; rw [← ih]; cases xsum F n <;> cases xsum G n <;> cases F n <;> cases G n <;> rfl
theorem xsum_congr {F G : Nat → Bool} {n : Nat} (h : ∀ i, i < n → F i = G i) : xsum F n = xsum G n := by
  induction n with
  | zero => rfl
  | succ n ih => simp only [xsum]; rw [ih (fun i hi => h i (by omega)), h n (by omega)]
theorem xsum_tel (g : Nat → Bool) (n : Nat) : xsum (fun i => xor (g i) (g (i + 1))) n = xor (g 0) (g n) := by
  induction n with
  | zero => simp [xsum]
  | succ n ih => simp only [xsum]; rw [ih]; cases g 0 <;> cases g n <;> cases g (n + 1) <;> rfl
/-- How often the edges up to number n are to the right of a spot: an odd number? -/
def parN (l : List Pt) (s : Pt) (n : Nat) : Bool := xsum (fun i => cr (ed1 l i) (ed2 l i) s) n
def par (l : List Pt) (s : Pt) : Bool := parN l s l.length
theorem round_zero (l : List Pt) (h : Pt → Bool) : xsum (fun i => xor (h (ed1 l i)) (h (ed2 l i))) l.length = false := by
  rcases Nat.eq_zero_or_pos l.length with h0 | h0
  · rw [h0]; rfl
  · have e : xsum (fun i => xor (h (ed1 l i)) (h (ed2 l i))) l.length = xsum (fun i => xor (h (gp l (i % l.length))) (h (gp l ((i + 1) % l.length)))) l.length := by
      refine xsum_congr fun i hi => ?_
      rw [Nat.mod_eq_of_lt hi]
      rfl
    rw [e, xsum_tel (fun i => h (gp l (i % l.length)))]
    simp
theorem xor_false_eq {a b : Bool} (h : xor a b = false) : a = b := by cases a <;> cases b <;> simp_all
theorem par_up {m : List Pt} {a b : Pt} {y : Int} (hab : a.2 < b.2) (h0 : a.2 ≤ y) (h1 : y ≤ b.2) (hm : ∀ i, i < m.length → ¬ Meets a b (ed1 m i) (ed2 m i)) :
    xsum (fun i => rg a b (ed1 m i) (ed2 m i) y) m.length = par m b := by
  refine xor_false_eq ?_
  unfold par parN
  rw [xsum_xor, ← round_zero m (abv a b y)]
  exact xsum_congr fun i hi => rg_xor hab h0 h1 (hm i hi)
theorem on_end (a b : Pt) : OnW a b b := ⟨sd_snd a b, by omega, by omega, by omega, by omega⟩
theorem on_start (a b : Pt) : OnW a b a := ⟨sd_fst a b, by omega, by omega, by omega, by omega⟩
theorem par_on {m : List Pt} {a b p : Pt} (hp : OnW a b p) (hm : ∀ i, i < m.length → ¬ Meets a b (ed1 m i) (ed2 m i)) : par m p = par m b := by
  have up : ∀ {a b p : Pt}, a.2 < b.2 → OnW a b p → (∀ i, i < m.length → ¬ Meets a b (ed1 m i) (ed2 m i)) → par m p = par m b := by
    intro a b p h hp hm
    obtain ⟨hz, _, _, y1, y2⟩ := hp
    rw [← par_up h (show a.2 ≤ p.2 by omega) (by omega) hm]
    exact (xsum_congr fun i _ => rg_on h hz).symm
  rcases Int.lt_trichotomy a.2 b.2 with h | h | h
  · exact up h hp hm
  · exact xsum_congr fun i hi => flat_cr h hp (hm i hi)
  · have hm' : ∀ i, i < m.length → ¬ Meets b a (ed1 m i) (ed2 m i) := fun i hi k => hm i hi k.swapL
    rw [up h hp.swap hm', up h (on_start b a) hm']

/-- Is a spot on an edge of corners, or within them? -/
def Inn (l : List Pt) (s : Pt) : Prop := (∃ i, i < l.length ∧ OnW (ed1 l i) (ed2 l i) s) ∨ par l s = true
theorem par_chain {l m : List Pt} (hm : ∀ i, i < l.length → ∀ j, j < m.length → ¬ Meets (ed1 l i) (ed2 l i) (ed1 m j) (ed2 m j)) (i : Nat) (hi : i < l.length) : par m (gp l i) = par m (gp l 0) := by
  induction i with
  | zero => rfl
  | succ i ih =>
    rw [← ih (by omega)]
    have h := par_on (on_start (ed1 l i) (ed2 l i)) (hm i (by omega))
    have e : ed2 l i = gp l (i + 1) := by unfold ed2; rw [Nat.mod_eq_of_lt hi]
    rw [e] at h
    exact h.symm
theorem ed2_gp (l : List Pt) (i : Nat) (hi : i < l.length) : ∃ k, k < l.length ∧ ed2 l i = gp l k := ⟨(i + 1) % l.length, Nat.mod_lt _ (by omega), rfl⟩

/-! ### the nearest edge to the right -/
theorem frac_trans {t1 h1 t2 h2 t3 h3 : Int} (p1 : 0 < h1) (p2 : 0 < h2) (p3 : 0 < h3) (a : t1 * h2 ≤ t2 * h1) (b : t2 * h3 ≤ t3 * h2) : t1 * h3 ≤ t3 * h1 := by
  have q1 := Int.mul_le_mul_of_nonneg_right a (Int.le_of_lt p3)
  have q2 := Int.mul_le_mul_of_nonneg_right b (Int.le_of_lt p1)
  have e1 : h2 * (t1 * h3) = t1 * h2 * h3 := by grind
  have e2 : h2 * (t3 * h1) = t3 * h2 * h1 := by grind
  have e3 : t2 * h1 * h3 = t2 * h3 * h1 := by grind
  exact Int.le_of_mul_le_mul_left (a := h2) (by omega) p2
theorem nearest (P : Nat → Prop) (T h : Nat → Int) (hh : ∀ i, P i → 0 < h i) (n : Nat) (he : ∃ i, i < n ∧ P i) : ∃ i, i < n ∧ P i ∧ ∀ j, j < n → P j → T i * h j ≤ T j * h i := by
  induction n with
  | zero => obtain ⟨i, hi, _⟩ := he; omega
  | succ n ih =>
    by_cases hp : ∃ i, i < n ∧ P i
    · obtain ⟨i, hi, hpi, hmin⟩ := ih hp
      by_cases hpn : P n
      · rcases Int.le_total (T i * h n) (T n * h i) with h1 | h1
        · refine ⟨i, by omega, hpi, fun j hj hpj => ?_⟩
          rcases Nat.lt_or_ge j n with h2 | h2
          · exact hmin j h2 hpj
          · obtain rfl : j = n := by omega
            exact h1
        · refine ⟨n, by omega, hpn, fun j hj hpj => ?_⟩
          rcases Nat.lt_or_ge j n with h2 | h2
          · exact frac_trans (hh n hpn) (hh i hpi) (hh j hpj) h1 (hmin j h2 hpj)
          · obtain rfl : j = n := by omega
            exact Int.le_refl _
      · refine ⟨i, by omega, hpi, fun j hj hpj => ?_⟩
        rcases Nat.lt_or_ge j n with h2 | h2
        · exact hmin j h2 hpj
        · obtain rfl : j = n := by omega
          exact absurd hpj hpn
    · obtain ⟨i, hi, hpi⟩ := he
      have hin : i = n := by
        rcases Nat.lt_or_ge i n with h2 | h2
        · exact absurd ⟨i, h2, hpi⟩ hp
        · omega
      subst hin
      refine ⟨i, by omega, hpi, fun j hj hpj => ?_⟩
      rcases Nat.lt_or_ge j i with h2 | h2
      · exact absurd ⟨j, h2, hpj⟩ hp
      · obtain rfl : j = i := by omega
        exact Int.le_refl _
/-- A way, turned so that it goes up. -/
def up1 (c d : Pt) : Pt := if d.2 < c.2 then d else c
def up2 (c d : Pt) : Pt := if d.2 < c.2 then c else d
theorem cr_up (c d s : Pt) : cr c d s = crU (up1 c d) (up2 c d) s := by unfold cr up1 up2; split <;> rfl
theorem rg_up (a b c d : Pt) (y : Int) : rg a b c d y = rgU a b (up1 c d) (up2 c d) y := by unfold rg up1 up2; split <;> rfl
theorem meets_up {a b c d : Pt} (h : Meets a b (up1 c d) (up2 c d)) : Meets a b c d := by
  unfold up1 up2 at h
  by_cases k : d.2 < c.2
  · rw [if_pos k, if_pos k] at h; exact h.swapR
  · rw [if_neg k, if_neg k] at h; exact h
theorem meets_up2 {a b c d : Pt} (h : Meets (up1 a b) (up2 a b) c d) : Meets a b c d := (meets_up h.symm).symm
theorem xsum_one {F : Nat → Bool} {n : Nat} (h : xsum F n = true) : ∃ i, i < n ∧ F i = true := by
  induction n with
  | zero => cases h
  | succ n ih =>
    cases e : F n with
    | true => exact ⟨n, by omega, e⟩
    | false =>
      simp only [xsum, e, Bool.xor_false] at h
      obtain ⟨i, hi, h2⟩ := ih h
      exact ⟨i, by omega, h2⟩
/-- If the nearest edge to the right is one of l, a corner of l is within m as the spot is. -/
theorem near_in {l m : List Pt} {p : Pt} {i : Nat} (hi : i < l.length) (hc : crU (up1 (ed1 l i) (ed2 l i)) (up2 (ed1 l i) (ed2 l i)) p = true)
    (hm : ∀ i, i < l.length → ∀ j, j < m.length → ¬ Meets (ed1 l i) (ed2 l i) (ed1 m j) (ed2 m j))
    (hn : ∀ j, j < m.length → crU (up1 (ed1 m j) (ed2 m j)) (up2 (ed1 m j) (ed2 m j)) p = true →
      sd (up1 (ed1 l i) (ed2 l i)) (up2 (ed1 l i) (ed2 l i)) p * ((up2 (ed1 m j) (ed2 m j)).2 - (up1 (ed1 m j) (ed2 m j)).2) ≤ sd (up1 (ed1 m j) (ed2 m j)) (up2 (ed1 m j) (ed2 m j)) p * ((up2 (ed1 l i) (ed2 l i)).2 - (up1 (ed1 l i) (ed2 l i)).2)) :
    par m p = par m (gp l 0) := by
  have hb : ∃ k, k < l.length ∧ up2 (ed1 l i) (ed2 l i) = gp l k := by
    unfold up2
    split
    · exact ⟨i, hi, rfl⟩
    · exact ed2_gp l i hi
  have hml : ∀ j, j < m.length → ¬ Meets (up1 (ed1 l i) (ed2 l i)) (up2 (ed1 l i) (ed2 l i)) (ed1 m j) (ed2 m j) := fun j hj h => hm i hi j hj (meets_up2 h)
  generalize up1 (ed1 l i) (ed2 l i) = a at hc hn hml
  generalize up2 (ed1 l i) (ed2 l i) = b at hb hc hn hml
  obtain ⟨k, hk, rfl⟩ := hb
  unfold crU at hc
  simp only [decide_eq_true_eq] at hc
  obtain ⟨y1, y2, hs⟩ := hc
  have hup := par_up (y := p.2) (show a.2 < (gp l k).2 by omega) y1 (by omega) hml
  rw [← par_chain hm k hk, ← hup]
  unfold par parN
  refine xsum_congr fun j hj => ?_
  rw [cr_up, rg_up]
  have hnj := hn j hj
  have hmj : ¬ Meets a (gp l k) (up1 (ed1 m j) (ed2 m j)) (up2 (ed1 m j) (ed2 m j)) := fun h => hml j hj (meets_up h)
  generalize up1 (ed1 m j) (ed2 m j) = c at hnj hmj
  generalize up2 (ed1 m j) (ed2 m j) = d at hnj hmj
  generalize gp l k = b at *
  have e := vee_pt a b c d p
  unfold crU rgU at *
  simp only [decide_eq_true_eq] at hnj
  by_cases hin : c.2 ≤ p.2 ∧ p.2 < d.2
  · congr 1
    have hcd : 0 < d.2 - c.2 := by omega
    have hab : 0 < b.2 - a.2 := by omega
    refine propext ⟨fun ⟨h1, h2, h3⟩ => ⟨h1, h2, ?_⟩, fun ⟨h1, h2, h3⟩ => ⟨h1, h2, ?_⟩⟩
    · have q := hnj ⟨h1, h2, h3⟩
      have q1 : sd a b p * (d.2 - c.2) = (d.2 - c.2) * sd a b p := Int.mul_comm _ _
      have q2 : sd c d p * (b.2 - a.2) = (b.2 - a.2) * sd c d p := Int.mul_comm _ _
      rcases vee_sign (by omega) (by omega) hmj with hsg | hsg
      · exact hsg p.2 (by omega) (by omega) (by omega) (by omega)
      · have := hsg p.2 (by omega) (by omega) (by omega) (by omega); omega
    · have := Int.mul_pos hcd hs
      exact pos_of hab (by omega)
  · have e1 : ∀ P : Prop, ¬ (c.2 ≤ p.2 ∧ p.2 < d.2 ∧ P) := fun P h => hin ⟨h.1, h.2.1⟩
    simp only [e1, decide_false]
theorem inn_touch {l m : List Pt} {p : Pt} (h1 : Inn l p) (h2 : Inn m p) :
    Inn l (gp m 0) ∨ Inn m (gp l 0) ∨ ∃ i, i < l.length ∧ ∃ j, j < m.length ∧ Meets (ed1 l i) (ed2 l i) (ed1 m j) (ed2 m j) := by
  by_cases hm : ∃ i, i < l.length ∧ ∃ j, j < m.length ∧ Meets (ed1 l i) (ed2 l i) (ed1 m j) (ed2 m j)
  · exact .inr (.inr hm)
  have hm1 : ∀ i, i < l.length → ∀ j, j < m.length → ¬ Meets (ed1 l i) (ed2 l i) (ed1 m j) (ed2 m j) := fun i hi j hj h => hm ⟨i, hi, j, hj, h⟩
  have hm2 : ∀ i, i < m.length → ∀ j, j < l.length → ¬ Meets (ed1 m i) (ed2 m i) (ed1 l j) (ed2 l j) := fun i hi j hj h => hm ⟨j, hj, i, hi, h.symm⟩
  rcases h1 with ⟨i, hi, h1⟩ | h1
  · rcases h2 with ⟨j, hj, h2⟩ | h2
    · exact .inr (.inr ⟨i, hi, j, hj, on_on h1 h2⟩)
    · refine .inr (.inl (.inr ?_))
      obtain ⟨k, hk, e⟩ := ed2_gp l i hi
      rw [← par_chain hm1 k hk, ← e, ← par_on h1 (hm1 i hi)]
      exact h2
  · rcases h2 with ⟨j, hj, h2⟩ | h2
    · refine .inl (.inr ?_)
      obtain ⟨k, hk, e⟩ := ed2_gp m j hj
      rw [← par_chain hm2 k hk, ← e, ← par_on h2 (hm2 j hj)]
      exact h1
    · have A : ∀ l : List Pt, par l p = true → ∃ i, i < l.length ∧ crU (up1 (ed1 l i) (ed2 l i)) (up2 (ed1 l i) (ed2 l i)) p = true ∧
          ∀ j, j < l.length → crU (up1 (ed1 l j) (ed2 l j)) (up2 (ed1 l j) (ed2 l j)) p = true →
            sd (up1 (ed1 l i) (ed2 l i)) (up2 (ed1 l i) (ed2 l i)) p * ((up2 (ed1 l j) (ed2 l j)).2 - (up1 (ed1 l j) (ed2 l j)).2) ≤ sd (up1 (ed1 l j) (ed2 l j)) (up2 (ed1 l j) (ed2 l j)) p * ((up2 (ed1 l i) (ed2 l i)).2 - (up1 (ed1 l i) (ed2 l i)).2) := by
        intro l h
        obtain ⟨i, hi, hc⟩ := xsum_one h
        rw [cr_up] at hc
        refine nearest (fun i => crU (up1 (ed1 l i) (ed2 l i)) (up2 (ed1 l i) (ed2 l i)) p = true) (fun i => sd (up1 (ed1 l i) (ed2 l i)) (up2 (ed1 l i) (ed2 l i)) p) (fun i => (up2 (ed1 l i) (ed2 l i)).2 - (up1 (ed1 l i) (ed2 l i)).2) ?_ l.length ⟨i, hi, hc⟩
        intro i hi
        unfold crU at hi
        simp only [decide_eq_true_eq] at hi
        omega
      have pos : ∀ {a b : Pt}, crU a b p = true → 0 < b.2 - a.2 := by
        intro a b h
        unfold crU at h
        simp only [decide_eq_true_eq] at h
        omega
      obtain ⟨i, hi, ci, mi⟩ := A l h1
      obtain ⟨j, hj, cj, mj⟩ := A m h2
      rcases Int.le_total (sd (up1 (ed1 l i) (ed2 l i)) (up2 (ed1 l i) (ed2 l i)) p * ((up2 (ed1 m j) (ed2 m j)).2 - (up1 (ed1 m j) (ed2 m j)).2)) (sd (up1 (ed1 m j) (ed2 m j)) (up2 (ed1 m j) (ed2 m j)) p * ((up2 (ed1 l i) (ed2 l i)).2 - (up1 (ed1 l i) (ed2 l i)).2)) with h | h
      · refine .inr (.inl (.inr ?_))
        rw [← near_in hi ci hm1 (fun k hk ck => frac_trans (pos ci) (pos cj) (pos ck) h (mj k hk ck))]
        exact h2
      · refine .inl (.inr ?_)
        rw [← near_in hj cj hm2 (fun k hk ck => frac_trans (pos cj) (pos ci) (pos ck) h (mi k hk ck))]
        exact h1
end Go.Proofs.YthplhibdapjjgaaGreatDoor
