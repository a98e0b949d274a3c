/- Tracks as data; StaysAreNear: the plain law of stays. -/
import Derived.Test.YtdkldbfhbpmjgaaGreatDoorRec
namespace Go.Proofs.YtdkldbfhbpmjgaaGreatDoor
open Go.RowKit

/-- A fix of device d: at, x, y, error. -/
abbrev Fx := Int × Int × Int × Int
def fxC (x : Fx) : List Value := [.string ⟨#[100]⟩, .int .i64 x.1, .int .i64 x.2.1, .int .i64 x.2.2.1, .int .i64 x.2.2.2]
def fxV (x : Fx) : Value := .agg #[.string ⟨#[100]⟩, .int .i64 x.1, .int .i64 x.2.1, .int .i64 x.2.2.1, .int .i64 x.2.2.2]
theorem fxC_len (x : Fx) : (fxC x).length = 5 := rfl
theorem fxC_one (x : Fx) : ∀ u ∈ fxC x, u.oneCell' = true := by
  intro u hu
  simp only [fxC, List.mem_cons, List.not_mem_nil, or_false] at hu
  rcases hu with rfl | rfl | rfl | rfl | rfl <;> rfl
structure OkF (x : Fx) : Prop where
  at0 : 0 ≤ x.1
  at1 : x.1 ≤ 100000
  x0 : -10000 ≤ x.2.1
  x1 : x.2.1 ≤ 10000
  y0 : -10000 ≤ x.2.2.1
  y1 : x.2.2.1 ≤ 10000
  e0 : 0 ≤ x.2.2.2
  e1 : x.2.2.2 ≤ 10000
structure GoodF (l : List Fx) : Prop where
  len : l.length ≤ 100
  ok : ∀ x ∈ l, OkF x
  rise : l.Pairwise (fun x y => x.1 < y.1)
theorem GoodF.lt {l : List Fx} (h : GoodF l) {i j : Nat} {x y : Fx} (hij : i < j) (hx : l[i]? = some x) (hy : l[j]? = some y) : x.1 < y.1 := by
  have hr := h.rise
  rw [List.pairwise_iff_getElem] at hr
  obtain ⟨a1, a2⟩ := List.getElem?_eq_some_iff.1 hx
  obtain ⟨b1, b2⟩ := List.getElem?_eq_some_iff.1 hy
  have := hr i j a1 b1 hij
  rw [a2, b2] at this
  exact this
theorem GoodF.get {l : List Fx} (h : GoodF l) {i : Nat} {x : Fx} (hx : l[i]? = some x) : OkF x := h.ok x (List.mem_of_getElem? hx)
/-- The square of a distance. -/
def sq2 (a b c d : Int) : Int := (a - c) * (a - c) + (b - d) * (b - d)
theorem sqr_le {a B : Int} (h1 : -B ≤ a) (h2 : a ≤ B) : 0 ≤ a * a ∧ a * a ≤ B * B := by
  rcases Int.le_total 0 a with h | h
  · exact ⟨Int.mul_nonneg h h, Int.mul_le_mul h2 h2 h (by omega)⟩
  · have e : a * a = (-a) * (-a) := by rw [Int.neg_mul_neg]
    rw [e]
    exact ⟨Int.mul_nonneg (by omega) (by omega), Int.mul_le_mul (by omega) (by omega) (by omega) (by omega)⟩
theorem sq2_symm (a b c d : Int) : sq2 a b c d = sq2 c d a b := by
  have h : ∀ p q : Int, (p - q) * (p - q) = (q - p) * (q - p) := fun p q => by rw [← Int.neg_mul_neg (p - q)]; congr 1 <;> omega
  unfold sq2
  rw [h a c, h b d]

/-- A stay: from, to, x, y. -/
abbrev Sty := Int × Int × Int × Int
def stC (s : Sty) : List Value := [.int .i64 s.1, .int .i64 s.2.1, .int .i64 s.2.2.1, .int .i64 s.2.2.2]
theorem stC_len (s : Sty) : (stC s).length = 4 := rfl
theorem stC_one (s : Sty) : ∀ u ∈ stC s, u.oneCell' = true := by
  intro u hu
  simp only [stC, List.mem_cons, List.not_mem_nil, or_false] at hu
  rcases hu with rfl | rfl | rfl | rfl <;> rfl
structure StOk (l : List Fx) (near long : Int) (S : List Sty) : Prop where
  from_ : ∀ s ∈ S, 0 ≤ s.1 ∧ s.1 ≤ 100000 ∧ s.1 ≤ s.2.1 ∧ s.2.1 ≤ 100000
  x_ : ∀ s ∈ S, -10000 ≤ s.2.2.1 ∧ s.2.2.1 ≤ 10000 ∧ -10000 ≤ s.2.2.2 ∧ s.2.2.2 ≤ 10000
  long_ : ∀ s ∈ S, long ≤ s.2.1 - s.1
  near_ : ∀ s ∈ S, ∀ y ∈ l, s.1 ≤ y.1 → y.1 ≤ s.2.1 → sq2 y.2.1 y.2.2.1 s.2.2.1 s.2.2.2 ≤ near * near
  apart : S.Pairwise (fun s t => s.2.1 < t.1)
/-- Stays found before element i. -/
structure StInv (l : List Fx) (near long : Int) (i : Nat) (S : List Sty) : Prop where
  ok : StOk l near long S
  len : S.length ≤ i
  past : ∀ s ∈ S, ∀ (j : Nat) (y : Fx), i ≤ j → l[j]? = some y → s.2.1 < y.1
theorem StInv.start (l : List Fx) (near long : Int) : StInv l near long 0 [] :=
  ⟨⟨by simp, by simp, by simp, by simp, by simp⟩, by simp, by simp⟩
theorem StInv.skip {l : List Fx} {near long : Int} {i : Nat} {S : List Sty} (h : StInv l near long i S) : StInv l near long (i + 1) S :=
  ⟨h.ok, by have := h.len; omega, fun s hs j y hj hy => h.past s hs j y (by omega) hy⟩
theorem StInv.step {l : List Fx} {near long : Int} {i k : Nat} {S : List Sty} (h : StInv l near long i S) (hg : GoodF l) (hik : i ≤ k) (x z : Fx) (hx : l[i]? = some x) (hz : l[k]? = some z) (hl : long ≤ z.1 - x.1) (hlong : 0 ≤ long)
    (hn : ∀ (j : Nat) (y : Fx), i ≤ j → j ≤ k → l[j]? = some y → sq2 x.2.1 x.2.2.1 y.2.1 y.2.2.1 ≤ near * near) : StInv l near long (k + 1) (S ++ [(x.1, z.1, x.2.1, x.2.2.1)]) := by
  have ox := hg.get hx
  have oz := hg.get hz
  refine ⟨⟨?_, ?_, ?_, ?_, ?_⟩, ?_, ?_⟩
  · intro s hs
    rcases List.mem_append.1 hs with hs | hs
    · exact h.ok.from_ s hs
    · simp only [List.mem_singleton] at hs; subst hs
      have := ox.at0; have := ox.at1; have := oz.at1
      simp only; omega
  · intro s hs
    rcases List.mem_append.1 hs with hs | hs
    · exact h.ok.x_ s hs
    · simp only [List.mem_singleton] at hs; subst hs
      exact ⟨ox.x0, ox.x1, ox.y0, ox.y1⟩
  · intro s hs
    rcases List.mem_append.1 hs with hs | hs
    · exact h.ok.long_ s hs
    · simp only [List.mem_singleton] at hs; subst hs
      exact hl
  · intro s hs y hy h1 h2
    rcases List.mem_append.1 hs with hs | hs
    · exact h.ok.near_ s hs y hy h1 h2
    · simp only [List.mem_singleton] at hs; subst hs
      simp only at h1 h2 ⊢
      obtain ⟨j, hj⟩ := List.getElem?_of_mem hy
      have hij : i ≤ j := by
        rcases Nat.lt_or_ge j i with h3 | h3
        · have := hg.lt h3 hj hx; omega
        · exact h3
      have hjk : j ≤ k := by
        rcases Nat.lt_or_ge k j with h3 | h3
        · have := hg.lt h3 hz hj; omega
        · exact h3
      rw [sq2_symm]
      exact hn j y hij hjk hj
  · rw [List.pairwise_append]
    refine ⟨h.ok.apart, by simp, ?_⟩
    intro s hs t ht
    simp only [List.mem_singleton] at ht; subst ht
    exact h.past s hs i x (Nat.le_refl _) hx
  · have := h.len
    simp; omega
  · intro s hs j y hj hy
    rcases List.mem_append.1 hs with hs | hs
    · exact h.past s hs j y (by omega) hy
    · simp only [List.mem_singleton] at hs; subst hs
      exact hg.lt (show k < j by omega) hz hy
/-- Where the last of some stays ends. -/
def lastS (S : List Sty) : Int := (S.getLast?.map (·.2.1)).getD (-1)
theorem lastS_snoc (S : List Sty) (s : Sty) : lastS (S ++ [s]) = s.2.1 := by simp [lastS]
theorem lastS_lt {l : List Fx} {near long : Int} {S : List Sty} (h : StOk l near long S) (k : Nat) (s : Sty) (hs : S[k]? = some s) : lastS (S.take k) < s.1 := by
  cases k with
  | zero =>
    have := h.from_ s (List.mem_of_getElem? hs)
    simp [lastS]; omega
  | succ k =>
    obtain ⟨hk, e⟩ := List.getElem?_eq_some_iff.1 hs
    have : S.take (k + 1) = S.take k ++ [S[k]] := by rw [List.take_succ_eq_append_getElem (by omega)]
    rw [this, lastS_snoc]
    have hr := h.apart
    rw [List.pairwise_iff_getElem] at hr
    have := hr k (k + 1) (by omega) hk (by omega)
    rw [e] at this
    exact this
end Go.Proofs.YtdkldbfhbpmjgaaGreatDoor
