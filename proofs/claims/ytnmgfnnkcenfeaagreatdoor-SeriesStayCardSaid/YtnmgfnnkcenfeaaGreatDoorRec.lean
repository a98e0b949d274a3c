/- Rows of records: plain lemmas on memory; no program in sight. -/
import Derived.Test.YtnmgfnnkcenfeaaGreatDoorMgA
namespace Go.Proofs.YtnmgfnnkcenfeaaGreatDoor
open Go.RowKit

/-- The cells of records, each of k cells. -/
def recs {α : Type} (f : α → List Value) (l : List α) : List Value := l.flatMap f
theorem recs_nil {α : Type} (f : α → List Value) : recs f [] = [] := rfl
theorem recs_append {α : Type} (f : α → List Value) (a b : List α) : recs f (a ++ b) = recs f a ++ recs f b := by simp [recs]
theorem recs_snoc {α : Type} (f : α → List Value) (a : List α) (x : α) : recs f (a ++ [x]) = recs f a ++ f x := by simp [recs]
section
variable {α : Type} {f : α → List Value} {k : Nat}
theorem recs_length (hf : ∀ x, (f x).length = k) (l : List α) : (recs f l).length = l.length * k := by
  induction l with
  | nil => simp [recs]
  | cons x l ih => simp only [recs, List.flatMap_cons, List.length_append, List.length_cons] at ih ⊢; rw [ih, hf, Nat.succ_mul]; omega
theorem recs_get (hf : ∀ x, (f x).length = k) (l : List α) (i : Nat) (x : α) (h : l[i]? = some x) (j : Nat) (hj : j < k) : (recs f l)[i * k + j]? = (f x)[j]? := by
  induction l generalizing i with
  | nil => simp at h
  | cons y l ih =>
    cases i with
    | zero =>
      simp only [List.getElem?_cons_zero, Option.some.injEq] at h
      subst h
      simp only [recs, List.flatMap_cons]
      rw [List.getElem?_append_left (by rw [hf]; omega)]
      simp
    | succ i =>
      simp only [List.getElem?_cons_succ] at h
      have := ih i h
      simp only [recs, List.flatMap_cons] at this ⊢
      rw [List.getElem?_append_right (by rw [hf, Nat.succ_mul]; omega), ← this, hf]
      congr 1
      rw [Nat.succ_mul]; omega
theorem rec_cell (hf : ∀ x, (f x).length = k) {w : World} {b o : Nat} {l : List α} (h : Cells w b o (recs f l)) (i : Nat) (x : α) (hx : l[i]? = some x) (j : Nat) (u : Value) (hj : (f x)[j]? = some u) : w.cell? ⟨b, o + i * k + j, none⟩ = some u := by
  have hjk : j < k := by have := (List.getElem?_eq_some_iff.1 hj).1; rw [hf] at this; exact this
  have := h (i * k + j) u ((recs_get hf l i x hx j hjk).trans hj)
  rwa [← Nat.add_assoc] at this
theorem Row.posR (hf : ∀ x, (f x).length = k) (hk : 0 < k) {w : World} {B : Nat} {A : Option Addr} {l : List α} (h : Row w B A (recs f l)) (hl : 0 < l.length) : ∃ b o, A = some ⟨b, o, none⟩ ∧ b < B ∧ Cells w b o (recs f l) := by
  rcases h with h | h
  · have := recs_length hf l
    rw [h] at this
    simp only [List.length_nil] at this
    have := Nat.mul_pos hl hk
    omega
  · exact h
theorem recs_one (h1 : ∀ x, ∀ u ∈ f x, u.oneCell' = true) (l : List α) : ∀ u ∈ recs f l, u.oneCell' = true := by
  intro u hu
  simp only [recs, List.mem_flatMap] at hu
  obtain ⟨x, _, hx⟩ := hu
  exact h1 x u hx
theorem recs_drop (hf : ∀ x, (f x).length = k) (l : List α) (i : Nat) : (recs f l).drop (i * k) = recs f (l.drop i) := by
  induction l generalizing i with
  | nil => simp [recs]
  | cons y l ih =>
    cases i with
    | zero => simp
    | succ i =>
      simp only [recs, List.flatMap_cons, List.drop_succ_cons] at ih ⊢
      rw [Nat.succ_mul, Nat.add_comm, ← List.drop_drop, List.drop_left' (hf y), ih]
end
theorem Cells.drop {w : World} {b o : Nat} {xs : List Value} (h : Cells w b o xs) (i : Nat) : Cells w b (o + i) (xs.drop i) := by
  intro j u hu
  rw [List.getElem?_drop] at hu
  have := h (i + j) u hu
  rwa [← Nat.add_assoc] at this
theorem Cells.take {w : World} {b o : Nat} {xs : List Value} (h : Cells w b o xs) (i : Nat) : Cells w b o (xs.take i) := by
  intro j u hu
  rw [List.getElem?_take] at hu
  split at hu
  · exact h j u hu
  · cases hu
/-- A row that is owned, read from an element on. -/
theorem Row.dropR {α : Type} {f : α → List Value} {k : Nat} (hf : ∀ x, (f x).length = k) {w : World} {B b o : Nat} {l : List α} (h : Cells w b o (recs f l)) (hb : b < B) (i : Nat) : Row w B (some ⟨b, o + i * k, none⟩) (recs f (l.drop i)) := by
  have := h.drop (i * k)
  rw [recs_drop hf] at this
  exact .inr ⟨b, _, rfl, hb, this⟩
theorem own_cap {w : World} {base : Nat} {e : TypeId} {size n : Nat} {A : Option Addr} {c : Nat} {xs : List Value} (h : w.ownsRow base e size (.slice A n c) n xs) : n ≤ c := by
  rcases h.2 with ⟨hv, hn⟩ | ⟨g, cap, cur, hv, _, _, hc, _⟩
  · omega
  · injection hv with _ _ hc'
    omega
theorem own_two {w : World} {base : Nat} {e : TypeId} {size n : Nat} {A : Option Addr} {c : Nat} {xs : List Value} (h : w.ownsRow base e size (.slice A n c) n xs) : (A = none ∧ n = 0 ∧ c = 0) ∨ ∃ g, A = some ⟨g, 0, none⟩ ∧ base ≤ g ∧ g < w.heap.size := by
  rcases h.2 with ⟨hv, hn⟩ | ⟨g, cap, cur, hv, hb, hh, hc, _⟩
  · injection hv with h1 h2 h3
    exact .inl ⟨h1, hn, h3⟩
  · injection hv with h1 h2 h3
    exact .inr ⟨g, h1, hb, (Array.getElem?_eq_some_iff.1 hh).1⟩
end Go.Proofs.YtnmgfnnkcenfeaaGreatDoor
