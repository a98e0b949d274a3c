/- ValuesMeet: the plain law of spans. -/
import Derived.Test.YtbimiojoihfnkaaGreatDoorVmA
namespace Go.Proofs.YtbimiojoihfnkaaGreatDoor
open Go.RowKit

/-- How long some spans are together, and the sum of what they hold. -/
def hT : List Spn → Int
  | [] => 0
  | s :: r => (s.2.1 - s.1) + hT r
def hS : List Spn → Int
  | [] => 0
  | s :: r => s.2.2 * (s.2.1 - s.1) + hS r
theorem hT_snoc (S : List Spn) (s : Spn) : hT (S ++ [s]) = hT S + (s.2.1 - s.1) := by
  induction S with
  | nil => simp [hT]
  | cons x S ih => simp only [List.cons_append, hT, ih]; omega
theorem hS_snoc (S : List Spn) (s : Spn) : hS (S ++ [s]) = hS S + s.2.2 * (s.2.1 - s.1) := by
  induction S with
  | nil => simp [hS]
  | cons x S ih => simp only [List.cons_append, hS, ih]; omega
/-- Spans that go from a to b without a gap. -/
def Jnd : List Spn → Int → Int → Prop
  | [], a, b => a = b
  | s :: r, a, b => s.1 = a ∧ s.1 < s.2.1 ∧ Jnd r s.2.1 b
theorem Jnd.snoc {S : List Spn} {a c : Int} {s : Spn} (h : Jnd S a c) (h1 : s.1 = c) (h2 : s.1 < s.2.1) : Jnd (S ++ [s]) a s.2.1 := by
  induction S generalizing a with
  | nil => exact ⟨h1.trans h.symm, h2, rfl⟩
  | cons x S ih => exact ⟨h.1, h.2.1, ih h.2.2⟩
theorem Jnd.time {S : List Spn} {a b : Int} (h : Jnd S a b) : hT S = b - a ∧ a ≤ b := by
  induction S generalizing a with
  | nil => have : a = b := h; simp [hT]; omega
  | cons x S ih => have h1 := h.1; have h2 := h.2.1; have h3 := ih h.2.2; simp only [hT]; omega
theorem Jnd.take {S : List Spn} {a b : Int} (h : Jnd S a b) (k : Nat) : ∃ c, Jnd (S.take k) a c ∧ a ≤ c ∧ c ≤ b := by
  induction S generalizing a k with
  | nil => exact ⟨a, by simp [Jnd], Int.le_refl _, by have : a = b := h; omega⟩
  | cons x S ih =>
    cases k with
    | zero => exact ⟨a, by simp [Jnd], Int.le_refl _, h.time.2⟩
    | succ k =>
      obtain ⟨c, h1, h2, h3⟩ := ih h.2.2 k
      have := h.1
      have := h.2.1
      exact ⟨c, ⟨h.1, h.2.1, h1⟩, by omega, h3⟩
theorem Jnd.get {S : List Spn} {a b : Int} (h : Jnd S a b) (k : Nat) (s : Spn) (hs : S[k]? = some s) : a ≤ s.1 ∧ s.1 < s.2.1 ∧ s.2.1 ≤ b ∧ Jnd (S.take k) a s.1 := by
  induction S generalizing a k with
  | nil => simp at hs
  | cons x S ih =>
    have h1 := h.1
    have h2 := h.2.1
    have h3 := h.2.2.time.2
    cases k with
    | zero =>
      simp only [List.getElem?_cons_zero, Option.some.injEq] at hs
      subst hs
      exact ⟨by omega, h2, h3, by simp [Jnd, h1]⟩
    | succ k =>
      simp only [List.getElem?_cons_succ] at hs
      obtain ⟨g1, g2, g3, g4⟩ := ih h.2.2 k hs
      exact ⟨by omega, g2, g3, ⟨h1, h2, g4⟩⟩
theorem mul_between {lo hi v d : Int} (h1 : lo ≤ v) (h2 : v ≤ hi) (hd : 0 ≤ d) : lo * d ≤ v * d ∧ v * d ≤ hi * d :=
  ⟨Int.mul_le_mul_of_nonneg_right h1 hd, Int.mul_le_mul_of_nonneg_right h2 hd⟩
theorem hS_between {S : List Spn} {a b lo hi : Int} (h : Jnd S a b) (hv : ∀ s ∈ S, lo ≤ s.2.2 ∧ s.2.2 ≤ hi) : lo * hT S ≤ hS S ∧ hS S ≤ hi * hT S := by
  induction S generalizing a with
  | nil => simp [hT, hS]
  | cons x S ih =>
    have h2 := h.2.1
    have h3 := ih h.2.2 (fun s hs => hv s (List.mem_cons_of_mem _ hs))
    have h4 := hv x (List.mem_cons_self ..)
    have h5 := mul_between h4.1 h4.2 (show 0 ≤ x.2.1 - x.1 by omega)
    simp only [hT, hS, Int.mul_add]
    omega

theorem spL_jnd (l : List Smp) (T : Int) (hl : 0 < l.length) (hr : ∀ (i : Nat) (x y : Smp), l[i]? = some x → l[i + 1]? = some y → x.1 < y.1) (hT' : ∀ s ∈ l, s.1 < T) (n : Nat) (hn : n ≤ l.length) :
    Jnd (spL l T n) (l.getD 0 (0, 0)).1 (if n < l.length then (l.getD n (0, 0)).1 else T) := by
  induction n with
  | zero => rw [if_pos hl]; rfl
  | succ n ih =>
    have ih := ih (by omega)
    rw [if_pos (show n < l.length by omega)] at ih
    rw [spL_succ]
    have hx := List.getElem?_eq_getElem (show n < l.length by omega)
    have he : (spE l T n).2.1 = if n + 1 < l.length then (l.getD (n + 1) (0, 0)).1 else T := by
      simp only [spE, spTo]
      split
      · rename_i h; simp [List.getD, List.getElem?_eq_getElem h]
      · rename_i h; simp [List.getElem?_eq_none (show l.length ≤ n + 1 by omega)]
    rw [← he]
    refine ih.snoc rfl ?_
    rw [he]
    show (l.getD n (0, 0)).1 < _
    split
    · rename_i h
      have := hr n _ _ hx (List.getElem?_eq_getElem h)
      simpa [List.getD, hx, List.getElem?_eq_getElem h] using this
    · have := hT' _ (List.mem_of_getElem? hx)
      simpa [List.getD, hx] using this
theorem spL_full (l : List Smp) (T : Int) (n : Nat) (hn : l.length = n) (hl : 0 < n) (hg : GoodS l) (hT' : ∀ s ∈ l, s.1 < T) : Jnd (spL l T n) (l.getD 0 (0, 0)).1 T := by
  have := spL_jnd l T (by omega) hg.rise hT' n (by omega)
  rw [if_neg (by omega)] at this
  exact this
theorem spL_val (l : List Smp) (T : Int) (n : Nat) (hn : n ≤ l.length) : ∀ s ∈ spL l T n, ∃ x ∈ l, s.2.2 = x.2 := by
  intro s hs
  simp only [spL, List.mem_map, List.mem_range] at hs
  obtain ⟨i, hi, rfl⟩ := hs
  have hx := List.getElem?_eq_getElem (show i < l.length by omega)
  exact ⟨_, List.mem_of_getElem? hx, by simp [spE, List.getD, hx]⟩

/-- A span joins the windows beyond. -/
def bStep (lo hi : Int) (ws : List (Int × Int)) (s : Spn) : List (Int × Int) :=
  if lo ≤ s.2.2 ∧ s.2.2 ≤ hi then ws else
    match ws.getLast? with
    | none => ws ++ [(s.1, s.2.1)]
    | some p => if p.2 = s.1 then ws.dropLast ++ [(p.1, s.2.1)] else ws ++ [(s.1, s.2.1)]
def bey (lo hi : Int) (S : List Spn) : List (Int × Int) := S.foldl (bStep lo hi) []
theorem bey_snoc (lo hi : Int) (S : List Spn) (s : Spn) : bey lo hi (S ++ [s]) = bStep lo hi (bey lo hi S) s := by simp [bey, List.foldl_append]
def wT : List (Int × Int) → Int
  | [] => 0
  | p :: r => (p.2 - p.1) + wT r
theorem wT_append (a b : List (Int × Int)) : wT (a ++ b) = wT a + wT b := by
  induction a with
  | nil => simp [wT]
  | cons x a ih => simp only [List.cons_append, wT, ih]; omega
theorem bStep_time (lo hi : Int) (ws : List (Int × Int)) (s : Spn) : wT (bStep lo hi ws s) = wT ws + (if lo ≤ s.2.2 ∧ s.2.2 ≤ hi then 0 else s.2.1 - s.1) := by
  unfold bStep
  split
  · simp
  · split
    · rw [wT_append]; simp [wT]
    · rename_i p hp
      have hws : ws = ws.dropLast ++ [p] := by
        obtain ⟨ys, rfl⟩ := List.getLast?_eq_some_iff.1 hp
        simp
      split
      · have h2 : wT ws = wT (ws.dropLast ++ [p]) := by rw [← hws]
        rw [wT_append] at h2 ⊢
        simp only [wT] at h2 ⊢
        omega
      · rw [wT_append]; simp [wT]
theorem snocS {P : List Spn → Prop} (h0 : P []) (h1 : ∀ S s, P S → P (S ++ [s])) : ∀ S, P S := by
  intro S
  suffices h : ∀ T : List Spn, P T.reverse by have := h S.reverse; rwa [List.reverse_reverse] at this
  intro T
  induction T with
  | nil => exact h0
  | cons x T ih => rw [List.reverse_cons]; exact h1 _ _ ih
/-- Beyond what holds and beyond what does not: all there is. -/
theorem bey_both (lo cut hi : Int) (S : List Spn) (hc : ∀ s ∈ S, lo ≤ s.2.2 ∧ s.2.2 ≤ hi) : wT (bey lo cut S) + wT (bey (cut + 1) (max hi (cut + 1)) S) = hT S := by
  revert hc
  refine snocS (P := fun S => (∀ s ∈ S, lo ≤ s.2.2 ∧ s.2.2 ≤ hi) → wT (bey lo cut S) + wT (bey (cut + 1) (max hi (cut + 1)) S) = hT S) (by intro _; simp [bey, wT, hT]) ?_ S
  intro S s ih hc
  have ih := ih (fun x hx => hc x (List.mem_append_left _ hx))
  have hs := hc s (by simp)
  rw [bey_snoc, bey_snoc, bStep_time, bStep_time, hT_snoc]
  split <;> split <;> omega
theorem bey_none (lo hi : Int) (S : List Spn) (hc : ∀ s ∈ S, lo ≤ s.2.2 ∧ s.2.2 ≤ hi) : bey lo hi S = [] := by
  revert hc
  refine snocS (P := fun S => (∀ s ∈ S, lo ≤ s.2.2 ∧ s.2.2 ≤ hi) → bey lo hi S = []) (by intro _; rfl) ?_ S
  intro S s ih hc
  rw [bey_snoc, ih (fun x hx => hc x (List.mem_append_left _ hx))]
  unfold bStep
  rw [if_pos (hc s (by simp))]
theorem Jnd.unsnoc {S : List Spn} {a b : Int} {s : Spn} (h : Jnd (S ++ [s]) a b) : Jnd S a s.1 ∧ s.1 < s.2.1 ∧ s.2.1 = b := by
  induction S generalizing a with
  | nil => exact ⟨h.1.symm, h.2.1, h.2.2⟩
  | cons x S ih => obtain ⟨h1, h2, h3⟩ := ih h.2.2; exact ⟨⟨h.1, h.2.1, h1⟩, h2, h3⟩
theorem bey_all (lo hi : Int) (S : List Spn) (hc : ∀ s ∈ S, ¬ (lo ≤ s.2.2 ∧ s.2.2 ≤ hi)) (a b : Int) (h : Jnd S a b) (hl : 0 < S.length) : bey lo hi S = [(a, b)] := by
  revert hc b hl
  refine snocS (P := fun S => (∀ s ∈ S, ¬ (lo ≤ s.2.2 ∧ s.2.2 ≤ hi)) → ∀ b, Jnd S a b → 0 < S.length → bey lo hi S = [(a, b)]) (by intro _ _ _ h; simp at h) ?_ S
  intro S s ih hc b h _
  obtain ⟨h1, h2, h3⟩ := h.unsnoc
  rw [bey_snoc]
  rcases Nat.eq_zero_or_pos S.length with h0 | h0
  · obtain rfl := List.eq_nil_of_length_eq_zero h0
    have : a = s.1 := h1
    unfold bStep
    rw [if_neg (hc s (by simp))]
    simp [bey, h3, this]
  · rw [ih (fun x hx => hc x (List.mem_append_left _ hx)) s.1 h1 h0]
    unfold bStep
    rw [if_neg (hc s (by simp))]
    simp [h3]
end Go.Proofs.YtbimiojoihfnkaaGreatDoor
