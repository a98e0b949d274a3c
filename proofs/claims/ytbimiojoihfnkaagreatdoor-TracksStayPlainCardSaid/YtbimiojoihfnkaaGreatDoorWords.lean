/- Words and plain lemmas on memory and numbers that all texts of this seat share; no program in sight. -/
import Derived.WalkKit
import Derived.WalkLawsBesides
import Derived.Lib.Hide
import Derived.Handy
import Derived.Deep.QuietTactic
import Derived.BigQuiet
import Derived.Outline
import Derived.Deep.DeepCutAuto
import Derived.Deep.Draws
import Derived.StillTailTactics
namespace Go.Proofs.YtbimiojoihfnkaaGreatDoor
open Go.RowKit

theorem ret_int {k : IntKind} {a b : Int} (h : a = b) : Ending.returned (.int k a) = .returned (.int k b) := by rw [h]
theorem ret_val {a b : Value} (h : a = b) : Ending.returned a = .returned b := by rw [h]

/-- A contract that leaves the world alone, turned round. -/
theorem flip_ {P : Program} {f : FuncId} {args : Array Value} {w : World} {v : Value} (h : Calls P f args w fun e w' => e = .returned v ∧ w = w') : Calls P f args w fun e w' => e = .returned v ∧ w' = w :=
  h.mono fun _ _ ⟨a, b⟩ => ⟨a, b.symm⟩

/-! ### numbers -/
def below (x n : Int) : Int := if n < 1 then 0 else x % n

theorem tmod_cases (x n : Int) (h : 1 ≤ n) : (x.tmod n < 0 → x % n = x.tmod n + n ∧ -n < x.tmod n) ∧ (0 ≤ x.tmod n → x % n = x.tmod n) := by
  have h2 : 0 ≤ x % n := Int.emod_nonneg _ (by omega)
  have h3 : x % n < n := Int.emod_lt_of_pos _ (by omega)
  rcases Int.le_total 0 x with hx | hx
  · have h1 : x.tmod n = x % n := Int.tmod_eq_emod_of_nonneg hx
    omega
  · obtain ⟨y, rfl⟩ : ∃ y, x = -y := ⟨-x, by omega⟩
    have h5 : y.tmod n = y % n := Int.tmod_eq_emod_of_nonneg (by omega)
    have h6 : (-y).tmod n = -(y % n) := by rw [Int.neg_tmod, h5]
    have h7 : 0 ≤ y % n := Int.emod_nonneg _ (by omega)
    have h8 : y % n < n := Int.emod_lt_of_pos _ (by omega)
    have h9 := Int.emod_add_mul_ediv y n
    have h10 := Int.emod_add_mul_ediv (-y) n
    have h11 : ((-y) % n + y % n) = n * (-(y / n) - (-y) / n) := by rw [Int.mul_sub, Int.mul_neg]; omega
    have h12 : (-(y / n) - (-y) / n) = 0 ∨ (-(y / n) - (-y) / n) = 1 := by
      generalize (-(y / n) - (-y) / n) = q at h11
      have : 0 ≤ n * q := by omega
      have : n * q < n * 2 := by omega
      have hq1 : 0 ≤ q := by
        rcases Int.lt_or_le q 0 with hq | hq
        · have : n * q ≤ n * (-1) := Int.mul_le_mul_of_nonneg_left (by omega) (by omega)
          omega
        · exact hq
      have hq2 : q < 2 := Int.lt_of_mul_lt_mul_left (a := n) (by omega) (by omega)
      omega
    rcases h12 with h | h <;> rw [h] at h11 <;> omega

theorem below_range (x n : Int) (h : 1 ≤ n) : 0 ≤ below x n ∧ below x n < n := by
  have : ¬ n < 1 := by omega
  simp only [below, if_neg this]
  exact ⟨Int.emod_nonneg _ (by omega), Int.emod_lt_of_pos _ (by omega)⟩

/-- The number that a stream over xs hands out next, after k ones, from 0 to m - 1. -/
def nextV (xs : List Int) (k : Nat) (m : Int) : Int :=
  if xs.length = 0 then below (((k : Int) + 1) * 7919) m
  else below (below (xs.getD (k % xs.length) 0) 1073741824 + ((k / xs.length * (7919 + k % xs.length) : Nat) : Int)) m

theorem nextV_range (xs : List Int) (k : Nat) (m : Int) (h : 1 ≤ m) : 0 ≤ nextV xs k m ∧ nextV xs k m < m := by
  unfold nextV; split <;> exact below_range _ _ h

/-- The same as a natural number. -/
def nextN (xs : List Int) (k m : Nat) : Nat := (nextV xs k m).toNat
theorem nextN_lt (xs : List Int) (k m : Nat) (h : 0 < m) : nextN xs k m < m := by
  have := nextV_range xs k m (by omega); unfold nextN; omega
theorem nextN_eq (xs : List Int) (k m : Nat) (h : 0 < m) : nextV xs k m = (nextN xs k m : Int) := by
  have := nextV_range xs k m (by omega); unfold nextN; omega

theorem round_le (k n : Nat) (h : 0 < n) : k / n * (7919 + k % n) ≤ k * 7920 := by
  have h1 : k / n ≤ k := Nat.div_le_self _ _
  have h2 : k / n * (k % n) ≤ k / n * n := Nat.mul_le_mul_left _ (Nat.le_of_lt (Nat.mod_lt _ h))
  have h3 : k / n * n ≤ k := Nat.div_mul_le_self _ _
  rw [Nat.mul_add]; omega

/-! ### memory -/
/-- The cells xs lie from offset o on in block b. -/
def Cells (w : World) (b o : Nat) (xs : List Value) : Prop := ∀ j v, xs[j]? = some v → w.cell? ⟨b, o + j, none⟩ = some v

/-- A slice's address A leads to the cells xs, in a block below B. -/
def Row (w : World) (B : Nat) (A : Option Addr) (xs : List Value) : Prop := xs = [] ∨ ∃ b o, A = some ⟨b, o, none⟩ ∧ b < B ∧ Cells w b o xs

theorem cell_of_blk {w : World} {b j : Nat} {cs : Array Value} {t : TypeId} {f : Nat × Nat} {v : Value} (h : w.heap[b]? = some (.cells cs t f)) (hv : cs[j]? = some v) : w.cell? ⟨b, j, none⟩ = some v := by
  simp [World.cell?, h, hv]

theorem Cells.keep {w w' : World} {b o : Nat} {xs : List Value} (h : Cells w b o xs) (hb : w'.heap[b]? = w.heap[b]?) : Cells w' b o xs := by
  intro j v hv
  have := h j v hv
  simp only [World.cell?, hb] at this ⊢
  exact this

theorem Row.keep {w w' : World} {B : Nat} {A : Option Addr} {xs : List Value} (h : Row w B A xs) (hb : ∀ b, b < B → w'.heap[b]? = w.heap[b]?) : Row w' B A xs := by
  rcases h with h | ⟨b, o, rfl, hlt, hc⟩
  · exact .inl h
  · exact .inr ⟨b, o, rfl, hlt, hc.keep (hb b hlt)⟩
theorem Row.mono {w : World} {B B' : Nat} {A : Option Addr} {xs : List Value} (h : Row w B A xs) (hb : B ≤ B') : Row w B' A xs := by
  rcases h with h | ⟨b, o, rfl, hlt, hc⟩
  · exact .inl h
  · exact .inr ⟨b, o, rfl, by omega, hc⟩
theorem Row.below {w w' : World} {B : Nat} {A : Option Addr} {xs : List Value} (h : Row w B A xs) (hb : Below B w w') : Row w' B A xs := h.keep hb.block

/-- Only block p has changed, and what is new. -/
theorem grown_trans {a b c : World} {p : Nat} (h : a.grownBy b (some p)) (k : b.grownBy c (some p)) : a.grownBy c (some p) :=
  ⟨k.os.trans h.os, k.tape.trans h.tape, k.output.trans h.output, Nat.le_trans h.size k.size, fun i hi hn => (k.block i (Nat.lt_of_lt_of_le hi h.size) hn).trans (h.block i hi hn)⟩
theorem grown_below {a b c : World} {p : Nat} (h : a.grownBy b (some p)) (k : Below b.heap.size b c) : a.grownBy c (some p) :=
  ⟨k.os.trans h.os, k.tape.trans h.tape, k.output.trans h.output, Nat.le_trans h.size k.size, fun i hi hn => (k.block i (Nat.lt_of_lt_of_le hi h.size)).trans (h.block i hi hn)⟩
theorem below_grown {a b c : World} {p : Nat} (h : Below a.heap.size a b) (k : b.grownBy c (some p)) : a.grownBy c (some p) :=
  ⟨k.os.trans h.os, k.tape.trans h.tape, k.output.trans h.output, Nat.le_trans h.size k.size, fun i hi hn => (k.block i (Nat.lt_of_lt_of_le hi h.size) hn).trans (h.block i hi)⟩
theorem grown_refl (w : World) (r : Option Nat) : w.grownBy w r := ⟨rfl, rfl, rfl, Nat.le_refl _, fun _ _ _ => rfl⟩
theorem grown_drewN {a w : World} {row : Option Nat} (h : a.grownBy w row) (n : Nat) : a.grownBy (w.drewN n) row := ⟨h.os, h.tape, h.output, h.size, h.block⟩
theorem grown_set {a w : World} {g : Nat} (h : a.grownBy w (some g)) {q : Addr} (hp : q.block = g ∨ a.heap.size ≤ q.block) (u : Value) : a.grownBy (w.setCell q u) (some g) :=
  ⟨h.os, h.tape, h.output, by simpa [World.setCell] using h.size, fun i hi hne => (Below.heap_setCell w q u i (by
    rintro rfl
    rcases hp with hp | hp
    · exact hne (by rw [hp])
    · omega)).trans (h.block i hi hne)⟩
theorem below_drewN {B : Nat} {a w : World} (h : Below B a w) (n : Nat) : Below B a (w.drewN n) := ⟨h.os, h.tape, h.output, h.size, h.block⟩

theorem heap_new (w : World) (o : Obj) : (w.alloc o).heap[w.heap.size]? = some o := heap_alloc_new w o

/-- The cells of a block that was just made. -/
theorem Cells.new (w : World) (cs : Array Value) (t : TypeId) (f : Nat × Nat) (xs : List Value) (h : cs.toList = xs) : Cells (w.alloc (.cells cs t f)) w.heap.size 0 xs := by
  intro j v hv
  subst h
  exact cell_of_blk (heap_new w _) (by simpa using hv)
theorem Cells.alloc {w : World} {b o : Nat} {xs : List Value} (h : Cells w b o xs) (hb : b < w.heap.size) (ob : Obj) : Cells (w.alloc ob) b o xs := h.keep (Below.heap_alloc w ob b hb)

theorem own_kept {w w' : World} {base p : Nat} {e : TypeId} {size n : Nat} {v : Value} {xs : List Value} (h : w.ownsRow base e size v n xs) (hg : w.grownBy w' (some p)) (hp : p < base) : w'.ownsRow base e size v n xs := by
  refine h.kept hg ?_
  cases hv : v.ownBlock with
  | none => exact .inl rfl
  | some b => exact .inr (fun e => by have := (h.lt b hv).1; injection e; omega)
theorem own_below {w w' : World} {base : Nat} {e : TypeId} {size n : Nat} {v : Value} {xs : List Value} (h : w.ownsRow base e size v n xs) (hb : Below w.heap.size w w') : w'.ownsRow base e size v n xs :=
  h.kept (row := none) ⟨hb.os, hb.tape, hb.output, hb.size, fun i hi _ => hb.block i hi⟩ (by cases v.ownBlock <;> simp)

theorem grown_row {a b c : World} {p : Nat} {row : Option Nat} (h : a.grownBy b (some p)) (k : b.grownBy c row) (hr : ∀ g, row = some g → a.heap.size ≤ g) : a.grownBy c (some p) :=
  ⟨k.os.trans h.os, k.tape.trans h.tape, k.output.trans h.output, Nat.le_trans h.size k.size, fun i hi hn => (k.block i (Nat.lt_of_lt_of_le hi h.size) (fun e => by have := hr i e.symm; omega)).trans (h.block i hi hn)⟩
theorem grown_alloc {a b : World} {row : Option Nat} (h : a.grownBy b row) (o : Obj) : a.grownBy (b.alloc o) row :=
  ⟨h.os, h.tape, h.output, Nat.le_trans h.size (by simp), fun i hi hn => (Below.heap_alloc b o i (Nat.lt_of_lt_of_le hi h.size)).trans (h.block i hi hn)⟩
theorem cells_add {w : World} {b : Nat} {xs : List Value} (h : Cells w b 0 xs) : ∀ j u, xs[j]? = some u → w.cell? ((⟨b, 0, none⟩ : Addr).add j) = some u := by
  intro j u hu
  have : (⟨b, 0, none⟩ : Addr).add j = ⟨b, 0 + j, none⟩ := by unfold Addr.add; split <;> simp_all
  rw [this]; exact h j u hu

/-! ### series: at and value of each measurement; device d, metric m -/
abbrev Smp := Int × Int
def smpC (x : Smp) : List Value := [.string ⟨#[100]⟩, .string ⟨#[109]⟩, .int .i64 x.1, .int .i64 x.2]
def cellsOf (l : List Smp) : List Value := l.flatMap smpC
theorem cellsOf_length (l : List Smp) : (cellsOf l).length = l.length * 4 := by
  induction l with
  | nil => rfl
  | cons x l ih => simp only [cellsOf, List.flatMap_cons, List.length_append, List.length_cons] at ih ⊢; rw [ih]; simp [smpC]; omega
theorem cellsOf_append (a b : List Smp) : cellsOf (a ++ b) = cellsOf a ++ cellsOf b := by simp [cellsOf]
theorem cellsOf_get (l : List Smp) (i : Nat) (x : Smp) (h : l[i]? = some x) (j : Nat) (hj : j < 4) : (cellsOf l)[i * 4 + j]? = (smpC x)[j]? := by
  induction l generalizing i with
  | nil => simp at h
  | cons y l ih =>
    cases i with
    | zero =>
      simp only [List.getElem?_cons_zero, Option.some.injEq] at h
      subst h
      simp only [cellsOf, List.flatMap_cons]
      rw [List.getElem?_append_left (by simp [smpC]; omega)]
      simp
    | succ i =>
      simp only [List.getElem?_cons_succ] at h
      have := ih i h
      simp only [cellsOf, List.flatMap_cons] at this ⊢
      rw [List.getElem?_append_right (by simp [smpC]; omega)]
      rw [← this]
      congr 1
      simp [smpC]; omega

theorem smpC_one (x : Smp) : ∀ u ∈ smpC x, u.oneCell' = true := by
  intro u hu
  simp only [smpC, List.mem_cons, List.not_mem_nil, or_false] at hu
  rcases hu with rfl | rfl | rfl | rfl <;> rfl
theorem cellsOf_snoc (l : List Smp) (x : Smp) : cellsOf (l ++ [x]) = cellsOf l ++ smpC x := by simp [cellsOf]

def atPicks : List Int := [1, 1, 2, 5, 10, 10, 40, 127, 1000]
def valPicks : List Int := [0, 1, 2, 5, 7, 9, -3, -70, 100, 1000, 5]
def serAt (xs : List Int) (k : Nat) : Nat → Int
  | 0 => 0
  | j + 1 => serAt xs k j + atPicks.getD (nextN xs (k + 2 * j) 9) 0
def serV (xs : List Int) (k : Nat) (low : Int) (j : Nat) : Int := max low (valPicks.getD (nextN xs (k + 2 * j + 1) 11) 0)
/-- The first n measurements of the series that a stream makes from its number k on. -/
def serL (xs : List Int) (k : Nat) (low : Int) (n : Nat) : List Smp := (List.range n).map fun j => (serAt xs k (j + 1), serV xs k low j)
theorem serL_length (xs : List Int) (k : Nat) (low : Int) (n : Nat) : (serL xs k low n).length = n := by simp [serL]
theorem serL_succ (xs : List Int) (k : Nat) (low : Int) (n : Nat) : serL xs k low (n + 1) = serL xs k low n ++ [(serAt xs k (n + 1), serV xs k low n)] := by simp [serL, List.range_succ]
theorem atPicks_range (j : Nat) (h : j < 9) : 1 ≤ atPicks.getD j 0 ∧ atPicks.getD j 0 ≤ 1000 := by
  have : j = 0 ∨ j = 1 ∨ j = 2 ∨ j = 3 ∨ j = 4 ∨ j = 5 ∨ j = 6 ∨ j = 7 ∨ j = 8 := by omega
  rcases this with h | h | h | h | h | h | h | h | h <;> subst h <;> decide
theorem valPicks_range (j : Nat) (h : j < 11) : -70 ≤ valPicks.getD j 0 ∧ valPicks.getD j 0 ≤ 1000 := by
  have : j = 0 ∨ j = 1 ∨ j = 2 ∨ j = 3 ∨ j = 4 ∨ j = 5 ∨ j = 6 ∨ j = 7 ∨ j = 8 ∨ j = 9 ∨ j = 10 := by omega
  rcases this with h | h | h | h | h | h | h | h | h | h | h <;> subst h <;> decide
theorem serAt_step (xs : List Int) (k j : Nat) : serAt xs k j + 1 ≤ serAt xs k (j + 1) ∧ serAt xs k (j + 1) ≤ serAt xs k j + 1000 := by
  have := atPicks_range (nextN xs (k + 2 * j) 9) (nextN_lt _ _ _ (by omega))
  simp only [serAt]; omega
theorem serAt_range (xs : List Int) (k j : Nat) : (j : Int) ≤ serAt xs k j ∧ serAt xs k j ≤ 1000 * j := by
  induction j with
  | zero => simp [serAt]
  | succ j ih => have := serAt_step xs k j; omega
theorem serV_range (xs : List Int) (k : Nat) (low : Int) (j : Nat) : low ≤ serV xs k low j ∧ -70 ≤ serV xs k low j ∧ serV xs k low j ≤ max low 1000 := by
  have := valPicks_range (nextN xs (k + 2 * j + 1) 11) (nextN_lt _ _ _ (by omega))
  simp only [serV]; omega

end Go.Proofs.YtbimiojoihfnkaaGreatDoor
