/- Several texts in one: Words, Append, Rec, OwF, Base, AlL, Qt, Del. -/
import Derived.WalkKit
import Derived.WalkLawsBesides
import Derived.Lib.Hide
import Derived.Handy
import Derived.Deep.QuietTactic
import Derived.BigQuiet
import Derived.Outline
import Derived.Deep.DeepCutAuto
import Derived.Deep.Draws
import Derived.StillTailTactics
import Derived.ArgAppend
import Derived.Test.YtlfphndnkgoinaaGreatDoorProg
import Derived.Lib.Bytealg
import Derived.Lib.SliceRun
import Derived.Deep.RegionLaw

/- Words and plain lemmas on memory and numbers that all texts of this seat share; no program in sight. -/
namespace Go.Proofs.YtlfphndnkgoinaaGreatDoor
open Go.RowKit

theorem ret_int {k : IntKind} {a b : Int} (h : a = b) : Ending.returned (.int k a) = .returned (.int k b) := by rw [h]
theorem ret_val {a b : Value} (h : a = b) : Ending.returned a = .returned b := by rw [h]

/-- A contract that leaves the world alone, turned round. -/
theorem flip_ {P : Program} {f : FuncId} {args : Array Value} {w : World} {v : Value} (h : Calls P f args w fun e w' => e = .returned v ∧ w = w') : Calls P f args w fun e w' => e = .returned v ∧ w' = w :=
  h.mono fun _ _ ⟨a, b⟩ => ⟨a, b.symm⟩

/-! ### numbers -/
def below (x n : Int) : Int := if n < 1 then 0 else x % n

theorem tmod_cases (x n : Int) (h : 1 ≤ n) : (x.tmod n < 0 → x % n = x.tmod n + n ∧ -n < x.tmod n) ∧ (0 ≤ x.tmod n → x % n = x.tmod n) := by
  have h2 : 0 ≤ x % n := Int.emod_nonneg _ (by omega)
  have h3 : x % n < n := Int.emod_lt_of_pos _ (by omega)
  rcases Int.le_total 0 x with hx | hx
  · have h1 : x.tmod n = x % n := Int.tmod_eq_emod_of_nonneg hx
    omega
  · obtain ⟨y, rfl⟩ : ∃ y, x = -y := ⟨-x, by omega⟩
    have h5 : y.tmod n = y % n := Int.tmod_eq_emod_of_nonneg (by omega)
    have h6 : (-y).tmod n = -(y % n) := by rw [Int.neg_tmod, h5]
    have h7 : 0 ≤ y % n := Int.emod_nonneg _ (by omega)
    have h8 : y % n < n := Int.emod_lt_of_pos _ (by omega)
    have h9 := Int.emod_add_mul_ediv y n
    have h10 := Int.emod_add_mul_ediv (-y) n
    have h11 : ((-y) % n + y % n) = n * (-(y / n) - (-y) / n) := by rw [Int.mul_sub, Int.mul_neg]; omega
    have h12 : (-(y / n) - (-y) / n) = 0 ∨ (-(y / n) - (-y) / n) = 1 := by
      generalize (-(y / n) - (-y) / n) = q at h11
      have : 0 ≤ n * q := by omega
      have : n * q < n * 2 := by omega
      have hq1 : 0 ≤ q := by
        rcases Int.lt_or_le q 0 with hq | hq
        · have : n * q ≤ n * (-1) := Int.mul_le_mul_of_nonneg_left (by omega) (by omega)
          omega
        · exact hq
      have hq2 : q < 2 := Int.lt_of_mul_lt_mul_left (a := n) (by omega) (by omega)
      omega
    rcases h12 with h | h <;> rw [h] at h11 <;> omega

theorem below_range (x n : Int) (h : 1 ≤ n) : 0 ≤ below x n ∧ below x n < n := by
  have : ¬ n < 1 := by omega
  simp only [below, if_neg this]
  exact ⟨Int.emod_nonneg _ (by omega), Int.emod_lt_of_pos _ (by omega)⟩

/-- The number that a stream over xs hands out next, after k ones, from 0 to m - 1. -/
def nextV (xs : List Int) (k : Nat) (m : Int) : Int :=
  if xs.length = 0 then below (((k : Int) + 1) * 7919) m
  else below (below (xs.getD (k % xs.length) 0) 1073741824 + ((k / xs.length * (7919 + k % xs.length) : Nat) : Int)) m

theorem nextV_range (xs : List Int) (k : Nat) (m : Int) (h : 1 ≤ m) : 0 ≤ nextV xs k m ∧ nextV xs k m < m := by
  unfold nextV; split <;> exact below_range _ _ h

/-- The same as a natural number. -/
def nextN (xs : List Int) (k m : Nat) : Nat := (nextV xs k m).toNat
theorem nextN_lt (xs : List Int) (k m : Nat) (h : 0 < m) : nextN xs k m < m := by
  have := nextV_range xs k m (by omega); unfold nextN; omega
theorem nextN_eq (xs : List Int) (k m : Nat) (h : 0 < m) : nextV xs k m = (nextN xs k m : Int) := by
  have := nextV_range xs k m (by omega); unfold nextN; omega

theorem round_le (k n : Nat) (h : 0 < n) : k / n * (7919 + k % n) ≤ k * 7920 := by
  have h1 : k / n ≤ k := Nat.div_le_self _ _
  have h2 : k / n * (k % n) ≤ k / n * n := Nat.mul_le_mul_left _ (Nat.le_of_lt (Nat.mod_lt _ h))
  have h3 : k / n * n ≤ k := Nat.div_mul_le_self _ _
  rw [Nat.mul_add]; omega

/-! ### memory -/
/-- The cells xs lie from offset o on in block b. -/
def Cells (w : World) (b o : Nat) (xs : List Value) : Prop := ∀ j v, xs[j]? = some v → w.cell? ⟨b, o + j, none⟩ = some v

/-- A slice's address A leads to the cells xs, in a block below B. -/
def Row (w : World) (B : Nat) (A : Option Addr) (xs : List Value) : Prop := xs = [] ∨ ∃ b o, A = some ⟨b, o, none⟩ ∧ b < B ∧ Cells w b o xs

theorem cell_of_blk {w : World} {b j : Nat} {cs : Array Value} {t : TypeId} {f : Nat × Nat} {v : Value} (h : w.heap[b]? = some (.cells cs t f)) (hv : cs[j]? = some v) : w.cell? ⟨b, j, none⟩ = some v := by
  simp [World.cell?, h, hv]

theorem Cells.keep {w w' : World} {b o : Nat} {xs : List Value} (h : Cells w b o xs) (hb : w'.heap[b]? = w.heap[b]?) : Cells w' b o xs := by
  intro j v hv
  have := h j v hv
  simp only [World.cell?, hb] at this ⊢
  exact this

theorem Row.keep {w w' : World} {B : Nat} {A : Option Addr} {xs : List Value} (h : Row w B A xs) (hb : ∀ b, b < B → w'.heap[b]? = w.heap[b]?) : Row w' B A xs := by
  rcases h with h | ⟨b, o, rfl, hlt, hc⟩
  · exact .inl h
  · exact .inr ⟨b, o, rfl, hlt, hc.keep (hb b hlt)⟩
theorem Row.mono {w : World} {B B' : Nat} {A : Option Addr} {xs : List Value} (h : Row w B A xs) (hb : B ≤ B') : Row w B' A xs := by
  rcases h with h | ⟨b, o, rfl, hlt, hc⟩
  · exact .inl h
  · exact .inr ⟨b, o, rfl, by omega, hc⟩
theorem Row.below {w w' : World} {B : Nat} {A : Option Addr} {xs : List Value} (h : Row w B A xs) (hb : Below B w w') : Row w' B A xs := h.keep hb.block

/-- Only block p has changed, and what is new. -/
theorem grown_trans {a b c : World} {p : Nat} (h : a.grownBy b (some p)) (k : b.grownBy c (some p)) : a.grownBy c (some p) :=
  ⟨k.os.trans h.os, k.tape.trans h.tape, k.output.trans h.output, Nat.le_trans h.size k.size, fun i hi hn => (k.block i (Nat.lt_of_lt_of_le hi h.size) hn).trans (h.block i hi hn)⟩
theorem grown_below {a b c : World} {p : Nat} (h : a.grownBy b (some p)) (k : Below b.heap.size b c) : a.grownBy c (some p) :=
  ⟨k.os.trans h.os, k.tape.trans h.tape, k.output.trans h.output, Nat.le_trans h.size k.size, fun i hi hn => (k.block i (Nat.lt_of_lt_of_le hi h.size)).trans (h.block i hi hn)⟩
theorem below_grown {a b c : World} {p : Nat} (h : Below a.heap.size a b) (k : b.grownBy c (some p)) : a.grownBy c (some p) :=
  ⟨k.os.trans h.os, k.tape.trans h.tape, k.output.trans h.output, Nat.le_trans h.size k.size, fun i hi hn => (k.block i (Nat.lt_of_lt_of_le hi h.size) hn).trans (h.block i hi)⟩
theorem grown_refl (w : World) (r : Option Nat) : w.grownBy w r := ⟨rfl, rfl, rfl, Nat.le_refl _, fun _ _ _ => rfl⟩
theorem grown_drewN {a w : World} {row : Option Nat} (h : a.grownBy w row) (n : Nat) : a.grownBy (w.drewN n) row := ⟨h.os, h.tape, h.output, h.size, h.block⟩
theorem grown_set {a w : World} {g : Nat} (h : a.grownBy w (some g)) {q : Addr} (hp : q.block = g ∨ a.heap.size ≤ q.block) (u : Value) : a.grownBy (w.setCell q u) (some g) :=
  ⟨h.os, h.tape, h.output, by simpa [World.setCell] using h.size, fun i hi hne => (Below.heap_setCell w q u i (by
    rintro rfl
    rcases hp with hp | hp
    · exact hne (by rw [hp])
    · omega)).trans (h.block i hi hne)⟩
theorem below_drewN {B : Nat} {a w : World} (h : Below B a w) (n : Nat) : Below B a (w.drewN n) := ⟨h.os, h.tape, h.output, h.size, h.block⟩

theorem heap_new (w : World) (o : Obj) : (w.alloc o).heap[w.heap.size]? = some o := heap_alloc_new w o

/-- The cells of a block that was just made. -/
theorem Cells.new (w : World) (cs : Array Value) (t : TypeId) (f : Nat × Nat) (xs : List Value) (h : cs.toList = xs) : Cells (w.alloc (.cells cs t f)) w.heap.size 0 xs := by
  intro j v hv
  subst h
  exact cell_of_blk (heap_new w _) (by simpa using hv)
theorem Cells.alloc {w : World} {b o : Nat} {xs : List Value} (h : Cells w b o xs) (hb : b < w.heap.size) (ob : Obj) : Cells (w.alloc ob) b o xs := h.keep (Below.heap_alloc w ob b hb)

theorem own_kept {w w' : World} {base p : Nat} {e : TypeId} {size n : Nat} {v : Value} {xs : List Value} (h : w.ownsRow base e size v n xs) (hg : w.grownBy w' (some p)) (hp : p < base) : w'.ownsRow base e size v n xs := by
  refine h.kept hg ?_
  cases hv : v.ownBlock with
  | none => exact .inl rfl
  | some b => exact .inr (fun e => by have := (h.lt b hv).1; injection e; omega)
theorem own_below {w w' : World} {base : Nat} {e : TypeId} {size n : Nat} {v : Value} {xs : List Value} (h : w.ownsRow base e size v n xs) (hb : Below w.heap.size w w') : w'.ownsRow base e size v n xs :=
  h.kept (row := none) ⟨hb.os, hb.tape, hb.output, hb.size, fun i hi _ => hb.block i hi⟩ (by cases v.ownBlock <;> simp)

theorem grown_row {a b c : World} {p : Nat} {row : Option Nat} (h : a.grownBy b (some p)) (k : b.grownBy c row) (hr : ∀ g, row = some g → a.heap.size ≤ g) : a.grownBy c (some p) :=
  ⟨k.os.trans h.os, k.tape.trans h.tape, k.output.trans h.output, Nat.le_trans h.size k.size, fun i hi hn => (k.block i (Nat.lt_of_lt_of_le hi h.size) (fun e => by have := hr i e.symm; omega)).trans (h.block i hi hn)⟩
theorem grown_alloc {a b : World} {row : Option Nat} (h : a.grownBy b row) (o : Obj) : a.grownBy (b.alloc o) row :=
  ⟨h.os, h.tape, h.output, Nat.le_trans h.size (by simp), fun i hi hn => (Below.heap_alloc b o i (Nat.lt_of_lt_of_le hi h.size)).trans (h.block i hi hn)⟩
theorem cells_add {w : World} {b : Nat} {xs : List Value} (h : Cells w b 0 xs) : ∀ j u, xs[j]? = some u → w.cell? ((⟨b, 0, none⟩ : Addr).add j) = some u := by
  intro j u hu
  have : (⟨b, 0, none⟩ : Addr).add j = ⟨b, 0 + j, none⟩ := by unfold Addr.add; split <;> simp_all
  rw [this]; exact h j u hu

/-! ### series: at and value of each measurement; device d, metric m -/
abbrev Smp := Int × Int
def smpC (x : Smp) : List Value := [.string ⟨#[100]⟩, .string ⟨#[109]⟩, .int .i64 x.1, .int .i64 x.2]
def cellsOf (l : List Smp) : List Value := l.flatMap smpC
theorem cellsOf_length (l : List Smp) : (cellsOf l).length = l.length * 4 := by
  induction l with
  | nil => rfl
  | cons x l ih => simp only [cellsOf, List.flatMap_cons, List.length_append, List.length_cons] at ih ⊢; rw [ih]; simp [smpC]; omega
theorem cellsOf_append (a b : List Smp) : cellsOf (a ++ b) = cellsOf a ++ cellsOf b := by simp [cellsOf]
theorem cellsOf_get (l : List Smp) (i : Nat) (x : Smp) (h : l[i]? = some x) (j : Nat) (hj : j < 4) : (cellsOf l)[i * 4 + j]? = (smpC x)[j]? := by
  induction l generalizing i with
  | nil => simp at h
  | cons y l ih =>
    cases i with
    | zero =>
      simp only [List.getElem?_cons_zero, Option.some.injEq] at h
      subst h
      simp only [cellsOf, List.flatMap_cons]
      rw [List.getElem?_append_left (by simp [smpC]; omega)]
      simp
    | succ i =>
      simp only [List.getElem?_cons_succ] at h
      have := ih i h
      simp only [cellsOf, List.flatMap_cons] at this ⊢
      rw [List.getElem?_append_right (by simp [smpC]; omega)]
      rw [← this]
      congr 1
      simp [smpC]; omega

theorem smpC_one (x : Smp) : ∀ u ∈ smpC x, u.oneCell' = true := by
  intro u hu
  simp only [smpC, List.mem_cons, List.not_mem_nil, or_false] at hu
  rcases hu with rfl | rfl | rfl | rfl <;> rfl
theorem cellsOf_snoc (l : List Smp) (x : Smp) : cellsOf (l ++ [x]) = cellsOf l ++ smpC x := by simp [cellsOf]

def atPicks : List Int := [1, 1, 2, 5, 10, 10, 40, 127, 1000]
def valPicks : List Int := [0, 1, 2, 5, 7, 9, -3, -70, 100, 1000, 5]
def serAt (xs : List Int) (k : Nat) : Nat → Int
  | 0 => 0
  | j + 1 => serAt xs k j + atPicks.getD (nextN xs (k + 2 * j) 9) 0
def serV (xs : List Int) (k : Nat) (low : Int) (j : Nat) : Int := max low (valPicks.getD (nextN xs (k + 2 * j + 1) 11) 0)
/-- The first n measurements of the series that a stream makes from its number k on. -/
def serL (xs : List Int) (k : Nat) (low : Int) (n : Nat) : List Smp := (List.range n).map fun j => (serAt xs k (j + 1), serV xs k low j)
theorem serL_length (xs : List Int) (k : Nat) (low : Int) (n : Nat) : (serL xs k low n).length = n := by simp [serL]
theorem serL_succ (xs : List Int) (k : Nat) (low : Int) (n : Nat) : serL xs k low (n + 1) = serL xs k low n ++ [(serAt xs k (n + 1), serV xs k low n)] := by simp [serL, List.range_succ]
theorem atPicks_range (j : Nat) (h : j < 9) : 1 ≤ atPicks.getD j 0 ∧ atPicks.getD j 0 ≤ 1000 := by
  have : j = 0 ∨ j = 1 ∨ j = 2 ∨ j = 3 ∨ j = 4 ∨ j = 5 ∨ j = 6 ∨ j = 7 ∨ j = 8 := by omega
  rcases this with h | h | h | h | h | h | h | h | h <;> subst h <;> decide
theorem valPicks_range (j : Nat) (h : j < 11) : -70 ≤ valPicks.getD j 0 ∧ valPicks.getD j 0 ≤ 1000 := by
  have : j = 0 ∨ j = 1 ∨ j = 2 ∨ j = 3 ∨ j = 4 ∨ j = 5 ∨ j = 6 ∨ j = 7 ∨ j = 8 ∨ j = 9 ∨ j = 10 := by omega
  rcases this with h | h | h | h | h | h | h | h | h | h | h <;> subst h <;> decide
theorem serAt_step (xs : List Int) (k j : Nat) : serAt xs k j + 1 ≤ serAt xs k (j + 1) ∧ serAt xs k (j + 1) ≤ serAt xs k j + 1000 := by
  have := atPicks_range (nextN xs (k + 2 * j) 9) (nextN_lt _ _ _ (by omega))
  simp only [serAt]; omega
theorem serAt_range (xs : List Int) (k j : Nat) : (j : Int) ≤ serAt xs k j ∧ serAt xs k j ≤ 1000 * j := by
  induction j with
  | zero => simp [serAt]
  | succ j ih => have := serAt_step xs k j; omega
theorem serV_range (xs : List Int) (k : Nat) (low : Int) (j : Nat) : low ≤ serV xs k low j ∧ -70 ≤ serV xs k low j ∧ serV xs k low j ≤ max low 1000 := by
  have := valPicks_range (nextN xs (k + 2 * j + 1) 11) (nextN_lt _ _ _ (by omega))
  simp only [serV]; omega

end Go.Proofs.YtlfphndnkgoinaaGreatDoor

/- append to a row of the call's own, with where the new row lies. -/
namespace Go.Proofs.YtlfphndnkgoinaaGreatDoor
open Go.RowKit

/-- v' lies where v lay, or in memory that was not there in w. -/
def Moved (w : World) (v v' : Value) : Prop := v'.ownBlock = v.ownBlock ∨ ∃ g, v'.ownBlock = some g ∧ w.heap.size ≤ g

section
variable {P : Program} (w : World)
theorem run_append_own2 (base : Nat) (t ty e : TypeId) (i : TypeInfo) (z : Value) (size bytes : Nat) (ht : P.underlying t = some (.slice e)) (hi : P.info? e = some i) (hz : i.zero = some z)
    (hsize : i.size = size) (hby : i.bytes = bytes) (hzs : z.cells.size = size) (hsz : 0 < size)
    (v : Value) (n : Nat) (xs : List Value) (hown : w.ownsRow base e size v n xs)
    (a : Addr) (m c : Nat) (news : List Value) (hl : news.length = m * size) (hnews : ∀ j u, news[j]? = some u → w.cell? (a.add j) = some u) (h1 : ∀ u ∈ news, u.oneCell' = true)
    (h63 : n + m ≤ maxLen) (hbytes : (n + m) * bytes ≤ 140737488355328) (hbase : base ≤ w.heap.size) :
    ∃ v' w', (Builtin.append_ #[t, t] ty #[v, .slice (some a) m c]).run P w = .ok v' w' ∧ w'.ownsRow base e size v' (n + m) (xs ++ news) ∧ w.grownBy w' v.ownBlock ∧ Moved w v v' := by
  obtain ⟨v', w', hr, h2, h3, h4⟩ := run_append_own (P := P) w base t ty e i z size bytes ht hi hz hsize hby hzs hsz v n xs hown a m c news hl hnews h1 h63 hbytes hbase
  refine ⟨v', w', hr, h2, h3, ?_⟩
  subst hsize
  subst hby
  have hsmall : n + m ≤ 9223372036854775807 := by simp only [maxLen] at h63; omega
  rcases hown.2 with ⟨rfl, rfl⟩ | ⟨g, cap, cur, rfl, hbg, hg, hnc, hcm, hcs, htake⟩
  · by_cases hm : m = 0
    · have := h4.2 ⟨rfl, hm⟩
      subst this
      exact .inl rfl
    · have hr2 := run_append_nil (P := P) w t ty e i z ht hi hz a m c news hl hnews (by omega) (by omega) (by have hb := hbytes; simp only [Nat.zero_add] at hb; omega)
      rw [hr2] at hr
      injection hr with hv _
      subst hv
      exact .inr ⟨_, rfl, Nat.le_refl _⟩
  · by_cases hroom : n + m ≤ cap
    · have hfit : n * i.size + news.length ≤ cur.size := by rw [hl, hcs, ← Nat.add_mul]; exact Nat.mul_le_mul_right _ hroom
      have hr2 := run_append_room (P := P) w t ty e i ht hi g n cap cur hg a m c news hl hnews h1 hroom hfit
      rw [hr2] at hr
      injection hr with hv _
      subst hv
      exact .inl rfl
    · have holds : ∀ j u, xs[j]? = some u → w.cell? ((⟨g, 0, none⟩ : Addr).add j) = some u := hown.cells (g := g) rfl
      have hr2 := run_append_grow (P := P) w t ty e i z ht hi hz ⟨g, 0, none⟩ n cap xs hown.1 holds a m c news hl hnews (by omega) (by omega) (growslice_fits (by omega) hbytes)
      rw [hr2] at hr
      injection hr with hv _
      subst hv
      exact .inr ⟨_, rfl, Nat.le_refl _⟩

theorem wpList_append_own2 {ops : Array Oper} {rest : List Oper} {o : Oper} {a : Act} {Q : Exit → Act → World → Prop} (hgd : o.guard = none) (s x : Operand) (t : TypeId)
    (ho : o.op = .call { callee := .builtin .append, args := #[s, x], argTypes := #[t, t] })
    (base : Nat) (e : TypeId) (i : TypeInfo) (z : Value) (size bytes : Nat) (ht : P.underlying t = some (.slice e)) (hi : P.info? e = some i) (hz : i.zero = some z)
    (hsize : i.size = size) (hby : i.bytes = bytes) (hzs : z.cells.size = size) (hsz : 0 < size)
    (v : Value) (n : Nat) (xs : List Value) (hs : a.eval s = v) (hown : w.ownsRow base e size v n xs)
    (ad : Addr) (m c : Nat) (news : List Value) (hx : a.eval x = .slice (some ad) m c) (hl : news.length = m * size) (hnews : ∀ j u, news[j]? = some u → w.cell? (ad.add j) = some u) (h1 : ∀ u ∈ news, u.oneCell' = true)
    (h63 : n + m ≤ maxLen) (hbytes : (n + m) * bytes ≤ 140737488355328) (hbase : base ≤ w.heap.size)
    (h : ∀ v' w', w'.ownsRow base e size v' (n + m) (xs ++ news) → w.grownBy w' v.ownBlock → Moved w v v' → wpList P ops Q rest (a.put o.dst v') w') : wpList P ops Q (o :: rest) a w :=
  wpList_plain hgd fun _ hK => by
    obtain ⟨v', w', hr, h2, h3, h4⟩ := run_append_own2 (P := P) w base t o.type e i z size bytes ht hi hz hsize hby hzs hsz v n xs hown ad m c news hl hnews h1 h63 hbytes hbase
    unfold Oper.wp execOp
    simp only [ho, resolve, invoke, builtin, Sem.run_bind, Sem.run_pure, Result.andThen_ok, List.map_toArray, List.map_cons, List.map_nil, hs, hx, hr]
    exact hK _ _ (h v' w' h2 h3 h4)
end

theorem Moved.refl (w : World) (v : Value) : Moved w v v := .inl rfl
theorem Moved.trans {a b : World} {u v x : Value} (h : Moved a u v) (k : Moved b v x) (hs : a.heap.size ≤ b.heap.size) : Moved a u x := by
  rcases k with k | ⟨g, h1, h2⟩
  · rcases h with h | ⟨g, h1, h2⟩
    · exact .inl (k.trans h)
    · exact .inr ⟨g, k.trans h1, h2⟩
  · exact .inr ⟨g, h1, by omega⟩
/-- Two writes into one row, one behind the other. -/
theorem grown_moved {a b c : World} {u v : Value} (h : a.grownBy b u.ownBlock) (hm : Moved a u v) (k : b.grownBy c v.ownBlock) : a.grownBy c u.ownBlock :=
  ⟨k.os.trans h.os, k.tape.trans h.tape, k.output.trans h.output, Nat.le_trans h.size k.size, fun i hi hn => (k.block i (Nat.lt_of_lt_of_le hi h.size) (fun e => by
    rcases hm with hm | ⟨g, h1, h2⟩
    · exact hn (e.trans hm)
    · rw [h1] at e; injection e with e; omega)).trans (h.block i hi hn)⟩
theorem grown_of_alloc {w w' : World} {o : Obj} {row : Option Nat} (h : (w.alloc o).grownBy w' row) : w.grownBy w' row :=
  ⟨h.os, h.tape, h.output, Nat.le_trans (by simp) h.size, fun i hi hn => (h.block i (by simp; omega) hn).trans (Below.heap_alloc w o i hi)⟩
theorem moved_of_alloc {w : World} {o : Obj} {v v' : Value} (h : Moved (w.alloc o) v v') : Moved w v v' := by
  rcases h with h | ⟨g, h1, h2⟩
  · exact .inl h
  · exact .inr ⟨g, h1, by simp at h2; omega⟩
/-- A row of elements of one type is no block of another type. -/
theorem own_ne {w : World} {base g : Nat} {e t : TypeId} {size n : Nat} {v : Value} {xs : List Value} {cs : Array Value} {f : Nat × Nat} (h : w.ownsRow base e size v n xs) (hg : w.heap[g]? = some (.cells cs t f)) (hne : e ≠ t) : some g ≠ v.ownBlock := by
  rcases h.2 with ⟨rfl, _⟩ | ⟨g', cap, cur, rfl, _, hh, _⟩
  · simp [Value.ownBlock]
  · intro he
    have : g = g' := by simpa [Value.ownBlock] using he
    subst this
    rw [hh] at hg
    injection hg with hg
    injection hg with _ ht
    exact hne ht
theorem own_mono_ {w : World} {base base' : Nat} {e : TypeId} {size n : Nat} {v : Value} {xs : List Value} (h : w.ownsRow base e size v n xs) (hb : base' ≤ base) : w.ownsRow base' e size v n xs := by
  refine ⟨h.1, ?_⟩
  rcases h.2 with h | ⟨g, cap, cur, hv, hg, r⟩
  · exact .inl h
  · exact .inr ⟨g, cap, cur, hv, by omega, r⟩
theorem own_mono {w : World} {base base' : Nat} {e : TypeId} {size n : Nat} {v : Value} {xs : List Value} (h : w.ownsRow base e size v n xs) (hb : base' ≤ base) : w.ownsRow base' e size v n xs := own_mono_ h hb
theorem own_drewN {w : World} {base : Nat} {e : TypeId} {size n : Nat} {v : Value} {xs : List Value} (h : w.ownsRow base e size v n xs) (q : Nat) : (w.drewN q).ownsRow base e size v n xs := h
theorem Cells.drewN {w : World} {b o : Nat} {xs : List Value} (h : Cells w b o xs) (q : Nat) : Cells (w.drewN q) b o xs := h
theorem grown_of_drewN {w w' : World} {q : Nat} {row : Option Nat} (h : (w.drewN q).grownBy w' row) : w.grownBy w' row := ⟨h.os, h.tape, h.output, h.size, h.block⟩
/-- The row's cells, to read. -/
theorem own_row {w : World} {base : Nat} {e : TypeId} {size n : Nat} {A : Option Addr} {n' c : Nat} {xs : List Value} (h : w.ownsRow base e size (.slice A n' c) n xs) : Row w w.heap.size A xs := by
  rcases h.2 with ⟨hv, hn⟩ | ⟨g, cap, cur, hv, _, hh, _, _, _, ht⟩
  · have := h.1
    rw [hn] at this
    exact .inl (List.eq_nil_of_length_eq_zero (by simpa using this))
  · injection hv with hA
    subst hA
    refine .inr ⟨g, 0, rfl, (Array.getElem?_eq_some_iff.1 hh).1, fun j u hu => ?_⟩
    rw [Nat.zero_add]
    refine cell_of_blk hh ?_
    rw [← ht, List.getElem?_take] at hu
    split at hu
    · simpa using hu
    · cases hu
/-- What is owned is a slice of that length. -/
theorem own_slice {w : World} {base : Nat} {e : TypeId} {size n : Nat} {v : Value} {xs : List Value} (h : w.ownsRow base e size v n xs) : ∃ A c, v = .slice A n c := by
  rcases h.2 with ⟨rfl, rfl⟩ | ⟨g, cap, cur, rfl, _⟩
  · exact ⟨_, _, rfl⟩
  · exact ⟨_, _, rfl⟩
end Go.Proofs.YtlfphndnkgoinaaGreatDoor

/- Rows of records: plain lemmas on memory; no program in sight. -/
namespace Go.Proofs.YtlfphndnkgoinaaGreatDoor
open Go.RowKit

/-- The cells of records, each of k cells. -/
def recs {α : Type} (f : α → List Value) (l : List α) : List Value := l.flatMap f
theorem recs_nil {α : Type} (f : α → List Value) : recs f [] = [] := rfl
theorem recs_append {α : Type} (f : α → List Value) (a b : List α) : recs f (a ++ b) = recs f a ++ recs f b := by simp [recs]
theorem recs_snoc {α : Type} (f : α → List Value) (a : List α) (x : α) : recs f (a ++ [x]) = recs f a ++ f x := by simp [recs]
section
variable {α : Type} {f : α → List Value} {k : Nat}
theorem recs_length (hf : ∀ x, (f x).length = k) (l : List α) : (recs f l).length = l.length * k := by
  induction l with
  | nil => simp [recs]
  | cons x l ih => simp only [recs, List.flatMap_cons, List.length_append, List.length_cons] at ih ⊢; rw [ih, hf, Nat.succ_mul]; omega
theorem recs_get (hf : ∀ x, (f x).length = k) (l : List α) (i : Nat) (x : α) (h : l[i]? = some x) (j : Nat) (hj : j < k) : (recs f l)[i * k + j]? = (f x)[j]? := by
  induction l generalizing i with
  | nil => simp at h
  | cons y l ih =>
    cases i with
    | zero =>
      simp only [List.getElem?_cons_zero, Option.some.injEq] at h
      subst h
      simp only [recs, List.flatMap_cons]
      rw [List.getElem?_append_left (by rw [hf]; omega)]
      simp
    | succ i =>
      simp only [List.getElem?_cons_succ] at h
      have := ih i h
      simp only [recs, List.flatMap_cons] at this ⊢
      rw [List.getElem?_append_right (by rw [hf, Nat.succ_mul]; omega), ← this, hf]
      congr 1
      rw [Nat.succ_mul]; omega
theorem rec_cell (hf : ∀ x, (f x).length = k) {w : World} {b o : Nat} {l : List α} (h : Cells w b o (recs f l)) (i : Nat) (x : α) (hx : l[i]? = some x) (j : Nat) (u : Value) (hj : (f x)[j]? = some u) : w.cell? ⟨b, o + i * k + j, none⟩ = some u := by
  have hjk : j < k := by have := (List.getElem?_eq_some_iff.1 hj).1; rw [hf] at this; exact this
  have := h (i * k + j) u ((recs_get hf l i x hx j hjk).trans hj)
  rwa [← Nat.add_assoc] at this
theorem Row.posR (hf : ∀ x, (f x).length = k) (hk : 0 < k) {w : World} {B : Nat} {A : Option Addr} {l : List α} (h : Row w B A (recs f l)) (hl : 0 < l.length) : ∃ b o, A = some ⟨b, o, none⟩ ∧ b < B ∧ Cells w b o (recs f l) := by
  rcases h with h | h
  · have := recs_length hf l
    rw [h] at this
    simp only [List.length_nil] at this
    have := Nat.mul_pos hl hk
    omega
  · exact h
theorem recs_one (h1 : ∀ x, ∀ u ∈ f x, u.oneCell' = true) (l : List α) : ∀ u ∈ recs f l, u.oneCell' = true := by
  intro u hu
  simp only [recs, List.mem_flatMap] at hu
  obtain ⟨x, _, hx⟩ := hu
  exact h1 x u hx
theorem recs_drop (hf : ∀ x, (f x).length = k) (l : List α) (i : Nat) : (recs f l).drop (i * k) = recs f (l.drop i) := by
  induction l generalizing i with
  | nil => simp [recs]
  | cons y l ih =>
    cases i with
    | zero => simp
    | succ i =>
      simp only [recs, List.flatMap_cons, List.drop_succ_cons] at ih ⊢
      rw [Nat.succ_mul, Nat.add_comm, ← List.drop_drop, List.drop_left' (hf y), ih]
end
theorem Cells.drop {w : World} {b o : Nat} {xs : List Value} (h : Cells w b o xs) (i : Nat) : Cells w b (o + i) (xs.drop i) := by
  intro j u hu
  rw [List.getElem?_drop] at hu
  have := h (i + j) u hu
  rwa [← Nat.add_assoc] at this
theorem Cells.take {w : World} {b o : Nat} {xs : List Value} (h : Cells w b o xs) (i : Nat) : Cells w b o (xs.take i) := by
  intro j u hu
  rw [List.getElem?_take] at hu
  split at hu
  · exact h j u hu
  · cases hu
/-- A row that is owned, read from an element on. -/
theorem Row.dropR {α : Type} {f : α → List Value} {k : Nat} (hf : ∀ x, (f x).length = k) {w : World} {B b o : Nat} {l : List α} (h : Cells w b o (recs f l)) (hb : b < B) (i : Nat) : Row w B (some ⟨b, o + i * k, none⟩) (recs f (l.drop i)) := by
  have := h.drop (i * k)
  rw [recs_drop hf] at this
  exact .inr ⟨b, _, rfl, hb, this⟩
theorem own_cap {w : World} {base : Nat} {e : TypeId} {size n : Nat} {A : Option Addr} {c : Nat} {xs : List Value} (h : w.ownsRow base e size (.slice A n c) n xs) : n ≤ c := by
  rcases h.2 with ⟨hv, hn⟩ | ⟨g, cap, cur, hv, _, _, hc, _⟩
  · omega
  · injection hv with _ _ hc'
    omega
theorem own_two {w : World} {base : Nat} {e : TypeId} {size n : Nat} {A : Option Addr} {c : Nat} {xs : List Value} (h : w.ownsRow base e size (.slice A n c) n xs) : (A = none ∧ n = 0 ∧ c = 0) ∨ ∃ g, A = some ⟨g, 0, none⟩ ∧ base ≤ g ∧ g < w.heap.size := by
  rcases h.2 with ⟨hv, hn⟩ | ⟨g, cap, cur, hv, hb, hh, hc, _⟩
  · injection hv with h1 h2 h3
    exact .inl ⟨h1, hn, h3⟩
  · injection hv with h1 h2 h3
    exact .inr ⟨g, h1, hb, (Array.getElem?_eq_some_iff.1 hh).1⟩
end Go.Proofs.YtlfphndnkgoinaaGreatDoor

/- A row that is owned, seen from a place on: appends, slices, cells; no program in sight. -/
namespace Go.Proofs.YtlfphndnkgoinaaGreatDoor
open Go.RowKit

/-- A slice whose block is one's own; it may begin behind the block's beginning. -/
def OwF (w : World) (base : Nat) (e : TypeId) (size : Nat) (v : Value) (n : Nat) (xs : List Value) : Prop :=
  xs.length = n * size ∧ ((v = .slice none 0 0 ∧ n = 0) ∨
    ∃ g o cap cur, v = .slice (some ⟨g, o, none⟩) n cap ∧ base ≤ g ∧ w.heap[g]? = some (.cells cur e (0, 0)) ∧ n ≤ cap ∧ cap ≤ maxLen ∧ o + cap * size ≤ cur.size ∧ (cur.toList.drop o).take (n * size) = xs)
theorem OwF.nil (w : World) (base : Nat) (e : TypeId) (size : Nat) : OwF w base e size (.slice none 0 0) 0 [] := ⟨by simp, .inl ⟨rfl, rfl⟩⟩
theorem OwF.of_own {w : World} {base : Nat} {e : TypeId} {size : Nat} {v : Value} {n : Nat} {xs : List Value} (h : w.ownsRow base e size v n xs) : OwF w base e size v n xs := by
  refine ⟨h.1, ?_⟩
  rcases h.2 with h | ⟨g, cap, cur, h1, h2, h3, h4, h5, h6, h7⟩
  · exact .inl h
  · exact .inr ⟨g, 0, cap, cur, h1, h2, h3, h4, h5, by omega, by simpa using h7⟩
theorem OwF.keep {w w' : World} {base : Nat} {e : TypeId} {size : Nat} {v : Value} {n : Nat} {xs : List Value} (h : OwF w base e size v n xs) (hk : ∀ b, v.ownBlock = some b → w'.heap[b]? = w.heap[b]?) : OwF w' base e size v n xs := by
  refine ⟨h.1, ?_⟩
  rcases h.2 with h | ⟨g, o, cap, cur, h1, h2, h3, r⟩
  · exact .inl h
  · exact .inr ⟨g, o, cap, cur, h1, h2, (hk g (by rw [h1]; rfl)).trans h3, r⟩
theorem OwF.lt {w : World} {base : Nat} {e : TypeId} {size : Nat} {v : Value} {n : Nat} {xs : List Value} (h : OwF w base e size v n xs) {b : Nat} (hb : v.ownBlock = some b) : base ≤ b ∧ b < w.heap.size := by
  rcases h.2 with ⟨rfl, _⟩ | ⟨g, o, cap, cur, rfl, h2, h3, _⟩
  · cases hb
  · injection hb with hb
    subst hb
    exact ⟨h2, (Array.getElem?_eq_some_iff.1 h3).1⟩
/-- The type of the row's block. -/
theorem OwF.ty {w : World} {base : Nat} {e : TypeId} {size : Nat} {v : Value} {n : Nat} {xs : List Value} (h : OwF w base e size v n xs) {b : Nat} (hb : v.ownBlock = some b) : ∃ cs, w.heap[b]? = some (.cells cs e (0, 0)) := by
  rcases h.2 with ⟨rfl, _⟩ | ⟨g, o, cap, cur, rfl, h2, h3, _⟩
  · cases hb
  · injection hb with hb
    subst hb
    exact ⟨cur, h3⟩
theorem OwF.cells {w : World} {base : Nat} {e : TypeId} {size g o c n : Nat} {xs : List Value} (h : OwF w base e size (.slice (some ⟨g, o, none⟩) n c) n xs) : Cells w g o xs := by
  intro j u hu
  rcases h.2 with ⟨hv, _⟩ | ⟨g', o', cap, cur, hv, _, h3, _, _, _, h7⟩
  · injection hv with h1; cases h1
  · injection hv with h1 h2 h4
    injection h1 with h1
    injection h1 with h1 h1'
    subst h1 h1'
    have := cell_of_row w g (o + j) cur e (0, 0) h3
    rw [this]
    rw [← h7, List.getElem?_take] at hu
    split at hu
    · rw [List.getElem?_drop] at hu
      simpa using hu
    · cases hu
theorem OwF.form {w : World} {base : Nat} {e : TypeId} {size : Nat} {v : Value} {n : Nat} {xs : List Value} (h : OwF w base e size v n xs) : ∃ A c, v = .slice A n c ∧ n ≤ c := by
  rcases h.2 with ⟨rfl, rfl⟩ | ⟨g, o, cap, cur, rfl, _, _, h4, _⟩
  · exact ⟨_, _, rfl, Nat.le_refl _⟩
  · exact ⟨_, _, rfl, h4⟩
theorem OwF.pos {w : World} {base : Nat} {e : TypeId} {size : Nat} {v : Value} {n : Nat} {xs : List Value} (h : OwF w base e size v n xs) (hn : 0 < n) : ∃ g o c, v = .slice (some ⟨g, o, none⟩) n c ∧ n ≤ c ∧ Cells w g o xs := by
  rcases h.2 with ⟨rfl, rfl⟩ | ⟨g, o, cap, cur, rfl, _, _, h4, _⟩
  · omega
  · exact ⟨g, o, cap, rfl, h4, h.cells⟩
/-- What is left behind the first element. -/
theorem OwF.behind {w : World} {base : Nat} {e : TypeId} {size : Nat} {A : Option Addr} {n c : Nat} {xs : List Value} (h : OwF w base e size (.slice A n c) n xs) (hn : 0 < n) : OwF w base e size (sliced A 1 n c size) (n - 1) (xs.drop size) ∧ ∀ b, (sliced A 1 n c size).ownBlock = some b → (Value.slice A n c).ownBlock = some b := by
  rcases h.2 with ⟨_, h0⟩ | ⟨g, o, cap, cur, hv, h2, h3, h4, h5, h6, h7⟩
  · omega
  · injection hv with h1 h1' h1''
    subst h1 h1''
    have hx : (xs.drop size).length = (n - 1) * size := by rw [List.length_drop, h.1, Nat.sub_mul, Nat.one_mul]
    unfold sliced
    by_cases hc : c = 1
    · rw [if_pos hc]
      refine ⟨⟨hx, .inr ⟨g, o, c - 1, cur, rfl, h2, h3, by omega, by omega, ?_, ?_⟩⟩, fun b hb => hb⟩
      · rw [hc] at h6 ⊢; simp; omega
      · have : n = 1 := by omega
        subst this
        rw [Nat.one_mul] at h7
        simp only [Nat.sub_self, Nat.zero_mul, List.take_zero]
        rw [List.drop_of_length_le (by rw [h.1]; simp)]
    · rw [if_neg hc]
      have hadd : (⟨g, o, none⟩ : Addr).add (1 * size) = ⟨g, o + size, none⟩ := by rw [Nat.one_mul]; unfold Addr.add; split <;> simp_all
      refine ⟨⟨hx, .inr ⟨g, o + size, c - 1, cur, by rw [Option.map_some, hadd], h2, h3, by omega, by omega, ?_, ?_⟩⟩, fun b hb => ?_⟩
      · have : c * size = (c - 1) * size + size := by rw [← Nat.succ_mul]; congr 1; omega
        omega
      · rw [← h7, List.drop_take, List.drop_drop, Nat.sub_mul, Nat.one_mul]
      · rw [Option.map_some, hadd] at hb
        exact hb
/-- The first ones alone. -/
theorem OwF.first {w : World} {base : Nat} {e : TypeId} {size : Nat} {A : Option Addr} {n c : Nat} {xs : List Value} (h : OwF w base e size (.slice A n c) n xs) {k : Nat} (hk : k ≤ n) : OwF w base e size (.slice A k c) k (xs.take (k * size)) := by
  have hx : (xs.take (k * size)).length = k * size := by
    rw [List.length_take, h.1]
    exact Nat.min_eq_left (Nat.mul_le_mul_right _ hk)
  rcases h.2 with ⟨hv, h0⟩ | ⟨g, o, cap, cur, hv, h2, h3, h4, h5, h6, h7⟩
  · injection hv with h1 h1' h1''
    subst h1 h1''
    have : k = 0 := by omega
    subst this
    exact ⟨hx, .inl ⟨rfl, rfl⟩⟩
  · injection hv with h1 h1' h1''
    subst h1 h1''
    refine ⟨hx, .inr ⟨g, o, c, cur, rfl, h2, h3, by omega, h5, h6, ?_⟩⟩
    rw [← h7, List.take_take, Nat.min_eq_left (Nat.mul_le_mul_right _ hk)]
theorem run_append_roomF {P : Program} (w : World) (t ty e : TypeId) (i : TypeInfo) (ht : P.underlying t = some (.slice e)) (hi : P.info? e = some i)
    (g o sLen sCap : Nat) (cur : Array Value) (hg : w.heap[g]? = some (.cells cur e (0, 0)))
    (a : Addr) (m c : Nat) (news : List Value) (hl : news.length = m * i.size) (hnews : ∀ j u, news[j]? = some u → w.cell? (a.add j) = some u) (h1 : ∀ u ∈ news, u.oneCell' = true)
    (hroom : sLen + m ≤ sCap) (hfit : o + sLen * i.size + news.length ≤ cur.size) :
    (Builtin.append_ #[t, t] ty #[.slice (some ⟨g, o, none⟩) sLen sCap, .slice (some a) m c]).run P w =
      .ok (.slice (some ⟨g, o, none⟩) (sLen + m) sCap) (w.setRow g (cur.toList.take (o + sLen * i.size) ++ news ++ cur.toList.drop (o + sLen * i.size + news.length)).toArray) := by
  have hf := run_firstCells_some (P := P) w i.size m a m c news hl hnews
  have hst := run_storeCells_at P g (o + sLen * i.size) e news 0 cur w hg (by simpa using hfit) h1
  simp only [Nat.add_zero] at hst
  simp [Builtin.append_, run_underlying ht, sizeOf, typeInfo, hi, Builtin.lenOf, hroom, hf, Addr.add_lit, hst]
/-- APPEND TO A ROW OF ONE'S OWN THAT MAY BEGIN LATER. -/
theorem run_append_F {P : Program} (w : World) (base : Nat) (t ty e : TypeId) (i : TypeInfo) (z : Value) (size bytes : Nat) (ht : P.underlying t = some (.slice e)) (hi : P.info? e = some i) (hz : i.zero = some z)
    (hsize : i.size = size) (hby : i.bytes = bytes) (hzs : z.cells.size = size) (hsz : 0 < size)
    (v : Value) (n : Nat) (xs : List Value) (hown : OwF w base e size v n xs)
    (a : Addr) (m c : Nat) (news : List Value) (hl : news.length = m * size) (hnews : ∀ j u, news[j]? = some u → w.cell? (a.add j) = some u) (h1 : ∀ u ∈ news, u.oneCell' = true)
    (h63 : n + m ≤ maxLen) (hbytes : (n + m) * bytes ≤ 140737488355328) (hbase : base ≤ w.heap.size) :
    ∃ v' w', (Builtin.append_ #[t, t] ty #[v, .slice (some a) m c]).run P w = .ok v' w' ∧ OwF w' base e size v' (n + m) (xs ++ news) ∧ w.grownBy w' v.ownBlock ∧ (∀ b, v'.ownBlock = some b → v.ownBlock = some b ∨ w.heap.size ≤ b) := by
  rcases hown.2 with ⟨rfl, rfl⟩ | ⟨g, o, cap, cur, rfl, hbg, hg, hnc, hcm, hcs, htake⟩
  · have hx : xs = [] := List.eq_nil_of_length_eq_zero (by simpa using hown.1)
    subst hx
    obtain ⟨v', w', r1, r2, r3, r4⟩ := run_append_own (P := P) w w.heap.size t ty e i z size bytes ht hi hz hsize hby hzs hsz (.slice none 0 0) 0 [] (World.ownsRow_nil _ _ _ _) a m c news hl hnews h1 h63 hbytes (Nat.le_refl _)
    refine ⟨v', w', r1, ⟨r2.1, ?_⟩, r3, fun b hb => .inr (r2.lt b hb).1⟩
    rcases (OwF.of_own r2).2 with h | ⟨g, o, cap, cur, q1, q2, q3⟩
    · exact .inl h
    · exact .inr ⟨g, o, cap, cur, q1, by omega, q3⟩
  · have hlen : (xs ++ news).length = (n + m) * size := by rw [List.length_append, hown.1, hl, Nat.add_mul]
    by_cases hroom : n + m ≤ cap
    · have hfit : o + n * size + news.length ≤ cur.size := by
        rw [hl]
        have : (n + m) * size ≤ cap * size := Nat.mul_le_mul_right _ hroom
        rw [Nat.add_mul] at this
        omega
      have hr := run_append_roomF (P := P) w t ty e i ht hi g o n cap cur hg a m c news (by rw [hsize]; exact hl) hnews h1 hroom (by rw [hsize]; exact hfit)
      refine ⟨_, _, hr, ⟨hlen, .inr ⟨g, o, cap, _, rfl, hbg, setRow_heap w g cur _ e _ hg, hroom, hcm, ?_, ?_⟩⟩, ⟨rfl, rfl, rfl, by simp, fun k _ hk => setRow_other w g k _ (fun e => hk (by simp [Value.ownBlock, e]))⟩, fun b hb => .inl hb⟩
      · simp only [List.size_toArray, List.length_append, List.length_take, List.length_drop, Array.length_toList, hsize]
        omega
      · simp only [hsize]
        have e1 : (cur.toList.take (o + n * size)).drop o = xs := by rw [List.drop_take, Nat.add_sub_cancel_left]; exact htake
        have hol : o ≤ (cur.toList.take (o + n * size)).length := by rw [List.length_take, Array.length_toList]; omega
        rw [List.append_assoc, List.drop_append_of_le_length hol, e1, ← List.append_assoc, ← hlen]
        exact List.take_left
    · obtain ⟨v', w', r1, r2, r3⟩ := run_append_arg_grows (P := P) w t ty e i z size bytes ht hi hz hsize hby hzs hsz ⟨g, o, none⟩ n cap xs hown.1 (fun j u hu => by
        have := hown.cells j u hu
        have hadd : (⟨g, o, none⟩ : Addr).add j = ⟨g, o + j, none⟩ := by unfold Addr.add; split <;> simp_all
        rw [hadd]; exact this) a m c news hl hnews (by omega) h63 hbytes
      refine ⟨v', w', r1, ⟨r2.1, ?_⟩, ⟨r3.os, r3.tape, r3.output, r3.size, fun k hk _ => r3.block k hk (by simp)⟩, fun b hb => .inr (r2.lt b hb).1⟩
      rcases (OwF.of_own r2).2 with h | ⟨g, o, cap, cur, q1, q2, q3⟩
      · exact .inl h
      · exact .inr ⟨g, o, cap, cur, q1, by omega, q3⟩
/-- Append as a step of a region. -/
theorem step_append_F {P : Program} {ops : Array Oper} {o : Oper} {a : Act} {w : World} {K : Act → World → Prop} {Q : Exit → Act → World → Prop} {E : Prop}
    (hg : o.guard = none) (s x : Operand) (t : TypeId) (hop : o.op = Op.call { callee := Callee.builtin Builtin.append, args := #[s, x], argTypes := #[t, t] })
    (base : Nat) (e : TypeId) (i : TypeInfo) (z : Value) (size bytes : Nat) (h1 : P.underlying t = some (.slice e)) (h2 : P.info? e = some i) (h3 : i.zero = some z) (h4 : i.size = size) (h5 : i.bytes = bytes) (h6 : z.cells.size = size) (h7 : 0 < size)
    (v : Value) (n : Nat) (xs : List Value) (hs : a.eval s = v) (hown : OwF w base e size v n xs)
    (ad : Addr) (m c : Nat) (news : List Value) (hx : a.eval x = .slice (some ad) m c) (hn : news.length = m * size) (hc : ∀ j u, news[j]? = some u → w.cell? (ad.add j) = some u) (h1c : ∀ u ∈ news, u.oneCell' = true)
    (b1 : n + m ≤ maxLen) (b2 : (n + m) * bytes ≤ 140737488355328) (hb : base ≤ w.heap.size)
    (hK : ∀ v' w', OwF w' base e size v' (n + m) (xs ++ news) → w.grownBy w' v.ownBlock → (∀ b, v'.ownBlock = some b → v.ownBlock = some b ∨ w.heap.size ≤ b) → K (a.put o.dst v') w') :
    if Region.wanted o (yielded ops a.tmps) = true then Oper.wp P o a w K Q else E := by
  have hw : Region.wanted o (yielded ops a.tmps) = true := by simp [Region.wanted, hg]
  rw [if_pos hw]
  obtain ⟨v', w', hrun, r1, r2, r3⟩ := run_append_F (P := P) w base t o.type e i z size bytes h1 h2 h3 h4 h5 h6 h7 v n xs hown ad m c news hn hc h1c b1 b2 hb
  unfold Oper.wp
  simp [execOp, hop, resolve, invoke, builtin, hs, hx, hrun, Result.andThen]
  exact hK v' w' r1 r2 r3
end Go.Proofs.YtlfphndnkgoinaaGreatDoor

/- base.Out, Moment, Window, Key; cmp.Compare, cmp.Or; strings.Compare of equal strings: each by its contract. -/
namespace Go.Proofs.YtlfphndnkgoinaaGreatDoor
open Go.RowKit

theorem out_no (n lo hi : Int) (w : World) (h1 : lo ≤ n) (h2 : n ≤ hi) : Calls Tryz.prog 47 #[.int .i64 n, .int .i64 lo, .int .i64 hi] w fun e w' => e = .returned (.bool false) ∧ w = w' := by
  go_enter Tryz.func47, Tryz.ntmps47
  go_wp2
  go_ret
  exact ⟨by simp; omega, rfl⟩
theorem out_yes (n lo hi : Int) (w : World) (h : n < lo ∨ hi < n) : Calls Tryz.prog 47 #[.int .i64 n, .int .i64 lo, .int .i64 hi] w fun e w' => e = .returned (.bool true) ∧ w = w' := by
  rcases Int.lt_or_le n lo with h1 | h1
  · go_enter Tryz.func47, Tryz.ntmps47
    go_wp2
    go_ret
    exact ⟨rfl, rfl⟩
  · have h2 : hi < n := by omega
    clear h
    go_enter Tryz.func47, Tryz.ntmps47
    go_wp2
    go_ret
    exact ⟨by simp, rfl⟩

theorem moment_yes (n : Int) (w : World) (h1 : 0 ≤ n) (h2 : n < 345686400000) : Calls Tryz.prog 67 #[.int .i64 n] w fun e w' => e = .returned (.bool true) ∧ w = w' := by
  go_enter Tryz.func67, Tryz.ntmps67
  go_wp2_with (go_at_call 47; refine (out_no _ _ _ _ (by omega) (by omega)).mono ?_; rintro e w' ⟨rfl, rfl⟩)
  go_ret
  exact ⟨rfl, rfl⟩

theorem isNaN_any (n : Int) (w : World) : Calls Tryz.prog 96 #[.int .i64 n] w fun e w' => e = .returned (.bool false) ∧ w = w' := by
  go_enter Tryz.func96, Tryz.ntmps96
  go_wp2
  go_ret
  exact ⟨by simp, rfl⟩

/-- cmp.Compare's answer. -/
def cmpI (a b : Int) : Int := if a < b then -1 else if b < a then 1 else 0
theorem compare_any (a b : Int) (w : World) : Calls Tryz.prog 59 #[.int .i64 a, .int .i64 b] w fun e w' => e = .returned (.int .i64 (cmpI a b)) ∧ w = w' := by
  obtain ⟨r, hr⟩ : ∃ r, r = cmpI a b := ⟨_, rfl⟩
  rw [← hr]
  have H := Lib.hid hr
  clear hr
  go_enter Tryz.func59, Tryz.ntmps59
  go_wp2_with (go_at_call 96; refine (isNaN_any _ _).mono ?_; rintro e w' ⟨rfl, rfl⟩)
  all_goals (go_ret; refine ⟨ret_int ?_, rfl⟩; rw [H.out]; unfold cmpI)
  · rw [if_pos (by assumption)]
  · rw [if_neg (by omega), if_pos (by omega)]
  · rw [if_neg (by omega), if_neg (by omega)]


theorem compareBytes_self : ∀ l : List UInt8, Lib.compareBytes l l = 0
  | [] => rfl
  | a :: l => by simp [Lib.compareBytes, compareBytes_self l]

set_option maxRecDepth 100000 in
theorem cstring_any (a b : ByteArray) (w : World) :
    Calls Tryz.prog 97 #[.string a, .string b] w fun e w' => e = .returned (.int .i64 (Lib.compareBytes a.data.toList b.data.toList)) ∧ w = w' := by
  go_enter Tryz.func97, Tryz.ntmps97
  go_wp2
  rw [run_callFunc_extern Tryz.func148 (by kernel_rfl) (by kernel_rfl) (by kernel_rfl) (e := Extern.BytealgCompare.compare) (by kernel_rfl), Lib.run_compareString]
  simp only [Result.andThen]
  rw [Oper.upon_value]
  go_wp2
  go_ret
  exact ⟨rfl, rfl⟩
theorem scompare_any (a b : ByteArray) (w : World) : Calls Tryz.prog 60 #[.string a, .string b] w fun e w' => e = .returned (.int .i64 (Lib.compareBytes a.data.toList b.data.toList)) ∧ w = w' := by
  go_enter Tryz.func60, Tryz.ntmps60
  go_wp2_with (go_at_call 97; refine (cstring_any _ _ _).mono ?_; rintro e w' ⟨rfl, rfl⟩)
  go_ret
  exact ⟨rfl, rfl⟩
theorem scompare_same (a : ByteArray) (w : World) : Calls Tryz.prog 60 #[.string a, .string a] w fun e w' => e = .returned (.int .i64 0) ∧ w = w' := by
  have h := scompare_any a a w
  rw [compareBytes_self] at h
  exact h

/-- cmp.Or's answer: the first number that is not 0. -/
def orI : List Int → Int
  | [] => 0
  | x :: l => if x = 0 then orI l else x
theorem or_any (l : List Int) (n c g : Nat) (w : World) (hn : l.length = n) (hb : n ≤ 1000000) (hc : Cells w g 0 (l.map (Value.int .i64))) :
    Calls Tryz.prog 58 #[.slice (some ⟨g, 0, none⟩) n c] w fun e w' => e = .returned (.int .i64 (orI l)) ∧ w = w' := by
  obtain ⟨r, hr⟩ : ∃ r, r = orI l := ⟨_, rfl⟩
  rw [← hr]
  go_enter Tryz.func58, Tryz.ntmps58
  go_wp2
  go_loop [8] (fun i => ∃ k : Nat, k ≤ n ∧ i = .int .i64 k ∧ orI (l.drop k) = r) (fun i => n - (intOf i).toNat)
  case atStart => exact ⟨0, Nat.zero_le _, rfl, by simp [hr]⟩
  case round =>
    obtain ⟨k, hk, rfl, hd⟩ := hrel
    have HD := Lib.hid hd
    clear hd
    by_cases hlt : k < n
    · obtain ⟨x, hx⟩ : ∃ x, l[k]? = some x := ⟨_, List.getElem?_eq_getElem (by omega)⟩
      have hcell := hc k (.int .i64 x) (by simp [hx])
      simp only [Nat.zero_add] at hcell
      have hdr : l.drop k = x :: l.drop (k + 1) := by
        rw [List.drop_eq_getElem_cons (by omega)]; congr 1
        rw [List.getElem?_eq_getElem (by omega)] at hx; injection hx
      have HH := Lib.hid (show (x = 0 → orI (l.drop (k + 1)) = r) ∧ (x ≠ 0 → r = x) by
        have := HD.out; rw [hdr] at this; unfold orI at this
        split at this <;> simp_all)
      clear hc hx hdr hr HD
      go_wp2
      · go_ret
        exact ⟨ret_int (HH.out.2 (by simp_all)).symm, rfl⟩
      · go_round
        case rel => exact ⟨k + 1, by omega, by go_num, HH.out.1 (by simp_all)⟩
        case measure => simp [intOf]; omega
    · have hkn : k = n := by omega
      subst hkn
      have h0 : r = 0 := by have := HD.out; rw [List.drop_of_length_le (by omega)] at this; simpa [orI] using this.symm
      have H0 := Lib.hid h0
      clear h0 hr hc HD
      go_wp2
      go_ret
      exact ⟨ret_int H0.out.symm, rfl⟩

/-! ### keys -/
def keyByte (c : UInt8) : Bool := (97 ≤ c && c ≤ 122) || (48 ≤ c && c ≤ 57) || c == 45 || c == 95
def isKey (s : ByteArray) : Bool := decide (0 < s.size) && decide (s.size ≤ 40) && (97 ≤ s.data.toList.headD 0 && s.data.toList.headD 0 ≤ 122) && s.data.toList.all keyByte

theorem isKey_byte (s : ByteArray) (h : isKey s = true) (j : Nat) (hj : j < s.size) : keyByte s[j] = true := by
  simp only [isKey, Bool.and_eq_true, List.all_eq_true] at h
  exact h.2 _ (by rw [show s[j] = s.data.toList[j] from rfl]; exact List.getElem_mem _)
theorem isKey_first (s : ByteArray) (h : isKey s = true) (hj : 0 < s.size) : 97 ≤ (s[0]'hj).toNat ∧ (s[0]'hj).toNat ≤ 122 := by
  simp only [isKey, Bool.and_eq_true, decide_eq_true_eq] at h
  have e : s.data.toList.headD 0 = s[0]'hj := by
    rw [List.headD_eq_head?_getD, List.head?_eq_getElem?, List.getElem?_eq_getElem (by simpa using hj)]; rfl
  rw [e] at h
  exact ⟨UInt8.le_iff_toNat_le.1 h.1.2.1, UInt8.le_iff_toNat_le.1 h.1.2.2⟩
theorem isKey_size (s : ByteArray) (h : isKey s = true) : 0 < s.size ∧ s.size ≤ 40 := by
  simp only [isKey, Bool.and_eq_true, decide_eq_true_eq] at h
  exact h.1.1
theorem keyByte_cases (c : UInt8) (h : keyByte c = true) : ((97 : Int) ≤ c.toNat ∧ (c.toNat : Int) ≤ 122) ∨ ((48 : Int) ≤ c.toNat ∧ (c.toNat : Int) ≤ 57) ∨ c.toNat = 45 ∨ c.toNat = 95 := by
  simp only [keyByte, Bool.or_eq_true, Bool.and_eq_true, decide_eq_true_eq, beq_iff_eq, UInt8.le_iff_toNat_le] at h
  rcases h with ((⟨h, h'⟩ | ⟨h, h'⟩) | h) | h
  · exact .inl ⟨by exact_mod_cast h, by exact_mod_cast h'⟩
  · exact .inr (.inl ⟨by exact_mod_cast h, by exact_mod_cast h'⟩)
  · subst h; exact .inr (.inr (.inl rfl))
  · subst h; exact .inr (.inr (.inr rfl))

set_option maxHeartbeats 1000000 in
theorem key_yes (s : ByteArray) (w : World) (h : isKey s = true) : Calls Tryz.prog 78 #[.string s] w fun e w' => e = .returned (.bool true) ∧ w = w' := by
  obtain ⟨h0, h1⟩ := isKey_size s h
  obtain ⟨f1, f2⟩ := isKey_first s h h0
  have HB := Lib.hid (fun j hj => keyByte_cases _ (isKey_byte s h j hj))
  have hem : s.toList.isEmpty = false := by
    cases hl : s.toList with
    | nil => have : s.toList.length = s.size := by rw [Lib.toList_data]; simp
             rw [hl] at this; simp at this; omega
    | cons x l => rfl
  have hg1 : (97 : Int) ≤ ((s[0]'h0).toNat : Int) := by omega
  have hg2 : ((s[0]'h0).toNat : Int) ≤ 122 := by omega
  clear f1 f2 h
  go_enter Tryz.func78, Tryz.ntmps78
  go_wp2
  go_loop [24] (fun i => ∃ k : Nat, k ≤ s.size ∧ i = .int .i64 k) (fun i => s.size - (intOf i).toNat)
  case atStart => exact ⟨0, Nat.zero_le _, rfl⟩
  case round =>
    obtain ⟨k, hk, rfl⟩ := hrel
    by_cases hlt : k < s.size
    · rcases HB.out k hlt with ⟨a1, a2⟩ | ⟨a1, a2⟩ | a1 | a1
      · go_wp2
        go_round
        case rel => exact ⟨k + 1, by omega, by go_num⟩
        case measure => simp [intOf]; omega
      · go_wp2
        go_round
        case rel => exact ⟨k + 1, by omega, by go_num⟩
        case measure => simp [intOf]; omega
      · go_wp2
        go_round
        case rel => exact ⟨k + 1, by omega, by go_num⟩
        case measure => simp [intOf]; omega
      · go_wp2
        go_round
        case rel => exact ⟨k + 1, by omega, by go_num⟩
        case measure => simp [intOf]; omega
    · go_wp2
      go_ret
      exact ⟨rfl, rfl⟩
end Go.Proofs.YtlfphndnkgoinaaGreatDoor

/- An alarm's life as data and in memory: a block of eleven cells and six rows of its own; no program in sight but its types. -/
namespace Go.Proofs.YtlfphndnkgoinaaGreatDoor
open Go.RowKit

structure Lf where
  d : Nat
  r : Nat
  st : Int
  si : Int
  ra : List Int
  sh : Int
  up : List (Int × Int)
  fr : List (Int × Int)
  as_ : List (Int × Int)
  ak : List Int
  wt : List Int
def aldT : Nat → ByteArray
  | 0 => ⟨#[100, 97]⟩
  | 1 => ⟨#[100, 98]⟩
  | _ => ⟨#[100, 103]⟩
def alrT : Nat → ByteArray
  | 0 => ⟨#[114, 97]⟩
  | _ => ⟨#[114, 98]⟩
def alI (l : List Int) : List Value := l.map (Value.int .i64)
def alW (x : Int × Int) : List Value := [.int .i64 x.1, .int .i64 x.2]
/-- The life's rows: which type, how wide, how long, what is in them. -/
def rTy : Nat → TypeId
  | 0 => 3
  | 1 => 48
  | 2 => 48
  | 3 => 48
  | _ => 3
def rSz : Nat → Nat
  | 0 => 1
  | 1 => 2
  | 2 => 2
  | 3 => 2
  | _ => 1
def rowN (L : Lf) : Nat → Nat
  | 0 => L.ra.length
  | 1 => L.up.length
  | 2 => L.fr.length
  | 3 => L.as_.length
  | 4 => L.ak.length
  | _ => L.wt.length
def rowC (L : Lf) : Nat → List Value
  | 0 => alI L.ra
  | 1 => recs alW L.up
  | 2 => recs alW L.fr
  | 3 => recs alW L.as_
  | 4 => alI L.ak
  | _ => alI L.wt
/-- The cell of the life's block that has a row. -/
def rCol : Nat → Nat
  | 0 => 4
  | 1 => 6
  | 2 => 7
  | 3 => 8
  | 4 => 9
  | _ => 10
def lfCells (L : Lf) (v : Nat → Value) : Array Value := #[.string (aldT L.d), .string (alrT L.r), .int .i64 L.st, .int .i64 L.si, v 0, .int .i64 L.sh, v 1, v 2, v 3, v 4, v 5]
def updV (v : Nat → Value) (m : Nat) (u : Value) : Nat → Value := fun k => if k = m then u else v k
theorem updV_same (v : Nat → Value) (m : Nat) (u : Value) : updV v m u m = u := by simp [updV]
theorem updV_other (v : Nat → Value) (m : Nat) (u : Value) (k : Nat) (h : k ≠ m) : updV v m u k = v k := by simp [updV, h]
structure LfI (w : World) (x : Nat) (L : Lf) (v : Nat → Value) : Prop where
  blk : w.heap[x]? = some (.cells (lfCells L v) 175 (0, 0))
  row : ∀ m, m < 6 → w.ownsRow 0 (rTy m) (rSz m) (v m) (rowN L m) (rowC L m)
  apart : ∀ m m', m < 6 → m' < 6 → m ≠ m' → ∀ q, (v m).ownBlock = some q → (v m').ownBlock ≠ some q
/-- The blocks of a life. -/
def lfFoot (x : Nat) (v : Nat → Value) (b : Nat) : Prop := b = x ∨ ∃ m, m < 6 ∧ (v m).ownBlock = some b
/-- What has grown but for some blocks. -/
structure GrF (w w' : World) (p : Nat → Prop) : Prop where
  os : w'.os = w.os
  tape : w'.tape = w.tape
  output : w'.output = w.output
  size : w.heap.size ≤ w'.heap.size
  block : ∀ b, b < w.heap.size → ¬ p b → w'.heap[b]? = w.heap[b]?
theorem GrF.refl (w : World) (p : Nat → Prop) : GrF w w p := ⟨rfl, rfl, rfl, Nat.le_refl _, fun _ _ _ => rfl⟩
theorem GrF.mono {w w' : World} {p q : Nat → Prop} (h : GrF w w' p) (hpq : ∀ b, b < w.heap.size → p b → q b) : GrF w w' q := ⟨h.os, h.tape, h.output, h.size, fun b hb hq => h.block b hb (fun hp => hq (hpq b hb hp))⟩
theorem GrF.trans {a b c : World} {p : Nat → Prop} (h : GrF a b p) (k : GrF b c p) : GrF a c p :=
  ⟨k.os.trans h.os, k.tape.trans h.tape, k.output.trans h.output, Nat.le_trans h.size k.size, fun i hi hp => (k.block i (Nat.lt_of_lt_of_le hi h.size) hp).trans (h.block i hi hp)⟩
theorem GrF.of_below {w w' : World} {B : Nat} (h : Below B w w') (p : Nat → Prop) (hp : ∀ b, B ≤ b → b < w.heap.size → p b) : GrF w w' p :=
  ⟨h.os, h.tape, h.output, h.size, fun b hb hn => h.block b (Nat.lt_of_not_le fun hB => hn (hp b hB hb))⟩
theorem GrF.of_grown {w w' : World} {row : Option Nat} (h : w.grownBy w' row) (p : Nat → Prop) (hp : ∀ b, row = some b → p b) : GrF w w' p :=
  ⟨h.os, h.tape, h.output, h.size, fun b hb hn => h.block b hb (fun e => hn (hp b e.symm))⟩
theorem GrF.set {w w' : World} {p : Nat → Prop} (h : GrF w w' p) {a : Addr} (ha : p a.block) (u : Value) : GrF w (w'.setCell a u) p :=
  ⟨h.os, h.tape, h.output, by simpa [World.setCell] using h.size, fun b hb hn => (Below.heap_setCell _ _ _ _ (fun e => hn (by rw [e]; exact ha))).trans (h.block b hb hn)⟩
theorem GrF.below {w w' : World} {p : Nat → Prop} {B : Nat} (h : GrF w w' p) (hp : ∀ b, b < w.heap.size → p b → B ≤ b) (hB : B ≤ w.heap.size) : Below B w w' :=
  ⟨h.os, h.tape, h.output, h.size, fun b hb => h.block b (by omega) (fun hpb => by have := hp b (by omega) hpb; omega)⟩
theorem LfI.lt {w : World} {x : Nat} {L : Lf} {v : Nat → Value} (h : LfI w x L v) : x < w.heap.size := (Array.getElem?_eq_some_iff.1 h.blk).1
theorem own_block_lt {w : World} {base size n : Nat} {e : TypeId} {v : Value} {xs : List Value} (h : w.ownsRow base e size v n xs) {b : Nat} (hb : v.ownBlock = some b) : b < w.heap.size := (h.lt b hb).2
theorem LfI.foot_lt {w : World} {x : Nat} {L : Lf} {v : Nat → Value} (h : LfI w x L v) {b : Nat} (hb : lfFoot x v b) : b < w.heap.size := by
  rcases hb with rfl | ⟨m, hm, hb⟩
  · exact h.lt
  · exact own_block_lt (h.row m hm) hb
theorem rTy_ne (m : Nat) : rTy m ≠ 175 := by
  match m with
  | 0 => decide
  | 1 => decide
  | 2 => decide
  | 3 => decide
  | _ + 4 => exact (by decide : (3 : TypeId) ≠ 175)
theorem LfI.x_ne {w : World} {x : Nat} {L : Lf} {v : Nat → Value} (h : LfI w x L v) {m : Nat} (hm : m < 6) : some x ≠ (v m).ownBlock := own_ne (h.row m hm) h.blk (rTy_ne m)
theorem own_keptB {w w' : World} {base : Nat} {e : TypeId} {size n : Nat} {v : Value} {xs : List Value} (h : w.ownsRow base e size v n xs) (hk : ∀ b, v.ownBlock = some b → w'.heap[b]? = w.heap[b]?) : w'.ownsRow base e size v n xs := by
  refine ⟨h.1, ?_⟩
  rcases h.2 with h | ⟨g, cap, cur, hv, hb, hh, r⟩
  · exact .inl h
  · exact .inr ⟨g, cap, cur, hv, hb, (hk g (by rw [hv]; rfl)).trans hh, r⟩
theorem LfI.keep {w w' : World} {x : Nat} {L : Lf} {v : Nat → Value} (h : LfI w x L v) (hk : ∀ b, lfFoot x v b → w'.heap[b]? = w.heap[b]?) : LfI w' x L v :=
  ⟨(hk x (.inl rfl)).trans h.blk, fun m hm => own_keptB (h.row m hm) fun b hb => hk b (.inr ⟨m, hm, hb⟩), h.apart⟩
theorem LfI.gr {w w' : World} {x : Nat} {L : Lf} {v : Nat → Value} {p : Nat → Prop} (h : LfI w x L v) (hg : GrF w w' p) (hd : ∀ b, lfFoot x v b → ¬ p b) : LfI w' x L v :=
  h.keep fun b hb => hg.block b (h.foot_lt hb) (hd b hb)
/-- A life's memory goes on: other blocks stay, and what is new was not there. -/
structure LfGo (w w' : World) (x : Nat) (v v' : Nat → Value) : Prop where
  gr : GrF w w' (lfFoot x v)
  sub : ∀ b, lfFoot x v' b → lfFoot x v b ∨ w.heap.size ≤ b
theorem LfGo.refl (w : World) (x : Nat) (v : Nat → Value) : LfGo w w x v v := ⟨.refl _ _, fun _ h => .inl h⟩
theorem LfGo.trans {a b c : World} {x : Nat} {u v t : Nat → Value} (h : LfGo a b x u v) (k : LfGo b c x v t) : LfGo a c x u t := by
  refine ⟨⟨k.gr.os.trans h.gr.os, k.gr.tape.trans h.gr.tape, k.gr.output.trans h.gr.output, Nat.le_trans h.gr.size k.gr.size, fun i hi hn => ?_⟩, fun i hi => ?_⟩
  · refine (k.gr.block i (Nat.lt_of_lt_of_le hi h.gr.size) fun hv => ?_).trans (h.gr.block i hi hn)
    rcases h.sub i hv with h | h
    · exact hn h
    · omega
  · rcases k.sub i hi with h1 | h1
    · exact h.sub i h1
    · exact .inr (Nat.le_trans h.gr.size h1)
theorem LfGo.below {w w' V : World} {x : Nat} {v v' : Nat → Value} (h : LfGo w w' x v v') (hb : Below w'.heap.size w' V) : LfGo w V x v v' :=
  ⟨h.gr.trans (GrF.of_below hb _ fun b h1 h2 => by omega), h.sub⟩
theorem LfGo.of_below {w w' V : World} {x : Nat} {v v' : Nat → Value} (hb : Below w.heap.size w V) (h : LfGo V w' x v v') : LfGo w w' x v v' := by
  refine ⟨(GrF.of_below hb _ fun b h1 h2 => by omega).trans h.gr, fun b hb' => ?_⟩
  rcases h.sub b hb' with h | h'
  · exact .inl h
  · exact .inr (Nat.le_trans hb.size h')
theorem LfI.below {w V : World} {x : Nat} {L : Lf} {v : Nat → Value} (h : LfI w x L v) (hb : Below w.heap.size w V) : LfI V x L v := h.keep fun b hf => hb.block b (h.foot_lt hf)
theorem heap_setCell_blk {w : World} {g j : Nat} {cs : Array Value} {t : TypeId} {f : Nat × Nat} (v : Value) (h : w.heap[g]? = some (.cells cs t f)) : (w.setCell ⟨g, j, none⟩ v).heap[g]? = some (.cells (cs.setIfInBounds j v) t f) := by
  simp [World.setCell, Array.getElem?_modify, h]
theorem lfCells_row {L L' : Lf} {v : Nat → Value} {m : Nat} (hm : m < 6) (u : Value) (h1 : L'.d = L.d) (h2 : L'.r = L.r) (h3 : L'.st = L.st) (h4 : L'.si = L.si) (h5 : L'.sh = L.sh) : (lfCells L v).setIfInBounds (rCol m) u = lfCells L' (updV v m u) := by
  unfold lfCells
  rw [h1, h2, h3, h4, h5]
  match m, hm with
  | 0, _ => simp [rCol, updV]
  | 1, _ => simp [rCol, updV]
  | 2, _ => simp [rCol, updV]
  | 3, _ => simp [rCol, updV]
  | 4, _ => simp [rCol, updV]
  | 5, _ => simp [rCol, updV]
/-- L' is L but for row m. -/
structure RowOf (L L' : Lf) (m : Nat) : Prop where
  h1 : L'.d = L.d
  h2 : L'.r = L.r
  h3 : L'.st = L.st
  h4 : L'.si = L.si
  h5 : L'.sh = L.sh
  hk : ∀ k, k < 6 → k ≠ m → rowN L' k = rowN L k ∧ rowC L' k = rowC L k
theorem LfI.app {w w1 : World} {x : Nat} {L L' : Lf} {v : Nat → Value} {m : Nat} {v' : Value} (h : LfI w x L v) (hm : m < 6) (hL : RowOf L L' m) (hg : w.grownBy w1 (v m).ownBlock) (hmv : Moved w (v m) v')
    (ho : w1.ownsRow 0 (rTy m) (rSz m) v' (rowN L' m) (rowC L' m)) : LfI (w1.setCell ⟨x, rCol m, none⟩ v') x L' (updV v m v') ∧ LfGo w (w1.setCell ⟨x, rCol m, none⟩ v') x v (updV v m v') := by
  have hx1 : w1.heap[x]? = some (.cells (lfCells L v) 175 (0, 0)) := (hg.block x h.lt (h.x_ne hm)).trans h.blk
  have hnx : ∀ b, v'.ownBlock = some b → b ≠ x := fun b hb e => own_ne ho hx1 (rTy_ne m) (by rw [hb, e])
  have hsub : ∀ b, v'.ownBlock = some b → (v m).ownBlock = some b ∨ w.heap.size ≤ b := fun b hb => by
    rcases hmv with e | ⟨g, h1, h2⟩
    · exact .inl (e ▸ hb)
    · rw [h1] at hb
      injection hb with hb
      exact .inr (hb ▸ h2)
  have hkeep : ∀ k b, k < 6 → k ≠ m → (v k).ownBlock = some b → w1.heap[b]? = w.heap[b]? := fun k b hk hne hb =>
    hg.block b (own_block_lt (h.row k hk) hb) fun e => h.apart m k hm hk (Ne.symm hne) b e.symm hb
  have hset : ∀ b, b ≠ x → (w1.setCell ⟨x, rCol m, none⟩ v').heap[b]? = w1.heap[b]? := fun b hb => Below.heap_setCell _ _ _ _ hb
  refine ⟨⟨?_, fun k hk => ?_, fun k k' hk hk' hne q h1 h2 => ?_⟩, ⟨?_, fun b hb => ?_⟩⟩
  · rw [heap_setCell_blk v' hx1, lfCells_row hm v' hL.h1 hL.h2 hL.h3 hL.h4 hL.h5]
  · by_cases hkm : k = m
    · subst hkm
      rw [updV_same]
      exact own_keptB ho fun b hb => hset b (hnx b hb)
    · rw [updV_other _ _ _ _ hkm, (hL.hk k hk hkm).1, (hL.hk k hk hkm).2]
      refine own_keptB (h.row k hk) fun b hb => (hset b fun e => h.x_ne hk (by rw [hb, e])).trans (hkeep k b hk hkm hb)
  · by_cases hkm : k = m
    · subst hkm
      rw [updV_same] at h1
      rw [updV_other _ _ _ _ (Ne.symm hne)] at h2
      rcases hsub q h1 with h1 | h1
      · exact h.apart k k' hk hk' hne q h1 h2
      · have := own_block_lt (h.row k' hk') h2
        omega
    · rw [updV_other _ _ _ _ hkm] at h1
      by_cases hkm' : k' = m
      · subst hkm'
        rw [updV_same] at h2
        rcases hsub q h2 with h2 | h2
        · exact h.apart k k' hk hk' hne q h1 h2
        · have := own_block_lt (h.row k hk) h1
          omega
      · rw [updV_other _ _ _ _ hkm'] at h2
        exact h.apart k k' hk hk' hne q h1 h2
  · exact (GrF.of_grown hg _ fun b hb => .inr ⟨m, hm, hb⟩).set (.inl rfl) _
  · rcases hb with rfl | ⟨k, hk, hb⟩
    · exact .inl (.inl rfl)
    · by_cases hkm : k = m
      · subst hkm
        rw [updV_same] at hb
        rcases hsub b hb with hb | hb
        · exact .inl (.inr ⟨k, hk, hb⟩)
        · exact .inr hb
      · rw [updV_other _ _ _ _ hkm] at hb
        exact .inl (.inr ⟨k, hk, hb⟩)
/-- A store into a row's cell. -/
theorem LfI.put {w : World} {x : Nat} {L L' : Lf} {v : Nat → Value} {m g n c o : Nat} {u : Value} (h : LfI w x L v) (hm : m < 6) (hL : RowOf L L' m) (hv : v m = .slice (some ⟨g, 0, none⟩) n c) (hn : rowN L m = n) (hn' : rowN L' m = n)
    (hc : rowC L' m = (rowC L m).set o u) : LfI (w.setCell ⟨g, o, none⟩ u) x L' v ∧ LfGo w (w.setCell ⟨g, o, none⟩ u) x v v := by
  have hr := h.row m hm
  have hob : (v m).ownBlock = some g := by rw [hv]; rfl
  have hxg : x ≠ g := fun e => h.x_ne hm (by rw [hob, e])
  have hset : ∀ b, b ≠ g → (w.setCell ⟨g, o, none⟩ u).heap[b]? = w.heap[b]? := fun b hb => Below.heap_setCell _ _ _ _ hb
  have hcs : lfCells L' v = lfCells L v := by unfold lfCells; rw [hL.h1, hL.h2, hL.h3, hL.h4, hL.h5]
  refine ⟨⟨?_, fun k hk => ?_, h.apart⟩, ⟨(GrF.refl _ _).set (.inr ⟨m, hm, hob⟩) _, fun b hb => .inl hb⟩⟩
  · rw [hset x hxg, hcs]
    exact h.blk
  · by_cases hkm : k = m
    · subst hkm
      rw [hv, hn'] at *
      rw [hn] at hr
      rw [hc]
      exact (hr.stored o u).1
    · rw [(hL.hk k hk hkm).1, (hL.hk k hk hkm).2]
      exact own_keptB (h.row k hk) fun b hb => hset b fun e => h.apart m k hm hk (Ne.symm hkm) g hob (by rw [hb, e])
/-- A number of the life's block is set: j is 2 (the state), 3 (since when) or 5 (shelved). -/
theorem LfI.num {w : World} {x j : Nat} {L L' : Lf} {v : Nat → Value} {u : Value} (h : LfI w x L v) (hc : lfCells L' v = (lfCells L v).setIfInBounds j u) (hk : ∀ k, k < 6 → rowN L' k = rowN L k ∧ rowC L' k = rowC L k) :
    LfI (w.setCell ⟨x, j, none⟩ u) x L' v ∧ LfGo w (w.setCell ⟨x, j, none⟩ u) x v v := by
  have hset : ∀ b, b ≠ x → (w.setCell ⟨x, j, none⟩ u).heap[b]? = w.heap[b]? := fun b hb => Below.heap_setCell _ _ _ _ hb
  refine ⟨⟨?_, fun k hk6 => ?_, h.apart⟩, ⟨(GrF.refl _ _).set (.inl rfl) _, fun b hb => .inl hb⟩⟩
  · rw [hc]
    exact heap_setCell_blk u h.blk
  · rw [(hk k hk6).1, (hk k hk6).2]
    exact own_keptB (h.row k hk6) fun b hb => hset b fun e => h.x_ne hk6 (by rw [hb, e])
end Go.Proofs.YtlfphndnkgoinaaGreatDoor

/- A region that draws its order and whose callees lay blocks of their own, walked once in the text's order: what is so of every world that has grown. -/
namespace Go.Proofs.YtlfphndnkgoinaaGreatDoor
open Go.RowKit

section
variable {P : Program}
theorem qVal {C : World → Prop} {o : Oper} {a : Act} {K : Act → Prop} {v : Value} (h : ∀ V, C V → (execOp a.eval o).run P V = .ok (.value v) V) (k : K (a.put o.dst v)) : o.quiet P a C K :=
  ⟨v, fun w hw => by unfold Oper.quietAt; rw [h w hw]; exact ⟨rfl, rfl⟩, k⟩
theorem qCall {C : World → Prop} {o : Oper} {a : Act} {K : Act → Prop} {v : Value} {f : FuncId} {args : Array Value} (h : ∀ V, C V → (execOp a.eval o).run P V = .ok (.enter f args) V)
    (hc : ∀ V, C V → Calls P f args V fun e w' => e = .returned v ∧ C w') (k : K (a.put o.dst v)) : o.quiet P a C K :=
  ⟨v, fun w hw => by unfold Oper.quietAt; rw [h w hw]; exact ⟨rfl, hc w hw⟩, k⟩
theorem qWant {ops : Array Oper} {C : World → Prop} {Q : Act → Prop} {o : Oper} {rest : List Oper} {a : Act} (hw : Region.wanted o (yielded ops a.tmps) = true) (h : ∀ K : Act → Prop, (∀ a, wpQuiet P ops C Q rest a → K a) → o.quiet P a C K) : wpQuiet P ops C Q (o :: rest) a :=
  wpQuiet_step (fun K hK => by rw [if_pos hw]; exact h K hK)
theorem qSkip {ops : Array Oper} {C : World → Prop} {Q : Act → Prop} {o : Oper} {rest : List Oper} {a : Act} (hw : Region.wanted o (yielded ops a.tmps) = false) (h : wpQuiet P ops C Q rest (a.put o.dst undef)) : wpQuiet P ops C Q (o :: rest) a :=
  wpQuiet_step (fun K hK => by rw [if_neg (by rw [hw]; exact Bool.false_ne_true)]; exact hK _ h)
/-- The class: what has grown out of w. -/
theorem qRegion {id : Nat} {Q : Exit → Act → World → Prop} {a : Act} {w : World} {l : List Oper} (hm : P.follows .mixedOrders = true) (hB : Region.lexB .any l.toArray = true)
    (h : wpQuiet P l.toArray (fun V => Below w.heap.size w V) (fun a' => ∀ w', Below w.heap.size w w' → Q .normal a' w') l a) : (Code.region id l.toArray true).wp P Q a w :=
  wp_region_quiet (C := fun V => Below w.heap.size w V) hm hB ((Below.refl _ _).drew) (by simpa using h)
end
end Go.Proofs.YtlfphndnkgoinaaGreatDoor

/- What a row holds behind stores of many cells, and behind clear; no program in sight. -/
namespace Go.Proofs.YtlfphndnkgoinaaGreatDoor
open Go.RowKit

theorem set_take_drop (xs r : List Value) (o : Nat) (v : Value) (h : o < xs.length) : (xs.set o v).take (o + 1) ++ r ++ (xs.set o v).drop (o + 1 + r.length) = xs.take o ++ v :: r ++ xs.drop (o + (v :: r).length) := by
  rw [List.set_eq_take_append_cons_drop, if_pos h]
  have h1 : (xs.take o).length = o := by simp; omega
  rw [List.take_append, List.drop_append, h1]
  have e1 : (xs.take o).take (o + 1) = xs.take o := by rw [List.take_take]; congr 1; omega
  have e2 : (xs.take o).drop (o + 1 + r.length) = [] := List.drop_eq_nil_of_le (by omega)
  rw [e1, e2, show o + 1 - o = 1 by omega, show o + 1 + r.length - o = r.length + 1 by omega]
  simp only [List.take_succ_cons, List.take_zero, List.drop_succ_cons, List.drop_drop, List.nil_append, List.append_assoc, List.cons_append, List.length_cons]
  rw [show o + 1 + r.length = o + (r.length + 1) by omega]
theorem own_setCells {base : Nat} {e : TypeId} {size g n cap : Nat} : ∀ (vs : List Value) (o : Nat) (w : World) (xs : List Value), w.ownsRow base e size (.slice (some ⟨g, 0, none⟩) n cap) n xs → o + vs.length ≤ xs.length →
    (w.setCells g o vs).ownsRow base e size (.slice (some ⟨g, 0, none⟩) n cap) n (xs.take o ++ vs ++ xs.drop (o + vs.length)) ∧ w.grownBy (w.setCells g o vs) (some g)
  | [], o, w, xs, h, _ => by simpa [World.setCells] using ⟨h, grown_refl w _⟩
  | v :: r, o, w, xs, h, hl => by
    simp only [List.length_cons] at hl
    obtain ⟨h1, h2⟩ := h.stored o v
    obtain ⟨h3, h4⟩ := own_setCells r (o + 1) _ _ h1 (by rw [List.length_set]; omega)
    rw [set_take_drop xs r o v (by omega)] at h3
    exact ⟨h3, grown_trans h2 h4⟩
theorem own_shrink {w : World} {base : Nat} {e : TypeId} {size g n cap : Nat} {xs : List Value} (h : w.ownsRow base e size (.slice (some ⟨g, 0, none⟩) n cap) n xs) (m : Nat) (hm : m ≤ n) :
    w.ownsRow base e size (.slice (some ⟨g, 0, none⟩) m cap) m (xs.take (m * size)) := by
  have hle : m * size ≤ n * size := Nat.mul_le_mul_right _ hm
  refine ⟨by rw [List.length_take, h.1]; omega, ?_⟩
  rcases h.2 with ⟨hv, _⟩ | ⟨g', cap', cur, hv, hb, hh, hc, hcm, hcs, ht⟩
  · injection hv with h1 _; cases h1
  · injection hv with h1 h2 h3
    injection h1 with h1
    injection h1 with h1 _
    subst h1 h3
    refine .inr ⟨g, cap, cur, rfl, hb, hh, by omega, hcm, hcs, ?_⟩
    rw [← ht, List.take_take]
    congr 1; omega
theorem run_clear_one {P : Program} (w : World) (t e ty : TypeId) (z : Value) (zs : List Value) (ht : P.underlying t = some (.slice e)) (hv : ∀ w, (zeroValue e).run P w = .ok z w) (hz : z.cells.toList = zs) (h1 : ∀ u ∈ zs, u.oneCell' = true) (b o c : Nat)
    (hc : ∀ j, j < zs.length → (w.cell? ⟨b, o + j, none⟩).isSome = true) (hf : ∀ j, j < zs.length → w.frozen? ⟨b, o + j, none⟩ = false) :
    (Builtin.clear_ #[t] ty #[.slice (some ⟨b, o, none⟩) 1 c]).run P w = .ok (.tuple #[]) (w.setCells b o zs) := by
  have hzc : (Builtin.zeroCells z.cells 1).toList = zs := by
    rw [← hz]
    simp [Builtin.zeroCells]
    apply List.ext_getElem
    · simp
    · intro i h1 h2
      simp at h1 h2
      simp [Nat.mod_eq_of_lt h2, getElem!_pos z.cells i h2]
  have hst := run_storeCells_cells (P := P) b o zs 0 w (by simpa using hc) (by simpa using hf) h1
  simp only [Nat.add_zero] at hst
  simp [Builtin.clear_, run_underlying ht, hv, hzc, hst]
/-- An element less: what stood behind it comes up, and nothing is left at the end. -/
theorem del_cells {α : Type} {f : α → List Value} {k : Nat} (hf : ∀ x, (f x).length = k) (l : List α) (i : Nat) (hi : i < l.length) (zs : List Value) :
    let a := (recs f l).take (i * k) ++ recs f (l.drop (i + 1)) ++ (recs f l).drop (i * k + (recs f (l.drop (i + 1))).length)
    (a.take ((l.length - 1) * k) ++ zs ++ a.drop ((l.length - 1) * k + zs.length)).take ((l.length - 1) * k) = recs f (l.eraseIdx i) := by
  intro a
  have hl := recs_length hf l
  have hd := recs_length hf (l.drop (i + 1))
  rw [List.length_drop] at hd
  have e1 : (recs f l).take (i * k) = recs f (l.take i) := by
    conv => lhs; rw [← List.take_append_drop i l, recs_append]
    rw [List.take_left' (by rw [recs_length hf, List.length_take]; congr 1; omega)]
  have hal : (recs f (l.take i) ++ recs f (l.drop (i + 1))).length = (l.length - 1) * k := by
    rw [List.length_append, recs_length hf, hd, List.length_take, ← Nat.add_mul]
    congr 1; omega
  have ha : a = recs f (l.take i) ++ recs f (l.drop (i + 1)) ++ (recs f l).drop (i * k + (recs f (l.drop (i + 1))).length) := by show _ ++ _ ++ _ = _; rw [e1]
  have hta : a.take ((l.length - 1) * k) = recs f (l.take i) ++ recs f (l.drop (i + 1)) := by rw [ha, List.take_left' hal]
  rw [hta, List.append_assoc, List.take_left' hal, ← recs_append, List.eraseIdx_eq_take_drop_succ]
/-- append to a row of the call's own, as one step of a region that draws its order. -/
theorem step_append_row {P : Program} {ops : Array Oper} {o : Oper} {a : Act} {w : World} {K : Act → World → Prop} {Q : Exit → Act → World → Prop} {E : Prop}
    (hg : o.guard = none) (s x : Operand) (t : TypeId) (hop : o.op = Op.call { callee := Callee.builtin Builtin.append, args := #[s, x], argTypes := #[t, t] })
    (base : Nat) (e : TypeId) (i : TypeInfo) (z : Value) (size bytes : Nat) (h1 : P.underlying t = some (.slice e)) (h2 : P.info? e = some i) (h3 : i.zero = some z) (h4 : i.size = size) (h5 : i.bytes = bytes) (h6 : z.cells.size = size) (h7 : 0 < size)
    (v : Value) (n : Nat) (xs : List Value) (hs : a.eval s = v) (hown : w.ownsRow base e size v n xs)
    (ad : Addr) (m c : Nat) (news : List Value) (hx : a.eval x = .slice (some ad) m c) (hn : news.length = m * size) (hc : ∀ j u, news[j]? = some u → w.cell? (ad.add j) = some u) (h1c : ∀ u ∈ news, u.oneCell' = true)
    (b1 : n + m ≤ maxLen) (b2 : (n + m) * bytes ≤ 140737488355328) (hb : base ≤ w.heap.size)
    (hK : ∀ v' w', w'.ownsRow base e size v' (n + m) (xs ++ news) → w.grownBy w' v.ownBlock → K (a.put o.dst v') w') :
    if Region.wanted o (yielded ops a.tmps) = true then Oper.wp P o a w K Q else E := by
  have hw : Region.wanted o (yielded ops a.tmps) = true := by simp [Region.wanted, hg]
  rw [if_pos hw]
  obtain ⟨v', w', hrun, r1, r2, _⟩ := run_append_own (P := P) w base t o.type e i z size bytes h1 h2 h3 h4 h5 h6 h7 v n xs hown ad m c news hn hc h1c b1 b2 hb
  unfold Oper.wp
  simp [execOp, hop, resolve, invoke, builtin, hs, hx, hrun, Result.andThen]
  exact hK v' w' r1 r2
theorem own_cells0 {w : World} {base : Nat} {e : TypeId} {size g n cap : Nat} {xs : List Value} (h : w.ownsRow base e size (.slice (some ⟨g, 0, none⟩) n cap) n xs) : Cells w g 0 xs := by
  intro j v hv
  rw [Nat.zero_add]
  exact (h.cellAt j (by rw [← h.1]; exact (List.getElem?_eq_some_iff.1 hv).1)).trans hv
theorem own_blk {w : World} {base : Nat} {e : TypeId} {size g n cap : Nat} {xs : List Value} (h : w.ownsRow base e size (.slice (some ⟨g, 0, none⟩) n cap) n xs) : ∃ cs, w.heap[g]? = some (.cells cs e (0, 0)) := by
  rcases h.2 with ⟨hv, _⟩ | ⟨g', cap', cur, hv, hb, hh, _⟩
  · injection hv with h1; cases h1
  · injection hv with h1
    injection h1 with h1
    injection h1 with h1
    subst h1
    exact ⟨cur, hh⟩
/-- How long a slice is. -/
def slLen : Value → Nat
  | .slice _ n _ => n
  | _ => 0
end Go.Proofs.YtlfphndnkgoinaaGreatDoor
