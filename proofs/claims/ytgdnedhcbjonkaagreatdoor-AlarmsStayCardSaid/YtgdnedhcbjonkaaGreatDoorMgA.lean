/- Several texts in one: Words, Base, ItA, Append, Rec, PrZ, SlM, SlI, Lay137, NumP, TxP, SlP, SlC, Lay160, SlD, SlK, Stream, FxF, SoS, SlR, Lay105, Lay171, SlS, SlW, Lay125, RpA, LyA, RpB, RpC, LfB, LfC, LfD, LfE, LfF, LfG, LfA, LfH, LfI, LfJ, Lay104, RkC, RkI, CatS, RkD, RkE, RkR. -/
import Derived.WalkKit
import Derived.WalkLawsBesides
import Derived.Lib.Hide
import Derived.Handy
import Derived.Deep.QuietTactic
import Derived.BigQuiet
import Derived.Outline
import Derived.Deep.DeepCutAuto
import Derived.Deep.Draws
import Derived.StillTailTactics
import Derived.Test.YtgdnedhcbjonkaaGreatDoorProg
import Derived.Lib.Bytealg
import Derived.Lib.Strings
import Derived.Laws.EntriesVeiled
import Derived.Shelf.Small.Strs
import Derived.Lib.ItoaNum
import Derived.Lib.Atoi
import Derived.Lib.SplitLaws
import Derived.Lib.IndexBytes
import Derived.Shelf.Strings.SlTrimAscii
import Derived.Lib.SmallJoins
import Derived.Lib.ConvBytes
import Derived.Laws.BytesString
import Derived.Shelf.Strings.Repeat
import Derived.Shelf.Strconv.Itoa3
import Derived.Lib.AppendIntMem
import Derived.Laws.Concat
import Derived.Laws.Runes
import Derived.Shelf.Small.Bits
import Derived.Deep.RegionHeld3
import Derived.Lib.AppendZerosOnto
import Derived.Lib.Walk
import Derived.BigRegion
import Derived.Maps.OwnOps
import Derived.Laws.StructEq
import Derived.DeepKeys
import Derived.Deep.RegionLawGrows
import Derived.Shelf.Small.Wraps

/- Words and plain lemmas on memory and numbers that all texts of this seat share; no program in sight. -/
namespace Go.Proofs.YtgdnedhcbjonkaaGreatDoor
open Go.RowKit

theorem ret_int {k : IntKind} {a b : Int} (h : a = b) : Ending.returned (.int k a) = .returned (.int k b) := by rw [h]
theorem ret_val {a b : Value} (h : a = b) : Ending.returned a = .returned b := by rw [h]

/-- A contract that leaves the world alone, turned round. -/
theorem flip_ {P : Program} {f : FuncId} {args : Array Value} {w : World} {v : Value} (h : Calls P f args w fun e w' => e = .returned v ∧ w = w') : Calls P f args w fun e w' => e = .returned v ∧ w' = w :=
  h.mono fun _ _ ⟨a, b⟩ => ⟨a, b.symm⟩

/-! ### numbers -/
def below (x n : Int) : Int := if n < 1 then 0 else x % n

theorem tmod_cases (x n : Int) (h : 1 ≤ n) : (x.tmod n < 0 → x % n = x.tmod n + n ∧ -n < x.tmod n) ∧ (0 ≤ x.tmod n → x % n = x.tmod n) := by
  have h2 : 0 ≤ x % n := Int.emod_nonneg _ (by omega)
  have h3 : x % n < n := Int.emod_lt_of_pos _ (by omega)
  rcases Int.le_total 0 x with hx | hx
  · have h1 : x.tmod n = x % n := Int.tmod_eq_emod_of_nonneg hx
    omega
  · obtain ⟨y, rfl⟩ : ∃ y, x = -y := ⟨-x, by omega⟩
    have h5 : y.tmod n = y % n := Int.tmod_eq_emod_of_nonneg (by omega)
    have h6 : (-y).tmod n = -(y % n) := by rw [Int.neg_tmod, h5]
    have h7 : 0 ≤ y % n := Int.emod_nonneg _ (by omega)
    have h8 : y % n < n := Int.emod_lt_of_pos _ (by omega)
    have h9 := Int.emod_add_mul_ediv y n
    have h10 := Int.emod_add_mul_ediv (-y) n
    have h11 : ((-y) % n + y % n) = n * (-(y / n) - (-y) / n) := by rw [Int.mul_sub, Int.mul_neg]; omega
    have h12 : (-(y / n) - (-y) / n) = 0 ∨ (-(y / n) - (-y) / n) = 1 := by
      generalize (-(y / n) - (-y) / n) = q at h11
      have : 0 ≤ n * q := by omega
      have : n * q < n * 2 := by omega
      have hq1 : 0 ≤ q := by
        rcases Int.lt_or_le q 0 with hq | hq
        · have : n * q ≤ n * (-1) := Int.mul_le_mul_of_nonneg_left (by omega) (by omega)
          omega
        · exact hq
      have hq2 : q < 2 := Int.lt_of_mul_lt_mul_left (a := n) (by omega) (by omega)
      omega
    rcases h12 with h | h <;> rw [h] at h11 <;> omega

theorem below_range (x n : Int) (h : 1 ≤ n) : 0 ≤ below x n ∧ below x n < n := by
  have : ¬ n < 1 := by omega
  simp only [below, if_neg this]
  exact ⟨Int.emod_nonneg _ (by omega), Int.emod_lt_of_pos _ (by omega)⟩

/-- The number that a stream over xs hands out next, after k ones, from 0 to m - 1. -/
def nextV (xs : List Int) (k : Nat) (m : Int) : Int :=
  if xs.length = 0 then below (((k : Int) + 1) * 7919) m
  else below (below (xs.getD (k % xs.length) 0) 1073741824 + ((k / xs.length * (7919 + k % xs.length) : Nat) : Int)) m

theorem nextV_range (xs : List Int) (k : Nat) (m : Int) (h : 1 ≤ m) : 0 ≤ nextV xs k m ∧ nextV xs k m < m := by
  unfold nextV; split <;> exact below_range _ _ h

/-- The same as a natural number. -/
def nextN (xs : List Int) (k m : Nat) : Nat := (nextV xs k m).toNat
theorem nextN_lt (xs : List Int) (k m : Nat) (h : 0 < m) : nextN xs k m < m := by
  have := nextV_range xs k m (by omega); unfold nextN; omega
theorem nextN_eq (xs : List Int) (k m : Nat) (h : 0 < m) : nextV xs k m = (nextN xs k m : Int) := by
  have := nextV_range xs k m (by omega); unfold nextN; omega

theorem round_le (k n : Nat) (h : 0 < n) : k / n * (7919 + k % n) ≤ k * 7920 := by
  have h1 : k / n ≤ k := Nat.div_le_self _ _
  have h2 : k / n * (k % n) ≤ k / n * n := Nat.mul_le_mul_left _ (Nat.le_of_lt (Nat.mod_lt _ h))
  have h3 : k / n * n ≤ k := Nat.div_mul_le_self _ _
  rw [Nat.mul_add]; omega

/-! ### memory -/
/-- The cells xs lie from offset o on in block b. -/
def Cells (w : World) (b o : Nat) (xs : List Value) : Prop := ∀ j v, xs[j]? = some v → w.cell? ⟨b, o + j, none⟩ = some v

/-- A slice's address A leads to the cells xs, in a block below B. -/
def Row (w : World) (B : Nat) (A : Option Addr) (xs : List Value) : Prop := xs = [] ∨ ∃ b o, A = some ⟨b, o, none⟩ ∧ b < B ∧ Cells w b o xs

theorem cell_of_blk {w : World} {b j : Nat} {cs : Array Value} {t : TypeId} {f : Nat × Nat} {v : Value} (h : w.heap[b]? = some (.cells cs t f)) (hv : cs[j]? = some v) : w.cell? ⟨b, j, none⟩ = some v := by
  simp [World.cell?, h, hv]

theorem Cells.keep {w w' : World} {b o : Nat} {xs : List Value} (h : Cells w b o xs) (hb : w'.heap[b]? = w.heap[b]?) : Cells w' b o xs := by
  intro j v hv
  have := h j v hv
  simp only [World.cell?, hb] at this ⊢
  exact this

theorem Row.keep {w w' : World} {B : Nat} {A : Option Addr} {xs : List Value} (h : Row w B A xs) (hb : ∀ b, b < B → w'.heap[b]? = w.heap[b]?) : Row w' B A xs := by
  rcases h with h | ⟨b, o, rfl, hlt, hc⟩
  · exact .inl h
  · exact .inr ⟨b, o, rfl, hlt, hc.keep (hb b hlt)⟩
theorem Row.mono {w : World} {B B' : Nat} {A : Option Addr} {xs : List Value} (h : Row w B A xs) (hb : B ≤ B') : Row w B' A xs := by
  rcases h with h | ⟨b, o, rfl, hlt, hc⟩
  · exact .inl h
  · exact .inr ⟨b, o, rfl, by omega, hc⟩
theorem Row.below {w w' : World} {B : Nat} {A : Option Addr} {xs : List Value} (h : Row w B A xs) (hb : Below B w w') : Row w' B A xs := h.keep hb.block

/-- Only block p has changed, and what is new. -/
theorem grown_trans {a b c : World} {p : Nat} (h : a.grownBy b (some p)) (k : b.grownBy c (some p)) : a.grownBy c (some p) :=
  ⟨k.os.trans h.os, k.tape.trans h.tape, k.output.trans h.output, Nat.le_trans h.size k.size, fun i hi hn => (k.block i (Nat.lt_of_lt_of_le hi h.size) hn).trans (h.block i hi hn)⟩
theorem grown_below {a b c : World} {p : Nat} (h : a.grownBy b (some p)) (k : Below b.heap.size b c) : a.grownBy c (some p) :=
  ⟨k.os.trans h.os, k.tape.trans h.tape, k.output.trans h.output, Nat.le_trans h.size k.size, fun i hi hn => (k.block i (Nat.lt_of_lt_of_le hi h.size)).trans (h.block i hi hn)⟩
theorem below_grown {a b c : World} {p : Nat} (h : Below a.heap.size a b) (k : b.grownBy c (some p)) : a.grownBy c (some p) :=
  ⟨k.os.trans h.os, k.tape.trans h.tape, k.output.trans h.output, Nat.le_trans h.size k.size, fun i hi hn => (k.block i (Nat.lt_of_lt_of_le hi h.size) hn).trans (h.block i hi)⟩
theorem grown_refl (w : World) (r : Option Nat) : w.grownBy w r := ⟨rfl, rfl, rfl, Nat.le_refl _, fun _ _ _ => rfl⟩
theorem grown_drewN {a w : World} {row : Option Nat} (h : a.grownBy w row) (n : Nat) : a.grownBy (w.drewN n) row := ⟨h.os, h.tape, h.output, h.size, h.block⟩
theorem grown_set {a w : World} {g : Nat} (h : a.grownBy w (some g)) {q : Addr} (hp : q.block = g ∨ a.heap.size ≤ q.block) (u : Value) : a.grownBy (w.setCell q u) (some g) :=
  ⟨h.os, h.tape, h.output, by simpa [World.setCell] using h.size, fun i hi hne => (Below.heap_setCell w q u i (by
    rintro rfl
    rcases hp with hp | hp
    · exact hne (by rw [hp])
    · omega)).trans (h.block i hi hne)⟩
theorem below_drewN {B : Nat} {a w : World} (h : Below B a w) (n : Nat) : Below B a (w.drewN n) := ⟨h.os, h.tape, h.output, h.size, h.block⟩

theorem heap_new (w : World) (o : Obj) : (w.alloc o).heap[w.heap.size]? = some o := heap_alloc_new w o

/-- The cells of a block that was just made. -/
theorem Cells.new (w : World) (cs : Array Value) (t : TypeId) (f : Nat × Nat) (xs : List Value) (h : cs.toList = xs) : Cells (w.alloc (.cells cs t f)) w.heap.size 0 xs := by
  intro j v hv
  subst h
  exact cell_of_blk (heap_new w _) (by simpa using hv)
theorem Cells.alloc {w : World} {b o : Nat} {xs : List Value} (h : Cells w b o xs) (hb : b < w.heap.size) (ob : Obj) : Cells (w.alloc ob) b o xs := h.keep (Below.heap_alloc w ob b hb)

theorem own_kept {w w' : World} {base p : Nat} {e : TypeId} {size n : Nat} {v : Value} {xs : List Value} (h : w.ownsRow base e size v n xs) (hg : w.grownBy w' (some p)) (hp : p < base) : w'.ownsRow base e size v n xs := by
  refine h.kept hg ?_
  cases hv : v.ownBlock with
  | none => exact .inl rfl
  | some b => exact .inr (fun e => by have := (h.lt b hv).1; injection e; omega)
theorem own_below {w w' : World} {base : Nat} {e : TypeId} {size n : Nat} {v : Value} {xs : List Value} (h : w.ownsRow base e size v n xs) (hb : Below w.heap.size w w') : w'.ownsRow base e size v n xs :=
  h.kept (row := none) ⟨hb.os, hb.tape, hb.output, hb.size, fun i hi _ => hb.block i hi⟩ (by cases v.ownBlock <;> simp)

theorem grown_row {a b c : World} {p : Nat} {row : Option Nat} (h : a.grownBy b (some p)) (k : b.grownBy c row) (hr : ∀ g, row = some g → a.heap.size ≤ g) : a.grownBy c (some p) :=
  ⟨k.os.trans h.os, k.tape.trans h.tape, k.output.trans h.output, Nat.le_trans h.size k.size, fun i hi hn => (k.block i (Nat.lt_of_lt_of_le hi h.size) (fun e => by have := hr i e.symm; omega)).trans (h.block i hi hn)⟩
theorem grown_alloc {a b : World} {row : Option Nat} (h : a.grownBy b row) (o : Obj) : a.grownBy (b.alloc o) row :=
  ⟨h.os, h.tape, h.output, Nat.le_trans h.size (by simp), fun i hi hn => (Below.heap_alloc b o i (Nat.lt_of_lt_of_le hi h.size)).trans (h.block i hi hn)⟩
theorem cells_add {w : World} {b : Nat} {xs : List Value} (h : Cells w b 0 xs) : ∀ j u, xs[j]? = some u → w.cell? ((⟨b, 0, none⟩ : Addr).add j) = some u := by
  intro j u hu
  have : (⟨b, 0, none⟩ : Addr).add j = ⟨b, 0 + j, none⟩ := by unfold Addr.add; split <;> simp_all
  rw [this]; exact h j u hu

/-! ### series: at and value of each measurement; device d, metric m -/
abbrev Smp := Int × Int
def smpC (x : Smp) : List Value := [.string ⟨#[100]⟩, .string ⟨#[109]⟩, .int .i64 x.1, .int .i64 x.2]
def cellsOf (l : List Smp) : List Value := l.flatMap smpC
theorem cellsOf_length (l : List Smp) : (cellsOf l).length = l.length * 4 := by
  induction l with
  | nil => rfl
  | cons x l ih => simp only [cellsOf, List.flatMap_cons, List.length_append, List.length_cons] at ih ⊢; rw [ih]; simp [smpC]; omega
theorem cellsOf_append (a b : List Smp) : cellsOf (a ++ b) = cellsOf a ++ cellsOf b := by simp [cellsOf]
theorem cellsOf_get (l : List Smp) (i : Nat) (x : Smp) (h : l[i]? = some x) (j : Nat) (hj : j < 4) : (cellsOf l)[i * 4 + j]? = (smpC x)[j]? := by
  induction l generalizing i with
  | nil => simp at h
  | cons y l ih =>
    cases i with
    | zero =>
      simp only [List.getElem?_cons_zero, Option.some.injEq] at h
      subst h
      simp only [cellsOf, List.flatMap_cons]
      rw [List.getElem?_append_left (by simp [smpC]; omega)]
      simp
    | succ i =>
      simp only [List.getElem?_cons_succ] at h
      have := ih i h
      simp only [cellsOf, List.flatMap_cons] at this ⊢
      rw [List.getElem?_append_right (by simp [smpC]; omega)]
      rw [← this]
      congr 1
      simp [smpC]; omega

theorem smpC_one (x : Smp) : ∀ u ∈ smpC x, u.oneCell' = true := by
  intro u hu
  simp only [smpC, List.mem_cons, List.not_mem_nil, or_false] at hu
  rcases hu with rfl | rfl | rfl | rfl <;> rfl
theorem cellsOf_snoc (l : List Smp) (x : Smp) : cellsOf (l ++ [x]) = cellsOf l ++ smpC x := by simp [cellsOf]

def atPicks : List Int := [1, 1, 2, 5, 10, 10, 40, 127, 1000]
def valPicks : List Int := [0, 1, 2, 5, 7, 9, -3, -70, 100, 1000, 5]
def serAt (xs : List Int) (k : Nat) : Nat → Int
  | 0 => 0
  | j + 1 => serAt xs k j + atPicks.getD (nextN xs (k + 2 * j) 9) 0
def serV (xs : List Int) (k : Nat) (low : Int) (j : Nat) : Int := max low (valPicks.getD (nextN xs (k + 2 * j + 1) 11) 0)
/-- The first n measurements of the series that a stream makes from its number k on. -/
def serL (xs : List Int) (k : Nat) (low : Int) (n : Nat) : List Smp := (List.range n).map fun j => (serAt xs k (j + 1), serV xs k low j)
theorem serL_length (xs : List Int) (k : Nat) (low : Int) (n : Nat) : (serL xs k low n).length = n := by simp [serL]
theorem serL_succ (xs : List Int) (k : Nat) (low : Int) (n : Nat) : serL xs k low (n + 1) = serL xs k low n ++ [(serAt xs k (n + 1), serV xs k low n)] := by simp [serL, List.range_succ]
theorem atPicks_range (j : Nat) (h : j < 9) : 1 ≤ atPicks.getD j 0 ∧ atPicks.getD j 0 ≤ 1000 := by
  have : j = 0 ∨ j = 1 ∨ j = 2 ∨ j = 3 ∨ j = 4 ∨ j = 5 ∨ j = 6 ∨ j = 7 ∨ j = 8 := by omega
  rcases this with h | h | h | h | h | h | h | h | h <;> subst h <;> decide
theorem valPicks_range (j : Nat) (h : j < 11) : -70 ≤ valPicks.getD j 0 ∧ valPicks.getD j 0 ≤ 1000 := by
  have : j = 0 ∨ j = 1 ∨ j = 2 ∨ j = 3 ∨ j = 4 ∨ j = 5 ∨ j = 6 ∨ j = 7 ∨ j = 8 ∨ j = 9 ∨ j = 10 := by omega
  rcases this with h | h | h | h | h | h | h | h | h | h | h <;> subst h <;> decide
theorem serAt_step (xs : List Int) (k j : Nat) : serAt xs k j + 1 ≤ serAt xs k (j + 1) ∧ serAt xs k (j + 1) ≤ serAt xs k j + 1000 := by
  have := atPicks_range (nextN xs (k + 2 * j) 9) (nextN_lt _ _ _ (by omega))
  simp only [serAt]; omega
theorem serAt_range (xs : List Int) (k j : Nat) : (j : Int) ≤ serAt xs k j ∧ serAt xs k j ≤ 1000 * j := by
  induction j with
  | zero => simp [serAt]
  | succ j ih => have := serAt_step xs k j; omega
theorem serV_range (xs : List Int) (k : Nat) (low : Int) (j : Nat) : low ≤ serV xs k low j ∧ -70 ≤ serV xs k low j ∧ serV xs k low j ≤ max low 1000 := by
  have := valPicks_range (nextN xs (k + 2 * j + 1) 11) (nextN_lt _ _ _ (by omega))
  simp only [serV]; omega

end Go.Proofs.YtgdnedhcbjonkaaGreatDoor

/- base.Out, Moment, Window, Key; cmp.Compare, cmp.Or; strings.Compare of equal strings: each by its contract. -/
namespace Go.Proofs.YtgdnedhcbjonkaaGreatDoor
open Go.RowKit

theorem out_no (n lo hi : Int) (w : World) (h1 : lo ≤ n) (h2 : n ≤ hi) : Calls Tryz.prog 74 #[.int .i64 n, .int .i64 lo, .int .i64 hi] w fun e w' => e = .returned (.bool false) ∧ w = w' := by
  go_enter Tryz.func74, Tryz.ntmps74
  go_wp2
  go_ret
  exact ⟨by simp; omega, rfl⟩
theorem out_yes (n lo hi : Int) (w : World) (h : n < lo ∨ hi < n) : Calls Tryz.prog 74 #[.int .i64 n, .int .i64 lo, .int .i64 hi] w fun e w' => e = .returned (.bool true) ∧ w = w' := by
  rcases Int.lt_or_le n lo with h1 | h1
  · go_enter Tryz.func74, Tryz.ntmps74
    go_wp2
    go_ret
    exact ⟨rfl, rfl⟩
  · have h2 : hi < n := by omega
    clear h
    go_enter Tryz.func74, Tryz.ntmps74
    go_wp2
    go_ret
    exact ⟨by simp, rfl⟩

theorem moment_yes (n : Int) (w : World) (h1 : 0 ≤ n) (h2 : n < 345686400000) : Calls Tryz.prog 50 #[.int .i64 n] w fun e w' => e = .returned (.bool true) ∧ w = w' := by
  go_enter Tryz.func50, Tryz.ntmps50
  go_wp2_with (go_at_call 74; refine (out_no _ _ _ _ (by omega) (by omega)).mono ?_; rintro e w' ⟨rfl, rfl⟩)
  go_ret
  exact ⟨rfl, rfl⟩

theorem isNaN_any (n : Int) (w : World) : Calls Tryz.prog 71 #[.int .i64 n] w fun e w' => e = .returned (.bool false) ∧ w = w' := by
  go_enter Tryz.func71, Tryz.ntmps71
  go_wp2
  go_ret
  exact ⟨by simp, rfl⟩

/-- cmp.Compare's answer. -/
def cmpI (a b : Int) : Int := if a < b then -1 else if b < a then 1 else 0
theorem compare_any (a b : Int) (w : World) : Calls Tryz.prog 37 #[.int .i64 a, .int .i64 b] w fun e w' => e = .returned (.int .i64 (cmpI a b)) ∧ w = w' := by
  obtain ⟨r, hr⟩ : ∃ r, r = cmpI a b := ⟨_, rfl⟩
  rw [← hr]
  have H := Lib.hid hr
  clear hr
  go_enter Tryz.func37, Tryz.ntmps37
  go_wp2_with (go_at_call 71; refine (isNaN_any _ _).mono ?_; rintro e w' ⟨rfl, rfl⟩)
  all_goals (go_ret; refine ⟨ret_int ?_, rfl⟩; rw [H.out]; unfold cmpI)
  · rw [if_pos (by assumption)]
  · rw [if_neg (by omega), if_pos (by omega)]
  · rw [if_neg (by omega), if_neg (by omega)]


theorem compareBytes_self : ∀ l : List UInt8, Lib.compareBytes l l = 0
  | [] => rfl
  | a :: l => by simp [Lib.compareBytes, compareBytes_self l]

set_option maxRecDepth 100000 in
theorem cstring_any (a b : ByteArray) (w : World) :
    Calls Tryz.prog 70 #[.string a, .string b] w fun e w' => e = .returned (.int .i64 (Lib.compareBytes a.data.toList b.data.toList)) ∧ w = w' := by
  go_enter Tryz.func70, Tryz.ntmps70
  go_wp2
  rw [run_callFunc_extern Tryz.func115 (by kernel_rfl) (by kernel_rfl) (by kernel_rfl) (e := Extern.BytealgCompare.compare) (by kernel_rfl), Lib.run_compareString]
  simp only [Result.andThen]
  rw [Oper.upon_value]
  go_wp2
  go_ret
  exact ⟨rfl, rfl⟩
theorem scompare_any (a b : ByteArray) (w : World) : Calls Tryz.prog 36 #[.string a, .string b] w fun e w' => e = .returned (.int .i64 (Lib.compareBytes a.data.toList b.data.toList)) ∧ w = w' := by
  go_enter Tryz.func36, Tryz.ntmps36
  go_wp2_with (go_at_call 70; refine (cstring_any _ _ _).mono ?_; rintro e w' ⟨rfl, rfl⟩)
  go_ret
  exact ⟨rfl, rfl⟩
theorem scompare_same (a : ByteArray) (w : World) : Calls Tryz.prog 36 #[.string a, .string a] w fun e w' => e = .returned (.int .i64 0) ∧ w = w' := by
  have h := scompare_any a a w
  rw [compareBytes_self] at h
  exact h

/-- cmp.Or's answer: the first number that is not 0. -/
def orI : List Int → Int
  | [] => 0
  | x :: l => if x = 0 then orI l else x
theorem or_any (l : List Int) (n c g : Nat) (w : World) (hn : l.length = n) (hb : n ≤ 1000000) (hc : Cells w g 0 (l.map (Value.int .i64))) :
    Calls Tryz.prog 35 #[.slice (some ⟨g, 0, none⟩) n c] w fun e w' => e = .returned (.int .i64 (orI l)) ∧ w = w' := by
  obtain ⟨r, hr⟩ : ∃ r, r = orI l := ⟨_, rfl⟩
  rw [← hr]
  go_enter Tryz.func35, Tryz.ntmps35
  go_wp2
  go_loop [8] (fun i => ∃ k : Nat, k ≤ n ∧ i = .int .i64 k ∧ orI (l.drop k) = r) (fun i => n - (intOf i).toNat)
  case atStart => exact ⟨0, Nat.zero_le _, rfl, by simp [hr]⟩
  case round =>
    obtain ⟨k, hk, rfl, hd⟩ := hrel
    have HD := Lib.hid hd
    clear hd
    by_cases hlt : k < n
    · obtain ⟨x, hx⟩ : ∃ x, l[k]? = some x := ⟨_, List.getElem?_eq_getElem (by omega)⟩
      have hcell := hc k (.int .i64 x) (by simp [hx])
      simp only [Nat.zero_add] at hcell
      have hdr : l.drop k = x :: l.drop (k + 1) := by
        rw [List.drop_eq_getElem_cons (by omega)]; congr 1
        rw [List.getElem?_eq_getElem (by omega)] at hx; injection hx
      have HH := Lib.hid (show (x = 0 → orI (l.drop (k + 1)) = r) ∧ (x ≠ 0 → r = x) by
        have := HD.out; rw [hdr] at this; unfold orI at this
        split at this <;> simp_all)
      clear hc hx hdr hr HD
      go_wp2
      · go_ret
        exact ⟨ret_int (HH.out.2 (by simp_all)).symm, rfl⟩
      · go_round
        case rel => exact ⟨k + 1, by omega, by go_num, HH.out.1 (by simp_all)⟩
        case measure => simp [intOf]; omega
    · have hkn : k = n := by omega
      subst hkn
      have h0 : r = 0 := by have := HD.out; rw [List.drop_of_length_le (by omega)] at this; simpa [orI] using this.symm
      have H0 := Lib.hid h0
      clear h0 hr hc HD
      go_wp2
      go_ret
      exact ⟨ret_int H0.out.symm, rfl⟩

/-! ### keys -/
def keyByte (c : UInt8) : Bool := (97 ≤ c && c ≤ 122) || (48 ≤ c && c ≤ 57) || c == 45 || c == 95
def isKey (s : ByteArray) : Bool := decide (0 < s.size) && decide (s.size ≤ 40) && (97 ≤ s.data.toList.headD 0 && s.data.toList.headD 0 ≤ 122) && s.data.toList.all keyByte

theorem isKey_byte (s : ByteArray) (h : isKey s = true) (j : Nat) (hj : j < s.size) : keyByte s[j] = true := by
  simp only [isKey, Bool.and_eq_true, List.all_eq_true] at h
  exact h.2 _ (by rw [show s[j] = s.data.toList[j] from rfl]; exact List.getElem_mem _)
theorem isKey_first (s : ByteArray) (h : isKey s = true) (hj : 0 < s.size) : 97 ≤ (s[0]'hj).toNat ∧ (s[0]'hj).toNat ≤ 122 := by
  simp only [isKey, Bool.and_eq_true, decide_eq_true_eq] at h
  have e : s.data.toList.headD 0 = s[0]'hj := by
    rw [List.headD_eq_head?_getD, List.head?_eq_getElem?, List.getElem?_eq_getElem (by simpa using hj)]; rfl
  rw [e] at h
  exact ⟨UInt8.le_iff_toNat_le.1 h.1.2.1, UInt8.le_iff_toNat_le.1 h.1.2.2⟩
theorem isKey_size (s : ByteArray) (h : isKey s = true) : 0 < s.size ∧ s.size ≤ 40 := by
  simp only [isKey, Bool.and_eq_true, decide_eq_true_eq] at h
  exact h.1.1
theorem keyByte_cases (c : UInt8) (h : keyByte c = true) : ((97 : Int) ≤ c.toNat ∧ (c.toNat : Int) ≤ 122) ∨ ((48 : Int) ≤ c.toNat ∧ (c.toNat : Int) ≤ 57) ∨ c.toNat = 45 ∨ c.toNat = 95 := by
  simp only [keyByte, Bool.or_eq_true, Bool.and_eq_true, decide_eq_true_eq, beq_iff_eq, UInt8.le_iff_toNat_le] at h
  rcases h with ((⟨h, h'⟩ | ⟨h, h'⟩) | h) | h
  · exact .inl ⟨by exact_mod_cast h, by exact_mod_cast h'⟩
  · exact .inr (.inl ⟨by exact_mod_cast h, by exact_mod_cast h'⟩)
  · subst h; exact .inr (.inr (.inl rfl))
  · subst h; exact .inr (.inr (.inr rfl))

set_option maxHeartbeats 1000000 in
theorem key_yes (s : ByteArray) (w : World) (h : isKey s = true) : Calls Tryz.prog 93 #[.string s] w fun e w' => e = .returned (.bool true) ∧ w = w' := by
  obtain ⟨h0, h1⟩ := isKey_size s h
  obtain ⟨f1, f2⟩ := isKey_first s h h0
  have HB := Lib.hid (fun j hj => keyByte_cases _ (isKey_byte s h j hj))
  have hem : s.toList.isEmpty = false := by
    cases hl : s.toList with
    | nil => have : s.toList.length = s.size := by rw [Lib.toList_data]; simp
             rw [hl] at this; simp at this; omega
    | cons x l => rfl
  have hg1 : (97 : Int) ≤ ((s[0]'h0).toNat : Int) := by omega
  have hg2 : ((s[0]'h0).toNat : Int) ≤ 122 := by omega
  clear f1 f2 h
  go_enter Tryz.func93, Tryz.ntmps93
  go_wp2
  go_loop [24] (fun i => ∃ k : Nat, k ≤ s.size ∧ i = .int .i64 k) (fun i => s.size - (intOf i).toNat)
  case atStart => exact ⟨0, Nat.zero_le _, rfl⟩
  case round =>
    obtain ⟨k, hk, rfl⟩ := hrel
    by_cases hlt : k < s.size
    · rcases HB.out k hlt with ⟨a1, a2⟩ | ⟨a1, a2⟩ | a1 | a1
      · go_wp2
        go_round
        case rel => exact ⟨k + 1, by omega, by go_num⟩
        case measure => simp [intOf]; omega
      · go_wp2
        go_round
        case rel => exact ⟨k + 1, by omega, by go_num⟩
        case measure => simp [intOf]; omega
      · go_wp2
        go_round
        case rel => exact ⟨k + 1, by omega, by go_num⟩
        case measure => simp [intOf]; omega
      · go_wp2
        go_round
        case rel => exact ⟨k + 1, by omega, by go_num⟩
        case measure => simp [intOf]; omega
    · go_wp2
      go_ret
      exact ⟨rfl, rfl⟩
end Go.Proofs.YtgdnedhcbjonkaaGreatDoor

/- strings.Cut at a point, base.Dotted and item.Property of some names, by their contracts. -/
namespace Go.Proofs.YtgdnedhcbjonkaaGreatDoor
open Go.RowKit

set_option maxRecDepth 100000 in
theorem slByte_any (s : ByteArray) (c : Int) (w : World) :
    Calls Tryz.prog 114 #[.string s, .int .u8 c] w fun e w' => e = .returned (.int .i64 (Lib.indexByte s.data.toList c.toNat.toUInt8)) ∧ w = w' := by
  go_enter Tryz.func114, Tryz.ntmps114
  go_wp2
  rw [run_callFunc_extern Tryz.func175 (by kernel_rfl) (by kernel_rfl) (by kernel_rfl) (e := Extern.BytealgIndexByte.indexByte) (by kernel_rfl), Lib.run_indexByteString]
  simp only [Result.andThen]
  rw [Oper.upon_value]
  go_wp2
  go_ret
  exact ⟨rfl, rfl⟩
theorem lindex_pt (s : ByteArray) (i : Int) (w : World) (hne : ([46] == s.toList) = false) (hi : Lib.indexByte s.data.toList 46 = i) :
    Calls Tryz.prog 236 #[.string s, .string ⟨#[46]⟩] w fun e w' => e = .returned (.int .i64 i) ∧ w = w' := by
  have H := Lib.hid hi
  clear hi
  go_enter Tryz.func236, Tryz.ntmps236
  go_wp2_with (go_at_call 114; refine (slByte_any _ _ _).mono ?_; rintro e w' ⟨rfl, rfl⟩)
  go_ret
  exact ⟨ret_int H.out, rfl⟩
/-- Cut of a key at a point that is not there. -/
theorem cut_none (s : ByteArray) (w : World) (hne : ([46] == s.toList) = false) (hi : Lib.indexByte s.data.toList 46 = -1) : Calls Tryz.prog 184 #[.string s, .string ⟨#[46]⟩] w fun e w' => e = .returned (.tuple #[.string s, .string ⟨#[]⟩, .bool false]) ∧ w = w' := by
  have H := Lib.hid (lindex_pt s (-1) w hne hi)
  clear hne hi
  go_enter Tryz.func184, Tryz.ntmps184
  go_wp2_with (fail)
  go_enter Tryz.func215, Tryz.ntmps215
  go_wp2_with (go_at_call 236; refine H.out.mono ?_; rintro e w' ⟨rfl, rfl⟩)
  go_ret3
  exact ⟨rfl, rfl⟩
/-- A key is a name. -/
theorem property_key (s : ByteArray) (w : World) (hk : isKey s = true) (hne : ([46] == s.toList) = false) (hi : Lib.indexByte s.data.toList 46 = -1) : Calls Tryz.prog 176 #[.string s] w fun e w' => e = .returned (.bool true) ∧ w = w' := by
  have h40 := (isKey_size s hk).2
  have HK := Lib.hid (key_yes s w hk)
  have HC := Lib.hid (cut_none s w hne hi)
  have hle : (s.size : Int) ≤ 40 := by omega
  clear hk hne hi
  go_enter Tryz.func176, Tryz.ntmps176
  go_wp2_with (fail)
  go_enter Tryz.func133, Tryz.ntmps133
  go_wp2_with (fail)
  refine wp_loop_rounds 1 ?_
  rw [rounds_succ]
  go_wp2_with (first | (go_at_call 184; refine HC.out.mono ?_; rintro e w' ⟨rfl, rfl⟩) | (go_at_call 93; refine HK.out.mono ?_; rintro e w' ⟨rfl, rfl⟩))
  go_ret
  exact ⟨rfl, rfl⟩
/-- fan.on cut at its point. -/
theorem cut_fan (w : World) : Calls Tryz.prog 184 #[.string ⟨#[102, 97, 110, 46, 111, 110]⟩, .string ⟨#[46]⟩] w fun e w' => e = .returned (.tuple #[.string ⟨#[102, 97, 110]⟩, .string ⟨#[111, 110]⟩, .bool true]) ∧ Below w.heap.size w w' := by
  have H := lindex_pt ⟨#[102, 97, 110, 46, 111, 110]⟩ 3 w (by rw [Lib.toList_data]; decide) (by decide)
  go_enter Tryz.func184, Tryz.ntmps184
  go_wp2_with (fail)
  go_enter Tryz.func215, Tryz.ntmps215
  go_wp2_with (go_at_call 236; refine H.mono ?_; rintro e w' ⟨rfl, rfl⟩)
  go_quiet (fail)
  go_wp2_with (fail)
  go_ret3
  exact ⟨rfl, below_drewN (Below.refl _ _) _⟩
theorem property_fan (w : World) : Calls Tryz.prog 176 #[.string ⟨#[102, 97, 110, 46, 111, 110]⟩] w fun e w' => e = .returned (.bool true) ∧ Below w.heap.size w w' := by
  have HC := Lib.hid (cut_fan w)
  have HD := Lib.hid (fun w => cut_none ⟨#[111, 110]⟩ w (by rw [Lib.toList_data]; decide) (by decide))
  have HK := Lib.hid (fun w => key_yes ⟨#[102, 97, 110]⟩ w (by kernel_rfl))
  have HL := Lib.hid (fun w => key_yes ⟨#[111, 110]⟩ w (by kernel_rfl))
  go_enter Tryz.func176, Tryz.ntmps176
  go_wp2_with (fail)
  go_enter Tryz.func133, Tryz.ntmps133
  go_wp2_with (fail)
  refine wp_loop_rounds 2 ?_
  rw [rounds_succ]
  go_wp2_with (first | (go_at_call 184; refine HC.out.mono ?_; rintro e w' ⟨rfl, hb⟩) | (go_at_call 93; refine (HK.out _).mono ?_; rintro e w' ⟨rfl, rfl⟩))
  rw [rounds_succ]
  go_wp2_with (first | (go_at_call 184; refine (HD.out _).mono ?_; rintro e w' ⟨rfl, rfl⟩) | (go_at_call 93; refine (HL.out _).mono ?_; rintro e w' ⟨rfl, rfl⟩))
  go_ret
  exact ⟨rfl, hb⟩
end Go.Proofs.YtgdnedhcbjonkaaGreatDoor

/- append to a row of the call's own, with where the new row lies. -/
namespace Go.Proofs.YtgdnedhcbjonkaaGreatDoor
open Go.RowKit

/-- v' lies where v lay, or in memory that was not there in w. -/
def Moved (w : World) (v v' : Value) : Prop := v'.ownBlock = v.ownBlock ∨ ∃ g, v'.ownBlock = some g ∧ w.heap.size ≤ g

section
variable {P : Program} (w : World)
theorem run_append_own2 (base : Nat) (t ty e : TypeId) (i : TypeInfo) (z : Value) (size bytes : Nat) (ht : P.underlying t = some (.slice e)) (hi : P.info? e = some i) (hz : i.zero = some z)
    (hsize : i.size = size) (hby : i.bytes = bytes) (hzs : z.cells.size = size) (hsz : 0 < size)
    (v : Value) (n : Nat) (xs : List Value) (hown : w.ownsRow base e size v n xs)
    (a : Addr) (m c : Nat) (news : List Value) (hl : news.length = m * size) (hnews : ∀ j u, news[j]? = some u → w.cell? (a.add j) = some u) (h1 : ∀ u ∈ news, u.oneCell' = true)
    (h63 : n + m ≤ maxLen) (hbytes : (n + m) * bytes ≤ 140737488355328) (hbase : base ≤ w.heap.size) :
    ∃ v' w', (Builtin.append_ #[t, t] ty #[v, .slice (some a) m c]).run P w = .ok v' w' ∧ w'.ownsRow base e size v' (n + m) (xs ++ news) ∧ w.grownBy w' v.ownBlock ∧ Moved w v v' := by
  obtain ⟨v', w', hr, h2, h3, h4⟩ := run_append_own (P := P) w base t ty e i z size bytes ht hi hz hsize hby hzs hsz v n xs hown a m c news hl hnews h1 h63 hbytes hbase
  refine ⟨v', w', hr, h2, h3, ?_⟩
  subst hsize
  subst hby
  have hsmall : n + m ≤ 9223372036854775807 := by simp only [maxLen] at h63; omega
  rcases hown.2 with ⟨rfl, rfl⟩ | ⟨g, cap, cur, rfl, hbg, hg, hnc, hcm, hcs, htake⟩
  · by_cases hm : m = 0
    · have := h4.2 ⟨rfl, hm⟩
      subst this
      exact .inl rfl
    · have hr2 := run_append_nil (P := P) w t ty e i z ht hi hz a m c news hl hnews (by omega) (by omega) (by have hb := hbytes; simp only [Nat.zero_add] at hb; omega)
      rw [hr2] at hr
      injection hr with hv _
      subst hv
      exact .inr ⟨_, rfl, Nat.le_refl _⟩
  · by_cases hroom : n + m ≤ cap
    · have hfit : n * i.size + news.length ≤ cur.size := by rw [hl, hcs, ← Nat.add_mul]; exact Nat.mul_le_mul_right _ hroom
      have hr2 := run_append_room (P := P) w t ty e i ht hi g n cap cur hg a m c news hl hnews h1 hroom hfit
      rw [hr2] at hr
      injection hr with hv _
      subst hv
      exact .inl rfl
    · have holds : ∀ j u, xs[j]? = some u → w.cell? ((⟨g, 0, none⟩ : Addr).add j) = some u := hown.cells (g := g) rfl
      have hr2 := run_append_grow (P := P) w t ty e i z ht hi hz ⟨g, 0, none⟩ n cap xs hown.1 holds a m c news hl hnews (by omega) (by omega) (growslice_fits (by omega) hbytes)
      rw [hr2] at hr
      injection hr with hv _
      subst hv
      exact .inr ⟨_, rfl, Nat.le_refl _⟩

theorem wpList_append_own2 {ops : Array Oper} {rest : List Oper} {o : Oper} {a : Act} {Q : Exit → Act → World → Prop} (hgd : o.guard = none) (s x : Operand) (t : TypeId)
    (ho : o.op = .call { callee := .builtin .append, args := #[s, x], argTypes := #[t, t] })
    (base : Nat) (e : TypeId) (i : TypeInfo) (z : Value) (size bytes : Nat) (ht : P.underlying t = some (.slice e)) (hi : P.info? e = some i) (hz : i.zero = some z)
    (hsize : i.size = size) (hby : i.bytes = bytes) (hzs : z.cells.size = size) (hsz : 0 < size)
    (v : Value) (n : Nat) (xs : List Value) (hs : a.eval s = v) (hown : w.ownsRow base e size v n xs)
    (ad : Addr) (m c : Nat) (news : List Value) (hx : a.eval x = .slice (some ad) m c) (hl : news.length = m * size) (hnews : ∀ j u, news[j]? = some u → w.cell? (ad.add j) = some u) (h1 : ∀ u ∈ news, u.oneCell' = true)
    (h63 : n + m ≤ maxLen) (hbytes : (n + m) * bytes ≤ 140737488355328) (hbase : base ≤ w.heap.size)
    (h : ∀ v' w', w'.ownsRow base e size v' (n + m) (xs ++ news) → w.grownBy w' v.ownBlock → Moved w v v' → wpList P ops Q rest (a.put o.dst v') w') : wpList P ops Q (o :: rest) a w :=
  wpList_plain hgd fun _ hK => by
    obtain ⟨v', w', hr, h2, h3, h4⟩ := run_append_own2 (P := P) w base t o.type e i z size bytes ht hi hz hsize hby hzs hsz v n xs hown ad m c news hl hnews h1 h63 hbytes hbase
    unfold Oper.wp execOp
    simp only [ho, resolve, invoke, builtin, Sem.run_bind, Sem.run_pure, Result.andThen_ok, List.map_toArray, List.map_cons, List.map_nil, hs, hx, hr]
    exact hK _ _ (h v' w' h2 h3 h4)
end

theorem Moved.refl (w : World) (v : Value) : Moved w v v := .inl rfl
theorem Moved.trans {a b : World} {u v x : Value} (h : Moved a u v) (k : Moved b v x) (hs : a.heap.size ≤ b.heap.size) : Moved a u x := by
  rcases k with k | ⟨g, h1, h2⟩
  · rcases h with h | ⟨g, h1, h2⟩
    · exact .inl (k.trans h)
    · exact .inr ⟨g, k.trans h1, h2⟩
  · exact .inr ⟨g, h1, by omega⟩
/-- Two writes into one row, one behind the other. -/
theorem grown_moved {a b c : World} {u v : Value} (h : a.grownBy b u.ownBlock) (hm : Moved a u v) (k : b.grownBy c v.ownBlock) : a.grownBy c u.ownBlock :=
  ⟨k.os.trans h.os, k.tape.trans h.tape, k.output.trans h.output, Nat.le_trans h.size k.size, fun i hi hn => (k.block i (Nat.lt_of_lt_of_le hi h.size) (fun e => by
    rcases hm with hm | ⟨g, h1, h2⟩
    · exact hn (e.trans hm)
    · rw [h1] at e; injection e with e; omega)).trans (h.block i hi hn)⟩
theorem grown_of_alloc {w w' : World} {o : Obj} {row : Option Nat} (h : (w.alloc o).grownBy w' row) : w.grownBy w' row :=
  ⟨h.os, h.tape, h.output, Nat.le_trans (by simp) h.size, fun i hi hn => (h.block i (by simp; omega) hn).trans (Below.heap_alloc w o i hi)⟩
theorem moved_of_alloc {w : World} {o : Obj} {v v' : Value} (h : Moved (w.alloc o) v v') : Moved w v v' := by
  rcases h with h | ⟨g, h1, h2⟩
  · exact .inl h
  · exact .inr ⟨g, h1, by simp at h2; omega⟩
/-- A row of elements of one type is no block of another type. -/
theorem own_ne {w : World} {base g : Nat} {e t : TypeId} {size n : Nat} {v : Value} {xs : List Value} {cs : Array Value} {f : Nat × Nat} (h : w.ownsRow base e size v n xs) (hg : w.heap[g]? = some (.cells cs t f)) (hne : e ≠ t) : some g ≠ v.ownBlock := by
  rcases h.2 with ⟨rfl, _⟩ | ⟨g', cap, cur, rfl, _, hh, _⟩
  · simp [Value.ownBlock]
  · intro he
    have : g = g' := by simpa [Value.ownBlock] using he
    subst this
    rw [hh] at hg
    injection hg with hg
    injection hg with _ ht
    exact hne ht
theorem own_mono_ {w : World} {base base' : Nat} {e : TypeId} {size n : Nat} {v : Value} {xs : List Value} (h : w.ownsRow base e size v n xs) (hb : base' ≤ base) : w.ownsRow base' e size v n xs := by
  refine ⟨h.1, ?_⟩
  rcases h.2 with h | ⟨g, cap, cur, hv, hg, r⟩
  · exact .inl h
  · exact .inr ⟨g, cap, cur, hv, by omega, r⟩
theorem own_mono {w : World} {base base' : Nat} {e : TypeId} {size n : Nat} {v : Value} {xs : List Value} (h : w.ownsRow base e size v n xs) (hb : base' ≤ base) : w.ownsRow base' e size v n xs := own_mono_ h hb
theorem own_drewN {w : World} {base : Nat} {e : TypeId} {size n : Nat} {v : Value} {xs : List Value} (h : w.ownsRow base e size v n xs) (q : Nat) : (w.drewN q).ownsRow base e size v n xs := h
theorem Cells.drewN {w : World} {b o : Nat} {xs : List Value} (h : Cells w b o xs) (q : Nat) : Cells (w.drewN q) b o xs := h
theorem grown_of_drewN {w w' : World} {q : Nat} {row : Option Nat} (h : (w.drewN q).grownBy w' row) : w.grownBy w' row := ⟨h.os, h.tape, h.output, h.size, h.block⟩
/-- The row's cells, to read. -/
theorem own_row {w : World} {base : Nat} {e : TypeId} {size n : Nat} {A : Option Addr} {n' c : Nat} {xs : List Value} (h : w.ownsRow base e size (.slice A n' c) n xs) : Row w w.heap.size A xs := by
  rcases h.2 with ⟨hv, hn⟩ | ⟨g, cap, cur, hv, _, hh, _, _, _, ht⟩
  · have := h.1
    rw [hn] at this
    exact .inl (List.eq_nil_of_length_eq_zero (by simpa using this))
  · injection hv with hA
    subst hA
    refine .inr ⟨g, 0, rfl, (Array.getElem?_eq_some_iff.1 hh).1, fun j u hu => ?_⟩
    rw [Nat.zero_add]
    refine cell_of_blk hh ?_
    rw [← ht, List.getElem?_take] at hu
    split at hu
    · simpa using hu
    · cases hu
/-- What is owned is a slice of that length. -/
theorem own_slice {w : World} {base : Nat} {e : TypeId} {size n : Nat} {v : Value} {xs : List Value} (h : w.ownsRow base e size v n xs) : ∃ A c, v = .slice A n c := by
  rcases h.2 with ⟨rfl, rfl⟩ | ⟨g, cap, cur, rfl, _⟩
  · exact ⟨_, _, rfl⟩
  · exact ⟨_, _, rfl⟩
end Go.Proofs.YtgdnedhcbjonkaaGreatDoor

/- Rows of records: plain lemmas on memory; no program in sight. -/
namespace Go.Proofs.YtgdnedhcbjonkaaGreatDoor
open Go.RowKit

/-- The cells of records, each of k cells. -/
def recs {α : Type} (f : α → List Value) (l : List α) : List Value := l.flatMap f
theorem recs_nil {α : Type} (f : α → List Value) : recs f [] = [] := rfl
theorem recs_append {α : Type} (f : α → List Value) (a b : List α) : recs f (a ++ b) = recs f a ++ recs f b := by simp [recs]
theorem recs_snoc {α : Type} (f : α → List Value) (a : List α) (x : α) : recs f (a ++ [x]) = recs f a ++ f x := by simp [recs]
section
variable {α : Type} {f : α → List Value} {k : Nat}
theorem recs_length (hf : ∀ x, (f x).length = k) (l : List α) : (recs f l).length = l.length * k := by
  induction l with
  | nil => simp [recs]
  | cons x l ih => simp only [recs, List.flatMap_cons, List.length_append, List.length_cons] at ih ⊢; rw [ih, hf, Nat.succ_mul]; omega
theorem recs_get (hf : ∀ x, (f x).length = k) (l : List α) (i : Nat) (x : α) (h : l[i]? = some x) (j : Nat) (hj : j < k) : (recs f l)[i * k + j]? = (f x)[j]? := by
  induction l generalizing i with
  | nil => simp at h
  | cons y l ih =>
    cases i with
    | zero =>
      simp only [List.getElem?_cons_zero, Option.some.injEq] at h
      subst h
      simp only [recs, List.flatMap_cons]
      rw [List.getElem?_append_left (by rw [hf]; omega)]
      simp
    | succ i =>
      simp only [List.getElem?_cons_succ] at h
      have := ih i h
      simp only [recs, List.flatMap_cons] at this ⊢
      rw [List.getElem?_append_right (by rw [hf, Nat.succ_mul]; omega), ← this, hf]
      congr 1
      rw [Nat.succ_mul]; omega
theorem rec_cell (hf : ∀ x, (f x).length = k) {w : World} {b o : Nat} {l : List α} (h : Cells w b o (recs f l)) (i : Nat) (x : α) (hx : l[i]? = some x) (j : Nat) (u : Value) (hj : (f x)[j]? = some u) : w.cell? ⟨b, o + i * k + j, none⟩ = some u := by
  have hjk : j < k := by have := (List.getElem?_eq_some_iff.1 hj).1; rw [hf] at this; exact this
  have := h (i * k + j) u ((recs_get hf l i x hx j hjk).trans hj)
  rwa [← Nat.add_assoc] at this
theorem Row.posR (hf : ∀ x, (f x).length = k) (hk : 0 < k) {w : World} {B : Nat} {A : Option Addr} {l : List α} (h : Row w B A (recs f l)) (hl : 0 < l.length) : ∃ b o, A = some ⟨b, o, none⟩ ∧ b < B ∧ Cells w b o (recs f l) := by
  rcases h with h | h
  · have := recs_length hf l
    rw [h] at this
    simp only [List.length_nil] at this
    have := Nat.mul_pos hl hk
    omega
  · exact h
theorem recs_one (h1 : ∀ x, ∀ u ∈ f x, u.oneCell' = true) (l : List α) : ∀ u ∈ recs f l, u.oneCell' = true := by
  intro u hu
  simp only [recs, List.mem_flatMap] at hu
  obtain ⟨x, _, hx⟩ := hu
  exact h1 x u hx
theorem recs_drop (hf : ∀ x, (f x).length = k) (l : List α) (i : Nat) : (recs f l).drop (i * k) = recs f (l.drop i) := by
  induction l generalizing i with
  | nil => simp [recs]
  | cons y l ih =>
    cases i with
    | zero => simp
    | succ i =>
      simp only [recs, List.flatMap_cons, List.drop_succ_cons] at ih ⊢
      rw [Nat.succ_mul, Nat.add_comm, ← List.drop_drop, List.drop_left' (hf y), ih]
end
theorem Cells.drop {w : World} {b o : Nat} {xs : List Value} (h : Cells w b o xs) (i : Nat) : Cells w b (o + i) (xs.drop i) := by
  intro j u hu
  rw [List.getElem?_drop] at hu
  have := h (i + j) u hu
  rwa [← Nat.add_assoc] at this
theorem Cells.take {w : World} {b o : Nat} {xs : List Value} (h : Cells w b o xs) (i : Nat) : Cells w b o (xs.take i) := by
  intro j u hu
  rw [List.getElem?_take] at hu
  split at hu
  · exact h j u hu
  · cases hu
/-- A row that is owned, read from an element on. -/
theorem Row.dropR {α : Type} {f : α → List Value} {k : Nat} (hf : ∀ x, (f x).length = k) {w : World} {B b o : Nat} {l : List α} (h : Cells w b o (recs f l)) (hb : b < B) (i : Nat) : Row w B (some ⟨b, o + i * k, none⟩) (recs f (l.drop i)) := by
  have := h.drop (i * k)
  rw [recs_drop hf] at this
  exact .inr ⟨b, _, rfl, hb, this⟩
theorem own_cap {w : World} {base : Nat} {e : TypeId} {size n : Nat} {A : Option Addr} {c : Nat} {xs : List Value} (h : w.ownsRow base e size (.slice A n c) n xs) : n ≤ c := by
  rcases h.2 with ⟨hv, hn⟩ | ⟨g, cap, cur, hv, _, _, hc, _⟩
  · omega
  · injection hv with _ _ hc'
    omega
theorem own_two {w : World} {base : Nat} {e : TypeId} {size n : Nat} {A : Option Addr} {c : Nat} {xs : List Value} (h : w.ownsRow base e size (.slice A n c) n xs) : (A = none ∧ n = 0 ∧ c = 0) ∨ ∃ g, A = some ⟨g, 0, none⟩ ∧ base ≤ g ∧ g < w.heap.size := by
  rcases h.2 with ⟨hv, hn⟩ | ⟨g, cap, cur, hv, hb, hh, hc, _⟩
  · injection hv with h1 h2 h3
    exact .inl ⟨h1, hn, h3⟩
  · injection hv with h1 h2 h3
    exact .inr ⟨g, h1, hb, (Array.getElem?_eq_some_iff.1 hh).1⟩
end Go.Proofs.YtgdnedhcbjonkaaGreatDoor

/- Owned rows kept, worlds grown; equal texts; no program in sight. -/
namespace Go.Proofs.YtgdnedhcbjonkaaGreatDoor
open Go.RowKit

theorem own_belowP {w w' : World} {base : Nat} {e : TypeId} {size n : Nat} {v : Value} {xs : List Value} (h : w.ownsRow base e size v n xs) (hb : Below w.heap.size w w') : w'.ownsRow base e size v n xs := by
  refine h.kept (row := none) ⟨hb.os, hb.tape, hb.output, hb.size, fun i hi _ => hb.block i hi⟩ ?_
  cases hv : v.ownBlock with
  | none => exact .inl rfl
  | some g => exact .inr (by simp)
theorem toList_same (s t : ByteArray) : (s.toList = t.toList) = (s = t) := by
  apply propext
  constructor
  · intro h
    rw [Lib.toList_data, Lib.toList_data] at h
    cases s; cases t
    simpa using h
  · rintro rfl; rfl
theorem own_neG {w w' : World} {base : Nat} {e : TypeId} {size n : Nat} {v : Value} {xs : List Value} {g : Nat} (h : w.ownsRow base e size v n xs) (hg : w.grownBy w' (some g)) (hne : ∀ q, v.ownBlock = some q → q ≠ g) : w'.ownsRow base e size v n xs := by
  refine h.kept (row := some g) hg ?_
  cases hv : v.ownBlock with
  | none => exact .inl rfl
  | some q => exact .inr (by have := hne q hv; simpa using this)
theorem own_apart {w : World} {base base' : Nat} {e e' : TypeId} {size size' n n' : Nat} {v v' : Value} {xs xs' : List Value} (h : w.ownsRow base e size v n xs) (h' : w.ownsRow base' e' size' v' n' xs') (hne : e' ≠ e) : v.ownBlock = none ∨ v.ownBlock ≠ v'.ownBlock := by
  rcases h.2 with ⟨rfl, _⟩ | ⟨g, cap, cur, rfl, _, hh, _⟩
  · exact .inl rfl
  · exact .inr (own_ne h' hh hne)
theorem grown_more {w w1 w2 : World} {r row : Option Nat} (h : w.grownBy w1 r) (h2 : w1.grownBy w2 row) (hr : ∀ g, row = some g → w.heap.size ≤ g) : w.grownBy w2 r :=
  ⟨h2.os.trans h.os, h2.tape.trans h.tape, h2.output.trans h.output, Nat.le_trans h.size h2.size, fun k hk hne => (h2.block k (by have := h.size; omega) (by intro e; have := hr _ e.symm; omega)).trans (h.block k hk hne)⟩
theorem grown_belowP {w w' : World} {r : Option Nat} (hb : Below w.heap.size w w') : w.grownBy w' r := ⟨hb.os, hb.tape, hb.output, hb.size, fun i hi _ => hb.block i hi⟩
end Go.Proofs.YtgdnedhcbjonkaaGreatDoor

/- device.typesFault of right types by its contract. -/
namespace Go.Proofs.YtgdnedhcbjonkaaGreatDoor
open Go.RowKit

structure Ty where
  s : ByteArray
  k : Int
  lo : Int
  hi : Int
def tyC (x : Ty) : List Value := [.string x.s, .int .i64 x.k, .int .i64 x.lo, .int .i64 x.hi]
theorem tyC_len (x : Ty) : (tyC x).length = 4 := rfl
structure TyOk (x : Ty) : Prop where
  name : ∀ V : World, Calls Tryz.prog 176 #[.string x.s] V fun e w' => e = .returned (.bool true) ∧ Below V.heap.size V w'
  k1 : 1 ≤ x.k
  k3 : x.k ≤ 3
  num : x.k = 2 → -1000000000 ≤ x.lo ∧ x.lo ≤ x.hi ∧ x.hi ≤ 1000000000
  oth : x.k ≠ 2 → x.lo = 0 ∧ x.hi = 0
structure TysOk (l : List Ty) : Prop where
  each : ∀ x ∈ l, TyOk x
  order : ∀ (i : Nat) (x y : Ty), l[i]? = some x → l[i + 1]? = some y → (Op.bytesLess y.s.toList x.s.toList || y.s.toList == x.s.toList) = false
theorem ty_cells {w : World} {b o : Nat} {l : List Ty} (h : Cells w b o (recs tyC l)) (i : Nat) (x : Ty) (hx : l[i]? = some x) :
    w.cell? ⟨b, o + i * 4, none⟩ = some (.string x.s) ∧ w.cell? ⟨b, o + i * 4 + 1, none⟩ = some (.int .i64 x.k) ∧ w.cell? ⟨b, o + i * 4 + 2, none⟩ = some (.int .i64 x.lo) ∧ w.cell? ⟨b, o + i * 4 + 3, none⟩ = some (.int .i64 x.hi) :=
  ⟨rec_cell tyC_len h i x hx 0 _ rfl, rec_cell tyC_len h i x hx 1 _ rfl, rec_cell tyC_len h i x hx 2 _ rfl, rec_cell tyC_len h i x hx 3 _ rfl⟩
set_option maxRecDepth 100000 in
set_option maxHeartbeats 4000000 in
theorem types_any (l : List Ty) (n c : Nat) (A : Option Addr) (w : World) (hl : TysOk l) (hn : l.length = n) (hn5 : n ≤ 50) (hr : Row w w.heap.size A (recs tyC l)) :
    Calls Tryz.prog 119 #[.slice A n c] w fun e w' => e = .returned (.int .i64 0) ∧ Below w.heap.size w w' := by
  have HR := Lib.hid hr
  have HL := Lib.hid hl
  have HN := Lib.hid hn
  clear hr hl hn
  go_enter Tryz.func119, Tryz.ntmps119
  go_wp2_with (fail)
  go_loopw [8] (fun s wr => ∃ (i : Nat), i ≤ n ∧ s = .int .i64 (i : Int) ∧ Below w.heap.size w wr) (fun s _ => n - (intOf s).toNat)
  case atStart => exact ⟨0, by omega, rfl, Below.refl _ _⟩
  case round =>
    obtain ⟨i, hin, rfl, hbr⟩ := hrel
    have hbs := hbr.size
    have HB := Lib.hid hbr
    clear hbr
    by_cases hlt : i < n
    · have hltI : (i : Int) < n := by omega
      obtain ⟨x, hx⟩ : ∃ x, l[i]? = some x := ⟨_, List.getElem?_eq_getElem (by have := HN.out; omega)⟩
      obtain ⟨b, o, rfl, hb, hC⟩ := (HR.out.below HB.out).posR tyC_len (by omega) (by have := HN.out; omega)
      obtain ⟨c0, c1, c2, c3⟩ := ty_cells hC i x hx
      have HX := Lib.hid hx
      have HO := HL.out.each x (List.mem_of_getElem? hx)
      have HP := Lib.hid HO.name
      have hk1 := HO.k1
      have hk3 := HO.k3
      have HNU := Lib.hid HO.num
      have HOT := Lib.hid HO.oth
      obtain ⟨s, k, lo, hi⟩ := x
      simp only at c0 c1 c2 c3 HP hk1 hk3 HNU HOT
      have HBn := Lib.hid (HB.out.alloc hbs (.cells #[.string s, .int .i64 k, .int .i64 lo, .int .i64 hi] 258))
      have HGn := Lib.hid (heap_new wr (.cells #[.string s, .int .i64 k, .int .i64 lo, .int .i64 hi] 258))
      have hsn : wr.heap.size < (wr.alloc (.cells #[.string s, .int .i64 k, .int .i64 lo, .int .i64 hi] 258)).heap.size := by simp
      clear hC hx HO
      go_upto_region 5 with (fail)
      generalize wr.alloc (.cells #[.string s, .int .i64 k, .int .i64 lo, .int .i64 hi] 258) = w1 at HBn HGn hsn ⊢
      generalize wr.heap.size = g at HGn hsn hbs ⊢
      clear HB c0 c1 c2 c3
      have d0 := cell_of_blk (j := 0) HGn.out rfl
      go_wp2_with (fail)
      refine (HP.out w1).mono ?_
      rintro e w2 ⟨rfl, hb2⟩
      have HB2 := Lib.hid (HBn.out.trans (hb2.mono (by omega)))
      have hg2 := (hb2.block g hsn).trans HGn.out
      have d0 := cell_of_blk (j := 0) hg2 rfl
      have d1 := cell_of_blk (j := 1) hg2 rfl
      have d2 := cell_of_blk (j := 2) hg2 rfl
      have d3 := cell_of_blk (j := 3) hg2 rfl
      clear hb2 hg2
      go_upto_region 7 with (fail)
      by_cases hi0 : i = 0
      · subst hi0
        have hd : decide ((0 : Int) < 0) = false := by decide
        go_quiet (fail)
        by_cases hk2 : k = 2
        · obtain ⟨n1, n2, n3⟩ := HNU.out hk2
          subst hk2
          have hg9 : ¬ (1000000000 : Int) < hi := by omega
          go_wp2_with (go_at_call 74; refine (out_no _ _ _ _ (by omega) (by omega)).mono ?_; rintro e w' ⟨rfl, rfl⟩)
          go_roundw
          case rel => exact ⟨1, by omega, by simp, below_drewN HB2.out _⟩
          case measure => simp [intOf]; omega
        · obtain ⟨n1, n2⟩ := HOT.out hk2
          subst n1
          subst n2
          have hkb : (k == 2) = false := by simpa using hk2
          have hkb2 : decide (k = 2) = false := by simpa using hk2
          go_wp2_with (go_at_call 74; refine (out_no _ _ _ _ (by omega) (by omega)).mono ?_; rintro e w' ⟨rfl, rfl⟩)
          go_roundw
          case rel => exact ⟨1, by omega, by simp, below_drewN HB2.out _⟩
          case measure => simp [intOf]; omega
      · have hi1I : (0 : Int) < i := by omega
        have hd : decide ((0 : Int) < i) = true := by simpa using hi1I
        have hd2 : decide (0 < i) = true := by simp; omega
        have hd3 : 0 < i := by omega
        obtain ⟨y, hy⟩ : ∃ y, l[i - 1]? = some y := ⟨_, List.getElem?_eq_getElem (by have := HN.out; omega)⟩
        obtain ⟨b', o', e', hb', hC⟩ := (HR.out.below HB2.out).posR tyC_len (by omega) (by have := HN.out; omega)
        cases e'
        obtain ⟨p0, _⟩ := ty_cells hC (i - 1) y hy
        have hle := HL.out.order (i - 1) y _ hy (by rw [show i - 1 + 1 = i by omega]; exact HX.out)
        simp only at hle
        have hwrap : (i : Int) - 1 = ((i - 1 : Nat) : Int) := by omega
        clear hC hy
        go_quiet (fail)
        skip
        clear hle
        by_cases hk2 : k = 2
        · obtain ⟨n1, n2, n3⟩ := HNU.out hk2
          subst hk2
          have hg9 : ¬ (1000000000 : Int) < hi := by omega
          go_wp2_with (go_at_call 74; refine (out_no _ _ _ _ (by omega) (by omega)).mono ?_; rintro e w' ⟨rfl, rfl⟩)
          go_roundw
          case rel => exact ⟨i + 1, by omega, by simp, below_drewN HB2.out _⟩
          case measure => simp [intOf]; omega
        · obtain ⟨n1, n2⟩ := HOT.out hk2
          subst n1
          subst n2
          have hkb : (k == 2) = false := by simpa using hk2
          have hkb2 : decide (k = 2) = false := by simpa using hk2
          go_wp2_with (go_at_call 74; refine (out_no _ _ _ _ (by omega) (by omega)).mono ?_; rintro e w' ⟨rfl, rfl⟩)
          go_roundw
          case rel => exact ⟨i + 1, by omega, by simp, below_drewN HB2.out _⟩
          case measure => simp [intOf]; omega
    · have hltI : ¬ (i : Int) < n := by omega
      go_wp2_with (fail)
      go_ret
      exact ⟨rfl, HB.out⟩
end Go.Proofs.YtgdnedhcbjonkaaGreatDoor

/- slices.IndexFunc and ContainsFunc of models over any closure; device.model, by their contracts. -/
namespace Go.Proofs.YtgdnedhcbjonkaaGreatDoor
open Go.RowKit

structure Md where
  k : ByteArray
  p : ByteArray
  A : Option Addr
  n : Nat
  c : Nat
def mdC (x : Md) : List Value := [.string x.k, .string x.p, .slice x.A x.n x.c]
def mdV (x : Md) : Value := .agg #[.string x.k, .string x.p, .slice x.A x.n x.c]
theorem mdC_len (x : Md) : (mdC x).length = 3 := rfl
theorem md_cells {w : World} {b o : Nat} {l : List Md} (h : Cells w b o (recs mdC l)) (i : Nat) (x : Md) (hx : l[i]? = some x) :
    w.cell? ⟨b, o + i * 3, none⟩ = some (.string x.k) ∧ w.cell? ⟨b, o + i * 3 + 1, none⟩ = some (.string x.p) ∧ w.cell? ⟨b, o + i * 3 + 2, none⟩ = some (.slice x.A x.n x.c) :=
  ⟨rec_cell mdC_len h i x hx 0 _ rfl, rec_cell mdC_len h i x hx 1 _ rfl, rec_cell mdC_len h i x hx 2 _ rfl⟩
/-- Where the first model stands of which q is true; -1 if there is none. -/
def fstM (q : Md → Bool) : List Md → Int
  | [] => -1
  | x :: l => if q x then 0 else if fstM q l = -1 then -1 else fstM q l + 1
theorem fstM_no {q : Md → Bool} : ∀ {l : List Md}, (∀ x ∈ l, q x = false) → fstM q l = -1
  | [], _ => rfl
  | x :: l, h => by
    rw [fstM, if_neg (by rw [h x (by simp)]; decide), fstM_no (fun y hy => h y (List.mem_cons_of_mem _ hy))]
    rfl
theorem fstM_ge (q : Md → Bool) : ∀ (l : List Md), -1 ≤ fstM q l
  | [] => Int.le_refl _
  | x :: l => by
    have := fstM_ge q l
    rw [fstM]; split
    · omega
    · split <;> omega
theorem fstM_at {q : Md → Bool} : ∀ {l : List Md} {k : Nat} {x : Md}, l[k]? = some x → q x = true → (∀ j y, j < k → l[j]? = some y → q y = false) → fstM q l = (k : Int)
  | [], _, _, h, _, _ => by simp at h
  | y :: l, 0, x, h, hq, _ => by
    have e : y = x := by simpa using h
    rw [fstM, e, if_pos hq]; rfl
  | y :: l, k + 1, x, h, hq, hb => by
    have ih := fstM_at (l := l) (k := k) (x := x) (by simpa using h) hq (fun j z hj hz => hb (j + 1) z (by omega) (by simpa using hz))
    have h0 := hb 0 y (by omega) rfl
    rw [fstM, if_neg (by rw [h0]; decide), ih, if_neg (by omega)]
    omega
set_option maxRecDepth 100000 in
set_option maxHeartbeats 2000000 in
theorem indexM_any (F : Nat) (cap : Value) (l : List Md) (q : Md → Bool) (n c : Nat) (A : Option Addr) (w : World) (hn : l.length = n) (hn5 : n ≤ 5000) (hr : Row w w.heap.size A (recs mdC l))
    (hrun : ∀ (args : Array Value) (V : World), (callFunc F args).run Tryz.prog V = .ok (.enter F args) V)
    (hf : ∀ (V : World) (x : Md), Below w.heap.size w V → Calls Tryz.prog F #[mdV x, cap] V fun e w' => e = .returned (.bool (q x)) ∧ Below V.heap.size V w') :
    Calls Tryz.prog 120 #[.slice A n c, .func (.func F) #[] #[cap]] w fun e w' => e = .returned (.int .i64 (fstM q l)) ∧ Below w.heap.size w w' := by
  have HR := Lib.hid hr
  have HF := Lib.hid hf
  have HN := Lib.hid hn
  clear hr hf hn
  go_enter Tryz.func120, Tryz.ntmps120
  go_wp2_with (fail)
  go_loopw [8] (fun i wr => ∃ k : Nat, k ≤ n ∧ i = .int .i64 k ∧ (∀ (j : Nat) (y : Md), j < k → l[j]? = some y → q y = false) ∧ Below w.heap.size w wr) (fun i _ => n - (intOf i).toNat)
  case atStart => exact ⟨0, Nat.zero_le _, rfl, fun j y hj => by omega, Below.refl _ _⟩
  case round =>
    obtain ⟨k, hk, rfl, hno, hbl⟩ := hrel
    have hsz := hbl.size
    have HBL := Lib.hid hbl
    have HNO := Lib.hid hno
    by_cases hlt : k < n
    · obtain ⟨x, hx⟩ : ∃ x, l[k]? = some x := ⟨_, List.getElem?_eq_getElem (by have := HN.out; omega)⟩
      obtain ⟨b, o, rfl, hbw, hC⟩ := (HR.out.below hbl).posR mdC_len (by omega) (by have := HN.out; omega)
      obtain ⟨c0, c1, c2⟩ := md_cells hC k x hx
      have HX := Lib.hid hx
      have HCALL := Lib.hid (HF.out wr x hbl)
      obtain ⟨t, et⟩ : ∃ t, t = q x := ⟨_, rfl⟩
      rw [← et] at HCALL
      have HT := Lib.hid et
      unfold mdV at HCALL
      have hlt' : (k : Int) < (n : Int) := by omega
      clear hbl hC hx hno et
      go_wp2_with (fail)
      refine HCALL.out.mono ?_
      rintro e w' ⟨rfl, hbw'⟩
      have HB3 := Lib.hid (show Below w.heap.size w w' from (HBL.out).trans (hbw'.mono hsz))
      clear hbw'
      cases t with
      | true =>
        have HE := Lib.hid (fstM_at HX.out HT.out.symm HNO.out)
        go_wp2_with (fail)
        go_ret
        exact ⟨by rw [HE.out]; rfl, HB3.out⟩
      | false =>
        go_wp2_with (fail)
        go_roundw
        case rel =>
          refine ⟨k + 1, by omega, by go_num, ?_, HB3.out⟩
          intro j y hj hy
          rcases Nat.lt_or_ge j k with h | h
          · exact HNO.out j y h hy
          · obtain rfl : j = k := by omega
            rw [HX.out] at hy
            injection hy with hy
            rw [← hy]
            exact HT.out.symm
        case measure => simp [intOf]; omega
    · have hlt' : ¬ (k : Int) < (n : Int) := by omega
      clear hbl hno
      go_wp2_with (fail)
      go_ret
      have hE : fstM q l = -1 := fstM_no (fun y hy => by
        obtain ⟨j, hj⟩ := List.mem_iff_getElem?.1 hy
        have := (List.getElem?_eq_some_iff.1 hj).1
        exact HNO.out j y (by have := HN.out; omega) hj)
      exact ⟨by rw [hE]; rfl, HBL.out⟩
/-- No model is such. -/
theorem containsM_no (F : Nat) (cap : Value) (l : List Md) (q : Md → Bool) (n c : Nat) (A : Option Addr) (w : World) (hn : l.length = n) (hn5 : n ≤ 5000) (hr : Row w w.heap.size A (recs mdC l)) (hq : ∀ x ∈ l, q x = false)
    (hrun : ∀ (args : Array Value) (V : World), (callFunc F args).run Tryz.prog V = .ok (.enter F args) V)
    (hf : ∀ (V : World) (x : Md), Below w.heap.size w V → Calls Tryz.prog F #[mdV x, cap] V fun e w' => e = .returned (.bool (q x)) ∧ Below V.heap.size V w') :
    Calls Tryz.prog 117 #[.slice A n c, .func (.func F) #[] #[cap]] w fun e w' => e = .returned (.bool false) ∧ Below w.heap.size w w' := by
  have H := Lib.hid (indexM_any F cap l q n c A w hn hn5 hr hrun hf)
  rw [fstM_no hq] at H
  clear hr hf hn hrun hq
  go_enter Tryz.func117, Tryz.ntmps117
  go_wp2_with (fail)
  refine H.out.mono ?_
  rintro e w1 ⟨rfl, hb⟩
  have HB := Lib.hid hb
  clear hb
  go_wp2_with (fail)
  go_ret
  exact ⟨rfl, HB.out⟩
theorem bytes_beq (s t : ByteArray) : (s.toList == t.toList) = decide (s = t) := by
  rw [Bool.eq_iff_iff]
  simp only [beq_iff_eq, decide_eq_true_eq]
  exact iff_of_eq (toList_same s t)
theorem call_enterM {P : Program} {f : FuncId} {fn : Func} (h1 : P.funcs[f]? = some fn) (h2 : (fn.name == "runtime.NumGoroutine") = false) (h3 : fn.body.isSome = true) (args : Array Value) (w : World) : (callFunc f args).run P w = .ok (.enter f args) w := by
  have h4 : fn.name ≠ "runtime.NumGoroutine" := by simpa using h2
  obtain ⟨k, h5⟩ := Option.isSome_iff_exists.1 h3
  simp [callFunc, h1, h4, h5]
/-- The closure of CheckModels: the same prefix? -/
theorem check1_any (x : Md) (s : ByteArray) (g : Nat) (w : World) (h : w.cell? ⟨g, 1, none⟩ = some (.string s)) :
    Calls Tryz.prog 118 #[mdV x, .pointer (some ⟨g, 0, none⟩)] w fun e w' => e = .returned (.bool (x.p.toList == s.toList)) ∧ Below w.heap.size w w' := by
  have hg := World.block_lt_of_cell? w _ h
  simp only at hg
  unfold mdV
  go_enter Tryz.func118, Tryz.ntmps118
  go_wp2_with (fail)
  go_ret
  exact ⟨rfl, (Below.refl _ _).alloc (Nat.le_refl _) _⟩
theorem model1_any (x : Md) (s : ByteArray) (g : Nat) (w : World) (h : w.cell? ⟨g, 0, none⟩ = some (.string s)) :
    Calls Tryz.prog 121 #[mdV x, .pointer (some ⟨g, 0, none⟩)] w fun e w' => e = .returned (.bool (x.k.toList == s.toList)) ∧ Below w.heap.size w w' := by
  have hg := World.block_lt_of_cell? w _ h
  simp only at hg
  unfold mdV
  go_enter Tryz.func121, Tryz.ntmps121
  go_wp2_with (fail)
  go_ret
  exact ⟨rfl, (Below.refl _ _).alloc (Nat.le_refl _) _⟩
theorem rowWide {w : World} {B B' : Nat} {A : Option Addr} {xs : List Value} (h : Row w B A xs) (hB : B ≤ B') : Row w B' A xs := by
  rcases h with h | ⟨b, o, e, hb, hc⟩
  · exact .inl h
  · exact .inr ⟨b, o, e, by omega, hc⟩
theorem model_any (l : List Md) (s : ByteArray) (n c : Nat) (A : Option Addr) (w : World) (hn : l.length = n) (hn5 : n ≤ 5000) (hr : Row w w.heap.size A (recs mdC l)) :
    Calls Tryz.prog 73 #[.slice A n c, .string s] w fun e w' => e = .returned (.int .i64 (fstM (fun x => x.k.toList == s.toList) l)) ∧ Below w.heap.size w w' := by
  have hb1 : Below w.heap.size w (w.alloc (.cells #[.string s] 9)) := (Below.refl _ _).alloc (Nat.le_refl _) _
  have hc1 : (w.alloc (.cells #[.string s] 9)).cell? ⟨w.heap.size, 0, none⟩ = some (.string s) := cell_of_blk (heap_new w _) rfl
  have H := Lib.hid (indexM_any 121 (.pointer (some ⟨w.heap.size, 0, none⟩)) l (fun x => x.k.toList == s.toList) n c A (w.alloc (.cells #[.string s] 9)) hn hn5 (rowWide (hr.below hb1) (by simp)) (fun args V => call_enterM Tryz.func121 (by kernel_rfl) (by kernel_rfl) args V)
    (fun V x hV => model1_any x s w.heap.size V ((hV.cell (p := ⟨w.heap.size, 0, none⟩) (by simp)).trans hc1)))
  have HB1 := Lib.hid hb1
  clear hr hn hb1 hc1
  go_enter Tryz.func73, Tryz.ntmps73
  go_wp2_with (fail)
  refine H.out.mono ?_
  rintro e w1 ⟨rfl, hb⟩
  have HB := Lib.hid (HB1.out.trans (hb.mono (by simp)))
  clear hb
  go_wp2_with (fail)
  go_ret
  exact ⟨rfl, HB.out⟩
end Go.Proofs.YtgdnedhcbjonkaaGreatDoor

/- The shelf's Lays.n137 at this program. -/
namespace Go.Proofs.YtgdnedhcbjonkaaGreatDoor
open Go.RowKit Go.Shelf

def lay137_ren : Go.Shelf.Ren := ⟨fun | 137 => 69 | 217 => 114 | 266 => 175 | n => n, fun | 9 => 9 | 5 => 5 | 3 => 3 | n => n, fun  | n => n⟩
theorem lay137 : Lays.n137 Tryz.prog lay137_ren := {
  mixed := by kernel_rfl,
  f137 := Tryz.func69.trans (congrArg some (by kernel_rfl)),
  f217 := Tryz.func114.trans (congrArg some (by kernel_rfl)),
  f266 := Tryz.func175.trans (congrArg some (by kernel_rfl)),
  t3 := Tryz.underlying3,
  a3 := Tryz.isAgg3,
  z3 := Tryz.sizeOf3,
  v3 := Tryz.zeroValue3,
  t5 := Tryz.underlying5,
  a5 := Tryz.isAgg5,
  z5 := Tryz.sizeOf5,
  v5 := Tryz.zeroValue5,
  t9 := Tryz.underlying9,
  a9 := Tryz.isAgg9,
  z9 := Tryz.sizeOf9,
  v9 := Tryz.zeroValue9 }
end Go.Proofs.YtgdnedhcbjonkaaGreatDoor

/- Numerals: what Itoa writes is read by Atoi; zeros ahead do no harm. Plain laws; no program in sight. -/
namespace Go.Proofs.YtgdnedhcbjonkaaGreatDoor

theorem decFrom_app (l m : List UInt8) : ∀ (acc : Nat), Lib.decFrom acc (l ++ m) = (Lib.decFrom acc l).bind (fun a => Lib.decFrom a m) := by
  induction l with
  | nil => intro acc; simp [Lib.decFrom]
  | cons b l ih =>
    intro acc
    rw [List.cons_append, Lib.decFrom, Lib.decFrom]
    cases Lib.digitVal b with
    | none => rfl
    | some d => exact ih _
theorem digitVal_of (d : Nat) (h : d < 10) : Lib.digitVal (UInt8.ofNat (48 + d)) = some d := by
  have : d = 0 ∨ d = 1 ∨ d = 2 ∨ d = 3 ∨ d = 4 ∨ d = 5 ∨ d = 6 ∨ d = 7 ∨ d = 8 ∨ d = 9 := by omega
  rcases this with h | h | h | h | h | h | h | h | h | h <;> subst h <;> rfl
/-- The digits of n spell n. -/
theorem decFrom_dec (n : Nat) : Lib.decFrom 0 (Lib.decDigits n) = some n := by
  induction n using Nat.strongRecOn with
  | _ n ih =>
    by_cases h : n < 10
    · rw [Lib.decDigits, dif_pos h, Lib.decFrom, digitVal_of n h]
      simp [Lib.decFrom]
    · rw [Lib.decDigits, dif_neg h, decFrom_app, ih (n / 10) (by omega)]
      simp only [Option.bind_some]
      rw [Lib.decFrom, digitVal_of (n % 10) (by omega)]
      simp only [Lib.decFrom]
      congr 1
      omega
theorem decFrom_zeros (k : Nat) (l : List UInt8) : Lib.decFrom 0 (List.replicate k 48 ++ l) = Lib.decFrom 0 l := by
  induction k with
  | zero => rfl
  | succ k ih =>
    rw [List.replicate_succ, List.cons_append, Lib.decFrom]
    have : Lib.digitVal 48 = some 0 := rfl
    rw [this]
    exact ih
/-- Every digit of a numeral is one. -/
theorem dec_digit (n : Nat) : ∀ b ∈ Lib.decDigits n, 48 ≤ b.toNat ∧ b.toNat ≤ 57 := by
  induction n using Nat.strongRecOn with
  | _ n ih =>
    intro b hb
    have hd : ∀ d, d < 10 → 48 ≤ (UInt8.ofNat (48 + d)).toNat ∧ (UInt8.ofNat (48 + d)).toNat ≤ 57 := by
      intro d hd
      have : (UInt8.ofNat (48 + d)).toNat = 48 + d := by simp; omega
      omega
    by_cases h : n < 10
    · rw [Lib.decDigits, dif_pos h, List.mem_singleton] at hb
      subst hb
      exact hd n h
    · rw [Lib.decDigits, dif_neg h, List.mem_append, List.mem_singleton] at hb
      rcases hb with hb | hb
      · exact ih (n / 10) (by omega) b hb
      · subst hb; exact hd _ (by omega)
theorem dec_pos (n : Nat) : 1 ≤ (Lib.decDigits n).length := by
  rw [Lib.decDigits]; split <;> simp
/-- A numeral begins with 0 just if it is that of 0. -/
theorem dec_head (n : Nat) (h : 0 < n) : ∀ b r, Lib.decDigits n = b :: r → b.toNat ≠ 48 := by
  induction n using Nat.strongRecOn with
  | _ n ih =>
    intro b r hb
    by_cases h1 : n < 10
    · rw [Lib.decDigits, dif_pos h1] at hb
      injection hb with hb _
      have : (UInt8.ofNat (48 + n)).toNat = 48 + n := by simp; omega
      rw [← hb, this]
      omega
    · rw [Lib.decDigits, dif_neg h1] at hb
      cases hr : Lib.decDigits (n / 10) with
      | nil => have := dec_pos (n / 10); rw [hr] at this; simp at this
      | cons c s =>
        rw [hr, List.cons_append] at hb
        injection hb with hb _
        exact hb ▸ ih (n / 10) (by omega) (by omega) c s hr
theorem dec_len (n k : Nat) (hk : 1 ≤ k) (h : n < 10 ^ k) : (Lib.decDigits n).length ≤ k := by
  induction k generalizing n with
  | zero => omega
  | succ k ih =>
    by_cases h1 : n < 10
    · rw [Lib.decDigits, dif_pos h1]; simp
    · rw [Lib.decDigits, dif_neg h1, List.length_append]
      have h2 : n / 10 < 10 ^ k := by rw [Nat.pow_succ] at h; omega
      have hk1 : 1 ≤ k := by
        rcases Nat.eq_zero_or_pos k with e | e
        · subst e; simp at h2; omega
        · exact e
      have := ih (n / 10) hk1 h2
      simp only [List.length_cons, List.length_nil]
      omega
theorem atoi_of_digits {l : List UInt8} {n : Nat} (h0 : l ≠ []) (hd : ∀ b ∈ l, 48 ≤ b.toNat ∧ b.toNat ≤ 57) (h : Lib.decFrom 0 l = some n) : Lib.atoi l = some (n : Int) := by
  cases l with
  | nil => exact absurd rfl h0
  | cons b r =>
    have hb := hd b (by simp)
    have e1 : (b == 45) = false := by simp only [beq_eq_false_iff_ne]; intro e; rw [e] at hb; have : (45 : UInt8).toNat = 45 := rfl; omega
    have e2 : (b == 43) = false := by simp only [beq_eq_false_iff_ne]; intro e; rw [e] at hb; have : (43 : UInt8).toNat = 43 := rfl; omega
    rw [Lib.atoi, e1, e2]
    simp [Lib.decNat, h]
theorem atoi_itoa (n : Int) : Lib.atoi (Lib.itoa n) = some n := by
  unfold Lib.itoa
  split
  · rename_i h
    rw [Lib.atoi]
    have hne : (Lib.decDigits n.natAbs).isEmpty = false := by
      cases hl : Lib.decDigits n.natAbs with
      | nil => have := dec_pos n.natAbs; rw [hl] at this; simp at this
      | cons c s => rfl
    have hd : Lib.decNat (Lib.decDigits n.natAbs) = some n.natAbs := by unfold Lib.decNat; rw [hne, decFrom_dec]; rfl
    rw [if_pos (by rfl), hd]
    simp only [Option.map_some]
    congr 1
    omega
  · rename_i h
    rw [atoi_of_digits (by intro e; have := dec_pos n.toNat; rw [e] at this; simp at this) (dec_digit _) (decFrom_dec _)]
    congr 1
    omega
end Go.Proofs.YtgdnedhcbjonkaaGreatDoor

/- Texts cut at a byte: the plain laws; no program in sight. -/
namespace Go.Proofs.YtgdnedhcbjonkaaGreatDoor

theorem index_in (c : UInt8) : ∀ (p r : List UInt8), c ∉ p → Lib.index (p ++ c :: r) [c] = (p.length : Int)
  | [], r, _ => by rw [List.nil_append, Lib.index_one]; simp [Lib.indexByte]
  | b :: p, r, h => by
    have ih := index_in c p r (fun hm => h (List.mem_cons_of_mem _ hm))
    have hb : (b == c) = false := by simp only [beq_eq_false_iff_ne]; intro e; exact h (e ▸ List.mem_cons_self)
    rw [Lib.index_one] at ih ⊢
    rw [List.cons_append, Lib.indexByte, hb, ih]
    have : ((p.length : Int) == -1) = false := by simp only [beq_eq_false_iff_ne]; omega
    rw [this]
    simp
theorem index_out (c : UInt8) : ∀ (p : List UInt8), c ∉ p → Lib.index p [c] = -1
  | [], _ => by rw [Lib.index_one]; rfl
  | b :: p, h => by
    have ih := index_out c p (fun hm => h (List.mem_cons_of_mem _ hm))
    have hb : (b == c) = false := by simp only [beq_eq_false_iff_ne]; intro e; exact h (e ▸ List.mem_cons_self)
    rw [Lib.index_one] at ih ⊢
    rw [Lib.indexByte, hb, ih]
    rfl
theorem splitK_cut (c : UInt8) (k : Nat) (p r : List UInt8) (h : c ∉ p) : Lib.splitK [c] 0 (k + 1) (p ++ c :: r) = p :: Lib.splitK [c] 0 k r := by
  have hi := index_in c p r h
  have hm : ¬ (Lib.index (p ++ c :: r) [c] == -1) = true := fun e => by have := beq_iff_eq.1 e; omega
  rw [Lib.splitK, if_neg hm, hi]
  simp
theorem splitK_end (c : UInt8) (k : Nat) (p : List UInt8) (h : c ∉ p) : Lib.splitK [c] 0 k p = [p] := by
  cases k with
  | zero => rfl
  | succ k => rw [Lib.splitK, if_pos (by rw [index_out c p h]; rfl)]
/-- The words of a line, with c between. -/
def joinC (c : UInt8) : List (List UInt8) → List UInt8
  | [] => []
  | [p] => p
  | p :: q :: r => p ++ c :: joinC c (q :: r)
theorem splitK_join (c : UInt8) : ∀ (l : List (List UInt8)) (k : Nat), l ≠ [] → (∀ p ∈ l, c ∉ p) → l.length ≤ k + 1 → Lib.splitK [c] 0 k (joinC c l) = l
  | [], _, h, _, _ => absurd rfl h
  | [p], k, _, h, _ => splitK_end c k p (h p (by simp))
  | p :: q :: r, k, _, h, hk => by
    cases k with
    | zero => simp at hk
    | succ k =>
      rw [joinC, splitK_cut c k p _ (h p (by simp)), splitK_join c (q :: r) k (by simp) (fun x hx => h x (List.mem_cons_of_mem _ hx)) (by simp at hk ⊢; omega)]
theorem bytes_ext {s t : ByteArray} (h : s.data.toList = t.data.toList) : s = t := by
  cases s; cases t
  simp only at h
  congr 1
  exact Array.toList_inj.1 h
theorem map_bytes {l : List ByteArray} {m : List (List UInt8)} (h : l.map (·.data.toList) = m) : l = m.map (fun p => ⟨p.toArray⟩) := by
  subst h
  rw [List.map_map]
  induction l with
  | nil => rfl
  | cons x l ih =>
    rw [List.map_cons, ← ih]
    congr 1
theorem splitB_join (c : UInt8) (l : List (List UInt8)) (k : Nat) (h0 : l ≠ []) (h : ∀ p ∈ l, c ∉ p) (hk : l.length ≤ k + 1) : Lib.splitB ⟨#[c]⟩ 0 k ⟨(joinC c l).toArray⟩ = l.map (fun p => ⟨p.toArray⟩) := by
  refine map_bytes ?_
  rw [Lib.splitB_data]
  exact splitK_join c l k h0 h hk
theorem count_join (c : UInt8) : ∀ (l : List (List UInt8)), l ≠ [] → (∀ p ∈ l, c ∉ p) → (joinC c l).count c + 1 = l.length
  | [], h, _ => absurd rfl h
  | [p], _, h => by
    rw [joinC, List.count_eq_zero.2 (h p (by simp))]
    rfl
  | p :: q :: r, _, h => by
    have ih := count_join c (q :: r) (by simp) (fun x hx => h x (List.mem_cons_of_mem _ hx))
    rw [joinC, List.count_append, List.count_eq_zero.2 (h p (by simp)), List.count_cons_self]
    simp only [List.length_cons] at ih ⊢
    omega
/-- A text of lines: each ended by c. -/
def linesC (c : UInt8) (l : List (List UInt8)) : List UInt8 := l.flatMap (fun p => p ++ [c])
theorem linesC_join (c : UInt8) : ∀ (l : List (List UInt8)), l ≠ [] → linesC c l = joinC c l ++ [c]
  | [], h => absurd rfl h
  | [p], _ => by simp [linesC, joinC]
  | p :: q :: r, _ => by
    have ih := linesC_join c (q :: r) (by simp)
    unfold linesC at ih ⊢
    rw [List.flatMap_cons, ih, joinC]
    simp
theorem linesC_snoc (c : UInt8) (l : List (List UInt8)) (p : List UInt8) : linesC c (l ++ [p]) = linesC c l ++ (p ++ [c]) := by simp [linesC]
theorem linesC_suffix (c : UInt8) (l : List (List UInt8)) (h : l ≠ []) : Lib.hasSuffix (linesC c l) [c] = true ∧ Lib.trimSuffix (linesC c l) [c] = joinC c l := by
  have hs : Lib.hasSuffix (linesC c l) [c] = true := by
    unfold Lib.hasSuffix
    rw [List.isSuffixOf_iff_suffix, linesC_join c l h]
    exact List.suffix_append _ _
  refine ⟨hs, ?_⟩
  unfold Lib.trimSuffix
  rw [if_pos hs, linesC_join c l h]
  simp
end Go.Proofs.YtgdnedhcbjonkaaGreatDoor

/- Serials as texts: the plain laws; no program in sight. -/
namespace Go.Proofs.YtgdnedhcbjonkaaGreatDoor

/-- The digits, then the capitals. -/
def alL : List UInt8 := [48, 49, 50, 51, 52, 53, 54, 55, 56, 57, 65, 66, 67, 68, 69, 70, 71, 72, 73, 74, 75, 76, 77, 78, 79, 80, 81, 82, 83, 84, 85, 86, 87, 88, 89, 90]
def ckF : Nat → List UInt8 → Int
  | _, [] => 0
  | i, c :: r => ((i : Int) + 2) * Lib.indexByte alL c + ckF (i + 1) r
theorem ckF_snoc (c : UInt8) : ∀ (l : List UInt8) (i : Nat), ckF i (l ++ [c]) = ckF i l + (((i + l.length : Nat) : Int) + 2) * Lib.indexByte alL c
  | [], i => by simp [ckF]
  | b :: l, i => by
    have e : ((i + (b :: l).length : Nat) : Int) = ((i + 1 + l.length : Nat) : Int) := by simp only [List.length_cons]; omega
    rw [List.cons_append, ckF, ckF_snoc c l (i + 1), ckF, e]
    omega
/-- The check character of letters and digits. -/
def ckC (s : List UInt8) : UInt8 := alL.getD (ckF 0 s % 36).toNat 0
theorem ckC_mem (s : List UInt8) : ckC s ∈ alL := by
  unfold ckC
  have h1 : 0 ≤ ckF 0 s % 36 := Int.emod_nonneg _ (by omega)
  have h2 : ckF 0 s % 36 < 36 := Int.emod_lt_of_pos _ (by omega)
  have hl : (ckF 0 s % 36).toNat < alL.length := by show _ < 36; omega
  rw [List.getD_eq_getElem?_getD, List.getElem?_eq_getElem hl]
  exact List.getElem_mem hl
theorem al_not {c : UInt8} (h : c ∈ alL) : c ≠ 45 := by
  intro e; rw [e] at h; revert h; decide
def padL (n : Nat) : List UInt8 := List.replicate (8 - (Lib.decDigits n).length) 48 ++ Lib.decDigits n
theorem pad_len (n : Nat) (h : n < 100000000) : (padL n).length = 8 := by
  have := dec_len n 8 (by omega) (by omega)
  unfold padL
  rw [List.length_append, List.length_replicate]
  omega
theorem pad_digit (n : Nat) : ∀ b ∈ padL n, 48 ≤ b.toNat ∧ b.toNat ≤ 57 := by
  intro b hb
  unfold padL at hb
  rcases List.mem_append.1 hb with hb | hb
  · rw [List.eq_of_mem_replicate hb]; decide
  · exact dec_digit n b hb
theorem digit_al (b : UInt8) (h : 48 ≤ b.toNat ∧ b.toNat ≤ 57) : b ∈ alL := by
  have : b.toNat = 48 ∨ b.toNat = 49 ∨ b.toNat = 50 ∨ b.toNat = 51 ∨ b.toNat = 52 ∨ b.toNat = 53 ∨ b.toNat = 54 ∨ b.toNat = 55 ∨ b.toNat = 56 ∨ b.toNat = 57 := by omega
  have key : ∀ k : Nat, k < 256 → b.toNat = k → b = UInt8.ofNat k := fun k hk e => by
    apply UInt8.toNat_inj.1
    rw [e]
    simp
    omega
  rcases this with e | e | e | e | e | e | e | e | e | e <;> rw [key _ (by omega) e] <;> decide
theorem pad_atoi (n : Nat) : Lib.atoi (padL n) = some (n : Int) := by
  refine atoi_of_digits ?_ (pad_digit n) ?_
  · intro e
    have := dec_pos n
    have h2 : (padL n).length = 0 := by rw [e]; rfl
    unfold padL at h2
    rw [List.length_append] at h2
    omega
  · unfold padL
    rw [decFrom_zeros]
    exact decFrom_dec n
/-- The words of a serial. -/
def serW (p : List UInt8) (n : Nat) (c : UInt8) : List (List UInt8) := [p, padL n, [c]]
def serT (p : List UInt8) (n : Nat) (c : UInt8) : List UInt8 := joinC 45 (serW p n c)
theorem serT_eq (p : List UInt8) (n : Nat) (c : UInt8) : serT p n c = p ++ [45] ++ padL n ++ [45] ++ [c] := by simp [serT, serW, joinC]
theorem serT_len (p : List UInt8) (n : Nat) (c : UInt8) (h : n < 100000000) : (serT p n c).length = p.length + 11 := by
  rw [serT_eq]
  simp only [List.length_append, pad_len n h, List.length_cons, List.length_nil]
theorem ser_split (p : List UInt8) (n : Nat) (c : UInt8) (hp : (45 : UInt8) ∉ p) (hc : c ≠ 45) (k : Nat) (hk : 2 ≤ k) : Lib.splitB ⟨#[45]⟩ 0 k ⟨(serT p n c).toArray⟩ = (serW p n c).map (fun q => ⟨q.toArray⟩) := by
  refine splitB_join 45 _ _ (by simp [serW]) ?_ (by simp [serW]; omega)
  intro q hq
  simp only [serW, List.mem_cons, List.not_mem_nil, or_false] at hq
  rcases hq with rfl | rfl | rfl
  · exact hp
  · intro h
    have := pad_digit n _ h
    have e : (45 : UInt8).toNat = 45 := rfl
    omega
  · simp; exact fun e => hc e.symm
theorem ser_count (p : List UInt8) (n : Nat) (c : UInt8) (hp : (45 : UInt8) ∉ p) (hc : c ≠ 45) : (serT p n c).count 45 + 1 = 3 := by
  refine count_join 45 (serW p n c) (by simp [serW]) ?_
  intro q hq
  simp only [serW, List.mem_cons, List.not_mem_nil, or_false] at hq
  rcases hq with rfl | rfl | rfl
  · exact hp
  · intro h
    have := pad_digit n _ h
    have e : (45 : UInt8).toNat = 45 := rfl
    omega
  · simp; exact fun e => hc e.symm
end Go.Proofs.YtgdnedhcbjonkaaGreatDoor

/- device.checkOf of letters and digits by its contract. -/
namespace Go.Proofs.YtgdnedhcbjonkaaGreatDoor
open Go.RowKit

def alB : ByteArray := ⟨#[48, 49, 50, 51, 52, 53, 54, 55, 56, 57, 65, 66, 67, 68, 69, 70, 71, 72, 73, 74, 75, 76, 77, 78, 79, 80, 81, 82, 83, 84, 85, 86, 87, 88, 89, 90]⟩
set_option maxRecDepth 10000 in
theorem ix_range : ∀ c ∈ alL, 0 ≤ Lib.indexByte alL c ∧ Lib.indexByte alL c ≤ 35 := by decide
theorem u8_back (c : UInt8) : ((c.toNat : Int)).toNat.toUInt8 = c := by
  show UInt8.ofNat ((c.toNat : Int)).toNat = c
  rw [Int.toNat_natCast]
  exact UInt8.ofNat_toNat
theorem size_list (s : ByteArray) : s.size = s.data.toList.length := by rw [Array.length_toList]; rfl
set_option maxRecDepth 10000 in
theorem alB_at (k : Nat) (h : k < 36) : (alB[k]'h).toNat = (alL.getD k 0).toNat := by
  have : ∀ k : Fin 36, (alB[k.val]'k.isLt).toNat = (alL.getD k.val 0).toNat := by decide
  exact this ⟨k, h⟩
set_option maxRecDepth 100000 in
set_option maxHeartbeats 2000000 in
theorem checkOf_any (s : ByteArray) (w : World) (hs : s.size ≤ 100) (hal : ∀ b ∈ s.data.toList, b ∈ alL) :
    Calls Tryz.prog 77 #[.string s] w fun e w' => e = .returned (.int .u8 ((ckC s.data.toList).toNat : Int)) ∧ w = w' := by
  have HIX := Lib.hid (fun (c : UInt8) => show Calls Tryz.prog 69 #[.string ⟨#[48, 49, 50, 51, 52, 53, 54, 55, 56, 57, 65, 66, 67, 68, 69, 70, 71, 72, 73, 74, 75, 76, 77, 78, 79, 80, 81, 82, 83, 84, 85, 86, 87, 88, 89, 90]⟩, .int .u8 (c.toNat : Int)] w fun e w' => e = .returned (.int .i64 (Lib.indexByte alL c)) ∧ w = w' from by
    refine (Any.strings_IndexByte lay137 _ (c.toNat : Int) w).mono ?_
    rintro e w' ⟨h1, h2⟩
    refine ⟨?_, h2.symm⟩
    rw [h1]
    have : ((c.toNat : Int)).toNat.toUInt8 = c := u8_back c
    rw [this]
    rfl)
  have HAL := Lib.hid hal
  have hR : ∀ k, k ≤ s.size → 0 ≤ ckF 0 (s.data.toList.take k) ∧ ckF 0 (s.data.toList.take k) ≤ 4000 * k := by
    intro k hk
    induction k with
    | zero => exact ⟨Int.le_refl _, Int.le_refl _⟩
    | succ k ih =>
      obtain ⟨i1, i2⟩ := ih (by omega)
      have hl : k < s.data.toList.length := by rw [size_list] at hk; omega
      rw [List.take_succ_eq_append_getElem hl, ckF_snoc]
      obtain ⟨j1, j2⟩ := ix_range _ (hal _ (List.getElem_mem hl))
      generalize Lib.indexByte alL (s.data.toList[k]) = q at j1 j2
      rw [List.length_take, Nat.min_eq_left (by omega), Nat.zero_add]
      have m1 : 0 ≤ ((k : Int) + 2) * q := Int.mul_nonneg (by omega) j1
      have m2 : ((k : Int) + 2) * q ≤ ((k : Int) + 2) * 35 := Int.mul_le_mul_of_nonneg_left j2 (by omega)
      omega
  have HR := Lib.hid hR
  clear hal hR
  go_enter Tryz.func77, Tryz.ntmps77
  go_wp2_with (fail)
  go_loop [7, 3] (fun i t => ∃ k : Nat, k ≤ s.size ∧ i = .int .i64 k ∧ t = .int .i64 (ckF 0 (s.data.toList.take k))) (fun i _ => s.size - (intOf i).toNat)
  case atStart => exact ⟨0, Nat.zero_le _, rfl, rfl⟩
  case round =>
    obtain ⟨k, hk, rfl, rfl⟩ := hrel
    obtain ⟨r1, r2⟩ := HR.out k hk
    by_cases hlt : k < s.size
    · have hltI : (k : Int) < s.size := by omega
      have hl : k < s.data.toList.length := by rw [size_list] at hlt; exact hlt
      obtain ⟨c, hc⟩ : ∃ c, c = s[k]'hlt := ⟨_, rfl⟩
      have hc2 : s.data.toList[k] = c := by rw [hc]; rfl
      obtain ⟨j1, j2⟩ := ix_range _ (HAL.out _ (List.getElem_mem hl))
      have hsn : ckF 0 (s.data.toList.take (k + 1)) = ckF 0 (s.data.toList.take k) + ((k : Int) + 2) * Lib.indexByte alL c := by
        rw [List.take_succ_eq_append_getElem hl, ckF_snoc, hc2, List.length_take, Nat.min_eq_left (by omega), Nat.zero_add]
      rw [hc2] at j1 j2
      have HCALL := Lib.hid (HIX.out c)
      generalize Lib.indexByte alL c = q at j1 j2 hsn HCALL
      have m1 : 0 ≤ ((k : Int) + 2) * q := Int.mul_nonneg (by omega) j1
      have m2 : ((k : Int) + 2) * q ≤ ((k : Int) + 2) * 35 := Int.mul_le_mul_of_nonneg_left j2 (by omega)
      generalize hm : ((k : Int) + 2) * q = m at m1 m2 hsn
      have HSN := Lib.hid hsn
      generalize ckF 0 (s.data.toList.take k) = T at r1 r2 HSN ⊢
      have hcI : ((s[k]'hlt).toNat : Int) = (c.toNat : Int) := by rw [hc]
      clear hsn hc hc2
      go_wp2_with (fail)
      refine HCALL.out.mono ?_
      rintro e w1 ⟨rfl, rfl⟩
      go_wp2_with (fail)
      go_round
      case rel => exact ⟨k + 1, by omega, by go_num, by rw [HSN.out]⟩
      case measure => simp [intOf]; omega
    · have hltI : ¬ (k : Int) < s.size := by omega
      obtain rfl : k = s.size := by omega
      have hck : ckF 0 (s.data.toList.take s.size) = ckF 0 s.data.toList := by rw [List.take_of_length_le (by rw [size_list]; exact Nat.le_refl _)]
      rw [hck] at r1 r2 ⊢
      obtain ⟨T, hT⟩ : ∃ T, T = ckF 0 s.data.toList := ⟨_, rfl⟩
      rw [← hT] at r1 r2 ⊢
      have HCK := Lib.hid (show ckC s.data.toList = alL.getD (T % 36).toNat 0 from by rw [hT]; rfl)
      have e1 : T.tmod 36 = T % 36 := by rw [Int.tmod_eq_emod_of_nonneg r1]
      have hr0 : 0 ≤ T % 36 := Int.emod_nonneg _ (by omega)
      have hr1 : T % 36 < 36 := Int.emod_lt_of_pos _ (by omega)
      obtain ⟨R, hR⟩ : ∃ R : Nat, T % 36 = (R : Int) := ⟨(T % 36).toNat, by omega⟩
      have hR36 : R < 36 := by omega
      have hRI : (R : Int) < 36 := by omega
      have HAT := Lib.hid (alB_at R hR36)
      have HRR := Lib.hid hR
      clear hck hT
      rw [hR] at e1
      clear hr0 hr1
      have HE := Lib.hid (show ((alB[R]'hR36).toNat : Int) = ((ckC s.data.toList).toNat : Int) from by rw [HAT.out, HCK.out, HRR.out, Int.toNat_natCast])
      go_wp2_with (fail)
      go_ret
      exact ⟨by rw [← HE.out]; rfl, rfl⟩
end Go.Proofs.YtgdnedhcbjonkaaGreatDoor

/- The shelf's Lays.n160 at this program. -/
namespace Go.Proofs.YtgdnedhcbjonkaaGreatDoor
open Go.RowKit Go.Shelf

def lay160_ren : Go.Shelf.Ren := ⟨fun | 160 => 68 | 232 => 108 | 231 => 107 | 227 => 109 | 234 => 111 | 233 => 110 | 236 => 113 | 235 => 112 | 228 => 171 | 271 => 174 | 151 => 173 | 197 => 172 | 120 => 207 | 152 => 206 | 260 => 205 | 137 => 69 | 119 => 229 | 224 => 230 | 225 => 231 | 217 => 114 | 266 => 175 | n => n, fun | 9 => 9 | 4 => 4 | 3 => 3 | 5 => 5 | 117 => 192 | 116 => 191 | 0 => 0 | 124 => 195 | 21 => 21 | 105 => 254 | 46 => 176 | 119 => 306 | 139 => 309 | 138 => 308 | n => n, fun | 3 => 1 | 4 => 2 | n => n⟩
theorem lay160 : Lays.n160 Tryz.prog lay160_ren := {
  mixed := by kernel_rfl,
  f119 := Tryz.func229.trans (congrArg some (by kernel_rfl)),
  f120 := Tryz.func207.trans (congrArg some (by kernel_rfl)),
  f137 := Tryz.func69.trans (congrArg some (by kernel_rfl)),
  f151 := Tryz.func173.trans (congrArg some (by kernel_rfl)),
  f152 := Tryz.func206.trans (congrArg some (by kernel_rfl)),
  f160 := Tryz.func68.trans (congrArg some (by kernel_rfl)),
  f197 := Tryz.func172.trans (congrArg some (by kernel_rfl)),
  f217 := Tryz.func114.trans (congrArg some (by kernel_rfl)),
  f224 := Tryz.func230.trans (congrArg some (by kernel_rfl)),
  f225 := Tryz.func231.trans (congrArg some (by kernel_rfl)),
  f227 := Tryz.func109.trans (congrArg some (by kernel_rfl)),
  f228 := Tryz.func171.trans (congrArg some (by kernel_rfl)),
  f231 := Tryz.func107.trans (congrArg some (by kernel_rfl)),
  f232 := Tryz.func108.trans (congrArg some (by kernel_rfl)),
  f233 := Tryz.func110.trans (congrArg some (by kernel_rfl)),
  f234 := Tryz.func111.trans (congrArg some (by kernel_rfl)),
  f235 := Tryz.func112.trans (congrArg some (by kernel_rfl)),
  f236 := Tryz.func113.trans (congrArg some (by kernel_rfl)),
  f260 := Tryz.func205.trans (congrArg some (by kernel_rfl)),
  f266 := Tryz.func175.trans (congrArg some (by kernel_rfl)),
  f271 := Tryz.func174.trans (congrArg some (by kernel_rfl)),
  t0 := Tryz.underlying0,
  a0 := Tryz.isAgg0,
  z0 := Tryz.sizeOf0,
  v0 := Tryz.zeroValue0,
  t3 := Tryz.underlying3,
  a3 := Tryz.isAgg3,
  z3 := Tryz.sizeOf3,
  v3 := Tryz.zeroValue3,
  t4 := Tryz.underlying4,
  a4 := Tryz.isAgg4,
  z4 := Tryz.sizeOf4,
  v4 := Tryz.zeroValue4,
  t5 := Tryz.underlying5,
  a5 := Tryz.isAgg5,
  z5 := Tryz.sizeOf5,
  v5 := Tryz.zeroValue5,
  t9 := Tryz.underlying9,
  a9 := Tryz.isAgg9,
  z9 := Tryz.sizeOf9,
  v9 := Tryz.zeroValue9,
  t21 := Tryz.underlying21,
  a21 := Tryz.isAgg21,
  z21 := Tryz.sizeOf21,
  v21 := Tryz.zeroValue21,
  t46 := Tryz.underlying176,
  a46 := Tryz.isAgg176,
  z46 := Tryz.sizeOf176,
  v46 := Tryz.zeroValue176,
  t105 := Tryz.underlying254,
  a105 := Tryz.isAgg254,
  z105 := Tryz.sizeOf254,
  v105 := Tryz.zeroValue254,
  t116 := Tryz.underlying191,
  a116 := Tryz.isAgg191,
  z116 := Tryz.sizeOf191,
  t117 := Tryz.underlying192,
  a117 := Tryz.isAgg192,
  z117 := Tryz.sizeOf192,
  v117 := Tryz.zeroValue192,
  t119 := Tryz.underlying306,
  a119 := Tryz.isAgg306,
  z119 := Tryz.sizeOf306,
  t124 := Tryz.underlying195,
  a124 := Tryz.isAgg195,
  z124 := Tryz.sizeOf195,
  v124 := Tryz.zeroValue195,
  t138 := Tryz.underlying308,
  a138 := Tryz.isAgg308,
  z138 := Tryz.sizeOf308,
  v138 := Tryz.zeroValue308,
  t139 := Tryz.underlying309,
  a139 := Tryz.isAgg309,
  z139 := Tryz.sizeOf309,
  v139 := Tryz.zeroValue309,
  g3 := by kernel_rfl,
  g4 := by kernel_rfl }
end Go.Proofs.YtgdnedhcbjonkaaGreatDoor

/- device.isPrefix of capitals by its contract. -/
namespace Go.Proofs.YtgdnedhcbjonkaaGreatDoor
open Go.RowKit

/-- Trim leaves nothing of a text whose bytes are all in the set. -/
theorem drop_allL (c : List UInt8) : ∀ (l : List UInt8), (∀ x ∈ l, c.contains x = true) → l.dropWhile (c.contains ·) = []
  | [], _ => rfl
  | x :: l, h => by
    rw [List.dropWhile_cons, if_pos (h x (by simp))]
    exact drop_allL c l fun y hy => h y (by simp [hy])
theorem trim_all (l c : List UInt8) (h : ∀ b ∈ l, b ∈ c) : Lib.trimS l c = [] := by
  unfold Lib.trimS Lib.trimRightS Lib.trimLeftS
  rw [drop_allL c _ (fun x hx => List.contains_iff_mem.2 (h x (List.mem_reverse.1 hx)))]
  rfl
set_option maxRecDepth 100000 in
theorem isPrefix_yes (s : ByteArray) (w : World) (h2 : 2 ≤ s.size) (h4 : s.size ≤ 4) (hc : ∀ b ∈ s.data.toList, b ∈ alL.drop 10) :
    Calls Tryz.prog 116 #[.string s] w fun e w' => e = .returned (.bool true) ∧ Below w.heap.size w w' := by
  have HT := Lib.hid (show Calls Tryz.prog 68 #[.string s, .string ⟨#[65, 66, 67, 68, 69, 70, 71, 72, 73, 74, 75, 76, 77, 78, 79, 80, 81, 82, 83, 84, 85, 86, 87, 88, 89, 90]⟩] w fun e w' => e = .returned (.string ⟨#[]⟩) ∧ Below w.heap.size w w' from by
    refine (Any.strings_Trim_laid lay160 (by kernel_rfl) s ⟨#[65, 66, 67, 68, 69, 70, 71, 72, 73, 74, 75, 76, 77, 78, 79, 80, 81, 82, 83, 84, 85, 86, 87, 88, 89, 90]⟩ w (by omega) (by decide) (ascii_of_all (by decide))).mono ?_
    rintro e w' ⟨h1, h2⟩
    have e1 := trim_all _ _ hc
    refine ⟨?_, h2⟩
    rw [h1]
    exact congrArg (fun l => Ending.returned (.string ⟨List.toArray l⟩)) e1)
  have hn2 : ¬ (s.size : Int) < 2 := by omega
  have hn4 : ¬ (4 : Int) < s.size := by omega
  clear hc
  go_enter Tryz.func116, Tryz.ntmps116
  go_wp2_with (first | (go_at_call 74; refine (out_no _ _ _ _ (by omega) (by omega)).mono ?_; rintro e w' ⟨rfl, rfl⟩) | (go_at_call 68; refine HT.out.mono ?_; rintro e w' ⟨rfl, hb⟩))
  go_ret
  exact ⟨rfl, hb⟩
end Go.Proofs.YtgdnedhcbjonkaaGreatDoor

/- device.CheckModels of right models by its contract. -/
namespace Go.Proofs.YtgdnedhcbjonkaaGreatDoor
open Go.RowKit

theorem recs_takeM (l : List Md) (i : Nat) : (recs mdC l).take (i * 3) = recs mdC (l.take i) := by
  have h := recs_drop mdC_len l i
  have e1 : recs mdC l = recs mdC (l.take i) ++ recs mdC (l.drop i) := by rw [← recs_append, List.take_append_drop]
  by_cases hi : i ≤ l.length
  · have hl : (recs mdC (l.take i)).length = i * 3 := by rw [recs_length mdC_len, List.length_take]; omega
    rw [e1, ← hl, List.take_left]
  · rw [List.take_of_length_le (by rw [recs_length mdC_len]; omega), List.take_of_length_le (by omega)]
structure MdOk (w : World) (x : Md) : Prop where
  key : isKey x.k = true
  p2 : 2 ≤ x.p.size
  p4 : x.p.size ≤ 4
  pc : ∀ b ∈ x.p.data.toList, b ∈ alL.drop 10
  ty : ∃ t : List Ty, TysOk t ∧ t.length = x.n ∧ x.n ≤ 50 ∧ Row w w.heap.size x.A (recs tyC t)
structure MdsOk (w : World) (l : List Md) : Prop where
  each : ∀ x ∈ l, MdOk w x
  order : ∀ (i : Nat) (x y : Md), l[i]? = some x → l[i + 1]? = some y → (Op.bytesLess y.k.toList x.k.toList || y.k.toList == x.k.toList) = false
  apart : ∀ (i j : Nat) (x y : Md), i < j → l[i]? = some x → l[j]? = some y → (x.p.toList == y.p.toList) = false
set_option maxRecDepth 100000 in
set_option maxHeartbeats 4000000 in
theorem checkModels_any (l : List Md) (n c : Nat) (A : Option Addr) (w : World) (hl : MdsOk w l) (hn : l.length = n) (hn5 : n ≤ 50) (hnc : n ≤ c) (hr : Row w w.heap.size A (recs mdC l)) :
    Calls Tryz.prog 72 #[.slice A n c] w fun e w' => e = .returned (.int .i64 0) ∧ Below w.heap.size w w' := by
  have HR := Lib.hid hr
  have HL := Lib.hid hl
  have HN := Lib.hid hn
  clear hr hl hn
  go_enter Tryz.func72, Tryz.ntmps72
  go_wp2_with (fail)
  go_loopw [11] (fun s wr => ∃ (i : Nat), i ≤ n ∧ s = .int .i64 (i : Int) ∧ Below w.heap.size w wr) (fun s _ => n - (intOf s).toNat)
  case atStart => exact ⟨0, by omega, rfl, Below.refl _ _⟩
  case round =>
    obtain ⟨i, hin, rfl, hbr⟩ := hrel
    have hbs := hbr.size
    have HB := Lib.hid hbr
    clear hbr
    by_cases hlt : i < n
    · have hltI : (i : Int) < n := by omega
      obtain ⟨x, hx⟩ : ∃ x, l[i]? = some x := ⟨_, List.getElem?_eq_getElem (by have := HN.out; omega)⟩
      obtain ⟨b, o, rfl, hb, hC⟩ := (HR.out.below HB.out).posR mdC_len (by omega) (by have := HN.out; omega)
      obtain ⟨c0, c1, c2⟩ := md_cells hC i x hx
      have HX := Lib.hid hx
      have HO := HL.out.each x (List.mem_of_getElem? hx)
      obtain ⟨t, ht1, ht2, ht3, ht4⟩ := HO.ty
      have HTY := Lib.hid (fun (V : World) (hV : Below w.heap.size w V) => types_any t x.n x.c x.A V ht1 ht2 ht3 (rowWide (ht4.below hV) hV.size))
      have HK := Lib.hid (fun V => key_yes x.k V HO.key)
      have HP := Lib.hid (fun V => isPrefix_yes x.p V HO.p2 HO.p4 HO.pc)
      have HCO := Lib.hid (fun (V : World) (g : Nat) (hV : Below w.heap.size w V) (hg : V.cell? ⟨g, 1, none⟩ = some (.string x.p)) =>
        containsM_no 118 (.pointer (some ⟨g, 0, none⟩)) (l.take i) (fun y => y.p.toList == x.p.toList) i c (some ⟨b, o, none⟩) V (by rw [List.length_take]; have := HN.out; omega) (by omega)
          (.inr ⟨b, o, rfl, by have := hV.size; omega, by
            have h1 := hC.keep (hV.block b hb |>.trans (HB.out.block b hb).symm)
            have := h1.take (i * 3)
            rwa [recs_takeM] at this⟩)
          (fun y hy => by
            obtain ⟨j, hj⟩ := List.mem_iff_getElem?.1 hy
            have hji : j < i := by have := (List.getElem?_eq_some_iff.1 hj).1; rw [List.length_take] at this; omega
            rw [List.getElem?_take_of_lt hji] at hj
            exact HL.out.apart j i y x hji hj HX.out)
          (fun args W => call_enterM Tryz.func118 (by kernel_rfl) (by kernel_rfl) args W)
          (fun W y hW => check1_any y x.p g W ((hW.cell (p := ⟨g, 1, none⟩) (World.block_lt_of_cell? V _ hg)).trans hg)))
      have hn50 : x.n ≤ 50 := ht3
      clear hC hx HO ht1 ht2 ht3 ht4
      obtain ⟨mk, mp, mA, mn, mc⟩ := x
      simp only at c0 c1 c2 HTY HK HP HCO hn50
      have HBn := Lib.hid (HB.out.alloc hbs (.cells #[.string mk, .string mp, .slice mA mn mc] 96))
      have HGn := Lib.hid (heap_new wr (.cells #[.string mk, .string mp, .slice mA mn mc] 96))
      have hsn : wr.heap.size < (wr.alloc (.cells #[.string mk, .string mp, .slice mA mn mc] 96)).heap.size := by simp
      go_upto_region 6 with (fail)
      generalize wr.alloc (.cells #[.string mk, .string mp, .slice mA mn mc] 96) = w1 at HBn HGn hsn ⊢
      generalize wr.heap.size = g at HGn hsn hbs ⊢
      clear HB c0 c1 c2
      have d0 := cell_of_blk (j := 0) HGn.out rfl
      have d1 := cell_of_blk (j := 1) HGn.out rfl
      have d2 := cell_of_blk (j := 2) HGn.out rfl
      go_upto_region 8 with (go_at_call 93; refine (HK.out _).mono ?_; rintro e w' ⟨rfl, rfl⟩)
      by_cases hi0 : i = 0
      · subst hi0
        have hd : decide ((0 : Int) < 0) = false := by decide
        have hck : (0 : Nat) ≤ c := by omega
        go_quiet (fail)
        go_wp2_with (fail)
        refine (HP.out _).mono ?_
        rintro e w2 ⟨rfl, hb2⟩
        have hb12 : Below w1.heap.size w1 w2 := (below_drewN (Below.refl w1.heap.size w1) nq).trans hb2
        have HB2 := Lib.hid (HBn.out.trans (hb12.mono (by omega)))
        have hg2 := (hb12.block g hsn).trans HGn.out
        have hs2 := hb12.size
        have HG2 := Lib.hid hg2
        have d1 := cell_of_blk (j := 1) hg2 rfl
        clear hb2 hb12 hg2
        go_wp2_with (fail)
        refine (HCO.out w2 g HB2.out d1).mono ?_
        rintro e w3 ⟨rfl, hb3⟩
        have HB3 := Lib.hid (HB2.out.trans (hb3.mono (by omega)))
        have hg3 := (hb3.block g (by omega)).trans HG2.out
        have d2 := cell_of_blk (j := 2) hg3 rfl
        have hs3 := hb3.size
        have hgt : ¬ (50 : Int) < (mn : Int) := by omega
        clear hb3 hg3 d1
        go_wp2_with (fail)
        refine (HTY.out w3 HB3.out).mono ?_
        rintro e w4 ⟨rfl, hb4⟩
        have HB4 := Lib.hid (HB3.out.trans (hb4.mono (by omega)))
        clear hb4 d2
        go_wp2_with (fail)
        go_roundw
        case rel => exact ⟨1, by omega, by simp, HB4.out⟩
        case measure => simp [intOf]; omega
      · have hi1I : (0 : Int) < i := by omega
        have hd : decide ((0 : Int) < i) = true := by simpa using hi1I
        have hd2 : decide (0 < i) = true := by simp; omega
        have hd3 : 0 < i := by omega
        have hic : i ≤ c := by omega
        obtain ⟨y, hy⟩ : ∃ y, l[i - 1]? = some y := ⟨_, List.getElem?_eq_getElem (by have := HN.out; omega)⟩
        obtain ⟨b', o', e', hb', hC⟩ := (HR.out.below HBn.out).posR mdC_len (by omega) (by have := HN.out; omega)
        cases e'
        obtain ⟨p0, _⟩ := md_cells hC (i - 1) y hy
        have hle := HL.out.order (i - 1) y _ hy (by rw [show i - 1 + 1 = i by omega]; exact HX.out)
        simp only at hle
        have hwrap : (i : Int) - 1 = ((i - 1 : Nat) : Int) := by omega
        clear hC hy
        go_quiet (fail)
        go_wp2_with (fail)
        refine (HP.out _).mono ?_
        rintro e w2 ⟨rfl, hb2⟩
        have hb12 : Below w1.heap.size w1 w2 := (below_drewN (Below.refl w1.heap.size w1) nq).trans hb2
        have HB2 := Lib.hid (HBn.out.trans (hb12.mono (by omega)))
        have hg2 := (hb12.block g hsn).trans HGn.out
        have hs2 := hb12.size
        have HG2 := Lib.hid hg2
        have d1 := cell_of_blk (j := 1) hg2 rfl
        clear hb2 hb12 hg2
        go_wp2_with (fail)
        refine (HCO.out w2 g HB2.out d1).mono ?_
        rintro e w3 ⟨rfl, hb3⟩
        have HB3 := Lib.hid (HB2.out.trans (hb3.mono (by omega)))
        have hg3 := (hb3.block g (by omega)).trans HG2.out
        have d2 := cell_of_blk (j := 2) hg3 rfl
        have hs3 := hb3.size
        have hgt : ¬ (50 : Int) < (mn : Int) := by omega
        clear hb3 hg3 d1
        go_wp2_with (fail)
        refine (HTY.out w3 HB3.out).mono ?_
        rintro e w4 ⟨rfl, hb4⟩
        have HB4 := Lib.hid (HB3.out.trans (hb4.mono (by omega)))
        clear hb4 d2
        go_wp2_with (fail)
        go_roundw
        case rel => exact ⟨i + 1, by omega, by simp, HB4.out⟩
        case measure => simp [intOf]; omega
    · have hltI : ¬ (i : Int) < n := by omega
      go_wp2_with (fail)
      go_ret
      exact ⟨rfl, HB.out⟩
end Go.Proofs.YtgdnedhcbjonkaaGreatDoor

/- The stream of numbers: Below, Next, Range, Pick, Flip, each by its contract. -/
namespace Go.Proofs.YtgdnedhcbjonkaaGreatDoor
open Go.RowKit

theorem below_any (x n : Int) (w : World) (hn : n ≤ 1099511627776) : Calls Tryz.prog 66 #[.int .i64 x, .int .i64 n] w fun e w' => e = .returned (.int .i64 (below x n)) ∧ w = w' := by
  by_cases h : n < 1
  · have hb : below x n = 0 := by simp [below, h]
    rw [hb]
    go_enter Tryz.func66, Tryz.ntmps66
    go_wp2
    go_ret; exact ⟨rfl, rfl⟩
  · have hb : below x n = x % n := by simp [below, h]
    rw [hb]
    have h1 : 1 ≤ n := by omega
    have H := Lib.hid (tmod_cases x n h1)
    have hlo : -n < x.tmod n := by have := Int.lt_tmod_of_pos x (b := n) (by omega); omega
    have hhi : x.tmod n < n := Int.tmod_lt_of_pos x (by omega)
    have hn0 : ¬ n = 0 := by omega
    clear hb h
    go_enter Tryz.func66, Tryz.ntmps66
    go_wp2
    · go_ret; exact ⟨ret_int (H.out.1 (by assumption)).1.symm, rfl⟩
    · go_ret; exact ⟨ret_int (H.out.2 (by assumption)).symm, rfl⟩

/-- Block p is a stream that has handed out k numbers of a slice. -/
def SBlk (w : World) (p : Nat) (A : Option Addr) (n c : Nat) (k : Nat) : Prop := w.heap[p]? = some (.cells #[.slice A n c, .int .i64 (k : Int)] 25 (0, 0))
theorem SBlk.cell0 {w p A n c k} (h : SBlk w p A n c k) : w.cell? ⟨p, 0, none⟩ = some (.slice A n c) := cell_of_blk h rfl
theorem SBlk.cell1 {w p A n c k} (h : SBlk w p A n c k) : w.cell? ⟨p, 1, none⟩ = some (.int .i64 (k : Int)) := cell_of_blk h rfl
theorem SBlk.fr1 {w p A n c k} (h : SBlk w p A n c k) : w.frozen? ⟨p, 1, none⟩ = false := by simp [World.frozen?, show w.heap[p]? = _ from h]

set_option maxHeartbeats 400000 in
theorem next_nil (w : World) (p c k : Nat) (A : Option Addr) (m : Int) (hm : m ≤ 1099511627776) (hk : k < 1000000) (hs : SBlk w p A 0 c k) :
    Calls Tryz.prog 22 #[.pointer (some ⟨p, 0, none⟩), .int .i64 m] w fun e w' => e = .returned (.int .i64 (nextV [] k m)) ∧ ∃ q, w' = (w.setCell ⟨p, 1, none⟩ (.int .i64 ((k : Int) + 1))).drewN q := by
  have h0 := hs.cell0
  have h1 := hs.cell1
  have h2 := hs.fr1
  clear hs
  have hk' : (k : Int) < 1000000 := by omega
  go_enter Tryz.func22, Tryz.ntmps22
  go_wp2_with (go_at_call 66; refine (below_any _ _ _ (by omega)).mono ?_; rintro e w' ⟨rfl, rfl⟩)
  go_ret
  exact ⟨ret_int (by simp [nextV]), 0, rfl⟩

set_option maxHeartbeats 1000000 in
theorem next_some (w : World) (p n c k b o : Nat) (xs : List Int) (m : Int) (hm : m ≤ 1099511627776) (hk : k < 1000000) (hn : 0 < n) (hn2 : n ≤ 17592186044416) (hlen : xs.length = n)
    (hs : SBlk w p (some ⟨b, o, none⟩) n c k) (hbp : b ≠ p) (hx : w.cell? ⟨b, o + k % n, none⟩ = some (.int .i64 (xs.getD (k % n) 0))) :
    Calls Tryz.prog 22 #[.pointer (some ⟨p, 0, none⟩), .int .i64 m] w fun e w' => e = .returned (.int .i64 (nextV xs k m)) ∧ ∃ q, w' = (w.setCell ⟨p, 1, none⟩ (.int .i64 ((k : Int) + 1))).drewN q := by
  have h0 := hs.cell0
  have h1 := hs.cell1
  have h2 := hs.fr1
  obtain ⟨x, hxd⟩ : ∃ x, x = xs.getD (k % n) 0 := ⟨_, rfl⟩
  obtain ⟨q, hq⟩ : ∃ q, q = k / n := ⟨_, rfl⟩
  obtain ⟨r, hr⟩ : ∃ r, r = k % n := ⟨_, rfl⟩
  obtain ⟨t, ht⟩ : ∃ t, t = q * (7919 + r) := ⟨_, rfl⟩
  have HV := Lib.hid (show nextV xs k m = below (below x 1073741824 + (t : Int)) m by
    unfold nextV; rw [if_neg (by omega), hlen, hxd, ht, hq, hr])
  have HR : t ≤ k * 7920 := by rw [ht, hq, hr]; exact round_le k n hn
  have hb0 := below_range x 1073741824 (by omega)
  have hrn : r < n := by rw [hr]; exact Nat.mod_lt _ hn
  have hqk : q ≤ k := by rw [hq]; exact Nat.div_le_self _ _
  rw [← hxd, ← hr] at hx
  have hw2 : (k : Int) % (n : Int) = (r : Int) := by rw [hr]; rfl
  have hw3 : (k : Int) / (n : Int) = (q : Int) := by rw [hq]; rfl
  have hw4 : wrap64 ((q : Int) * (7919 + (r : Int))) = (t : Int) := by
    rw [show ((q : Int) * (7919 + (r : Int))) = (t : Int) by rw [ht, Int.natCast_mul, Int.natCast_add]; rfl]; unfold wrap64; omega
  clear hs hlen ht hq hr hxd
  have hn0 : ¬ (n : Int) = 0 := by omega
  go_enter Tryz.func22, Tryz.ntmps22
  go_wp2_with (fail)
  go_quiet (fail)
  go_wp2_with (fail)
  go_quiet (fail)
  go_wp2_with (go_at_call 66; refine (below_any _ _ _ (by omega)).mono ?_; rintro e w' ⟨rfl, rfl⟩)
  go_ret
  exact ⟨ret_int HV.out.symm, _, rfl⟩

/-- A list of numbers, and where it lies. -/
structure LiA where
  l : List Int
  A : Option Addr
  c : Nat
instance : CoeOut LiA (List Int) := ⟨LiA.l⟩
/-- Block p is a stream over the numbers xs, k of which it has handed out. -/
def Strm (w : World) (p : Nat) (xs : LiA) (k : Nat) : Prop :=
  xs.l.length ≤ 17592186044416 ∧ SBlk w p xs.A xs.l.length xs.c k ∧ Row w p xs.A (xs.l.map (Value.int .i64))

theorem Strm.keep {w w' : World} {p k : Nat} {xs : LiA} (h : Strm w p xs k) (hb : ∀ b, b ≤ p → w'.heap[b]? = w.heap[b]?) : Strm w' p xs k := by
  obtain ⟨h1, h2, h3⟩ := h
  exact ⟨h1, (hb p (Nat.le_refl _)).trans h2, h3.keep fun b hlt => hb b (by omega)⟩
theorem Strm.lt {w : World} {p k : Nat} {xs : LiA} (h : Strm w p xs k) : p < w.heap.size := by
  obtain ⟨h1, h2, h3⟩ := h
  unfold SBlk at h2
  exact (Array.getElem?_eq_some_iff.1 h2).1
theorem Strm.below {w w' : World} {p k : Nat} {xs : LiA} (h : Strm w p xs k) (hb : Below w.heap.size w w') : Strm w' p xs k :=
  h.keep fun b hlt => hb.block b (by have := h.lt; omega)

theorem Strm.row {w w' : World} {p k : Nat} {xs : LiA} {row : Option Nat} (h : Strm w p xs k) (hg : w.grownBy w' row) (hr : ∀ g, row = some g → p < g) : Strm w' p xs k :=
  h.keep fun b hlt => hg.block b (by have := h.lt; omega) (fun e => by have := hr b e.symm; omega)
theorem Strm.alloc {w : World} {p k : Nat} {xs : LiA} (h : Strm w p xs k) (o : Obj) : Strm (w.alloc o) p xs k :=
  h.keep fun b hb => Below.heap_alloc _ _ b (by have := h.lt; omega)

theorem next_any (w : World) (p k : Nat) (xs : LiA) (m : Int) (hm : m ≤ 1099511627776) (hk : k < 1000000) (hs : Strm w p xs k) :
    Calls Tryz.prog 22 #[.pointer (some ⟨p, 0, none⟩), .int .i64 m] w fun e w' => e = .returned (.int .i64 (nextV xs k m)) ∧ Strm w' p xs (k + 1) ∧ w.grownBy w' (some p) := by
  have hlt := hs.lt
  obtain ⟨xs, A, c⟩ := xs
  obtain ⟨h1, h2, h3⟩ := hs
  simp only at h1 h2 h3
  have fin : ∀ q, Strm ((w.setCell ⟨p, 1, none⟩ (.int .i64 ((k : Int) + 1))).drewN q) p ⟨xs, A, c⟩ (k + 1) ∧ w.grownBy ((w.setCell ⟨p, 1, none⟩ (.int .i64 ((k : Int) + 1))).drewN q) (some p) := by
    intro q
    refine ⟨⟨h1, ?_, ?_⟩, grown_drewN (grown_set (grown_refl w _) (.inl rfl) _) q⟩
    · show (w.setCell ⟨p, 1, none⟩ (.int .i64 ((k : Int) + 1))).heap[p]? = _
      unfold SBlk at h2
      simp [World.setCell, Array.getElem?_modify, h2]
    · exact h3.keep fun b hb => Below.heap_setCell w ⟨p, 1, none⟩ _ b (by show b ≠ p; omega)
  by_cases hn : xs.length = 0
  · obtain rfl : xs = [] := List.eq_nil_of_length_eq_zero hn
    refine (next_nil w p c k A m hm hk h2).mono ?_
    rintro e w' ⟨rfl, q, rfl⟩
    exact ⟨rfl, fin q⟩
  · rcases h3 with h3 | ⟨b, o, rfl, hb, hc⟩
    · simp at h3; simp [h3] at hn
    · have hj : k % xs.length < xs.length := Nat.mod_lt _ (by omega)
      have hcell := hc (k % xs.length) (.int .i64 (xs.getD (k % xs.length) 0)) (by simp [List.getElem?_eq_getElem hj])
      refine (next_some w p xs.length c k b o xs m hm hk (by omega) h1 rfl h2 (by omega) hcell).mono ?_
      rintro e w' ⟨rfl, q, rfl⟩
      exact ⟨rfl, fin q⟩

theorem range_any (w : World) (p k : Nat) (xs : LiA) (lo hi : Int) (hk : k < 1000000) (h1 : -1000000000000 < lo) (h2 : lo ≤ hi) (h3 : hi < 1000000000000) (h4 : hi - lo < 1000000000000) (hs : Strm w p xs k) :
    Calls Tryz.prog 31 #[.pointer (some ⟨p, 0, none⟩), .int .i64 lo, .int .i64 hi] w fun e w' => e = .returned (.int .i64 (lo + nextV xs k (hi - lo + 1))) ∧ Strm w' p xs (k + 1) ∧ w.grownBy w' (some p) := by
  have hr := nextV_range xs k (hi - lo + 1) (by omega)
  have HS := Lib.hid hs
  clear hs
  go_enter Tryz.func31, Tryz.ntmps31
  go_wp2_with (go_at_call 22; refine (next_any _ _ _ xs _ (by omega) hk HS.out).mono ?_; rintro e w' ⟨rfl, hs', hg'⟩)
  go_ret
  exact ⟨rfl, hs', hg'⟩

theorem pick_any (w : World) (p k g m c : Nat) (xs : LiA) (vs : List Int) (hk : k < 1000000) (hm : vs.length = m) (h0 : 0 < m) (h1 : m ≤ 1000000) (hs : Strm w p xs k) (hg : g ≠ p)
    (hc : Cells w g 0 (vs.map (Value.int .i64))) :
    Calls Tryz.prog 23 #[.pointer (some ⟨p, 0, none⟩), .slice (some ⟨g, 0, none⟩) m c] w fun e w' => e = .returned (.int .i64 (vs.getD (nextN xs k m) 0)) ∧ Strm w' p xs (k + 1) ∧ w.grownBy w' (some p) := by
  have hj := nextN_lt xs k m h0
  have HE := Lib.hid (nextN_eq xs k m h0)
  obtain ⟨j, ej⟩ : ∃ j, j = nextN xs k m := ⟨_, rfl⟩
  rw [← ej] at HE hj ⊢
  have hcell := hc j (.int .i64 (vs.getD j 0)) (by simp [List.getElem?_eq_getElem (show j < vs.length by omega)])
  have hlt := World.block_lt_of_cell? w _ hcell
  simp only [Nat.zero_add] at hcell hlt
  obtain ⟨x, ex⟩ : ∃ x, x = vs.getD j 0 := ⟨_, rfl⟩
  rw [← ex] at hcell ⊢
  have HS := Lib.hid hs
  clear hs hc ej ex hm
  go_enter Tryz.func23, Tryz.ntmps23
  go_wp2_with (go_at_call 22; refine (next_any _ _ _ xs _ (by omega) hk HS.out).mono ?_; rw [HE.out]; rintro e w' ⟨rfl, hs', hg'⟩; have hc' := hg'.cell hcell (by simpa using hg); clear hcell; have HS' := Lib.hid hs'; have HG' := Lib.hid hg'; clear hs' hg')
  go_ret
  exact ⟨rfl, HS'.out, HG'.out⟩
/-- Where the list lies is below p. -/
def LoA (p : Nat) (xs : LiA) : Prop := xs.l.map (Value.int .i64) = [] ∨ ∃ b o, xs.A = some ⟨b, o, none⟩ ∧ b < p
theorem Strm.low {w : World} {p k : Nat} {xs : LiA} (h : Strm w p xs k) : LoA p xs := by
  obtain ⟨_, _, h3⟩ := h
  rcases h3 with h3 | ⟨b, o, h4, h5, _⟩
  · exact .inl h3
  · exact .inr ⟨b, o, h4, h5⟩
/-- Another stream over the same list goes on; this one stays. -/
theorem Strm.other {w w' : World} {p q k : Nat} {xs : LiA} (h : Strm w q xs k) (hl : LoA p xs) (hg : w.grownBy w' (some p)) (hpq : p ≠ q) : Strm w' q xs k := by
  have hlt := h.lt
  obtain ⟨h1, h2, h3⟩ := h
  refine ⟨h1, (hg.block q hlt (fun e => hpq (by injection e with e; exact e.symm))).trans h2, ?_⟩
  rcases h3 with h3 | ⟨b, o, h4, h5, h6⟩
  · exact .inl h3
  · rcases hl with hl | ⟨b', o', e, hb⟩
    · exact .inl hl
    · rw [h4] at e
      injection e with e
      injection e with e1 e2
      subst e1
      exact .inr ⟨b, o, h4, h5, h6.keep (hg.block b (by omega) (fun e => by injection e with e; omega))⟩
theorem Strm.twin {w : World} {p q k : Nat} {xs : LiA} (h : Strm w p xs k) (hpq : p ≤ q) (hq : w.heap[q]? = w.heap[p]?) : Strm w q xs k :=
  ⟨h.1, hq.trans h.2.1, h.2.2.mono hpq⟩
theorem range_nat (w : World) (p k m : Nat) (xs : LiA) (hk : k < 1000000) (h3 : m < 1000000000) (hs : Strm w p xs k) :
    Calls Tryz.prog 31 #[.pointer (some ⟨p, 0, none⟩), .int .i64 0, .int .i64 (m : Int)] w fun e w' => e = .returned (.int .i64 (nextN xs k (m + 1) : Int)) ∧ Strm w' p xs (k + 1) ∧ w.grownBy w' (some p) := by
  refine (range_any w p k xs 0 m hk (by omega) (by omega) (by omega) (by omega) hs).mono ?_
  rintro e w' ⟨rfl, h⟩
  refine ⟨ret_int ?_, h⟩
  have := nextN_eq xs k (m + 1) (by omega)
  rw [← this]
  simp
end Go.Proofs.YtgdnedhcbjonkaaGreatDoor

/- Flip of the stream by its contract. -/
namespace Go.Proofs.YtgdnedhcbjonkaaGreatDoor
open Go.RowKit

theorem cells_atF {w : World} {cs : Array Value} {t : TypeId} {f : Nat × Nat} {xs : List Value} {n : Nat} (h : cs.toList = xs) (hn : n = w.heap.size) : Cells (w.alloc (.cells cs t f)) n 0 xs := by
  subst hn; exact Cells.new _ _ _ _ _ h
theorem flip_any (w : World) (p k : Nat) (xs : LiA) (m : Int) (hm : 1 ≤ m) (hm2 : m ≤ 1000) (hk : k < 1000000) (hs : Strm w p xs k) :
    Calls Tryz.prog 27 #[.pointer (some ⟨p, 0, none⟩), .int .i64 m] w fun e w' => ∃ b : Bool, e = .returned (.bool b) ∧ Strm w' p xs (k + 1) ∧ w.grownBy w' (some p) := by
  have HS := Lib.hid hs
  clear hs
  obtain ⟨v, ev⟩ : ∃ v, v = nextV xs k m := ⟨_, rfl⟩
  have HN := Lib.hid (next_any w p k xs m (by omega) hk HS.out)
  rw [← ev] at HN
  clear ev
  go_enter Tryz.func27, Tryz.ntmps27
  go_wp2_with (fail)
  refine HN.out.mono ?_
  rintro e w' ⟨rfl, hs', hg'⟩
  have H := Lib.hid (And.intro hs' hg')
  clear hs' hg'
  go_wp2_with (fail)
  go_ret
  exact ⟨_, rfl, H.out.1, H.out.2⟩

end Go.Proofs.YtgdnedhcbjonkaaGreatDoor

/- Some of the stream by its contract. -/
namespace Go.Proofs.YtgdnedhcbjonkaaGreatDoor
open Go.RowKit

theorem some_any (w : World) (p k g m c : Nat) (xs : LiA) (vs : List ByteArray) (hk : k < 1000000) (hm : vs.length = m) (h0 : 0 < m) (h1 : m ≤ 1000000) (hs : Strm w p xs k) (hg : g ≠ p)
    (hc : Cells w g 0 (vs.map Value.string)) :
    Calls Tryz.prog 24 #[.pointer (some ⟨p, 0, none⟩), .slice (some ⟨g, 0, none⟩) m c] w fun e w' => e = .returned (.string (vs.getD (nextN xs k m) ⟨#[]⟩)) ∧ Strm w' p xs (k + 1) ∧ w.grownBy w' (some p) := by
  have hj := nextN_lt xs k m h0
  have HE := Lib.hid (nextN_eq xs k m h0)
  obtain ⟨j, ej⟩ : ∃ j, j = nextN xs k m := ⟨_, rfl⟩
  rw [← ej] at HE hj ⊢
  have hcell := hc j (.string (vs.getD j ⟨#[]⟩)) (by simp [List.getElem?_eq_getElem (show j < vs.length by omega)])
  have hlt := World.block_lt_of_cell? w _ hcell
  simp only [Nat.zero_add] at hcell hlt
  obtain ⟨x, ex⟩ : ∃ x, x = vs.getD j ⟨#[]⟩ := ⟨_, rfl⟩
  rw [← ex] at hcell ⊢
  have HS := Lib.hid hs
  clear hs hc ej ex hm
  go_enter Tryz.func24, Tryz.ntmps24
  go_wp2_with (go_at_call 22; refine (next_any _ _ _ xs _ (by omega) hk HS.out).mono ?_; rw [HE.out]; rintro e w' ⟨rfl, hs', hg'⟩; have hc' := hg'.cell hcell (by simpa using hg); clear hcell; have HS' := Lib.hid hs'; have HG' := Lib.hid hg'; clear hs' hg')
  go_ret
  exact ⟨rfl, HS'.out, HG'.out⟩
end Go.Proofs.YtgdnedhcbjonkaaGreatDoor

/- RightKinds of the stream: plain facts of its models (SlZ walks it). -/
namespace Go.Proofs.YtgdnedhcbjonkaaGreatDoor
open Go.RowKit

def t0L : List Ty := [⟨⟨#[97]⟩, 2, -5, 50⟩, ⟨⟨#[98]⟩, 3, 0, 0⟩, ⟨⟨#[102, 97, 110, 46, 111, 110]⟩, 1, 0, 0⟩]
def t1L : List Ty := [⟨⟨#[97]⟩, 1, 0, 0⟩]
theorem prop_a (V : World) : Calls Tryz.prog 176 #[.string ⟨#[97]⟩] V fun e w' => e = .returned (.bool true) ∧ Below V.heap.size V w' :=
  (property_key ⟨#[97]⟩ V (by kernel_rfl) (by rw [Lib.toList_data]; decide) (by decide)).mono fun _ _ h => ⟨h.1, h.2 ▸ Below.refl _ _⟩
theorem prop_b (V : World) : Calls Tryz.prog 176 #[.string ⟨#[98]⟩] V fun e w' => e = .returned (.bool true) ∧ Below V.heap.size V w' :=
  (property_key ⟨#[98]⟩ V (by kernel_rfl) (by rw [Lib.toList_data]; decide) (by decide)).mono fun _ _ h => ⟨h.1, h.2 ▸ Below.refl _ _⟩
theorem t0_ok : TysOk t0L := by
  refine ⟨?_, ?_⟩
  · intro x hx
    simp only [t0L, List.mem_cons, List.not_mem_nil, or_false] at hx
    rcases hx with rfl | rfl | rfl
    · exact ⟨prop_a, by decide, by decide, fun _ => by decide, fun h => absurd rfl h⟩
    · exact ⟨prop_b, by decide, by decide, fun h => absurd h (by decide), fun _ => by decide⟩
    · exact ⟨property_fan, by decide, by decide, fun h => absurd h (by decide), fun _ => by decide⟩
  · intro i x y hx hy
    match i, hx, hy with
    | 0, hx, hy => cases hx; cases hy; rw [Lib.toList_data, Lib.toList_data]; decide
    | 1, hx, hy => cases hx; cases hy; rw [Lib.toList_data, Lib.toList_data]; decide
    | 2, hx, hy => cases hy
    | i + 3, hx, hy => cases hx
theorem t1_ok : TysOk t1L := by
  refine ⟨?_, ?_⟩
  · intro x hx
    simp only [t1L, List.mem_cons, List.not_mem_nil, or_false] at hx
    subst hx
    exact ⟨prop_a, by decide, by decide, fun h => absurd h (by decide), fun _ => by decide⟩
  · intro i x y hx hy
    match i, hx, hy with
    | 0, hx, hy => cases hy
    | i + 1, hx, hy => cases hx
def prfT (j : Nat) : ByteArray :=
  match j with
  | 0 => ⟨#[65, 66, 67]⟩
  | 1 => ⟨#[88, 89]⟩
  | _ => ⟨#[90, 90, 90, 90]⟩
theorem cellsBlk {w : World} {b : Nat} {cs : Array Value} {t : TypeId} {f : Nat × Nat} {xs : List Value} (h : w.heap[b]? = some (.cells cs t f)) (hx : cs.toList = xs) : Cells w b 0 xs := by
  subst hx
  intro j v hv
  rw [Nat.zero_add]
  exact cell_of_blk h (by simpa using hv)
theorem le50 (n : Nat) (h : n ≤ 50) : n ≤ 50 := h
theorem gr_same {a b c : World} {p : Nat} (h : a.grownBy b (some p)) (k : b.grownBy c (some p)) : a.grownBy c (some p) :=
  ⟨k.os.trans h.os, k.tape.trans h.tape, k.output.trans h.output, Nat.le_trans h.size k.size, fun i hi hne => (k.block i (Nat.lt_of_lt_of_le hi h.size) hne).trans (h.block i hi hne)⟩
theorem ab_ok : 2 ≤ (⟨#[65, 66]⟩ : ByteArray).size ∧ (⟨#[65, 66]⟩ : ByteArray).size ≤ 4 ∧ ∀ b ∈ (⟨#[65, 66]⟩ : ByteArray).data.toList, b ∈ alL.drop 10 := by decide
theorem prf_ok (j : Nat) : 2 ≤ (prfT j).size ∧ (prfT j).size ≤ 4 ∧ ∀ b ∈ (prfT j).data.toList, b ∈ alL.drop 10 := by
  match j with
  | 0 => decide
  | 1 => decide
  | _ + 2 => exact (by decide : 2 ≤ (⟨#[90, 90, 90, 90]⟩ : ByteArray).size ∧ (⟨#[90, 90, 90, 90]⟩ : ByteArray).size ≤ 4 ∧ ∀ b ∈ (⟨#[90, 90, 90, 90]⟩ : ByteArray).data.toList, b ∈ alL.drop 10)
theorem prf_ne (j : Nat) : ((⟨#[65, 66]⟩ : ByteArray).toList == (prfT j).toList) = false := by
  rw [Lib.toList_data, Lib.toList_data]
  match j with
  | 0 => decide
  | 1 => decide
  | _ + 2 => exact (by decide : (([65, 66] : List UInt8) == [90, 90, 90, 90]) = false)
theorem ma_mb : (Op.bytesLess (⟨#[109, 98]⟩ : ByteArray).toList (⟨#[109, 97]⟩ : ByteArray).toList || (⟨#[109, 98]⟩ : ByteArray).toList == (⟨#[109, 97]⟩ : ByteArray).toList) = false := by
  rw [Lib.toList_data, Lib.toList_data]; decide
end Go.Proofs.YtgdnedhcbjonkaaGreatDoor

/- The shelf's Lays.n105 at this program. -/
namespace Go.Proofs.YtgdnedhcbjonkaaGreatDoor
open Go.RowKit Go.Shelf

def lay105_ren : Go.Shelf.Ren := ⟨fun | 105 => 76 | 212 => 123 | 99 => 124 | 165 => 125 | 166 => 126 | 170 => 127 | 169 => 128 | 263 => 178 | 264 => 179 | 206 => 180 | 240 => 181 | 241 => 182 | 276 => 212 | 277 => 213 | n => n, fun | 9 => 9 | 3 => 3 | 4 => 4 | 20 => 20 | 0 => 0 | 46 => 176 | 109 => 200 | 5 => 5 | 72 => 206 | 76 => 210 | 51 => 235 | 146 => 260 | 53 => 237 | 148 => 262 | 70 => 203 | 37 => 204 | 75 => 209 | 127 => 264 | 164 => 290 | 80 => 213 | n => n, fun  | n => n⟩
theorem lay105 : Lays.n105 Tryz.prog lay105_ren := {
  mixed := by kernel_rfl,
  f99 := Tryz.func124.trans (congrArg some (by kernel_rfl)),
  f105 := Tryz.func76.trans (congrArg some (by kernel_rfl)),
  f165 := Tryz.func125.trans (congrArg some (by kernel_rfl)),
  f166 := Tryz.func126.trans (congrArg some (by kernel_rfl)),
  f169 := Tryz.func128.trans (congrArg some (by kernel_rfl)),
  f170 := Tryz.func127.trans (congrArg some (by kernel_rfl)),
  f206 := Tryz.func180.trans (congrArg some (by kernel_rfl)),
  f212 := Tryz.func123.trans (congrArg some (by kernel_rfl)),
  f240 := Tryz.func181.trans (congrArg some (by kernel_rfl)),
  f241 := Tryz.func182.trans (congrArg some (by kernel_rfl)),
  f263 := Tryz.func178.trans (congrArg some (by kernel_rfl)),
  f264 := Tryz.func179.trans (congrArg some (by kernel_rfl)),
  f276 := Tryz.func212.trans (congrArg some (by kernel_rfl)),
  f277 := Tryz.func213.trans (congrArg some (by kernel_rfl)),
  t0 := Tryz.underlying0,
  a0 := Tryz.isAgg0,
  z0 := Tryz.sizeOf0,
  v0 := Tryz.zeroValue0,
  t3 := Tryz.underlying3,
  a3 := Tryz.isAgg3,
  z3 := Tryz.sizeOf3,
  v3 := Tryz.zeroValue3,
  t4 := Tryz.underlying4,
  a4 := Tryz.isAgg4,
  z4 := Tryz.sizeOf4,
  v4 := Tryz.zeroValue4,
  t5 := Tryz.underlying5,
  a5 := Tryz.isAgg5,
  z5 := Tryz.sizeOf5,
  v5 := Tryz.zeroValue5,
  t9 := Tryz.underlying9,
  a9 := Tryz.isAgg9,
  z9 := Tryz.sizeOf9,
  v9 := Tryz.zeroValue9,
  t20 := Tryz.underlying20,
  a20 := Tryz.isAgg20,
  z20 := Tryz.sizeOf20,
  v20 := Tryz.zeroValue20,
  t37 := Tryz.underlying204,
  a37 := Tryz.isAgg204,
  z37 := Tryz.sizeOf204,
  v37 := Tryz.zeroValue204,
  t46 := Tryz.underlying176,
  a46 := Tryz.isAgg176,
  z46 := Tryz.sizeOf176,
  v46 := Tryz.zeroValue176,
  t51 := Tryz.underlying235,
  a51 := Tryz.isAgg235,
  z51 := Tryz.sizeOf235,
  v51 := Tryz.zeroValue235,
  t53 := Tryz.underlying237,
  a53 := Tryz.isAgg237,
  z53 := Tryz.sizeOf237,
  v53 := Tryz.zeroValue237,
  t70 := Tryz.underlying203,
  a70 := Tryz.isAgg203,
  z70 := Tryz.sizeOf203,
  v70 := Tryz.zeroValue203,
  t72 := Tryz.underlying206,
  a72 := Tryz.isAgg206,
  z72 := Tryz.sizeOf206,
  v72 := Tryz.zeroValue206,
  t75 := Tryz.underlying209,
  a75 := Tryz.isAgg209,
  z75 := Tryz.sizeOf209,
  v75 := Tryz.zeroValue209,
  t76 := Tryz.underlying210,
  a76 := Tryz.isAgg210,
  z76 := Tryz.sizeOf210,
  v76 := Tryz.zeroValue210,
  t109 := Tryz.underlying200,
  a109 := Tryz.isAgg200,
  z109 := Tryz.sizeOf200,
  v109 := Tryz.zeroValue200,
  t127 := Tryz.underlying264,
  a127 := Tryz.isAgg264,
  z127 := Tryz.sizeOf264,
  v127 := Tryz.zeroValue264,
  t146 := Tryz.underlying260,
  a146 := Tryz.isAgg260,
  z146 := Tryz.sizeOf260,
  v146 := Tryz.zeroValue260,
  t148 := Tryz.underlying262,
  a148 := Tryz.isAgg262,
  z148 := Tryz.sizeOf262,
  v148 := Tryz.zeroValue262,
  t164 := Tryz.underlying290,
  a164 := Tryz.isAgg290,
  z164 := Tryz.sizeOf290,
  v164 := Tryz.zeroValue290 }
end Go.Proofs.YtgdnedhcbjonkaaGreatDoor

/- The shelf's LaysM.n171 at this program. -/
namespace Go.Proofs.YtgdnedhcbjonkaaGreatDoor
open Go.RowKit Go.Shelf

def lay171_ren : Go.Shelf.Ren := ⟨fun | 171 => 75 | 243 => 122 | 246 => 177 | 283 => 208 | 284 => 209 | 285 => 210 | 286 => 211 | 129 => 147 | 317 => 232 | 318 => 233 | 319 => 234 | 320 => 235 | 337 => 248 | 338 => 249 | n => n, fun | 3 => 3 | 9 => 9 | 2 => 2 | 4 => 4 | 171 => 286 | 0 => 0 | 53 => 237 | 37 => 204 | 5 => 5 | 173 => 288 | 212 => 312 | 51 => 235 | 20 => 20 | 213 => 313 | 46 => 176 | 232 => 324 | 233 => 325 | n => n, fun | 17 => 3 | 18 => 4 | 19 => 5 | n => n⟩
theorem lay171 : LaysM.n171 Tryz.prog lay171_ren := {
  mixed := by kernel_rfl,
  f129 := Tryz.func147.trans (congrArg some (by kernel_rfl)),
  f171 := Tryz.func75.trans (congrArg some (by kernel_rfl)),
  f243 := Tryz.func122.trans (congrArg some (by kernel_rfl)),
  f246 := Tryz.func177.trans (congrArg some (by kernel_rfl)),
  f283 := Tryz.func208.trans (congrArg some (by kernel_rfl)),
  f284 := Tryz.func209.trans (congrArg some (by kernel_rfl)),
  f285 := Tryz.func210.trans (congrArg some (by kernel_rfl)),
  f286 := Tryz.func211.trans (congrArg some (by kernel_rfl)),
  f317 := Tryz.func232.trans (congrArg some (by kernel_rfl)),
  f318 := Tryz.func233.trans (congrArg some (by kernel_rfl)),
  f319 := Tryz.func234.trans (congrArg some (by kernel_rfl)),
  f320 := Tryz.func235.trans (congrArg some (by kernel_rfl)),
  f337 := Tryz.func248.trans (congrArg some (by kernel_rfl)),
  f338 := Tryz.func249.trans (congrArg some (by kernel_rfl)),
  t0 := Tryz.underlying0,
  a0 := Tryz.isAgg0,
  z0 := Tryz.sizeOf0,
  v0 := Tryz.zeroValue0,
  t2 := Tryz.underlying2,
  a2 := Tryz.isAgg2,
  z2 := Tryz.sizeOf2,
  v2 := Tryz.zeroValue2,
  t3 := Tryz.underlying3,
  a3 := Tryz.isAgg3,
  z3 := Tryz.sizeOf3,
  v3 := Tryz.zeroValue3,
  t4 := Tryz.underlying4,
  a4 := Tryz.isAgg4,
  z4 := Tryz.sizeOf4,
  v4 := Tryz.zeroValue4,
  t5 := Tryz.underlying5,
  a5 := Tryz.isAgg5,
  z5 := Tryz.sizeOf5,
  v5 := Tryz.zeroValue5,
  t9 := Tryz.underlying9,
  a9 := Tryz.isAgg9,
  z9 := Tryz.sizeOf9,
  v9 := Tryz.zeroValue9,
  t20 := Tryz.underlying20,
  a20 := Tryz.isAgg20,
  z20 := Tryz.sizeOf20,
  v20 := Tryz.zeroValue20,
  t37 := Tryz.underlying204,
  a37 := Tryz.isAgg204,
  z37 := Tryz.sizeOf204,
  v37 := Tryz.zeroValue204,
  t46 := Tryz.underlying176,
  a46 := Tryz.isAgg176,
  z46 := Tryz.sizeOf176,
  v46 := Tryz.zeroValue176,
  t51 := Tryz.underlying235,
  a51 := Tryz.isAgg235,
  z51 := Tryz.sizeOf235,
  v51 := Tryz.zeroValue235,
  t53 := Tryz.underlying237,
  a53 := Tryz.isAgg237,
  z53 := Tryz.sizeOf237,
  v53 := Tryz.zeroValue237,
  t171 := Tryz.underlying286,
  a171 := Tryz.isAgg286,
  z171 := Tryz.sizeOf286,
  v171 := Tryz.zeroValue286,
  t173 := Tryz.underlying288,
  a173 := Tryz.isAgg288,
  z173 := Tryz.sizeOf288,
  v173 := Tryz.zeroValue288,
  t212 := Tryz.underlying312,
  a212 := Tryz.isAgg312,
  z212 := Tryz.sizeOf312,
  v212 := Tryz.zeroValue312,
  t213 := Tryz.underlying313,
  a213 := Tryz.isAgg313,
  z213 := Tryz.sizeOf313,
  t232 := Tryz.underlying324,
  a232 := Tryz.isAgg324,
  z232 := Tryz.sizeOf324,
  v232 := Tryz.zeroValue324,
  t233 := Tryz.underlying325,
  a233 := Tryz.isAgg325,
  z233 := Tryz.sizeOf325,
  v233 := Tryz.zeroValue325,
  g17 := by kernel_rfl,
  g18 := by kernel_rfl,
  g19 := by kernel_rfl,
  i0 := by kernel_rfl,
  i2 := by kernel_rfl,
  i3 := by kernel_rfl,
  i4 := by kernel_rfl,
  i5 := by kernel_rfl,
  i9 := by kernel_rfl,
  i20 := by kernel_rfl,
  i37 := by kernel_rfl,
  i46 := by kernel_rfl,
  i51 := by kernel_rfl,
  i53 := by kernel_rfl,
  i171 := by kernel_rfl,
  i173 := by kernel_rfl,
  i212 := by kernel_rfl,
  i232 := by kernel_rfl,
  i233 := by kernel_rfl,
  m17 := by kernel_rfl,
  m18 := by kernel_rfl,
  m19 := by kernel_rfl }
end Go.Proofs.YtgdnedhcbjonkaaGreatDoor

/- strings.Repeat of zeros, strconv.Itoa at this program; device.Serial of a model at hand, by their contracts. -/
namespace Go.Proofs.YtgdnedhcbjonkaaGreatDoor
open Go.RowKit Go.Shelf

theorem bld_extraS : Builder.Extra Tryz.prog lay105_ren := {
  sizeBuilder := by kernel_rfl, liesBuilder := by kernel_rfl, t5 := Tryz.underlying5, a5 := Tryz.isAgg5, z5 := Tryz.sizeOf5, v5 := Tryz.zeroValue5,
  infoByte := by kernel_rfl, cellsByte := by kernel_rfl, sizeByte := by kernel_rfl, neB5 := by decide }
def P10 (w : World) : Prop := Lib.TabIs Tryz.prog w "internal/strconv.uint64pow10" .u64 Lib.pow10Tab
theorem repeatL_zero (c : Nat) : Lib.repeatL [48] c = List.replicate c 48 := by
  induction c with
  | zero => rfl
  | succ c ih => rw [Lib.repeatL, ih, List.replicate_succ]; rfl
theorem repeat_any (c : Nat) (w : World) (hc : c ≤ 100) : Calls Tryz.prog 76 #[.string ⟨#[48]⟩, .int .i64 (c : Int)] w fun e w' => e = .returned (.string ⟨(List.replicate c 48).toArray⟩) ∧ Below w.heap.size w w' := by
  rcases Nat.lt_or_ge c 2 with h | h
  · have : c = 0 ∨ c = 1 := by omega
    rcases this with rfl | rfl
    · exact (Any.strings_Repeat_zero lay105 ⟨#[48]⟩ w).mono fun _ _ h => ⟨h.1, h.2 ▸ Below.refl _ _⟩
    · exact (Any.strings_Repeat_one lay105 ⟨#[48]⟩ w).mono fun _ _ h => ⟨h.1, h.2 ▸ Below.refl _ _⟩
  · refine (Any.strings_Repeat_main lay105 bld_extraS ⟨#[48]⟩ c w h (by omega) (by show 1 * c ≤ _; omega) (by decide)).mono ?_
    rintro e w' ⟨h1, h2⟩
    refine ⟨?_, h2⟩
    rw [h1]
    exact congrArg (fun l => Ending.returned (.string ⟨List.toArray l⟩)) (repeatL_zero c)
theorem itoaS_any (n : Nat) (w : World) (h1 : n ≤ 1000000000000000) (hT : P10 w) :
    Calls Tryz.prog 75 #[.int .i64 (n : Int)] w fun e w' => e = .returned (.string ⟨(Lib.decDigits n).toArray⟩) ∧ Below w.heap.size w w' := by
  refine (Any.strconv_Itoa lay171 (n : Int) (by omega) (by omega) w hT).mono ?_
  rintro e w' ⟨h1, k, os, rfl⟩
  refine ⟨?_, Lib.below_grow _ w (Nat.le_refl _) k os⟩
  rw [h1]
  unfold Lib.itoa
  rw [if_neg (by omega), Int.toNat_natCast]
theorem str_catS (l m : List UInt8) : (⟨l.toArray⟩ : ByteArray) ++ ⟨m.toArray⟩ = ⟨(l ++ m).toArray⟩ := by
  apply bytes_ext
  simp [ByteArray.data_append]
theorem str_addL {P : Program} (a b c : ByteArray) (l m : List UInt8) (ha : a = ⟨l.toArray⟩) (hb : b = ⟨m.toArray⟩) (hc : c = ⟨(l ++ m).toArray⟩) (h : l.length + m.length ≤ 1000000) (W : World) : (Op.stringOp .add a b).run P W = .ok (.string c) W := by
  subst ha; subst hb; subst hc
  have h1 : (⟨l.toArray⟩ : ByteArray).size = l.length := by simp [ByteArray.size]
  have h2 : (⟨m.toArray⟩ : ByteArray).size = m.length := by simp [ByteArray.size]
  rw [run_string_add_sum W _ _ (by omega), str_catS]
set_option maxRecDepth 100000 in
theorem enc_al : ∀ c ∈ alL, Utf8.encode (c.toNat : Int) = ⟨#[c]⟩ := by decide
theorem conv_al : ∀ c ∈ alL, ∀ W : World, (convert 5 9 (.int .u8 (c.toNat : Int))).run Tryz.prog W = .ok (.string ⟨#[c]⟩) W := by
  intro c hc W
  rw [run_convert_int_string W 5 9 .u8 _ (by rw [Tryz.underlying5]; rfl) Tryz.underlying9]
  rw [enc_al c hc]
theorem mem_drop_al {b : UInt8} (h : b ∈ alL.drop 10) : b ∈ alL := List.mem_of_mem_drop h
def SrPost (p : List UInt8) (k : Nat) (w : World) (e : Ending) (w' : World) : Prop :=
  e = .returned (.tuple #[.string ⟨(serT p k (ckC (p ++ padL k))).toArray⟩, .int .i64 0]) ∧ Below w.heap.size w w'
set_option maxRecDepth 100000 in
set_option maxHeartbeats 4000000 in
theorem serial_any (l : List Md) (s : ByteArray) (x : Md) (K k n c : Nat) (A : Option Addr) (w : World) (hl : MdsOk w l) (hn : l.length = n) (hn5 : n ≤ 50) (hnc : n ≤ c) (hr : Row w w.heap.size A (recs mdC l))
    (hK : fstM (fun x => x.k.toList == s.toList) l = (K : Int)) (hx : l[K]? = some x) (hk1 : 1 ≤ k) (hk2 : k ≤ 99999999) (hT : P10 w) :
    Calls Tryz.prog 38 #[.slice A n c, .string s, .int .i64 (k : Int)] w fun e w' => SrPost x.p.data.toList k w e w' := by
  have HCM := Lib.hid (checkModels_any l n c A w hl hn hn5 hnc hr)
  have HMO := Lib.hid (fun V (hV : Below w.heap.size w V) => model_any l s n c A V hn (by omega) (rowWide (hr.below hV) hV.size))
  have HR := Lib.hid (fun V (hV : Below w.heap.size w V) => (hr.below hV).posR mdC_len (by omega) (by have := (List.getElem?_eq_some_iff.1 hx).1; omega))
  have HO := hl.each x (List.mem_of_getElem? hx)
  have HP2 := HO.p2
  have HP4 := HO.p4
  have HPC := Lib.hid HO.pc
  have HX := Lib.hid hx
  have hKn : K < n := by have := (List.getElem?_eq_some_iff.1 hx).1; omega
  have HKI := Lib.hid hK
  have HT := Lib.hid (fun V (hV : Below w.heap.size w V) => show P10 V from Go.Joins.tab_stays (g := 3) (by kernel_rfl) hT hV (Nat.le_refl _))
  have hd8 := dec_len k 8 (by omega) (by omega)
  have hd1 := dec_pos k
  clear hl hn hr hK hx hT HO
  go_enter Tryz.func38, Tryz.ntmps38
  go_wp2_with (fail)
  refine HCM.out.mono ?_
  rintro e w1 ⟨rfl, hb1⟩
  have HB1 := Lib.hid hb1
  clear hb1
  go_wp2_with (fail)
  refine (HMO.out w1 HB1.out).mono ?_
  rw [HKI.out]
  rintro e w2 ⟨rfl, hb2⟩
  have HB2 := Lib.hid (HB1.out.trans (hb2.mono HB1.out.size))
  clear hb2
  have hKI : ¬ (K : Int) < 0 := by omega
  go_upto_region 9 with (go_at_call 74; refine (out_no _ _ _ _ (by omega) (by omega)).mono ?_; rintro e w' ⟨rfl, rfl⟩)
  go_wp2_with (fail)
  refine (itoaS_any k w2 (by omega) (HT.out _ HB2.out)).mono ?_
  rintro e w3 ⟨rfl, hb3⟩
  have HB3 := Lib.hid (HB2.out.trans (hb3.mono HB2.out.size))
  clear hb3
  obtain ⟨D, hD⟩ : ∃ D : ByteArray, D = ⟨(Lib.decDigits k).toArray⟩ := ⟨_, rfl⟩
  have hDs : D.size = (Lib.decDigits k).length := by rw [hD]; simp [ByteArray.size]
  rw [← hD]
  have h8 : (8 : Int) - ((Lib.decDigits k).length : Int) = ((8 - (Lib.decDigits k).length : Nat) : Int) := by omega
  have HD := Lib.hid hD
  clear hD
  go_wp2_with (fail)
  refine (repeat_any (8 - (Lib.decDigits k).length) w3 (by omega)).mono ?_
  rintro e w4 ⟨rfl, hb4⟩
  have HB4 := Lib.hid (HB3.out.trans (hb4.mono HB3.out.size))
  clear hb4 h8
  obtain ⟨Z, hZ⟩ : ∃ Z : ByteArray, Z = ⟨(List.replicate (8 - (Lib.decDigits k).length) 48).toArray⟩ := ⟨_, rfl⟩
  rw [← hZ]
  obtain ⟨pl, hpl⟩ : ∃ pl, pl = x.p.data.toList := ⟨_, rfl⟩
  have hp4 : pl.length ≤ 4 := by rw [hpl, ← size_list]; exact HP4
  have hN8 := pad_len k (by omega)
  have hck := ckC_mem (pl ++ padL k)
  obtain ⟨N, hN⟩ : ∃ Z : ByteArray, Z = ⟨(padL k).toArray⟩ := ⟨_, rfl⟩
  obtain ⟨S1, hS1⟩ : ∃ Z : ByteArray, Z = ⟨(pl ++ [45]).toArray⟩ := ⟨_, rfl⟩
  obtain ⟨S2, hS2⟩ : ∃ Z : ByteArray, Z = ⟨(pl ++ [45] ++ padL k).toArray⟩ := ⟨_, rfl⟩
  obtain ⟨S3, hS3⟩ : ∃ Z : ByteArray, Z = ⟨(pl ++ [45] ++ padL k ++ [45]).toArray⟩ := ⟨_, rfl⟩
  obtain ⟨S4, hS4⟩ : ∃ Z : ByteArray, Z = ⟨(pl ++ padL k).toArray⟩ := ⟨_, rfl⟩
  obtain ⟨ck, hcke⟩ : ∃ ck, ck = ckC (pl ++ padL k) := ⟨_, rfl⟩
  rw [← hcke] at hck
  obtain ⟨S5, hS5⟩ : ∃ Z : ByteArray, Z = ⟨(serT pl k ck).toArray⟩ := ⟨_, rfl⟩
  have hxp : x.p = ⟨pl.toArray⟩ := by rw [hpl]
  have hA1 : ∀ W, (Op.stringOp .add Z D).run Tryz.prog W = .ok (.string N) W := fun W => str_addL _ _ _ _ _ hZ HD.out hN (by rw [List.length_replicate]; omega) W
  have hA2 : ∀ W, (Op.stringOp .add x.p ⟨#[45]⟩).run Tryz.prog W = .ok (.string S1) W := fun W => str_addL _ _ _ pl [45] hxp rfl hS1 (by simp only [List.length_cons, List.length_nil]; omega) W
  have hA3 : ∀ W, (Op.stringOp .add S1 N).run Tryz.prog W = .ok (.string S2) W := fun W => str_addL _ _ _ (pl ++ [45]) (padL k) hS1 hN hS2 (by rw [List.length_append]; simp only [List.length_cons, List.length_nil]; omega) W
  have hA4 : ∀ W, (Op.stringOp .add S2 ⟨#[45]⟩).run Tryz.prog W = .ok (.string S3) W := fun W => str_addL _ _ _ (pl ++ [45] ++ padL k) [45] hS2 rfl hS3 (by rw [List.length_append, List.length_append]; simp only [List.length_cons, List.length_nil]; omega) W
  have hA5 : ∀ W, (Op.stringOp .add x.p N).run Tryz.prog W = .ok (.string S4) W := fun W => str_addL _ _ _ pl (padL k) hxp hN hS4 (by omega) W
  have hA6 : ∀ W, (Op.stringOp .add S3 ⟨#[ck]⟩).run Tryz.prog W = .ok (.string S5) W := fun W => str_addL _ _ _ (pl ++ [45] ++ padL k ++ [45]) [ck] hS3 rfl (by rw [hS5, serT_eq]) (by rw [List.length_append, List.length_append, List.length_append]; simp only [List.length_cons, List.length_nil]; omega) W
  have hcv : ∀ W, (convert 5 9 (.int .u8 (ck.toNat : Int))).run Tryz.prog W = .ok (.string ⟨#[ck]⟩) W := fun W => conv_al ck hck W
  have hS4l : S4.data.toList = pl ++ padL k := by rw [hS4]
  have HCO := Lib.hid (fun W => show Calls Tryz.prog 77 #[.string S4] W fun e w' => e = .returned (.int .u8 (ck.toNat : Int)) ∧ W = w' from by
    have := checkOf_any S4 W (by rw [size_list, hS4l, List.length_append]; omega) (fun b hb => by
      rw [hS4l] at hb
      rcases List.mem_append.1 hb with hb | hb
      · exact mem_drop_al (HPC.out b (by rw [← hpl]; exact hb))
      · exact digit_al b (pad_digit k b hb))
    rwa [hS4l, ← hcke] at this)
  have HF := Lib.hid (fun (W : World) (hW : Below w.heap.size w W) => show SrPost x.p.data.toList k w (.returned (.tuple #[.string S5, .int .i64 0])) W from ⟨by rw [hS5, hcke, hpl], hW⟩)
  have hKn2 : K < n := hKn
  obtain ⟨b, o, rfl, hb, hC⟩ := HR.out w4 HB4.out
  obtain ⟨_, c1, _⟩ := md_cells hC K x HX.out
  have hKnI : (K : Int) < n := by omega
  clear hZ hN hS1 hS2 hS3 hS4 hS4l hcke hS5 hC hck hN8 hDs
  obtain ⟨xp, exp⟩ : ∃ xp, xp = x.p := ⟨_, rfl⟩
  rw [← exp] at hA2 hA5 c1
  clear hxp hpl exp
  go_wp2_with (go_at_call 77; refine (HCO.out _).mono ?_; rintro e w' ⟨rfl, rfl⟩)
  refine bodyPost_ret (v := .tuple #[.string S5, .int .i64 0]) (by simp [results, Tryz.results38, go_sem]) rfl (HF.out _ HB4.out)
end Go.Proofs.YtgdnedhcbjonkaaGreatDoor

/- A number in bytealg.MaxLen. -/
namespace Go.Proofs.YtgdnedhcbjonkaaGreatDoor
open Go.RowKit Go.Shelf

def MlS (w : World) : Prop := ∃ m, w.cell? ⟨0, 0, none⟩ = some (.int .i64 m)
theorem MlS.below {w w' : World} (h : MlS w) (hb : Below w.heap.size w w') : MlS w' := by
  obtain ⟨m, hm⟩ := h
  exact ⟨m, (hb.cell (World.block_lt_of_cell? w _ hm)).trans hm⟩
end Go.Proofs.YtgdnedhcbjonkaaGreatDoor

/- The shelf's Lays.n125 at this program. -/
namespace Go.Proofs.YtgdnedhcbjonkaaGreatDoor
open Go.RowKit Go.Shelf

def lay125_ren : Go.Shelf.Ren := ⟨fun | 125 => 91 | 128 => 146 | 129 => 147 | n => n, fun | 46 => 176 | 3 => 3 | 51 => 235 | 53 => 237 | 4 => 4 | 5 => 5 | 9 => 9 | n => n, fun  | n => n⟩
theorem lay125 : Lays.n125 Tryz.prog lay125_ren := {
  mixed := by kernel_rfl,
  f125 := Tryz.func91.trans (congrArg some (by kernel_rfl)),
  f128 := Tryz.func146.trans (congrArg some (by kernel_rfl)),
  f129 := Tryz.func147.trans (congrArg some (by kernel_rfl)),
  t3 := Tryz.underlying3,
  a3 := Tryz.isAgg3,
  z3 := Tryz.sizeOf3,
  v3 := Tryz.zeroValue3,
  t4 := Tryz.underlying4,
  a4 := Tryz.isAgg4,
  z4 := Tryz.sizeOf4,
  v4 := Tryz.zeroValue4,
  t5 := Tryz.underlying5,
  a5 := Tryz.isAgg5,
  z5 := Tryz.sizeOf5,
  v5 := Tryz.zeroValue5,
  t9 := Tryz.underlying9,
  a9 := Tryz.isAgg9,
  z9 := Tryz.sizeOf9,
  v9 := Tryz.zeroValue9,
  t46 := Tryz.underlying176,
  a46 := Tryz.isAgg176,
  z46 := Tryz.sizeOf176,
  v46 := Tryz.zeroValue176,
  t51 := Tryz.underlying235,
  a51 := Tryz.isAgg235,
  z51 := Tryz.sizeOf235,
  v51 := Tryz.zeroValue235,
  t53 := Tryz.underlying237,
  a53 := Tryz.isAgg237,
  z53 := Tryz.sizeOf237,
  v53 := Tryz.zeroValue237 }
end Go.Proofs.YtgdnedhcbjonkaaGreatDoor

/- slices.SortFunc of the two edges of hub.offset that stand in order. -/
namespace Go.Proofs.YtgdnedhcbjonkaaGreatDoor
open Go.RowKit Go.Shelf

theorem edge1_any (a x b y : Int) (w : World) : Calls Tryz.prog 189 #[.agg #[.int .i64 a, .int .i64 x], .agg #[.int .i64 b, .int .i64 y]] w fun e w' => e = .returned (.int .i64 (cmpI a b)) ∧ Below w.heap.size w w' := by
  go_enter Tryz.func189, Tryz.ntmps189
  go_wp2_with (go_at_call 37; refine (compare_any _ _ _).mono ?_; rintro e w' ⟨rfl, rfl⟩)
  go_ret
  exact ⟨rfl, ((Below.refl _ _).alloc (Nat.le_refl _) _).alloc (by simp) _⟩
set_option maxHeartbeats 1000000 in
theorem insE_two (b o c : Nat) (p x q y : Int) (w : World) (hpq : p < q) (k0 : w.cell? ⟨b, o, none⟩ = some (.int .i64 p)) (k1 : w.cell? ⟨b, o + 1, none⟩ = some (.int .i64 x)) (k2 : w.cell? ⟨b, o + 2, none⟩ = some (.int .i64 q)) (k3 : w.cell? ⟨b, o + 3, none⟩ = some (.int .i64 y)) :
    Calls Tryz.prog 237 #[.slice (some ⟨b, o, none⟩) 2 c, .int .i64 0, .int .i64 2, .func (.func 189) #[] #[]] w fun e w' => e = .returned (.tuple #[]) ∧ Below w.heap.size w w' := by
  have hb := World.block_lt_of_cell? w _ k0
  simp only at hb
  have hrun : ∀ (args : Array Value) (V : World), (callFunc 189 args).run Tryz.prog V = .ok (.enter 189 args) V := fun args V => call_enterM Tryz.func189 (by kernel_rfl) (by kernel_rfl) args V
  have HKEEP := Lib.hid (fun (V : World) (hV : Below w.heap.size w V) => show V.cell? ⟨b, o, none⟩ = some (.int .i64 p) ∧ V.cell? ⟨b, o + 1, none⟩ = some (.int .i64 x) ∧ V.cell? ⟨b, o + 2, none⟩ = some (.int .i64 q) ∧ V.cell? ⟨b, o + 3, none⟩ = some (.int .i64 y) from ⟨(hV.cell (p := ⟨b, o, none⟩) hb).trans k0, (hV.cell (p := ⟨b, o + 1, none⟩) hb).trans k1, (hV.cell (p := ⟨b, o + 2, none⟩) hb).trans k2, (hV.cell (p := ⟨b, o + 3, none⟩) hb).trans k3⟩)
  have HE := Lib.hid (fun V => edge1_any q y p x V)
  rw [show cmpI q p = 1 from by unfold cmpI; rw [if_neg (by omega), if_pos (by omega)]] at HE
  have w1 : IntKind.i64.wrap (1 - 1) = 0 := by decide
  have w2 : IntKind.i64.wrap 0 = 0 := by decide
  have z0 : (0 : Nat) < 2 := by omega
  have z1 : (0 : Int) < 2 := by omega
  have z2 : (0 : Int) ≤ 0 := by omega
  go_enter Tryz.func237, Tryz.ntmps237
  go_wp2_with (fail)
  refine wp_loop_rounds 2 ?_
  rw [rounds_succ]
  go_wp2_with (fail)
  refine wp_loop_rounds 1 ?_
  rw [rounds_succ]
  go_wp2_with (fail)
  go_region_held3 (fun V => V.cell? ⟨b, o, none⟩ = some (.int .i64 p) ∧ V.cell? ⟨b, o + 1, none⟩ = some (.int .i64 x) ∧ V.cell? ⟨b, o + 2, none⟩ = some (.int .i64 q) ∧ V.cell? ⟨b, o + 3, none⟩ = some (.int .i64 y))
    (first | go_keep | (exact hS))
    (first | (go_at_call 189; refine (HE.out _).mono ?_; rintro e wA ⟨rfl, hB⟩; have hS0 : Below w.heap.size w wA := ((Below.refl w.heap.size w).drew).trans hB; have hS := HKEEP.out wA hS0))
  all_goals
    go_wp2_with (fail)
    rw [rounds_succ]
    go_wp2_with (fail)
    go_end0
    exact ⟨rfl, hS0⟩
theorem bitsLenS (n : Int) (W : World) (h0 : 0 ≤ n) (h : n ≤ 5000) : Calls Tryz.prog 91 #[.int .u64 n] W fun e w' => (∃ l : Int, e = .returned (.int .i64 l)) ∧ w' = W :=
  (Any.bits_Len lay125 n W h0 (by omega)).mono fun _ _ ⟨he, hw⟩ => ⟨⟨_, he⟩, hw⟩
theorem pdqE_two (b o c : Nat) (p x q y l : Int) (w : World) (hpq : p < q) (k0 : w.cell? ⟨b, o, none⟩ = some (.int .i64 p)) (k1 : w.cell? ⟨b, o + 1, none⟩ = some (.int .i64 x)) (k2 : w.cell? ⟨b, o + 2, none⟩ = some (.int .i64 q)) (k3 : w.cell? ⟨b, o + 3, none⟩ = some (.int .i64 y)) :
    Calls Tryz.prog 216 #[.slice (some ⟨b, o, none⟩) 2 c, .int .i64 0, .int .i64 2, .int .i64 l, .func (.func 189) #[] #[]] w fun e w' => e = .returned (.tuple #[]) ∧ Below w.heap.size w w' := by
  have HI := Lib.hid (insE_two b o c p x q y w hpq k0 k1 k2 k3)
  clear k0 k1 k2 k3 hpq
  go_enter Tryz.func216, Tryz.ntmps216
  go_wp2_with (fail)
  refine wp_loop_rounds 1 ?_
  rw [rounds_succ]
  go_wp2_with (fail)
  refine HI.out.mono ?_
  rintro e w1 ⟨rfl, hb⟩
  have HB := Lib.hid hb
  clear hb
  go_wp2_with (fail)
  (try simp only [Exit.inBlock, Exit.then]); refine bodyPost_ret (results_none rfl _ _ _) rfl ?_
  exact ⟨rfl, HB.out⟩
theorem sortE_two (b o c : Nat) (p x q y : Int) (w : World) (hpq : p < q) (k0 : w.cell? ⟨b, o, none⟩ = some (.int .i64 p)) (k1 : w.cell? ⟨b, o + 1, none⟩ = some (.int .i64 x)) (k2 : w.cell? ⟨b, o + 2, none⟩ = some (.int .i64 q)) (k3 : w.cell? ⟨b, o + 3, none⟩ = some (.int .i64 y)) :
    Calls Tryz.prog 188 #[.slice (some ⟨b, o, none⟩) 2 c, .func (.func 189) #[] #[]] w fun e w' => e = .returned (.tuple #[]) ∧ Below w.heap.size w w' := by
  have HI := Lib.hid (fun l => pdqE_two b o c p x q y l w hpq k0 k1 k2 k3)
  clear k0 k1 k2 k3 hpq
  have HL := Lib.hid (bitsLenS 2 w (by omega) (by omega))
  go_enter Tryz.func188, Tryz.ntmps188
  go_wp2_with (fail)
  refine HL.out.mono ?_
  rintro e w1 ⟨⟨l, rfl⟩, rfl⟩
  go_wp2_with (fail)
  refine (HI.out l).mono ?_
  rintro e w1 ⟨rfl, hb⟩
  have HB := Lib.hid hb
  clear hb
  go_wp2_with (fail)
  go_end0
  exact ⟨rfl, HB.out⟩
end Go.Proofs.YtgdnedhcbjonkaaGreatDoor

/- A slice that lies in memory, or is nil; append of it; no program in sight. -/
namespace Go.Proofs.YtgdnedhcbjonkaaGreatDoor
open Go.RowKit

theorem run_append_empty {P : Program} (w : World) (t ty e : TypeId) (i : TypeInfo) (ht : P.underlying t = some (.slice e)) (hi : P.info? e = some i) (base : Option Addr) (l c : Nat) (hlc : l ≤ c) :
    (Builtin.append_ #[t, t] ty #[.slice base l c, .slice none 0 0]).run P w = .ok (.slice base l c) w := by
  cases base <;> simp [Builtin.append_, run_underlying ht, sizeOf, typeInfo, hi, Builtin.lenOf, Builtin.firstCells, loadCells, hlc, storeCells]

/-- A slice lies in memory: nil, or in a block that is there. -/
def Ly (w : World) (A : Option Addr) (n c : Nat) (xs : List Value) : Prop := (A = none ∧ n = 0 ∧ c = 0 ∧ xs = []) ∨ ∃ b o, A = some ⟨b, o, none⟩ ∧ b < w.heap.size ∧ Cells w b o xs
theorem Ly.below {w w' : World} {A : Option Addr} {n c : Nat} {xs : List Value} (h : Ly w A n c xs) (hb : Below w.heap.size w w') : Ly w' A n c xs := by
  rcases h with h | ⟨b, o, e, hlt, hc⟩
  · exact .inl h
  · exact .inr ⟨b, o, e, by have := hb.size; omega, hc.keep (hb.block b hlt)⟩
theorem Ly.row {w w' : World} {A : Option Addr} {n c base : Nat} {xs : List Value} {row : Option Nat} (h : Ly w A n c xs) (hg : w.grownBy w' row) (hr : ∀ g, row = some g → base ≤ g) (hb : ∀ b o, A = some ⟨b, o, none⟩ → b < base) : Ly w' A n c xs := by
  rcases h with h | ⟨b, o, e, hlt, hc⟩
  · exact .inl h
  · have hbb := hb b o e
    exact .inr ⟨b, o, e, by have := hg.size; omega, hc.keep (hg.block b hlt (fun e => by have := hr b e.symm; omega))⟩
theorem own_ly {w : World} {base : Nat} {e : TypeId} {size n : Nat} {A : Option Addr} {c : Nat} {xs : List Value} (h : w.ownsRow base e size (.slice A n c) n xs) : Ly w A n c xs := by
  rcases h.2 with ⟨hv, hn⟩ | ⟨g, cap, cur, hv, _, hh, _, _, _, ht⟩
  · injection hv with h1 h2 h3
    exact .inl ⟨h1, hn, h3, List.eq_nil_of_length_eq_zero (by rw [h.1, hn]; simp)⟩
  · rcases own_row h with hx | ⟨b, o, e, hb, hc⟩
    · injection hv with h1 h2 h3
      subst hx
      exact .inr ⟨g, 0, h1, (Array.getElem?_eq_some_iff.1 hh).1, fun j v hv => by simp at hv⟩
    · exact .inr ⟨b, o, e, hb, hc⟩
theorem app_ly {P : Program} (w : World) (base : Nat) (t ty e : TypeId) (i : TypeInfo) (z : Value) (size bytes : Nat) (ht : P.underlying t = some (.slice e)) (hi : P.info? e = some i) (hz : i.zero = some z) (hsize : i.size = size) (hby : i.bytes = bytes) (hzs : z.cells.size = size) (hsz : 0 < size)
    (v : Value) (n : Nat) (xs : List Value) (hown : w.ownsRow base e size v n xs) (A : Option Addr) (m c : Nat) (news : List Value) (hl : news.length = m * size) (hly : Ly w A m c news) (h1 : ∀ u ∈ news, u.oneCell' = true)
    (h63 : n + m ≤ maxLen) (hbytes : (n + m) * bytes ≤ 140737488355328) (hbase : base ≤ w.heap.size) :
    ∃ v' w', (Builtin.append_ #[t, t] ty #[v, .slice A m c]).run P w = .ok v' w' ∧ w'.ownsRow base e size v' (n + m) (xs ++ news) ∧ w.grownBy w' v.ownBlock := by
  rcases hly with ⟨rfl, rfl, rfl, rfl⟩ | ⟨b, o, rfl, hb, hc⟩
  · obtain ⟨A0, c0, rfl⟩ := own_slice hown
    have hcap : n ≤ c0 := by
      rcases hown.2 with ⟨hv, hn⟩ | ⟨g, cap, cur, hv, _, _, hc, _⟩
      · omega
      · injection hv with _ _ hc'; omega
    exact ⟨_, _, run_append_empty w t ty e i ht hi A0 n c0 hcap, by simpa using hown, grown_refl _ _⟩
  · obtain ⟨v', w', h2, h3, h4, _⟩ := run_append_own (P := P) w base t ty e i z size bytes ht hi hz hsize hby hzs hsz v n xs hown ⟨b, o, none⟩ m c news hl (fun j u hu => by rw [Addr.add_lit]; exact hc j u hu) h1 h63 hbytes hbase
    exact ⟨v', w', h2, h3, h4⟩

end Go.Proofs.YtgdnedhcbjonkaaGreatDoor

/- hub.offset of one ping. -/
namespace Go.Proofs.YtgdnedhcbjonkaaGreatDoor
open Go.RowKit

theorem Tryz.infoEdge : (Tryz.prog.info? 270).map (fun i => (i.zero, i.size, i.bytes)) = some (some (.agg #[.int .i64 0, .int .i64 0]), 2, 16) := by kernel_rfl
theorem three_set (W : World) (r : Nat) (a b c : Value) {u v x : Value} (h0 : W.cell? ⟨r, 0, none⟩ = some u) (h1 : W.cell? ⟨r, 1, none⟩ = some v) (h2 : W.cell? ⟨r, 2, none⟩ = some x) :
    let U := ((W.setCell ⟨r, 0, none⟩ a).setCell ⟨r, 1, none⟩ b).setCell ⟨r, 2, none⟩ c
    U.cell? ⟨r, 0, none⟩ = some a ∧ U.cell? ⟨r, 1, none⟩ = some b ∧ U.cell? ⟨r, 2, none⟩ = some c := by
  have n01 : (⟨r, 0, none⟩ : Addr) ≠ ⟨r, 1, none⟩ := by simp
  have n02 : (⟨r, 0, none⟩ : Addr) ≠ ⟨r, 2, none⟩ := by simp
  have n12 : (⟨r, 1, none⟩ : Addr) ≠ ⟨r, 2, none⟩ := by simp
  refine ⟨?_, ?_, ?_⟩
  · rw [World.cell?_setCell_other _ _ _ _ n02.symm, World.cell?_setCell_other _ _ _ _ n01.symm]
    exact World.cell?_setCell_same _ _ _ h0
  · rw [World.cell?_setCell_other _ _ _ _ n12.symm]
    exact World.cell?_setCell_same _ _ _ (by rw [World.cell?_setCell_other _ _ _ _ n01]; exact h1)
  · exact World.cell?_setCell_same _ _ _ (by rw [World.cell?_setCell_other _ _ _ _ n12, World.cell?_setCell_other _ _ _ _ n02]; exact h2)
theorem app4 (a b c d : Value) (X : Array Value) : (#[a, b, c, d] ++ X)[0]? = some a ∧ (#[a, b, c, d] ++ X)[0 + 1]? = some b ∧ (#[a, b, c, d] ++ X)[0 + 2]? = some c ∧ (#[a, b, c, d] ++ X)[0 + 3]? = some d := by
  refine ⟨?_, ?_, ?_, ?_⟩ <;> (rw [Array.getElem?_append_left (by simp)]; rfl)
theorem four_blocks (w : World) (A B C D : Obj) : let V := ((((w.alloc A).alloc B).alloc C).alloc D).drew
    V.heap[w.heap.size]? = some A ∧ V.heap[w.heap.size + 1 + 1 + 1]? = some D ∧ V.heap.size = w.heap.size + 4 ∧ Below w.heap.size w V := by
  have b1 := (Below.refl (w.heap.size + 1) (w.alloc A)).alloc (by simp) B
  have b2 := b1.alloc (by simp <;> omega) C
  have b3 := (b2.alloc (by simp <;> omega) D).drew
  refine ⟨(b3.block w.heap.size (by simp)).trans (heap_new w A), ?_, by simp [World.drew], ((((Below.refl _ w).alloc (Nat.le_refl _) A).alloc (by simp) B).alloc (by simp <;> omega) C).alloc (by simp <;> omega) D |>.drew⟩
  have := heap_new (((w.alloc A).alloc B).alloc C) D
  have e : (((w.alloc A).alloc B).alloc C).heap.size = w.heap.size + 1 + 1 + 1 := by simp
  rw [e] at this
  exact this
set_option maxRecDepth 100000 in
set_option maxHeartbeats 1000000 in
theorem offset_one (b o c : Nat) (w : World) (k0 : w.cell? ⟨b, o, none⟩ = some (.string ⟨#[104]⟩)) (k1 : w.cell? ⟨b, o + 1, none⟩ = some (.int .i64 10)) (k2 : w.cell? ⟨b, o + 2, none⟩ = some (.int .i64 15)) (k3 : w.cell? ⟨b, o + 3, none⟩ = some (.int .i64 10)) :
    Calls Tryz.prog 137 #[.slice (some ⟨b, o, none⟩) 1 c, .string ⟨#[104]⟩] w fun e w' => e = .returned (.tuple #[.agg #[.int .i64 5, .int .i64 5, .int .i64 1], .bool true]) ∧ Below w.heap.size w w' := by
  have hb := World.block_lt_of_cell? w _ k0
  simp only at hb
  obtain ⟨i0, hi0, hz0, hz1, hz2⟩ := info_parts Tryz.infoEdge
  go_enter Tryz.func137, Tryz.ntmps137
  go_wp2_with (fail)
  refine wp_loop_rounds 2 ?_
  rw [rounds_succ]
  go_wp2_with (fail)
  rw [rounds_succ]
  go_wp2_with (fail)
  generalize hG : (Question.appendCap 2 0 270).cut (w.tape w.drawn (Question.appendCap 2 0 270)) = G
  have hF := four_blocks w (.cells #[.int .i64 0, .int .i64 0, .int .i64 0] 225) (.cells #[.string ⟨#[104]⟩, .int .i64 10, .int .i64 15, .int .i64 10] 107) (.cells #[.int .i64 5, .int .i64 1, .int .i64 6, .int .i64 (-1)] 270) (.cells (#[.int .i64 5, .int .i64 1, .int .i64 6, .int .i64 (-1)] ++ Builtin.zeroCells #[.int .i64 0, .int .i64 0] (G - 2)) 270)
  generalize ((((w.alloc (.cells #[.int .i64 0, .int .i64 0, .int .i64 0] 225)).alloc (.cells #[.string ⟨#[104]⟩, .int .i64 10, .int .i64 15, .int .i64 10] 107)).alloc (.cells #[.int .i64 5, .int .i64 1, .int .i64 6, .int .i64 (-1)] 270)).alloc (.cells (#[.int .i64 5, .int .i64 1, .int .i64 6, .int .i64 (-1)] ++ Builtin.zeroCells #[.int .i64 0, .int .i64 0] (G - 2)) 270)).drew = V at hF ⊢
  simp only at hF
  obtain ⟨f0, f3, fz, fb⟩ := hF
  have c0 : V.cell? ⟨w.heap.size + 1 + 1 + 1, 0, none⟩ = some (.int .i64 5) := cell_of_blk f3 (app4 _ _ _ _ _).1
  have c1 : V.cell? ⟨w.heap.size + 1 + 1 + 1, 0 + 1, none⟩ = some (.int .i64 1) := cell_of_blk f3 (app4 _ _ _ _ _).2.1
  have c2 : V.cell? ⟨w.heap.size + 1 + 1 + 1, 0 + 2, none⟩ = some (.int .i64 6) := cell_of_blk f3 (app4 _ _ _ _ _).2.2.1
  have c3 : V.cell? ⟨w.heap.size + 1 + 1 + 1, 0 + 3, none⟩ = some (.int .i64 (-1)) := cell_of_blk f3 (app4 _ _ _ _ _).2.2.2
  refine (sortE_two (w.heap.size + 1 + 1 + 1) 0 G 5 1 6 (-1) V (by omega) c0 c1 c2 c3).mono ?_
  rintro e w5 ⟨rfl, hb5⟩
  have hz3 : w.heap.size + 1 + 1 + 1 < V.heap.size := by omega
  have d0 := (hb5.cell (p := ⟨w.heap.size + 1 + 1 + 1, 0, none⟩) (by simp [fz])).trans c0
  have d1 := (hb5.cell (p := ⟨w.heap.size + 1 + 1 + 1, 0 + 1, none⟩) (by simp [fz])).trans c1
  have d2 := (hb5.cell (p := ⟨w.heap.size + 1 + 1 + 1, 0 + 2, none⟩) (by simp [fz])).trans c2
  have d3 := (hb5.cell (p := ⟨w.heap.size + 1 + 1 + 1, 0 + 3, none⟩) (by simp [fz])).trans c3
  have g0 := (hb5.block w.heap.size (by omega)).trans f0
  have r0 := cell_of_blk (j := 0) g0 rfl
  simp only [Nat.zero_add] at d1 d2 d3
  have HB := Lib.hid (And.intro fb (And.intro hb5 fz))
  have hz5 : w.heap.size < w5.heap.size := by have := hb5.size; omega
  have hz6 : w.heap.size + 1 + 1 + 1 < w5.heap.size := by have := hb5.size; omega
  clear c0 c1 c2 c3 f0 f3 fb fz hG hb5 k0 k1 k2 k3
  obtain ⟨g, hg⟩ : ∃ g, g = w.heap.size + 1 + 1 + 1 := ⟨_, rfl⟩
  rw [← hg] at d0 d1 d2 d3 hz6 ⊢
  obtain ⟨r, hr⟩ : ∃ r, r = w.heap.size := ⟨_, rfl⟩
  have HR := Lib.hid (And.intro hr hg)
  clear hg
  rw [← hr] at g0 r0 hz5 ⊢
  clear hr
  go_wp2_with (fail)
  refine wp_loop_rounds 2 ?_
  rw [rounds_succ]
  go_wp2_with (fail)
  refine wp_loop_rounds 2 ?_
  rw [rounds_succ]
  go_wp2_with (fail)
  rw [rounds_succ]
  go_wp2_with (fail)
  rw [rounds_succ]
  go_wp2_with (fail)
  refine wp_loop_rounds 2 ?_
  rw [rounds_succ]
  go_wp2_with (fail)
  rw [rounds_succ]
  go_wp2_with (fail)
  have bW : Below w5.heap.size w5 (w5.alloc (.cells #[.int .i64 5, .int .i64 5, .int .i64 1] 225)) := (Below.refl _ _).alloc (Nat.le_refl _) _
  have G0 := (bW.block r hz5).trans g0
  have GZ := heap_new w5 (.cells #[.int .i64 5, .int .i64 5, .int .i64 1] 225)
  generalize hW : w5.alloc (.cells #[.int .i64 5, .int .i64 5, .int .i64 1] 225) = W at G0 GZ bW ⊢
  have hne : ¬ r = w5.heap.size := by omega
  generalize hz : w5.heap.size = z at GZ hne ⊢
  have e0 : W.cell? ⟨z, 0, none⟩ = some (.int .i64 5) := cell_of_blk GZ rfl
  have e1 : W.cell? ⟨z, 1, none⟩ = some (.int .i64 5) := cell_of_blk GZ rfl
  have e2 : W.cell? ⟨z, 2, none⟩ = some (.int .i64 1) := cell_of_blk GZ rfl
  have x0 : W.cell? ⟨r, 0, none⟩ = some (.int .i64 0) := cell_of_blk G0 rfl
  have x1 : W.cell? ⟨r, 1, none⟩ = some (.int .i64 0) := cell_of_blk G0 rfl
  have x2 : W.cell? ⟨r, 2, none⟩ = some (.int .i64 0) := cell_of_blk G0 rfl
  have y0 : W.frozen? ⟨r, 0, none⟩ = false := by simp [World.frozen?, G0]
  have y1 : W.frozen? ⟨r, 1, none⟩ = false := by simp [World.frozen?, G0]
  have y2 : W.frozen? ⟨r, 2, none⟩ = false := by simp [World.frozen?, G0]
  have hrW : r < W.heap.size := (Array.getElem?_eq_some_iff.1 G0).1
  have HBW := Lib.hid bW
  have HZ := Lib.hid hz
  clear bW d0 d1 d2 d3 g0 r0 hW hz hz5 hz6 GZ
  go_region
  have hU := three_set W r (.int .i64 5) (.int .i64 5) (.int .i64 1) x0 x1 x2
  have hbU : Below w.heap.size w (((W.setCell ⟨r, 0, none⟩ (.int .i64 5)).setCell ⟨r, 1, none⟩ (.int .i64 5)).setCell ⟨r, 2, none⟩ (.int .i64 1)).drew := by
    have b0 := HB.out.1
    have b1 := b0.trans (HB.out.2.1.mono b0.size)
    have b2 := b1.trans (HBW.out.mono b1.size)
    have er : w.heap.size ≤ r := by have := HR.out.1; omega
    exact (((b2.setCell (p := ⟨r, 0, none⟩) er _).setCell (p := ⟨r, 1, none⟩) er _).setCell (p := ⟨r, 2, none⟩) er _).drew
  simp only at hU
  have HBU := Lib.hid hbU
  clear hbU
  generalize ((W.setCell ⟨r, 0, none⟩ (.int .i64 5)).setCell ⟨r, 1, none⟩ (.int .i64 5)).setCell ⟨r, 2, none⟩ (.int .i64 1) = U at hU HBU ⊢
  have q0 : U.drew.cell? ⟨r, 0, none⟩ = some (.int .i64 5) := hU.1
  have q1 : U.drew.cell? ⟨r, 1, none⟩ = some (.int .i64 5) := hU.2.1
  have q2 : U.drew.cell? ⟨r, 2, none⟩ = some (.int .i64 1) := hU.2.2
  go_wp2_with (fail)
  exact bodyPost_ret (v := .tuple #[.agg #[.int .i64 5, .int .i64 5, .int .i64 1], .bool true]) (by simp [results, Tryz.results137, go_sem, q0, q1, q2]) rfl ⟨rfl, HBU.out⟩
end Go.Proofs.YtgdnedhcbjonkaaGreatDoor

/- hub.Repair of one ping. -/
namespace Go.Proofs.YtgdnedhcbjonkaaGreatDoor
open Go.RowKit Go.Maps Go.WideMaps

/-- The ping of 'ready'. -/
structure PingAt (w : World) (b o : Nat) : Prop where
  c0 : w.cell? ⟨b, o, none⟩ = some (.string ⟨#[104]⟩)
  c1 : w.cell? ⟨b, o + 1, none⟩ = some (.int .i64 10)
  c2 : w.cell? ⟨b, o + 2, none⟩ = some (.int .i64 15)
  c3 : w.cell? ⟨b, o + 3, none⟩ = some (.int .i64 10)
theorem PingAt.below {w w' : World} {b o : Nat} (h : PingAt w b o) (hb : Below w.heap.size w w') : PingAt w' b o := by
  have hlt := World.block_lt_of_cell? w _ h.c0
  simp only at hlt
  exact ⟨(hb.cell (p := ⟨b, o, none⟩) hlt).trans h.c0, (hb.cell (p := ⟨b, o + 1, none⟩) hlt).trans h.c1, (hb.cell (p := ⟨b, o + 2, none⟩) hlt).trans h.c2, (hb.cell (p := ⟨b, o + 3, none⟩) hlt).trans h.c3⟩
theorem key_h (w : World) : Calls Tryz.prog 93 #[.string ⟨#[104]⟩] w fun e w' => e = .returned (.bool true) ∧ w = w' := key_yes ⟨#[104]⟩ w (by kernel_rfl)
set_option maxRecDepth 100000 in
set_option maxHeartbeats 1000000 in
theorem pings_one (b o c : Nat) (w : World) (h : PingAt w b o) : Calls Tryz.prog 136 #[.slice (some ⟨b, o, none⟩) 1 c] w fun e w' => e = .returned (.int .i64 0) ∧ Below w.heap.size w w' := by
  obtain ⟨k0, k1, k2, k3⟩ := h
  have hb := World.block_lt_of_cell? w _ k0
  simp only at hb
  go_enter Tryz.func136, Tryz.ntmps136
  go_wp2_with (fail)
  refine wp_loop_rounds 2 ?_
  rw [rounds_succ]
  go_wp2_with (first | (go_at_call 93; refine (key_h _).mono ?_; rintro e w' ⟨rfl, rfl⟩) | (go_at_call 50; refine (moment_yes _ _ (by omega) (by omega)).mono ?_; rintro e w' ⟨rfl, rfl⟩))
  go_quiet (fail)
  go_wp2_with (fail)
  rw [rounds_succ]
  go_wp2_with (fail)
  go_ret
  exact ⟨rfl, below_drewN ((Below.refl _ _).alloc (Nat.le_refl _) _) _⟩
theorem down_ten (w : World) : Calls Tryz.prog 138 #[.int .i64 10, .int .i64 2] w fun e w' => e = .returned (.int .i64 5) ∧ w = w' := by
  go_enter Tryz.func138, Tryz.ntmps138
  go_wp2_with (fail)
  go_ret
  exact ⟨rfl, rfl⟩
theorem hubFault_one (b o c : Nat) (w : World) (h : PingAt w b o) : Calls Tryz.prog 85 #[.slice (some ⟨b, o, none⟩) 1 c, .string ⟨#[104]⟩] w fun e w' => e = .returned (.int .i64 0) ∧ Below w.heap.size w w' := by
  go_enter Tryz.func85, Tryz.ntmps85
  go_wp2_with (fail)
  refine (pings_one b o c w h).mono ?_
  rintro e w1 ⟨rfl, hb1⟩
  go_wp2_with (go_at_call 93; refine (key_h _).mono ?_; rintro e w' ⟨rfl, rfl⟩)
  go_ret
  exact ⟨rfl, hb1⟩
theorem newClocks_any (A : Option Addr) (n c : Nat) (w : World) : Calls Tryz.prog 86 #[.slice A n c] w fun e w' => e = .returned (.pointer (some ⟨w.heap.size + 1, 0, none⟩)) ∧ w' = (w.alloc (.map #[] 0)).alloc (.cells #[.slice A n c, .map (some w.heap.size)] 222) := by
  have hmm := @run_makeMap Tryz.prog
  go_enter Tryz.func86, Tryz.ntmps86
  go_wp2_with (fail)
  go_ret
  exact ⟨rfl, rfl⟩
theorem run_findKey_nil {P : Program} {k : TypeId} {d : TypeDesc} {w : World} {v : Value} (hk : P.underlying k = some d) : (Instr.findKey k v []).run P w = .ok none w := by
  simp [Instr.findKey, run_underlying hk, Instr.findNow, Result.andThen]
theorem run_lookup_none {P : Program} {t k e : TypeId} {w : World} {b : Nat} {s : ByteArray} {z : Value} (ht : P.underlying t = some (.map k e)) (hk : P.underlying k = some .string) (hz : (zeroValue e).run P w = .ok z w) (hs : s.size ≤ maxLen) (hb : w.heap[b]? = some (.map #[] 0)) :
    (Instr.lookup t (.map (some b)) (.string s) true).run P w = .ok (.tuple #[z, .bool false]) w := by
  have hc := fun x => (WideMaps.string_law (P := P) hk).check w x (keyOf_string_mk hk hs)
  simp [Instr.lookup, run_underlying ht, MapKept.run_getObj_map hb, hc, run_findKey_nil hk, hz, Result.andThen]
theorem run_update_none {P : Program} {t k e : TypeId} {w : World} {b : Nat} {s : ByteArray} {v : Value} (ht : P.underlying t = some (.map k e)) (hk : P.underlying k = some .string) (hs : s.size ≤ maxLen) (hb : w.heap[b]? = some (.map #[] 0)) :
    (Instr.mapUpdate t (.map (some b)) (.string s) v).run P w = .ok () { w with heap := w.heap.setIfInBounds b (.map #[{ key := .string s, val := v, born := 0 }] 1) } := by
  have hc := fun x => (WideMaps.string_law (P := P) hk).check w x (keyOf_string_mk hk hs)
  simp [Instr.mapUpdate, run_underlying ht, MapKept.run_getObj_map hb, hc, run_findKey_nil hk, MapKept.run_setObj_map _ hb, Result.andThen]
theorem below_setMap {B m : Nat} {w V : World} (h : Below B w V) (hm : B ≤ m) (o : Obj) : Below B w { V with heap := V.heap.setIfInBounds m o } :=
  ⟨h.os, h.tape, h.output, by simpa using h.size, fun k hk => by
    rw [← h.block k hk]
    exact Array.getElem?_setIfInBounds_ne (by omega)⟩
set_option maxRecDepth 100000 in
set_option maxHeartbeats 1000000 in
theorem repairM_one (b o c g m : Nat) (w W : World) (h : PingAt W b o) (hm : W.heap[m]? = some (.map #[] 0)) (hmw : w.heap.size ≤ m) (g0 : W.cell? ⟨g, 0, none⟩ = some (.slice (some ⟨b, o, none⟩) 1 c)) (g1 : W.cell? ⟨g, 1, none⟩ = some (.map (some m))) (hB : Below w.heap.size w W) :
    Calls Tryz.prog 87 #[.pointer (some ⟨g, 0, none⟩), .string ⟨#[104]⟩, .int .i64 20] W fun e w' => e = .returned (.int .i64 15) ∧ Below w.heap.size w w' := by
  have hlook := run_lookup_none (P := Tryz.prog) (t := 115) (w := W) (s := ⟨#[104]⟩) Tryz.underlying115 Tryz.underlying9 (Tryz.zeroValue3 _) (by decide) hm
  go_enter Tryz.func87, Tryz.ntmps87
  go_wp2_with (fail)
  refine (offset_one b o c W h.c0 h.c1 h.c2 h.c3).mono ?_
  rintro e w2 ⟨rfl, hb2⟩
  have hmW : m < W.heap.size := (Array.getElem?_eq_some_iff.1 hm).1
  have hgW := World.block_lt_of_cell? W _ g1
  simp only at hgW
  have hbV : Below W.heap.size W (w2.alloc (.cells #[.int .i64 5, .int .i64 5, .int .i64 1] 225)) := hb2.alloc hb2.size _
  have hmV := (hbV.block m hmW).trans hm
  have g1V := (hbV.cell (p := ⟨g, 1, none⟩) hgW).trans g1
  have hBV : Below w.heap.size w (w2.alloc (.cells #[.int .i64 5, .int .i64 5, .int .i64 1] 225)) := hB.trans (hbV.mono hB.size)
  obtain ⟨U, hup, hBU⟩ : ∃ U, (Instr.mapUpdate 115 (.map (some m)) (.string ⟨#[104]⟩) (.int .i64 5)).run Tryz.prog (w2.alloc (.cells #[.int .i64 5, .int .i64 5, .int .i64 1] 225)) = .ok () U ∧ Below w.heap.size w U :=
    ⟨_, run_update_none Tryz.underlying115 Tryz.underlying9 (by decide) hmV, below_setMap hBV hmw _⟩
  have HBU := Lib.hid hBU
  clear hBU hBV hbV hb2 hB
  go_wp2_with (fail)
  refine (down_ten _).mono ?_
  rintro e w3 ⟨rfl, rfl⟩
  go_wp2_with (fail)
  go_ret
  exact ⟨rfl, HBU.out⟩
set_option maxRecDepth 100000 in
set_option maxHeartbeats 1000000 in
theorem repair_one (b o c : Nat) (w : World) (h : PingAt w b o) : Calls Tryz.prog 41 #[.slice (some ⟨b, o, none⟩) 1 c, .string ⟨#[104]⟩, .int .i64 20] w fun e w' => e = .returned (.tuple #[.int .i64 15, .int .i64 0]) ∧ Below w.heap.size w w' := by
  have hb := World.block_lt_of_cell? w _ h.c0
  simp only at hb
  go_enter Tryz.func41, Tryz.ntmps41
  go_wp2_with (fail)
  refine (hubFault_one b o c w h).mono ?_
  rintro e w1 ⟨rfl, hb1⟩
  have h1 := h.below hb1
  go_wp2_with (go_at_call 50; refine (moment_yes _ _ (by omega) (by omega)).mono ?_; rintro e w' ⟨rfl, rfl⟩)
  refine (newClocks_any _ _ _ _).mono ?_
  rintro e w2 ⟨rfl, rfl⟩
  have hB := hb1.alloc hb1.size (.map #[] 0) |>.alloc (by have := hb1.size; simp; omega) (.cells #[.slice (some ⟨b, o, none⟩) 1 c, .map (some w1.heap.size)] 222)
  have hBB : Below w1.heap.size w1 ((w1.alloc (.map #[] 0)).alloc (.cells #[.slice (some ⟨b, o, none⟩) 1 c, .map (some w1.heap.size)] 222)) := ((Below.refl _ _).alloc (Nat.le_refl _) _).alloc (by simp) _
  have hB1 : Below (w1.heap.size + 1) (w1.alloc (.map #[] 0)) ((w1.alloc (.map #[] 0)).alloc (.cells #[.slice (some ⟨b, o, none⟩) 1 c, .map (some w1.heap.size)] 222)) := (Below.refl _ _).alloc (by simp) _
  have m0 := (hB1.block w1.heap.size (by omega)).trans (heap_new w1 (.map #[] 0))
  have gg := heap_new (w1.alloc (.map #[] 0)) (.cells #[.slice (some ⟨b, o, none⟩) 1 c, .map (some w1.heap.size)] 222)
  rw [show (w1.alloc (.map #[] 0)).heap.size = w1.heap.size + 1 by simp] at gg
  have hbw1 := World.block_lt_of_cell? w1 _ h1.c0
  simp only at hbw1
  have HR := Lib.hid (repairM_one b o c (w1.heap.size + 1) w1.heap.size w _ (h1.below hBB) m0 hb1.size (cell_of_blk (j := 0) gg rfl) (cell_of_blk (j := 1) gg rfl) hB)
  clear hB hBB hB1 m0 gg hb1 h1
  go_wp2_with (fail)
  refine HR.out.mono ?_
  rintro e w3 ⟨rfl, hb3⟩
  go_wp2_with (fail)
  go_ret2
  exact ⟨rfl, hb3⟩
end Go.Proofs.YtgdnedhcbjonkaaGreatDoor

/- Maps whose keys are names (two texts); SortFunc of one life. -/
namespace Go.Proofs.YtgdnedhcbjonkaaGreatDoor
open Go.RowKit Go.Shelf

/-- A name as a key. -/
def nmV (d r : ByteArray) : Value := .agg #[.string d, .string r]
theorem name_check (b : Bool) (d r : ByteArray) (w : World) : (Instr.checkKey b 10000 142 (nmV d r)).run Tryz.prog w = .ok () w := by
  kernel_rfl
theorem eqFields_two {P : Program} {d : Nat} {xs ys : Array Value} {F1 F2 : Field} {a b a' b' : Value} {x y : Bool} (w : World) (n1 : (F1.name == "_") = false) (n2 : (F2.name == "_") = false)
    (p1 : (part F1.type xs F1.offset).run P w = .ok a w) (p2 : (part F2.type xs F2.offset).run P w = .ok b w) (q1 : (part F1.type ys F1.offset).run P w = .ok a' w) (q2 : (part F2.type ys F2.offset).run P w = .ok b' w)
    (e1 : (Op.equalIn d F1.type a a').run P w = .ok x w) (e2 : (Op.equalIn d F2.type b b').run P w = .ok y w) : (Op.eqFields d xs ys [F1, F2]).run P w = .ok (x && y) w := by
  have m1 : F1.name ≠ "_" := by simpa using n1
  have m2 : F2.name ≠ "_" := by simpa using n2
  simp only [Op.eqFields, m1, m2, ne_eq, not_false_eq_true, if_true, Sem.run_bind, p1, q1, e1, Result.andThen_ok]
  cases x with
  | false => simp
  | true =>
    simp only [Bool.not_true, Bool.false_eq_true, if_false, Sem.run_bind, p2, q2, e2, Result.andThen_ok]
    cases y <;> simp
theorem name_equal (d r d' r' : ByteArray) (w : World) : (Op.equal 142 (nmV d r) (nmV d' r')).run Tryz.prog w = .ok (d.toList == d'.toList && r.toList == r'.toList) w := by
  have h := run_equalIn_agg (P := Tryz.prog) (w := w) 9999 142 #[.string d, .string r] #[.string d', .string r'] (by kernel_rfl) (by kernel_rfl)
  have e : (Op.equal 142 (nmV d r) (nmV d' r')).run Tryz.prog w = (Op.equalIn (9999 + 1) 142 (.agg #[.string d, .string r]) (.agg #[.string d', .string r'])).run Tryz.prog w := rfl
  rw [e, h]
  have h1 := run_equalIn_string (P := Tryz.prog) (w := w) 9998 9 d d' Tryz.underlying9
  have h2 := run_equalIn_string (P := Tryz.prog) (w := w) 9998 9 r r' Tryz.underlying9
  have f : (Tryz.prog.fieldsOf 142).toList = [(Tryz.prog.fieldsOf 142)[0]!, (Tryz.prog.fieldsOf 142)[1]!] := by kernel_rfl
  have t1 : ((Tryz.prog.fieldsOf 142)[0]!).type = 9 := by kernel_rfl
  have t2 : ((Tryz.prog.fieldsOf 142)[1]!).type = 9 := by kernel_rfl
  rw [f]
  exact eqFields_two w (by kernel_rfl) (by kernel_rfl) (a := .string d) (b := .string r) (a' := .string d') (b' := .string r') (by kernel_rfl) (by kernel_rfl) (by kernel_rfl) (by kernel_rfl) (by rw [t1]; exact h1) (by rw [t2]; exact h2)
theorem insL_one (p : Option Addr) (cap : Nat) (fv : Value) (w : World) : Calls Tryz.prog 219 #[.slice p 1 cap, .int .i64 0, .int .i64 1, fv] w fun e w' => e = .returned (.tuple #[]) ∧ w' = w := by
  go_enter Tryz.func219, Tryz.ntmps219
  go_wp2_with (fail)
  refine wp_loop_rounds 1 ?_
  rw [rounds_succ]
  go_wp2_with (fail)
  go_end0
  exact ⟨rfl, rfl⟩
theorem pdqL_one (p : Option Addr) (cap : Nat) (lim : Int) (fv : Value) (w : World) : Calls Tryz.prog 198 #[.slice p 1 cap, .int .i64 0, .int .i64 1, .int .i64 lim, fv] w fun e w' => e = .returned (.tuple #[]) ∧ w' = w := by
  go_enter Tryz.func198, Tryz.ntmps198
  go_wp2_with (fail)
  refine wp_loop_rounds 1 ?_
  rw [rounds_succ]
  go_wp2_with (go_at_call 219; refine (insL_one _ _ _ _).mono ?_; rintro e w' ⟨rfl, rfl⟩)
  (try simp only [Exit.inBlock, Exit.then]); refine bodyPost_ret (results_none rfl _ _ _) rfl ?_
  exact ⟨rfl, rfl⟩
theorem sortL_one (p : Option Addr) (cap : Nat) (fv : Value) (w : World) : Calls Tryz.prog 157 #[.slice p 1 cap, fv] w fun e w' => e = .returned (.tuple #[]) ∧ w' = w := by
  have hl := fun W => bitsLenS 1 W (by omega) (by omega)
  change ∀ W, Calls Tryz.prog 91 _ W _ at hl
  go_enter Tryz.func157, Tryz.ntmps157
  go_wp2_with (first | (go_at_call 91; refine (hl _).mono ?_; rintro e w' ⟨⟨l, rfl⟩, rfl⟩) | (go_at_call 198; refine (pdqL_one _ _ _ _ _).mono ?_; rintro e w' ⟨rfl, rfl⟩))
  go_end0
  exact ⟨rfl, rfl⟩
end Go.Proofs.YtgdnedhcbjonkaaGreatDoor

/- Look-ups and a store in a map whose keys are names, of no entry and of one. -/
namespace Go.Proofs.YtgdnedhcbjonkaaGreatDoor
open Go.RowKit Go.Shelf

theorem name_find_nil (d r : ByteArray) (w : World) : (Instr.findKey 142 (nmV d r) []).run Tryz.prog w = .ok none w := by kernel_rfl
theorem name_now (d r d' r' : ByteArray) (v : Value) (n : Nat) : Instr.findNow (.struct (Tryz.prog.fieldsOf 142)) (nmV d r) [{ key := nmV d' r', val := v, born := n }] 0 = none := rfl
theorem name_find_one (d r : ByteArray) (v : Value) (n : Nat) (w : World) : (Instr.findKey 142 (nmV d r) [{ key := nmV d r, val := v, born := n }]).run Tryz.prog w = .ok (some (0, v)) w := by
  have hu : Tryz.prog.underlying 142 = some (.struct (Tryz.prog.fieldsOf 142)) := by kernel_rfl
  have he := name_equal d r d r w
  simp [Instr.findKey, run_underlying hu, name_now, Instr.findAsking, he, Result.andThen]
theorem lookup_name_nil {d r : ByteArray} {w : World} {b : Nat} (hb : w.heap[b]? = some (.map #[] 0)) : (Instr.lookup 133 (.map (some b)) (nmV d r) false).run Tryz.prog w = .ok (.pointer none) w := by
  have hz : (zeroValue 139).run Tryz.prog w = .ok (.pointer none) w := by kernel_rfl
  simp [Instr.lookup, run_underlying Tryz.underlying133, MapKept.run_getObj_map hb, name_check, name_find_nil, hz, Result.andThen]
theorem lookup_name_one {d r : ByteArray} {w : World} {b n k : Nat} {v : Value} (hb : w.heap[b]? = some (.map #[{ key := nmV d r, val := v, born := n }] k)) : (Instr.lookup 133 (.map (some b)) (nmV d r) false).run Tryz.prog w = .ok v w := by
  simp [Instr.lookup, run_underlying Tryz.underlying133, MapKept.run_getObj_map hb, name_check, name_find_one, Result.andThen]
theorem update_name_nil {d r : ByteArray} {w : World} {b : Nat} {v : Value} (hb : w.heap[b]? = some (.map #[] 0)) :
    (Instr.mapUpdate 133 (.map (some b)) (nmV d r) v).run Tryz.prog w = .ok () { w with heap := w.heap.setIfInBounds b (.map #[{ key := nmV d r, val := v, born := 0 }] 1) } := by
  simp [Instr.mapUpdate, run_underlying Tryz.underlying133, MapKept.run_getObj_map hb, name_check, name_find_nil, MapKept.run_setObj_map _ hb, Result.andThen]
end Go.Proofs.YtgdnedhcbjonkaaGreatDoor

/- life.turn of a new life that is raised. -/
namespace Go.Proofs.YtgdnedhcbjonkaaGreatDoor
open Go.RowKit Go.Shelf

theorem put_two (w : World) (p : Addr) (v : Value) (A B : Obj) {u : Value} (hp : w.cell? p = some u) : let V := (((w.setCell p v).alloc A).alloc B).drew
    (∀ a : Addr, a.block < w.heap.size → p ≠ a → V.cell? a = w.cell? a) ∧ V.cell? p = some v ∧ (∀ a : Addr, a.block < w.heap.size → V.frozen? a = w.frozen? a) ∧ (∀ b, b ≤ p.block → Below b w V) ∧ w.heap.size ≤ V.heap.size ∧ (∀ k, k < w.heap.size → k ≠ p.block → V.heap[k]? = w.heap[k]?) := by
  have hb := World.block_lt_of_cell? w _ hp
  have hs : (w.setCell p v).heap.size = w.heap.size := by simp [World.setCell]
  have b1 : Below w.heap.size (w.setCell p v) (((w.setCell p v).alloc A).alloc B).drew := (((Below.refl _ _).alloc (by omega) A).alloc (by simp [hs]) B).drew
  refine ⟨fun a ha hne => ?_, ?_, fun a ha => ?_, fun b hbp => ?_, ?_, fun k hk hne => ?_⟩
  · rw [b1.cell ha]
    exact World.cell?_setCell_other _ _ _ _ hne
  · rw [b1.cell hb]
    exact World.cell?_setCell_same _ _ _ hp
  · rw [b1.frozen ha]
    exact World.frozen?_setCell _ _ _ _
  · exact ((Below.refl b w).setCell hbp v).trans (b1.mono (by omega))
  · have := b1.size
    omega
  · exact (b1.block k hk).trans (Below.heap_setCell _ _ _ _ hne)
set_option maxRecDepth 100000 in
set_option maxHeartbeats 1000000 in
theorem turn_new (x : Nat) (w : World) (h : w.heap[x]? = some (.cells #[.string ⟨#[100]⟩, .string ⟨#[114]⟩, .int .i64 0, .int .i64 0, .slice none 0 0, .int .i64 0, .slice none 0 0, .slice none 0 0, .slice none 0 0, .slice none 0 0, .slice none 0 0] 145 (0, 0))) :
    Calls Tryz.prog 199 #[.pointer (some ⟨x, 0, none⟩), .int .i64 1, .int .i64 1] w fun e w' => e = .returned (.tuple #[]) ∧ w'.cell? ⟨x, 0, none⟩ = some (.string ⟨#[100]⟩) ∧ w'.cell? ⟨x, 1, none⟩ = some (.string ⟨#[114]⟩) ∧ w'.cell? ⟨x, 2, none⟩ = some (.int .i64 1) ∧ w'.cell? ⟨x, 3, none⟩ = some (.int .i64 1) ∧ w'.cell? ⟨x, 4, none⟩ = some (.slice none 0 0) ∧ w'.cell? ⟨x, 5, none⟩ = some (.int .i64 0) ∧ w'.frozen? ⟨x, 4, none⟩ = false ∧ Below x w w' ∧ w.heap.size ≤ w'.heap.size ∧ (∀ k, k < w.heap.size → k ≠ x → w'.heap[k]? = w.heap[k]?) := by
  have hlt : x < w.heap.size := (Array.getElem?_eq_some_iff.1 h).1
  have c0 := cell_of_blk (j := 0) h rfl
  have c1 := cell_of_blk (j := 1) h rfl
  have c2 := cell_of_blk (j := 2) h rfl
  have c3 := cell_of_blk (j := 3) h rfl
  have c4 := cell_of_blk (j := 4) h rfl
  have c5 := cell_of_blk (j := 5) h rfl
  have c6 := cell_of_blk (j := 6) h rfl
  have c7 := cell_of_blk (j := 7) h rfl
  have f4 : w.frozen? ⟨x, 4, none⟩ = false := by simp [World.frozen?, h]
  have f2 : w.frozen? ⟨x, 2, none⟩ = false := by simp [World.frozen?, h]
  have f3 : w.frozen? ⟨x, 3, none⟩ = false := by simp [World.frozen?, h]
  have f6 : w.frozen? ⟨x, 6, none⟩ = false := by simp [World.frozen?, h]
  have f7 : w.frozen? ⟨x, 7, none⟩ = false := by simp [World.frozen?, h]
  have HH := Lib.hid h
  clear h
  go_enter Tryz.func199, Tryz.ntmps199
  go_upto_region 7 with (fail)
  go_upto_region 8 with (fail)
  generalize hG : (Question.appendCap 1 0 55).cut (w.tape w.drawn (Question.appendCap 1 0 55)) = G
  have hP := put_two w ⟨x, 7, none⟩ (.slice (some ⟨w.heap.size + 1, 0, none⟩) 1 G) (.cells #[.int .i64 1, .int .i64 345686400000] 55) (.cells (#[.int .i64 1, .int .i64 345686400000] ++ Builtin.zeroCells #[.int .i64 0, .int .i64 0] (G - 1)) 55) c7
  generalize (((w.setCell ⟨x, 7, none⟩ (.slice (some ⟨w.heap.size + 1, 0, none⟩) 1 G)).alloc (.cells #[.int .i64 1, .int .i64 345686400000] 55)).alloc (.cells (#[.int .i64 1, .int .i64 345686400000] ++ Builtin.zeroCells #[.int .i64 0, .int .i64 0] (G - 1)) 55)).drew = V at hP ⊢
  simp only at hP
  obtain ⟨p0, p1, p2, p3, p4, p5⟩ := hP
  have d0 := (p0 ⟨x, 0, none⟩ hlt (by simp)).trans c0
  have d1 := (p0 ⟨x, 1, none⟩ hlt (by simp)).trans c1
  have d2 := (p0 ⟨x, 2, none⟩ hlt (by simp)).trans c2
  have d3 := (p0 ⟨x, 3, none⟩ hlt (by simp)).trans c3
  have d4 := (p0 ⟨x, 4, none⟩ hlt (by simp)).trans c4
  have d5 := (p0 ⟨x, 5, none⟩ hlt (by simp)).trans c5
  have d6 := (p0 ⟨x, 6, none⟩ hlt (by simp)).trans c6
  have g2 := (p2 ⟨x, 2, none⟩ hlt).trans f2
  have g3 := (p2 ⟨x, 3, none⟩ hlt).trans f3
  have g4 := (p2 ⟨x, 4, none⟩ hlt).trans f4
  have g6 := (p2 ⟨x, 6, none⟩ hlt).trans f6
  have hltV : x < V.heap.size := by omega
  have P5 := Lib.hid (And.intro p4 p5)
  have HV := Lib.hid (p3 x (Nat.le_refl _))
  clear p0 p1 p2 p3 p4 p5 c0 c1 c2 c3 c4 c5 c6 c7 f2 f3 f4 f6 f7 hG hlt HH
  go_upto_region 10 with (fail)
  generalize hG : (Question.appendCap 1 0 55).cut (V.tape V.drawn (Question.appendCap 1 0 55)) = K
  have hP := put_two V ⟨x, 6, none⟩ (.slice (some ⟨V.heap.size + 1, 0, none⟩) 1 K) (.cells #[.int .i64 1, .int .i64 345686400000] 55) (.cells (#[.int .i64 1, .int .i64 345686400000] ++ Builtin.zeroCells #[.int .i64 0, .int .i64 0] (K - 1)) 55) d6
  generalize (((V.setCell ⟨x, 6, none⟩ (.slice (some ⟨V.heap.size + 1, 0, none⟩) 1 K)).alloc (.cells #[.int .i64 1, .int .i64 345686400000] 55)).alloc (.cells (#[.int .i64 1, .int .i64 345686400000] ++ Builtin.zeroCells #[.int .i64 0, .int .i64 0] (K - 1)) 55)).drew = U at hP ⊢
  simp only at hP
  obtain ⟨p0, p1, p2, p3, p4, p5⟩ := hP
  have e0 := (p0 ⟨x, 0, none⟩ hltV (by simp)).trans d0
  have e1 := (p0 ⟨x, 1, none⟩ hltV (by simp)).trans d1
  have e2 := (p0 ⟨x, 2, none⟩ hltV (by simp)).trans d2
  have e3 := (p0 ⟨x, 3, none⟩ hltV (by simp)).trans d3
  have e4 := (p0 ⟨x, 4, none⟩ hltV (by simp)).trans d4
  have e5 := (p0 ⟨x, 5, none⟩ hltV (by simp)).trans d5
  have q2 := (p2 ⟨x, 2, none⟩ hltV).trans g2
  have q3 := (p2 ⟨x, 3, none⟩ hltV).trans g3
  have q4 := (p2 ⟨x, 4, none⟩ hltV).trans g4
  have hltU : x < U.heap.size := by omega
  have P6 := Lib.hid (And.intro p4 p5)
  have HU := Lib.hid (HV.out.trans (p3 x (Nat.le_refl _)))
  have HE := Lib.hid (And.intro e0 (And.intro e1 (And.intro e4 (And.intro e5 q4))))
  clear p0 p1 p2 p3 p4 p5 d0 d1 d2 d3 d4 d5 d6 g2 g3 g4 g6 hG hltV
  have hx2 : (⟨x, 2, none⟩ : Addr) ≠ ⟨x, 3, none⟩ := by simp
  have E2 := Lib.hid e2
  have E3 := Lib.hid e3
  go_wp2_with (fail)
  have o : ∀ j, j ≠ 2 → j ≠ 3 → ((U.setCell ⟨x, 2, none⟩ (.int .i64 1)).setCell ⟨x, 3, none⟩ (.int .i64 1)).cell? ⟨x, j, none⟩ = U.cell? ⟨x, j, none⟩ := fun j h2 h3 => by
    rw [World.cell?_setCell_other _ _ _ _ (by simp <;> omega), World.cell?_setCell_other _ _ _ _ (by simp <;> omega)]
  go_end0
  exact ⟨rfl, (o 0 (by omega) (by omega)).trans HE.out.1, (o 1 (by omega) (by omega)).trans HE.out.2.1,
    by rw [World.cell?_setCell_other _ _ _ _ hx2.symm]; exact World.cell?_setCell_same _ _ _ E2.out,
    World.cell?_setCell_same _ _ _ (by rw [World.cell?_setCell_other _ _ _ _ hx2]; exact E3.out),
    (o 4 (by omega) (by omega)).trans HE.out.2.2.1, (o 5 (by omega) (by omega)).trans HE.out.2.2.2.1,
    by rw [World.frozen?_setCell, World.frozen?_setCell]; exact HE.out.2.2.2.2,
    (HU.out.setCell (p := ⟨x, 2, none⟩) (Nat.le_refl _) _).setCell (p := ⟨x, 3, none⟩) (Nat.le_refl _) _,
    by have := P5.out.1; have := P6.out.1; simp only [World.setCell, Array.size_modify]; omega,
    fun k hk hne => by
      rw [Below.heap_setCell _ _ _ _ (by simpa using hne), Below.heap_setCell _ _ _ _ (by simpa using hne), P6.out.2 k (by have := P5.out.1; omega) (by simpa using hne), P5.out.2 k hk (by simpa using hne)]⟩
end Go.Proofs.YtgdnedhcbjonkaaGreatDoor

/- life.follow of a raise by a new life. -/
namespace Go.Proofs.YtgdnedhcbjonkaaGreatDoor
open Go.RowKit Go.Shelf

/-- A life of d and r that is up since 1, with one raise. -/
structure LifeUp (w : World) (x : Nat) : Prop where
  d : w.cell? ⟨x, 0, none⟩ = some (.string ⟨#[100]⟩)
  r : w.cell? ⟨x, 1, none⟩ = some (.string ⟨#[114]⟩)
  st : w.cell? ⟨x, 2, none⟩ = some (.int .i64 1)
  si : w.cell? ⟨x, 3, none⟩ = some (.int .i64 1)
  ra : ∃ A c, w.cell? ⟨x, 4, none⟩ = some (.slice A 1 c)
  sh : w.cell? ⟨x, 5, none⟩ = some (.int .i64 0)
set_option maxRecDepth 100000 in
set_option maxHeartbeats 1000000 in
theorem follow_new (x : Nat) (w : World) (h : w.heap[x]? = some (.cells #[.string ⟨#[100]⟩, .string ⟨#[114]⟩, .int .i64 0, .int .i64 0, .slice none 0 0, .int .i64 0, .slice none 0 0, .slice none 0 0, .slice none 0 0, .slice none 0 0, .slice none 0 0] 145 (0, 0))) :
    Calls Tryz.prog 160 #[.pointer (some ⟨x, 0, none⟩), .agg #[.int .i64 1, .int .i64 1, .string ⟨#[100]⟩, .string ⟨#[114]⟩, .string ⟨#[]⟩, .int .i64 0]] w fun e w' => e = .returned (.int .i64 0) ∧ LifeUp w' x ∧ Below x w w' ∧ (∀ k, k < w.heap.size → k ≠ x → w'.heap[k]? = w.heap[k]?) := by
  have hlt : x < w.heap.size := (Array.getElem?_eq_some_iff.1 h).1
  have c2 := cell_of_blk (j := 2) h rfl
  have b1 : Below w.heap.size w (w.alloc (.cells #[.int .i64 1, .int .i64 1, .string ⟨#[100]⟩, .string ⟨#[114]⟩, .string ⟨#[]⟩, .int .i64 0] 47)) := (Below.refl _ _).alloc (Nat.le_refl _) _
  have HT := Lib.hid (turn_new x _ ((b1.block x hlt).trans h))
  have hn := heap_new w (.cells #[.int .i64 1, .int .i64 1, .string ⟨#[100]⟩, .string ⟨#[114]⟩, .string ⟨#[]⟩, .int .i64 0] 47)
  have HB1 := Lib.hid b1
  clear h b1
  go_enter Tryz.func160, Tryz.ntmps160
  go_wp2_with (fail)
  refine HT.out.mono ?_
  rintro e w2 ⟨rfl, t0, t1, t2, t3, t4, t5, tf, tb, ts, tk⟩
  have hg := (tk w.heap.size (by simp) (by omega)).trans hn
  have g0 := cell_of_blk (j := 0) hg rfl
  have hs2 : w.heap.size < w2.heap.size := by simp at ts; omega
  have hxw2 : x < w2.heap.size := by omega
  have hcap : ¬ 281474976710656 < Builtin.nextslicecap 1 0 * Tryz.t3.bytes := by decide
  have T := Lib.hid (And.intro t0 (And.intro t1 (And.intro t2 (And.intro t3 (And.intro t5 (And.intro tb tk))))))
  clear t0 t1 t2 t3 t5 tb tk hn hg
  generalize hgg : w.heap.size = g at g0 hs2 ⊢
  go_upto_region 7 with (fail)
  go_region
  generalize hG : (Question.appendCap 1 0 3).cut (w2.tape (w2.drawn + 1) (Question.appendCap 1 0 3)) = K
  have hP := put_two w2 ⟨x, 4, none⟩ (.slice (some ⟨w2.heap.size + 1, 0, none⟩) 1 K) (.cells #[.int .i64 1] 3) (.cells (#[.int .i64 1] ++ Builtin.zeroCells #[.int .i64 0] (K - 1)) 3) t4
  generalize (((w2.setCell ⟨x, 4, none⟩ (.slice (some ⟨w2.heap.size + 1, 0, none⟩) 1 K)).alloc (.cells #[.int .i64 1] 3)).alloc (.cells (#[.int .i64 1] ++ Builtin.zeroCells #[.int .i64 0] (K - 1)) 3)).drew = V at hP ⊢
  simp only at hP
  obtain ⟨p0, p1, p2, p3, p4, p5⟩ := hP
  have hL : LifeUp V x := ⟨(p0 ⟨x, 0, none⟩ hxw2 (by simp)).trans T.out.1, (p0 ⟨x, 1, none⟩ hxw2 (by simp)).trans T.out.2.1, (p0 ⟨x, 2, none⟩ hxw2 (by simp)).trans T.out.2.2.1, (p0 ⟨x, 3, none⟩ hxw2 (by simp)).trans T.out.2.2.2.1, ⟨_, _, p1⟩, (p0 ⟨x, 5, none⟩ hxw2 (by simp)).trans T.out.2.2.2.2.1⟩
  have hB : Below x w V := ((HB1.out.mono (by omega)).trans T.out.2.2.2.2.2.1).trans (p3 x (Nat.le_refl _))
  have hK : ∀ k, k < w.heap.size → k ≠ x → V.heap[k]? = w.heap[k]? := fun k hk hne => ((p5 k (by omega) (by simpa using hne)).trans (T.out.2.2.2.2.2.2 k (by simp; omega) hne)).trans (HB1.out.block k hk)
  have HF := Lib.hid (And.intro hL (And.intro hB hK))
  clear p0 p1 p2 p3 p4 p5 hL hB hK t4 tf g0
  go_wp2_with (fail)
  go_ret
  exact ⟨rfl, ⟨HF.out.1.d, HF.out.1.r, HF.out.1.st, HF.out.1.si, HF.out.1.ra, HF.out.1.sh⟩, HF.out.2.1.drew, HF.out.2.2⟩
end Go.Proofs.YtgdnedhcbjonkaaGreatDoor

/- life.view of a life that is up. -/
namespace Go.Proofs.YtgdnedhcbjonkaaGreatDoor
open Go.RowKit Go.Shelf

set_option maxRecDepth 100000 in
set_option maxHeartbeats 1000000 in
theorem view_up (x : Nat) (w : World) (h : LifeUp w x) :
    Calls Tryz.prog 79 #[.pointer (some ⟨x, 0, none⟩), .int .i64 1] w fun e w' => e = .returned (.tuple #[.agg #[.string ⟨#[100]⟩, .string ⟨#[114]⟩, .int .i64 1, .int .i64 1, .int .i64 1, .int .i64 0], .bool true]) ∧ Below w.heap.size w w' := by
  obtain ⟨c0, c1, c2, c3, ⟨A, c, c4⟩, c5⟩ := h
  have hlt := World.block_lt_of_cell? w _ c0
  simp only at hlt
  have hne : ¬ w.heap.size = x := by omega
  have hne' : ¬ x = w.heap.size := by omega
  go_enter Tryz.func79, Tryz.ntmps79
  go_upto_region 1 with (fail)
  go_region
  all_goals
    go_upto_region 4 with (fail)
  all_goals go_region
  all_goals
    have b1 : Below (w.heap.size + 1) (w.alloc (.cells #[.string ⟨#[100]⟩, .string ⟨#[114]⟩, .int .i64 1, .int .i64 1, .int .i64 1, .int .i64 0] 99)) ((w.alloc (.cells #[.string ⟨#[100]⟩, .string ⟨#[114]⟩, .int .i64 1, .int .i64 1, .int .i64 1, .int .i64 0] 99)).alloc (.cells #[.string ⟨#[100]⟩, .string ⟨#[114]⟩, .int .i64 1, .int .i64 1, .int .i64 1, .int .i64 0] 99)).drew.drew := (((Below.refl _ _).alloc (by simp) _).drew).drew
    have hh := (b1.block w.heap.size (by omega)).trans (heap_new w _)
    have hb : Below w.heap.size w ((w.alloc (.cells #[.string ⟨#[100]⟩, .string ⟨#[114]⟩, .int .i64 1, .int .i64 1, .int .i64 1, .int .i64 0] 99)).alloc (.cells #[.string ⟨#[100]⟩, .string ⟨#[114]⟩, .int .i64 1, .int .i64 1, .int .i64 1, .int .i64 0] 99)).drew.drew := ((Below.refl _ _).alloc (Nat.le_refl _) _).trans (b1.mono (by omega))
    have HB := Lib.hid hb
    clear b1 hb
    generalize ((w.alloc (.cells #[.string ⟨#[100]⟩, .string ⟨#[114]⟩, .int .i64 1, .int .i64 1, .int .i64 1, .int .i64 0] 99)).alloc (.cells #[.string ⟨#[100]⟩, .string ⟨#[114]⟩, .int .i64 1, .int .i64 1, .int .i64 1, .int .i64 0] 99)).drew.drew = V at hh HB ⊢
    have q0 := cell_of_blk (j := 0) hh rfl
    have q1 := cell_of_blk (j := 1) hh rfl
    have q2 := cell_of_blk (j := 2) hh rfl
    have q3 := cell_of_blk (j := 3) hh rfl
    have q4 := cell_of_blk (j := 4) hh rfl
    have q5 := cell_of_blk (j := 5) hh rfl
    go_wp2_with (fail)
    exact bodyPost_ret (v := .tuple #[.agg #[.string ⟨#[100]⟩, .string ⟨#[114]⟩, .int .i64 1, .int .i64 1, .int .i64 1, .int .i64 0], .bool true]) (by simp [results, Tryz.results79, go_sem, q0, q1, q2, q3, q4, q5]) rfl ⟨rfl, HB.out⟩
end Go.Proofs.YtgdnedhcbjonkaaGreatDoor

/- house.follow of a raise, in a house of one new life. -/
namespace Go.Proofs.YtgdnedhcbjonkaaGreatDoor
open Go.RowKit Go.Shelf

theorem box_cells {w : World} {g : Nat} {T : TypeId} (h : w.heap[g]? = some (.cells #[.int .i64 1, .int .i64 1, .string ⟨#[100]⟩, .string ⟨#[114]⟩, .string ⟨#[]⟩, .int .i64 0] T (0, 0))) :
    w.cell? ⟨g, 0, none⟩ = some (.int .i64 1) ∧ w.cell? ⟨g, 1, none⟩ = some (.int .i64 1) ∧ w.cell? ⟨g, 2, none⟩ = some (.string ⟨#[100]⟩) ∧ w.cell? ⟨g, 3, none⟩ = some (.string ⟨#[114]⟩) ∧ w.cell? ⟨g, 4, none⟩ = some (.string ⟨#[]⟩) ∧ w.cell? ⟨g, 5, none⟩ = some (.int .i64 0) :=
  ⟨cell_of_blk h rfl, cell_of_blk h rfl, cell_of_blk h rfl, cell_of_blk h rfl, cell_of_blk h rfl, cell_of_blk h rfl⟩
set_option maxRecDepth 100000 in
set_option maxHeartbeats 1000000 in
theorem hfollow_new (hs m x : Nat) (w : World) (hne : hs ≠ x) (hc : w.cell? ⟨hs, 0, none⟩ = some (.map (some m))) (hm : w.heap[m]? = some (.map #[{ key := nmV ⟨#[100]⟩ ⟨#[114]⟩, val := .pointer (some ⟨x, 0, none⟩), born := 0 }] 1))
    (h : w.heap[x]? = some (.cells #[.string ⟨#[100]⟩, .string ⟨#[114]⟩, .int .i64 0, .int .i64 0, .slice none 0 0, .int .i64 0, .slice none 0 0, .slice none 0 0, .slice none 0 0, .slice none 0 0, .slice none 0 0] 145 (0, 0))) :
    Calls Tryz.prog 101 #[.pointer (some ⟨hs, 0, none⟩), .agg #[.int .i64 1, .int .i64 1, .string ⟨#[100]⟩, .string ⟨#[114]⟩, .string ⟨#[]⟩, .int .i64 0]] w fun e w' => e = .returned (.int .i64 0) ∧ LifeUp w' x ∧ Below x w w' ∧ (∀ k, k < w.heap.size → k ≠ x → w'.heap[k]? = w.heap[k]?) := by
  have hlh := World.block_lt_of_cell? w _ hc
  simp only at hlh
  have hlm : m < w.heap.size := (Array.getElem?_eq_some_iff.1 hm).1
  have hlx : x < w.heap.size := (Array.getElem?_eq_some_iff.1 h).1
  have b1 : Below w.heap.size w (w.alloc (.cells #[.int .i64 1, .int .i64 1, .string ⟨#[100]⟩, .string ⟨#[114]⟩, .string ⟨#[]⟩, .int .i64 0] 47)) := (Below.refl _ _).alloc (Nat.le_refl _) _
  have hb2 : Below w.heap.size w (w.alloc (.cells #[.int .i64 1, .int .i64 1, .string ⟨#[100]⟩, .string ⟨#[114]⟩, .string ⟨#[]⟩, .int .i64 0] 47)).drew := b1.drew
  have hl1 := lookup_name_one (d := ⟨#[100]⟩) (r := ⟨#[114]⟩) ((b1.block m hlm).trans hm)
  have hl2 := lookup_name_one (d := ⟨#[100]⟩) (r := ⟨#[114]⟩) ((hb2.block m hlm).trans hm)
  unfold nmV at hl1 hl2
  have HFo := Lib.hid (follow_new x (w.alloc (.cells #[.int .i64 1, .int .i64 1, .string ⟨#[100]⟩, .string ⟨#[114]⟩, .string ⟨#[]⟩, .int .i64 0] 47)).drew ((hb2.block x hlx).trans h))
  have HB2 := Lib.hid hb2
  have hnw := heap_new w (.cells #[.int .i64 1, .int .i64 1, .string ⟨#[100]⟩, .string ⟨#[114]⟩, .string ⟨#[]⟩, .int .i64 0] 47)
  have hS := And.intro ((hb2.cell (p := ⟨hs, 0, none⟩) hlh).trans hc) (box_cells (w := (w.alloc (.cells #[.int .i64 1, .int .i64 1, .string ⟨#[100]⟩, .string ⟨#[114]⟩, .string ⟨#[]⟩, .int .i64 0] 47)).drew) hnw)
  have hnx : w.heap.size ≠ x := by omega
  have hnl : w.heap.size < (w.alloc (.cells #[.int .i64 1, .int .i64 1, .string ⟨#[100]⟩, .string ⟨#[114]⟩, .string ⟨#[]⟩, .int .i64 0] 47)).drew.heap.size := (Array.getElem?_eq_some_iff.1 hnw).1
  have HNW := Lib.hid (And.intro hnw hnl)
  have hlt2 : hs < (w.alloc (.cells #[.int .i64 1, .int .i64 1, .string ⟨#[100]⟩, .string ⟨#[114]⟩, .string ⟨#[]⟩, .int .i64 0] 47)).drew.heap.size := Nat.lt_of_lt_of_le hlh hb2.size
  have HS0 := Lib.hid (And.intro hS hlt2)
  clear h hm b1 hb2 hnw hnl
  go_enter Tryz.func101, Tryz.ntmps101
  go_wp2_with (fail)
  go_region_held3 (fun V => V.cell? ⟨hs, 0, none⟩ = some (.map (some m)) ∧ V.cell? ⟨w.heap.size, 0, none⟩ = some (.int .i64 1) ∧ V.cell? ⟨w.heap.size, 1, none⟩ = some (.int .i64 1) ∧ V.cell? ⟨w.heap.size, 2, none⟩ = some (.string ⟨#[100]⟩) ∧ V.cell? ⟨w.heap.size, 3, none⟩ = some (.string ⟨#[114]⟩) ∧ V.cell? ⟨w.heap.size, 4, none⟩ = some (.string ⟨#[]⟩) ∧ V.cell? ⟨w.heap.size, 5, none⟩ = some (.int .i64 0)) (first | go_keep | (exact hS)) (first | (go_at_call 160; refine HFo.out.mono ?_; rintro e w2 ⟨rfl, hL, hB, hK⟩; have hS := And.intro ((World.cell?_of_block (a := ⟨hs, 0, none⟩) (hK hs HS0.out.2 hne)).trans HS0.out.1.1) (box_cells ((hK w.heap.size HNW.out.2 hnx).trans HNW.out.1))))
  go_wp2_with (fail)
  go_ret
  exact ⟨rfl, hL, (HB2.out.mono (by omega)).trans hB, fun k hk hne => (hK k (Nat.lt_of_lt_of_le hk HB2.out.size) hne).trans (HB2.out.block k hk)⟩
end Go.Proofs.YtgdnedhcbjonkaaGreatDoor

/- alarm.CheckSignals and nameFault of one raise. -/
namespace Go.Proofs.YtgdnedhcbjonkaaGreatDoor
open Go.RowKit

/-- The signal of 'ready'. -/
structure SigAt (w : World) (b o : Nat) : Prop where
  c0 : w.cell? ⟨b, o, none⟩ = some (.int .i64 1)
  c1 : w.cell? ⟨b, o + 1, none⟩ = some (.int .i64 1)
  c2 : w.cell? ⟨b, o + 2, none⟩ = some (.string ⟨#[100]⟩)
  c3 : w.cell? ⟨b, o + 3, none⟩ = some (.string ⟨#[114]⟩)
  c4 : w.cell? ⟨b, o + 4, none⟩ = some (.string ⟨#[]⟩)
  c5 : w.cell? ⟨b, o + 5, none⟩ = some (.int .i64 0)
theorem SigAt.lt {w : World} {b o : Nat} (h : SigAt w b o) : b < w.heap.size := by
  have hlt := World.block_lt_of_cell? w _ h.c0
  simpa only using hlt
theorem SigAt.below {w w' : World} {b o : Nat} (h : SigAt w b o) (hb : Below w.heap.size w w') : SigAt w' b o := by
  have hlt := h.lt
  exact ⟨(hb.cell (p := ⟨b, o, none⟩) hlt).trans h.c0, (hb.cell (p := ⟨b, o + 1, none⟩) hlt).trans h.c1, (hb.cell (p := ⟨b, o + 2, none⟩) hlt).trans h.c2, (hb.cell (p := ⟨b, o + 3, none⟩) hlt).trans h.c3, (hb.cell (p := ⟨b, o + 4, none⟩) hlt).trans h.c4, (hb.cell (p := ⟨b, o + 5, none⟩) hlt).trans h.c5⟩
theorem key_d (w : World) : Calls Tryz.prog 93 #[.string ⟨#[100]⟩] w fun e w' => e = .returned (.bool true) ∧ w = w' := key_yes ⟨#[100]⟩ w (by kernel_rfl)
theorem key_r (w : World) : Calls Tryz.prog 93 #[.string ⟨#[114]⟩] w fun e w' => e = .returned (.bool true) ∧ w = w' := key_yes ⟨#[114]⟩ w (by kernel_rfl)
set_option maxRecDepth 100000 in
set_option maxHeartbeats 1000000 in
theorem sigFault_raise (w : World) : Calls Tryz.prog 88 #[.agg #[.int .i64 1, .int .i64 1, .string ⟨#[100]⟩, .string ⟨#[114]⟩, .string ⟨#[]⟩, .int .i64 0]] w fun e w' => e = .returned (.int .i64 0) ∧ Below w.heap.size w w' := by
  go_enter Tryz.func88, Tryz.ntmps88
  go_wp2_with (go_at_call 50; refine (moment_yes _ _ (by omega) (by omega)).mono ?_; rintro e w' ⟨rfl, rfl⟩)
  refine (key_d _).mono ?_
  rintro e w1 ⟨rfl, rfl⟩
  go_wp2_with (fail)
  refine (key_r _).mono ?_
  rintro e w1 ⟨rfl, rfl⟩
  go_wp2_with (go_at_call 74; refine (out_no _ _ _ _ (by omega) (by omega)).mono ?_; rintro e w' ⟨rfl, rfl⟩)
  go_ret
  exact ⟨rfl, (Below.refl _ _).alloc (Nat.le_refl _) _⟩
set_option maxRecDepth 100000 in
set_option maxHeartbeats 1000000 in
theorem signals_one (b o c : Nat) (w : World) (h : SigAt w b o) : Calls Tryz.prog 43 #[.slice (some ⟨b, o, none⟩) 1 c] w fun e w' => e = .returned (.int .i64 0) ∧ Below w.heap.size w w' := by
  have hb := h.lt
  obtain ⟨k0, k1, k2, k3, k4, k5⟩ := h
  go_enter Tryz.func43, Tryz.ntmps43
  go_wp2_with (fail)
  refine wp_loop_rounds 2 ?_
  rw [rounds_succ]
  go_wp2_with (fail)
  refine (sigFault_raise _).mono ?_
  rintro e w1 ⟨rfl, hb1⟩
  have HB := Lib.hid (show Below w.heap.size w w1 from ((Below.refl _ _).alloc (Nat.le_refl _) _).trans (hb1.mono (by simp)))
  clear hb1
  go_wp2_with (fail)
  go_quiet (fail)
  go_wp2_with (fail)
  rw [rounds_succ]
  go_wp2_with (fail)
  go_ret
  exact ⟨rfl, below_drewN HB.out _⟩
theorem nameFault_one (b o c : Nat) (w : World) (h : SigAt w b o) : Calls Tryz.prog 78 #[.slice (some ⟨b, o, none⟩) 1 c, .string ⟨#[100]⟩, .string ⟨#[114]⟩] w fun e w' => e = .returned (.int .i64 0) ∧ Below w.heap.size w w' := by
  go_enter Tryz.func78, Tryz.ntmps78
  go_wp2_with (fail)
  refine (signals_one b o c w h).mono ?_
  rintro e w1 ⟨rfl, hb1⟩
  go_wp2_with (fail)
  refine (key_d _).mono ?_
  rintro e w1 ⟨rfl, rfl⟩
  go_wp2_with (fail)
  refine (key_r _).mono ?_
  rintro e w1 ⟨rfl, rfl⟩
  go_wp2_with (fail)
  go_ret
  exact ⟨rfl, hb1⟩
end Go.Proofs.YtgdnedhcbjonkaaGreatDoor

/- alarm.newHouse of one signal. -/
namespace Go.Proofs.YtgdnedhcbjonkaaGreatDoor
open Go.RowKit Go.Shelf

theorem four_all (w : World) (A B C D : Obj) : let V := ((((w.alloc A).alloc B).alloc C).alloc D)
    V.heap[w.heap.size]? = some A ∧ V.heap[w.heap.size + 1]? = some B ∧ V.heap[w.heap.size + 1 + 1]? = some C ∧ V.heap[w.heap.size + 1 + 1 + 1]? = some D ∧ V.heap.size = w.heap.size + 4 ∧ Below w.heap.size w V := by
  have b1 := (((Below.refl (w.heap.size + 1) (w.alloc A)).alloc (by simp) B).alloc (by simp <;> omega) C).alloc (by simp <;> omega) D
  have b2 := ((Below.refl (w.heap.size + 2) ((w.alloc A).alloc B)).alloc (by simp) C).alloc (by simp <;> omega) D
  have b3 := (Below.refl (w.heap.size + 3) (((w.alloc A).alloc B).alloc C)).alloc (by simp) D
  have e1 : (w.alloc A).heap.size = w.heap.size + 1 := by simp
  have e2 : ((w.alloc A).alloc B).heap.size = w.heap.size + 1 + 1 := by simp
  have e3 : (((w.alloc A).alloc B).alloc C).heap.size = w.heap.size + 1 + 1 + 1 := by simp
  refine ⟨(b1.block _ (by omega)).trans (heap_new w A), (b2.block _ (by omega)).trans (e1 ▸ heap_new (w.alloc A) B), (b3.block _ (by omega)).trans (e2 ▸ heap_new ((w.alloc A).alloc B) C), e3 ▸ heap_new (((w.alloc A).alloc B).alloc C) D, by simp, ?_⟩
  exact ((Below.refl _ w).alloc (Nat.le_refl _) A).trans (b1.mono (by omega))
/-- A house with one new life of d and r. -/
structure NewH (w : World) (hs m x : Nat) : Prop where
  ne : hs ≠ x
  hc : w.cell? ⟨hs, 0, none⟩ = some (.map (some m))
  hm : w.heap[m]? = some (.map #[{ key := nmV ⟨#[100]⟩ ⟨#[114]⟩, val := .pointer (some ⟨x, 0, none⟩), born := 0 }] 1)
  hx : w.heap[x]? = some (.cells #[.string ⟨#[100]⟩, .string ⟨#[114]⟩, .int .i64 0, .int .i64 0, .slice none 0 0, .int .i64 0, .slice none 0 0, .slice none 0 0, .slice none 0 0, .slice none 0 0, .slice none 0 0] 145 (0, 0))
theorem Below.newH {w V : World} {hs m x : Nat} (hb : Below w.heap.size w V) (h : NewH w hs m x) : NewH V hs m x := by
  have h1 := World.block_lt_of_cell? w _ h.hc
  have h2 : m < w.heap.size := (Array.getElem?_eq_some_iff.1 h.hm).1
  have h3 : x < w.heap.size := (Array.getElem?_eq_some_iff.1 h.hx).1
  exact ⟨h.ne, (hb.cell (p := ⟨hs, 0, none⟩) h1).trans h.hc, (hb.block m h2).trans h.hm, (hb.block x h3).trans h.hx⟩
set_option maxRecDepth 100000 in
set_option maxHeartbeats 1000000 in
theorem newHouse_one (b o c : Nat) (w : World) (h : SigAt w b o) :
    Calls Tryz.prog 100 #[.slice (some ⟨b, o, none⟩) 1 c] w fun e w' => ∃ hs m x, e = .returned (.pointer (some ⟨hs, 0, none⟩)) ∧ NewH w' hs m x ∧ w.heap.size ≤ hs ∧ w.heap.size ≤ m ∧ w.heap.size ≤ x ∧ Below w.heap.size w w' := by
  have hb := h.lt
  obtain ⟨k0, k1, k2, k3, k4, k5⟩ := h
  have hmm := @run_makeMap Tryz.prog
  go_enter Tryz.func100, Tryz.ntmps100
  go_wp2_with (fail)
  refine wp_loop_rounds 2 ?_
  rw [rounds_succ]
  go_wp2_with (fail)
  have hF := four_all w (.map #[] 0) (.cells #[.map (some w.heap.size), .slice none 0 0] 136) (.cells #[.int .i64 1, .int .i64 1, .string ⟨#[100]⟩, .string ⟨#[114]⟩, .string ⟨#[]⟩, .int .i64 0] 47) (.cells #[.string ⟨#[100]⟩, .string ⟨#[114]⟩] 142)
  generalize ((((w.alloc (.map #[] 0)).alloc (.cells #[.map (some w.heap.size), .slice none 0 0] 136)).alloc (.cells #[.int .i64 1, .int .i64 1, .string ⟨#[100]⟩, .string ⟨#[114]⟩, .string ⟨#[]⟩, .int .i64 0] 47)).alloc (.cells #[.string ⟨#[100]⟩, .string ⟨#[114]⟩] 142)) = V at hF ⊢
  simp only at hF
  obtain ⟨f0, f1, f2, f3, fz, fb⟩ := hF
  have hl := lookup_name_nil (d := ⟨#[100]⟩) (r := ⟨#[114]⟩) (w := V.drew) f0
  unfold nmV at hl
  have h0 := cell_of_blk (j := 0) f1 rfl
  have h1 := cell_of_blk (j := 1) f1 rfl
  have n0 := cell_of_blk (j := 0) f3 rfl
  have n1 := cell_of_blk (j := 1) f3 rfl
  have HF := Lib.hid (And.intro f0 (And.intro f1 (And.intro f3 (And.intro fz fb))))
  clear f0 f1 f2 f3 fz fb k0 k1 k2 k3 k4 k5
  go_region_held3 (fun U => U.cell? ⟨w.heap.size + 1, 0, none⟩ = some (.map (some w.heap.size)) ∧ U.cell? ⟨w.heap.size + 1 + 1 + 1, 0, none⟩ = some (.string ⟨#[100]⟩) ∧ U.cell? ⟨w.heap.size + 1 + 1 + 1, 1, none⟩ = some (.string ⟨#[114]⟩)) (first | go_keep | (exact ⟨h0, n0, n1⟩)) (fail)
  go_upto_region 8 with (fail)
  have b1 : Below V.heap.size V (V.alloc (.cells #[.string ⟨#[100]⟩, .string ⟨#[114]⟩, .int .i64 0, .int .i64 0, .slice none 0 0, .int .i64 0, .slice none 0 0, .slice none 0 0, .slice none 0 0, .slice none 0 0, .slice none 0 0] 145)).drew := ((Below.refl _ _).alloc (Nat.le_refl _) _).drew
  have fx := heap_new V (.cells #[.string ⟨#[100]⟩, .string ⟨#[114]⟩, .int .i64 0, .int .i64 0, .slice none 0 0, .int .i64 0, .slice none 0 0, .slice none 0 0, .slice none 0 0, .slice none 0 0, .slice none 0 0] 145)
  have fx2 : (V.alloc (.cells #[.string ⟨#[100]⟩, .string ⟨#[114]⟩, .int .i64 0, .int .i64 0, .slice none 0 0, .int .i64 0, .slice none 0 0, .slice none 0 0, .slice none 0 0, .slice none 0 0, .slice none 0 0] 145)).drew.heap[V.heap.size]? = _ := fx
  generalize (V.alloc (.cells #[.string ⟨#[100]⟩, .string ⟨#[114]⟩, .int .i64 0, .int .i64 0, .slice none 0 0, .int .i64 0, .slice none 0 0, .slice none 0 0, .slice none 0 0, .slice none 0 0, .slice none 0 0] 145)).drew = U at b1 fx2 ⊢
  have hz := HF.out.2.2.2.1
  have g0 := (b1.block w.heap.size (by omega)).trans HF.out.1
  have g1 := (b1.block (w.heap.size + 1) (by omega)).trans HF.out.2.1
  have g3 := (b1.block (w.heap.size + 1 + 1 + 1) (by omega)).trans HF.out.2.2.1
  have i0 := cell_of_blk (j := 0) g1 rfl
  have i1 := cell_of_blk (j := 1) g1 rfl
  have m0 := cell_of_blk (j := 0) g3 rfl
  have m1 := cell_of_blk (j := 1) g3 rfl
  have hup := update_name_nil (d := ⟨#[100]⟩) (r := ⟨#[114]⟩) (v := .pointer (some ⟨V.heap.size, 0, none⟩)) (w := U.drew) g0
  unfold nmV at hup
  have HU := Lib.hid (And.intro b1 (And.intro fx2 (And.intro g0 (And.intro g1 g3))))
  clear b1 fx fx2 g0 g1 g3 h0 h1 n0 n1 hz
  go_region
  obtain ⟨X, eX⟩ : ∃ X : World, X = { U.drew with heap := U.drew.heap.setIfInBounds w.heap.size (.map #[{ key := .agg #[.string ⟨#[100]⟩, .string ⟨#[114]⟩], val := .pointer (some ⟨V.heap.size, 0, none⟩), born := 0 }] 1) } := ⟨_, rfl⟩
  have hX : ∀ k, k ≠ w.heap.size → X.heap[k]? = U.heap[k]? := fun k hk => by rw [eX]; exact Array.getElem?_setIfInBounds_ne (Ne.symm hk)
  have sX : X.heap.size = U.heap.size := by rw [eX]; exact Array.size_setIfInBounds
  have mX : X.heap[w.heap.size]? = some (.map #[{ key := .agg #[.string ⟨#[100]⟩, .string ⟨#[114]⟩], val := .pointer (some ⟨V.heap.size, 0, none⟩), born := 0 }] 1) := by
    rw [eX]
    exact Array.getElem?_setIfInBounds_self_of_lt (Array.getElem?_eq_some_iff.1 HU.out.2.2.1).1
  have bX : Below w.heap.size U X := by
    rw [eX]
    exact ⟨rfl, rfl, rfl, Nat.le_of_eq Array.size_setIfInBounds.symm, fun k hk => Array.getElem?_setIfInBounds_ne (by omega)⟩
  have eX' : ({ heap := U.drew.heap.setIfInBounds w.heap.size (.map #[{ key := .agg #[.string ⟨#[100]⟩, .string ⟨#[114]⟩], val := .pointer (some ⟨V.heap.size, 0, none⟩), born := 0 }] 1), tape := U.tape, drawn := U.drawn + 1, os := U.drew.os, output := U.drew.output } : World) = X := eX.symm
  rw [eX']
  have hz := HF.out.2.2.2.1
  have y1 := (hX (w.heap.size + 1) (by omega)).trans HU.out.2.2.2.1
  have yx := (hX V.heap.size (by omega)).trans HU.out.2.1
  have o0 := cell_of_blk (j := 0) y1 rfl
  have o1 := cell_of_blk (j := 1) y1 rfl
  have q1 : X.frozen? ⟨w.heap.size + 1, 1, none⟩ = false := by simp [World.frozen?, y1]
  have hhX : w.heap.size + 1 < X.heap.size := (Array.getElem?_eq_some_iff.1 y1).1
  have HX := Lib.hid (And.intro mX (And.intro y1 (And.intro yx (And.intro bX (And.intro sX hz)))))
  clear eX eX' hX mX y1 yx bX sX hz i0 i1 m0 m1 hup hl
  generalize hgg : w.heap.size + 1 = g at hhX o0 o1 q1 ⊢
  have HGG := Lib.hid hgg
  clear hgg
  go_upto_region 10 with (fail)
  generalize hG : (Question.appendCap 1 0 139).cut (X.tape X.drawn (Question.appendCap 1 0 139)) = K
  have hP := put_two X ⟨g, 1, none⟩ (.slice (some ⟨X.heap.size + 1, 0, none⟩) 1 K) (.cells #[.pointer (some ⟨V.heap.size, 0, none⟩)] 139) (.cells (#[.pointer (some ⟨V.heap.size, 0, none⟩)] ++ Builtin.zeroCells #[.pointer none] (K - 1)) 139) o1
  generalize (((X.setCell ⟨g, 1, none⟩ (.slice (some ⟨X.heap.size + 1, 0, none⟩) 1 K)).alloc (.cells #[.pointer (some ⟨V.heap.size, 0, none⟩)] 139)).alloc (.cells (#[.pointer (some ⟨V.heap.size, 0, none⟩)] ++ Builtin.zeroCells #[.pointer none] (K - 1)) 139)).drew = Y at hP ⊢
  simp only at hP
  obtain ⟨p0, p1, p2, p3, p4, p5⟩ := hP
  have d0 := (p0 ⟨g, 0, none⟩ hhX (by simp)).trans o0
  have HY := Lib.hid (And.intro d0 (And.intro p1 (And.intro p3 (And.intro p4 p5))))
  clear p0 p2 p3 p4 p5 hG o0 o1 q1 d0
  go_wp2_with (fail)
  rw [rounds_succ]
  go_wp2_with (go_at_call 157; refine (sortL_one _ _ _ _).mono ?_; rintro e w' ⟨rfl, rfl⟩)
  go_ret
  obtain ⟨d0, p1, p3, p4, p5⟩ := HY.out
  obtain ⟨mX, y1, yx, bX, sX, hz⟩ := HX.out
  have hw := HGG.out
  have hVU := HU.out.1.size
  have hxl : V.heap.size < X.heap.size := (Array.getElem?_eq_some_iff.1 yx).1
  have q1 : w'.heap[w.heap.size]? = X.heap[w.heap.size]? := p5 _ (by omega) (by omega)
  have q2 : w'.heap[V.heap.size]? = X.heap[V.heap.size]? := p5 _ hxl (by omega)
  have q3 : w'.cell? ⟨g, 0, none⟩ = some (.map (some w.heap.size)) := d0
  have q4 : Below w.heap.size X w' := p3 _ (by omega)
  exact ⟨g, w.heap.size, V.heap.size, rfl, ⟨by omega, q3, q1.trans mX, q2.trans yx⟩, by omega, by omega, by omega, ((HF.out.2.2.2.2.trans (HU.out.1.mono (by omega))).trans bX).trans q4⟩
end Go.Proofs.YtgdnedhcbjonkaaGreatDoor

/- alarm.at of one raise. -/
namespace Go.Proofs.YtgdnedhcbjonkaaGreatDoor
open Go.RowKit Go.Shelf

/-- A house with one life of d and r that is up since 1. -/
structure UpH (w : World) (hs m x : Nat) : Prop where
  hc : w.cell? ⟨hs, 0, none⟩ = some (.map (some m))
  hm : w.heap[m]? = some (.map #[{ key := nmV ⟨#[100]⟩ ⟨#[114]⟩, val := .pointer (some ⟨x, 0, none⟩), born := 0 }] 1)
  up : LifeUp w x
set_option maxRecDepth 100000 in
set_option maxHeartbeats 1000000 in
theorem at_one (b o c : Nat) (w : World) (h : SigAt w b o) :
    Calls Tryz.prog 59 #[.slice (some ⟨b, o, none⟩) 1 c, .int .i64 1] w fun e w' => ∃ hs m x, e = .returned (.pointer (some ⟨hs, 0, none⟩)) ∧ UpH w' hs m x ∧ w.heap.size ≤ hs ∧ w.heap.size ≤ m ∧ w.heap.size ≤ x ∧ Below w.heap.size w w' := by
  have hb := h.lt
  have HN := Lib.hid (newHouse_one b o c w h)
  have HK := Lib.hid h
  clear h
  go_enter Tryz.func59, Tryz.ntmps59
  go_wp2_with (fail)
  refine HN.out.mono ?_
  rintro e w1 ⟨hs, m, x, rfl, hN, hl1, hl2, hl3, hB1⟩
  have hs1 := hB1.size
  obtain ⟨k0, k1, k2, k3, k4, k5⟩ := SigAt.below HK.out hB1
  have hb1 : b < w1.heap.size := by omega
  have HN1 := Lib.hid hN
  have hba : Below w1.heap.size w1 (w1.alloc (.cells #[.int .i64 1, .int .i64 1, .string ⟨#[100]⟩, .string ⟨#[114]⟩, .string ⟨#[]⟩, .int .i64 0] 47)) := (Below.refl _ _).alloc (Nat.le_refl _) _
  have hNa := Below.newH hba hN
  have hll : hs < w1.heap.size ∧ m < w1.heap.size ∧ x < w1.heap.size := ⟨World.block_lt_of_cell? w1 _ hN.hc, (Array.getElem?_eq_some_iff.1 hN.hm).1, (Array.getElem?_eq_some_iff.1 hN.hx).1⟩
  have hmx : m ≠ x := fun h => by have := hN.hm; rw [h, hN.hx] at this; simp at this
  have HF := Lib.hid (hfollow_new hs m x _ hNa.ne hNa.hc hNa.hm hNa.hx)
  have HB1 := Lib.hid (And.intro hB1 (And.intro hba (And.intro hll (And.intro hmx (And.intro hl1 (And.intro hl2 hl3))))))
  clear hN hB1 hNa hba hll hmx hl1 hl2 hl3
  go_wp2_with (fail)
  refine wp_loop_rounds 2 ?_
  rw [rounds_succ]
  go_wp2_with (fail)
  refine HF.out.mono ?_
  rintro e w3 ⟨rfl, hU, hB3, hK⟩
  have HW := Lib.hid (And.intro hU (And.intro hB3 hK))
  clear hU hB3 hK
  go_wp2_with (fail)
  rw [rounds_succ]
  go_wp2_with (fail)
  go_ret
  obtain ⟨hU, hB3, hK⟩ := HW.out
  obtain ⟨hB1, hba, ⟨h1, h2, h3⟩, hmx, hl1, hl2, hl3⟩ := HB1.out
  have hN := HN1.out
  have hsz := hba.size
  have c1 : w3.cell? ⟨hs, 0, none⟩ = some (.map (some m)) := (World.cell?_of_block (a := ⟨hs, 0, none⟩) (hK hs (by omega) hN.ne)).trans ((hba.cell (p := ⟨hs, 0, none⟩) h1).trans hN.hc)
  have c2 := (hK m (by omega) hmx).trans ((hba.block m h2).trans hN.hm)
  exact ⟨hs, m, x, rfl, ⟨c1, c2, hU⟩, hl1, hl2, hl3, (hB1.trans (hba.mono (by omega))).trans (hB3.mono (by omega))⟩
end Go.Proofs.YtgdnedhcbjonkaaGreatDoor

/- alarm.AlarmOf of one raise. -/
namespace Go.Proofs.YtgdnedhcbjonkaaGreatDoor
open Go.RowKit Go.Shelf

theorem blk_set {w : World} {g j : Nat} {cs : Array Value} {t : TypeId} {f : Nat × Nat} (v : Value) (h : w.heap[g]? = some (.cells cs t f)) : (w.setCell ⟨g, j, none⟩ v).heap[g]? = some (.cells (cs.setIfInBounds j v) t f) := by
  simp [World.setCell, Array.getElem?_modify, h]
set_option maxRecDepth 100000 in
set_option maxHeartbeats 1000000 in
theorem alarmOf_one (b o c : Nat) (w : World) (h : SigAt w b o) :
    Calls Tryz.prog 39 #[.slice (some ⟨b, o, none⟩) 1 c, .string ⟨#[100]⟩, .string ⟨#[114]⟩, .int .i64 1] w fun e w' => e = .returned (.tuple #[.agg #[.string ⟨#[100]⟩, .string ⟨#[114]⟩, .int .i64 1, .int .i64 1, .int .i64 1, .int .i64 0], .int .i64 0]) ∧ Below w.heap.size w w' := by
  have hb := h.lt
  have hba : Below w.heap.size w (w.alloc (.cells #[.string ⟨#[]⟩, .string ⟨#[]⟩, .int .i64 0, .int .i64 0, .int .i64 0, .int .i64 0] 99)) := (Below.refl _ _).alloc (Nat.le_refl _) _
  have hnw := heap_new w (.cells #[.string ⟨#[]⟩, .string ⟨#[]⟩, .int .i64 0, .int .i64 0, .int .i64 0, .int .i64 0] 99)
  have hz : w.heap.size < (w.alloc (.cells #[.string ⟨#[]⟩, .string ⟨#[]⟩, .int .i64 0, .int .i64 0, .int .i64 0, .int .i64 0] 99)).heap.size := by simp
  have HN := Lib.hid (nameFault_one b o c _ (h.below hba))
  have HK := Lib.hid (And.intro (h.below hba) (And.intro hba (And.intro hnw hz)))
  clear h hba hnw hz
  go_enter Tryz.func39, Tryz.ntmps39
  go_wp2_with (fail)
  refine HN.out.mono ?_
  rintro e w1 ⟨rfl, hB1⟩
  have HA := Lib.hid (at_one b o c w1 (HK.out.1.below hB1))
  have HB1 := Lib.hid hB1
  clear hB1
  go_wp2_with (go_at_call 50; refine (moment_yes _ _ (by omega) (by omega)).mono ?_; rintro e w' ⟨rfl, rfl⟩)
  refine HA.out.mono ?_
  rintro e w2 ⟨hs, m, x, rfl, hU, hl1, hl2, hl3, hB2⟩
  have hl := lookup_name_one (d := ⟨#[100]⟩) (r := ⟨#[114]⟩) (w := w2) hU.hm
  unfold nmV at hl
  have hc := hU.hc
  have HV := Lib.hid (view_up x w2 hU.up)
  have HB2 := Lib.hid (And.intro hB2 (And.intro hl1 (And.intro hl2 hl3)))
  clear hU hl1 hl2 hl3 hB2
  go_wp2_with (fail)
  refine HV.out.mono ?_
  rintro e w3 ⟨rfl, hB3⟩
  have hbb := (HB1.out.trans (HB2.out.1.mono HB1.out.size)).trans (hB3.mono (by have := HB1.out.size; have := HB2.out.1.size; omega))
  have hn3 := (hbb.block w.heap.size HK.out.2.2.2).trans HK.out.2.2.1
  have hlt3 : w.heap.size < w3.heap.size := Nat.lt_of_lt_of_le HK.out.2.2.2 hbb.size
  have HB3 := Lib.hid hbb
  have q0 := cell_of_blk (j := 0) hn3 rfl
  have q1 := cell_of_blk (j := 1) hn3 rfl
  have q2 := cell_of_blk (j := 2) hn3 rfl
  have q3 := cell_of_blk (j := 3) hn3 rfl
  have q4 := cell_of_blk (j := 4) hn3 rfl
  have q5 := cell_of_blk (j := 5) hn3 rfl
  have z3 : w3.frozen? ⟨w.heap.size, 0, none⟩ = false := by simp [World.frozen?, hn3]
  have HN3 := Lib.hid hn3
  clear hB3 hbb hn3 hl hc q0 q1 q2 q3 q4 q5 z3 hb
  generalize hgg : w.heap.size = g at hlt3 ⊢
  have HGG := Lib.hid hgg
  clear hgg
  go_upto_region 10 with (fail)
  have hbv : Below w3.heap.size w3 (w3.alloc (.cells #[.string ⟨#[100]⟩, .string ⟨#[114]⟩, .int .i64 1, .int .i64 1, .int .i64 1, .int .i64 0] 99)) := (Below.refl _ _).alloc (Nat.le_refl _) _
  have hnv := heap_new w3 (.cells #[.string ⟨#[100]⟩, .string ⟨#[114]⟩, .int .i64 1, .int .i64 1, .int .i64 1, .int .i64 0] 99)
  generalize w3.alloc (.cells #[.string ⟨#[100]⟩, .string ⟨#[114]⟩, .int .i64 1, .int .i64 1, .int .i64 1, .int .i64 0] 99) = V at hbv hnv ⊢
  have hgv := (hbv.block g hlt3).trans (HGG.out ▸ HN3.out)
  have HWV := Lib.hid (HK.out.2.1.trans ((HB3.out.trans (hbv.mono HB3.out.size)).mono HK.out.2.1.size))
  have hne : g ≠ w3.heap.size := by omega
  generalize w3.heap.size = k at hnv hne ⊢
  have p0 := cell_of_blk (j := 0) hnv rfl
  have p1 := cell_of_blk (j := 1) hnv rfl
  have p2 := cell_of_blk (j := 2) hnv rfl
  have p3 := cell_of_blk (j := 3) hnv rfl
  have p4 := cell_of_blk (j := 4) hnv rfl
  have p5 := cell_of_blk (j := 5) hnv rfl
  have q0 := cell_of_blk (j := 0) hgv rfl
  have q1 := cell_of_blk (j := 1) hgv rfl
  have q2 := cell_of_blk (j := 2) hgv rfl
  have q3 := cell_of_blk (j := 3) hgv rfl
  have q4 := cell_of_blk (j := 4) hgv rfl
  have q5 := cell_of_blk (j := 5) hgv rfl
  have z0 : V.frozen? ⟨g, 0, none⟩ = false := by simp [World.frozen?, hgv]
  have z1 : V.frozen? ⟨g, 1, none⟩ = false := by simp [World.frozen?, hgv]
  have z2 : V.frozen? ⟨g, 2, none⟩ = false := by simp [World.frozen?, hgv]
  have z3 : V.frozen? ⟨g, 3, none⟩ = false := by simp [World.frozen?, hgv]
  have z4 : V.frozen? ⟨g, 4, none⟩ = false := by simp [World.frozen?, hgv]
  have z5 : V.frozen? ⟨g, 5, none⟩ = false := by simp [World.frozen?, hgv]
  have HV3 := Lib.hid (And.intro hbv hgv)
  clear hbv hgv hnv hlt3
  go_wp2_with (fail)
  have HX := blk_set (j := 5) (.int .i64 0) (blk_set (j := 4) (.int .i64 1) (blk_set (j := 3) (.int .i64 1) (blk_set (j := 2) (.int .i64 1) (blk_set (j := 1) (.string ⟨#[114]⟩) (blk_set (j := 0) (.string ⟨#[100]⟩) HV3.out.2)))))
  have e0 : w.heap.size ≤ g := Nat.le_of_eq HGG.out
  have HBX := (((((HWV.out.setCell (p := ⟨g, 0, none⟩) e0 (.string ⟨#[100]⟩)).setCell (p := ⟨g, 1, none⟩) e0 (.string ⟨#[114]⟩)).setCell (p := ⟨g, 2, none⟩) e0 (.int .i64 1)).setCell (p := ⟨g, 3, none⟩) e0 (.int .i64 1)).setCell (p := ⟨g, 4, none⟩) e0 (.int .i64 1)).setCell (p := ⟨g, 5, none⟩) e0 (.int .i64 0)
  generalize ((((((V.setCell ⟨g, 0, none⟩ (.string ⟨#[100]⟩)).setCell ⟨g, 1, none⟩ (.string ⟨#[114]⟩)).setCell ⟨g, 2, none⟩ (.int .i64 1)).setCell ⟨g, 3, none⟩ (.int .i64 1)).setCell ⟨g, 4, none⟩ (.int .i64 1)).setCell ⟨g, 5, none⟩ (.int .i64 0)) = U at HX HBX ⊢
  clear q0 q1 q2 q3 q4 q5 p0 p1 p2 p3 p4 p5
  have q0 := cell_of_blk (j := 0) HX rfl
  have q1 := cell_of_blk (j := 1) HX rfl
  have q2 := cell_of_blk (j := 2) HX rfl
  have q3 := cell_of_blk (j := 3) HX rfl
  have q4 := cell_of_blk (j := 4) HX rfl
  have q5 := cell_of_blk (j := 5) HX rfl
  exact bodyPost_ret (v := .tuple #[.agg #[.string ⟨#[100]⟩, .string ⟨#[114]⟩, .int .i64 1, .int .i64 1, .int .i64 1, .int .i64 0], .int .i64 0]) (by simp [results, Tryz.results39, go_sem, q0, q1, q2, q3, q4, q5]) rfl ⟨rfl, HBX⟩
end Go.Proofs.YtgdnedhcbjonkaaGreatDoor

/- The shelf's Lays.n104 at this program. -/
namespace Go.Proofs.YtgdnedhcbjonkaaGreatDoor
open Go.RowKit Go.Shelf

def lay104_ren : Go.Shelf.Ren := ⟨fun | 104 => 131 | 211 => 183 | 207 => 214 | n => n, fun | 9 => 9 | 4 => 4 | 24 => 183 | 3 => 3 | n => n, fun  | n => n⟩
theorem lay104 : Lays.n104 Tryz.prog lay104_ren := {
  mixed := by kernel_rfl,
  f104 := Tryz.func131.trans (congrArg some (by kernel_rfl)),
  f207 := Tryz.func214.trans (congrArg some (by kernel_rfl)),
  f211 := Tryz.func183.trans (congrArg some (by kernel_rfl)),
  t3 := Tryz.underlying3,
  a3 := Tryz.isAgg3,
  z3 := Tryz.sizeOf3,
  v3 := Tryz.zeroValue3,
  t4 := Tryz.underlying4,
  a4 := Tryz.isAgg4,
  z4 := Tryz.sizeOf4,
  v4 := Tryz.zeroValue4,
  t9 := Tryz.underlying9,
  a9 := Tryz.isAgg9,
  z9 := Tryz.sizeOf9,
  v9 := Tryz.zeroValue9,
  t24 := Tryz.underlying183,
  a24 := Tryz.isAgg183,
  z24 := Tryz.sizeOf183,
  v24 := Tryz.zeroValue183 }
end Go.Proofs.YtgdnedhcbjonkaaGreatDoor

/- tenant.Covers: an act with a star covers another one. -/
namespace Go.Proofs.YtgdnedhcbjonkaaGreatDoor
open Go.RowKit

def aStar : ByteArray := ⟨#[97, 46, 42]⟩
def aB : ByteArray := ⟨#[97, 46, 98]⟩
theorem cut_ab (w : World) : Calls Tryz.prog 184 #[.string ⟨#[97, 46, 98]⟩, .string ⟨#[46]⟩] w fun e w' => e = .returned (.tuple #[.string ⟨#[97]⟩, .string ⟨#[98]⟩, .bool true]) ∧ Below w.heap.size w w' := by
  have H := lindex_pt ⟨#[97, 46, 98]⟩ 1 w (by rw [Lib.toList_data]; decide) (by decide)
  go_enter Tryz.func184, Tryz.ntmps184
  go_wp2_with (fail)
  go_enter Tryz.func215, Tryz.ntmps215
  go_wp2_with (go_at_call 236; refine H.mono ?_; rintro e w' ⟨rfl, rfl⟩)
  go_quiet (fail)
  go_wp2_with (fail)
  go_ret3
  exact ⟨rfl, below_drewN (Below.refl _ _) _⟩
theorem dotted_ab (w : World) : Calls Tryz.prog 133 #[.string ⟨#[97, 46, 98]⟩, .int .i64 5] w fun e w' => e = .returned (.bool true) ∧ Below w.heap.size w w' := by
  have HC := Lib.hid (cut_ab w)
  have HD := Lib.hid (fun w => cut_none ⟨#[98]⟩ w (by rw [Lib.toList_data]; decide) (by decide))
  have HK := Lib.hid (fun w => key_yes ⟨#[97]⟩ w (by kernel_rfl))
  have HL := Lib.hid (fun w => key_yes ⟨#[98]⟩ w (by kernel_rfl))
  go_enter Tryz.func133, Tryz.ntmps133
  go_wp2_with (fail)
  refine wp_loop_rounds 2 ?_
  rw [rounds_succ]
  go_wp2_with (first | (go_at_call 184; refine HC.out.mono ?_; rintro e w' ⟨rfl, hb⟩) | (go_at_call 93; refine (HK.out _).mono ?_; rintro e w' ⟨rfl, rfl⟩))
  rw [rounds_succ]
  go_wp2_with (first | (go_at_call 184; refine (HD.out _).mono ?_; rintro e w' ⟨rfl, rfl⟩) | (go_at_call 93; refine (HL.out _).mono ?_; rintro e w' ⟨rfl, rfl⟩))
  go_ret
  exact ⟨rfl, hb⟩
theorem dotted_a (w : World) : Calls Tryz.prog 133 #[.string ⟨#[97]⟩, .int .i64 4] w fun e w' => e = .returned (.bool true) ∧ w = w' := by
  have HD := Lib.hid (fun w => cut_none ⟨#[97]⟩ w (by rw [Lib.toList_data]; decide) (by decide))
  have HK := Lib.hid (fun w => key_yes ⟨#[97]⟩ w (by kernel_rfl))
  go_enter Tryz.func133, Tryz.ntmps133
  go_wp2_with (fail)
  refine wp_loop_rounds 1 ?_
  rw [rounds_succ]
  go_wp2_with (first | (go_at_call 184; refine (HD.out _).mono ?_; rintro e w' ⟨rfl, rfl⟩) | (go_at_call 93; refine (HK.out _).mono ?_; rintro e w' ⟨rfl, rfl⟩))
  go_ret
  exact ⟨rfl, rfl⟩
set_option maxRecDepth 100000 in
theorem suf_star (w : World) : Calls Tryz.prog 131 #[.string ⟨#[97, 46, 42]⟩, .string ⟨#[42]⟩] w fun e w' => e = .returned (.tuple #[.string ⟨#[97, 46]⟩, .bool true]) ∧ w' = w :=
  Any.strings_CutSuffix lay104 ⟨#[97, 46, 42]⟩ ⟨#[42]⟩ w (by decide)
set_option maxRecDepth 100000 in
theorem suf_pt (w : World) : Calls Tryz.prog 131 #[.string ⟨#[97, 46]⟩, .string ⟨#[46]⟩] w fun e w' => e = .returned (.tuple #[.string ⟨#[97]⟩, .bool true]) ∧ w' = w :=
  Any.strings_CutSuffix lay104 ⟨#[97, 46]⟩ ⟨#[46]⟩ w (by decide)
set_option maxRecDepth 100000 in
theorem suf_no (w : World) : Calls Tryz.prog 131 #[.string ⟨#[97, 46, 98]⟩, .string ⟨#[42]⟩] w fun e w' => e = .returned (.tuple #[.string ⟨#[97, 46, 98]⟩, .bool false]) ∧ w' = w :=
  Any.strings_CutSuffix lay104 ⟨#[97, 46, 98]⟩ ⟨#[42]⟩ w (by decide)
theorem isact_star (w : World) : Calls Tryz.prog 83 #[.string ⟨#[97, 46, 42]⟩] w fun e w' => e = .returned (.bool true) ∧ w = w' := by
  go_enter Tryz.func83, Tryz.ntmps83
  go_wp2_with (fail)
  refine (suf_star _).mono ?_
  rintro e w' ⟨rfl, rfl⟩
  go_wp2_with (fail)
  refine (suf_pt _).mono ?_
  rintro e w' ⟨rfl, rfl⟩
  go_wp2_with (fail)
  refine (dotted_a _).mono ?_
  rintro e w' ⟨rfl, rfl⟩
  go_wp2_with (fail)
  go_ret
  exact ⟨rfl, rfl⟩
theorem isact_ab (w : World) : Calls Tryz.prog 83 #[.string ⟨#[97, 46, 98]⟩] w fun e w' => e = .returned (.bool true) ∧ Below w.heap.size w w' := by
  go_enter Tryz.func83, Tryz.ntmps83
  go_wp2_with (first | (go_at_call 131; refine (suf_no _).mono ?_; rintro e w' ⟨rfl, rfl⟩) | (fail))
  go_enter Tryz.func132, Tryz.ntmps132
  go_wp2_with (go_at_call 133; refine (dotted_ab _).mono ?_; rintro e w' ⟨rfl, hb⟩)
  go_ret
  exact ⟨rfl, hb⟩
theorem hasPrefix_ab (w : World) : Calls Tryz.prog 124 #[.string ⟨#[97, 46, 98]⟩, .string ⟨#[97, 46]⟩] w fun e w' => e = .returned (.bool true) ∧ Below w.heap.size w w' := by
  go_enter Tryz.func124, Tryz.ntmps124
  go_wp2_with (fail)
  go_enter Tryz.func180, Tryz.ntmps180
  go_wp2_with (fail)
  go_ret
  exact ⟨congrArg (fun b => Ending.returned (Value.bool b)) (by kernel_rfl), Below.refl _ _⟩
theorem covers_star (w : World) : Calls Tryz.prog 186 #[.string ⟨#[97, 46, 42]⟩, .string ⟨#[97, 46, 98]⟩] w fun e w' => e = .returned (.bool true) ∧ Below w.heap.size w w' := by
  go_enter Tryz.func186, Tryz.ntmps186
  go_wp2_with (fail)
  refine (suf_star _).mono ?_
  rintro e w' ⟨rfl, rfl⟩
  have hh := hasPrefix_ab w'
  go_wp2_with (fail)
  refine hh.mono ?_
  rintro e w1 ⟨rfl, hb⟩
  have hS := hb
  go_wp2_with (fail)
  go_ret
  exact ⟨rfl, hb⟩
end Go.Proofs.YtgdnedhcbjonkaaGreatDoor

/- slices.IndexFunc and ContainsFunc of texts over any closure, by their contracts. Printed by gen_RkI.py. -/
namespace Go.Proofs.YtgdnedhcbjonkaaGreatDoor
open Go.RowKit

def stC (x : ByteArray) : List Value := [.string x]
def stV (x : ByteArray) : Value := .string x
theorem stC_len (x : ByteArray) : (stC x).length = 1 := rfl
theorem st_cell {w : World} {b o : Nat} {l : List ByteArray} (h : Cells w b o (recs stC l)) (i : Nat) (x : ByteArray) (hx : l[i]? = some x) : w.cell? ⟨b, o + i, none⟩ = some (.string x) := by
  have := rec_cell stC_len h i x hx 0 _ rfl
  simpa using this
/-- Where the first text stands of which q is true; -1 if there is none. -/
def fstS (q : ByteArray → Bool) : List ByteArray → Int
  | [] => -1
  | x :: l => if q x then 0 else if fstS q l = -1 then -1 else fstS q l + 1
theorem fstS_no {q : ByteArray → Bool} : ∀ {l : List ByteArray}, (∀ x ∈ l, q x = false) → fstS q l = -1
  | [], _ => rfl
  | x :: l, h => by
    rw [fstS, if_neg (by rw [h x (by simp)]; decide), fstS_no (fun y hy => h y (List.mem_cons_of_mem _ hy))]
    rfl
theorem fstS_ge (q : ByteArray → Bool) : ∀ (l : List ByteArray), -1 ≤ fstS q l
  | [] => Int.le_refl _
  | x :: l => by
    have := fstS_ge q l
    rw [fstS]; split
    · omega
    · split <;> omega
theorem fstS_at {q : ByteArray → Bool} : ∀ {l : List ByteArray} {k : Nat} {x : ByteArray}, l[k]? = some x → q x = true → (∀ j y, j < k → l[j]? = some y → q y = false) → fstS q l = (k : Int)
  | [], _, _, h, _, _ => by simp at h
  | y :: l, 0, x, h, hq, _ => by
    have e : y = x := by simpa using h
    rw [fstS, e, if_pos hq]; rfl
  | y :: l, k + 1, x, h, hq, hb => by
    have ih := fstS_at (l := l) (k := k) (x := x) (by simpa using h) hq (fun j z hj hz => hb (j + 1) z (by omega) (by simpa using hz))
    have h0 := hb 0 y (by omega) rfl
    rw [fstS, if_neg (by rw [h0]; decide), ih, if_neg (by omega)]
    omega
set_option maxRecDepth 100000 in
set_option maxHeartbeats 2000000 in
theorem indexS_any (F : Nat) (caps : Array Value) (l : List ByteArray) (q : ByteArray → Bool) (n c : Nat) (A : Option Addr) (w : World) (hn : l.length = n) (hn5 : n ≤ 5000) (hr : Row w w.heap.size A (recs stC l))
    (hrun : ∀ (args : Array Value) (V : World), (callFunc F args).run Tryz.prog V = .ok (.enter F args) V)
    (hf : ∀ (V : World) (x : ByteArray), x ∈ l → Below w.heap.size w V → Calls Tryz.prog F (#[stV x] ++ caps) V fun e w' => e = .returned (.bool (q x)) ∧ Below V.heap.size V w') :
    Calls Tryz.prog 129 #[.slice A n c, .func (.func F) #[] caps] w fun e w' => e = .returned (.int .i64 (fstS q l)) ∧ Below w.heap.size w w' := by
  have HR := Lib.hid hr
  have HF := Lib.hid hf
  have HN := Lib.hid hn
  clear hr hf hn
  go_enter Tryz.func129, Tryz.ntmps129
  go_wp2_with (fail)
  go_loopw [8] (fun i wr => ∃ k : Nat, k ≤ n ∧ i = .int .i64 k ∧ (∀ (j : Nat) (y : ByteArray), j < k → l[j]? = some y → q y = false) ∧ Below w.heap.size w wr) (fun i _ => n - (intOf i).toNat)
  case atStart => exact ⟨0, Nat.zero_le _, rfl, fun j y hj => by omega, Below.refl _ _⟩
  case round =>
    obtain ⟨k, hk, rfl, hno, hbl⟩ := hrel
    have hsz := hbl.size
    have HBL := Lib.hid hbl
    have HNO := Lib.hid hno
    by_cases hlt : k < n
    · obtain ⟨x, hx⟩ : ∃ x, l[k]? = some x := ⟨_, List.getElem?_eq_getElem (by have := HN.out; omega)⟩
      obtain ⟨b, o, rfl, hbw, hC⟩ := (HR.out.below hbl).posR stC_len (by omega) (by have := HN.out; omega)
      have c0 := st_cell hC k x hx
      have HX := Lib.hid hx
      have HCALL := Lib.hid (HF.out wr x (List.mem_of_getElem? hx) hbl)
      obtain ⟨t, et⟩ : ∃ t, t = q x := ⟨_, rfl⟩
      rw [← et] at HCALL
      have HT := Lib.hid et
      unfold stV at HCALL
      have hlt' : (k : Int) < (n : Int) := by omega
      clear hbl hC hx hno et
      go_wp2_with (fail)
      refine HCALL.out.mono ?_
      rintro e w' ⟨rfl, hbw'⟩
      have HB3 := Lib.hid (show Below w.heap.size w w' from (HBL.out).trans (hbw'.mono hsz))
      clear hbw'
      cases t with
      | true =>
        have HE := Lib.hid (fstS_at HX.out HT.out.symm HNO.out)
        go_wp2_with (fail)
        go_ret
        exact ⟨by rw [HE.out]; rfl, HB3.out⟩
      | false =>
        go_wp2_with (fail)
        go_roundw
        case rel =>
          refine ⟨k + 1, by omega, by go_num, ?_, HB3.out⟩
          intro j y hj hy
          rcases Nat.lt_or_ge j k with h | h
          · exact HNO.out j y h hy
          · obtain rfl : j = k := by omega
            rw [HX.out] at hy
            injection hy with hy
            rw [← hy]
            exact HT.out.symm
        case measure => simp [intOf]; omega
    · have hlt' : ¬ (k : Int) < (n : Int) := by omega
      clear hbl hno
      go_wp2_with (fail)
      go_ret
      have hE : fstS q l = -1 := fstS_no (fun y hy => by
        obtain ⟨j, hj⟩ := List.mem_iff_getElem?.1 hy
        have := (List.getElem?_eq_some_iff.1 hj).1
        exact HNO.out j y (by have := HN.out; omega) hj)
      exact ⟨by rw [hE]; rfl, HBL.out⟩
/-- Is there such a text? -/
theorem containsS_any (F : Nat) (caps : Array Value) (l : List ByteArray) (q : ByteArray → Bool) (n c : Nat) (A : Option Addr) (w : World) (hn : l.length = n) (hn5 : n ≤ 5000) (hr : Row w w.heap.size A (recs stC l))
    (hrun : ∀ (args : Array Value) (V : World), (callFunc F args).run Tryz.prog V = .ok (.enter F args) V)
    (hf : ∀ (V : World) (x : ByteArray), x ∈ l → Below w.heap.size w V → Calls Tryz.prog F (#[stV x] ++ caps) V fun e w' => e = .returned (.bool (q x)) ∧ Below V.heap.size V w') :
    Calls Tryz.prog 80 #[.slice A n c, .func (.func F) #[] caps] w fun e w' => e = .returned (.bool (decide (0 ≤ fstS q l))) ∧ Below w.heap.size w w' := by
  have H := Lib.hid (indexS_any F caps l q n c A w hn hn5 hr hrun hf)
  clear hr hf hn hrun
  go_enter Tryz.func80, Tryz.ntmps80
  go_wp2_with (fail)
  refine H.out.mono ?_
  rintro e w1 ⟨rfl, hb⟩
  have HB := Lib.hid hb
  clear hb
  go_wp2_with (fail)
  go_ret
  exact ⟨rfl, HB.out⟩
end Go.Proofs.YtgdnedhcbjonkaaGreatDoor

/- slices.Grow of nil, slices.Concat of two slices of texts. -/
namespace Go.Proofs.YtgdnedhcbjonkaaGreatDoor
open Go.RowKit

theorem Tryz.infoStS : (Tryz.prog.info? 9).map (fun i => (i.zero, i.size, i.bytes)) = some (some (.string ⟨#[]⟩), 1, 16) := by kernel_rfl

theorem recs_len1 (l : List ByteArray) : (recs stC l).length = l.length * 1 := by
  induction l with
  | nil => rfl
  | cons x l ih => simp only [recs, List.flatMap_cons, List.length_append, List.length_cons] at ih ⊢; rw [ih]; simp [stC]; omega
set_option maxRecDepth 100000 in
set_option maxHeartbeats 2000000 in
theorem growS_any (n : Nat) (w : World) (hn : n ≤ 100000) : Calls Tryz.prog 130 #[.slice none 0 0, .int .i64 (n : Int)] w fun e w' => ∃ v, e = .returned v ∧ w'.ownsRow w.heap.size 9 1 v 0 [] ∧ Below w.heap.size w w' := by
  obtain ⟨i0, hi0, hz0, hz1, hz2⟩ := info_parts Tryz.infoStS
  rcases Nat.eq_zero_or_pos n with h0 | h0
  · subst h0
    go_enter Tryz.func130, Tryz.ntmps130
    go_wp2_with (fail)
    go_ret
    exact ⟨_, rfl, World.ownsRow_nil _ _ _ _, Below.refl _ _⟩
  · have hrz : ∀ ty, (Builtin.append_ #[85, 3] ty #[.slice none 0 0, .int .i64 (n : Int)]).run Tryz.prog w =
        .ok (.slice (some ⟨w.heap.size, 0, none⟩) n (grownCap w n 0 9)) (w.drew.alloc (.cells (#[] ++ Builtin.zeroCells (Value.string ⟨#[]⟩).cells n ++ Builtin.zeroCells (Value.string ⟨#[]⟩).cells (grownCap w n 0 9 - n)) 9)) := fun ty => by
      have h := Lib.run_append_grow_zeros w 85 3 ty 9 i0 _ .i64 .i64 Tryz.underlying85 Tryz.underlying3 hi0 hz0 none 0 0 [] (run_firstCells_none w.drew i0.size 0 0 0) n h0 (by omega) (by omega) (by omega) (by rw [hz2]; omega) (by rw [Nat.zero_add]; exact growslice_fits (by omega) (by rw [hz2]; omega))
      simpa using h
    have hGn : n ≤ grownCap w n 0 9 := grownCap_ge w _ _ _
    have hGm : grownCap w n 0 9 ≤ maxLen := grownCap_le_maxLen w n 0 9 (by unfold maxLen; omega)
    obtain ⟨G, hG⟩ : ∃ G, G = grownCap w n 0 9 := ⟨_, rfl⟩
    rw [← hG] at hrz hGn hGm
    obtain ⟨C, hC⟩ : ∃ C, C = #[] ++ Builtin.zeroCells (Value.string ⟨#[]⟩).cells n ++ Builtin.zeroCells (Value.string ⟨#[]⟩).cells (G - n) := ⟨_, rfl⟩
    rw [← hC] at hrz
    have HOW := Lib.hid (show (w.alloc (.cells C 9)).drew.ownsRow w.heap.size 9 1 (.slice (some ⟨w.heap.size, 0, none⟩) 0 G) 0 [] from by
      refine ⟨rfl, .inr ⟨w.heap.size, G, _, rfl, Nat.le_refl _, heap_new w _, Nat.zero_le _, hGm, ?_, by simp⟩⟩
      rw [hC]
      simp only [Array.size_append, size_zeroCells]
      simp [Value.cells]
      omega)
    have hG63 : G ≤ 9223372036854775807 := by unfold maxLen at hGm; omega
    have hn1 : (0 : Int) < (n : Int) := by omega
    clear hG hi0 hz0 hC
    go_enter Tryz.func130, Tryz.ntmps130
    go_wp2_with (at_builtin; refine Lib.wpList_append_run _ rfl _ _ _ _ rfl _ _ rfl rfl _ _ (hrz _) ?_)
    go_ret
    exact ⟨_, rfl, HOW.out, ((Below.refl _ _).alloc (Nat.le_refl _) _).drew⟩

set_option maxRecDepth 100000 in
set_option maxHeartbeats 4000000 in
theorem catS_any (l1 l2 : List ByteArray) (n1 n2 c1 c2 b : Nat) (A1 A2 : Option Addr) (w : World) (h1 : l1.length = n1) (h2 : l2.length = n2) (hn1 : n1 ≤ 1000) (hn2 : n2 ≤ 1000) (k0 : w.cell? ⟨b, 0, none⟩ = some (.slice A1 n1 c1)) (k1 : w.cell? ⟨b, 1, none⟩ = some (.slice A2 n2 c2)) (hy1 : Ly w A1 n1 c1 (recs stC l1)) (hy2 : Ly w A2 n2 c2 (recs stC l2)) :
    Calls Tryz.prog 81 #[.slice (some ⟨b, 0, none⟩) 2 2] w fun e w' => ∃ v, e = .returned v ∧ w'.ownsRow w.heap.size 9 1 v (n1 + n2) (recs stC (l1 ++ l2)) ∧ Below w.heap.size w w' := by
  obtain ⟨i0, hi0, hz0, hz1, hz2⟩ := info_parts Tryz.infoStS
  have hb := World.block_lt_of_cell? w _ k0
  simp only at hb
  have HY := Lib.hid (And.intro hy1 hy2)
  have HL := Lib.hid (And.intro h1 h2)
  have hone : ∀ l : List ByteArray, ∀ u ∈ recs stC l, u.oneCell' = true := by
    intro l u hu
    simp only [recs, List.mem_flatMap] at hu
    obtain ⟨x, _, hx⟩ := hu
    exact by simp only [stC, List.mem_singleton] at hx; subst hx; rfl
  have HONE := Lib.hid hone
  have hw1 : IntKind.i64.wrap ((n1 : Int) + (n2 : Int)) = (n1 : Int) + (n2 : Int) := by rw [IntKind.wrap_i64]; omega
  have hneg : ¬ ((n1 : Int) + (n2 : Int) < 0) := by omega
  have hneg1 : ¬ ((n1 : Int) < 0) := by omega
  have K := Lib.hid (And.intro k0 k1)
  clear hy1 hy2 h1 h2 hone
  go_enter Tryz.func81, Tryz.ntmps81
  go_wp2_with (fail)
  refine wp_loop_rounds 3 ?_
  rw [rounds_succ]
  go_wp2_with (fail)
  rw [rounds_succ]
  go_wp2_with (fail)
  rw [rounds_succ]
  go_wp2_with (fail)
  rw [show (n1 : Int) + (n2 : Int) = ((n1 + n2 : Nat) : Int) by omega]
  refine (growS_any (n1 + n2) w (by omega)).mono ?_
  rintro e w1 ⟨v1, rfl, ho1, hb1⟩
  have hs1 := hb1.size
  have q0 := (hb1.cell (p := ⟨b, 0, none⟩) hb).trans K.out.1
  have q1 := (hb1.cell (p := ⟨b, 1, none⟩) hb).trans K.out.2
  have hbw : b < w1.heap.size := by omega
  have HO1 := Lib.hid ho1
  have HB1 := Lib.hid hb1
  have hal : ∀ l A n c, Ly w A n c (recs stC l) → ∀ b o, A = some ⟨b, o, none⟩ → b < w.heap.size := by
    intro l A n c h b o e
    rcases h with ⟨rfl, _⟩ | ⟨b', o', e', hlt, _⟩
    · cases e
    · rw [e'] at e; injection e with e; injection e with e1; omega
  obtain ⟨v2, w2, hr2, ho2, hg2⟩ := app_ly (P := Tryz.prog) w1 w.heap.size 85 85 9 i0 _ 1 16 Tryz.underlying85 hi0 hz0 hz1 hz2 rfl (by decide) v1 0 [] ho1 A1 n1 c1 (recs stC l1) (by rw [recs_len1, HL.out.1]) (HY.out.1.below hb1) (HONE.out l1) (by unfold maxLen; omega) (by omega) hs1
  rw [Nat.zero_add, List.nil_append] at ho2
  have hs2 := hg2.size
  have hlo1 : ∀ g, v1.ownBlock = some g → w.heap.size ≤ g := fun g e => (ho1.lt g e).1
  have HB2 := Lib.hid (hb1.grown hg2 hs1 hlo1)
  have p1 := (HB2.out.cell (p := ⟨b, 1, none⟩) hb).trans K.out.2
  have hbw2 : b < w2.heap.size := by omega
  obtain ⟨v3, w3, hr3, ho3, hg3⟩ := app_ly (P := Tryz.prog) w2 w.heap.size 85 85 9 i0 _ 1 16 Tryz.underlying85 hi0 hz0 hz1 hz2 rfl (by decide) v2 n1 (recs stC l1) ho2 A2 n2 c2 (recs stC l2) (by rw [recs_len1, HL.out.2]) (HY.out.2.below HB2.out) (HONE.out l2) (by unfold maxLen; omega) (by omega) (by omega)
  have HB3 := Lib.hid (HB2.out.grown hg3 (by omega) (fun g e => (ho2.lt g e).1))
  have HO3 := Lib.hid (show w3.ownsRow w.heap.size 9 1 v3 (n1 + n2) (recs stC (l1 ++ l2)) from by rw [show recs stC (l1 ++ l2) = recs stC l1 ++ recs stC l2 by simp [recs]]; exact ho3)
  clear ho1 hb1 ho2 hg2 ho3 hg3 hal hlo1
  go_wp2_with (fail)
  refine wp_loop_rounds 3 ?_
  rw [rounds_succ]
  go_wp2_with (at_builtin; refine Lib.wpList_append_run _ rfl _ _ _ _ rfl _ _ rfl rfl _ _ hr2 ?_)
  rw [rounds_succ]
  go_wp2_with (at_builtin; refine Lib.wpList_append_run _ rfl _ _ _ _ rfl _ _ rfl rfl _ _ hr3 ?_)
  rw [rounds_succ]
  go_wp2_with (fail)
  go_ret
  exact ⟨_, rfl, HO3.out, HB3.out⟩
end Go.Proofs.YtgdnedhcbjonkaaGreatDoor

/- tenant.Covers(["a.*"], ["a.b"]) says yes. -/
namespace Go.Proofs.YtgdnedhcbjonkaaGreatDoor
open Go.RowKit

/-- One text in memory. -/
def One (w : World) (B : Nat) (A : Option Addr) (s : ByteArray) : Prop := ∃ b o, A = some ⟨b, o, none⟩ ∧ b < B ∧ w.cell? ⟨b, o, none⟩ = some (.string s)
theorem One.cells {w : World} {B : Nat} {A : Option Addr} {s : ByteArray} (h : One w B A s) : Row w B A (recs stC [s]) := by
  obtain ⟨b, o, rfl, hb, hc⟩ := h
  refine .inr ⟨b, o, rfl, hb, fun j v hv => ?_⟩
  have hv' : ([Value.string s] : List Value)[j]? = some v := hv
  cases j with
  | zero => have e : Value.string s = v := by simpa using hv'
            subst e; exact hc
  | succ j => simp at hv'
theorem One.below {w w' : World} {B : Nat} {A : Option Addr} {s : ByteArray} (h : One w B A s) (hb : Below B w w') : One w' B A s := by
  obtain ⟨b, o, rfl, hlt, hc⟩ := h
  exact ⟨b, o, rfl, hlt, (hb.cell (p := ⟨b, o, none⟩) hlt).trans hc⟩
theorem One.wide {w : World} {B B' : Nat} {A : Option Addr} {s : ByteArray} (h : One w B A s) (hb : B ≤ B') : One w B' A s := by
  obtain ⟨b, o, rfl, hlt, hc⟩ := h
  exact ⟨b, o, rfl, by omega, hc⟩
theorem One.ly {w : World} {A : Option Addr} {s : ByteArray} (h : One w w.heap.size A s) (n c : Nat) : Ly w A n c (recs stC [s]) := by
  rcases h.cells with h | ⟨b, o, e, hb, hc⟩
  · simp [recs, stC] at h
  · exact .inr ⟨b, o, e, hb, hc⟩
theorem covered1_ab (g : Nat) (w : World) (h : w.cell? ⟨g, 0, none⟩ = some (.string ⟨#[97, 46, 98]⟩)) :
    Calls Tryz.prog 185 #[.string ⟨#[97, 46, 42]⟩, .pointer (some ⟨g, 0, none⟩)] w fun e w' => e = .returned (.bool true) ∧ Below w.heap.size w w' := by
  have hg := World.block_lt_of_cell? w _ h
  simp only at hg
  go_enter Tryz.func185, Tryz.ntmps185
  go_wp2_with (fail)
  refine (covers_star _).mono ?_
  rintro e w1 ⟨rfl, hb⟩
  go_wp2_with (fail)
  go_ret
  exact ⟨rfl, hb⟩
theorem covered_ab (c : Nat) (A : Option Addr) (w : World) (h : One w w.heap.size A ⟨#[97, 46, 42]⟩) :
    Calls Tryz.prog 135 #[.slice A 1 c, .string ⟨#[97, 46, 98]⟩] w fun e w' => e = .returned (.bool true) ∧ Below w.heap.size w w' := by
  have hb1 : Below w.heap.size w (w.alloc (.cells #[.string ⟨#[97, 46, 98]⟩] 9)) := (Below.refl _ _).alloc (Nat.le_refl _) _
  have hc1 : (w.alloc (.cells #[.string ⟨#[97, 46, 98]⟩] 9)).cell? ⟨w.heap.size, 0, none⟩ = some (.string ⟨#[97, 46, 98]⟩) := cell_of_blk (heap_new w _) rfl
  have H := Lib.hid (containsS_any 185 #[.pointer (some ⟨w.heap.size, 0, none⟩)] [⟨#[97, 46, 42]⟩] (fun _ => true) 1 c A (w.alloc (.cells #[.string ⟨#[97, 46, 98]⟩] 9)) rfl (by omega) ((h.below hb1).wide (by simp)).cells (fun args V => call_enterM Tryz.func185 (by kernel_rfl) (by kernel_rfl) args V)
    (fun V x hx hV => by
      have e : x = ⟨#[97, 46, 42]⟩ := by simpa using hx
      subst e
      exact covered1_ab w.heap.size V ((hV.cell (p := ⟨w.heap.size, 0, none⟩) (by simp)).trans hc1)))
  have HB1 := Lib.hid hb1
  clear h hb1 hc1
  go_enter Tryz.func135, Tryz.ntmps135
  go_wp2_with (fail)
  refine H.out.mono ?_
  rintro e w1 ⟨rfl, hb⟩
  have HB := Lib.hid (HB1.out.trans (hb.mono (by simp)))
  clear hb
  go_wp2_with (fail)
  go_ret
  exact ⟨rfl, HB.out⟩
theorem allCovered1_ab (g c : Nat) (A : Option Addr) (w : World) (h : w.cell? ⟨g, 0, none⟩ = some (.slice A 1 c)) (hA : One w w.heap.size A ⟨#[97, 46, 42]⟩) :
    Calls Tryz.prog 134 #[.string ⟨#[97, 46, 98]⟩, .pointer (some ⟨g, 0, none⟩)] w fun e w' => e = .returned (.bool false) ∧ Below w.heap.size w w' := by
  have hg := World.block_lt_of_cell? w _ h
  simp only at hg
  have H := Lib.hid (covered_ab c A w hA)
  clear hA
  go_enter Tryz.func134, Tryz.ntmps134
  go_wp2_with (fail)
  refine H.out.mono ?_
  rintro e w1 ⟨rfl, hb⟩
  have HB := Lib.hid hb
  clear hb
  go_wp2_with (fail)
  go_ret
  exact ⟨rfl, HB.out⟩
theorem allCovered_ab (c1 c2 : Nat) (A1 A2 : Option Addr) (w : World) (h1 : One w w.heap.size A1 ⟨#[97, 46, 42]⟩) (h2 : One w w.heap.size A2 ⟨#[97, 46, 98]⟩) :
    Calls Tryz.prog 84 #[.slice A1 1 c1, .slice A2 1 c2] w fun e w' => e = .returned (.bool true) ∧ Below w.heap.size w w' := by
  have hb1 : Below w.heap.size w (w.alloc (.cells #[.slice A1 1 c1] 85)) := (Below.refl _ _).alloc (Nat.le_refl _) _
  have hc1 : (w.alloc (.cells #[.slice A1 1 c1] 85)).cell? ⟨w.heap.size, 0, none⟩ = some (.slice A1 1 c1) := cell_of_blk (heap_new w _) rfl
  have h1' := (h1.below hb1).wide (B' := (w.alloc (.cells #[.slice A1 1 c1] 85)).heap.size) (by simp)
  have H := Lib.hid (containsS_any 134 #[.pointer (some ⟨w.heap.size, 0, none⟩)] [⟨#[97, 46, 98]⟩] (fun _ => false) 1 c2 A2 (w.alloc (.cells #[.slice A1 1 c1] 85)) rfl (by omega) ((h2.below hb1).wide (by simp)).cells (fun args V => call_enterM Tryz.func134 (by kernel_rfl) (by kernel_rfl) args V)
    (fun V x hx hV => by
      have e : x = ⟨#[97, 46, 98]⟩ := by simpa using hx
      subst e
      exact allCovered1_ab w.heap.size c1 A1 V ((hV.cell (p := ⟨w.heap.size, 0, none⟩) (by simp)).trans hc1) ((h1'.below hV).wide hV.size)))
  have HB1 := Lib.hid hb1
  clear h1 h2 hb1 hc1 h1'
  go_enter Tryz.func84, Tryz.ntmps84
  go_wp2_with (fail)
  refine H.out.mono ?_
  rintro e w1 ⟨rfl, hb⟩
  have HB := Lib.hid (HB1.out.trans (hb.mono (by simp)))
  clear hb
  go_wp2_with (fail)
  go_ret
  exact ⟨rfl, HB.out⟩
theorem covers1_any (x : ByteArray) (w : World) (hx : x ∈ ([⟨#[97, 46, 42]⟩, ⟨#[97, 46, 98]⟩] : List ByteArray)) :
    Calls Tryz.prog 82 #[.string x] w fun e w' => e = .returned (.bool false) ∧ Below w.heap.size w w' := by
  simp only [List.mem_cons, List.not_mem_nil, or_false] at hx
  rcases hx with rfl | rfl
  · go_enter Tryz.func82, Tryz.ntmps82
    go_wp2_with (fail)
    refine (isact_star _).mono ?_
    rintro e w1 ⟨rfl, rfl⟩
    go_wp2_with (fail)
    go_ret
    exact ⟨rfl, Below.refl _ _⟩
  · go_enter Tryz.func82, Tryz.ntmps82
    go_wp2_with (fail)
    refine (isact_ab _).mono ?_
    rintro e w1 ⟨rfl, hb⟩
    go_wp2_with (fail)
    go_ret
    exact ⟨rfl, hb⟩
end Go.Proofs.YtgdnedhcbjonkaaGreatDoor

/- tenant.Covers(["a.*"], ["a.b"]) says yes: the function. -/
namespace Go.Proofs.YtgdnedhcbjonkaaGreatDoor
open Go.RowKit

theorem own_sliceN {w : World} {base size n : Nat} {e : TypeId} {v : Value} {xs : List Value} (h : w.ownsRow base e size v n xs) : ∃ A c, v = .slice A n c := by
  rcases h.2 with ⟨hv, hn⟩ | ⟨g, cap, cur, hv, _⟩
  · exact ⟨none, 0, by rw [hv, hn]⟩
  · exact ⟨_, _, hv⟩
theorem covers_yes (c1 c2 : Nat) (A1 A2 : Option Addr) (w : World) (h1 : One w w.heap.size A1 ⟨#[97, 46, 42]⟩) (h2 : One w w.heap.size A2 ⟨#[97, 46, 98]⟩) :
    Calls Tryz.prog 40 #[.slice A1 1 c1, .slice A2 1 c2] w fun e w' => e = .returned (.tuple #[.bool true, .int .i64 0]) ∧ Below w.heap.size w w' := by
  have hb1 : Below w.heap.size w (w.alloc (.cells #[.slice A1 1 c1, .slice A2 1 c2] 85)) := (Below.refl _ _).alloc (Nat.le_refl _) _
  have k0 : (w.alloc (.cells #[.slice A1 1 c1, .slice A2 1 c2] 85)).cell? ⟨w.heap.size, 0, none⟩ = some (.slice A1 1 c1) := cell_of_blk (heap_new w _) rfl
  have k1 : (w.alloc (.cells #[.slice A1 1 c1, .slice A2 1 c2] 85)).cell? ⟨w.heap.size, 1, none⟩ = some (.slice A2 1 c2) := cell_of_blk (heap_new w _) rfl
  have hz : w.heap.size ≤ (w.alloc (.cells #[.slice A1 1 c1, .slice A2 1 c2] 85)).heap.size := by simp
  have HC := Lib.hid (catS_any [⟨#[97, 46, 42]⟩] [⟨#[97, 46, 98]⟩] 1 1 c1 c2 w.heap.size A1 A2 _ rfl rfl (by omega) (by omega) k0 k1 (((h1.below hb1).wide hz).ly 1 c1) (((h2.below hb1).wide hz).ly 1 c2))
  have HB1 := Lib.hid (And.intro hb1 hz)
  have H1 := Lib.hid h1
  have H2 := Lib.hid h2
  clear h1 h2 hb1 k0 k1 hz
  go_enter Tryz.func40, Tryz.ntmps40
  go_wp2_with (fail)
  refine HC.out.mono ?_
  rintro e w1 ⟨v, rfl, ho, hb⟩
  obtain ⟨A3, c3, rfl⟩ := own_sliceN ho
  have hbw := HB1.out.1.trans (hb.mono HB1.out.2)
  have HS := Lib.hid (containsS_any 82 #[] ([⟨#[97, 46, 42]⟩] ++ [⟨#[97, 46, 98]⟩]) (fun _ => false) 2 c3 A3 w1 rfl (by omega) (own_row ho) (fun args V => call_enterM Tryz.func82 (by kernel_rfl) (by kernel_rfl) args V)
    (fun V x hx _ => covers1_any x V hx))
  have HBW := Lib.hid hbw
  clear ho hb hbw
  go_wp2_with (fail)
  refine HS.out.mono ?_
  rintro e w2 ⟨rfl, hb⟩
  have hbw := HBW.out.trans (hb.mono HBW.out.size)
  have HA := Lib.hid (allCovered_ab c1 c2 A1 A2 w2 ((H1.out.below hbw).wide hbw.size) ((H2.out.below hbw).wide hbw.size))
  have HBW2 := Lib.hid hbw
  clear hb hbw
  go_wp2_with (fail)
  refine HA.out.mono ?_
  rintro e w3 ⟨rfl, hb⟩
  have HBW3 := Lib.hid (HBW2.out.trans (hb.mono HBW2.out.size))
  clear hb
  go_wp2_with (fail)
  go_ret2
  exact ⟨rfl, HBW3.out⟩
end Go.Proofs.YtgdnedhcbjonkaaGreatDoor

/- fleetkeep1.ready answers true. -/
namespace Go.Proofs.YtgdnedhcbjonkaaGreatDoor
open Go.RowKit

/-- What fleetkeep1's texts ask of the world: the powers of ten as laid, a number in bytealg.MaxLen. -/
structure RkW (w : World) : Prop where
  p10 : P10 w
  ml : MlS w
theorem RkW.below {w w' : World} (h : RkW w) (hb : Below w.heap.size w w') : RkW w' := ⟨Go.Joins.tab_stays (g := 3) (by kernel_rfl) h.p10 hb (Nat.le_refl _), h.ml.below hb⟩
theorem ser_seven : (⟨(serT [65, 66] 7 (ckC ([65, 66] ++ padL 7))).toArray⟩ : ByteArray) = ⟨#[65, 66, 45, 48, 48, 48, 48, 48, 48, 48, 55, 45, 77]⟩ := by
  have h : padL 7 = [48, 48, 48, 48, 48, 48, 48, 55] := by
    unfold padL
    rw [Lib.decDigits_one (by omega)]
    rfl
  rw [serT_eq, h]
  rfl
theorem three_all (w : World) (A B C : Obj) : let V := (((w.alloc A).alloc B).alloc C)
    V.heap[w.heap.size]? = some A ∧ V.heap[w.heap.size + 1]? = some B ∧ V.heap[w.heap.size + 1 + 1]? = some C ∧ V.heap.size = w.heap.size + 3 ∧ Below w.heap.size w V := by
  have b1 := ((Below.refl (w.heap.size + 1) (w.alloc A)).alloc (by simp) B).alloc (by simp <;> omega) C
  have b2 := (Below.refl (w.heap.size + 2) ((w.alloc A).alloc B)).alloc (by simp) C
  have e1 : (w.alloc A).heap.size = w.heap.size + 1 := by simp
  have e2 : ((w.alloc A).alloc B).heap.size = w.heap.size + 1 + 1 := by simp
  refine ⟨(b1.block _ (by omega)).trans (heap_new w A), (b2.block _ (by omega)).trans (e1 ▸ heap_new (w.alloc A) B), e2 ▸ heap_new ((w.alloc A).alloc B) C, by simp, ?_⟩
  exact ((Below.refl _ w).alloc (Nat.le_refl _) A).trans (b1.mono (by omega))
def mdM : Md := ⟨⟨#[109]⟩, ⟨#[65, 66]⟩, none, 0, 0⟩
theorem mdM_ok (w : World) : MdsOk w [mdM] := by
  refine ⟨fun x hx => ?_, fun i x y h1 h2 => ?_, fun i j x y h h1 h2 => ?_⟩
  · rw [List.mem_singleton] at hx
    subst hx
    exact ⟨by decide, ab_ok.1, ab_ok.2.1, ab_ok.2.2, [], ⟨by simp, by simp⟩, rfl, by decide, .inl rfl⟩
  · have := (List.getElem?_eq_some_iff.1 h2).1
    simp at this
  · have := (List.getElem?_eq_some_iff.1 h2).1
    simp at this
    omega
set_option maxRecDepth 100000 in
set_option maxHeartbeats 4000000 in
theorem ready1_yes (w : World) (hT : RkW w) : Calls Tryz.prog 11 #[] w fun e w' => e = .returned (.bool true) ∧ Below w.heap.size w w' := by
  have hb0 : Below w.heap.size w (w.alloc (.cells #[.string ⟨#[109]⟩, .string ⟨#[65, 66]⟩, .slice none 0 0] 96)) := (Below.refl _ _).alloc (Nat.le_refl _) _
  have hr0 : Row (w.alloc (.cells #[.string ⟨#[109]⟩, .string ⟨#[65, 66]⟩, .slice none 0 0] 96)) (w.alloc (.cells #[.string ⟨#[109]⟩, .string ⟨#[65, 66]⟩, .slice none 0 0] 96)).heap.size (some ⟨w.heap.size, 0, none⟩) (recs mdC [mdM]) :=
    .inr ⟨w.heap.size, 0, rfl, by simp, cellsBlk (heap_new w _) rfl⟩
  have HS := serial_any [mdM] ⟨#[109]⟩ mdM 0 7 1 1 (some ⟨w.heap.size, 0, none⟩) _ (mdM_ok _) rfl (by omega) (by omega) hr0 (by simp [fstM, mdM]) rfl (by omega) (by omega) (hT.below hb0).p10
  unfold SrPost at HS
  rw [show mdM.p.data.toList = [65, 66] from rfl, ser_seven] at HS
  have HS := Lib.hid HS
  have HB0 := Lib.hid (And.intro hb0 (show w.heap.size ≤ (w.alloc (.cells #[.string ⟨#[109]⟩, .string ⟨#[65, 66]⟩, .slice none 0 0] 96)).heap.size by simp))
  have HT := Lib.hid hT
  clear hb0 hr0 hT
  go_enter Tryz.func11, Tryz.ntmps11
  go_wp2_with (fail)
  refine HS.out.mono ?_
  rintro e w1 ⟨rfl, hb1⟩
  have hbw := HB0.out.1.trans (hb1.mono HB0.out.2)
  have HB1 := Lib.hid hbw
  have hg := heap_new w1 (.cells #[.int .i64 1, .int .i64 1, .string ⟨#[100]⟩, .string ⟨#[114]⟩, .string ⟨#[]⟩, .int .i64 0] 47)
  have hba : Below w1.heap.size w1 (w1.alloc (.cells #[.int .i64 1, .int .i64 1, .string ⟨#[100]⟩, .string ⟨#[114]⟩, .string ⟨#[]⟩, .int .i64 0] 47)) := (Below.refl _ _).alloc (Nat.le_refl _) _
  have HA := Lib.hid (alarmOf_one w1.heap.size 0 1 _ ⟨cell_of_blk hg rfl, cell_of_blk hg rfl, cell_of_blk hg rfl, cell_of_blk hg rfl, cell_of_blk hg rfl, cell_of_blk hg rfl⟩)
  have HBA := Lib.hid (HB1.out.trans (hba.mono HB1.out.size))
  clear hb1 hbw hg hba HS
  go_wp2_with (fail)
  refine HA.out.mono ?_
  rintro e w2 ⟨rfl, hb2⟩
  have hbw := HBA.out.trans (hb2.mono HBA.out.size)
  have HB2 := Lib.hid hbw
  have h3 := three_all w2 (.cells #[.string ⟨#[100]⟩, .string ⟨#[114]⟩, .int .i64 1, .int .i64 1, .int .i64 1, .int .i64 0] 99) (.cells #[.string ⟨#[97, 46, 42]⟩] 9) (.cells #[.string ⟨#[97, 46, 98]⟩] 9)
  clear hb2 hbw HA
  go_wp2_with (fail)
  generalize (((w2.alloc (.cells #[.string ⟨#[100]⟩, .string ⟨#[114]⟩, .int .i64 1, .int .i64 1, .int .i64 1, .int .i64 0] 99)).alloc (.cells #[.string ⟨#[97, 46, 42]⟩] 9)).alloc (.cells #[.string ⟨#[97, 46, 98]⟩] 9)) = V at h3 ⊢
  obtain ⟨g0, g1, g2, gs, gb⟩ := h3
  refine (covers_yes 1 1 _ _ V ⟨_, _, rfl, by omega, cell_of_blk g1 rfl⟩ ⟨_, _, rfl, by omega, cell_of_blk g2 rfl⟩).mono ?_
  rintro e w3 ⟨rfl, hb3⟩
  have HB3 := Lib.hid ((HB2.out.trans (gb.mono HB2.out.size)).trans (hb3.mono (Nat.le_trans HB2.out.size gb.size)))
  have hv3 := (hb3.block w2.heap.size (by omega)).trans g0
  have hl3 := (Array.getElem?_eq_some_iff.1 hv3).1
  have hg := heap_new w3 (.cells #[.string ⟨#[104]⟩, .int .i64 10, .int .i64 15, .int .i64 10] 107)
  have hba : Below w3.heap.size w3 (w3.alloc (.cells #[.string ⟨#[104]⟩, .int .i64 10, .int .i64 15, .int .i64 10] 107)) := (Below.refl _ _).alloc (Nat.le_refl _) _
  have HA := Lib.hid (repair_one w3.heap.size 0 1 _ ⟨cell_of_blk hg rfl, cell_of_blk hg rfl, cell_of_blk hg rfl, cell_of_blk hg rfl⟩)
  have hva := (hba.block w2.heap.size hl3).trans hv3
  have HBA := Lib.hid (And.intro (HB3.out.trans (hba.mono HB3.out.size)) (And.intro hva (Array.getElem?_eq_some_iff.1 hva).1))
  clear hb3 g0 g1 g2 gs gb hg hba hva hv3 hl3
  generalize hgg : w2.heap.size = g at HBA ⊢
  have HGG := Lib.hid hgg
  clear hgg
  go_wp2_with (fail)
  refine HA.out.mono ?_
  rintro e w4 ⟨rfl, hb4⟩
  have hv4 := (hb4.block g HBA.out.2.2).trans HBA.out.2.1
  have y2 := cell_of_blk (j := 2) hv4 rfl
  have HB4 := Lib.hid (HBA.out.1.trans (hb4.mono HBA.out.1.size))
  clear hb4 hv4
  go_wp2_with (fail)
  go_ret
  exact ⟨rfl, HB4.out⟩
end Go.Proofs.YtgdnedhcbjonkaaGreatDoor
