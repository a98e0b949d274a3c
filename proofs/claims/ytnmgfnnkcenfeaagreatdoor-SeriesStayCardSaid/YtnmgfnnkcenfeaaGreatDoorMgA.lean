/- Several texts in one: Words, Base, Vers, Vers2, Append, Vers3, Seven, Ser2, Ser3, Pack, Equal, Fst, RdA, RdB, RdC, RdD, RdE, Ready. -/
import Derived.WalkKit
import Derived.WalkLawsBesides
import Derived.Lib.Hide
import Derived.Handy
import Derived.Deep.QuietTactic
import Derived.BigQuiet
import Derived.Outline
import Derived.Deep.DeepCutAuto
import Derived.Deep.Draws
import Derived.StillTailTactics
import Derived.Test.YtnmgfnnkcenfeaaGreatDoorProg
import Derived.Lib.Bytealg
import Derived.BigRegion
import Derived.Deep.RegionLawGrows
import Derived.Lib.SliceRun

/- Words and plain lemmas on memory and numbers that all texts of this seat share; no program in sight. -/
namespace Go.Proofs.YtnmgfnnkcenfeaaGreatDoor
open Go.RowKit

theorem ret_int {k : IntKind} {a b : Int} (h : a = b) : Ending.returned (.int k a) = .returned (.int k b) := by rw [h]
theorem ret_val {a b : Value} (h : a = b) : Ending.returned a = .returned b := by rw [h]

/-- A contract that leaves the world alone, turned round. -/
theorem flip_ {P : Program} {f : FuncId} {args : Array Value} {w : World} {v : Value} (h : Calls P f args w fun e w' => e = .returned v ∧ w = w') : Calls P f args w fun e w' => e = .returned v ∧ w' = w :=
  h.mono fun _ _ ⟨a, b⟩ => ⟨a, b.symm⟩

/-! ### numbers -/
def below (x n : Int) : Int := if n < 1 then 0 else x % n

theorem tmod_cases (x n : Int) (h : 1 ≤ n) : (x.tmod n < 0 → x % n = x.tmod n + n ∧ -n < x.tmod n) ∧ (0 ≤ x.tmod n → x % n = x.tmod n) := by
  have h2 : 0 ≤ x % n := Int.emod_nonneg _ (by omega)
  have h3 : x % n < n := Int.emod_lt_of_pos _ (by omega)
  rcases Int.le_total 0 x with hx | hx
  · have h1 : x.tmod n = x % n := Int.tmod_eq_emod_of_nonneg hx
    omega
  · obtain ⟨y, rfl⟩ : ∃ y, x = -y := ⟨-x, by omega⟩
    have h5 : y.tmod n = y % n := Int.tmod_eq_emod_of_nonneg (by omega)
    have h6 : (-y).tmod n = -(y % n) := by rw [Int.neg_tmod, h5]
    have h7 : 0 ≤ y % n := Int.emod_nonneg _ (by omega)
    have h8 : y % n < n := Int.emod_lt_of_pos _ (by omega)
    have h9 := Int.emod_add_mul_ediv y n
    have h10 := Int.emod_add_mul_ediv (-y) n
    have h11 : ((-y) % n + y % n) = n * (-(y / n) - (-y) / n) := by rw [Int.mul_sub, Int.mul_neg]; omega
    have h12 : (-(y / n) - (-y) / n) = 0 ∨ (-(y / n) - (-y) / n) = 1 := by
      generalize (-(y / n) - (-y) / n) = q at h11
      have : 0 ≤ n * q := by omega
      have : n * q < n * 2 := by omega
      have hq1 : 0 ≤ q := by
        rcases Int.lt_or_le q 0 with hq | hq
        · have : n * q ≤ n * (-1) := Int.mul_le_mul_of_nonneg_left (by omega) (by omega)
          omega
        · exact hq
      have hq2 : q < 2 := Int.lt_of_mul_lt_mul_left (a := n) (by omega) (by omega)
      omega
    rcases h12 with h | h <;> rw [h] at h11 <;> omega

theorem below_range (x n : Int) (h : 1 ≤ n) : 0 ≤ below x n ∧ below x n < n := by
  have : ¬ n < 1 := by omega
  simp only [below, if_neg this]
  exact ⟨Int.emod_nonneg _ (by omega), Int.emod_lt_of_pos _ (by omega)⟩

/-- The number that a stream over xs hands out next, after k ones, from 0 to m - 1. -/
def nextV (xs : List Int) (k : Nat) (m : Int) : Int :=
  if xs.length = 0 then below (((k : Int) + 1) * 7919) m
  else below (below (xs.getD (k % xs.length) 0) 1073741824 + ((k / xs.length * (7919 + k % xs.length) : Nat) : Int)) m

theorem nextV_range (xs : List Int) (k : Nat) (m : Int) (h : 1 ≤ m) : 0 ≤ nextV xs k m ∧ nextV xs k m < m := by
  unfold nextV; split <;> exact below_range _ _ h

/-- The same as a natural number. -/
def nextN (xs : List Int) (k m : Nat) : Nat := (nextV xs k m).toNat
theorem nextN_lt (xs : List Int) (k m : Nat) (h : 0 < m) : nextN xs k m < m := by
  have := nextV_range xs k m (by omega); unfold nextN; omega
theorem nextN_eq (xs : List Int) (k m : Nat) (h : 0 < m) : nextV xs k m = (nextN xs k m : Int) := by
  have := nextV_range xs k m (by omega); unfold nextN; omega

theorem round_le (k n : Nat) (h : 0 < n) : k / n * (7919 + k % n) ≤ k * 7920 := by
  have h1 : k / n ≤ k := Nat.div_le_self _ _
  have h2 : k / n * (k % n) ≤ k / n * n := Nat.mul_le_mul_left _ (Nat.le_of_lt (Nat.mod_lt _ h))
  have h3 : k / n * n ≤ k := Nat.div_mul_le_self _ _
  rw [Nat.mul_add]; omega

/-! ### memory -/
/-- The cells xs lie from offset o on in block b. -/
def Cells (w : World) (b o : Nat) (xs : List Value) : Prop := ∀ j v, xs[j]? = some v → w.cell? ⟨b, o + j, none⟩ = some v

/-- A slice's address A leads to the cells xs, in a block below B. -/
def Row (w : World) (B : Nat) (A : Option Addr) (xs : List Value) : Prop := xs = [] ∨ ∃ b o, A = some ⟨b, o, none⟩ ∧ b < B ∧ Cells w b o xs

theorem cell_of_blk {w : World} {b j : Nat} {cs : Array Value} {t : TypeId} {f : Nat × Nat} {v : Value} (h : w.heap[b]? = some (.cells cs t f)) (hv : cs[j]? = some v) : w.cell? ⟨b, j, none⟩ = some v := by
  simp [World.cell?, h, hv]

theorem Cells.keep {w w' : World} {b o : Nat} {xs : List Value} (h : Cells w b o xs) (hb : w'.heap[b]? = w.heap[b]?) : Cells w' b o xs := by
  intro j v hv
  have := h j v hv
  simp only [World.cell?, hb] at this ⊢
  exact this

theorem Row.keep {w w' : World} {B : Nat} {A : Option Addr} {xs : List Value} (h : Row w B A xs) (hb : ∀ b, b < B → w'.heap[b]? = w.heap[b]?) : Row w' B A xs := by
  rcases h with h | ⟨b, o, rfl, hlt, hc⟩
  · exact .inl h
  · exact .inr ⟨b, o, rfl, hlt, hc.keep (hb b hlt)⟩
theorem Row.mono {w : World} {B B' : Nat} {A : Option Addr} {xs : List Value} (h : Row w B A xs) (hb : B ≤ B') : Row w B' A xs := by
  rcases h with h | ⟨b, o, rfl, hlt, hc⟩
  · exact .inl h
  · exact .inr ⟨b, o, rfl, by omega, hc⟩
theorem Row.below {w w' : World} {B : Nat} {A : Option Addr} {xs : List Value} (h : Row w B A xs) (hb : Below B w w') : Row w' B A xs := h.keep hb.block

/-- Only block p has changed, and what is new. -/
theorem grown_trans {a b c : World} {p : Nat} (h : a.grownBy b (some p)) (k : b.grownBy c (some p)) : a.grownBy c (some p) :=
  ⟨k.os.trans h.os, k.tape.trans h.tape, k.output.trans h.output, Nat.le_trans h.size k.size, fun i hi hn => (k.block i (Nat.lt_of_lt_of_le hi h.size) hn).trans (h.block i hi hn)⟩
theorem grown_below {a b c : World} {p : Nat} (h : a.grownBy b (some p)) (k : Below b.heap.size b c) : a.grownBy c (some p) :=
  ⟨k.os.trans h.os, k.tape.trans h.tape, k.output.trans h.output, Nat.le_trans h.size k.size, fun i hi hn => (k.block i (Nat.lt_of_lt_of_le hi h.size)).trans (h.block i hi hn)⟩
theorem below_grown {a b c : World} {p : Nat} (h : Below a.heap.size a b) (k : b.grownBy c (some p)) : a.grownBy c (some p) :=
  ⟨k.os.trans h.os, k.tape.trans h.tape, k.output.trans h.output, Nat.le_trans h.size k.size, fun i hi hn => (k.block i (Nat.lt_of_lt_of_le hi h.size) hn).trans (h.block i hi)⟩
theorem grown_refl (w : World) (r : Option Nat) : w.grownBy w r := ⟨rfl, rfl, rfl, Nat.le_refl _, fun _ _ _ => rfl⟩
theorem grown_drewN {a w : World} {row : Option Nat} (h : a.grownBy w row) (n : Nat) : a.grownBy (w.drewN n) row := ⟨h.os, h.tape, h.output, h.size, h.block⟩
theorem grown_set {a w : World} {g : Nat} (h : a.grownBy w (some g)) {q : Addr} (hp : q.block = g ∨ a.heap.size ≤ q.block) (u : Value) : a.grownBy (w.setCell q u) (some g) :=
  ⟨h.os, h.tape, h.output, by simpa [World.setCell] using h.size, fun i hi hne => (Below.heap_setCell w q u i (by
    rintro rfl
    rcases hp with hp | hp
    · exact hne (by rw [hp])
    · omega)).trans (h.block i hi hne)⟩
theorem below_drewN {B : Nat} {a w : World} (h : Below B a w) (n : Nat) : Below B a (w.drewN n) := ⟨h.os, h.tape, h.output, h.size, h.block⟩

theorem heap_new (w : World) (o : Obj) : (w.alloc o).heap[w.heap.size]? = some o := heap_alloc_new w o

/-- The cells of a block that was just made. -/
theorem Cells.new (w : World) (cs : Array Value) (t : TypeId) (f : Nat × Nat) (xs : List Value) (h : cs.toList = xs) : Cells (w.alloc (.cells cs t f)) w.heap.size 0 xs := by
  intro j v hv
  subst h
  exact cell_of_blk (heap_new w _) (by simpa using hv)
theorem Cells.alloc {w : World} {b o : Nat} {xs : List Value} (h : Cells w b o xs) (hb : b < w.heap.size) (ob : Obj) : Cells (w.alloc ob) b o xs := h.keep (Below.heap_alloc w ob b hb)

theorem own_kept {w w' : World} {base p : Nat} {e : TypeId} {size n : Nat} {v : Value} {xs : List Value} (h : w.ownsRow base e size v n xs) (hg : w.grownBy w' (some p)) (hp : p < base) : w'.ownsRow base e size v n xs := by
  refine h.kept hg ?_
  cases hv : v.ownBlock with
  | none => exact .inl rfl
  | some b => exact .inr (fun e => by have := (h.lt b hv).1; injection e; omega)
theorem own_below {w w' : World} {base : Nat} {e : TypeId} {size n : Nat} {v : Value} {xs : List Value} (h : w.ownsRow base e size v n xs) (hb : Below w.heap.size w w') : w'.ownsRow base e size v n xs :=
  h.kept (row := none) ⟨hb.os, hb.tape, hb.output, hb.size, fun i hi _ => hb.block i hi⟩ (by cases v.ownBlock <;> simp)

theorem grown_row {a b c : World} {p : Nat} {row : Option Nat} (h : a.grownBy b (some p)) (k : b.grownBy c row) (hr : ∀ g, row = some g → a.heap.size ≤ g) : a.grownBy c (some p) :=
  ⟨k.os.trans h.os, k.tape.trans h.tape, k.output.trans h.output, Nat.le_trans h.size k.size, fun i hi hn => (k.block i (Nat.lt_of_lt_of_le hi h.size) (fun e => by have := hr i e.symm; omega)).trans (h.block i hi hn)⟩
theorem grown_alloc {a b : World} {row : Option Nat} (h : a.grownBy b row) (o : Obj) : a.grownBy (b.alloc o) row :=
  ⟨h.os, h.tape, h.output, Nat.le_trans h.size (by simp), fun i hi hn => (Below.heap_alloc b o i (Nat.lt_of_lt_of_le hi h.size)).trans (h.block i hi hn)⟩
theorem cells_add {w : World} {b : Nat} {xs : List Value} (h : Cells w b 0 xs) : ∀ j u, xs[j]? = some u → w.cell? ((⟨b, 0, none⟩ : Addr).add j) = some u := by
  intro j u hu
  have : (⟨b, 0, none⟩ : Addr).add j = ⟨b, 0 + j, none⟩ := by unfold Addr.add; split <;> simp_all
  rw [this]; exact h j u hu

/-! ### series: at and value of each measurement; device d, metric m -/
abbrev Smp := Int × Int
def smpC (x : Smp) : List Value := [.string ⟨#[100]⟩, .string ⟨#[109]⟩, .int .i64 x.1, .int .i64 x.2]
def cellsOf (l : List Smp) : List Value := l.flatMap smpC
theorem cellsOf_length (l : List Smp) : (cellsOf l).length = l.length * 4 := by
  induction l with
  | nil => rfl
  | cons x l ih => simp only [cellsOf, List.flatMap_cons, List.length_append, List.length_cons] at ih ⊢; rw [ih]; simp [smpC]; omega
theorem cellsOf_append (a b : List Smp) : cellsOf (a ++ b) = cellsOf a ++ cellsOf b := by simp [cellsOf]
theorem cellsOf_get (l : List Smp) (i : Nat) (x : Smp) (h : l[i]? = some x) (j : Nat) (hj : j < 4) : (cellsOf l)[i * 4 + j]? = (smpC x)[j]? := by
  induction l generalizing i with
  | nil => simp at h
  | cons y l ih =>
    cases i with
    | zero =>
      simp only [List.getElem?_cons_zero, Option.some.injEq] at h
      subst h
      simp only [cellsOf, List.flatMap_cons]
      rw [List.getElem?_append_left (by simp [smpC]; omega)]
      simp
    | succ i =>
      simp only [List.getElem?_cons_succ] at h
      have := ih i h
      simp only [cellsOf, List.flatMap_cons] at this ⊢
      rw [List.getElem?_append_right (by simp [smpC]; omega)]
      rw [← this]
      congr 1
      simp [smpC]; omega

theorem smpC_one (x : Smp) : ∀ u ∈ smpC x, u.oneCell' = true := by
  intro u hu
  simp only [smpC, List.mem_cons, List.not_mem_nil, or_false] at hu
  rcases hu with rfl | rfl | rfl | rfl <;> rfl
theorem cellsOf_snoc (l : List Smp) (x : Smp) : cellsOf (l ++ [x]) = cellsOf l ++ smpC x := by simp [cellsOf]

def atPicks : List Int := [1, 1, 2, 5, 10, 10, 40, 127, 1000]
def valPicks : List Int := [0, 1, 2, 5, 7, 9, -3, -70, 100, 1000, 5]
def serAt (xs : List Int) (k : Nat) : Nat → Int
  | 0 => 0
  | j + 1 => serAt xs k j + atPicks.getD (nextN xs (k + 2 * j) 9) 0
def serV (xs : List Int) (k : Nat) (low : Int) (j : Nat) : Int := max low (valPicks.getD (nextN xs (k + 2 * j + 1) 11) 0)
/-- The first n measurements of the series that a stream makes from its number k on. -/
def serL (xs : List Int) (k : Nat) (low : Int) (n : Nat) : List Smp := (List.range n).map fun j => (serAt xs k (j + 1), serV xs k low j)
theorem serL_length (xs : List Int) (k : Nat) (low : Int) (n : Nat) : (serL xs k low n).length = n := by simp [serL]
theorem serL_succ (xs : List Int) (k : Nat) (low : Int) (n : Nat) : serL xs k low (n + 1) = serL xs k low n ++ [(serAt xs k (n + 1), serV xs k low n)] := by simp [serL, List.range_succ]
theorem atPicks_range (j : Nat) (h : j < 9) : 1 ≤ atPicks.getD j 0 ∧ atPicks.getD j 0 ≤ 1000 := by
  have : j = 0 ∨ j = 1 ∨ j = 2 ∨ j = 3 ∨ j = 4 ∨ j = 5 ∨ j = 6 ∨ j = 7 ∨ j = 8 := by omega
  rcases this with h | h | h | h | h | h | h | h | h <;> subst h <;> decide
theorem valPicks_range (j : Nat) (h : j < 11) : -70 ≤ valPicks.getD j 0 ∧ valPicks.getD j 0 ≤ 1000 := by
  have : j = 0 ∨ j = 1 ∨ j = 2 ∨ j = 3 ∨ j = 4 ∨ j = 5 ∨ j = 6 ∨ j = 7 ∨ j = 8 ∨ j = 9 ∨ j = 10 := by omega
  rcases this with h | h | h | h | h | h | h | h | h | h | h <;> subst h <;> decide
theorem serAt_step (xs : List Int) (k j : Nat) : serAt xs k j + 1 ≤ serAt xs k (j + 1) ∧ serAt xs k (j + 1) ≤ serAt xs k j + 1000 := by
  have := atPicks_range (nextN xs (k + 2 * j) 9) (nextN_lt _ _ _ (by omega))
  simp only [serAt]; omega
theorem serAt_range (xs : List Int) (k j : Nat) : (j : Int) ≤ serAt xs k j ∧ serAt xs k j ≤ 1000 * j := by
  induction j with
  | zero => simp [serAt]
  | succ j ih => have := serAt_step xs k j; omega
theorem serV_range (xs : List Int) (k : Nat) (low : Int) (j : Nat) : low ≤ serV xs k low j ∧ -70 ≤ serV xs k low j ∧ serV xs k low j ≤ max low 1000 := by
  have := valPicks_range (nextN xs (k + 2 * j + 1) 11) (nextN_lt _ _ _ (by omega))
  simp only [serV]; omega

end Go.Proofs.YtnmgfnnkcenfeaaGreatDoor

/- base.Out, Moment, Window, Key; cmp.Compare, cmp.Or; strings.Compare of equal strings: each by its contract. -/
namespace Go.Proofs.YtnmgfnnkcenfeaaGreatDoor
open Go.RowKit

theorem out_no (n lo hi : Int) (w : World) (h1 : lo ≤ n) (h2 : n ≤ hi) : Calls Tryz.prog 34 #[.int .i64 n, .int .i64 lo, .int .i64 hi] w fun e w' => e = .returned (.bool false) ∧ w = w' := by
  go_enter Tryz.func34, Tryz.ntmps34
  go_wp2
  go_ret
  exact ⟨by simp; omega, rfl⟩
theorem out_yes (n lo hi : Int) (w : World) (h : n < lo ∨ hi < n) : Calls Tryz.prog 34 #[.int .i64 n, .int .i64 lo, .int .i64 hi] w fun e w' => e = .returned (.bool true) ∧ w = w' := by
  rcases Int.lt_or_le n lo with h1 | h1
  · go_enter Tryz.func34, Tryz.ntmps34
    go_wp2
    go_ret
    exact ⟨rfl, rfl⟩
  · have h2 : hi < n := by omega
    clear h
    go_enter Tryz.func34, Tryz.ntmps34
    go_wp2
    go_ret
    exact ⟨by simp, rfl⟩

theorem moment_yes (n : Int) (w : World) (h1 : 0 ≤ n) (h2 : n < 345686400000) : Calls Tryz.prog 49 #[.int .i64 n] w fun e w' => e = .returned (.bool true) ∧ w = w' := by
  go_enter Tryz.func49, Tryz.ntmps49
  go_wp2_with (go_at_call 34; refine (out_no _ _ _ _ (by omega) (by omega)).mono ?_; rintro e w' ⟨rfl, rfl⟩)
  go_ret
  exact ⟨rfl, rfl⟩

theorem isNaN_any (n : Int) (w : World) : Calls Tryz.prog 100 #[.int .i64 n] w fun e w' => e = .returned (.bool false) ∧ w = w' := by
  go_enter Tryz.func100, Tryz.ntmps100
  go_wp2
  go_ret
  exact ⟨by simp, rfl⟩

/-- cmp.Compare's answer. -/
def cmpI (a b : Int) : Int := if a < b then -1 else if b < a then 1 else 0
theorem compare_any (a b : Int) (w : World) : Calls Tryz.prog 67 #[.int .i64 a, .int .i64 b] w fun e w' => e = .returned (.int .i64 (cmpI a b)) ∧ w = w' := by
  obtain ⟨r, hr⟩ : ∃ r, r = cmpI a b := ⟨_, rfl⟩
  rw [← hr]
  have H := Lib.hid hr
  clear hr
  go_enter Tryz.func67, Tryz.ntmps67
  go_wp2_with (go_at_call 100; refine (isNaN_any _ _).mono ?_; rintro e w' ⟨rfl, rfl⟩)
  all_goals (go_ret; refine ⟨ret_int ?_, rfl⟩; rw [H.out]; unfold cmpI)
  · rw [if_pos (by assumption)]
  · rw [if_neg (by omega), if_pos (by omega)]
  · rw [if_neg (by omega), if_neg (by omega)]


theorem compareBytes_self : ∀ l : List UInt8, Lib.compareBytes l l = 0
  | [] => rfl
  | a :: l => by simp [Lib.compareBytes, compareBytes_self l]

set_option maxRecDepth 100000 in
theorem cstring_any (a b : ByteArray) (w : World) :
    Calls Tryz.prog 99 #[.string a, .string b] w fun e w' => e = .returned (.int .i64 (Lib.compareBytes a.data.toList b.data.toList)) ∧ w = w' := by
  go_enter Tryz.func99, Tryz.ntmps99
  go_wp2
  rw [run_callFunc_extern Tryz.func128 (by kernel_rfl) (by kernel_rfl) (by kernel_rfl) (e := Extern.BytealgCompare.compare) (by kernel_rfl), Lib.run_compareString]
  simp only [Result.andThen]
  rw [Oper.upon_value]
  go_wp2
  go_ret
  exact ⟨rfl, rfl⟩
theorem scompare_any (a b : ByteArray) (w : World) : Calls Tryz.prog 66 #[.string a, .string b] w fun e w' => e = .returned (.int .i64 (Lib.compareBytes a.data.toList b.data.toList)) ∧ w = w' := by
  go_enter Tryz.func66, Tryz.ntmps66
  go_wp2_with (go_at_call 99; refine (cstring_any _ _ _).mono ?_; rintro e w' ⟨rfl, rfl⟩)
  go_ret
  exact ⟨rfl, rfl⟩
theorem scompare_same (a : ByteArray) (w : World) : Calls Tryz.prog 66 #[.string a, .string a] w fun e w' => e = .returned (.int .i64 0) ∧ w = w' := by
  have h := scompare_any a a w
  rw [compareBytes_self] at h
  exact h

/-- cmp.Or's answer: the first number that is not 0. -/
def orI : List Int → Int
  | [] => 0
  | x :: l => if x = 0 then orI l else x
theorem or_any (l : List Int) (n c g : Nat) (w : World) (hn : l.length = n) (hb : n ≤ 1000000) (hc : Cells w g 0 (l.map (Value.int .i64))) :
    Calls Tryz.prog 65 #[.slice (some ⟨g, 0, none⟩) n c] w fun e w' => e = .returned (.int .i64 (orI l)) ∧ w = w' := by
  obtain ⟨r, hr⟩ : ∃ r, r = orI l := ⟨_, rfl⟩
  rw [← hr]
  go_enter Tryz.func65, Tryz.ntmps65
  go_wp2
  go_loop [8] (fun i => ∃ k : Nat, k ≤ n ∧ i = .int .i64 k ∧ orI (l.drop k) = r) (fun i => n - (intOf i).toNat)
  case atStart => exact ⟨0, Nat.zero_le _, rfl, by simp [hr]⟩
  case round =>
    obtain ⟨k, hk, rfl, hd⟩ := hrel
    have HD := Lib.hid hd
    clear hd
    by_cases hlt : k < n
    · obtain ⟨x, hx⟩ : ∃ x, l[k]? = some x := ⟨_, List.getElem?_eq_getElem (by omega)⟩
      have hcell := hc k (.int .i64 x) (by simp [hx])
      simp only [Nat.zero_add] at hcell
      have hdr : l.drop k = x :: l.drop (k + 1) := by
        rw [List.drop_eq_getElem_cons (by omega)]; congr 1
        rw [List.getElem?_eq_getElem (by omega)] at hx; injection hx
      have HH := Lib.hid (show (x = 0 → orI (l.drop (k + 1)) = r) ∧ (x ≠ 0 → r = x) by
        have := HD.out; rw [hdr] at this; unfold orI at this
        split at this <;> simp_all)
      clear hc hx hdr hr HD
      go_wp2
      · go_ret
        exact ⟨ret_int (HH.out.2 (by simp_all)).symm, rfl⟩
      · go_round
        case rel => exact ⟨k + 1, by omega, by go_num, HH.out.1 (by simp_all)⟩
        case measure => simp [intOf]; omega
    · have hkn : k = n := by omega
      subst hkn
      have h0 : r = 0 := by have := HD.out; rw [List.drop_of_length_le (by omega)] at this; simpa [orI] using this.symm
      have H0 := Lib.hid h0
      clear h0 hr hc HD
      go_wp2
      go_ret
      exact ⟨ret_int H0.out.symm, rfl⟩

/-! ### keys -/
def keyByte (c : UInt8) : Bool := (97 ≤ c && c ≤ 122) || (48 ≤ c && c ≤ 57) || c == 45 || c == 95
def isKey (s : ByteArray) : Bool := decide (0 < s.size) && decide (s.size ≤ 40) && (97 ≤ s.data.toList.headD 0 && s.data.toList.headD 0 ≤ 122) && s.data.toList.all keyByte

theorem isKey_byte (s : ByteArray) (h : isKey s = true) (j : Nat) (hj : j < s.size) : keyByte s[j] = true := by
  simp only [isKey, Bool.and_eq_true, List.all_eq_true] at h
  exact h.2 _ (by rw [show s[j] = s.data.toList[j] from rfl]; exact List.getElem_mem _)
theorem isKey_first (s : ByteArray) (h : isKey s = true) (hj : 0 < s.size) : 97 ≤ (s[0]'hj).toNat ∧ (s[0]'hj).toNat ≤ 122 := by
  simp only [isKey, Bool.and_eq_true, decide_eq_true_eq] at h
  have e : s.data.toList.headD 0 = s[0]'hj := by
    rw [List.headD_eq_head?_getD, List.head?_eq_getElem?, List.getElem?_eq_getElem (by simpa using hj)]; rfl
  rw [e] at h
  exact ⟨UInt8.le_iff_toNat_le.1 h.1.2.1, UInt8.le_iff_toNat_le.1 h.1.2.2⟩
theorem isKey_size (s : ByteArray) (h : isKey s = true) : 0 < s.size ∧ s.size ≤ 40 := by
  simp only [isKey, Bool.and_eq_true, decide_eq_true_eq] at h
  exact h.1.1
theorem keyByte_cases (c : UInt8) (h : keyByte c = true) : ((97 : Int) ≤ c.toNat ∧ (c.toNat : Int) ≤ 122) ∨ ((48 : Int) ≤ c.toNat ∧ (c.toNat : Int) ≤ 57) ∨ c.toNat = 45 ∨ c.toNat = 95 := by
  simp only [keyByte, Bool.or_eq_true, Bool.and_eq_true, decide_eq_true_eq, beq_iff_eq, UInt8.le_iff_toNat_le] at h
  rcases h with ((⟨h, h'⟩ | ⟨h, h'⟩) | h) | h
  · exact .inl ⟨by exact_mod_cast h, by exact_mod_cast h'⟩
  · exact .inr (.inl ⟨by exact_mod_cast h, by exact_mod_cast h'⟩)
  · subst h; exact .inr (.inr (.inl rfl))
  · subst h; exact .inr (.inr (.inr rfl))

set_option maxHeartbeats 1000000 in
theorem key_yes (s : ByteArray) (w : World) (h : isKey s = true) : Calls Tryz.prog 39 #[.string s] w fun e w' => e = .returned (.bool true) ∧ w = w' := by
  obtain ⟨h0, h1⟩ := isKey_size s h
  obtain ⟨f1, f2⟩ := isKey_first s h h0
  have HB := Lib.hid (fun j hj => keyByte_cases _ (isKey_byte s h j hj))
  have hem : s.toList.isEmpty = false := by
    cases hl : s.toList with
    | nil => have : s.toList.length = s.size := by rw [Lib.toList_data]; simp
             rw [hl] at this; simp at this; omega
    | cons x l => rfl
  have hg1 : (97 : Int) ≤ ((s[0]'h0).toNat : Int) := by omega
  have hg2 : ((s[0]'h0).toNat : Int) ≤ 122 := by omega
  clear f1 f2 h
  go_enter Tryz.func39, Tryz.ntmps39
  go_wp2
  go_loop [24] (fun i => ∃ k : Nat, k ≤ s.size ∧ i = .int .i64 k) (fun i => s.size - (intOf i).toNat)
  case atStart => exact ⟨0, Nat.zero_le _, rfl⟩
  case round =>
    obtain ⟨k, hk, rfl⟩ := hrel
    by_cases hlt : k < s.size
    · rcases HB.out k hlt with ⟨a1, a2⟩ | ⟨a1, a2⟩ | a1 | a1
      · go_wp2
        go_round
        case rel => exact ⟨k + 1, by omega, by go_num⟩
        case measure => simp [intOf]; omega
      · go_wp2
        go_round
        case rel => exact ⟨k + 1, by omega, by go_num⟩
        case measure => simp [intOf]; omega
      · go_wp2
        go_round
        case rel => exact ⟨k + 1, by omega, by go_num⟩
        case measure => simp [intOf]; omega
      · go_wp2
        go_round
        case rel => exact ⟨k + 1, by omega, by go_num⟩
        case measure => simp [intOf]; omega
    · go_wp2
      go_ret
      exact ⟨rfl, rfl⟩
end Go.Proofs.YtnmgfnnkcenfeaaGreatDoor

/- ParseVersion at 1.2.3: Split, Number, Atoi at what it asks. -/
namespace Go.Proofs.YtnmgfnnkcenfeaaGreatDoor
open Go.RowKit

set_option maxRecDepth 100000 in
theorem lindexByte_any (s : ByteArray) (c : Int) (w : World) :
    Calls Tryz.prog 185 #[.string s, .int .u8 c] w fun e w' => e = .returned (.int .i64 (Lib.indexByte s.data.toList c.toNat.toUInt8)) ∧ w = w' := by
  go_enter Tryz.func185, Tryz.ntmps185
  go_wp2
  rw [run_callFunc_extern Tryz.func195 (by kernel_rfl) (by kernel_rfl) (by kernel_rfl) (e := Extern.BytealgIndexByte.indexByte) (by kernel_rfl), Lib.run_indexByteString]
  simp only [Result.andThen]
  rw [Oper.upon_value]
  go_wp2
  go_ret
  exact ⟨rfl, rfl⟩

/-- Index of a point. -/
theorem index_dot (s : ByteArray) (i : Int) (w : World) (hne : ([46] == s.toList) = false) (hi : Lib.indexByte s.data.toList 46 = i) :
    Calls Tryz.prog 140 #[.string s, .string ⟨#[46]⟩] w fun e w' => e = .returned (.int .i64 i) ∧ w = w' := by
  have H := Lib.hid hi
  clear hi
  go_enter Tryz.func140, Tryz.ntmps140
  go_wp2_with (fail)
  go_enter Tryz.func168, Tryz.ntmps168
  go_wp2_with (go_at_call 185; refine (lindexByte_any _ _ _).mono ?_; rintro e w' ⟨rfl, rfl⟩)
  go_ret
  exact ⟨ret_int H.out, rfl⟩

set_option maxRecDepth 100000 in
theorem count_dot (s : ByteArray) (w : World) :
    Calls Tryz.prog 139 #[.string s, .string ⟨#[46]⟩] w fun e w' => e = .returned (.int .i64 (Lib.countByte s.data.toList 46 : Int)) ∧ w = w' := by
  go_enter Tryz.func139, Tryz.ntmps139
  go_wp2
  rw [run_callFunc_extern Tryz.func167 (by kernel_rfl) (by kernel_rfl) (by kernel_rfl) (e := Extern.BytealgCount.count) (by kernel_rfl), Lib.run_countString]
  simp only [Result.andThen]
  rw [Oper.upon_value]
  go_wp2
  go_ret
  exact ⟨rfl, rfl⟩

set_option maxRecDepth 100000 in
set_option maxHeartbeats 1000000 in
/-- The three parts of 1.2.3. -/
theorem split_123 (w : World) :
    Calls Tryz.prog 78 #[.string ⟨#[49, 46, 50, 46, 51]⟩, .string ⟨#[46]⟩] w fun e w' => e = .returned (.slice (some ⟨w.heap.size, 0, none⟩) 3 3) ∧ w'.heap[w.heap.size]? = some (.cells #[.string ⟨#[49]⟩, .string ⟨#[50]⟩, .string ⟨#[51]⟩] 9) ∧ Below w.heap.size w w' := by
  have hc : Lib.countByte (⟨#[49, 46, 50, 46, 51]⟩ : ByteArray).data.toList 46 = 2 := by decide
  have e1 : (⟨#[49, 46, 50, 46, 51]⟩ : ByteArray).extract 0 1 = ⟨#[49]⟩ := by decide
  have e2 : (⟨#[49, 46, 50, 46, 51]⟩ : ByteArray).extract 2 5 = ⟨#[50, 46, 51]⟩ := by decide
  have e3 : (⟨#[50, 46, 51]⟩ : ByteArray).extract 0 1 = ⟨#[50]⟩ := by decide
  have e4 : (⟨#[50, 46, 51]⟩ : ByteArray).extract 2 3 = ⟨#[51]⟩ := by decide
  have hmk : ∀ w : World, (Instr.makeSlice 127 (.int .i64 3) (.int .i64 3)).run Tryz.prog w = .ok (.slice (some ⟨w.heap.size, 0, none⟩) 3 3) (w.alloc (.cells #[.string ⟨#[]⟩, .string ⟨#[]⟩, .string ⟨#[]⟩] 9)) := fun _ => by kernel_rfl
  go_enter Tryz.func78, Tryz.ntmps78
  go_wp2_with (fail)
  go_enter Tryz.func119, Tryz.ntmps119
  go_wp2_with (fail)
  refine (count_dot _ _).mono ?_
  rw [hc]
  rintro e w' ⟨rfl, rfl⟩
  go_wp2_with (fail)
  refine wp_loop_rounds 3 ?_
  rw [rounds_succ]
  go_wp2_with (fail)
  refine (index_dot _ 1 _ (by rw [Lib.toList_data]; decide) (by decide)).mono ?_
  rintro e w' ⟨rfl, rfl⟩
  go_wp2_with (fail)
  rw [rounds_succ]
  go_wp2_with (fail)
  refine (index_dot _ 1 _ (by rw [Lib.toList_data]; decide) (by decide)).mono ?_
  rintro e w' ⟨rfl, rfl⟩
  go_wp2_with (fail)
  rw [rounds_succ]
  go_wp2_with (fail)
  go_ret
  exact ⟨rfl, heap_new w _, (Below.refl _ _).alloc (Nat.le_refl _) _⟩
end Go.Proofs.YtnmgfnnkcenfeaaGreatDoor

/- Number and Atoi at one digit. Written by gen_vers2.py. -/
namespace Go.Proofs.YtnmgfnnkcenfeaaGreatDoor
open Go.RowKit

theorem conv_one (w : World) (d : UInt8) : ∃ c C f, (convert 9 30 (.string ⟨#[d]⟩)).run Tryz.prog w = .ok (.slice (some ⟨w.heap.size, 0, none⟩) 1 c) (w.drew.alloc (.cells C 5 f)) ∧ C[0]? = some (.int .u8 d.toNat) := by
  refine ⟨_, _, _, run_bytes_of_string (P := Tryz.prog) w 9 30 5 ⟨#[d]⟩ Tryz.underlying9 Tryz.underlying30 Tryz.underlying5, ?_⟩
  unfold bytesRow
  rw [Array.getElem?_append_left (by simp)]
  simp

set_option maxRecDepth 100000 in
set_option maxHeartbeats 1000000 in
theorem iatoi_49 (w : World) : Calls Tryz.prog 163 #[.string ⟨#[49]⟩] w fun e w' => e = .returned (.tuple #[.int .i64 1, .nilIface]) ∧ Below w.heap.size w w' := by
  obtain ⟨c, C, f, hrun, hC⟩ := conv_one w 49
  have hcell := cell_of_blk (heap_new w (.cells C 5 f)) hC
  have HB := Lib.hid (show Below w.heap.size w (w.alloc (.cells C 5 f)).drew from ((Below.refl _ _).alloc (Nat.le_refl _) _).drew)
  clear hC
  go_enter Tryz.func163, Tryz.ntmps163
  go_wp2_with (fail)
  refine wp_loop_rounds 2 ?_
  rw [rounds_succ]
  go_wp2_with (fail)
  rw [rounds_succ]
  go_wp2_with (fail)
  go_ret2
  exact ⟨rfl, HB.out⟩
theorem atoi_49 (w : World) : Calls Tryz.prog 137 #[.string ⟨#[49]⟩] w fun e w' => e = .returned (.tuple #[.int .i64 1, .nilIface]) ∧ Below w.heap.size w w' := by
  go_enter Tryz.func137, Tryz.ntmps137
  go_wp2_with (fail)
  refine (iatoi_49 w).mono ?_
  rintro e w' ⟨rfl, hb⟩
  have HB := Lib.hid hb
  clear hb
  go_wp2_with (fail)
  go_ret2
  exact ⟨rfl, HB.out⟩
theorem trim_49 (w : World) : Calls Tryz.prog 136 #[.string ⟨#[49]⟩, .string ⟨#[45]⟩] w fun e w' => e = .returned (.string ⟨#[49]⟩) ∧ w = w' := by
  have e1 : (⟨#[49]⟩ : ByteArray).extract 0 1 = ⟨#[49]⟩ := by decide
  have e2 : ((⟨#[49]⟩ : ByteArray).toList == [45]) = false := by rw [Lib.toList_data]; decide
  go_enter Tryz.func136, Tryz.ntmps136
  go_wp2
  go_ret
  exact ⟨rfl, rfl⟩
set_option maxHeartbeats 1000000 in
theorem number_49 (w : World) : Calls Tryz.prog 118 #[.string ⟨#[49]⟩, .int .i64 4] w fun e w' => e = .returned (.tuple #[.int .i64 1, .bool true]) ∧ Below w.heap.size w w' := by
  have e2 : (⟨#[49]⟩ : ByteArray).toList.isEmpty = false := by rw [Lib.toList_data]; decide
  go_enter Tryz.func118, Tryz.ntmps118
  go_wp2_with (fail)
  refine (trim_49 w).mono ?_
  rintro e w' ⟨rfl, rfl⟩
  go_wp2_with (fail)
  refine wp_loop_rounds 2 ?_
  rw [rounds_succ]
  go_wp2_with (fail)
  rw [rounds_succ]
  go_wp2_with (fail)
  refine (atoi_49 w).mono ?_
  rintro e w' ⟨rfl, hb⟩
  have HB := Lib.hid hb
  clear hb
  go_wp2_with (fail)
  go_quiet (fail)
  go_wp2_with (fail)
  go_ret2
  exact ⟨rfl, below_drewN HB.out _⟩

set_option maxRecDepth 100000 in
set_option maxHeartbeats 1000000 in
theorem iatoi_50 (w : World) : Calls Tryz.prog 163 #[.string ⟨#[50]⟩] w fun e w' => e = .returned (.tuple #[.int .i64 2, .nilIface]) ∧ Below w.heap.size w w' := by
  obtain ⟨c, C, f, hrun, hC⟩ := conv_one w 50
  have hcell := cell_of_blk (heap_new w (.cells C 5 f)) hC
  have HB := Lib.hid (show Below w.heap.size w (w.alloc (.cells C 5 f)).drew from ((Below.refl _ _).alloc (Nat.le_refl _) _).drew)
  clear hC
  go_enter Tryz.func163, Tryz.ntmps163
  go_wp2_with (fail)
  refine wp_loop_rounds 2 ?_
  rw [rounds_succ]
  go_wp2_with (fail)
  rw [rounds_succ]
  go_wp2_with (fail)
  go_ret2
  exact ⟨rfl, HB.out⟩
theorem atoi_50 (w : World) : Calls Tryz.prog 137 #[.string ⟨#[50]⟩] w fun e w' => e = .returned (.tuple #[.int .i64 2, .nilIface]) ∧ Below w.heap.size w w' := by
  go_enter Tryz.func137, Tryz.ntmps137
  go_wp2_with (fail)
  refine (iatoi_50 w).mono ?_
  rintro e w' ⟨rfl, hb⟩
  have HB := Lib.hid hb
  clear hb
  go_wp2_with (fail)
  go_ret2
  exact ⟨rfl, HB.out⟩
theorem trim_50 (w : World) : Calls Tryz.prog 136 #[.string ⟨#[50]⟩, .string ⟨#[45]⟩] w fun e w' => e = .returned (.string ⟨#[50]⟩) ∧ w = w' := by
  have e1 : (⟨#[50]⟩ : ByteArray).extract 0 1 = ⟨#[50]⟩ := by decide
  have e2 : ((⟨#[50]⟩ : ByteArray).toList == [45]) = false := by rw [Lib.toList_data]; decide
  go_enter Tryz.func136, Tryz.ntmps136
  go_wp2
  go_ret
  exact ⟨rfl, rfl⟩
set_option maxHeartbeats 1000000 in
theorem number_50 (w : World) : Calls Tryz.prog 118 #[.string ⟨#[50]⟩, .int .i64 4] w fun e w' => e = .returned (.tuple #[.int .i64 2, .bool true]) ∧ Below w.heap.size w w' := by
  have e2 : (⟨#[50]⟩ : ByteArray).toList.isEmpty = false := by rw [Lib.toList_data]; decide
  go_enter Tryz.func118, Tryz.ntmps118
  go_wp2_with (fail)
  refine (trim_50 w).mono ?_
  rintro e w' ⟨rfl, rfl⟩
  go_wp2_with (fail)
  refine wp_loop_rounds 2 ?_
  rw [rounds_succ]
  go_wp2_with (fail)
  rw [rounds_succ]
  go_wp2_with (fail)
  refine (atoi_50 w).mono ?_
  rintro e w' ⟨rfl, hb⟩
  have HB := Lib.hid hb
  clear hb
  go_wp2_with (fail)
  go_quiet (fail)
  go_wp2_with (fail)
  go_ret2
  exact ⟨rfl, below_drewN HB.out _⟩

set_option maxRecDepth 100000 in
set_option maxHeartbeats 1000000 in
theorem iatoi_51 (w : World) : Calls Tryz.prog 163 #[.string ⟨#[51]⟩] w fun e w' => e = .returned (.tuple #[.int .i64 3, .nilIface]) ∧ Below w.heap.size w w' := by
  obtain ⟨c, C, f, hrun, hC⟩ := conv_one w 51
  have hcell := cell_of_blk (heap_new w (.cells C 5 f)) hC
  have HB := Lib.hid (show Below w.heap.size w (w.alloc (.cells C 5 f)).drew from ((Below.refl _ _).alloc (Nat.le_refl _) _).drew)
  clear hC
  go_enter Tryz.func163, Tryz.ntmps163
  go_wp2_with (fail)
  refine wp_loop_rounds 2 ?_
  rw [rounds_succ]
  go_wp2_with (fail)
  rw [rounds_succ]
  go_wp2_with (fail)
  go_ret2
  exact ⟨rfl, HB.out⟩
theorem atoi_51 (w : World) : Calls Tryz.prog 137 #[.string ⟨#[51]⟩] w fun e w' => e = .returned (.tuple #[.int .i64 3, .nilIface]) ∧ Below w.heap.size w w' := by
  go_enter Tryz.func137, Tryz.ntmps137
  go_wp2_with (fail)
  refine (iatoi_51 w).mono ?_
  rintro e w' ⟨rfl, hb⟩
  have HB := Lib.hid hb
  clear hb
  go_wp2_with (fail)
  go_ret2
  exact ⟨rfl, HB.out⟩
theorem trim_51 (w : World) : Calls Tryz.prog 136 #[.string ⟨#[51]⟩, .string ⟨#[45]⟩] w fun e w' => e = .returned (.string ⟨#[51]⟩) ∧ w = w' := by
  have e1 : (⟨#[51]⟩ : ByteArray).extract 0 1 = ⟨#[51]⟩ := by decide
  have e2 : ((⟨#[51]⟩ : ByteArray).toList == [45]) = false := by rw [Lib.toList_data]; decide
  go_enter Tryz.func136, Tryz.ntmps136
  go_wp2
  go_ret
  exact ⟨rfl, rfl⟩
set_option maxHeartbeats 1000000 in
theorem number_51 (w : World) : Calls Tryz.prog 118 #[.string ⟨#[51]⟩, .int .i64 4] w fun e w' => e = .returned (.tuple #[.int .i64 3, .bool true]) ∧ Below w.heap.size w w' := by
  have e2 : (⟨#[51]⟩ : ByteArray).toList.isEmpty = false := by rw [Lib.toList_data]; decide
  go_enter Tryz.func118, Tryz.ntmps118
  go_wp2_with (fail)
  refine (trim_51 w).mono ?_
  rintro e w' ⟨rfl, rfl⟩
  go_wp2_with (fail)
  refine wp_loop_rounds 2 ?_
  rw [rounds_succ]
  go_wp2_with (fail)
  rw [rounds_succ]
  go_wp2_with (fail)
  refine (atoi_51 w).mono ?_
  rintro e w' ⟨rfl, hb⟩
  have HB := Lib.hid hb
  clear hb
  go_wp2_with (fail)
  go_quiet (fail)
  go_wp2_with (fail)
  go_ret2
  exact ⟨rfl, below_drewN HB.out _⟩
end Go.Proofs.YtnmgfnnkcenfeaaGreatDoor

/- append to a row of the call's own, with where the new row lies. -/
namespace Go.Proofs.YtnmgfnnkcenfeaaGreatDoor
open Go.RowKit

/-- v' lies where v lay, or in memory that was not there in w. -/
def Moved (w : World) (v v' : Value) : Prop := v'.ownBlock = v.ownBlock ∨ ∃ g, v'.ownBlock = some g ∧ w.heap.size ≤ g

section
variable {P : Program} (w : World)
theorem run_append_own2 (base : Nat) (t ty e : TypeId) (i : TypeInfo) (z : Value) (size bytes : Nat) (ht : P.underlying t = some (.slice e)) (hi : P.info? e = some i) (hz : i.zero = some z)
    (hsize : i.size = size) (hby : i.bytes = bytes) (hzs : z.cells.size = size) (hsz : 0 < size)
    (v : Value) (n : Nat) (xs : List Value) (hown : w.ownsRow base e size v n xs)
    (a : Addr) (m c : Nat) (news : List Value) (hl : news.length = m * size) (hnews : ∀ j u, news[j]? = some u → w.cell? (a.add j) = some u) (h1 : ∀ u ∈ news, u.oneCell' = true)
    (h63 : n + m ≤ maxLen) (hbytes : (n + m) * bytes ≤ 140737488355328) (hbase : base ≤ w.heap.size) :
    ∃ v' w', (Builtin.append_ #[t, t] ty #[v, .slice (some a) m c]).run P w = .ok v' w' ∧ w'.ownsRow base e size v' (n + m) (xs ++ news) ∧ w.grownBy w' v.ownBlock ∧ Moved w v v' := by
  obtain ⟨v', w', hr, h2, h3, h4⟩ := run_append_own (P := P) w base t ty e i z size bytes ht hi hz hsize hby hzs hsz v n xs hown a m c news hl hnews h1 h63 hbytes hbase
  refine ⟨v', w', hr, h2, h3, ?_⟩
  subst hsize
  subst hby
  have hsmall : n + m ≤ 9223372036854775807 := by simp only [maxLen] at h63; omega
  rcases hown.2 with ⟨rfl, rfl⟩ | ⟨g, cap, cur, rfl, hbg, hg, hnc, hcm, hcs, htake⟩
  · by_cases hm : m = 0
    · have := h4.2 ⟨rfl, hm⟩
      subst this
      exact .inl rfl
    · have hr2 := run_append_nil (P := P) w t ty e i z ht hi hz a m c news hl hnews (by omega) (by omega) (by have hb := hbytes; simp only [Nat.zero_add] at hb; omega)
      rw [hr2] at hr
      injection hr with hv _
      subst hv
      exact .inr ⟨_, rfl, Nat.le_refl _⟩
  · by_cases hroom : n + m ≤ cap
    · have hfit : n * i.size + news.length ≤ cur.size := by rw [hl, hcs, ← Nat.add_mul]; exact Nat.mul_le_mul_right _ hroom
      have hr2 := run_append_room (P := P) w t ty e i ht hi g n cap cur hg a m c news hl hnews h1 hroom hfit
      rw [hr2] at hr
      injection hr with hv _
      subst hv
      exact .inl rfl
    · have holds : ∀ j u, xs[j]? = some u → w.cell? ((⟨g, 0, none⟩ : Addr).add j) = some u := hown.cells (g := g) rfl
      have hr2 := run_append_grow (P := P) w t ty e i z ht hi hz ⟨g, 0, none⟩ n cap xs hown.1 holds a m c news hl hnews (by omega) (by omega) (growslice_fits (by omega) hbytes)
      rw [hr2] at hr
      injection hr with hv _
      subst hv
      exact .inr ⟨_, rfl, Nat.le_refl _⟩

theorem wpList_append_own2 {ops : Array Oper} {rest : List Oper} {o : Oper} {a : Act} {Q : Exit → Act → World → Prop} (hgd : o.guard = none) (s x : Operand) (t : TypeId)
    (ho : o.op = .call { callee := .builtin .append, args := #[s, x], argTypes := #[t, t] })
    (base : Nat) (e : TypeId) (i : TypeInfo) (z : Value) (size bytes : Nat) (ht : P.underlying t = some (.slice e)) (hi : P.info? e = some i) (hz : i.zero = some z)
    (hsize : i.size = size) (hby : i.bytes = bytes) (hzs : z.cells.size = size) (hsz : 0 < size)
    (v : Value) (n : Nat) (xs : List Value) (hs : a.eval s = v) (hown : w.ownsRow base e size v n xs)
    (ad : Addr) (m c : Nat) (news : List Value) (hx : a.eval x = .slice (some ad) m c) (hl : news.length = m * size) (hnews : ∀ j u, news[j]? = some u → w.cell? (ad.add j) = some u) (h1 : ∀ u ∈ news, u.oneCell' = true)
    (h63 : n + m ≤ maxLen) (hbytes : (n + m) * bytes ≤ 140737488355328) (hbase : base ≤ w.heap.size)
    (h : ∀ v' w', w'.ownsRow base e size v' (n + m) (xs ++ news) → w.grownBy w' v.ownBlock → Moved w v v' → wpList P ops Q rest (a.put o.dst v') w') : wpList P ops Q (o :: rest) a w :=
  wpList_plain hgd fun _ hK => by
    obtain ⟨v', w', hr, h2, h3, h4⟩ := run_append_own2 (P := P) w base t o.type e i z size bytes ht hi hz hsize hby hzs hsz v n xs hown ad m c news hl hnews h1 h63 hbytes hbase
    unfold Oper.wp execOp
    simp only [ho, resolve, invoke, builtin, Sem.run_bind, Sem.run_pure, Result.andThen_ok, List.map_toArray, List.map_cons, List.map_nil, hs, hx, hr]
    exact hK _ _ (h v' w' h2 h3 h4)
end

theorem Moved.refl (w : World) (v : Value) : Moved w v v := .inl rfl
theorem Moved.trans {a b : World} {u v x : Value} (h : Moved a u v) (k : Moved b v x) (hs : a.heap.size ≤ b.heap.size) : Moved a u x := by
  rcases k with k | ⟨g, h1, h2⟩
  · rcases h with h | ⟨g, h1, h2⟩
    · exact .inl (k.trans h)
    · exact .inr ⟨g, k.trans h1, h2⟩
  · exact .inr ⟨g, h1, by omega⟩
/-- Two writes into one row, one behind the other. -/
theorem grown_moved {a b c : World} {u v : Value} (h : a.grownBy b u.ownBlock) (hm : Moved a u v) (k : b.grownBy c v.ownBlock) : a.grownBy c u.ownBlock :=
  ⟨k.os.trans h.os, k.tape.trans h.tape, k.output.trans h.output, Nat.le_trans h.size k.size, fun i hi hn => (k.block i (Nat.lt_of_lt_of_le hi h.size) (fun e => by
    rcases hm with hm | ⟨g, h1, h2⟩
    · exact hn (e.trans hm)
    · rw [h1] at e; injection e with e; omega)).trans (h.block i hi hn)⟩
theorem grown_of_alloc {w w' : World} {o : Obj} {row : Option Nat} (h : (w.alloc o).grownBy w' row) : w.grownBy w' row :=
  ⟨h.os, h.tape, h.output, Nat.le_trans (by simp) h.size, fun i hi hn => (h.block i (by simp; omega) hn).trans (Below.heap_alloc w o i hi)⟩
theorem moved_of_alloc {w : World} {o : Obj} {v v' : Value} (h : Moved (w.alloc o) v v') : Moved w v v' := by
  rcases h with h | ⟨g, h1, h2⟩
  · exact .inl h
  · exact .inr ⟨g, h1, by simp at h2; omega⟩
/-- A row of elements of one type is no block of another type. -/
theorem own_ne {w : World} {base g : Nat} {e t : TypeId} {size n : Nat} {v : Value} {xs : List Value} {cs : Array Value} {f : Nat × Nat} (h : w.ownsRow base e size v n xs) (hg : w.heap[g]? = some (.cells cs t f)) (hne : e ≠ t) : some g ≠ v.ownBlock := by
  rcases h.2 with ⟨rfl, _⟩ | ⟨g', cap, cur, rfl, _, hh, _⟩
  · simp [Value.ownBlock]
  · intro he
    have : g = g' := by simpa [Value.ownBlock] using he
    subst this
    rw [hh] at hg
    injection hg with hg
    injection hg with _ ht
    exact hne ht
theorem own_mono_ {w : World} {base base' : Nat} {e : TypeId} {size n : Nat} {v : Value} {xs : List Value} (h : w.ownsRow base e size v n xs) (hb : base' ≤ base) : w.ownsRow base' e size v n xs := by
  refine ⟨h.1, ?_⟩
  rcases h.2 with h | ⟨g, cap, cur, hv, hg, r⟩
  · exact .inl h
  · exact .inr ⟨g, cap, cur, hv, by omega, r⟩
theorem own_mono {w : World} {base base' : Nat} {e : TypeId} {size n : Nat} {v : Value} {xs : List Value} (h : w.ownsRow base e size v n xs) (hb : base' ≤ base) : w.ownsRow base' e size v n xs := own_mono_ h hb
theorem own_drewN {w : World} {base : Nat} {e : TypeId} {size n : Nat} {v : Value} {xs : List Value} (h : w.ownsRow base e size v n xs) (q : Nat) : (w.drewN q).ownsRow base e size v n xs := h
theorem Cells.drewN {w : World} {b o : Nat} {xs : List Value} (h : Cells w b o xs) (q : Nat) : Cells (w.drewN q) b o xs := h
theorem grown_of_drewN {w w' : World} {q : Nat} {row : Option Nat} (h : (w.drewN q).grownBy w' row) : w.grownBy w' row := ⟨h.os, h.tape, h.output, h.size, h.block⟩
/-- The row's cells, to read. -/
theorem own_row {w : World} {base : Nat} {e : TypeId} {size n : Nat} {A : Option Addr} {n' c : Nat} {xs : List Value} (h : w.ownsRow base e size (.slice A n' c) n xs) : Row w w.heap.size A xs := by
  rcases h.2 with ⟨hv, hn⟩ | ⟨g, cap, cur, hv, _, hh, _, _, _, ht⟩
  · have := h.1
    rw [hn] at this
    exact .inl (List.eq_nil_of_length_eq_zero (by simpa using this))
  · injection hv with hA
    subst hA
    refine .inr ⟨g, 0, rfl, (Array.getElem?_eq_some_iff.1 hh).1, fun j u hu => ?_⟩
    rw [Nat.zero_add]
    refine cell_of_blk hh ?_
    rw [← ht, List.getElem?_take] at hu
    split at hu
    · simpa using hu
    · cases hu
/-- What is owned is a slice of that length. -/
theorem own_slice {w : World} {base : Nat} {e : TypeId} {size n : Nat} {v : Value} {xs : List Value} (h : w.ownsRow base e size v n xs) : ∃ A c, v = .slice A n c := by
  rcases h.2 with ⟨rfl, rfl⟩ | ⟨g, cap, cur, rfl, _⟩
  · exact ⟨_, _, rfl⟩
  · exact ⟨_, _, rfl⟩
end Go.Proofs.YtnmgfnnkcenfeaaGreatDoor

/- Numbers, ParseVersion at 1.2.3; Cell at level 1. -/
namespace Go.Proofs.YtnmgfnnkcenfeaaGreatDoor
open Go.RowKit

theorem Tryz.infoI : (Tryz.prog.info? 3).map (fun i => (i.zero, i.size, i.bytes)) = some (some (.int .i64 0), 1, 8) := by kernel_rfl
theorem int_one (x : Int) : ∀ u ∈ [Value.int .i64 x], u.oneCell' = true := by
  intro u hu; simp at hu; subst hu; rfl

set_option maxRecDepth 100000 in
set_option maxHeartbeats 2000000 in
theorem numbers_123 (w : World) (g : Nat) (hg : w.heap[g]? = some (.cells #[.string ⟨#[49]⟩, .string ⟨#[50]⟩, .string ⟨#[51]⟩] 9)) :
    Calls Tryz.prog 77 #[.slice (some ⟨g, 0, none⟩) 3 3, .int .i64 4] w fun e w' => ∃ A c, e = .returned (.tuple #[.slice A 3 c, .bool true]) ∧ w'.ownsRow w.heap.size 3 1 (.slice A 3 c) 3 [.int .i64 1, .int .i64 2, .int .i64 3] ∧ Below w.heap.size w w' := by
  obtain ⟨i0, hi, hz0, hz1, hz2⟩ := info_parts Tryz.infoI
  have c0 := cell_of_blk (j := 0) hg rfl
  have c1 := cell_of_blk (j := 1) hg rfl
  have c2 := cell_of_blk (j := 2) hg rfl
  have hlt := (Array.getElem?_eq_some_iff.1 hg).1
  clear hg
  go_enter Tryz.func77, Tryz.ntmps77
  go_wp2_with (fail)
  refine wp_loop_rounds 4 ?_
  rw [rounds_succ]
  go_wp2_with (fail)
  refine (number_49 w).mono ?_
  rintro e w1 ⟨rfl, hb1⟩
  have hs1 := hb1.size
  have HB1 := Lib.hid hb1
  have HO0 := Lib.hid (World.ownsRow_nil w1 w.heap.size 3 1)
  clear hb1
  go_wp2_with (at_builtin; refine wpList_append_own2 _ rfl (.tmp 25) (.tmp 27) 22 rfl w.heap.size 3 i0 (.int .i64 0) 1 8 Tryz.underlying22 hi hz0 hz1 hz2 rfl (by decide) _ _ _ rfl (HO0.out.alloc _) ⟨w1.heap.size, 0, none⟩ 1 1 [.int .i64 1] rfl rfl ?a1 ?a2 ?a3 ?a4 ?a5 ?_)
  case a1 => exact cells_add (Cells.new _ _ _ _ _ rfl)
  case a2 => exact int_one _
  case a3 => unfold maxLen; omega
  case a4 => omega
  case a5 => simp only [World.size_alloc]; omega
  intro v2 w2 hown2 hgr2 hmv2
  have hg2 := grown_of_alloc hgr2
  have hs2 := hg2.size
  have HB2 := Lib.hid (HB1.out.grown hg2 hs1 (fun k hk => by simp [Value.ownBlock] at hk))
  have HO2 := Lib.hid hown2
  have d1 := (HB2.out.cell (p := ⟨g, 1, none⟩) hlt).trans c1
  clear hown2 hgr2 hmv2 hg2
  go_wp2_with (fail)
  rw [rounds_succ]
  go_wp2_with (fail)
  refine (number_50 w2).mono ?_
  rintro e w3 ⟨rfl, hb3⟩
  have hs3 := hb3.size
  have HB3 := Lib.hid (HB2.out.trans (hb3.mono (by omega)))
  have HO3 := Lib.hid (own_below HO2.out hb3)
  clear hb3 d1
  go_wp2_with (at_builtin; refine wpList_append_own2 _ rfl (.tmp 25) (.tmp 27) 22 rfl w.heap.size 3 i0 (.int .i64 0) 1 8 Tryz.underlying22 hi hz0 hz1 hz2 rfl (by decide) _ _ _ rfl (HO3.out.alloc _) ⟨w3.heap.size, 0, none⟩ 1 1 [.int .i64 2] rfl rfl ?b1 ?b2 ?b3 ?b4 ?b5 ?_)
  case b1 => exact cells_add (Cells.new _ _ _ _ _ rfl)
  case b2 => exact int_one _
  case b3 => unfold maxLen; omega
  case b4 => omega
  case b5 => simp only [World.size_alloc]; omega
  intro v4 w4 hown4 hgr4 hmv4
  have hg4 := grown_of_alloc hgr4
  have hs4 := hg4.size
  have HB4 := Lib.hid (HB3.out.grown hg4 (by omega) (fun k hk => (HO3.out.lt k hk).1))
  have HO4 := Lib.hid hown4
  have d2 := (HB4.out.cell (p := ⟨g, 2, none⟩) hlt).trans c2
  clear hown4 hgr4 hmv4 hg4
  go_wp2_with (fail)
  rw [rounds_succ]
  go_wp2_with (fail)
  refine (number_51 w4).mono ?_
  rintro e w5 ⟨rfl, hb5⟩
  have hs5 := hb5.size
  have HB5 := Lib.hid (HB4.out.trans (hb5.mono (by omega)))
  have HO5 := Lib.hid (own_below HO4.out hb5)
  clear hb5 d2
  go_wp2_with (at_builtin; refine wpList_append_own2 _ rfl (.tmp 25) (.tmp 27) 22 rfl w.heap.size 3 i0 (.int .i64 0) 1 8 Tryz.underlying22 hi hz0 hz1 hz2 rfl (by decide) _ _ _ rfl (HO5.out.alloc _) ⟨w5.heap.size, 0, none⟩ 1 1 [.int .i64 3] rfl rfl ?e1 ?e2 ?e3 ?e4 ?e5 ?_)
  case e1 => exact cells_add (Cells.new _ _ _ _ _ rfl)
  case e2 => exact int_one _
  case e3 => unfold maxLen; omega
  case e4 => omega
  case e5 => simp only [World.size_alloc]; omega
  intro v6 w6 hown6 hgr6 hmv6
  have hg6 := grown_of_alloc hgr6
  have HB6 := Lib.hid (HB5.out.grown hg6 (by omega) (fun k hk => (HO5.out.lt k hk).1))
  obtain ⟨A6, k6, rfl⟩ := own_slice hown6
  have HO6 := Lib.hid hown6
  clear hown6 hgr6 hmv6 hg6
  go_wp2_with (fail)
  rw [rounds_succ]
  go_wp2_with (fail)
  go_ret2
  exact ⟨_, _, rfl, HO6.out, HB6.out⟩

theorem version_yes (a b c : Int) (w : World) (a1 : 0 ≤ a) (a2 : a ≤ 9999) (b1 : 0 ≤ b) (b2 : b ≤ 9999) (c1 : 0 ≤ c) (c2 : c ≤ 9999) :
    Calls Tryz.prog 79 #[.agg #[.int .i64 a, .int .i64 b, .int .i64 c]] w fun e w' => e = .returned (.bool true) ∧ Below w.heap.size w w' := by
  go_enter Tryz.func79, Tryz.ntmps79
  go_wp2_with (go_at_call 34; refine (out_no _ _ _ _ (by omega) (by omega)).mono ?_; rintro e w' ⟨rfl, rfl⟩)
  go_ret
  exact ⟨rfl, (Below.refl _ _).alloc (Nat.le_refl _) _⟩

set_option maxRecDepth 100000 in
set_option maxHeartbeats 2000000 in
theorem parse_123 (w : World) : Calls Tryz.prog 53 #[.string ⟨#[49, 46, 50, 46, 51]⟩] w fun e w' => e = .returned (.tuple #[.agg #[.int .i64 1, .int .i64 2, .int .i64 3], .int .i64 0]) ∧ Below w.heap.size w w' := by
  have hz0 := heap_new w (.cells #[.int .i64 0, .int .i64 0, .int .i64 0] 97)
  have HB0 := Lib.hid ((Below.refl w.heap.size w).alloc (Nat.le_refl _) (.cells #[.int .i64 0, .int .i64 0, .int .i64 0] 97))
  have HZ0 := Lib.hid hz0
  clear hz0
  go_enter Tryz.func53, Tryz.ntmps53
  go_wp2_with (fail)
  refine (split_123 _).mono ?_
  rintro e w1 ⟨rfl, hblk1, hb1⟩
  have hs1 := hb1.size
  simp only [World.size_alloc] at hs1 hblk1
  have HZ1 := Lib.hid ((hb1.block w.heap.size (by simp)).trans HZ0.out)
  have HB1 := Lib.hid (HB0.out.trans (hb1.mono (by simp)))
  have HBLK := Lib.hid hblk1
  clear hb1 hblk1
  go_wp2_with (fail)
  refine (numbers_123 w1 _ HBLK.out).mono ?_
  rintro e w2 ⟨A, c, rfl, hown2, hb2⟩
  have hs2 := hb2.size
  have HZ2 := Lib.hid ((hb2.block w.heap.size (by omega)).trans HZ1.out)
  have HB2 := Lib.hid (HB1.out.trans (hb2.mono (by omega)))
  have hrow := own_row hown2
  obtain ⟨b, o, rfl, hblt, hcs⟩ := hrow.resolve_left (by simp)
  have i0 := hcs 0 _ rfl
  have i1 := hcs 1 _ rfl
  have i2 := hcs 2 _ rfl
  simp only [Nat.add_zero] at i0
  clear hb2 hown2 hrow hcs
  go_wp2_with (fail)
  go_region
  go_wp2_with (fail)
  refine (version_yes 1 2 3 _ (by omega) (by omega) (by omega) (by omega) (by omega) (by omega)).mono ?_
  rintro e w3 ⟨rfl, hb3⟩
  have hs3 := hb3.size
  simp at hs3
  have HB3 := Lib.hid (show Below w.heap.size w w3 from HB2.out.trans ((((Below.refl w.heap.size w2).alloc (by omega) (.cells #[.int .i64 1, .int .i64 2, .int .i64 3] 97)).drew).trans (hb3.mono (B' := w.heap.size) (by simp; omega))))
  have hz3 : w3.heap[w.heap.size]? = some (.cells #[.int .i64 0, .int .i64 0, .int .i64 0] 97) := (hb3.block w.heap.size (by simp; omega)).trans ((Below.heap_alloc w2 _ _ (by omega)).trans HZ2.out)
  have hv3 : w3.heap[w2.heap.size]? = some (.cells #[.int .i64 1, .int .i64 2, .int .i64 3] 97) := (hb3.block w2.heap.size (by simp)).trans (heap_new w2 _)
  have z0 := cell_of_blk (j := 0) hz3 rfl
  have z1 := cell_of_blk (j := 1) hz3 rfl
  have z2 := cell_of_blk (j := 2) hz3 rfl
  have y0 := cell_of_blk (j := 0) hv3 rfl
  have y1 := cell_of_blk (j := 1) hv3 rfl
  have y2 := cell_of_blk (j := 2) hv3 rfl
  have fr : ∀ j, w3.frozen? ⟨w.heap.size, j, none⟩ = false := by intro j; simp [World.frozen?, hz3]
  have f0 := fr 0
  have f1 := fr 1
  have f2 := fr 2
  have HW : (((w3.setCell ⟨w.heap.size, 0, none⟩ (.int .i64 1)).setCell ⟨w.heap.size, 1, none⟩ (.int .i64 2)).setCell ⟨w.heap.size, 2, none⟩ (.int .i64 3)).heap[w.heap.size]? = some (.cells #[.int .i64 1, .int .i64 2, .int .i64 3] 97) := by
    simp [World.setCell, Array.getElem?_modify, hz3]
  have q0 := Lib.hid (cell_of_blk (j := 0) HW rfl)
  have q1 := Lib.hid (cell_of_blk (j := 1) HW rfl)
  have q2 := Lib.hid (cell_of_blk (j := 2) HW rfl)
  clear hb3 hz3 hv3 fr i0 i1 i2 HW
  go_wp2_with (fail)
  have r0 := q0.out
  have r1 := q1.out
  have r2 := q2.out
  refine bodyPost_ret (v := .tuple #[.agg #[.int .i64 1, .int .i64 2, .int .i64 3], .int .i64 0]) (by simp [results, Tryz.results53, go_sem, r0, r1, r2]) rfl ⟨rfl, ?_⟩
  exact ((HB3.out.setCell (by simp) _).setCell (by simp) _).setCell (by simp) _

theorem isSpot_v3 (x y : Int) (w : World) (x1 : -10000 ≤ x) (x2 : x ≤ 10000) (y1 : -10000 ≤ y) (y2 : y ≤ 10000) :
    Calls Tryz.prog 80 #[.agg #[.int .i64 x, .int .i64 y]] w fun e w' => e = .returned (.bool true) ∧ Below w.heap.size w w' := by
  go_enter Tryz.func80, Tryz.ntmps80
  go_wp2_with (go_at_call 34; refine (out_no _ _ _ _ (by omega) (by omega)).mono ?_; rintro e w' ⟨rfl, rfl⟩)
  go_ret
  exact ⟨rfl, (Below.refl _ _).alloc (Nat.le_refl _) _⟩

theorem Tryz.infoU8' : (Tryz.prog.info? 5).map (fun i => (i.zero, i.size, i.bytes)) = some (some (.int .u8 0), 1, 1) := by kernel_rfl

set_option maxRecDepth 100000 in
set_option maxHeartbeats 2000000 in
/-- The cell of the spot 0, 0 at level 1 is 3. -/
theorem cell_00 (w : World) : Calls Tryz.prog 54 #[.agg #[.int .i64 0, .int .i64 0], .int .i64 1] w fun e w' => e = .returned (.tuple #[.string ⟨#[51]⟩, .int .i64 0]) ∧ Below w.heap.size w w' := by
  obtain ⟨i0, hi, hz0, hz1, hz2⟩ := info_parts Tryz.infoU8'
  have hb0 := heap_new w (.cells #[.int .i64 0, .int .i64 0] 103)
  have HB0 := Lib.hid ((Below.refl w.heap.size w).alloc (Nat.le_refl _) (.cells #[.int .i64 0, .int .i64 0] 103))
  have H0 := Lib.hid hb0
  clear hb0
  go_enter Tryz.func54, Tryz.ntmps54
  go_wp2_with (fail)
  refine (isSpot_v3 0 0 _ (by omega) (by omega) (by omega) (by omega)).mono ?_
  rintro e w1 ⟨rfl, hb1⟩
  have hs1 := hb1.size
  simp only [World.size_alloc] at hs1
  have hz1' := (hb1.block w.heap.size (by simp)).trans H0.out
  have c0 := cell_of_blk (j := 0) hz1' rfl
  have c1 := cell_of_blk (j := 1) hz1' rfl
  have HB1 := Lib.hid (HB0.out.trans (hb1.mono (by simp)))
  clear hb1 hz1'
  go_wp2_with (go_at_call 34; refine (out_no _ _ _ _ (by omega) (by omega)).mono ?_; rintro e w' ⟨rfl, rfl⟩)
  go_quiet (fail)
  go_wp2_with (fail)
  refine wp_loop_rounds 2 ?_
  rw [rounds_succ]
  go_wp2_with (fail)
  generalize hW : w1.drewN nq = W
  have hWs : W.heap.size = w1.heap.size := by rw [← hW]; rfl
  have HBW := Lib.hid (show Below w.heap.size w W by rw [← hW]; exact below_drewN HB1.out _)
  clear hW
  go_region_law (first | (refine step_append_grows rfl (.tmp 28) (.tmp 42) 30 rfl 5 i0 (.int .u8 0) 1 1 Tryz.underlying30 hi hz0 hz1 hz2 rfl (by decide) none 0 0 [] (by simp [Act.eval]) (fun _ => ⟨rfl, rfl⟩) rfl (fun b hb => by cases hb) ⟨W.heap.size, 0, none⟩ 1 1 [.int .u8 51] (by simp [Act.eval]) rfl (cells_add (show Cells (W.alloc (.cells #[.int .u8 51] 5)) W.heap.size 0 [.int .u8 51] from Cells.new W _ _ _ _ rfl)) (by intro u hu; simp at hu; subst hu; rfl) (by decide) (by unfold maxLen; omega) (by omega) ?_; intro v9 w9 ho9 hg9))
  obtain ⟨A9, c9, rfl⟩ := own_slice ho9
  obtain ⟨b9, o9, rfl, hb9, hc9⟩ := (own_row ho9).resolve_left (by simp)
  have x0 := hc9 0 _ rfl
  simp only [Nat.add_zero] at x0
  have HB9 := Lib.hid (show Below w.heap.size w w9 from HBW.out.trans ⟨hg9.os, hg9.tape, hg9.output, Nat.le_trans (by simp) hg9.size, fun k hk => (hg9.block k (by simp; omega) (by simp)).trans (Below.heap_alloc W _ k (by omega))⟩)
  have hload : (loadCells ⟨b9, o9, none⟩ 1).run Tryz.prog w9 = .ok ([51].map (Value.int .u8)).toArray w9 := by
    simp [loadCells, loadCellsFrom, go_sem, x0]
  have hconv : (convert 30 9 (.slice (some ⟨b9, o9, none⟩) 1 c9)).run Tryz.prog w9 = .ok (.string ⟨#[51]⟩) w9 := by
    rw [run_convert_bytes_string w9 30 9 5 _ _ _ Tryz.underlying30 Tryz.underlying5 Tryz.underlying9, run_bytesToString w9 _ 1 c9 [51] hload]
    rfl
  clear ho9 hg9 hc9 c0 c1 hload x0
  go_wp2_with (fail)
  rw [rounds_succ]
  go_wp2_with (fail)
  go_ret2
  exact ⟨rfl, HB9.out⟩
end Go.Proofs.YtnmgfnnkcenfeaaGreatDoor

/- seven, doubled: numbers in sevens, below 16384. -/
namespace Go.Proofs.YtnmgfnnkcenfeaaGreatDoor
open Go.RowKit

/-- A number below 16384 in sevens. -/
def sev (n : Nat) : List Int := if n < 128 then [(n : Int)] else [((n % 128 : Nat) : Int) + 128, ((n / 128 : Nat) : Int)]
theorem sev_len (n : Nat) : (sev n).length ≤ 2 := by unfold sev; split <;> simp
def bytesV (l : List Int) : List Value := l.map (Value.int .u8)
theorem bytesV_app (a b : List Int) : bytesV (a ++ b) = bytesV a ++ bytesV b := by simp [bytesV]
theorem bytesV_one (l : List Int) : ∀ u ∈ bytesV l, u.oneCell' = true := by
  intro u hu
  simp only [bytesV, List.mem_map] at hu
  obtain ⟨x, _, rfl⟩ := hu
  rfl
theorem Tryz.infoU8 : (Tryz.prog.info? 5).map (fun i => (i.zero, i.size, i.bytes)) = some (some (.int .u8 0), 1, 1) := by kernel_rfl

set_option maxRecDepth 100000 in
set_option maxHeartbeats 1000000 in
theorem seven_one (w : World) (base m n : Nat) (v : Value) (ys : List Int) (hown : w.ownsRow base 5 1 v m (bytesV ys)) (hm : m ≤ 1000000) (hn : n < 128) (hbase : base ≤ w.heap.size) :
    Calls Tryz.prog 72 #[v, .int .u64 (n : Int)] w fun e w' => ∃ v', e = .returned v' ∧ w'.ownsRow base 5 1 v' (m + 1) (bytesV (ys ++ [(n : Int)])) ∧ w.grownBy w' v.ownBlock ∧ Moved w v v' := by
  obtain ⟨i0, hi, hz0, hz1, hz2⟩ := info_parts Tryz.infoU8
  have hn' : (n : Int) < 128 := by omega
  have HO := Lib.hid hown
  clear hown
  go_enter Tryz.func72, Tryz.ntmps72
  go_wp2_with (fail)
  refine wp_loop_rounds 1 ?_
  rw [rounds_succ]
  go_wp2_with (at_builtin; refine wpList_append_own2 _ rfl _ _ 30 rfl base 5 i0 (.int .u8 0) 1 1 Tryz.underlying30 hi hz0 hz1 hz2 rfl (by decide) _ _ _ rfl (HO.out.alloc _) ⟨w.heap.size, 0, none⟩ 1 1 (bytesV [(n : Int)]) rfl rfl ?c1 ?c2 ?c3 ?c4 ?c5 ?_)
  case c1 => exact cells_add (Cells.new _ _ _ _ _ rfl)
  case c2 => exact bytesV_one _
  case c3 => unfold maxLen; omega
  case c4 => omega
  case c5 => simp only [World.size_alloc]; omega
  intro v' w1 hown1 hgr1 hmv1
  have HO1 := Lib.hid hown1
  have HG1 := Lib.hid (grown_of_alloc hgr1)
  have HM1 := Lib.hid (moved_of_alloc hmv1)
  clear hown1 hgr1 hmv1
  go_wp2_with (fail)
  go_ret
  exact ⟨_, rfl, by rw [bytesV_app]; exact HO1.out, HG1.out, HM1.out⟩

set_option maxRecDepth 100000 in
set_option maxHeartbeats 2000000 in
theorem seven_two (w : World) (base m n : Nat) (v : Value) (ys : List Int) (hown : w.ownsRow base 5 1 v m (bytesV ys)) (hm : m ≤ 1000000) (hn : 128 ≤ n) (hn2 : n < 16384) (hbase : base ≤ w.heap.size) :
    Calls Tryz.prog 72 #[v, .int .u64 (n : Int)] w fun e w' => ∃ v', e = .returned v' ∧ w'.ownsRow base 5 1 v' (m + 2) (bytesV (ys ++ [((n % 128 : Nat) : Int) + 128, ((n / 128 : Nat) : Int)])) ∧ w.grownBy w' v.ownBlock ∧ Moved w v v' := by
  obtain ⟨i0, hi, hz0, hz1, hz2⟩ := info_parts Tryz.infoU8
  have hn1 : (128 : Int) ≤ (n : Int) := by omega
  have hn3 : (n : Int) < 16384 := by omega
  obtain ⟨r, er⟩ : ∃ r, r = n % 128 := ⟨_, rfl⟩
  obtain ⟨q, eq⟩ : ∃ q, q = n / 128 := ⟨_, rfl⟩
  rw [← er, ← eq]
  have hr : r < 128 := by omega
  have hq : q < 128 := by omega
  have hq' : (q : Int) < 128 := by omega
  have hand : bits .and .u64 (n : Int) 127 = (r : Int) := by
    rw [show (127 : Int) = ((127 : Nat) : Int) from rfl, u64_and_nat n 127 (by omega) (by omega), er, show (127 : Nat) = 2 ^ 7 - 1 from rfl, Nat.and_two_pow_sub_one_eq_mod]
  have hor : bits .or .u8 (r : Int) 128 = (r : Int) + 128 := by
    rw [show (128 : Int) = ((128 : Nat) : Int) from rfl, u8_or_nat r 128 (by omega) (by omega), Nat.or_comm, nat_join 7 128 r (by decide) (by omega)]
    omega
  have hshr : (n : Int) / 128 = (q : Int) := by omega
  have HO := Lib.hid hown
  clear hown er eq
  go_enter Tryz.func72, Tryz.ntmps72
  go_wp2_with (fail)
  refine wp_loop_rounds 2 ?_
  rw [rounds_succ]
  go_wp2_with (at_builtin; refine wpList_append_own2 _ rfl (.tmp 7) (.tmp 12) 30 rfl base 5 i0 (.int .u8 0) 1 1 Tryz.underlying30 hi hz0 hz1 hz2 rfl (by decide) _ _ _ rfl (HO.out.alloc _) ⟨w.heap.size, 0, none⟩ 1 1 (bytesV [(r : Int) + 128]) rfl rfl ?c1 ?c2 ?c3 ?c4 ?c5 ?_)
  case c1 => exact cells_add (Cells.new _ _ _ _ _ rfl)
  case c2 => exact bytesV_one _
  case c3 => unfold maxLen; omega
  case c4 => omega
  case c5 => simp only [World.size_alloc]; omega
  intro v1 w1 hown1 hgr1 hmv1
  have hsz1 : w.heap.size ≤ w1.heap.size := (grown_of_alloc hgr1).size
  have HO1 := Lib.hid hown1
  have HG1 := Lib.hid (grown_of_alloc hgr1)
  have HM1 := Lib.hid (moved_of_alloc hmv1)
  clear hown1 hgr1 hmv1
  go_wp2_with (fail)
  rw [rounds_succ]
  go_wp2_with (at_builtin; refine wpList_append_own2 _ rfl (.tmp 16) (.tmp 19) 30 rfl base 5 i0 (.int .u8 0) 1 1 Tryz.underlying30 hi hz0 hz1 hz2 rfl (by decide) _ _ _ rfl (HO1.out.alloc _) ⟨w1.heap.size, 0, none⟩ 1 1 (bytesV [(q : Int)]) rfl rfl ?d1 ?d2 ?d3 ?d4 ?d5 ?_)
  case d1 => exact cells_add (Cells.new _ _ _ _ _ rfl)
  case d2 => exact bytesV_one _
  case d3 => unfold maxLen; omega
  case d4 => omega
  case d5 => simp only [World.size_alloc]; omega
  intro v2 w2 hown2 hgr2 hmv2
  have HO2 := Lib.hid hown2
  have HG2 := Lib.hid (grown_moved HG1.out HM1.out (grown_of_alloc hgr2))
  have HM2 := Lib.hid (HM1.out.trans (moved_of_alloc hmv2) hsz1)
  clear hown2 hgr2 hmv2
  go_wp2_with (fail)
  go_ret
  exact ⟨_, rfl, by rw [bytesV_app]; simpa [bytesV] using HO2.out, HG2.out, HM2.out⟩

theorem seven_any (w : World) (base m n : Nat) (v : Value) (ys : List Int) (hown : w.ownsRow base 5 1 v m (bytesV ys)) (hm : m ≤ 1000000) (hn : n < 16384) (hbase : base ≤ w.heap.size) :
    Calls Tryz.prog 72 #[v, .int .u64 (n : Int)] w fun e w' => ∃ v', e = .returned v' ∧ w'.ownsRow base 5 1 v' (m + (sev n).length) (bytesV (ys ++ sev n)) ∧ w.grownBy w' v.ownBlock ∧ Moved w v v' := by
  rcases Nat.lt_or_ge n 128 with h | h
  · have := seven_one w base m n v ys hown hm h hbase
    unfold sev; rw [if_pos h]; exact this
  · have := seven_two w base m n v ys hown hm h hn hbase
    unfold sev; rw [if_neg (by omega)]; exact this

/-- doubled's answer. -/
def dbl (n : Int) : Nat := if n < 0 then (-2 * n - 1).toNat else (2 * n).toNat
theorem dbl_lt (n : Int) (h1 : -8000 ≤ n) (h2 : n ≤ 8000) : dbl n < 16384 := by unfold dbl; split <;> omega
theorem doubled_any (n : Int) (w : World) (h1 : -8000 ≤ n) (h2 : n ≤ 8000) : Calls Tryz.prog 73 #[.int .i64 n] w fun e w' => e = .returned (.int .u64 (dbl n : Int)) ∧ w = w' := by
  have HD := Lib.hid (show (n < 0 → (dbl n : Int) = -2 * n - 1) ∧ (0 ≤ n → (dbl n : Int) = 2 * n) by unfold dbl; constructor <;> intro h <;> split <;> omega)
  obtain ⟨d, ed⟩ : ∃ d, d = (dbl n : Int) := ⟨_, rfl⟩
  rw [← ed] at HD ⊢
  clear ed
  go_enter Tryz.func73, Tryz.ntmps73
  go_wp2_with (fail)
  · go_ret
    exact ⟨by have := HD.out.1 (by assumption); simp [this], rfl⟩
  · go_ret
    exact ⟨by have := HD.out.2 (by assumption); simp [this], rfl⟩
end Go.Proofs.YtnmgfnnkcenfeaaGreatDoor

/- byDevice, Check, in: each by its contract, at series of device d and metric m. -/
namespace Go.Proofs.YtnmgfnnkcenfeaaGreatDoor
open Go.RowKit

/-- A measurement as a value. -/
def smpV (x : Smp) : Value := .agg #[.string ⟨#[100]⟩, .string ⟨#[109]⟩, .int .i64 x.1, .int .i64 x.2]

set_option maxRecDepth 100000 in
set_option maxHeartbeats 1000000 in
theorem byDevice_any (x y : Smp) (w : World) : Calls Tryz.prog 31 #[smpV x, smpV y] w fun e w' => e = .returned (.int .i64 (cmpI x.1 y.1)) ∧ Below w.heap.size w w' := by
  obtain ⟨a, b⟩ := x
  obtain ⟨c, d⟩ := y
  unfold smpV
  go_enter Tryz.func31, Tryz.ntmps31
  go_wp2_with (fail)
  generalize hW : ((w.alloc (.cells #[.string { data := #[100] }, .string { data := #[109] }, .int .i64 a, .int .i64 b] 37)).alloc (.cells #[.string { data := #[100] }, .string { data := #[109] }, .int .i64 c, .int .i64 d] 37)) = W
  have hB : Below w.heap.size w W := by rw [← hW]; exact ((Below.refl _ _).alloc (Nat.le_refl _) _).alloc (by simp) _
  have hsz : w.heap.size ≤ W.heap.size := hB.size
  have hx : W.heap[w.heap.size]? = some (.cells #[.string { data := #[100] }, .string { data := #[109] }, .int .i64 a, .int .i64 b] 37) := by
    rw [← hW, Below.heap_alloc _ _ _ (by simp)]; exact heap_new w _
  have hy : W.heap[w.heap.size + 1]? = some (.cells #[.string { data := #[100] }, .string { data := #[109] }, .int .i64 c, .int .i64 d] 37) := by
    rw [← hW]; have := heap_new (w.alloc (.cells #[.string { data := #[100] }, .string { data := #[109] }, .int .i64 a, .int .i64 b] 37)) (.cells #[.string { data := #[100] }, .string { data := #[109] }, .int .i64 c, .int .i64 d] 37); simpa using this
  have x0 : W.cell? ⟨w.heap.size, 0, none⟩ = some (.string { data := #[100] }) := cell_of_blk hx rfl
  have x1 : W.cell? ⟨w.heap.size, 1, none⟩ = some (.string { data := #[109] }) := cell_of_blk hx rfl
  have x2 : W.cell? ⟨w.heap.size, 2, none⟩ = some (.int .i64 a) := cell_of_blk hx rfl
  have y0 : W.cell? ⟨w.heap.size + 1, 0, none⟩ = some (.string { data := #[100] }) := cell_of_blk hy rfl
  have y1 : W.cell? ⟨w.heap.size + 1, 1, none⟩ = some (.string { data := #[109] }) := cell_of_blk hy rfl
  have y2 : W.cell? ⟨w.heap.size + 1, 2, none⟩ = some (.int .i64 c) := cell_of_blk hy rfl
  clear hW hx hy
  refine wp_region_still_tail 15 (by kernel_rfl) (by kernel_rfl) ?_
  simp only [List.take_succ_cons, List.take_zero, List.drop_succ_cons, List.drop_zero]
  change wpStill _ _ W.drew _ _ _
  repeat still_step
  still_call (flip_ (scompare_same _ _))
  repeat still_step
  still_call (flip_ (scompare_same _ _))
  repeat still_step
  still_call (flip_ (compare_any _ _ _))
  try refine wpStill_nil ?_
  generalize hr : cmpI a c = r
  have hsz' : W.drew.heap.size = W.heap.size := rfl
  have HR := Lib.hid (show orI [0, 0, r] = r by unfold orI orI orI orI; by_cases h : r = 0 <;> simp [h])
  have HB := Lib.hid (show Below w.heap.size w (W.drew.alloc (.cells #[.int .i64 0, .int .i64 0, .int .i64 r] 3)) from (hB.drew).alloc hsz _)
  go_wp2_with (fail)
  have hcs : Cells (W.alloc (.cells #[.int .i64 0, .int .i64 0, .int .i64 r] 3)).drew W.heap.size 0 ([0, 0, r].map (Value.int .i64)) := Cells.new W #[.int .i64 0, .int .i64 0, .int .i64 r] 3 (0, 0) _ rfl
  refine (or_any [0, 0, r] 3 3 W.heap.size _ rfl (by omega) hcs).mono ?_
  rw [HR.out]
  rintro e w' ⟨rfl, rfl⟩
  go_wp2_with (fail)
  go_ret
  exact ⟨ret_int hr.symm, HB.out⟩

/-- What series.Check takes. -/
structure GoodS (l : List Smp) : Prop where
  len : l.length ≤ 5000
  at_ : ∀ (i : Nat) (x : Smp), l[i]? = some x → 0 ≤ x.1 ∧ x.1 < 345686400000
  val : ∀ (i : Nat) (x : Smp), l[i]? = some x → -1000000000 ≤ x.2 ∧ x.2 ≤ 1000000000
  rise : ∀ (i : Nat) (x y : Smp), l[i]? = some x → l[i + 1]? = some y → x.1 < y.1

theorem cmpI_gtS {a b : Int} (h : a < b) : cmpI b a = 1 := by unfold cmpI; rw [if_neg (by omega), if_pos h]

/-- The four cells of element k of a series that lies at ⟨b, o⟩. -/
theorem smp_cells {w : World} {b o : Nat} {l : List Smp} (h : Cells w b o (cellsOf l)) (k : Nat) (x : Smp) (hx : l[k]? = some x) :
    w.cell? ⟨b, o + k * 4, none⟩ = some (.string ⟨#[100]⟩) ∧ w.cell? ⟨b, o + k * 4 + 1, none⟩ = some (.string ⟨#[109]⟩) ∧ w.cell? ⟨b, o + k * 4 + 2, none⟩ = some (.int .i64 x.1) ∧ w.cell? ⟨b, o + k * 4 + 3, none⟩ = some (.int .i64 x.2) := by
  have h0 := h (k * 4 + 0) _ ((cellsOf_get l k x hx 0 (by omega)).trans rfl)
  have h1 := h (k * 4 + 1) _ ((cellsOf_get l k x hx 1 (by omega)).trans rfl)
  have h2 := h (k * 4 + 2) _ ((cellsOf_get l k x hx 2 (by omega)).trans rfl)
  have h3 := h (k * 4 + 3) _ ((cellsOf_get l k x hx 3 (by omega)).trans rfl)
  simp only [Nat.add_zero, ← Nat.add_assoc] at h0 h1 h2 h3
  exact ⟨h0, h1, h2, h3⟩

set_option maxRecDepth 100000 in
set_option maxHeartbeats 2000000 in
theorem check_some (l : List Smp) (n c b o : Nat) (w : World) (hn : l.length = n) (hg : GoodS l) (hb : b < w.heap.size) (hc : Cells w b o (cellsOf l)) :
    Calls Tryz.prog 28 #[.slice (some ⟨b, o, none⟩) n c] w fun e w' => e = .returned (.int .i64 0) ∧ Below w.heap.size w w' := by
  have h5 : n ≤ 5000 := by have := hg.len; omega
  have HC := Lib.hid hc
  clear hc
  go_enter Tryz.func28, Tryz.ntmps28
  go_wp2_with (fail)
  go_loopw [10] (fun i wr => ∃ k : Nat, k ≤ n ∧ i = .int .i64 k ∧ Below w.heap.size w wr) (fun i _ => n - (intOf i).toNat)
  case atStart => exact ⟨0, Nat.zero_le _, rfl, Below.refl _ _⟩
  case round =>
    obtain ⟨k, hk, rfl, hbl⟩ := hrel
    have hsz := hbl.size
    by_cases hlt : k < n
    · obtain ⟨x, hx⟩ : ∃ x, l[k]? = some x := ⟨_, List.getElem?_eq_getElem (by omega)⟩
      have hcr : Cells wr b o (cellsOf l) := HC.out.keep (hbl.block b hb)
      obtain ⟨c0, c1, c2, c3⟩ := smp_cells hcr k x hx
      have hat := hg.at_ k x hx
      have hval := hg.val k x hx
      have HBL := Lib.hid hbl
      have HX := Lib.hid hx
      have HG := Lib.hid hg
      obtain ⟨a, v⟩ := x
      simp only at c2 c3 hat hval
      clear hbl hcr hx hg
      go_wp2_with (first | (go_at_call 39; refine (key_yes _ _ (by kernel_rfl)).mono ?_; rintro e w' ⟨rfl, rfl⟩) | (go_at_call 49; refine (moment_yes _ _ (by omega) (by omega)).mono ?_; rintro e w' ⟨rfl, rfl⟩) | (go_at_call 34; refine (out_no _ _ _ _ (by omega) (by omega)).mono ?_; rintro e w' ⟨rfl, rfl⟩))
      have HB2 := Lib.hid ((HBL.out).alloc hsz (.cells #[.string ⟨#[100]⟩, .string ⟨#[109]⟩, .int .i64 a, .int .i64 v] 37))
      rcases Nat.eq_zero_or_pos k with hk0 | hk0
      · have hd : decide ((0 : Int) < (k : Int)) = false := by simp; omega
        go_quiet (fail)
        go_wp2_with (fail)
        go_roundw
        case rel => exact ⟨k + 1, by omega, by go_num, below_drewN HB2.out _⟩
        case measure => simp [intOf]; omega
      · have hd : decide ((0 : Int) < (k : Int)) = true := by simp; omega
        obtain ⟨j, rfl⟩ : ∃ j, k = j + 1 := ⟨k - 1, by omega⟩
        obtain ⟨y, hy⟩ : ∃ y, l[j]? = some y := ⟨_, List.getElem?_eq_getElem (by omega)⟩
        have hcr : Cells wr b o (cellsOf l) := HC.out.keep (HBL.out.block b hb)
        obtain ⟨d0, d1, d2, d3⟩ := smp_cells hcr j y hy
        have HLT := Lib.hid (HG.out.rise j y (a, v) hy HX.out)
        obtain ⟨a', v'⟩ := y
        simp only at d2 d3
        have hblt : b < wr.heap.size := by omega
        have hw : IntKind.i64.wrap (j : Int) = (j : Int) := by rw [IntKind.wrap_i64]; omega
        have hjn : (j : Int) < (n : Int) := by omega
        have hjn' : j < n := by omega
        clear hcr hy
        refine wp_region_still_tail 9 (by kernel_rfl) (by kernel_rfl) ?_
        simp only [List.take_succ_cons, List.take_zero, List.drop_succ_cons, List.drop_zero]
        change wpStill _ _ (World.drew _) _ _ _
        repeat still_step
        refine wpStill_nil ?_
        have HC1 := Lib.hid (cmpI_gtS HLT.out)
        go_wp2_with (fail)
        refine (byDevice_any (a, v) (a', v') _).mono ?_
        rintro e w' ⟨rfl, hbw⟩
        rw [HC1.out]
        have HB3 := Lib.hid (show Below w.heap.size w w' from (Below.drew HB2.out).trans (hbw.mono (by simp; omega)))
        clear hbw
        go_wp2_with (fail)
        go_roundw
        case rel => exact ⟨j + 1 + 1, by omega, by go_num, HB3.out⟩
        case measure => simp [intOf]; omega
    · go_wp2_with (fail)
      go_ret
      exact ⟨rfl, hbl⟩
end Go.Proofs.YtnmgfnnkcenfeaaGreatDoor

/- CheckSeries, fault, in: each by its contract. -/
namespace Go.Proofs.YtnmgfnnkcenfeaaGreatDoor
open Go.RowKit

set_option maxRecDepth 100000 in
set_option maxHeartbeats 1000000 in
theorem checkSeries1_any (x y : Smp) (l : List Smp) (n c b o q : Nat) (w : World) (hn : 0 < n) (hq : w.cell? ⟨q, 0, none⟩ = some (.slice (some ⟨b, o, none⟩) n c)) (hl : l[0]? = some y) (hc : Cells w b o (cellsOf l)) :
    Calls Tryz.prog 69 #[smpV x, .pointer (some ⟨q, 0, none⟩)] w fun e w' => e = .returned (.bool false) ∧ Below w.heap.size w w' := by
  obtain ⟨a, v⟩ := x
  obtain ⟨c0, c1, _, _⟩ := smp_cells hc 0 y hl
  simp only [Nat.zero_mul, Nat.add_zero] at c0 c1
  have hb := World.block_lt_of_cell? w _ c0
  have hq' := World.block_lt_of_cell? w _ hq
  have hn' : (0 : Int) < (n : Int) := by omega
  unfold smpV
  clear hc hl
  simp only at hb hq'
  go_enter Tryz.func69, Tryz.ntmps69
  go_wp2_with (fail)
  go_quiet (fail)
  go_wp2_with (fail)
  go_ret
  exact ⟨rfl, below_drewN ((Below.refl _ _).alloc (Nat.le_refl _) _) _⟩

set_option maxRecDepth 100000 in
set_option maxHeartbeats 1000000 in
/-- slices.IndexFunc with a function that says no everywhere. -/
theorem indexFunc_no (g : Nat) (cb : Array Value) (l : List Smp) (n c b o : Nat) (w : World) (hn : l.length = n) (hn5 : n ≤ 5000) (hb : b < w.heap.size) (hc : Cells w b o (cellsOf l)) (hg : g = 69)
    (hp : ∀ (k : Nat) (x : Smp) (w' : World), l[k]? = some x → Below w.heap.size w w' → Calls Tryz.prog g (#[smpV x] ++ cb) w' fun e w'' => e = .returned (.bool false) ∧ Below w'.heap.size w' w'') :
    Calls Tryz.prog 101 #[.slice (some ⟨b, o, none⟩) n c, .func (.func g) #[] cb] w fun e w' => e = .returned (.int .i64 (-1)) ∧ Below w.heap.size w w' := by
  have HC := Lib.hid hc
  have HP := Lib.hid hp
  clear hc hp
  subst hg
  go_enter Tryz.func101, Tryz.ntmps101
  go_wp2_with (fail)
  go_loopw [8] (fun i wr => ∃ k : Nat, k ≤ n ∧ i = .int .i64 k ∧ Below w.heap.size w wr) (fun i _ => n - (intOf i).toNat)
  case atStart => exact ⟨0, Nat.zero_le _, rfl, Below.refl _ _⟩
  case round =>
    obtain ⟨k, hk, rfl, hbl⟩ := hrel
    have hsz := hbl.size
    by_cases hlt : k < n
    · obtain ⟨x, hx⟩ : ∃ x, l[k]? = some x := ⟨_, List.getElem?_eq_getElem (by omega)⟩
      have hcr : Cells wr b o (cellsOf l) := HC.out.keep (hbl.block b hb)
      obtain ⟨c0, c1, c2, c3⟩ := smp_cells hcr k x hx
      have HBL := Lib.hid hbl
      have HCALL := Lib.hid (HP.out k x wr hx hbl)
      obtain ⟨a, v⟩ := x
      simp only at c2 c3
      clear hbl hcr hx
      go_wp2_with (fail)
      refine HCALL.out.mono ?_
      rintro e w' ⟨rfl, hbw⟩
      have HB3 := Lib.hid (show Below w.heap.size w w' from (HBL.out).trans (hbw.mono hsz))
      clear hbw
      go_wp2_with (fail)
      go_roundw
      case rel => exact ⟨k + 1, by omega, by go_num, HB3.out⟩
      case measure => simp [intOf]; omega
    · have HBL := Lib.hid hbl
      clear hbl
      go_wp2_with (fail)
      go_ret
      exact ⟨rfl, HBL.out⟩

theorem check_empty (A : Option Addr) (c : Nat) (w : World) : Calls Tryz.prog 28 #[.slice A 0 c] w fun e w' => e = .returned (.int .i64 0) ∧ Below w.heap.size w w' := by
  go_enter Tryz.func28, Tryz.ntmps28
  go_wp2_with (fail)
  refine wp_loop_rounds 1 ?_
  rw [rounds_succ]
  go_wp2_with (fail)
  go_ret
  exact ⟨rfl, Below.refl _ _⟩

theorem indexFunc_empty (f : Value) (A : Option Addr) (c : Nat) (w : World) : Calls Tryz.prog 101 #[.slice A 0 c, f] w fun e w' => e = .returned (.int .i64 (-1)) ∧ Below w.heap.size w w' := by
  go_enter Tryz.func101, Tryz.ntmps101
  go_wp2_with (fail)
  refine wp_loop_rounds 1 ?_
  rw [rounds_succ]
  go_wp2_with (fail)
  go_ret
  exact ⟨rfl, Below.refl _ _⟩

theorem Row.pos {w : World} {B : Nat} {A : Option Addr} {l : List Smp} (h : Row w B A (cellsOf l)) (hl : 0 < l.length) : ∃ b o, A = some ⟨b, o, none⟩ ∧ b < B ∧ Cells w b o (cellsOf l) := by
  rcases h with h | h
  · have := cellsOf_length l; rw [h] at this; simp at this; omega
  · exact h

/-- Check, of a series that is right. -/
theorem check_any (l : List Smp) (n c : Nat) (A : Option Addr) (w : World) (hn : l.length = n) (hg : GoodS l) (hr : Row w w.heap.size A (cellsOf l)) :
    Calls Tryz.prog 28 #[.slice A n c] w fun e w' => e = .returned (.int .i64 0) ∧ Below w.heap.size w w' := by
  rcases Nat.eq_zero_or_pos n with h0 | h0
  · rw [h0]; exact check_empty A c w
  · obtain ⟨b, o, rfl, hb, hc⟩ := hr.pos (by omega)
    exact check_some l n c b o w hn hg hb hc

/-- The closure of CheckSeries over a list. -/
def chk1 (q : Nat) : Value := .func (.func 69) #[] #[.pointer (some ⟨q, 0, none⟩)]

theorem indexFunc_chk1 (l : List Smp) (n c q : Nat) (A : Option Addr) (w : World) (hn : l.length = n) (hn5 : n ≤ 5000) (hr : Row w w.heap.size A (cellsOf l)) (hq : w.cell? ⟨q, 0, none⟩ = some (.slice A n c)) :
    Calls Tryz.prog 101 #[.slice A n c, chk1 q] w fun e w' => e = .returned (.int .i64 (-1)) ∧ Below w.heap.size w w' := by
  rcases Nat.eq_zero_or_pos n with h0 | h0
  · rw [h0]; exact indexFunc_empty _ A c w
  · obtain ⟨b, o, rfl, hb, hc⟩ := hr.pos (by omega)
    have hqb := World.block_lt_of_cell? w _ hq
    refine indexFunc_no 69 _ l n c b o w hn hn5 hb hc rfl ?_
    intro k x w' hx hbw
    obtain ⟨y, hy⟩ : ∃ y, l[0]? = some y := ⟨_, List.getElem?_eq_getElem (by omega)⟩
    exact checkSeries1_any x y l n c b o q w' h0 ((hbw.cell (p := ⟨q, 0, none⟩) hqb).trans hq) hy (hc.keep (hbw.block b hb))

theorem containsFunc_chk1 (l : List Smp) (n c q : Nat) (A : Option Addr) (w : World) (hn : l.length = n) (hn5 : n ≤ 5000) (hr : Row w w.heap.size A (cellsOf l)) (hq : w.cell? ⟨q, 0, none⟩ = some (.slice A n c)) :
    Calls Tryz.prog 68 #[.slice A n c, chk1 q] w fun e w' => e = .returned (.bool false) ∧ Below w.heap.size w w' := by
  have H := Lib.hid (indexFunc_chk1 l n c q A w hn hn5 hr hq)
  clear hr hq
  unfold chk1 at H ⊢
  go_enter Tryz.func68, Tryz.ntmps68
  go_wp2_with (fail)
  refine H.out.mono ?_
  rintro e w' ⟨rfl, hbw⟩
  have HB := Lib.hid hbw
  clear hbw
  go_wp2_with (fail)
  go_ret
  exact ⟨rfl, HB.out⟩

set_option maxRecDepth 100000 in
set_option maxHeartbeats 1000000 in
theorem checkSeries_any (l : List Smp) (n c : Nat) (A : Option Addr) (w : World) (hn : l.length = n) (hg : GoodS l) (hr : Row w w.heap.size A (cellsOf l)) :
    Calls Tryz.prog 33 #[.slice A n c] w fun e w' => e = .returned (.int .i64 0) ∧ Below w.heap.size w w' := by
  have hn5 : n ≤ 5000 := by have := hg.len; omega
  have HR := Lib.hid hr
  have HG := Lib.hid hg
  have HN := Lib.hid hn
  clear hr hg hn
  go_enter Tryz.func33, Tryz.ntmps33
  go_wp2_with (fail)
  refine (check_any l n c A _ HN.out HG.out ((HR.out.keep fun b hb => Below.heap_alloc _ _ b hb).mono (by simp))).mono ?_
  rintro e w1 ⟨rfl, hb1⟩
  have hs1 := hb1.size
  simp only [World.size_alloc] at hs1
  have hqc := (hb1.cell (p := ⟨w.heap.size, 0, none⟩) (by simp)).trans (cell_of_blk (heap_new w (.cells #[.slice A n c] 26)) rfl)
  have HB1 := Lib.hid (show Below w.heap.size w w1 from ((Below.refl _ _).alloc (Nat.le_refl _) _).trans (hb1.mono (by simp)))
  clear hb1
  go_wp2_with (fail)
  refine (containsFunc_chk1 l n c w.heap.size A w1 HN.out hn5 ((HR.out.below HB1.out).mono (by omega)) hqc).mono ?_
  rintro e w2 ⟨rfl, hb2⟩
  have HB2 := Lib.hid (show Below w.heap.size w w2 from HB1.out.trans (hb2.mono (by omega)))
  clear hb2
  go_wp2_with (fail)
  go_ret
  exact ⟨rfl, HB2.out⟩

/-- A window as a value. -/
def winV (a b : Int) : Value := .agg #[.int .i64 a, .int .i64 b]

end Go.Proofs.YtnmgfnnkcenfeaaGreatDoor

/- pack and Pack: a series in sevens. -/
namespace Go.Proofs.YtnmgfnnkcenfeaaGreatDoor
open Go.RowKit

/-- What pack writes of the measurements behind those that led to at, by and val. -/
def packS : Int → Int → Int → Bool → List Smp → List Int
  | _, _, _, _, [] => []
  | at_, by_, val, first, x :: l => sev (dbl (x.1 - at_ - by_)) ++ sev (dbl (x.2 - val)) ++ packS x.1 (if first then by_ else x.1 - at_) x.2 false l
def packL (l : List Smp) : List Int := sev l.length ++ packS 0 0 0 true l
/-- No step is greater than two sevens. -/
def StepsOk : Int → Int → Int → Bool → List Smp → Prop
  | _, _, _, _, [] => True
  | at_, by_, val, first, x :: l => -8000 ≤ x.1 - at_ - by_ ∧ x.1 - at_ - by_ ≤ 8000 ∧ -8000 ≤ x.2 - val ∧ x.2 - val ≤ 8000 ∧ StepsOk x.1 (if first then by_ else x.1 - at_) x.2 false l

theorem sev_len2 (n : Nat) : 1 ≤ (sev n).length ∧ (sev n).length ≤ 2 := by unfold sev; split <;> simp

set_option maxRecDepth 100000 in
set_option maxHeartbeats 4000000 in
theorem pack_some (l : List Smp) (n c b o : Nat) (w : World) (hn : l.length = n) (hg : GoodS l) (hb : b < w.heap.size) (hc : Cells w b o (cellsOf l)) (hs : StepsOk 0 0 0 true l) :
    Calls Tryz.prog 50 #[.slice (some ⟨b, o, none⟩) n c] w fun e w' => ∃ v, e = .returned v ∧ w'.ownsRow w.heap.size 5 1 v (packL l).length (bytesV (packL l)) ∧ Below w.heap.size w w' := by
  have h5 : n ≤ 5000 := by have := hg.len; omega
  have HC := Lib.hid hc
  have HG := Lib.hid hg
  have HS := Lib.hid hs
  have HN := Lib.hid hn
  clear hc hg hs hn
  go_enter Tryz.func50, Tryz.ntmps50
  go_wp2_with (fail)
  refine (seven_any w w.heap.size 0 n _ [] (World.ownsRow_nil _ _ _ _) (by omega) (by omega) (Nat.le_refl _)).mono ?_
  rintro e w1 ⟨v1, rfl, hown1, hgr1, hmv1⟩
  have HO1 := Lib.hid hown1
  have HB1 := Lib.hid ((Below.refl w.heap.size w).grown hgr1 (Nat.le_refl _) (fun k hk => by simp [Value.ownBlock] at hk))
  clear hown1 hgr1 hmv1
  go_wp2_with (fail)
  go_loopw [3, 4, 5, 6, 16] (fun v a d q i wr => ∃ (k : Nat) (at_ by_ val : Int) (xs : List Int), k ≤ n ∧ i = .int .i64 k ∧ a = .int .i64 at_ ∧ d = .int .i64 by_ ∧ q = .int .i64 val ∧
      wr.ownsRow w.heap.size 5 1 v xs.length (bytesV xs) ∧ Hid (xs ++ packS at_ by_ val (k == 0) (l.drop k) = packL l ∧ StepsOk at_ by_ val (k == 0) (l.drop k)) ∧ Below w.heap.size w wr ∧ xs.length ≤ 4 * k + 2 ∧
      (0 ≤ at_ ∧ at_ < 345686400000) ∧ (-345686400000 < by_ ∧ by_ < 345686400000) ∧ (-1000000000 ≤ val ∧ val ≤ 1000000000)) (fun _ _ _ _ i _ => n - (intOf i).toNat)
  case atStart =>
    refine ⟨0, 0, 0, 0, sev n, Nat.zero_le _, rfl, rfl, rfl, rfl, by simpa using HO1.out, ?_, HB1.out, by have := sev_len2 n; omega, by omega, by omega, by omega⟩
    exact ⟨by simp [packL, HN.out], by simpa using HS.out⟩
  case round =>
    obtain ⟨k, at_, by_, val, xs, hk, rfl, rfl, rfl, rfl, hown, hrest, hbl, hlen, ⟨ha1, ha2⟩, ⟨hy1, hy2⟩, ⟨hv1, hv2⟩⟩ := hrel
    have hsz := hbl.size
    by_cases hlt : k < n
    · have hkl : k < l.length := by have := HN.out; omega
      obtain ⟨x, hx⟩ : ∃ x, l[k]? = some x := ⟨_, List.getElem?_eq_getElem hkl⟩
      have hdr : l.drop k = x :: l.drop (k + 1) := by
        rw [List.drop_eq_getElem_cons hkl]; congr 1
        rw [List.getElem?_eq_getElem hkl] at hx; injection hx
      have hcr : Cells wr b o (cellsOf l) := HC.out.keep (hbl.block b hb)
      obtain ⟨c0, c1, c2, c3⟩ := smp_cells hcr k x hx
      have hat := HG.out.at_ k x hx
      have hval := HG.out.val k x hx
      obtain ⟨a, v⟩ := x
      simp only at c2 c3 hat hval
      have hR := hrest.out
      rw [hdr] at hR
      simp only [packS, StepsOk] at hR
      obtain ⟨hR1, hs1, hs2, hs3, hs4, hR2⟩ := hR
      have HR1 := Lib.hid hR1
      have HR2 := Lib.hid hR2
      have HBL := Lib.hid hbl
      have HOWN := Lib.hid hown
      have HL1 := sev_len2 (dbl (a - at_ - by_))
      have HL2 := sev_len2 (dbl (v - val))
      have hbox := heap_new wr (.cells #[.string ⟨#[100]⟩, .string ⟨#[109]⟩, .int .i64 a, .int .i64 v] 37)
      have HBOX := Lib.hid hbox
      clear hbl hcr hx hdr hrest hown hR1 hR2 hbox
      go_wp2_with (go_at_call 73; refine (doubled_any _ _ (by omega) (by omega)).mono ?_; rintro e w' ⟨rfl, rfl⟩)
      refine (seven_any _ w.heap.size xs.length (dbl (a - at_ - by_)) u3 xs (HOWN.out.alloc _) (by omega) (dbl_lt _ hs1 hs2) (by simp; omega)).mono ?_
      rintro e w2 ⟨v2, rfl, hown2, hgr2, hmv2⟩
      have hbox2 := (hgr2.block wr.heap.size (by simp) (own_ne (HOWN.out.alloc _) HBOX.out (by decide))).trans HBOX.out
      have b2 := cell_of_blk (j := 2) hbox2 rfl
      have b3 := cell_of_blk (j := 3) hbox2 rfl
      have hlt2 : wr.heap.size < w2.heap.size := by have := hgr2.size; simp at this; omega
      have HB2 := Lib.hid ((HBL.out.alloc hsz _).grown hgr2 (by simp; omega) (fun g hg => (HOWN.out.lt g hg).1))
      have HO2 := Lib.hid hown2
      have HBOX2 := Lib.hid hbox2
      clear hown2 hgr2 hmv2 hbox2
      go_wp2_with (go_at_call 73; refine (doubled_any _ _ (by omega) (by omega)).mono ?_; rintro e w' ⟨rfl, rfl⟩)
      refine (seven_any _ w.heap.size _ (dbl (v - val)) v2 _ HO2.out (by omega) (dbl_lt _ hs3 hs4) (by omega)).mono ?_
      rintro e w3 ⟨v3, rfl, hown3, hgr3, hmv3⟩
      have hbox3 := (hgr3.block wr.heap.size hlt2 (own_ne HO2.out HBOX2.out (by decide))).trans HBOX2.out
      have d2 := cell_of_blk (j := 2) hbox3 rfl
      have d3 := cell_of_blk (j := 3) hbox3 rfl
      have hlt3 : wr.heap.size < w3.heap.size := by have := hgr3.size; omega
      have HB3 := Lib.hid (HB2.out.grown hgr3 (by omega) (fun g hg => (HO2.out.lt g hg).1))
      have HO3 := Lib.hid (show w3.ownsRow w.heap.size 5 1 v3 (xs ++ (sev (dbl (a - at_ - by_)) ++ sev (dbl (v - val)))).length (bytesV (xs ++ (sev (dbl (a - at_ - by_)) ++ sev (dbl (v - val))))) by
        rw [List.length_append, List.length_append, ← Nat.add_assoc, ← List.append_assoc]; exact hown3)
      clear hown3 hgr3 hmv3 hbox3 b2 b3
      go_wp2_with (fail)
      · have hk0 : 0 < k := by omega
        go_quiet (fail)
        go_wp2_with (fail)
        go_roundw
        case rel =>
          refine ⟨k + 1, a, a - at_, v, _, by omega, by go_num, rfl, rfl, rfl, (HO3.out), ?_, below_drewN HB3.out _, by simp only [List.length_append]; omega, ⟨by omega, by omega⟩, ⟨by omega, by omega⟩, by omega, by omega⟩
          have e1 : (k == 0) = false := by simp; omega
          have := HR1.out
          have h2 := HR2.out
          rw [e1] at this h2
          exact ⟨by simpa [List.append_assoc] using this, by simpa using h2⟩
        case measure => simp [intOf]; omega
      · have hk0 : k = 0 := by omega
        go_quiet (fail)
        go_wp2_with (fail)
        go_roundw
        case rel =>
          refine ⟨k + 1, a, by_, v, _, by omega, by go_num, rfl, rfl, rfl, (HO3.out), ?_, below_drewN HB3.out _, by simp only [List.length_append]; omega, ⟨by omega, by omega⟩, ⟨by omega, by omega⟩, by omega, by omega⟩
          have := HR1.out
          have h2 := HR2.out
          subst hk0
          exact ⟨by simpa [List.append_assoc] using this, by simpa using h2⟩
        case measure => simp [intOf]; omega
    · have HBL := Lib.hid hbl
      have HOWN := Lib.hid hown
      have HE := Lib.hid (show xs = packL l by
        have := hrest.out.1
        rw [List.drop_of_length_le (by have := HN.out; omega)] at this
        simpa [packS] using this)
      clear hbl hown hrest
      go_wp2_with (fail)
      go_ret
      exact ⟨_, rfl, by rw [← HE.out]; exact HOWN.out, HBL.out⟩

theorem pack_empty (A : Option Addr) (c : Nat) (w : World) : Calls Tryz.prog 50 #[.slice A 0 c] w fun e w' => ∃ v, e = .returned v ∧ w'.ownsRow w.heap.size 5 1 v (packL []).length (bytesV (packL [])) ∧ Below w.heap.size w w' := by
  go_enter Tryz.func50, Tryz.ntmps50
  go_wp2_with (fail)
  refine (seven_any w w.heap.size 0 0 _ [] (World.ownsRow_nil _ _ _ _) (by omega) (by omega) (Nat.le_refl _)).mono ?_
  rintro e w1 ⟨v1, rfl, hown1, hgr1, hmv1⟩
  have HO1 := Lib.hid hown1
  have HB1 := Lib.hid ((Below.refl w.heap.size w).grown hgr1 (Nat.le_refl _) (fun k hk => by simp [Value.ownBlock] at hk))
  clear hown1 hgr1 hmv1
  go_wp2_with (fail)
  refine wp_loop_rounds 1 ?_
  rw [rounds_succ]
  go_wp2_with (fail)
  go_ret
  exact ⟨_, rfl, HO1.out, HB1.out⟩

theorem packI_any (l : List Smp) (n c : Nat) (A : Option Addr) (w : World) (hn : l.length = n) (hg : GoodS l) (hr : Row w w.heap.size A (cellsOf l)) (hs : StepsOk 0 0 0 true l) :
    Calls Tryz.prog 50 #[.slice A n c] w fun e w' => ∃ v, e = .returned v ∧ w'.ownsRow w.heap.size 5 1 v (packL l).length (bytesV (packL l)) ∧ Below w.heap.size w w' := by
  rcases Nat.eq_zero_or_pos n with h0 | h0
  · rw [h0]
    obtain rfl : l = [] := List.eq_nil_of_length_eq_zero (by omega)
    exact pack_empty A c w
  · obtain ⟨b, o, rfl, hb, hc⟩ := hr.pos (by omega)
    exact pack_some l n c b o w hn hg hb hc hs

set_option maxHeartbeats 1000000 in
theorem pack_any (l : List Smp) (n c : Nat) (A : Option Addr) (w : World) (hn : l.length = n) (hg : GoodS l) (hr : Row w w.heap.size A (cellsOf l)) (hs : StepsOk 0 0 0 true l) :
    Calls Tryz.prog 52 #[.slice A n c] w fun e w' => ∃ v, e = .returned (.tuple #[v, .int .i64 0]) ∧ w'.ownsRow w.heap.size 5 1 v (packL l).length (bytesV (packL l)) ∧ Below w.heap.size w w' := by
  have HR := Lib.hid hr
  have HG := Lib.hid hg
  have HN := Lib.hid hn
  have HS := Lib.hid hs
  clear hr hg hn hs
  go_enter Tryz.func52, Tryz.ntmps52
  go_wp2_with (fail)
  refine (checkSeries_any l n c A _ HN.out HG.out HR.out).mono ?_
  rintro e w1 ⟨rfl, hb1⟩
  have hs1 := hb1.size
  have HB1 := Lib.hid hb1
  clear hb1
  go_wp2_with (fail)
  refine (packI_any l n c A _ HN.out HG.out ((HR.out.below HB1.out).mono hs1) HS.out).mono ?_
  rintro e w2 ⟨v2, rfl, hown2, hb2⟩
  have HO2 := Lib.hid hown2
  have HB2 := Lib.hid (HB1.out.trans (hb2.mono hs1))
  clear hown2 hb2
  go_wp2_with (fail)
  go_ret2
  exact ⟨_, rfl, own_mono HO2.out (by omega), HB2.out⟩
end Go.Proofs.YtnmgfnnkcenfeaaGreatDoor

/- slices.Equal of bytes and of buckets. -/
namespace Go.Proofs.YtnmgfnnkcenfeaaGreatDoor
open Go.RowKit

set_option maxHeartbeats 1000000 in
theorem eqBytes_some (xs : List Int) (n c b o c' b' o' : Nat) (w : World) (hn : xs.length = n) (hn2 : n ≤ 1000000) (hb : b < w.heap.size) (hb' : b' < w.heap.size) (hc : Cells w b o (bytesV xs)) (hc' : Cells w b' o' (bytesV xs)) :
    Calls Tryz.prog 18 #[.slice (some ⟨b, o, none⟩) n c, .slice (some ⟨b', o', none⟩) n c'] w fun e w' => e = .returned (.bool true) ∧ Below w.heap.size w w' := by
  have HC := Lib.hid hc
  have HC' := Lib.hid hc'
  have HN := Lib.hid hn
  clear hc hc' hn
  go_enter Tryz.func18, Tryz.ntmps18
  go_wp2_with (fail)
  go_loopw [13] (fun i wr => ∃ k : Nat, k ≤ n ∧ i = .int .i64 k ∧ Below w.heap.size w wr) (fun i _ => n - (intOf i).toNat)
  case atStart => exact ⟨0, Nat.zero_le _, rfl, Below.refl _ _⟩
  case round =>
    obtain ⟨k, hk, rfl, hbl⟩ := hrel
    by_cases hlt : k < n
    · have hkx : k < xs.length := by have := HN.out; omega
      obtain ⟨x, hx⟩ : ∃ x, xs[k]? = some x := ⟨_, List.getElem?_eq_getElem hkx⟩
      have d1 := (HC.out.keep (hbl.block b hb)) k (.int .u8 x) (by simp [bytesV, hx])
      have d2 := (HC'.out.keep (hbl.block b' hb')) k (.int .u8 x) (by simp [bytesV, hx])
      have HBL := Lib.hid hbl
      have hlt' : (k : Int) < (n : Int) := by omega
      clear hbl hx hkx
      go_wp2_with (fail)
      go_quiet (fail)
      go_wp2_with (fail)
      go_roundw
      case rel => exact ⟨k + 1, by omega, by go_num, below_drewN HBL.out _⟩
      case measure => simp [intOf]; omega
    · have HBL := Lib.hid hbl
      clear hbl
      go_wp2_with (fail)
      go_ret
      exact ⟨rfl, HBL.out⟩
theorem eqBytes_empty (A A' : Option Addr) (c c' : Nat) (w : World) : Calls Tryz.prog 18 #[.slice A 0 c, .slice A' 0 c'] w fun e w' => e = .returned (.bool true) ∧ Below w.heap.size w w' := by
  go_enter Tryz.func18, Tryz.ntmps18
  go_wp2_with (fail)
  refine wp_loop_rounds 1 ?_
  rw [rounds_succ]
  go_wp2_with (fail)
  go_ret
  exact ⟨rfl, Below.refl _ _⟩
theorem eqBytes_any (xs : List Int) (n c c' : Nat) (A A' : Option Addr) (w : World) (hn : xs.length = n) (hn2 : n ≤ 1000000) (hr : Row w w.heap.size A (bytesV xs)) (hr' : Row w w.heap.size A' (bytesV xs)) :
    Calls Tryz.prog 18 #[.slice A n c, .slice A' n c'] w fun e w' => e = .returned (.bool true) ∧ Below w.heap.size w w' := by
  rcases hr with h | ⟨b, o, rfl, hb, hc⟩
  · have : n = 0 := by rw [← hn]; have := congrArg List.length h; simpa [bytesV] using this
    rw [this]; exact eqBytes_empty A A' c c' w
  · rcases hr' with h | ⟨b', o', rfl, hb', hc'⟩
    · have : n = 0 := by rw [← hn]; have := congrArg List.length h; simpa [bytesV] using this
      rw [this]; exact eqBytes_empty _ _ c c' w
    · exact eqBytes_some xs n c b o c' b' o' w hn hn2 hb hb' hc hc'
end Go.Proofs.YtnmgfnnkcenfeaaGreatDoor

/- base.First by its contract. -/
namespace Go.Proofs.YtnmgfnnkcenfeaaGreatDoor
open Go.RowKit

theorem first_ok (n c g : Nat) (w : World) (hn : n ≤ 1000) (hc : Cells w g 0 (List.replicate n (.int .i64 0))) :
    Calls Tryz.prog 27 #[.slice (some ⟨g, 0, none⟩) n c] w fun e w' => e = .returned (.int .i64 0) ∧ w = w' := by
  have HC := Lib.hid hc
  clear hc
  go_enter Tryz.func27, Tryz.ntmps27
  go_wp2
  go_loop [7] (fun i => ∃ k : Nat, k ≤ n ∧ i = .int .i64 k) (fun i => n - (intOf i).toNat)
  case atStart => exact ⟨0, Nat.zero_le _, rfl⟩
  case round =>
    obtain ⟨k, hk, rfl⟩ := hrel
    by_cases hlt : k < n
    · have hcell := HC.out k (.int .i64 0) (by simp [hlt])
      simp only [Nat.zero_add] at hcell
      go_wp2
      go_round
      case rel => exact ⟨k + 1, by omega, by go_num⟩
      case measure => simp [intOf]; omega
    · go_wp2
      go_ret
      exact ⟨rfl, rfl⟩
end Go.Proofs.YtnmgfnnkcenfeaaGreatDoor

/- base.First and fleetkeep2.errs without an error; strings.Cut, base.Dotted at a name of one letter; twin.valueFault at a flag. -/
namespace Go.Proofs.YtnmgfnnkcenfeaaGreatDoor
open Go.RowKit

theorem errs_ok (n c g : Nat) (w : World) (hn : n ≤ 1000) (hc : Cells w g 0 (List.replicate n (.int .i64 0))) :
    Calls Tryz.prog 56 #[.slice (some ⟨g, 0, none⟩) n c] w fun e w' => e = .returned (.int .i64 0) ∧ w = w' := by
  have HC := Lib.hid hc
  clear hc
  go_enter Tryz.func56, Tryz.ntmps56
  go_wp2
  go_loop [7] (fun i => ∃ k : Nat, k ≤ n ∧ i = .int .i64 k) (fun i => n - (intOf i).toNat)
  case atStart => exact ⟨0, Nat.zero_le _, rfl⟩
  case round =>
    obtain ⟨k, hk, rfl⟩ := hrel
    by_cases hlt : k < n
    · have hcell := HC.out k (.int .i64 0) (by simp [hlt])
      simp only [Nat.zero_add] at hcell
      go_wp2
      go_round
      case rel => exact ⟨k + 1, by omega, by go_num⟩
      case measure => simp [intOf]; omega
    · go_wp2
      go_ret
      exact ⟨rfl, rfl⟩

theorem lindex_dot (s : ByteArray) (i : Int) (w : World) (hne : ([46] == s.toList) = false) (hi : Lib.indexByte s.data.toList 46 = i) :
    Calls Tryz.prog 168 #[.string s, .string ⟨#[46]⟩] w fun e w' => e = .returned (.int .i64 i) ∧ w = w' := by
  have H := Lib.hid hi
  clear hi
  go_enter Tryz.func168, Tryz.ntmps168
  go_wp2_with (go_at_call 185; refine (lindexByte_any _ _ _).mono ?_; rintro e w' ⟨rfl, rfl⟩)
  go_ret
  exact ⟨ret_int H.out, rfl⟩
/-- Cut of the name a at a point. -/
theorem cut_a (w : World) : Calls Tryz.prog 152 #[.string ⟨#[97]⟩, .string ⟨#[46]⟩] w fun e w' => e = .returned (.tuple #[.string ⟨#[97]⟩, .string ⟨#[]⟩, .bool false]) ∧ w = w' := by
  have H := lindex_dot ⟨#[97]⟩ (-1) w (by rw [Lib.toList_data]; decide) (by decide)
  go_enter Tryz.func152, Tryz.ntmps152
  go_wp2_with (fail)
  go_enter Tryz.func173, Tryz.ntmps173
  go_wp2_with (go_at_call 168; refine H.mono ?_; rintro e w' ⟨rfl, rfl⟩)
  go_ret3
  exact ⟨rfl, rfl⟩

theorem dotted_a (w : World) : Calls Tryz.prog 132 #[.string ⟨#[97]⟩, .int .i64 8] w fun e w' => e = .returned (.bool true) ∧ w = w' := by
  go_enter Tryz.func132, Tryz.ntmps132
  go_wp2_with (fail)
  refine wp_loop_rounds 1 ?_
  rw [rounds_succ]
  go_wp2_with (first | (go_at_call 152; refine (cut_a _).mono ?_; rintro e w' ⟨rfl, rfl⟩) | (go_at_call 39; refine (key_yes _ _ (by kernel_rfl)).mono ?_; rintro e w' ⟨rfl, rfl⟩))
  go_ret
  exact ⟨rfl, rfl⟩
theorem isName_a (w : World) : Calls Tryz.prog 111 #[.string ⟨#[97]⟩] w fun e w' => e = .returned (.bool true) ∧ w = w' := by
  go_enter Tryz.func111, Tryz.ntmps111
  go_wp2_with (go_at_call 132; refine (dotted_a _).mono ?_; rintro e w' ⟨rfl, rfl⟩)
  go_ret
  exact ⟨rfl, rfl⟩

set_option maxRecDepth 100000 in
theorem valid_empty (w : World) : Calls Tryz.prog 141 #[.string ⟨#[]⟩] w fun e w' => e = .returned (.bool true) ∧ w = w' := by
  go_enter Tryz.func141, Tryz.ntmps141
  go_wp2_with (fail)
  refine wp_loop_rounds 1 ?_
  rw [rounds_succ]
  go_wp2_with (fail)
  go_ret
  exact ⟨rfl, rfl⟩
theorem unmarked_empty (w : World) : Calls Tryz.prog 120 #[.string ⟨#[]⟩] w fun e w' => e = .returned (.bool true) ∧ w = w' := by
  go_enter Tryz.func120, Tryz.ntmps120
  go_wp2_with (fail)
  refine wp_loop_rounds 1 ?_
  rw [rounds_succ]
  go_wp2_with (go_at_call 141; refine (valid_empty _).mono ?_; rintro e w' ⟨rfl, rfl⟩)
  go_ret
  exact ⟨rfl, rfl⟩

set_option maxRecDepth 100000 in
set_option maxHeartbeats 1000000 in
theorem valueFault_flag (w : World) : Calls Tryz.prog 112 #[.agg #[.int .i64 1, .bool false, .int .i64 0, .string ⟨#[]⟩]] w fun e w' => e = .returned (.int .i64 0) ∧ Below w.heap.size w w' := by
  go_enter Tryz.func112, Tryz.ntmps112
  go_wp2_with (first | (go_at_call 34; refine (out_no _ _ _ _ (by omega) (by omega)).mono ?_; rintro e w' ⟨rfl, rfl⟩) | (go_at_call 120; refine (unmarked_empty _).mono ?_; rintro e w' ⟨rfl, rfl⟩))
  go_ret
  exact ⟨rfl, ((Below.refl _ _).alloc (Nat.le_refl _) _).alloc (by simp) _⟩
end Go.Proofs.YtnmgfnnkcenfeaaGreatDoor

/- slices.Sort, slices.Compact of one string; twin.CheckProps, names, find, valueOf, Differ at nothing and the flag a. -/
namespace Go.Proofs.YtnmgfnnkcenfeaaGreatDoor
open Go.RowKit

set_option maxRecDepth 100000 in
theorem len64_1 (w : World) : Calls Tryz.prog 98 #[.int .u64 1] w fun e w' => e = .returned (.int .i64 1) ∧ w = w' := by
  go_enter Tryz.func98, Tryz.ntmps98
  go_wp2
  go_ret
  exact ⟨by first | rfl | kernel_rfl | decide, rfl⟩
theorem len_1 (w : World) : Calls Tryz.prog 64 #[.int .u64 1] w fun e w' => e = .returned (.int .i64 1) ∧ w = w' := by
  go_enter Tryz.func64, Tryz.ntmps64
  go_wp2_with (go_at_call 98; refine (len64_1 _).mono ?_; rintro e w' ⟨rfl, rfl⟩)
  go_ret
  exact ⟨rfl, rfl⟩
theorem ins_1 (A : Option Addr) (c : Nat) (w : World) : Calls Tryz.prog 153 #[.slice A 1 c, .int .i64 0, .int .i64 1] w fun e w' => e = .returned (.tuple #[]) ∧ w = w' := by
  go_enter Tryz.func153, Tryz.ntmps153
  go_wp2_with (fail)
  refine wp_loop_rounds 1 ?_
  rw [rounds_succ]
  go_wp2_with (fail)
  go_end0
  exact ⟨rfl, rfl⟩
theorem pdq_1 (A : Option Addr) (c : Nat) (w : World) : Calls Tryz.prog 135 #[.slice A 1 c, .int .i64 0, .int .i64 1, .int .i64 1] w fun e w' => e = .returned (.tuple #[]) ∧ w = w' := by
  go_enter Tryz.func135, Tryz.ntmps135
  go_wp2_with (fail)
  refine wp_loop_rounds 1 ?_
  rw [rounds_succ]
  go_wp2_with (go_at_call 153; refine (ins_1 _ _ _).mono ?_; rintro e w' ⟨rfl, rfl⟩)
  exact bodyPost_ret (results_none rfl _ _ _) rfl ⟨rfl, rfl⟩
theorem sort_1 (A : Option Addr) (c : Nat) (w : World) : Calls Tryz.prog 116 #[.slice A 1 c] w fun e w' => e = .returned (.tuple #[]) ∧ w = w' := by
  go_enter Tryz.func116, Tryz.ntmps116
  go_wp2_with (first | (go_at_call 64; refine (len_1 _).mono ?_; rintro e w' ⟨rfl, rfl⟩) | (go_at_call 135; refine (pdq_1 _ _ _).mono ?_; rintro e w' ⟨rfl, rfl⟩))
  go_end0
  exact ⟨rfl, rfl⟩
theorem compact_1 (A : Option Addr) (c : Nat) (w : World) : Calls Tryz.prog 117 #[.slice A 1 c] w fun e w' => e = .returned (.slice A 1 c) ∧ w = w' := by
  go_enter Tryz.func117, Tryz.ntmps117
  go_wp2_with (fail)
  go_ret
  exact ⟨rfl, rfl⟩

theorem find1_a (w : World) : Calls Tryz.prog 134 #[.agg #[.string ⟨#[97]⟩, .int .i64 1, .bool false, .int .i64 0, .string ⟨#[]⟩], .string ⟨#[97]⟩] w fun e w' => e = .returned (.int .i64 0) ∧ Below w.heap.size w w' := by
  go_enter Tryz.func134, Tryz.ntmps134
  go_wp2_with (go_at_call 66; refine (scompare_same _ _).mono ?_; rintro e w' ⟨rfl, rfl⟩)
  go_ret
  exact ⟨rfl, (Below.refl _ _).alloc (Nat.le_refl _) _⟩
theorem bin_nil (f : Value) (s : Value) (w : World) : Calls Tryz.prog 133 #[.slice none 0 0, s, f] w fun e w' => e = .returned (.tuple #[.int .i64 0, .bool false]) ∧ w = w' := by
  go_enter Tryz.func133, Tryz.ntmps133
  go_wp2_with (fail)
  refine wp_loop_rounds 1 ?_
  rw [rounds_succ]
  go_wp2_with (fail)
  go_ret2
  exact ⟨rfl, rfl⟩
theorem find_nil (s : Value) (w : World) : Calls Tryz.prog 115 #[.slice none 0 0, s] w fun e w' => e = .returned (.int .i64 (-1)) ∧ w = w' := by
  go_enter Tryz.func115, Tryz.ntmps115
  go_wp2_with (go_at_call 133; refine (bin_nil _ _ _).mono ?_; rintro e w' ⟨rfl, rfl⟩)
  go_ret
  exact ⟨rfl, rfl⟩

/-- Block b is the flag a. -/
def APr (w : World) (b : Nat) : Prop := w.heap[b]? = some (.cells #[.string ⟨#[97]⟩, .int .i64 1, .bool false, .int .i64 0, .string ⟨#[]⟩] 92)
theorem APr.lt {w : World} {b : Nat} (h : APr w b) : b < w.heap.size := (Array.getElem?_eq_some_iff.1 h).1
theorem APr.keep {w w' : World} {b : Nat} (h : APr w b) (hb : Below w.heap.size w w') : APr w' b := (hb.block b h.lt).trans h
theorem APr.alloc {w : World} {b : Nat} (h : APr w b) (o : Obj) : APr (w.alloc o) b := (Below.heap_alloc _ _ b h.lt).trans h

set_option maxRecDepth 100000 in
set_option maxHeartbeats 1000000 in
theorem bin_a (b : Nat) (w : World) (hb : APr w b) : Calls Tryz.prog 133 #[.slice (some ⟨b, 0, none⟩) 1 1, .string ⟨#[97]⟩, .func (.func 134) #[] #[]] w fun e w' => e = .returned (.tuple #[.int .i64 0, .bool true]) ∧ Below w.heap.size w w' := by
  have hlt := hb.lt
  have c0 := cell_of_blk (j := 0) hb rfl
  have c1 := cell_of_blk (j := 1) hb rfl
  have c2 := cell_of_blk (j := 2) hb rfl
  have c3 := cell_of_blk (j := 3) hb rfl
  have c4 := cell_of_blk (j := 4) hb rfl
  have HA := Lib.hid hb
  clear hb
  go_enter Tryz.func133, Tryz.ntmps133
  go_wp2_with (fail)
  refine wp_loop_rounds 2 ?_
  rw [rounds_succ]
  go_wp2_with (fail)
  refine (find1_a _).mono ?_
  rintro e w1 ⟨rfl, hb1⟩
  have hs1 := hb1.size
  have HA1 := Lib.hid (HA.out.keep hb1)
  have HB1 := Lib.hid hb1
  clear hb1 c0 c1 c2 c3 c4
  have c0 := cell_of_blk (j := 0) HA1.out rfl
  have c1 := cell_of_blk (j := 1) HA1.out rfl
  have c2 := cell_of_blk (j := 2) HA1.out rfl
  have c3 := cell_of_blk (j := 3) HA1.out rfl
  have c4 := cell_of_blk (j := 4) HA1.out rfl
  go_wp2_with (fail)
  rw [rounds_succ]
  go_wp2_with (fail)
  refine (find1_a _).mono ?_
  rintro e w2 ⟨rfl, hb2⟩
  have HB2 := Lib.hid (HB1.out.trans (hb2.mono hs1))
  clear hb2
  go_wp2_with (fail)
  go_ret2
  exact ⟨rfl, HB2.out⟩
theorem find_a (b : Nat) (w : World) (hb : APr w b) : Calls Tryz.prog 115 #[.slice (some ⟨b, 0, none⟩) 1 1, .string ⟨#[97]⟩] w fun e w' => e = .returned (.int .i64 0) ∧ Below w.heap.size w w' := by
  have HA := Lib.hid hb
  clear hb
  go_enter Tryz.func115, Tryz.ntmps115
  go_wp2_with (fail)
  refine (bin_a b w HA.out).mono ?_
  rintro e w1 ⟨rfl, hb1⟩
  have HB1 := Lib.hid hb1
  clear hb1
  go_wp2_with (fail)
  go_ret
  exact ⟨rfl, HB1.out⟩

set_option maxHeartbeats 1000000 in
theorem valueOf_nil (w : World) : Calls Tryz.prog 76 #[.slice none 0 0, .string ⟨#[97]⟩] w fun e w' => e = .returned (.agg #[.int .i64 0, .bool false, .int .i64 0, .string ⟨#[]⟩]) ∧ Below w.heap.size w w' := by
  go_enter Tryz.func76, Tryz.ntmps76
  go_wp2_with (go_at_call 115; refine (find_nil _ _).mono ?_; rintro e w' ⟨rfl, rfl⟩)
  refine bodyPost_ret (v := .agg #[.int .i64 0, .bool false, .int .i64 0, .string ⟨#[]⟩]) (by simp [results, Tryz.results76, go_sem]) rfl ⟨rfl, ?_⟩
  exact (Below.refl _ _).alloc (Nat.le_refl _) _
set_option maxHeartbeats 1000000 in
theorem valueOf_a (b : Nat) (w : World) (hb : APr w b) : Calls Tryz.prog 76 #[.slice (some ⟨b, 0, none⟩) 1 1, .string ⟨#[97]⟩] w fun e w' => e = .returned (.agg #[.int .i64 1, .bool false, .int .i64 0, .string ⟨#[]⟩]) ∧ Below w.heap.size w w' := by
  have HZ := Lib.hid (heap_new w (.cells #[.int .i64 0, .bool false, .int .i64 0, .string ⟨#[]⟩] 90))
  have HA := Lib.hid (hb.alloc (.cells #[.int .i64 0, .bool false, .int .i64 0, .string ⟨#[]⟩] 90))
  have HB0 := Lib.hid ((Below.refl w.heap.size w).alloc (Nat.le_refl _) (.cells #[.int .i64 0, .bool false, .int .i64 0, .string ⟨#[]⟩] 90))
  have hlt := hb.lt
  clear hb
  go_enter Tryz.func76, Tryz.ntmps76
  go_wp2_with (fail)
  refine (find_a b _ HA.out).mono ?_
  rintro e w1 ⟨rfl, hb1⟩
  have hs1 := hb1.size
  simp only [World.size_alloc] at hs1
  have HA1 := HA.out.keep hb1
  have c1 := cell_of_blk (j := 1) HA1 rfl
  have c2 := cell_of_blk (j := 2) HA1 rfl
  have c3 := cell_of_blk (j := 3) HA1 rfl
  have c4 := cell_of_blk (j := 4) HA1 rfl
  have hz1 := (hb1.block w.heap.size (by simp)).trans HZ.out
  have z0 := cell_of_blk (j := 0) hz1 rfl
  have z1 := cell_of_blk (j := 1) hz1 rfl
  have z2 := cell_of_blk (j := 2) hz1 rfl
  have z3 := cell_of_blk (j := 3) hz1 rfl
  have fr : ∀ j, w1.frozen? ⟨w.heap.size, j, none⟩ = false := by intro j; simp [World.frozen?, hz1]
  have f0 := fr 0
  have f1 := fr 1
  have f2 := fr 2
  have f3 := fr 3
  have HW : ((((w1.setCell ⟨w.heap.size, 0, none⟩ (.int .i64 1)).setCell ⟨w.heap.size, 1, none⟩ (.bool false)).setCell ⟨w.heap.size, 2, none⟩ (.int .i64 0)).setCell ⟨w.heap.size, 3, none⟩ (.string ⟨#[]⟩)).heap[w.heap.size]? = some (.cells #[.int .i64 1, .bool false, .int .i64 0, .string ⟨#[]⟩] 90) := by
    simp [World.setCell, Array.getElem?_modify, hz1]
  have q0 := Lib.hid (cell_of_blk (j := 0) HW rfl)
  have q1 := Lib.hid (cell_of_blk (j := 1) HW rfl)
  have q2 := Lib.hid (cell_of_blk (j := 2) HW rfl)
  have q3 := Lib.hid (cell_of_blk (j := 3) HW rfl)
  have HB1 := Lib.hid (HB0.out.trans (hb1.mono (by simp)))
  clear hb1 HA1 hz1 fr HW
  go_wp2_with (fail)
  have r0 := q0.out
  have r1 := q1.out
  have r2 := q2.out
  have r3 := q3.out
  refine bodyPost_ret (v := .agg #[.int .i64 1, .bool false, .int .i64 0, .string ⟨#[]⟩]) (by simp [results, Tryz.results76, go_sem, r0, r1, r2, r3]) rfl ⟨rfl, ?_⟩
  exact (((HB1.out.setCell (by simp) _).setCell (by simp) _).setCell (by simp) _).setCell (by simp) _
end Go.Proofs.YtnmgfnnkcenfeaaGreatDoor

/- twin.CheckProps, names, Differ at nothing and the flag a. -/
namespace Go.Proofs.YtnmgfnnkcenfeaaGreatDoor
open Go.RowKit

theorem checkProps_nil (w : World) : Calls Tryz.prog 74 #[.slice none 0 0] w fun e w' => e = .returned (.int .i64 0) ∧ Below w.heap.size w w' := by
  go_enter Tryz.func74, Tryz.ntmps74
  go_wp2_with (fail)
  refine wp_loop_rounds 1 ?_
  rw [rounds_succ]
  go_wp2_with (fail)
  refine wp_loop_rounds 1 ?_
  rw [rounds_succ]
  go_wp2_with (fail)
  go_ret
  exact ⟨rfl, (Below.refl _ _).alloc (Nat.le_refl _) _⟩

theorem above_a (f : Value) (w : World) : Calls Tryz.prog 113 #[.string ⟨#[97]⟩, f] w fun e w' => e = .returned (.bool false) ∧ w = w' := by
  go_enter Tryz.func113, Tryz.ntmps113
  go_wp2_with (fail)
  refine wp_loop_rounds 2 ?_
  rw [rounds_succ]
  go_wp2_with (fail)
  rw [rounds_succ]
  go_wp2_with (fail)
  go_ret
  exact ⟨rfl, rfl⟩

set_option maxRecDepth 100000 in
set_option maxHeartbeats 1000000 in
theorem checkProps_a (b : Nat) (w : World) (hb : APr w b) : Calls Tryz.prog 74 #[.slice (some ⟨b, 0, none⟩) 1 1] w fun e w' => e = .returned (.int .i64 0) ∧ Below w.heap.size w w' := by
  have hlt := hb.lt
  have c0 := cell_of_blk (j := 0) hb rfl
  have c1 := cell_of_blk (j := 1) hb rfl
  have c2 := cell_of_blk (j := 2) hb rfl
  have c3 := cell_of_blk (j := 3) hb rfl
  have c4 := cell_of_blk (j := 4) hb rfl
  have HA := Lib.hid hb
  clear hb
  go_enter Tryz.func74, Tryz.ntmps74
  go_wp2_with (fail)
  refine wp_loop_rounds 2 ?_
  rw [rounds_succ]
  go_wp2_with (go_at_call 111; refine (isName_a _).mono ?_; rintro e w' ⟨rfl, rfl⟩)
  generalize hW : (w.alloc (.cells #[.slice (some ⟨b, 0, none⟩) 1 1] 93)).alloc (.cells #[.string ⟨#[97]⟩, .int .i64 1, .bool false, .int .i64 0, .string ⟨#[]⟩] 92) = W
  have hWs : W.heap.size = w.heap.size + 1 + 1 := by rw [← hW]; simp
  have HBW := Lib.hid (show Below w.heap.size w W by rw [← hW]; exact ((Below.refl _ _).alloc (Nat.le_refl _) _).alloc (by simp) _)
  have HQ := Lib.hid (show W.heap[w.heap.size]? = some (.cells #[.slice (some ⟨b, 0, none⟩) 1 1] 93) by rw [← hW, Below.heap_alloc _ _ _ (by simp)]; exact heap_new w _)
  have HP := Lib.hid (show W.heap[w.heap.size + 1]? = some (.cells #[.string ⟨#[97]⟩, .int .i64 1, .bool false, .int .i64 0, .string ⟨#[]⟩] 92) by rw [← hW]; have := heap_new (w.alloc (.cells #[.slice (some ⟨b, 0, none⟩) 1 1] 93)) (.cells #[.string ⟨#[97]⟩, .int .i64 1, .bool false, .int .i64 0, .string ⟨#[]⟩] 92); simpa using this)
  clear hW c0 c1 c2 c3 c4
  refine (valueFault_flag _).mono ?_
  rintro e w1 ⟨rfl, hb1⟩
  have hs1 := hb1.size
  have HB1 := Lib.hid (HBW.out.trans (hb1.mono (by omega)))
  have hq1 := (hb1.block w.heap.size (by omega)).trans HQ.out
  have hp1 := (hb1.block (w.heap.size + 1) (by omega)).trans HP.out
  have q0 := cell_of_blk (j := 0) hq1 rfl
  have p0 := cell_of_blk (j := 0) hp1 rfl
  have p1 := cell_of_blk (j := 1) hp1 rfl
  have hd : decide ((0 : Int) < 0) = false := by decide
  have HQ1 := Lib.hid hq1
  clear hb1 hp1 hq1
  go_wp2_with (fail)
  go_quiet (fail)
  generalize hV : w1.drewN nq = V
  have HBV := Lib.hid (show Below w.heap.size w V by rw [← hV]; exact below_drewN HB1.out _)
  have hVs : V.heap.size = w1.heap.size := by rw [← hV]; rfl
  have hq2 : V.heap[w.heap.size]? = some (.cells #[.slice (some ⟨b, 0, none⟩) 1 1] 93) := by rw [← hV]; exact HQ1.out
  have HA1 := HA.out.keep (HBV.out.mono (Nat.le_refl _))
  clear q0 p0 p1 hV
  have q0 := cell_of_blk (j := 0) hq2 rfl
  have d0 := cell_of_blk (j := 0) HA1 rfl
  have d1 := cell_of_blk (j := 1) HA1 rfl
  have d2 := cell_of_blk (j := 2) HA1 rfl
  have d3 := cell_of_blk (j := 3) HA1 rfl
  have d4 := cell_of_blk (j := 4) HA1 rfl
  clear HA1 hq2
  go_wp2_with (fail)
  rw [rounds_succ]
  go_wp2_with (fail)
  refine wp_loop_rounds 2 ?_
  rw [rounds_succ]
  go_wp2_with (go_at_call 113; refine (above_a _ _).mono ?_; rintro e w' ⟨rfl, rfl⟩)
  rw [rounds_succ]
  go_wp2_with (fail)
  go_ret
  exact ⟨rfl, HBV.out.alloc (by omega) _⟩
end Go.Proofs.YtnmgfnnkcenfeaaGreatDoor

/- twin.names, Differ at nothing and the flag a. -/
namespace Go.Proofs.YtnmgfnnkcenfeaaGreatDoor
open Go.RowKit

theorem Tryz.infoStr : (Tryz.prog.info? 9).map (fun i => (i.zero, i.size, i.bytes)) = some (some (.string ⟨#[]⟩), 1, 16) := by kernel_rfl

set_option maxRecDepth 100000 in
set_option maxHeartbeats 2000000 in
theorem names_a (b q : Nat) (w : World) (hb : APr w b) (hq : w.heap[q]? = some (.cells #[.slice none 0 0, .slice (some ⟨b, 0, none⟩) 1 1] 93)) :
    Calls Tryz.prog 75 #[.slice (some ⟨q, 0, none⟩) 2 2] w fun e w' => ∃ g c, e = .returned (.slice (some ⟨g, 0, none⟩) 1 c) ∧ w'.cell? ⟨g, 0, none⟩ = some (.string ⟨#[97]⟩) ∧ Below w.heap.size w w' := by
  obtain ⟨i0, hi, hz0, hz1, hz2⟩ := info_parts Tryz.infoStr
  have hlt := hb.lt
  have hqlt := (Array.getElem?_eq_some_iff.1 hq).1
  have q0 := cell_of_blk (j := 0) hq rfl
  have q1 := cell_of_blk (j := 1) hq rfl
  have c0 := cell_of_blk (j := 0) hb rfl
  have c1 := cell_of_blk (j := 1) hb rfl
  have c2 := cell_of_blk (j := 2) hb rfl
  have c3 := cell_of_blk (j := 3) hb rfl
  have c4 := cell_of_blk (j := 4) hb rfl
  clear hb hq
  go_enter Tryz.func75, Tryz.ntmps75
  go_wp2_with (fail)
  refine wp_loop_rounds 3 ?_
  rw [rounds_succ]
  go_wp2_with (fail)
  refine wp_loop_rounds 1 ?_
  rw [rounds_succ]
  go_wp2_with (fail)
  rw [rounds_succ]
  go_wp2_with (fail)
  refine wp_loop_rounds 2 ?_
  rw [rounds_succ]
  have HO0 := Lib.hid (World.ownsRow_nil (w.alloc (.cells #[.string ⟨#[97]⟩, .int .i64 1, .bool false, .int .i64 0, .string ⟨#[]⟩] 92)) w.heap.size 9 1)
  have HBw := Lib.hid ((Below.refl w.heap.size w).alloc (Nat.le_refl _) (.cells #[.string ⟨#[97]⟩, .int .i64 1, .bool false, .int .i64 0, .string ⟨#[]⟩] 92))
  go_wp2_with (at_builtin; refine wpList_append_own _ rfl _ _ 127 rfl w.heap.size 9 i0 (.string ⟨#[]⟩) 1 16 Tryz.underlying127 hi hz0 hz1 hz2 rfl (by decide) _ _ _ rfl (HO0.out.alloc _) ⟨w.heap.size + 1, 0, none⟩ 1 1 [.string ⟨#[97]⟩] rfl rfl ?a1 ?a2 ?a3 ?a4 ?a5 ?_)
  case a1 => exact cells_add (by have := Cells.new (w.alloc (.cells #[.string ⟨#[97]⟩, .int .i64 1, .bool false, .int .i64 0, .string ⟨#[]⟩] 92)) #[.string ⟨#[97]⟩] 9 (0, 0) [.string ⟨#[97]⟩] rfl; simpa using this)
  case a2 => intro u hu; simp at hu; subst hu; rfl
  case a3 => unfold maxLen; omega
  case a4 => omega
  case a5 => simp; omega
  intro v2 w2 hown2 hgr2 _
  obtain ⟨g, c, rfl⟩ : ∃ g c, v2 = .slice (some ⟨g, 0, none⟩) 1 c := by
    rcases hown2.2 with ⟨_, h⟩ | ⟨g, cap, cur, hv, _⟩
    · simp at h
    · exact ⟨g, cap, hv⟩
  have hcell := hown2.cellAt 0 (by omega)
  have HB2 := Lib.hid (HBw.out.grown (grown_of_alloc hgr2) (by simp) (fun g hg => by simp [Value.ownBlock] at hg))
  clear hown2 hgr2
  have HC := Lib.hid hcell
  clear hcell
  go_wp2_with (fail)
  rw [rounds_succ]
  go_wp2_with (fail)
  rw [rounds_succ]
  go_wp2_with (first | (go_at_call 116; refine (sort_1 _ _ _).mono ?_; rintro e w' ⟨rfl, rfl⟩) | (go_at_call 117; refine (compact_1 _ _ _).mono ?_; rintro e w' ⟨rfl, rfl⟩))
  go_ret
  exact ⟨_, _, rfl, by simpa using HC.out, HB2.out⟩

set_option maxRecDepth 100000 in
set_option maxHeartbeats 2000000 in
/-- What Differ makes of nothing and the flag a: one change. -/
theorem differ_a (b : Nat) (w : World) (hb : APr w b) :
    Calls Tryz.prog 51 #[.slice none 0 0, .slice (some ⟨b, 0, none⟩) 1 1] w fun e w' => ∃ A c, e = .returned (.tuple #[.slice A 1 c, .int .i64 0]) ∧ Below w.heap.size w w' := by
  have HA := Lib.hid hb
  clear hb
  go_enter Tryz.func51, Tryz.ntmps51
  go_wp2_with (fail)
  refine (checkProps_nil _).mono ?_
  rintro e w1 ⟨rfl, hb1⟩
  have hs1 := hb1.size
  have HA1 := Lib.hid (HA.out.keep hb1)
  have HB1 := Lib.hid hb1
  clear hb1
  go_wp2_with (fail)
  refine (checkProps_a b _ HA1.out).mono ?_
  rintro e w2 ⟨rfl, hb2⟩
  have hs2 := hb2.size
  have HA2 := Lib.hid ((HA1.out.keep hb2).alloc (.cells #[.int .i64 0, .int .i64 0] 32))
  have HB2 := Lib.hid ((HB1.out.trans (hb2.mono hs1)).alloc (by omega) (.cells #[.int .i64 0, .int .i64 0] 32))
  have HF := Lib.hid (Cells.new w2 #[.int .i64 0, .int .i64 0] 32 (0, 0) (List.replicate 2 (.int .i64 0)) rfl)
  clear hb2
  go_wp2_with (go_at_call 27; refine (first_ok 2 2 _ _ (by omega) HF.out).mono ?_; rintro e w' ⟨rfl, rfl⟩)
  generalize hW : w2.alloc (.cells #[.int .i64 0, .int .i64 0] 32) = W at HA2 HB2 ⊢
  have hWs : W.heap.size = w2.heap.size + 1 := by rw [← hW]; simp
  clear hW HF
  have HA3 := Lib.hid (HA2.out.alloc (.cells #[.slice none 0 0, .slice (some ⟨b, 0, none⟩) 1 1] 93))
  have HB3 := Lib.hid (HB2.out.alloc (by omega) (.cells #[.slice none 0 0, .slice (some ⟨b, 0, none⟩) 1 1] 93))
  have HQ := Lib.hid (show (W.alloc (.cells #[.slice none 0 0, .slice (some ⟨b, 0, none⟩) 1 1] 93)).heap[w2.heap.size + 1]? = some (.cells #[.slice none 0 0, .slice (some ⟨b, 0, none⟩) 1 1] 93) by rw [← hWs]; exact heap_new W _)
  refine (names_a b (w2.heap.size + 1) _ HA3.out HQ.out).mono ?_
  rintro e w4 ⟨g, c, rfl, hc, hb4⟩
  have hs4 := hb4.size
  simp only [World.size_alloc] at hs4
  have hg4 := World.block_lt_of_cell? w4 _ hc
  simp only at hg4
  have HA4 := Lib.hid (HA3.out.keep hb4)
  have HB4 := Lib.hid (HB3.out.trans (hb4.mono (by simp; omega)))
  clear hb4 HA3 HB3 HQ
  go_wp2_with (fail)
  refine wp_loop_rounds 2 ?_
  rw [rounds_succ]
  go_wp2_with (fail)
  refine (valueOf_nil _).mono ?_
  rintro e w5 ⟨rfl, hb5⟩
  have hs5 := hb5.size
  have HA5 := Lib.hid (HA4.out.keep hb5)
  have HB5 := Lib.hid (HB4.out.trans (hb5.mono (by omega)))
  clear hb5 hc
  go_wp2_with (fail)
  refine (valueOf_a b _ HA5.out).mono ?_
  rintro e w6 ⟨rfl, hb6⟩
  have hs6 := hb6.size
  have HB6 := Lib.hid (HB5.out.trans (hb6.mono (by omega)))
  clear hb6
  go_wp2_with (fail)
  rw [rounds_succ]
  go_wp2_with (fail)
  go_ret2
  refine ⟨_, _, rfl, ?_⟩
  exact ((((HB6.out.alloc (by omega) _).alloc (by simp; omega) _).alloc (by simp; omega) _).alloc (by simp; omega) _).drew
end Go.Proofs.YtnmgfnnkcenfeaaGreatDoor

/- command.Order of one letter. -/
namespace Go.Proofs.YtnmgfnnkcenfeaaGreatDoor
open Go.RowKit

theorem insL_1 (A : Option Addr) (c : Nat) (f : Value) (w : World) : Calls Tryz.prog 142 #[.slice A 1 c, .int .i64 0, .int .i64 1, f] w fun e w' => e = .returned (.tuple #[]) ∧ w = w' := by
  go_enter Tryz.func142, Tryz.ntmps142
  go_wp2_with (fail)
  refine wp_loop_rounds 1 ?_
  rw [rounds_succ]
  go_wp2_with (fail)
  go_end0
  exact ⟨rfl, rfl⟩
theorem pdqL_1 (A : Option Addr) (c : Nat) (f : Value) (w : World) : Calls Tryz.prog 122 #[.slice A 1 c, .int .i64 0, .int .i64 1, .int .i64 1, f] w fun e w' => e = .returned (.tuple #[]) ∧ w = w' := by
  go_enter Tryz.func122, Tryz.ntmps122
  go_wp2_with (fail)
  refine wp_loop_rounds 1 ?_
  rw [rounds_succ]
  go_wp2_with (go_at_call 142; refine (insL_1 _ _ _ _).mono ?_; rintro e w' ⟨rfl, rfl⟩)
  exact bodyPost_ret (results_none rfl _ _ _) rfl ⟨rfl, rfl⟩
theorem sortL_1 (A : Option Addr) (c : Nat) (f : Value) (w : World) : Calls Tryz.prog 85 #[.slice A 1 c, f] w fun e w' => e = .returned (.tuple #[]) ∧ w = w' := by
  go_enter Tryz.func85, Tryz.ntmps85
  go_wp2_with (first | (go_at_call 64; refine (len_1 _).mono ?_; rintro e w' ⟨rfl, rfl⟩) | (go_at_call 122; refine (pdqL_1 _ _ _ _).mono ?_; rintro e w' ⟨rfl, rfl⟩))
  go_end0
  exact ⟨rfl, rfl⟩
theorem idxL_0 (A : Option Addr) (c : Nat) (f : Value) (w : World) : Calls Tryz.prog 121 #[.slice A 0 c, f] w fun e w' => e = .returned (.int .i64 (-1)) ∧ w = w' := by
  go_enter Tryz.func121, Tryz.ntmps121
  go_wp2_with (fail)
  refine wp_loop_rounds 1 ?_
  rw [rounds_succ]
  go_wp2_with (fail)
  go_ret
  exact ⟨rfl, rfl⟩
theorem hasL_0 (A : Option Addr) (c : Nat) (f : Value) (w : World) : Calls Tryz.prog 82 #[.slice A 0 c, f] w fun e w' => e = .returned (.bool false) ∧ w = w' := by
  go_enter Tryz.func82, Tryz.ntmps82
  go_wp2_with (go_at_call 121; refine (idxL_0 _ _ _ _).mono ?_; rintro e w' ⟨rfl, rfl⟩)
  go_ret
  exact ⟨rfl, rfl⟩

set_option maxRecDepth 100000 in
set_option maxHeartbeats 1000000 in
theorem checkLetter_a (w : World) : Calls Tryz.prog 81 #[.agg #[.string ⟨#[97]⟩, .string ⟨#[]⟩, .string ⟨#[]⟩, .int .i64 0, .int .i64 0, .int .i64 5]] w fun e w' => e = .returned (.int .i64 0) ∧ Below w.heap.size w w' := by
  go_enter Tryz.func81, Tryz.ntmps81
  go_wp2_with (first | (go_at_call 39; refine (key_yes _ _ (by kernel_rfl)).mono ?_; rintro e w' ⟨rfl, rfl⟩) | (go_at_call 49; refine (moment_yes _ _ (by omega) (by omega)).mono ?_; rintro e w' ⟨rfl, rfl⟩) | (go_at_call 34; refine (out_no _ _ _ _ (by omega) (by omega)).mono ?_; rintro e w' ⟨rfl, rfl⟩) | (go_at_call 120; refine (unmarked_empty _).mono ?_; rintro e w' ⟨rfl, rfl⟩))
  go_ret
  exact ⟨rfl, (Below.refl _ _).alloc (Nat.le_refl _) _⟩

/-- Block b is the letter a. -/
def ALt (w : World) (b : Nat) : Prop := w.heap[b]? = some (.cells #[.string ⟨#[97]⟩, .string ⟨#[]⟩, .string ⟨#[]⟩, .int .i64 0, .int .i64 0, .int .i64 5] 108)
theorem ALt.lt {w : World} {b : Nat} (h : ALt w b) : b < w.heap.size := (Array.getElem?_eq_some_iff.1 h).1
theorem ALt.keep {w w' : World} {b : Nat} (h : ALt w b) (hb : Below w.heap.size w w') : ALt w' b := (hb.block b h.lt).trans h

theorem Tryz.infoLt : (Tryz.prog.info? 108).map (fun i => (i.zero, i.size, i.bytes)) = some (some (.agg #[.string ⟨#[]⟩, .string ⟨#[]⟩, .string ⟨#[]⟩, .int .i64 0, .int .i64 0, .int .i64 0]), 6, 72) := by kernel_rfl
set_option maxRecDepth 100000 in
set_option maxHeartbeats 1000000 in
theorem cloneL_any (b off n c : Nat) (xs : List Value) (w : World) (hl : xs.length = n * 6) (h1 : ∀ u ∈ xs, u.oneCell' = true) (hn : n ≤ 1000000) (hc : Cells w b off xs) :
    Calls Tryz.prog 84 #[.slice (some ⟨b, off, none⟩) n c] w fun e w' => ∃ v', e = .returned v' ∧ w'.ownsRow w.heap.size 108 6 v' n xs ∧ Below w.heap.size w w' := by
  obtain ⟨i0, hi, hz0, hz1, hz2⟩ := info_parts Tryz.infoLt
  have q22 : ∀ (w : World) (a : Option Addr) (n c n' c' : Nat), (binOp .eql 104 (.slice a n c) (.slice none n' c')).run Tryz.prog w = .ok (.bool a.isNone) w := fun w a n c n' c' => Lib.run_eql_slice_nil w _ _ a n c n' c' Tryz.underlying104
  have HC := Lib.hid hc
  have H1 := Lib.hid h1
  have HL := Lib.hid hl
  clear hc h1 hl
  go_enter Tryz.func84, Tryz.ntmps84
  go_wp2_with (at_builtin; refine wpList_append_own _ rfl _ _ 104 rfl w.heap.size 108 i0 _ 6 72 Tryz.underlying104 hi hz0 hz1 hz2 rfl (by decide) _ _ _ rfl (World.ownsRow_made w #[] 0 (Nat.le_refl _) (Nat.zero_le _) rfl) ⟨b, off, none⟩ n c xs rfl ?qc1 ?qc2 ?qc3 ?qc4 ?qc5 ?qc6 ?_)
  case qc1 => exact HL.out
  case qc2 =>
    intro j u hj
    rw [Addr.add_lit]
    exact Lib.cell?_alloc_some _ (HC.out j u hj)
  case qc3 => exact H1.out
  case qc4 => unfold maxLen; omega
  case qc5 => omega
  case qc6 => simp
  intro v' w1 hown hgrow hnil
  go_wp2
  go_ret
  refine ⟨v', rfl, by simpa using hown, ?_⟩
  exact ((Below.refl _ w).alloc (Nat.le_refl _) _).grown hgrow (by simp) (by intro k hk; simp [Value.ownBlock] at hk; omega)

set_option maxRecDepth 100000 in
set_option maxHeartbeats 2000000 in
/-- Order of one letter: one letter. -/
theorem order_a (b : Nat) (w : World) (hb : ALt w b) :
    Calls Tryz.prog 55 #[.slice (some ⟨b, 0, none⟩) 1 1] w fun e w' => ∃ A c, e = .returned (.tuple #[.slice A 1 c, .int .i64 0]) ∧ Below w.heap.size w w' := by
  have hlt := hb.lt
  have c0 := cell_of_blk (j := 0) hb rfl
  have c1 := cell_of_blk (j := 1) hb rfl
  have c2 := cell_of_blk (j := 2) hb rfl
  have c3 := cell_of_blk (j := 3) hb rfl
  have c4 := cell_of_blk (j := 4) hb rfl
  have c5 := cell_of_blk (j := 5) hb rfl
  have HA := Lib.hid hb
  clear hb
  go_enter Tryz.func55, Tryz.ntmps55
  go_wp2_with (fail)
  refine wp_loop_rounds 2 ?_
  rw [rounds_succ]
  go_wp2_with (fail)
  refine (checkLetter_a _).mono ?_
  rintro e w1 ⟨rfl, hb1⟩
  have hs1 := hb1.size
  simp only [World.size_alloc] at hs1
  have HB1 := Lib.hid (((Below.refl w.heap.size w).alloc (Nat.le_refl _) (.cells #[.string ⟨#[97]⟩, .string ⟨#[]⟩, .string ⟨#[]⟩, .int .i64 0, .int .i64 0, .int .i64 5] 108)).trans (hb1.mono (by simp)))
  clear hb1 c0 c1 c2 c3 c4 c5
  have HA1 := HA.out.keep HB1.out
  have c0 := cell_of_blk (j := 0) HA1 rfl
  have c1 := cell_of_blk (j := 1) HA1 rfl
  have c2 := cell_of_blk (j := 2) HA1 rfl
  have c3 := cell_of_blk (j := 3) HA1 rfl
  have c4 := cell_of_blk (j := 4) HA1 rfl
  have c5 := cell_of_blk (j := 5) HA1 rfl
  clear HA1
  go_wp2_with (go_at_call 82; refine (hasL_0 _ _ _ _).mono ?_; rintro e w' ⟨rfl, rfl⟩)
  rw [rounds_succ]
  go_wp2_with (fail)
  refine (cloneL_any b 0 1 1 [.string ⟨#[97]⟩, .string ⟨#[]⟩, .string ⟨#[]⟩, .int .i64 0, .int .i64 0, .int .i64 5] w1 rfl ?_ (by omega) (fun j v hv => cell_of_blk (HA.out.keep HB1.out) (by simpa using hv))).mono ?_
  · intro u hu; simp at hu; rcases hu with rfl | rfl | rfl | rfl <;> rfl
  rintro e w2 ⟨v2, rfl, hown2, hb2⟩
  obtain ⟨A, c, rfl⟩ := own_slice hown2
  have HB2 := Lib.hid (HB1.out.trans (hb2.mono (by omega)))
  clear hb2 c0 c1 c2 c3 c4 c5
  go_wp2_with (go_at_call 85; refine (sortL_1 _ _ _ _).mono ?_; rintro e w' ⟨rfl, rfl⟩)
  go_ret2
  exact ⟨_, _, rfl, HB2.out⟩
end Go.Proofs.YtnmgfnnkcenfeaaGreatDoor

/- fleetkeep2.ready returns true. -/
namespace Go.Proofs.YtnmgfnnkcenfeaaGreatDoor
open Go.RowKit

theorem good_11 : GoodS [(1, 1)] := by
  refine ⟨by simp, ?_, ?_, ?_⟩
  · intro i x h
    match i, h with
    | 0, h => simp at h; subst h; simp
  · intro i x h
    match i, h with
    | 0, h => simp at h; subst h; simp
  · intro i x y h h2
    match i, h2 with
    | 0, h2 => simp at h2

set_option maxRecDepth 100000 in
set_option maxHeartbeats 4000000 in
theorem ready_yes (w : World) : Calls Tryz.prog 19 #[] w fun e w' => e = .returned (.bool true) ∧ Below w.heap.size w w' := by
  have HA := Lib.hid (show APr (w.alloc (.cells #[.string ⟨#[97]⟩, .int .i64 1, .bool false, .int .i64 0, .string ⟨#[]⟩] 92)) w.heap.size from heap_new w _)
  have HBA := Lib.hid ((Below.refl w.heap.size w).alloc (Nat.le_refl _) (.cells #[.string ⟨#[97]⟩, .int .i64 1, .bool false, .int .i64 0, .string ⟨#[]⟩] 92))
  have HPK := Lib.hid (show packL [(1, 1)] = [1, 2, 2] by decide)
  go_enter Tryz.func19, Tryz.ntmps19
  go_wp2_with (fail)
  refine (differ_a w.heap.size _ HA.out).mono ?_
  rintro e v ⟨A0, c0, rfl, hb0⟩
  have hs0 := hb0.size
  simp only [World.size_alloc] at hs0
  have HB0 := Lib.hid (HBA.out.trans (hb0.mono (by simp)))
  have HSB := Lib.hid (HB0.out.alloc (by omega) (.cells #[.string ⟨#[100]⟩, .string ⟨#[109]⟩, .int .i64 1, .int .i64 1] 37))
  have HROW0 := Lib.hid (show Row (v.alloc (.cells #[.string ⟨#[100]⟩, .string ⟨#[109]⟩, .int .i64 1, .int .i64 1] 37)) (v.alloc (.cells #[.string ⟨#[100]⟩, .string ⟨#[109]⟩, .int .i64 1, .int .i64 1] 37)).heap.size (some ⟨v.heap.size, 0, none⟩) (cellsOf [(1, 1)]) from .inr ⟨_, _, rfl, by simp, Cells.new _ _ _ _ _ rfl⟩)
  clear hb0 HA HBA
  go_wp2_with (fail)
  refine (pack_any [(1, 1)] 1 1 (some ⟨v.heap.size, 0, none⟩) _ rfl good_11 HROW0.out (by simp [StepsOk])).mono ?_
  rintro e w1 ⟨v1, rfl, hown1, hb1⟩
  rw [HPK.out] at hown1
  obtain ⟨A1, c1, rfl⟩ := own_slice hown1
  have hs1 := hb1.size
  simp only [World.size_alloc] at hs1
  have HO1 := Lib.hid hown1
  have HB1 := Lib.hid (HSB.out.trans (hb1.mono (by simp; omega)))
  clear hown1 hb1 HROW0 HSB
  go_wp2_with (fail)
  refine (parse_123 w1).mono ?_
  rintro e w2 ⟨rfl, hb2⟩
  have hs2 := hb2.size
  have HO2 := Lib.hid (own_below HO1.out hb2)
  have HB2 := Lib.hid (HB1.out.trans (hb2.mono (by omega)))
  clear hb2
  have HN2 := Lib.hid (heap_new w2 (.cells #[.int .i64 1, .int .i64 2, .int .i64 3] 97))
  have HBn := Lib.hid (HB2.out.alloc (by omega) (.cells #[.int .i64 1, .int .i64 2, .int .i64 3] 97))
  have HOn := Lib.hid (HO2.out.alloc (.cells #[.int .i64 1, .int .i64 2, .int .i64 3] 97))
  go_wp2_with (fail)
  refine (cell_00 _).mono ?_
  rintro e w3 ⟨rfl, hb3⟩
  have hs3 := hb3.size
  simp only [World.size_alloc] at hs3
  have HV3 := Lib.hid ((hb3.block w2.heap.size (by simp)).trans HN2.out)
  have HO3 := Lib.hid (own_below HOn.out hb3)
  have HB3 := Lib.hid (HBn.out.trans (hb3.mono (by simp; omega)))
  have HL := Lib.hid (show ALt (w3.alloc (.cells #[.string ⟨#[97]⟩, .string ⟨#[]⟩, .string ⟨#[]⟩, .int .i64 0, .int .i64 0, .int .i64 5] 108)) w3.heap.size from heap_new w3 _)
  have HBL := Lib.hid (HB3.out.alloc (by omega) (.cells #[.string ⟨#[97]⟩, .string ⟨#[]⟩, .string ⟨#[]⟩, .int .i64 0, .int .i64 0, .int .i64 5] 108))
  clear hb3
  go_wp2_with (fail)
  refine (order_a w3.heap.size _ HL.out).mono ?_
  rintro e w4 ⟨A4, c4, rfl, hb4⟩
  have hs4 := hb4.size
  simp only [World.size_alloc] at hs4
  have HV4 := Lib.hid ((hb4.block w2.heap.size (by simp; omega)).trans ((Below.heap_alloc w3 _ _ (by omega)).trans HV3.out))
  have HO4 := Lib.hid (own_below (HO3.out.alloc (.cells #[.string ⟨#[97]⟩, .string ⟨#[]⟩, .string ⟨#[]⟩, .int .i64 0, .int .i64 0, .int .i64 5] 108)) hb4)
  have HB4 := Lib.hid (HBL.out.trans (hb4.mono (by simp; omega)))
  have HF := Lib.hid (Cells.new w4 #[.int .i64 0, .int .i64 0, .int .i64 0, .int .i64 0, .int .i64 0] 32 (0, 0) (List.replicate 5 (.int .i64 0)) rfl)
  clear hb4 HL HBL HO3 HV3
  go_wp2_with (go_at_call 56; refine (errs_ok 5 5 _ _ (by omega) HF.out).mono ?_; rintro e w' ⟨rfl, rfl⟩)
  generalize hW : w4.alloc (.cells #[.int .i64 0, .int .i64 0, .int .i64 0, .int .i64 0, .int .i64 0] 32) = W
  have hWs : W.heap.size = w4.heap.size + 1 := by rw [← hW]; simp
  have hBW : Below w4.heap.size w4 W := hW ▸ (Below.refl _ _).alloc (Nat.le_refl _) _
  have HVW := Lib.hid ((hBW.block w2.heap.size (by omega)).trans HV4.out)
  have HOW := Lib.hid (own_below HO4.out hBW)
  have HBW := Lib.hid (HB4.out.trans (hBW.mono (by omega)))
  clear hW hBW HF
  have HR5 := Lib.hid (show Row (W.alloc (.cells #[.int .u8 1, .int .u8 2, .int .u8 2] 5)) (W.alloc (.cells #[.int .u8 1, .int .u8 2, .int .u8 2] 5)).heap.size A1 (bytesV [1, 2, 2]) from ((own_row HOW.out).keep fun b hb => Below.heap_alloc _ _ b hb).mono (by simp))
  have HR5' := Lib.hid (show Row (W.alloc (.cells #[.int .u8 1, .int .u8 2, .int .u8 2] 5)) (W.alloc (.cells #[.int .u8 1, .int .u8 2, .int .u8 2] 5)).heap.size (some ⟨w4.heap.size + 1, 0, none⟩) (bytesV [1, 2, 2]) from .inr ⟨_, _, rfl, by simp; omega, by rw [← hWs]; exact Cells.new _ _ _ _ _ rfl⟩)
  refine (eqBytes_any [1, 2, 2] 3 c1 3 A1 (some ⟨w4.heap.size + 1, 0, none⟩) _ rfl (by omega) HR5.out HR5'.out).mono ?_
  rintro e w6 ⟨rfl, hb6⟩
  have hs6 := hb6.size
  simp only [World.size_alloc] at hs6
  have hv6 := (hb6.block w2.heap.size (by simp; omega)).trans ((Below.heap_alloc W _ _ (by omega)).trans HVW.out)
  have y2 := cell_of_blk (j := 2) hv6 rfl
  have HB6 := Lib.hid ((HBW.out.alloc (by omega) (.cells #[.int .u8 1, .int .u8 2, .int .u8 2] 5)).trans (hb6.mono (by simp; omega)))
  clear hb6 hv6
  go_wp2_with (fail)
  go_ret
  exact ⟨rfl, HB6.out⟩
end Go.Proofs.YtnmgfnnkcenfeaaGreatDoor
