/- Samples and rules as data; no program in sight. -/
import Derived.Test.YtlfphndnkgoinaaGreatDoorTkQ
import Derived.Test.YtlfphndnkgoinaaGreatDoorMg0
namespace Go.Proofs.YtlfphndnkgoinaaGreatDoor
open Go.RowKit

/-- A sample: device and metric by number, when, how much. -/
structure Te where
  d : Nat
  m : Nat
  at_ : Int
  v : Int
instance : Inhabited Te := ⟨⟨0, 0, 0, 0⟩⟩
def teT : Nat → ByteArray
  | 0 => ⟨#[100, 97]⟩
  | 1 => ⟨#[100, 98]⟩
  | 2 => ⟨#[]⟩
  | _ => ⟨#[65]⟩
def meT : Nat → ByteArray
  | 0 => ⟨#[116]⟩
  | _ => ⟨#[117]⟩
def rkT : Nat → ByteArray
  | 0 => ⟨#[114, 97]⟩
  | _ => ⟨#[114, 98]⟩
def teC (x : Te) : List Value := [.string (teT x.d), .string (meT x.m), .int .i64 x.at_, .int .i64 x.v]
theorem teC_len (x : Te) : (teC x).length = 4 := rfl
theorem teC_one (x : Te) : ∀ u ∈ teC x, u.oneCell' = true := by
  intro u hu
  simp only [teC, List.mem_cons, List.mem_nil_iff, or_false] at hu
  rcases hu with h | h | h | h <;> subst h <;> rfl
def ruC (r : Ru) : List Value := [.string (rkT r.k), .string (meT r.m), .int .i64 r.agg, .int .i64 r.long, .bool r.above, .int .i64 r.on, .int .i64 r.off, .int .i64 r.hold, .int .i64 r.rest, .int .i64 r.empty]
theorem ruC_len (r : Ru) : (ruC r).length = 10 := rfl
/-- Value and moment of a sample, in a track. -/
def sqC (s : Int × Int) : List Value := [.int .i64 s.1, .int .i64 s.2]
theorem sqC_len (s : Int × Int) : (sqC s).length = 2 := rfl
theorem sqC_one (x : Int × Int) : ∀ u ∈ sqC x, u.oneCell' = true := by
  intro u hu
  simp only [sqC, List.mem_cons, List.mem_nil_iff, or_false] at hu
  rcases hu with h | h <;> subst h <;> rfl
def cbU (a b : ByteArray) : Int := Lib.compareBytes a.data.toList b.data.toList
def teO : Nat → Nat
  | 0 => 2
  | 1 => 3
  | 2 => 0
  | _ => 1
theorem te_min (i : Nat) : teT i = teT (min i 3) ∧ teO i = teO (min i 3) := by
  match i with
  | 0 => exact ⟨rfl, rfl⟩
  | 1 => exact ⟨rfl, rfl⟩
  | 2 => exact ⟨rfl, rfl⟩
  | 3 => exact ⟨rfl, rfl⟩
  | n + 4 => rw [show min (n + 4) 3 = 3 by omega]; exact ⟨rfl, rfl⟩
theorem me_min (i : Nat) : meT i = meT (min i 1) := by
  match i with
  | 0 => rfl
  | 1 => rfl
  | n + 2 => rw [show min (n + 2) 1 = 1 by omega]; rfl
theorem te_cmpM (i j : Nat) : cbU (teT i) (teT j) = cmpI ((teO i : Nat) : Int) ((teO j : Nat) : Int) := by
  rw [(te_min i).1, (te_min j).1, (te_min i).2, (te_min j).2]
  have h1 : min i 3 = 0 ∨ min i 3 = 1 ∨ min i 3 = 2 ∨ min i 3 = 3 := by omega
  have h2 : min j 3 = 0 ∨ min j 3 = 1 ∨ min j 3 = 2 ∨ min j 3 = 3 := by omega
  rcases h1 with h | h | h | h <;> rw [h] <;> rcases h2 with h | h | h | h <;> rw [h] <;> rfl
theorem me_cmpM (i j : Nat) : cbU (meT i) (meT j) = cmpI ((min i 1 : Nat) : Int) ((min j 1 : Nat) : Int) := by
  rw [me_min i, me_min j]
  have h1 : min i 1 = 0 ∨ min i 1 = 1 := by omega
  have h2 : min j 1 = 0 ∨ min j 1 = 1 := by omega
  rcases h1 with h | h <;> rw [h] <;> rcases h2 with h | h <;> rw [h] <;> rfl
/-- How two samples lie. -/
def teCmp (x y : Te) : Int := orI [cmpI x.at_ y.at_, cbU (teT x.d) (teT y.d), cbU (meT x.m) (meT y.m)]
def TeL (x y : Te) : Prop := x.at_ < y.at_ ∨ x.at_ = y.at_ ∧ (teO x.d < teO y.d ∨ teO x.d = teO y.d ∧ min x.m 1 < min y.m 1)
theorem teCmp_lt (x y : Te) : teCmp x y < 0 ↔ TeL x y := by
  unfold teCmp TeL
  rw [te_cmpM, me_cmpM]
  simp only [orI, cmpI]
  repeat' split
  all_goals omega
theorem teCmp_gt (x y : Te) : 0 < teCmp x y ↔ TeL y x := by
  unfold teCmp TeL
  rw [te_cmpM, me_cmpM]
  simp only [orI, cmpI]
  repeat' split
  all_goals omega
theorem TeL.trans {a b c : Te} (h : TeL a b) (k : TeL b c) : TeL a c := by unfold TeL at *; omega
/-- A right sample. -/
structure TeR (x : Te) : Prop where
  d : x.d < 2
  m : x.m < 2
  at0 : 0 ≤ x.at_
  at1 : x.at_ < tEnd
  v : -1000000000 ≤ x.v ∧ x.v ≤ 1000000000
def TesOk (l : List Te) : Prop := (∀ s ∈ l, TeR s) ∧ l.Pairwise TeL
theorem TesOk.nil : TesOk [] := ⟨by simp, List.Pairwise.nil⟩
theorem TesOk.snoc {l : List Te} {s : Te} (h : TesOk l) (hs : TeR s) (hl : ∀ q, l.getLast? = some q → TeL q s) : TesOk (l ++ [s]) := by
  refine ⟨fun x hx => ?_, List.pairwise_append.2 ⟨h.2, List.pairwise_singleton _ _, fun a ha b hb => ?_⟩⟩
  · rw [List.mem_append, List.mem_singleton] at hx
    rcases hx with hx | rfl
    · exact h.1 x hx
    · exact hs
  · rw [List.mem_singleton] at hb
    subst hb
    obtain ⟨i, hi, rfl⟩ := List.getElem_of_mem ha
    have hne : l ≠ [] := by intro e; subst e; cases ha
    have hlast := hl _ (List.getLast?_eq_some_getLast hne)
    rw [List.getLast_eq_getElem] at hlast
    rcases Nat.lt_or_ge i (l.length - 1) with h1 | h1
    · exact ((List.pairwise_iff_getElem.1 h.2) i (l.length - 1) hi (by omega) h1).trans hlast
    · have : i = l.length - 1 := by omega
      subst this
      exact hlast
theorem te_take_last {l : List Te} {i : Nat} {q : Te} (hi : 1 ≤ i) (hq : l[i - 1]? = some q) : (l.take i).getLast? = some q := by
  have hlt : i - 1 < l.length := (List.getElem?_eq_some_iff.1 hq).1
  rw [List.getLast?_eq_getElem?, List.length_take, Nat.min_eq_left (by omega), List.getElem?_take_of_lt (by omega)]
  exact hq
theorem te_take_snoc {l : List Te} {i : Nat} {x : Te} (hx : l[i]? = some x) : l.take (i + 1) = l.take i ++ [x] := by
  rw [List.take_add_one, hx]; rfl
/-- The samples of a metric and a device. -/
def seenL (l : List Te) (m d : Nat) : List (Int × Int) := (l.filter fun x => decide (x.m = m ∧ x.d = d)).map fun x => (x.at_, x.v)
theorem seenL_nil (m d : Nat) : seenL [] m d = [] := rfl
theorem seenL_snoc (l : List Te) (x : Te) (m d : Nat) : seenL (l ++ [x]) m d = if x.m = m ∧ x.d = d then seenL l m d ++ [(x.at_, x.v)] else seenL l m d := by
  unfold seenL
  rw [List.filter_append, List.map_append]
  split <;> rename_i h <;> simp [h]
theorem seenL_len (l : List Te) (m d : Nat) : (seenL l m d).length ≤ l.length := by
  unfold seenL
  rw [List.length_map]
  exact List.length_filter_le _ _
theorem seenL_ok {l : List Te} (h : TesOk l) (m d : Nat) : SqOk (seenL l m d) := by
  refine ⟨?_, fun s hs => ?_, fun s hs => ?_⟩
  · unfold seenL
    rw [List.map_map, List.pairwise_map]
    refine (h.2.sublist List.filter_sublist).imp_of_mem fun {a b} ha hb hab => ?_
    have h1 := of_decide_eq_true (List.mem_filter.1 ha).2
    have h2 := of_decide_eq_true (List.mem_filter.1 hb).2
    show a.at_ < b.at_
    unfold TeL at hab
    rw [h1.1, h1.2, h2.1, h2.2] at hab
    omega
  · obtain ⟨x, hx, rfl⟩ := List.mem_map.1 hs
    have := h.1 x (List.mem_filter.1 hx).1
    exact ⟨this.at0, this.at1⟩
  · obtain ⟨x, hx, rfl⟩ := List.mem_map.1 hs
    exact (h.1 x (List.mem_filter.1 hx).1).v
/-- A right rule. -/
structure RuR (r : Ru) : Prop where
  k : r.k < 2
  m : r.m < 2
  agg : 1 ≤ r.agg ∧ r.agg ≤ 6
  long : 1 ≤ r.long ∧ r.long ≤ 2592000000
  on : -1000000000 ≤ r.on ∧ r.on ≤ 1000000000
  off : -1000000000 ≤ r.off ∧ r.off ≤ 1000000000
  up : r.above = true → r.off ≤ r.on
  dn : r.above = false → r.on ≤ r.off
  hold : 0 ≤ r.hold ∧ r.hold ≤ 2592000000
  rest : 0 ≤ r.rest ∧ r.rest ≤ 2592000000
  empty : 0 ≤ r.empty ∧ r.empty ≤ 2
theorem RuR.t {r : Ru} (h : RuR r) : RuT r := ⟨by have := h.long.1; omega, h.hold.1, h.rest.1⟩
theorem te_eq (i j : Nat) (hi : i < 2) (hj : j < 2) : (teT i == teT j) = decide (i = j) ∧ ((teT i).toList == (teT j).toList) = decide (i = j) := by
  have h1 : i = 0 ∨ i = 1 := by omega
  have h2 : j = 0 ∨ j = 1 := by omega
  rcases h1 with rfl | rfl <;> rcases h2 with rfl | rfl <;> decide +kernel
theorem me_eq (i j : Nat) (hi : i < 2) (hj : j < 2) : (meT i == meT j) = decide (i = j) := by
  have h1 : i = 0 ∨ i = 1 := by omega
  have h2 : j = 0 ∨ j = 1 := by omega
  rcases h1 with rfl | rfl <;> rcases h2 with rfl | rfl <;> decide +kernel
end Go.Proofs.YtlfphndnkgoinaaGreatDoor
