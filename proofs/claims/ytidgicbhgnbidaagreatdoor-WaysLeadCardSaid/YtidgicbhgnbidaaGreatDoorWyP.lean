/- Versions, ranges and images as plain data; which versions lead to one. No function of the program in sight. -/
import Derived.Test.YtidgicbhgnbidaaGreatDoorMgA
namespace Go.Proofs.YtidgicbhgnbidaaGreatDoor
open Go.RowKit

/-- A version. -/
structure Ve where
  a : Int
  b : Int
  c : Int
deriving DecidableEq
structure VeOk (v : Ve) : Prop where
  a : 0 ≤ v.a ∧ v.a ≤ 9999
  b : 0 ≤ v.b ∧ v.b ≤ 9999
  c : 0 ≤ v.c ∧ v.c ≤ 9999
/-- The number of a version among all. -/
def vn (v : Ve) : Int := (v.a * 10000 + v.b) * 10000 + v.c
theorem vn_inj {x y : Ve} (hx : VeOk x) (hy : VeOk y) (h : vn x = vn y) : x = y := by
  obtain ⟨⟨a1, a2⟩, ⟨b1, b2⟩, ⟨c1, c2⟩⟩ := hx
  obtain ⟨⟨d1, d2⟩, ⟨e1, e2⟩, ⟨f1, f2⟩⟩ := hy
  obtain ⟨a, b, c⟩ := x
  obtain ⟨d, e, f⟩ := y
  simp only [vn] at *
  have h1 : a = d := by omega
  have h2 : b = e := by omega
  have h3 : c = f := by omega
  rw [h1, h2, h3]
theorem vn_range {x : Ve} (h : VeOk x) : 0 ≤ vn x ∧ vn x ≤ 999999999999 := by
  obtain ⟨⟨a1, a2⟩, ⟨b1, b2⟩, ⟨c1, c2⟩⟩ := h
  unfold vn
  omega
def vd (n : Int) : Ve := ⟨n / 10000 / 10000, n / 10000 % 10000, n % 10000⟩
theorem vd_ok {n : Int} (h : 0 ≤ n ∧ n ≤ 999999999999) : VeOk (vd n) := by
  unfold vd
  exact ⟨⟨by show 0 ≤ n / 10000 / 10000; omega, by show n / 10000 / 10000 ≤ 9999; omega⟩, ⟨by show 0 ≤ n / 10000 % 10000; omega, by show n / 10000 % 10000 ≤ 9999; omega⟩, ⟨by show 0 ≤ n % 10000; omega, by show n % 10000 ≤ 9999; omega⟩⟩
theorem vn_vd (n : Int) : vn (vd n) = n := by
  unfold vn vd
  show (n / 10000 / 10000 * 10000 + n / 10000 % 10000) * 10000 + n % 10000 = n
  omega
def cmpV (x y : Ve) : Int := orI [cmpI x.a y.a, cmpI x.b y.b, cmpI x.c y.c]
theorem cmpV_eq (x y : Ve) : cmpV x y = if x.a < y.a then -1 else if y.a < x.a then 1 else if x.b < y.b then -1 else if y.b < x.b then 1 else if x.c < y.c then -1 else if y.c < x.c then 1 else 0 := by
  unfold cmpV cmpI
  simp only [orI]
  repeat' split
  all_goals first | rfl | omega
theorem cmpV_lt {x y : Ve} (hx : VeOk x) (hy : VeOk y) : cmpV x y < 0 ↔ vn x < vn y := by
  obtain ⟨⟨a1, a2⟩, ⟨b1, b2⟩, ⟨c1, c2⟩⟩ := hx
  obtain ⟨⟨d1, d2⟩, ⟨e1, e2⟩, ⟨f1, f2⟩⟩ := hy
  rw [cmpV_eq]
  unfold vn
  repeat' split
  all_goals constructor <;> intro h <;> omega
theorem cmpV_le {x y : Ve} (hx : VeOk x) (hy : VeOk y) : cmpV x y ≤ 0 ↔ vn x ≤ vn y := by
  obtain ⟨⟨a1, a2⟩, ⟨b1, b2⟩, ⟨c1, c2⟩⟩ := hx
  obtain ⟨⟨d1, d2⟩, ⟨e1, e2⟩, ⟨f1, f2⟩⟩ := hy
  rw [cmpV_eq]
  unfold vn
  repeat' split
  all_goals constructor <;> intro h <;> omega
/-- A range of versions, both ends in it. -/
abbrev Rg := Ve × Ve
structure RgOk (r : Rg) : Prop where
  lo : VeOk r.1
  hi : VeOk r.2
  le : vn r.1 ≤ vn r.2
def inR (r : Rg) (v : Ve) : Bool := decide (vn r.1 ≤ vn v) && decide (vn v ≤ vn r.2)
/-- An image: its version, its models (0: the one that is asked for), its ranges, its size; and where these lie. -/
structure Im where
  v : Ve
  ma : Option Addr
  mc : Nat
  mo : List Nat
  fa : Option Addr
  fc : Nat
  rs : List Rg
  sz : Int
def cov (x : Im) (v : Ve) : Bool := x.rs.any fun r => inR r v
def hasM (x : Im) : Bool := x.mo.any fun i => i == 0
structure ImOk (x : Im) : Prop where
  v : VeOk x.v
  mo : x.mo = [0] ∨ x.mo = [0, 1] ∨ x.mo = [1]
  rl : x.rs.length ≤ 2
  rn : 0 < x.rs.length
  rs : ∀ r ∈ x.rs, RgOk r ∧ vn r.2 < vn x.v
  ro : x.rs.Pairwise fun r s => vn r.2 < vn s.1
  sz : 1 ≤ x.sz ∧ x.sz ≤ 10
structure ImsOk (L : List Im) : Prop where
  len : L.length ≤ 8
  ok : ∀ x ∈ L, ImOk x
  ord : L.Pairwise fun x y => vn x.v < vn y.v
theorem cov_lt {x : Im} {v : Ve} (h : ImOk x) (hc : cov x v = true) : vn v < vn x.v := by
  unfold cov at hc
  obtain ⟨r, hr, h1⟩ := List.any_eq_true.1 hc
  unfold inR at h1
  have h2 := (h.rs r hr).2
  simp only [Bool.and_eq_true, decide_eq_true_eq] at h1
  omega
/-- The images that can be put on a version. -/
def tak (L : List Im) (v : Ve) : List Im := L.filter fun x => hasM x && cov x v
theorem mem_tak {L : List Im} {v : Ve} {x : Im} : x ∈ tak L v ↔ x ∈ L ∧ hasM x = true ∧ cov x v = true := by
  unfold tak
  rw [List.mem_filter, Bool.and_eq_true]
def ownI (L : List Im) : List Im := L.filter hasM
theorem tak_own (L : List Im) (v : Ve) : tak (ownI L) v = tak L v := by
  unfold tak ownI
  rw [List.filter_filter]
  congr 1
  funext x
  cases hasM x <;> simp
theorem ImsOk.filter {L : List Im} (h : ImsOk L) (p : Im → Bool) : ImsOk (L.filter p) :=
  ⟨Nat.le_trans (List.length_filter_le _ _) h.len, fun x hx => h.ok x (List.mem_filter.1 hx).1, h.ord.filter _⟩
/-- A version leads to another one. -/
inductive Rch (L : List Im) (t : Ve) : Ve → Prop
  | self : Rch L t t
  | step {v : Ve} {x : Im} : x ∈ tak L v → Rch L t x.v → Rch L t v
theorem Rch.cases_iff {L : List Im} {t v : Ve} : Rch L t v ↔ v = t ∨ ∃ x ∈ tak L v, Rch L t x.v := by
  constructor
  · intro h
    cases h with
    | self => exact .inl rfl
    | step h1 h2 => exact .inr ⟨_, h1, h2⟩
  · rintro (rfl | ⟨x, h1, h2⟩)
    · exact .self
    · exact .step h1 h2
theorem Rch.own {L : List Im} {t v : Ve} : Rch (ownI L) t v ↔ Rch L t v := by
  constructor
  · intro h
    induction h with
    | self => exact .self
    | step h1 _ ih => rw [tak_own] at h1; exact .step h1 ih
  · intro h
    induction h with
    | self => exact .self
    | step h1 _ ih => exact .step (by rw [tak_own]; exact h1) ih
/-- A way from one version to another one. -/
def wayV (L : List Im) : Ve → List Ve → Ve → Prop
  | v, [], t => v = t
  | v, y :: l, t => (∃ x ∈ tak L v, x.v = y) ∧ wayV L y l t
theorem wayV.snoc {L : List Im} {x : Im} : ∀ {l : List Ve} {v u : Ve}, wayV L v l u → x ∈ tak L u → wayV L v (l ++ [x.v]) x.v
  | [], v, u, h, hx => by
    have h1 : v = u := h
    subst h1
    exact ⟨⟨x, hx, rfl⟩, rfl⟩
  | y :: l, v, u, h, hx => ⟨h.1, wayV.snoc h.2 hx⟩
end Go.Proofs.YtidgicbhgnbidaaGreatDoor
