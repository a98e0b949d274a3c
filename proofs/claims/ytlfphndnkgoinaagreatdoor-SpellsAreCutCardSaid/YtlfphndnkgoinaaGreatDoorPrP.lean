/- Properties as data: ranks of names, values; the plain law of changes; no program in sight. -/
import Derived.Test.YtlfphndnkgoinaaGreatDoorMg0
namespace Go.Proofs.YtlfphndnkgoinaaGreatDoor
open Go.RowKit

structure Pv where
  k : Int
  f : Bool
  n : Int
  s : ByteArray
deriving DecidableEq
def pvNone : Pv := ⟨0, false, 0, ⟨#[]⟩⟩
/-- The names, by rank. -/
def nm (i : Nat) : ByteArray :=
  match i with
  | 0 => ⟨#[97]⟩
  | 1 => ⟨#[97, 46, 120]⟩
  | 2 => ⟨#[97, 46, 120, 46, 112]⟩
  | 3 => ⟨#[97, 46, 121]⟩
  | 4 => ⟨#[97, 98]⟩
  | 5 => ⟨#[98]⟩
  | _ => ⟨#[98, 46, 122]⟩
def wdT (i : Nat) : ByteArray :=
  match i with
  | 0 => ⟨#[]⟩
  | 1 => ⟨#[120]⟩
  | 2 => ⟨#[97, 32, 34, 98, 34]⟩
  | 3 => ⟨#[92]⟩
  | 4 => ⟨#[195, 169]⟩
  | _ => ⟨#[45, 32, 49]⟩
def PvOk (v : Pv) : Prop :=
  (v.k = 1 ∧ v.n = 0 ∧ v.s = ⟨#[]⟩) ∨ (v.k = 2 ∧ v.f = false ∧ v.s = ⟨#[]⟩ ∧ -1000000000 ≤ v.n ∧ v.n ≤ 1000000000) ∨ (v.k = 3 ∧ v.f = false ∧ v.n = 0 ∧ ∃ i, i < 6 ∧ v.s = wdT i)
theorem PvOk.ne {v : Pv} (h : PvOk v) : v ≠ pvNone := by
  rintro rfl
  rcases h with h | h | h <;> simp [pvNone] at h
theorem PvOk.kne {v : Pv} (h : PvOk v) : v.k ≠ 0 := by
  rcases h with h | h | h <;> omega

abbrev Pr := Nat × Pv
def pvC (v : Pv) : List Value := [.int .i64 v.k, .bool v.f, .int .i64 v.n, .string v.s]
def prC (p : Pr) : List Value := [.string (nm p.1), .int .i64 p.2.k, .bool p.2.f, .int .i64 p.2.n, .string p.2.s]
theorem prC_len (p : Pr) : (prC p).length = 5 := rfl
theorem prC_one (p : Pr) : ∀ u ∈ prC p, u.oneCell' = true := by
  intro u hu
  simp only [prC, List.mem_cons, List.not_mem_nil, or_false] at hu
  rcases hu with h | h | h | h | h <;> rw [h] <;> rfl

/-- Lists that rise strictly and have the same members are one. -/
theorem ext_rising {α : Type} (key : α → Nat) : ∀ l m : List α, l.Pairwise (fun x y => key x < key y) → m.Pairwise (fun x y => key x < key y) → (∀ x, x ∈ l ↔ x ∈ m) → l = m
  | [], [], _, _, _ => rfl
  | [], y :: m, _, _, h => absurd ((h y).2 (by simp)) (by simp)
  | x :: l, [], _, _, h => absurd ((h x).1 (by simp)) (by simp)
  | x :: l, y :: m, hl, hm, h => by
    rw [List.pairwise_cons] at hl hm
    have hxy : x = y := by
      rcases List.mem_cons.1 ((h x).1 (by simp)) with e | hx
      · exact e
      · rcases List.mem_cons.1 ((h y).2 (by simp)) with e | hy
        · exact e.symm
        · have h1 := hm.1 x hx
          have h2 := hl.1 y hy
          omega
    subst hxy
    congr 1
    refine ext_rising key l m hl.2 hm.2 (fun z => ⟨fun hz => ?_, fun hz => ?_⟩)
    · rcases List.mem_cons.1 ((h z).1 (List.mem_cons_of_mem _ hz)) with e | hz'
      · subst e
        exact absurd (hl.1 z hz) (Nat.lt_irrefl _)
      · exact hz'
    · rcases List.mem_cons.1 ((h z).2 (List.mem_cons_of_mem _ hz)) with e | hz'
      · subst e
        exact absurd (hm.1 z hz) (Nat.lt_irrefl _)
      · exact hz'
/-- What a list of ranks shows. -/
def frn {β : Type} (g : Nat → Option β) : List β := (List.range 7).filterMap g
theorem range_rising (n : Nat) : (List.range n).Pairwise (· < ·) := List.pairwise_lt_range
theorem frn_rising {β : Type} (key : β → Nat) (g : Nat → Option β) (hg : ∀ i x, g i = some x → key x = i) : (frn g).Pairwise (fun x y => key x < key y) := by
  unfold frn
  refine List.Pairwise.filterMap g ?_ (range_rising 7)
  intro a a' h x hx y hy
  rw [hg _ _ hx, hg _ _ hy]
  exact h
theorem mem_frn {β : Type} (g : Nat → Option β) (x : β) : x ∈ frn g ↔ ∃ i, i < 7 ∧ g i = some x := by
  simp [frn, List.mem_filterMap]

/-- The properties of a function from ranks to values. -/
def prs (v : Nat → Pv) : List Pr := frn (fun i => if v i = pvNone then none else some (i, v i))
theorem mem_prs (v : Nat → Pv) (x : Pr) : x ∈ prs v ↔ x.1 < 7 ∧ v x.1 ≠ pvNone ∧ x.2 = v x.1 := by
  unfold prs
  rw [mem_frn]
  constructor
  · rintro ⟨i, hi, h⟩
    split at h
    · cases h
    · next hn => cases h; exact ⟨hi, hn, rfl⟩
  · rintro ⟨h1, h2, h3⟩
    exact ⟨x.1, h1, by rw [if_neg h2, ← h3]⟩
theorem prs_rising (v : Nat → Pv) : (prs v).Pairwise (fun x y => x.1 < y.1) := by
  refine frn_rising _ _ ?_
  intro i x h
  split at h
  · cases h
  · cases h; rfl
/-- Right lists: they rise, and their values are right. -/
def PrsOk (l : List Pr) : Prop := l.Pairwise (fun x y => x.1 < y.1) ∧ ∀ x ∈ l, x.1 < 7 ∧ PvOk x.2
/-- The value at a rank. -/
def vo (l : List Pr) (i : Nat) : Pv := match l.find? (fun p => p.1 == i) with | some p => p.2 | none => pvNone
theorem vo_mem {l : List Pr} (h : l.Pairwise (fun x y => x.1 < y.1)) {x : Pr} (hx : x ∈ l) : vo l x.1 = x.2 := by
  unfold vo
  cases hf : l.find? (fun p => p.1 == x.1) with
  | none =>
    rw [List.find?_eq_none] at hf
    exact absurd (hf x hx) (by simp)
  | some p =>
    have h1 : p.1 = x.1 := by simpa using List.find?_some hf
    have h2 := List.mem_of_find?_eq_some hf
    simp only
    have : p = x := by
      rw [List.pairwise_iff_getElem] at h
      obtain ⟨i, hi, rfl⟩ := List.getElem_of_mem h2
      obtain ⟨j, hj, rfl⟩ := List.getElem_of_mem hx
      rcases Nat.lt_trichotomy i j with hl | hl | hl
      · have := h i j hi hj hl; omega
      · subst hl; rfl
      · have := h j i hj hi hl; omega
    rw [this]
theorem vo_none {l : List Pr} {i : Nat} (h : ∀ x ∈ l, x.1 ≠ i) : vo l i = pvNone := by
  unfold vo
  rw [List.find?_eq_none.2 (by intro x hx; simpa using h x hx)]
theorem vo_some {l : List Pr} {i : Nat} (h : vo l i ≠ pvNone) : ∃ x ∈ l, x.1 = i ∧ x.2 = vo l i := by
  unfold vo at h ⊢
  cases hf : l.find? (fun p => p.1 == i) with
  | none => rw [hf] at h; exact absurd rfl h
  | some p => exact ⟨p, List.mem_of_find?_eq_some hf, by simpa using List.find?_some hf, rfl⟩
theorem PrsOk.prs {l : List Pr} (h : PrsOk l) : l = prs (vo l) := by
  refine ext_rising (·.1) _ _ h.1 (prs_rising _) (fun x => ?_)
  rw [mem_prs]
  constructor
  · intro hx
    have e := vo_mem h.1 hx
    have := h.2 x hx
    exact ⟨this.1, by rw [e]; exact this.2.ne, e.symm⟩
  · rintro ⟨h1, h2, h3⟩
    obtain ⟨y, hy, hy1, hy2⟩ := vo_some h2
    have : x = y := Prod.ext hy1.symm (by rw [h3, hy2])
    rw [this]; exact hy
theorem vo_prs (v : Nat → Pv) (i : Nat) (hi : i < 7) : vo (prs v) i = v i := by
  by_cases hv : v i = pvNone
  · rw [vo_none, hv]
    intro x hx e
    rw [mem_prs] at hx
    rw [e] at hx
    exact hx.2.1 hv
  · exact vo_mem (x := (i, v i)) (prs_rising v) ((mem_prs v _).2 ⟨hi, hv, rfl⟩)
theorem prs_ok {v : Nat → Pv} (h : ∀ i, i < 7 → v i = pvNone ∨ PvOk (v i)) : PrsOk (prs v) := by
  refine ⟨prs_rising v, fun x hx => ?_⟩
  rw [mem_prs] at hx
  refine ⟨hx.1, ?_⟩
  rw [hx.2.2]
  rcases h x.1 hx.1 with e | e
  · exact absurd e hx.2.1
  · exact e
theorem PrsOk.vo {l : List Pr} (h : PrsOk l) (i : Nat) : vo l i = pvNone ∨ PvOk (vo l i) := by
  by_cases e : Go.Proofs.YtlfphndnkgoinaaGreatDoor.vo l i = pvNone
  · exact .inl e
  · obtain ⟨x, hx, _, hx2⟩ := vo_some e
    rw [← hx2]
    exact .inr (h.2 x hx).2
/-- Changes. -/
abbrev Ch := Nat × Pv × Pv
def chs (v w : Nat → Pv) : List Ch := frn (fun i => if v i = w i then none else some (i, v i, w i))
theorem mem_chs (v w : Nat → Pv) (x : Ch) : x ∈ chs v w ↔ x.1 < 7 ∧ v x.1 ≠ w x.1 ∧ x.2 = (v x.1, w x.1) := by
  unfold chs
  rw [mem_frn]
  constructor
  · rintro ⟨i, hi, h⟩
    split at h
    · cases h
    · next hn => cases h; exact ⟨hi, hn, rfl⟩
  · rintro ⟨h1, h2, h3⟩
    exact ⟨x.1, h1, by rw [if_neg h2, ← h3]⟩
theorem chs_rising (v w : Nat → Pv) : (chs v w).Pairwise (fun x y => x.1 < y.1) := by
  refine frn_rising _ _ ?_
  intro i x h
  split at h
  · cases h
  · cases h; rfl
theorem chs_turn (v w : Nat → Pv) : (chs v w).map (fun x => (x.1, x.2.2, x.2.1)) = chs w v := by
  refine ext_rising (·.1) _ _ ?_ (chs_rising _ _) (fun x => ?_)
  · rw [List.pairwise_map]; exact chs_rising v w
  · rw [List.mem_map, mem_chs]
    constructor
    · rintro ⟨y, hy, rfl⟩
      rw [mem_chs] at hy
      obtain ⟨h1, h2, h3⟩ := hy
      exact ⟨h1, fun e => h2 e.symm, by rw [h3]⟩
    · rintro ⟨h1, h2, h3⟩
      refine ⟨(x.1, v x.1, w x.1), (mem_chs _ _ _).2 ⟨h1, fun e => h2 e.symm, rfl⟩, ?_⟩
      exact Prod.ext rfl h3.symm
theorem fm_congr {α β : Type} {f g : α → Option β} : ∀ l : List α, (∀ x ∈ l, f x = g x) → l.filterMap f = l.filterMap g
  | [], _ => rfl
  | x :: l, h => by
    rw [List.filterMap_cons, List.filterMap_cons, h x (by simp), fm_congr l (fun y hy => h y (List.mem_cons_of_mem _ hy))]
/-- The names of lists. -/
def nmsF (ls : List (List Pr)) : List Nat := (List.range 7).filter (fun i => ls.any (fun l => l.any (fun p => p.1 == i)))
theorem mem_nmsF (ls : List (List Pr)) (i : Nat) : i ∈ nmsF ls ↔ i < 7 ∧ ∃ l ∈ ls, ∃ p ∈ l, p.1 = i := by
  simp [nmsF, List.mem_filter]
theorem nmsF_rising (ls : List (List Pr)) : (nmsF ls).Pairwise (· < ·) := List.Pairwise.filter _ (range_rising 7)
theorem nmsF_frn {β : Type} (ls : List (List Pr)) (g : Nat → Option β) (h : ∀ i, i < 7 → (∀ l ∈ ls, ∀ p ∈ l, p.1 ≠ i) → g i = none) : (nmsF ls).filterMap g = frn g := by
  unfold nmsF frn
  rw [List.filterMap_filter]
  refine fm_congr _ ?_
  intro i hi
  rw [List.mem_range] at hi
  split
  · rfl
  · next hn =>
    symm
    refine h i hi ?_
    intro l hl p hp e
    exact hn (by simp only [List.any_eq_true]; exact ⟨l, hl, p, hp, by simpa using e⟩)
/-- The changes, as they are found by names. -/
theorem differ_chs {a b : List Pr} : (nmsF [a, b]).filterMap (fun i => if vo a i = vo b i then none else some (i, vo a i, vo b i)) = chs (vo a) (vo b) := by
  refine nmsF_frn _ _ ?_
  intro i _ h
  rw [vo_none (h a (by simp)), vo_none (h b (by simp)), if_pos rfl]
/-- What is left, and what comes, once sorted, is the other list. -/
theorem apply_prs (v w : Nat → Pv) (m : List Pr)
    (hp : m.Perm ((prs v).filter (fun p => !(chs v w).any (fun c => c.1 == p.1)) ++ (chs v w).filterMap (fun c => if c.2.2 = pvNone then none else some (c.1, c.2.2))))
    (hs : m.Pairwise (fun x y => x.1 ≤ y.1)) : m = prs w := by
  have hmem : ∀ x, x ∈ m ↔ x ∈ prs w := by
    intro x
    rw [hp.mem_iff, List.mem_append, List.mem_filter, List.mem_filterMap, mem_prs, mem_prs]
    constructor
    · rintro (⟨⟨h1, h2, h3⟩, h4⟩ | ⟨c, hc, h⟩)
      · have e : v x.1 = w x.1 := by
          by_cases e : v x.1 = w x.1
          · exact e
          · have : (chs v w).any (fun c => c.1 == x.1) = true := by
              rw [List.any_eq_true]
              exact ⟨(x.1, v x.1, w x.1), (mem_chs _ _ _).2 ⟨h1, e, rfl⟩, by simp⟩
            rw [this] at h4; simp at h4
        rw [← e]
        exact ⟨h1, h2, h3⟩
      · rw [mem_chs] at hc
        obtain ⟨h1, h2, h3⟩ := hc
        split at h
        · cases h
        · next hn =>
          cases h
          rw [h3] at hn ⊢
          exact ⟨h1, hn, rfl⟩
    · rintro ⟨h1, h2, h3⟩
      by_cases e : v x.1 = w x.1
      · refine .inl ⟨⟨h1, by rw [e]; exact h2, by rw [e]; exact h3⟩, ?_⟩
        have : (chs v w).any (fun c => c.1 == x.1) = false := by
          rw [List.any_eq_false]
          intro c hc hcx
          rw [mem_chs] at hc
          have : c.1 = x.1 := by simpa using hcx
          rw [this] at hc
          exact hc.2.1 e
        rw [this]; rfl
      · refine .inr ⟨(x.1, v x.1, w x.1), (mem_chs _ _ _).2 ⟨h1, e, rfl⟩, ?_⟩
        simp only
        rw [if_neg h2, ← h3]
  have hnd : m.Pairwise (fun x y => x.1 ≠ y.1) := by
    refine (hp.pairwise_iff (fun h => Ne.symm h)).2 ?_
    rw [List.pairwise_append]
    refine ⟨?_, ?_, ?_⟩
    · exact ((prs_rising v).imp (fun h => Nat.ne_of_lt h)).filter _
    · refine List.Pairwise.filterMap _ ?_ ((chs_rising v w).imp (fun h => Nat.ne_of_lt h))
      intro c c' h x hx y hy
      split at hx
      · cases hx
      · split at hy
        · cases hy
        · cases hx; cases hy; exact h
    · intro x hx y hy e
      rw [List.mem_filter] at hx
      rw [List.mem_filterMap] at hy
      obtain ⟨c, hc, h⟩ := hy
      split at h
      · cases h
      · cases h
        have : (chs v w).any (fun c => c.1 == x.1) = true := by
          rw [List.any_eq_true]
          exact ⟨c, hc, by simpa using e.symm⟩
        rw [this] at hx; simp at hx
  refine ext_rising (·.1) _ _ ?_ (prs_rising w) hmem
  exact (hs.and hnd).imp (fun h => by omega)
/-- What two sides make of one base. -/
def thV (o x y : Pv) : Pv := if x = o ∨ x = y then y else if y = o then x else o
def thK (o x y : Pv) : Bool := !(decide (x = o) || decide (x = y) || decide (y = o))
theorem thV_turn (o x y : Pv) : thV o x y = thV o y x := by
  unfold thV
  by_cases h1 : x = o <;> by_cases h2 : y = o <;> by_cases h3 : x = y
  all_goals (simp_all; try (intro h; exact absurd h.symm h3))
theorem thK_turn (o x y : Pv) : thK o x y = thK o y x := by
  unfold thK
  by_cases h1 : x = o <;> by_cases h2 : y = o <;> by_cases h3 : x = y
  all_goals simp_all [eq_comm]
theorem thV_same (o x : Pv) : thV o x o = x := by
  unfold thV
  by_cases h1 : x = o <;> simp_all
theorem thV_or (o x y : Pv) : thV o x y = o ∨ thV o x y = x ∨ thV o x y = y := by
  unfold thV
  split
  · exact .inr (.inr rfl)
  · split
    · exact .inr (.inl rfl)
    · exact .inl rfl
theorem three_prs {o a b : List Pr} : (nmsF [o, a, b]).filterMap (fun i => if thV (vo o i) (vo a i) (vo b i) = pvNone then none else some (i, thV (vo o i) (vo a i) (vo b i))) = prs (fun i => thV (vo o i) (vo a i) (vo b i)) := by
  refine nmsF_frn _ _ ?_
  intro i _ h
  rw [vo_none (h o (by simp)), vo_none (h a (by simp)), vo_none (h b (by simp))]
  rfl
end Go.Proofs.YtlfphndnkgoinaaGreatDoor
