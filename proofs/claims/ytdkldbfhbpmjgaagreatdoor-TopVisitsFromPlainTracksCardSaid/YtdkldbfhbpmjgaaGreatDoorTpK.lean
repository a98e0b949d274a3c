/- TracksStayPlain: the plain law of what is kept. -/
import Derived.Test.YtdkldbfhbpmjgaaGreatDoorTpP
namespace Go.Proofs.YtdkldbfhbpmjgaaGreatDoor
open Go.RowKit

def alongW (a b s : Fx) : Int := (s.2.1 - a.2.1) * (b.2.1 - a.2.1) + (s.2.2.1 - a.2.2.1) * (b.2.2.1 - a.2.2.1)
def longW (a b : Fx) : Int := (b.2.1 - a.2.1) * (b.2.1 - a.2.1) + (b.2.2.1 - a.2.2.1) * (b.2.2.1 - a.2.2.1)
def crossW (a b s : Fx) : Int := (b.2.1 - a.2.1) * (s.2.2.1 - a.2.2.1) - (b.2.2.1 - a.2.2.1) * (s.2.1 - a.2.1)
/-- Is a fix not farther than told from the way between two others? -/
def nearW (far : Int) (a b s : Fx) : Prop :=
  if alongW a b s ≤ 0 then sq2 s.2.1 s.2.2.1 a.2.1 a.2.2.1 ≤ far * far
  else if longW a b ≤ alongW a b s then sq2 s.2.1 s.2.2.1 b.2.1 b.2.2.1 ≤ far * far
  else crossW a b s * crossW a b s ≤ far * far * longW a b
/-- The square of the distance from a way, as a fraction. -/
def farIs (a b s : Fx) (p q : Int) : Prop :=
  if alongW a b s ≤ 0 then p = sq2 a.2.1 a.2.2.1 s.2.1 s.2.2.1 ∧ q = 1
  else if longW a b ≤ alongW a b s then p = sq2 b.2.1 b.2.2.1 s.2.1 s.2.2.1 ∧ q = 1
  else ∃ g, 1 ≤ g ∧ p * g = crossW a b s * crossW a b s ∧ q * g = longW a b ∧ 1 ≤ q
theorem nearW_of {far : Int} {a b s : Fx} {p q : Int} (h : farIs a b s p q) (hp : p ≤ far * far * q) : nearW far a b s := by
  unfold farIs at h
  unfold nearW
  split
  · rename_i h1
    rw [if_pos h1] at h
    rw [sq2_symm, ← h.1]
    rw [h.2] at hp
    omega
  · rename_i h1
    rw [if_neg h1] at h
    split
    · rename_i h2
      rw [if_pos h2] at h
      rw [sq2_symm, ← h.1]
      rw [h.2] at hp
      omega
    · rename_i h2
      rw [if_neg h2] at h
      obtain ⟨g, hg, e1, e2, _⟩ := h
      rw [← e1, ← e2, ← Int.mul_assoc]
      exact Int.mul_le_mul_of_nonneg_right hp (by omega)

/-- From i to k all is near the way between what is kept. -/
structure GoodK (far : Int) (l : List Fx) (B : List Bool) (i k : Nat) : Prop where
  fst : B[i]? = some true
  lst : B[k]? = some true
  near : ∀ p q : Nat, i ≤ p → p < q → q ≤ k → B[p]? = some true → B[q]? = some true → (∀ m, p < m → m < q → B[m]? = some false) → ∀ m, p < m → m < q → nearW far (getF l p) (getF l q) (getF l m)
/-- What the marks from i to k are turned to. -/
structure Btw (far : Int) (l : List Fx) (B B' : List Bool) (i k : Nat) : Prop where
  len : B'.length = B.length
  out : ∀ m, m < i ∨ k < m → B'[m]? = B[m]?
  good : GoodK far l B' i k
theorem set2_get (B : List Bool) (i k m : Nat) (hi : i < B.length) (hk : k < B.length) : ((B.set i true).set k true)[m]? = if m = i ∨ m = k then some true else B[m]? := by
  rw [List.getElem?_set, List.getElem?_set, List.length_set]
  by_cases h1 : k = m
  · subst h1; simp [hk]
  · by_cases h2 : i = m
    · subst h2; simp [h1, hi]
    · rw [if_neg h1, if_neg h2, if_neg (by omega)]
theorem Btw.base {far : Int} {l : List Fx} {B : List Bool} {i k : Nat} (hik : i ≤ k) (hk : k < B.length) (hn : ∀ m, i < m → m < k → nearW far (getF l i) (getF l k) (getF l m)) (hb : ∀ m, i < m → m < k → B[m]? = some false) :
    Btw far l B ((B.set i true).set k true) i k := by
  have hs := fun m => set2_get B i k m (by omega) hk
  refine ⟨by simp, ?_, ?_, ?_, ?_⟩
  · intro m hm; rw [hs, if_neg (by omega)]
  · rw [hs, if_pos (Or.inl rfl)]
  · rw [hs, if_pos (Or.inr rfl)]
  · intro p q hp hpq hq h1 h2 _ m hm1 hm2
    have hpe : p = i := by
      rcases Nat.lt_or_ge i p with h | h
      · have hb := hb p h (by omega)
        rw [hs, if_neg (by omega), hb] at h1
        cases h1
      · omega
    have hqe : q = k := by
      rcases Nat.lt_or_ge q k with h | h
      · have hb := hb q (by omega) h
        rw [hs, if_neg (by omega), hb] at h2
        cases h2
      · omega
    subst hpe hqe
    exact hn m hm1 hm2
theorem Btw.join {far : Int} {l : List Fx} {B B1 B2 : List Bool} {i b k : Nat} (hib : i < b) (hbk : b < k) (hk : k < B.length) (h1 : Btw far l ((B.set i true).set k true) B1 i b) (h2 : Btw far l B1 B2 b k) : Btw far l B B2 i k := by
  have hs := fun m => set2_get B i k m (by omega) hk
  have hB2 : ∀ m, m ≤ b → B2[m]? = B1[m]? := by
    intro m hm
    rcases Nat.lt_or_ge m b with h | h
    · exact h2.out m (Or.inl h)
    · obtain rfl : m = b := by omega
      rw [h2.good.fst, h1.good.lst]
  refine ⟨by rw [h2.len, h1.len]; simp, ?_, ?_, h2.good.lst, ?_⟩
  · intro m hm
    rw [h2.out m (by omega), h1.out m (by omega), hs, if_neg (by omega)]
  · rw [hB2 i (by omega)]; exact h1.good.fst
  · intro p q hp hpq hq e1 e2 hb m hm1 hm2
    rcases Nat.lt_or_ge b q with h | h
    · rcases Nat.lt_or_ge p b with h' | h'
      · have := hb b h' h
        rw [h2.good.fst] at this
        cases this
      · exact h2.good.near p q h' hpq hq e1 e2 hb m hm1 hm2
    · refine h1.good.near p q hp hpq h ?_ ?_ ?_ m hm1 hm2
      · rw [← hB2 p (by omega)]; exact e1
      · rw [← hB2 q h]; exact e2
      · intro m h3 h4; rw [← hB2 m (by omega)]; exact hb m h3 h4

/-- The numbers of what is kept, of the first j. -/
def kI (B : List Bool) (j : Nat) : List Nat := (List.range j).filter fun m => B.getD m false
theorem kI_succ (B : List Bool) (j : Nat) : kI B (j + 1) = if B.getD j false then kI B j ++ [j] else kI B j := by
  simp only [kI, List.range_succ, List.filter_append]
  split <;> simp_all
theorem kI_mem {B : List Bool} {j m : Nat} : m ∈ kI B j ↔ m < j ∧ B.getD m false = true := by simp [kI]
theorem kI_sorted (B : List Bool) (j : Nat) : (kI B j).Pairwise (· < ·) := List.pairwise_lt_range.filter _
theorem kI_length (B : List Bool) (j : Nat) : (kI B j).length ≤ j := by
  have := List.length_filter_le (fun m => B.getD m false) (List.range j)
  simpa [kI] using this
theorem getD_true {B : List Bool} {m : Nat} (h : B[m]? = some true) : B.getD m false = true := by simp [List.getD, h]
theorem getD_some {B : List Bool} {m : Nat} (h : B.getD m false = true) : B[m]? = some true := by
  simp only [List.getD] at h
  cases e : B[m]? with
  | none => rw [e] at h; simp at h
  | some b => rw [e] at h; simp at h; rw [h]
/-- All that the law asks of the numbers. -/
structure KeptF (far : Int) (l : List Fx) (n : Nat) (is : List Nat) : Prop where
  sorted : is.Pairwise (· < ·)
  lt : ∀ i ∈ is, i < n
  head : is[0]? = some 0
  last : is[is.length - 1]? = some (n - 1)
  near : ∀ (c p q : Nat), is[c]? = some p → is[c + 1]? = some q → ∀ m, p < m → m < q → nearW far (getF l p) (getF l q) (getF l m)
theorem sorted_get {is : List Nat} (h : is.Pairwise (· < ·)) {a b p q : Nat} (hab : a < b) (hp : is[a]? = some p) (hq : is[b]? = some q) : p < q := by
  rw [List.pairwise_iff_getElem] at h
  obtain ⟨a1, a2⟩ := List.getElem?_eq_some_iff.1 hp
  obtain ⟨b1, b2⟩ := List.getElem?_eq_some_iff.1 hq
  have := h a b a1 b1 hab
  rw [a2, b2] at this
  exact this
theorem kept_of {far : Int} {l : List Fx} {B : List Bool} {n : Nat} (hn : 0 < n) (hl : B.length = n) (h : GoodK far l B 0 (n - 1)) : KeptF far l n (kI B n) := by
  have hs := kI_sorted B n
  have hget : ∀ {m : Nat}, m ∈ kI B n → ∃ c, (kI B n)[c]? = some m := fun hm => List.getElem?_of_mem hm
  refine ⟨hs, fun i hi => (kI_mem.1 hi).1, ?_, ?_, ?_⟩
  · obtain ⟨c, hc⟩ := hget (kI_mem.2 ⟨hn, getD_true h.fst⟩)
    rcases Nat.eq_zero_or_pos c with h0 | h0
    · rw [h0] at hc; exact hc
    · have hl0 : 0 < (kI B n).length := by have := (List.getElem?_eq_some_iff.1 hc).1; omega
      have := sorted_get hs h0 (List.getElem?_eq_getElem hl0) hc
      omega
  · obtain ⟨c, hc⟩ := hget (kI_mem.2 ⟨show n - 1 < n by omega, getD_true h.lst⟩)
    have hcl := (List.getElem?_eq_some_iff.1 hc).1
    rcases Nat.lt_or_ge c ((kI B n).length - 1) with h0 | h0
    · have hg := List.getElem?_eq_getElem (show (kI B n).length - 1 < (kI B n).length by omega)
      have := sorted_get hs h0 hc hg
      have := (kI_mem.1 (List.mem_of_getElem? hg)).1
      omega
    · obtain rfl : c = (kI B n).length - 1 := by omega
      exact hc
  · intro c p q hp hq m hm1 hm2
    have hpq := sorted_get hs (Nat.lt_succ_self c) hp hq
    have hpm := kI_mem.1 (List.mem_of_getElem? hp)
    have hqm := kI_mem.1 (List.mem_of_getElem? hq)
    refine h.near p q (Nat.zero_le _) hpq (by omega) (getD_some hpm.2) (getD_some hqm.2) ?_ m hm1 hm2
    intro m h3 h4
    have hml : m < B.length := by omega
    rw [List.getElem?_eq_getElem hml]
    cases e : B[m] with
    | false => rfl
    | true =>
      exfalso
      obtain ⟨d, hd⟩ := hget (m := m) (kI_mem.2 ⟨by omega, by simp [List.getD, List.getElem?_eq_getElem hml, e]⟩)
      rcases Nat.lt_trichotomy d c with h5 | h5 | h5
      · have := sorted_get hs h5 hd hp; omega
      · subst h5; rw [hp] at hd; injection hd with hd; omega
      · rcases Nat.lt_trichotomy d (c + 1) with h6 | h6 | h6
        · omega
        · subst h6; rw [hq] at hd; injection hd with hd; omega
        · have := sorted_get hs h6 hq hd; omega
end Go.Proofs.YtdkldbfhbpmjgaaGreatDoor
