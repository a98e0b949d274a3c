/- Cells that nobody needs left out: the plain law of Compact; no program in sight. -/
import Derived.Test.YtccbblnlmggjbaaGreatDoorCeV
import Derived.Test.YtccbblnlmggjbaaGreatDoorCeQ
namespace Go.Proofs.YtccbblnlmggjbaaGreatDoor
open Go.RowKit

def oldC (t : Int) (x : Ce) : Bool := decide (x.2.2.at_ < t)
def hidO (l : List Ce) (t : Int) (y : Ce) : Bool := l.any (fun x => hdF x y && oldC t x)
def lfF (l : List Ce) (t : Int) : List Ce := l.filter (fun y => !hidO l t y)
def cpKeep (left : List Ce) (t : Int) (y : Ce) : Bool := hasV y || !oldC t y || left.any (fun x => blN x.1 y.1)
def cpL (l : List Ce) (t : Int) : List Ce := (lfF l t).filter (cpKeep (lfF l t) t)
theorem CsOk.filter {l : List Ce} (h : CsOk l) (f : Ce → Bool) : CsOk (l.filter f) := ⟨h.1.filter _, fun x hx => h.2 x (List.mem_filter.1 hx).1⟩
theorem cpL_ok {l : List Ce} (h : CsOk l) (t : Int) : CsOk (cpL l t) := (h.filter _).filter _
theorem cpL_len (l : List Ce) (t : Int) : (cpL l t).length ≤ l.length := Nat.le_trans (List.length_filter_le _ _) (List.length_filter_le _ _)
theorem sk_at {s u : Sp} (hs : SpOk s) (hu : SpOk u) (h : sk s ≤ sk u) : s.at_ ≤ u.at_ := by
  obtain ⟨h1, h2, h3, h4, h5⟩ := hs
  obtain ⟨g1, g2, g3, g4, g5⟩ := hu
  simp only [sk] at h
  omega
theorem hdF_sk {x y : Ce} (h : hdF x y = true) : sk y.2.2 ≤ sk x.2.2 := by
  unfold hdF at h
  by_cases h1 : sk y.2.2 < sk x.2.2
  · omega
  · rw [if_neg h1] at h
    by_cases h2 : sk x.2.2 = sk y.2.2
    · omega
    · rw [if_neg h2] at h; cases h
theorem cpL_sub {l : List Ce} {t : Int} {x : Ce} (h : x ∈ cpL l t) : x ∈ l ∧ hidO l t x = false := by
  unfold cpL lfF at h
  rw [List.mem_filter, List.mem_filter] at h
  exact ⟨h.1.1, by simpa using h.1.2⟩
theorem cpL_young {l : List Ce} {t : Int} (hl : CsOk l) {x : Ce} (hx : x ∈ l) (ho : oldC t x = false) : x ∈ cpL l t := by
  have hh : hidO l t x = false := by
    unfold hidO
    rw [List.any_eq_false]
    intro z hz hc
    rw [Bool.and_eq_true] at hc
    have h1 := sk_at (hl.2 x hx).2.2 (hl.2 z hz).2.2 (hdF_sk hc.1)
    have h2 := hc.2
    unfold oldC at h2 ho
    rw [decide_eq_true_iff] at h2
    rw [decide_eq_false_iff_not] at ho
    omega
  unfold cpL lfF
  rw [List.mem_filter, List.mem_filter]
  refine ⟨⟨hx, by rw [hh]; rfl⟩, ?_⟩
  unfold cpKeep
  rw [ho]
  simp
theorem cpL_has {l : List Ce} {t : Int} {x : Ce} (hx : x ∈ l) (hh : hidO l t x = false) (hv : hasV x = true) : x ∈ cpL l t := by
  unfold cpL lfF
  rw [List.mem_filter, List.mem_filter]
  refine ⟨⟨hx, by rw [hh]; rfl⟩, ?_⟩
  unfold cpKeep
  rw [hv]
  rfl
theorem isVi_iff {l : List Ce} {y : Ce} : isVi l y = true ↔ hasV y = true ∧ ∀ x ∈ l, hdF x y = false := by
  unfold isVi
  rw [Bool.and_eq_true, Bool.not_eq_true', List.any_eq_false]
  simp
theorem vi_ext {l m : List Ce} (hl : CsOk l) (hm : CsOk m) (h : ∀ y, (y ∈ l ∧ isVi l y = true) ↔ (y ∈ m ∧ isVi m y = true)) : viF l = viF m := by
  have e : l.filter (isVi l) = m.filter (isVi m) := by
    refine ext_rising (·.1) _ _ (hl.1.filter _) (hm.1.filter _) (fun x => ?_)
    rw [List.mem_filter, List.mem_filter]
    exact h x
  unfold viF
  rw [e]
theorem cpL_vis {l : List Ce} {t : Int} (hl : CsOk l) : viF (cpL l t) = viF l := by
  refine vi_ext (cpL_ok hl t) hl (fun y => ⟨?_, ?_⟩)
  · rintro ⟨h1, h2⟩
    rw [isVi_iff] at h2
    obtain ⟨hy, hh⟩ := cpL_sub h1
    refine ⟨hy, isVi_iff.2 ⟨h2.1, fun x hx => ?_⟩⟩
    cases hd : hdF x y with
    | false => rfl
    | true =>
      cases ho : oldC t x with
      | true =>
        unfold hidO at hh
        rw [List.any_eq_false] at hh
        have := hh x hx
        rw [hd, ho] at this
        simp at this
      | false =>
        have := h2.2 x (cpL_young hl hx ho)
        rw [hd] at this
        cases this
  · rintro ⟨h1, h2⟩
    rw [isVi_iff] at h2
    have hh : hidO l t y = false := by
      unfold hidO
      rw [List.any_eq_false]
      intro x hx
      rw [h2.2 x hx]
      simp
    exact ⟨cpL_has h1 hh h2.1, isVi_iff.2 ⟨h2.1, fun x hx => h2.2 x (cpL_sub hx).1⟩⟩
theorem mem_mgL {a b : List Ce} (x : Ce) : x ∈ mgL a b ↔ x.1 < 7 ∧ mg (co a x.1) (co b x.1) = some x.2 := mem_cs _ _
theorem co_iff {l : List Ce} (h : CsOk l) (i : Nat) (c : Cv) : co l i = some c ↔ (i, c) ∈ l := ⟨co_some, fun hx => co_mem h.1 hx⟩
theorem mgL_or {a b : List Ce} {x : Ce} (h : x ∈ mgL a b) : x ∈ a ∨ x ∈ b := by
  rw [mem_mgL] at h
  obtain ⟨_, h⟩ := h
  cases ha : co a x.1 with
  | none => rw [ha, mg_none_l] at h; exact .inr (co_some h)
  | some c =>
    cases hb : co b x.1 with
    | none => rw [ha, hb, mg_none_r] at h; cases h; exact .inl (co_some ha)
    | some d =>
      rw [ha, hb, mg_some] at h
      split at h
      · cases h; exact .inr (co_some hb)
      · cases h; exact .inl (co_some ha)
theorem mgL_left {a b : List Ce} (ha : CsOk a) {z : Ce} (hz : z ∈ a) : ∃ z' ∈ mgL a b, z'.1 = z.1 ∧ (z' = z ∨ sk z.2.2 < sk z'.2.2) := by
  have hc := co_mem ha.1 hz
  have h7 := (ha.2 z hz).1
  cases hb : co b z.1 with
  | none => exact ⟨z, (mem_mgL z).2 ⟨h7, by rw [hc, hb, mg_none_r]⟩, rfl, .inl rfl⟩
  | some d =>
    by_cases h : sk z.2.2 < sk d.2
    · exact ⟨(z.1, d), (mem_mgL _).2 ⟨h7, by rw [hc, hb, mg_some, if_pos h]⟩, rfl, .inr h⟩
    · exact ⟨z, (mem_mgL z).2 ⟨h7, by rw [hc, hb, mg_some, if_neg h]⟩, rfl, .inl rfl⟩
theorem hdF_more {z z' y : Ce} (h : hdF z y = true) (h1 : z'.1 = z.1) (h2 : sk z.2.2 < sk z'.2.2) (hy : hasV y = true) : hdF z' y = true := by
  have hs := hdF_sk h
  unfold hdF at h ⊢
  rw [if_pos (by omega), h1, hy]
  by_cases g1 : sk y.2.2 < sk z.2.2
  · rw [if_pos g1, hy] at h
    exact h
  · rw [if_neg g1] at h
    by_cases g2 : sk z.2.2 = sk y.2.2
    · rw [if_pos g2, Bool.and_eq_true, Bool.and_eq_true] at h
      rw [h.1.1]
      rfl
    · rw [if_neg g2] at h; cases h
section
variable {a b : List Ce} {t : Int}
theorem cpL_co (ha : CsOk a) (i : Nat) : co (cpL a t) i = none ∨ co (cpL a t) i = co a i := by
  cases hc : co (cpL a t) i with
  | none => exact .inl rfl
  | some c =>
    right
    exact (co_mem (x := (i, c)) ha.1 (cpL_sub (co_some hc)).1).symm
theorem cpL_cfl (ha : CsOk a) (h : cfL a b = false) : cfL (cpL a t) b = false := by
  unfold cfL
  rw [List.any_eq_false]
  intro i hi hc
  rcases cpL_co (t := t) ha i with e | e
  · rw [e, cfl_none_l] at hc; cases hc
  · rw [e, cfL_false h i (List.mem_range.1 hi)] at hc; cases hc
theorem young_of {x : Cv} {y : Cv} (hx : CvOk x) (hy : CvOk y) (hyt : t ≤ y.2.at_) (h : ¬ sk x.2 < sk y.2) (i : Nat) : oldC t (i, x) = false := by
  have := sk_at hy.2 hx.2 (by omega)
  unfold oldC
  rw [decide_eq_false_iff_not]
  simp only
  omega
theorem mgC_sub (ha : CsOk a) (hb : CsOk b) (hbt : ∀ x ∈ b, t ≤ x.2.2.at_) {y : Ce} (h : y ∈ mgL (cpL a t) b) : y ∈ mgL a b := by
  rw [mem_mgL] at h ⊢
  refine ⟨h.1, ?_⟩
  rcases cpL_co (t := t) ha y.1 with e | e
  · have h2 := h.2
    rw [e, mg_none_l] at h2
    rw [h2]
    cases hc : co a y.1 with
    | none => rfl
    | some c =>
      rw [mg_some]
      by_cases g : sk c.2 < sk y.2.2
      · rw [if_pos g]
      · have hyb := co_some h2
        have ho := young_of (ha.co hc).2 (hb.co h2).2 (hbt _ hyb) g y.1
        have hm := cpL_young ha (co_some hc) ho
        have := co_mem (cpL_ok ha t).1 hm
        simp only at this
        rw [e] at this
        cases this
  · rw [← e]; exact h.2
theorem mgC_out (ha : CsOk a) (hb : CsOk b) (hbt : ∀ x ∈ b, t ≤ x.2.2.at_) {x : Ce} (h : x ∈ mgL a b) (hn : x ∉ mgL (cpL a t) b) : x ∈ a ∧ x ∉ cpL a t := by
  rw [mem_mgL] at h hn
  have h7 := h.1
  have h2 := h.2
  have hn2 : ¬ mg (co (cpL a t) x.1) (co b x.1) = some x.2 := fun k => hn ⟨h7, k⟩
  cases hcb : co b x.1 with
  | none =>
    rw [hcb, mg_none_r] at h2 hn2
    exact ⟨co_some h2, fun k => hn2 (co_mem (cpL_ok ha t).1 k)⟩
  | some d =>
    rw [hcb] at h2 hn2
    cases hca : co a x.1 with
    | none =>
      rw [hca, mg_none_l] at h2
      rcases cpL_co (t := t) ha x.1 with e | e
      · rw [e, mg_none_l] at hn2; exact absurd h2 hn2
      · rw [e, hca, mg_none_l] at hn2; exact absurd h2 hn2
    | some c =>
      rw [hca, mg_some] at h2
      by_cases g : sk c.2 < sk d.2
      · rw [if_pos g] at h2
        rcases cpL_co (t := t) ha x.1 with e | e
        · rw [e, mg_none_l] at hn2; exact absurd h2 hn2
        · rw [e, hca, mg_some, if_pos g] at hn2; exact absurd h2 hn2
      · rw [if_neg g] at h2
        have ho := young_of (ha.co hca).2 (hb.co hcb).2 (hbt _ (co_some hcb)) g x.1
        have hm := co_mem (cpL_ok ha t).1 (cpL_young ha (co_some hca) ho)
        simp only at hm
        rw [hm, mg_some, if_neg g] at hn2
        exact absurd h2 hn2
theorem compact_merge (ha : CsOk a) (hb : CsOk b) (hbt : ∀ x ∈ b, t ≤ x.2.2.at_) : viF (mgL (cpL a t) b) = viF (mgL a b) := by
  refine vi_ext (mgL_ok (cpL_ok ha t) hb) (mgL_ok ha hb) (fun y => ⟨?_, ?_⟩)
  · rintro ⟨h1, h2⟩
    rw [isVi_iff] at h2
    refine ⟨mgC_sub ha hb hbt h1, isVi_iff.2 ⟨h2.1, fun x hx => ?_⟩⟩
    cases hd : hdF x y with
    | false => rfl
    | true =>
      by_cases hxD : x ∈ mgL (cpL a t) b
      · have := h2.2 x hxD
        rw [hd] at this; cases this
      · obtain ⟨hxa, hxc⟩ := mgC_out ha hb hbt hx hxD
        have hox : oldC t x = true := by
          cases ho : oldC t x with
          | true => rfl
          | false => exact absurd (cpL_young ha hxa ho) hxc
        have hyok := (mgL_ok (cpL_ok ha t) hb).2 y h1
        have hat := sk_at hyok.2.2 (ha.2 x hxa).2.2 (hdF_sk hd)
        have hot : x.2.2.at_ < t := by unfold oldC at hox; simpa using hox
        rcases mgL_or h1 with hy | hy
        · have hh := (cpL_sub hy).2
          unfold hidO at hh
          rw [List.any_eq_false] at hh
          have := hh x hxa
          rw [hd, hox] at this
          simp at this
        · have := hbt y hy
          omega
  · rintro ⟨h1, h2⟩
    rw [isVi_iff] at h2
    have hyD : y ∈ mgL (cpL a t) b := by
      by_cases hyD : y ∈ mgL (cpL a t) b
      · exact hyD
      · obtain ⟨hya, hyc⟩ := mgC_out ha hb hbt h1 hyD
        cases hh : hidO a t y with
        | false => exact absurd (cpL_has hya hh h2.1) hyc
        | true =>
          unfold hidO at hh
          rw [List.any_eq_true] at hh
          obtain ⟨z, hz, hzz⟩ := hh
          rw [Bool.and_eq_true] at hzz
          obtain ⟨z', hz', e1, e2⟩ := mgL_left (b := b) ha hz
          have hd : hdF z' y = true := by
            rcases e2 with e2 | e2
            · rw [e2]; exact hzz.1
            · exact hdF_more hzz.1 e1 e2 h2.1
          rw [h2.2 z' hz'] at hd
          cases hd
    exact ⟨hyD, isVi_iff.2 ⟨h2.1, fun x hx => h2.2 x (mgC_sub ha hb hbt hx)⟩⟩
end
end Go.Proofs.YtccbblnlmggjbaaGreatDoor
