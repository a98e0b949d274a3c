/- What a twin owes, as data: a twin that takes it is settled; no program in sight. -/
import Derived.Test.YtccbblnlmggjbaaGreatDoorCeW
import Derived.Test.YtccbblnlmggjbaaGreatDoorPrK
namespace Go.Proofs.YtccbblnlmggjbaaGreatDoor
open Go.RowKit

theorem mem_viF {l : List Ce} {p : Pr} : p ∈ viF l ↔ ∃ y ∈ l, isVi l y = true ∧ p = (y.1, y.2.1) := by
  unfold viF
  rw [List.mem_map]
  constructor
  · rintro ⟨y, hy, rfl⟩
    rw [List.mem_filter] at hy
    exact ⟨y, hy.1, hy.2, rfl⟩
  · rintro ⟨y, h1, h2, rfl⟩
    exact ⟨y, List.mem_filter.2 ⟨h1, h2⟩, rfl⟩
theorem vi_apart {l : List Ce} {y z : Ce} (hy1 : y ∈ l) (hy2 : isVi l y = true) (hz1 : z ∈ l) (hz2 : isVi l z = true) : blN y.1 z.1 = false := by
  cases hb : blN y.1 z.1 with
  | false => rfl
  | true =>
    rw [isVi_iff] at hy2 hz2
    have h1 := hy2.2 z hz1
    have h2 := hz2.2 y hy1
    unfold hdF at h1 h2
    rcases Int.lt_trichotomy (sk y.2.2) (sk z.2.2) with hc | hc | hc
    · rw [if_pos hc, hb] at h1
      simp at h1
    · rw [if_neg (by omega), if_pos hc.symm, hb, hy2.1, hz2.1] at h1
      simp at h1
    · rw [if_pos hc, hb, hz2.1] at h2
      simp at h2
theorem viP_apart {l : List Ce} {p q : Pr} (hp : p ∈ viF l) (hq : q ∈ viF l) : blN p.1 q.1 = false := by
  obtain ⟨y, h1, h2, rfl⟩ := mem_viF.1 hp
  obtain ⟨z, h3, h4, rfl⟩ := mem_viF.1 hq
  exact vi_apart h1 h2 h3 h4
def gnF (D : List Ce) : List Nat := (D.filter (fun y => !hasV y && !D.any (fun x => hdF x y))).map (·.1)
/-- What is no more is told of a name: it is gone itself, or with what is above it, or it makes room. -/
def owN (D : List Ce) (n : Nat) : Bool := (gnF D).any (fun s => decide (s = n) || blN n s) || (viF D).any (fun p => blN p.1 n)
def owG (D : List Ce) (u : List Pr) (n : Nat) : Option Ch := if vo (viF D) n = pvNone ∧ owN D n = false then none else dfG (vo u) (vo (viF D)) n
def owL (D R : List Ce) : List Ch := (nmsF [viF D, viF R]).filterMap (owG D (viF R))
theorem owL_frn (D R : List Ce) : owL D R = frn (owG D (viF R)) := by
  refine nmsF_frn _ _ (fun i hi h => ?_)
  have h1 := vo_none (h (viF D) (by simp))
  have h2 := vo_none (h (viF R) (by simp))
  unfold owG dfG
  rw [h1, h2]
  simp
theorem mem_owL {D R : List Ce} {x : Ch} : x ∈ owL D R ↔ x.1 < 7 ∧ x.2 = (vo (viF R) x.1, vo (viF D) x.1) ∧ vo (viF R) x.1 ≠ vo (viF D) x.1 ∧ ¬ (vo (viF D) x.1 = pvNone ∧ owN D x.1 = false) := by
  rw [owL_frn, mem_frn]
  constructor
  · rintro ⟨i, hi, h⟩
    unfold owG dfG at h
    split at h
    · cases h
    · rename_i hn
      split at h
      · cases h
      · rename_i hne
        cases h
        exact ⟨hi, rfl, hne, hn⟩
  · rintro ⟨h1, h2, h3, h4⟩
    refine ⟨x.1, h1, ?_⟩
    unfold owG dfG
    rw [if_neg h4, if_neg h3, ← h2]
theorem owL_ok {D R : List Ce} (hD : CsOk D) (hR : CsOk R) : ChsOk (owL D R) := by
  refine ⟨?_, fun x hx => ?_⟩
  · rw [owL_frn]
    refine frn_rising _ _ (fun i x h => ?_)
    unfold owG dfG at h
    split at h
    · cases h
    · split at h
      · cases h
      · cases h; rfl
  · obtain ⟨h1, h2, h3, _⟩ := mem_owL.1 hx
    rw [h2]
    exact ⟨h1, (viF_good hR).1.vo _, (viF_good hD).1.vo _, h3⟩
theorem owL_len (D R : List Ce) : (owL D R).length ≤ 7 := by
  rw [owL_frn]
  refine Nat.le_trans (List.length_filterMap_le _ _) ?_
  simp
def tkS : Sp := ⟨100, 0, 0⟩
def tkL (c : List Ch) : List Ce := c.map (fun x => (x.1, x.2.2, tkS))
theorem tk_ok {c : List Ch} (h : ChsOk c) : CsOk (tkL c) := by
  refine ⟨?_, fun x hx => ?_⟩
  · unfold tkL
    rw [List.pairwise_map]
    exact h.1
  · unfold tkL at hx
    rw [List.mem_map] at hx
    obtain ⟨y, hy, rfl⟩ := hx
    obtain ⟨h1, _, h3, _⟩ := h.2 y hy
    refine ⟨h1, h3, ?_⟩
    show SpOk tkS
    unfold SpOk tkS
    simp
def Erl (R : List Ce) : Prop := ∀ x ∈ R, x.2.2.at_ ≤ 9
theorem erl_sk {R : List Ce} (hR : CsOk R) (h9 : Erl R) {x : Ce} (hx : x ∈ R) : sk x.2.2 < sk tkS := by
  have h1 := h9 x hx
  obtain ⟨g1, g2, g3, g4, g5⟩ := (hR.2 x hx).2.2
  simp only [sk, tkS]
  omega
theorem tk_sk {c : List Ch} {x : Ce} (h : x ∈ tkL c) : x.2.2 = tkS := by
  unfold tkL at h
  rw [List.mem_map] at h
  obtain ⟨y, _, rfl⟩ := h
  rfl
theorem tk_cfl {R : List Ce} {c : List Ch} (hR : CsOk R) (h9 : Erl R) : cfL R (tkL c) = false := by
  unfold cfL
  rw [List.any_eq_false]
  intro i _ hc
  cases ha : co R i with
  | none => rw [ha, cfl_none_l] at hc; cases hc
  | some a =>
    cases hb : co (tkL c) i with
    | none => rw [hb, cfl_none_r] at hc; cases hc
    | some b =>
      rw [ha, hb, cfl_iff] at hc
      have h1 := erl_sk hR h9 (co_some ha)
      have h2 := tk_sk (co_some hb)
      simp only at h1 h2
      rw [h2] at hc
      omega
theorem tk_mem {R : List Ce} {c : List Ch} (hR : CsOk R) (h9 : Erl R) (hc : ChsOk c) (x : Ce) : x ∈ mgL R (tkL c) ↔ (x ∈ tkL c ∨ (x ∈ R ∧ ∀ t ∈ tkL c, t.1 ≠ x.1)) := by
  have hT := tk_ok hc
  rw [mem_mgL]
  constructor
  · rintro ⟨h7, h⟩
    cases hb : co (tkL c) x.1 with
    | some b =>
      left
      cases ha : co R x.1 with
      | none => rw [ha, hb, mg_none_l] at h; rw [h] at hb; exact co_some hb
      | some a =>
        have h1 := erl_sk hR h9 (co_some ha)
        have h2 := tk_sk (co_some hb)
        simp only at h1 h2
        rw [ha, hb, mg_some, h2, if_pos h1] at h
        rw [h] at hb
        exact co_some hb
    | none =>
      right
      rw [hb, mg_none_r] at h
      refine ⟨co_some h, fun t ht e => ?_⟩
      have := co_mem hT.1 ht
      rw [e, hb] at this
      cases this
  · rintro (h | ⟨h, hn⟩)
    · have hb := co_mem hT.1 h
      refine ⟨(hT.2 x h).1, ?_⟩
      cases ha : co R x.1 with
      | none => rw [hb, mg_none_l]
      | some a =>
        have h1 := erl_sk hR h9 (co_some ha)
        have h2 := tk_sk h
        simp only at h1
        rw [hb, mg_some, h2, if_pos h1]
    · have ha := co_mem hR.1 h
      refine ⟨(hR.2 x h).1, ?_⟩
      cases hb : co (tkL c) x.1 with
      | none => rw [ha, mg_none_r]
      | some b => exact absurd rfl (hn (x.1, b) (co_some hb))
section
variable {D R : List Ce}
theorem vo_viF {l : List Ce} (h : CsOk l) {p : Pr} (hp : p ∈ viF l) : vo (viF l) p.1 = p.2 := vo_mem (viF_good h).1.1 hp
theorem hasV_of {x : Ce} (h : x.2.1 ≠ pvNone) : hasV x = true := by unfold hasV; simpa using h
theorem rest_has (hD : CsOk D) (hR : CsOk R) (h9 : Erl R) {p : Pr} (hp : p ∈ viF D) : p ∈ viF (mgL R (tkL (owL D R))) := by
  have hc := owL_ok hD hR
  have hvp := vo_viF hD hp
  have hpn : p.2 ≠ pvNone := ((viF_good hD).1.2 p hp).2.ne
  by_cases he : vo (viF R) p.1 = p.2
  · obtain ⟨q, hq, e1, e2⟩ := vo_some (l := viF R) (i := p.1) (by rw [he]; exact hpn)
    obtain ⟨y, hy, hyv, rfl⟩ := mem_viF.1 hq
    simp only at e1 e2
    have hno : ∀ t ∈ tkL (owL D R), t.1 ≠ y.1 := by
      intro t ht e
      unfold tkL at ht
      rw [List.mem_map] at ht
      obtain ⟨ch, hch, rfl⟩ := ht
      have h3 := (mem_owL.1 hch).2.2.1
      simp only at e
      rw [e, e1, he, hvp] at h3
      exact h3 rfl
    have hpy : p = (y.1, y.2.1) := Prod.ext e1.symm (by rw [← he, ← e2])
    refine mem_viF.2 ⟨y, (tk_mem hR h9 hc y).2 (.inr ⟨hy, hno⟩), isVi_iff.2 ⟨(isVi_iff.1 hyv).1, fun x hx => ?_⟩, hpy⟩
    rcases (tk_mem hR h9 hc x).1 hx with hx | ⟨hx, _⟩
    · have hs := tk_sk hx
      unfold tkL at hx
      rw [List.mem_map] at hx
      obtain ⟨ch, hch, rfl⟩ := hx
      have hch' := mem_owL.1 hch
      have hsk : sk y.2.2 < sk tkS := erl_sk hR h9 hy
      have hrel : ∀ t : Bool, (t = true → blN y.1 ch.1 = true ∨ blN ch.1 y.1 = true) → t = false := by
        intro t ht
        cases t with
        | false => rfl
        | true =>
          exfalso
          have hr := ht rfl
          have hDn : vo (viF D) ch.1 = pvNone := by
            by_cases g : vo (viF D) ch.1 = pvNone
            · exact g
            · obtain ⟨z, hz, f1, _⟩ := vo_some g
              have a1 := viP_apart hp hz
              have a2 := viP_apart hz hp
              rw [f1, ← e1] at a1 a2
              rw [a1, a2] at hr
              rcases hr with hr | hr <;> cases hr
          have hRn : vo (viF R) ch.1 ≠ pvNone := by rw [← hDn]; exact hch'.2.2.1
          obtain ⟨z, hz, f1, _⟩ := vo_some hRn
          have a1 := viP_apart hq hz
          have a2 := viP_apart hz hq
          rw [f1] at a1 a2
          simp only at a1 a2
          rw [a1, a2] at hr
          rcases hr with hr | hr <;> cases hr
      refine hrel _ (fun h => ?_)
      unfold hdF at h
      rw [if_pos hsk, Bool.or_eq_true, Bool.and_eq_true] at h
      rcases h with h | h
      · exact .inl h
      · exact .inr h.1
    · exact (isVi_iff.1 hyv).2 x hx
  · have hch : (p.1, vo (viF R) p.1, p.2) ∈ owL D R := mem_owL.2 ⟨((viF_good hD).1.2 p hp).1, by rw [hvp], by rw [hvp]; exact he, by rw [hvp]; exact fun h => hpn h.1⟩
    have hT : ((p.1, p.2, tkS) : Ce) ∈ tkL (owL D R) := by
      unfold tkL
      rw [List.mem_map]
      exact ⟨_, hch, rfl⟩
    refine mem_viF.2 ⟨_, (tk_mem hR h9 hc _).2 (.inl hT), isVi_iff.2 ⟨hasV_of hpn, fun x hx => ?_⟩, rfl⟩
    rcases (tk_mem hR h9 hc x).1 hx with hx | ⟨hx, _⟩
    · have hs := tk_sk hx
      unfold tkL at hx
      rw [List.mem_map] at hx
      obtain ⟨ch, hch, rfl⟩ := hx
      have hch' := mem_owL.1 hch
      unfold hdF
      simp only
      rw [if_neg (by omega), if_pos trivial]
      by_cases g : vo (viF D) ch.1 = pvNone
      · have : hasV ((ch.1, ch.2.2, tkS) : Ce) = false := by
          unfold hasV
          rw [hch'.2.1]
          simpa using g
        rw [this]
        simp
      · obtain ⟨z, hz, f1, _⟩ := vo_some g
        have a1 := viP_apart hp hz
        rw [f1] at a1
        rw [a1]
        rfl
    · have hsk := erl_sk hR h9 hx
      unfold hdF
      simp only
      rw [if_neg (by omega), if_neg (by omega)]
theorem rest_done (hD : CsOk D) (hR : CsOk R) (h9 : Erl R) : owL D (mgL R (tkL (owL D R))) = [] := by
  have hc := owL_ok hD hR
  rw [List.eq_nil_iff_forall_not_mem]
  intro x hx
  obtain ⟨h7, h2, h3, h4⟩ := mem_owL.1 hx
  by_cases g : vo (viF D) x.1 = pvNone
  · have hR' : vo (viF (mgL R (tkL (owL D R)))) x.1 ≠ pvNone := by rw [← g]; exact h3
    obtain ⟨q, hq, f1, _⟩ := vo_some hR'
    obtain ⟨y, hy, hyv, rfl⟩ := mem_viF.1 hq
    simp only at f1
    have hv := isVi_iff.1 hyv
    rcases (tk_mem hR h9 hc y).1 hy with ht | ⟨hyR, hno⟩
    · unfold tkL at ht
      rw [List.mem_map] at ht
      obtain ⟨ch, hch, rfl⟩ := ht
      have hch' := mem_owL.1 hch
      have hv1 := hv.1
      simp only at f1
      unfold hasV at hv1
      rw [hch'.2.1] at hv1
      simp only at hv1
      rw [f1, g] at hv1
      simp at hv1
    · have hyvR : isVi R y = true := isVi_iff.2 ⟨hv.1, fun z hz => by
        cases hd : hdF z y with
        | false => rfl
        | true =>
          obtain ⟨z', hz', e1, e2⟩ := mgL_left (b := tkL (owL D R)) hR hz
          have hd' : hdF z' y = true := by
            rcases e2 with e2 | e2
            · rw [e2]; exact hd
            · exact hdF_more hd e1 e2 hv.1
          rw [hv.2 z' hz'] at hd'
          cases hd'⟩
      have hvR : vo (viF R) x.1 = y.2.1 := by
        rw [← f1]
        exact vo_viF hR (p := (y.1, y.2.1)) (mem_viF.2 ⟨y, hyR, hyvR, rfl⟩)
      have hyn : y.2.1 ≠ pvNone := by
        intro e
        have := hv.1
        unfold hasV at this
        rw [e] at this
        simp at this
      have hch : (x.1, vo (viF R) x.1, vo (viF D) x.1) ∈ owL D R := mem_owL.2 ⟨h7, rfl, by rw [hvR, g]; exact hyn, h4⟩
      refine hno ((x.1, vo (viF D) x.1, tkS) : Ce) ?_ f1.symm
      unfold tkL
      rw [List.mem_map]
      exact ⟨_, hch, rfl⟩
  · obtain ⟨q, hq, f1, f2⟩ := vo_some g
    have := vo_viF (mgL_ok hR (tk_ok hc)) (rest_has hD hR h9 hq)
    rw [f1, f2] at this
    exact h3 this
end
end Go.Proofs.YtccbblnlmggjbaaGreatDoor
