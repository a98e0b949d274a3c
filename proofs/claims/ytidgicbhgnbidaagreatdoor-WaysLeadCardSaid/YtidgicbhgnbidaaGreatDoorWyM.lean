/- Plain law of Reach: ranges that are sorted and joined hold the same versions. No function of the program in sight. -/
import Derived.Test.YtidgicbhgnbidaaGreatDoorWyQ
namespace Go.Proofs.YtidgicbhgnbidaaGreatDoor
open Go.RowKit

theorem inR_iff (r : Rg) (v : Ve) : inR r v = true ↔ vn r.1 ≤ vn v ∧ vn v ≤ vn r.2 := by
  unfold inR
  simp
structure MgI (P O : List Rg) : Prop where
  ok : ∀ r ∈ O, RgOk r
  eq : ∀ v, (O.any fun r => inR r v) = (P.any fun r => inR r v)
  lo : ∀ q, O.getLast? = some q → ∀ z : Int, (∀ p ∈ P, vn p.1 ≤ z) → vn q.1 ≤ z
theorem MgI.nil : MgI [] [] := ⟨(fun r h => by cases h), fun v => rfl, fun q h => by simp at h⟩
theorem MgI.push {P O : List Rg} {r : Rg} (h : MgI P O) (hr : RgOk r) : MgI (P ++ [r]) (O ++ [r]) := by
  refine ⟨fun q hq => ?_, fun v => ?_, fun q hq z hz => ?_⟩
  · rcases List.mem_append.1 hq with hq | hq
    · exact h.ok q hq
    · rw [List.mem_singleton] at hq; rw [hq]; exact hr
  · rw [List.any_append, List.any_append, h.eq]
  · rw [List.getLast?_append] at hq
    simp at hq
    rw [← hq]
    exact hz r (by simp)
theorem MgI.join {P O : List Rg} {q r : Rg} (h : MgI P (O ++ [q])) (hr : RgOk r) (hs : ∀ p ∈ P, vn p.1 ≤ vn r.1) (hn : vn r.1 ≤ vn q.2 + 1) : MgI (P ++ [r]) (O ++ [(q.1, vd (max (vn q.2) (vn r.2)))]) := by
  have hq := h.ok q (by simp)
  have h1 := vn_range hq.hi
  have h2 := vn_range hr.hi
  have hmx : 0 ≤ max (vn q.2) (vn r.2) ∧ max (vn q.2) (vn r.2) ≤ 999999999999 := by omega
  have hlo := h.lo q (by simp) (vn r.1) hs
  have hqr := hq.le
  have hrr := hr.le
  refine ⟨fun p hp => ?_, fun v => ?_, fun p hp z hz => ?_⟩
  · rcases List.mem_append.1 hp with hp | hp
    · exact h.ok p (List.mem_append_left _ hp)
    · rw [List.mem_singleton] at hp
      rw [hp]
      exact ⟨hq.lo, vd_ok hmx, by show vn q.1 ≤ vn (vd _); rw [vn_vd]; omega⟩
  · have h3 := h.eq v
    rw [List.any_append] at h3
    rw [List.any_append, List.any_append, ← h3, Bool.or_assoc]
    congr 1
    simp only [List.any_cons, List.any_nil, Bool.or_false]
    rw [Bool.eq_iff_iff, Bool.or_eq_true, inR_iff, inR_iff, inR_iff]
    show vn q.1 ≤ vn v ∧ vn v ≤ vn (vd (max (vn q.2) (vn r.2))) ↔ _
    rw [vn_vd]
    omega
  · simp at hp
    rw [← hp]
    exact h.lo q (by simp) z (fun p hp => hz p (List.mem_append_left _ hp))
/-- All ranges that lead to a version. -/
def rkI (T : VmL) (x : Im) : Bool := (vmG x.v T).isSome && hasM x
def alR (L : List Im) (T : VmL) (t : Ve) : List Rg := (t, t) :: (L.filter (rkI T)).flatMap (·.rs)
theorem alR_len {L : List Im} {T : VmL} {t : Ve} (h : ImsOk L) : (alR L T t).length ≤ 1 + 2 * L.length := by
  have : ∀ l : List Im, (∀ x ∈ l, ImOk x) → ((l.filter (rkI T)).flatMap (·.rs)).length ≤ 2 * l.length := by
    intro l
    induction l with
    | nil => intro _; simp
    | cons x l ih =>
      intro hx
      have h1 := ih (fun y hy => hx y (List.mem_cons_of_mem _ hy))
      have h2 := (hx x List.mem_cons_self).rl
      rw [List.filter_cons]
      split
      · rw [List.flatMap_cons, List.length_append, List.length_cons]; omega
      · rw [List.length_cons]; omega
  have h1 := this L h.ok
  unfold alR
  rw [List.length_cons]
  omega
theorem alR_ok {L : List Im} {T : VmL} {t : Ve} (h : ImsOk L) (ht : VeOk t) : ∀ r ∈ alR L T t, RgOk r := by
  intro r hr
  rcases List.mem_cons.1 hr with rfl | hr
  · exact ⟨ht, ht, Int.le_refl _⟩
  · obtain ⟨x, hx, hr⟩ := List.mem_flatMap.1 hr
    exact ((h.ok x (List.mem_filter.1 hx).1).rs r hr).1
theorem alR_any {L : List Im} {T : VmL} {t v : Ve} (_hL : ImsOk L) (ht : VeOk t) (hv : VeOk v) (hT : CoEnd L t T) : ((alR L T t).any fun r => inR r v) = true ↔ Rch L t v := by
  rw [List.any_eq_true, Rch.cases_iff]
  constructor
  · rintro ⟨r, hr, h1⟩
    rcases List.mem_cons.1 hr with rfl | hr
    · rw [inR_iff] at h1
      exact .inl (vn_inj hv ht (by have := h1.1; have := h1.2; simp only at *; omega))
    · obtain ⟨x, hx, hr⟩ := List.mem_flatMap.1 hr
      obtain ⟨h2, h3⟩ := List.mem_filter.1 hx
      unfold rkI at h3
      rw [Bool.and_eq_true] at h3
      exact .inr ⟨x, mem_tak.2 ⟨h2, h3.2, List.any_eq_true.2 ⟨r, hr, h1⟩⟩, (hT.rc x h2 h3.2).1 h3.1⟩
  · rintro (rfl | ⟨x, hx, hr⟩)
    · exact ⟨(v, v), List.mem_cons_self, by rw [inR_iff]; exact ⟨Int.le_refl _, Int.le_refl _⟩⟩
    · obtain ⟨h1, h2, h3⟩ := mem_tak.1 hx
      obtain ⟨r, hr1, hr2⟩ := List.any_eq_true.1 h3
      refine ⟨r, List.mem_cons_of_mem _ (List.mem_flatMap.2 ⟨x, List.mem_filter.2 ⟨h1, ?_⟩, hr1⟩), hr2⟩
      unfold rkI
      rw [Bool.and_eq_true]
      exact ⟨(hT.rc x h1 h2).2 hr, h2⟩
theorem perm_any {p : Rg → Bool} {l m : List Rg} (h : m.Perm l) : m.any p = l.any p := by
  rw [Bool.eq_iff_iff, List.any_eq_true, List.any_eq_true]
  exact ⟨fun ⟨x, h1, h2⟩ => ⟨x, h.mem_iff.1 h1, h2⟩, fun ⟨x, h1, h2⟩ => ⟨x, h.mem_iff.2 h1, h2⟩⟩
theorem alR_snoc {L : List Im} {T : VmL} {t : Ve} {k : Nat} {x : Im} (h : L[k]? = some x) : alR (L.take (k + 1)) T t = alR (L.take k) T t ++ (if rkI T x = true then x.rs else []) := by
  unfold alR
  rw [filter_snoc h, List.flatMap_append, List.cons_append]
  congr 2
  split <;> simp
end Go.Proofs.YtidgicbhgnbidaaGreatDoor
