/- Cells merged as the program does it: the plain law; no program in sight. -/
import Derived.Test.YtccbblnlmggjbaaGreatDoorCeP
namespace Go.Proofs.YtccbblnlmggjbaaGreatDoor
open Go.RowKit

def jn : List Ce → List Ce → Option (List Ce)
  | [], b => some b
  | x :: a, [] => some (x :: a)
  | x :: a, y :: b =>
    if x.1 < y.1 then (jn a (y :: b)).map (x :: ·)
    else if y.1 < x.1 then (jn (x :: a) b).map (y :: ·)
    else if cfl (some x.2) (some y.2) then none
    else (jn a b).map ((if sk x.2.2 < sk y.2.2 then y else x) :: ·)
termination_by a b => a.length + b.length
theorem co_nil (i : Nat) : co [] i = none := rfl
theorem co_cons (x : Ce) (l : List Ce) (i : Nat) : co (x :: l) i = if x.1 = i then some x.2 else co l i := by
  unfold co
  rw [List.find?_cons]
  by_cases h : x.1 = i
  · simp [h]
  · have h2 : (x.1 == i) = false := by simpa using h
    rw [h2, if_neg h]
theorem co_less {l : List Ce} {i : Nat} (h : ∀ x ∈ l, i < x.1) : co l i = none := by
  cases hc : co l i with
  | none => rfl
  | some c =>
    have := h _ (co_some hc)
    exact absurd this (Nat.lt_irrefl _)
/-- What the merged list is. -/
def JnIs (a b : List Ce) (r : Option (List Ce)) : Prop :=
  match r with
  | none => ∃ i, cfl (co a i) (co b i) = true
  | some l => l.Pairwise (fun x y => x.1 < y.1) ∧ (∀ i, co l i = mg (co a i) (co b i)) ∧ (∀ i, cfl (co a i) (co b i) = false) ∧ ∀ x ∈ l, x ∈ a ∨ x ∈ b
theorem jn_is (n : Nat) : ∀ a b : List Ce, a.length + b.length = n → a.Pairwise (fun x y => x.1 < y.1) → b.Pairwise (fun x y => x.1 < y.1) → JnIs a b (jn a b) := by
  induction n using Nat.strongRecOn with
  | _ n ih =>
    intro a b hn ha hb
    match a, b with
    | [], b =>
      rw [jn]
      exact ⟨hb, fun i => by rw [co_nil, mg_none_l], fun i => by rw [co_nil, cfl_none_l], fun x hx => .inr hx⟩
    | x :: a, [] =>
      rw [jn]
      exact ⟨ha, fun i => by rw [co_nil, mg_none_r], fun i => by rw [co_nil, cfl_none_r], fun x hx => .inl hx⟩
    | x :: a, y :: b =>
      rw [jn]
      have ha' := List.pairwise_cons.1 ha
      have hb' := List.pairwise_cons.1 hb
      by_cases h1 : x.1 < y.1
      · rw [if_pos h1]
        have hi := ih (a.length + (y :: b).length) (by simp at hn ⊢; omega) a (y :: b) rfl ha'.2 hb
        have hbx : co (y :: b) x.1 = none := co_less (fun z hz => by
          rcases List.mem_cons.1 hz with rfl | hz
          · exact h1
          · exact Nat.lt_trans h1 (hb'.1 z hz))
        have hax : co a x.1 = none := co_less (fun z hz => ha'.1 z hz)
        cases hj : jn a (y :: b) with
        | none =>
          rw [hj] at hi
          obtain ⟨i, hi⟩ := hi
          refine ⟨i, ?_⟩
          rw [co_cons]
          by_cases e : x.1 = i
          · subst e; rw [hax, cfl_none_l] at hi; cases hi
          · rw [if_neg e]; exact hi
        | some l =>
          rw [hj] at hi
          obtain ⟨g1, g2, g3, g4⟩ := hi
          refine ⟨List.pairwise_cons.2 ⟨fun z hz => ?_, g1⟩, fun i => ?_, fun i => ?_, fun z hz => ?_⟩
          · rcases g4 z hz with h | h
            · exact ha'.1 z h
            · rcases List.mem_cons.1 h with rfl | h
              · exact h1
              · exact Nat.lt_trans h1 (hb'.1 z h)
          · rw [co_cons, co_cons x a]
            by_cases e : x.1 = i
            · subst e; rw [if_pos rfl, if_pos rfl, hbx, mg_none_r]
            · rw [if_neg e, if_neg e]; exact g2 i
          · rw [co_cons x a]
            by_cases e : x.1 = i
            · subst e; rw [if_pos rfl, hbx, cfl_none_r]
            · rw [if_neg e]; exact g3 i
          · rcases List.mem_cons.1 hz with rfl | hz
            · exact .inl (by simp)
            · rcases g4 z hz with h | h
              · exact .inl (List.mem_cons_of_mem _ h)
              · exact .inr h
      · rw [if_neg h1]
        by_cases h2 : y.1 < x.1
        · rw [if_pos h2]
          have hi := ih ((x :: a).length + b.length) (by simp at hn ⊢; omega) (x :: a) b rfl ha hb'.2
          have hax : co (x :: a) y.1 = none := co_less (fun z hz => by
            rcases List.mem_cons.1 hz with rfl | hz
            · exact h2
            · exact Nat.lt_trans h2 (ha'.1 z hz))
          have hbx : co b y.1 = none := co_less (fun z hz => hb'.1 z hz)
          cases hj : jn (x :: a) b with
          | none =>
            rw [hj] at hi
            obtain ⟨i, hi⟩ := hi
            refine ⟨i, ?_⟩
            rw [co_cons y b]
            by_cases e : y.1 = i
            · subst e; rw [hbx, cfl_none_r] at hi; cases hi
            · rw [if_neg e]; exact hi
          | some l =>
            rw [hj] at hi
            obtain ⟨g1, g2, g3, g4⟩ := hi
            refine ⟨List.pairwise_cons.2 ⟨fun z hz => ?_, g1⟩, fun i => ?_, fun i => ?_, fun z hz => ?_⟩
            · rcases g4 z hz with h | h
              · rcases List.mem_cons.1 h with rfl | h
                · exact h2
                · exact Nat.lt_trans h2 (ha'.1 z h)
              · exact hb'.1 z h
            · rw [co_cons, co_cons y b]
              by_cases e : y.1 = i
              · subst e; rw [if_pos rfl, if_pos rfl, hax, mg_none_l]
              · rw [if_neg e, if_neg e]; exact g2 i
            · rw [co_cons y b]
              by_cases e : y.1 = i
              · subst e; rw [if_pos rfl, hax, cfl_none_l]
              · rw [if_neg e]; exact g3 i
            · rcases List.mem_cons.1 hz with rfl | hz
              · exact .inr (by simp)
              · rcases g4 z hz with h | h
                · exact .inl h
                · exact .inr (List.mem_cons_of_mem _ h)
        · rw [if_neg h2]
          have hxy : x.1 = y.1 := by omega
          by_cases h3 : cfl (some x.2) (some y.2) = true
          · rw [if_pos h3]
            exact ⟨x.1, by rw [co_cons, co_cons, if_pos rfl, if_pos hxy.symm]; exact h3⟩
          · rw [if_neg h3]
            have hi := ih (a.length + b.length) (by simp at hn ⊢; omega) a b rfl ha'.2 hb'.2
            have hax : co a x.1 = none := co_less (fun z hz => ha'.1 z hz)
            have hbx : co b x.1 = none := co_less (fun z hz => by rw [hxy]; exact hb'.1 z hz)
            cases hj : jn a b with
            | none =>
              rw [hj] at hi
              obtain ⟨i, hi⟩ := hi
              refine ⟨i, ?_⟩
              rw [co_cons, co_cons]
              by_cases e : x.1 = i
              · subst e; rw [hax, cfl_none_l] at hi; cases hi
              · rw [if_neg e, if_neg (by omega)]; exact hi
            | some l =>
              rw [hj] at hi
              obtain ⟨g1, g2, g3, g4⟩ := hi
              have hp1 : (if sk x.2.2 < sk y.2.2 then y else x).1 = x.1 := by split <;> omega
              refine ⟨List.pairwise_cons.2 ⟨fun z hz => ?_, g1⟩, fun i => ?_, fun i => ?_, fun z hz => ?_⟩
              · rw [hp1]
                rcases g4 z hz with h | h
                · exact ha'.1 z h
                · rw [hxy]; exact hb'.1 z h
              · rw [co_cons, co_cons x a, co_cons y b, hp1]
                by_cases e : x.1 = i
                · have e2 : y.1 = i := hxy.symm.trans e
                  rw [if_pos e, if_pos e, if_pos e2, mg_some]
                  split <;> rfl
                · have e2 : ¬ y.1 = i := fun h => e (hxy.trans h)
                  rw [if_neg e, if_neg e, if_neg e2]; exact g2 i
              · rw [co_cons x a, co_cons y b]
                by_cases e : x.1 = i
                · rw [if_pos e, if_pos (by omega)]
                  simpa using h3
                · rw [if_neg e, if_neg (by omega)]; exact g3 i
              · rcases List.mem_cons.1 hz with rfl | hz
                · split
                  · exact .inr (by simp)
                  · exact .inl (by simp)
                · rcases g4 z hz with h | h
                  · exact .inl (List.mem_cons_of_mem _ h)
                  · exact .inr (List.mem_cons_of_mem _ h)
theorem jn_eq {a b : List Ce} (ha : CsOk a) (hb : CsOk b) : jn a b = if cfL a b then none else some (mgL a b) := by
  have h := jn_is _ a b rfl ha.1 hb.1
  cases hj : jn a b with
  | none =>
    rw [hj] at h
    obtain ⟨i, hi⟩ := h
    have hi7 : i < 7 := by
      cases hc : co a i with
      | none => rw [hc, cfl_none_l] at hi; cases hi
      | some c => exact (ha.co hc).1
    rw [if_pos]
    unfold cfL
    rw [List.any_eq_true]
    exact ⟨i, List.mem_range.2 hi7, hi⟩
  | some l =>
    rw [hj] at h
    obtain ⟨h1, h2, h3, h4⟩ := h
    rw [if_neg]
    · congr 1
      have hok : CsOk l := ⟨h1, fun x hx => by
        rcases h4 x hx with h | h
        · exact ha.2 x h
        · exact hb.2 x h⟩
      rw [hok.cs]
      exact cs_congr (fun i _ => h2 i)
    · intro hc
      unfold cfL at hc
      rw [List.any_eq_true] at hc
      obtain ⟨i, _, hi⟩ := hc
      rw [h3 i] at hi
      cases hi
theorem jn_len (n : Nat) : ∀ (a b l : List Ce), a.length + b.length = n → jn a b = some l → l.length ≤ n := by
  induction n using Nat.strongRecOn with
  | _ n ih =>
    intro a b l hn h
    match a, b with
    | [], b => rw [jn] at h; cases h; simp at hn; omega
    | x :: a, [] => rw [jn] at h; cases h; simp at hn ⊢; omega
    | x :: a, y :: b =>
      rw [jn] at h
      simp only [List.length_cons] at hn
      split at h
      · rw [Option.map_eq_some_iff] at h
        obtain ⟨l', h, rfl⟩ := h
        have := ih _ (by simp; omega) a (y :: b) l' rfl h
        simp at this ⊢; omega
      · split at h
        · rw [Option.map_eq_some_iff] at h
          obtain ⟨l', h, rfl⟩ := h
          have := ih _ (by simp; omega) (x :: a) b l' rfl h
          simp at this ⊢; omega
        · split at h
          · cases h
          · rw [Option.map_eq_some_iff] at h
            obtain ⟨l', h, rfl⟩ := h
            have := ih _ (by omega) a b l' rfl h
            simp; omega
end Go.Proofs.YtccbblnlmggjbaaGreatDoor
