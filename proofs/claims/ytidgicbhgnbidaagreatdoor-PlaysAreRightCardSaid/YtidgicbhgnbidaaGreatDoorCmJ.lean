/- The plain law of WavesWait: a course in the campaign's state is as the device stands; who is offered something waits, and is of a wave that has begun. -/
import Derived.Test.YtidgicbhgnbidaaGreatDoorCmS
import Derived.Test.YtidgicbhgnbidaaGreatDoorCmV
namespace Go.Proofs.YtidgicbhgnbidaaGreatDoor
open Go.RowKit

section
variable {C : Cm} {F : List Dv} {wvN : Nat → Nat}
theorem mkA_cs (s : St) (m : Mk) (i : Nat) (x : Cu) : (mkA wvN C s m i x).cs = s.cs.set i (foTo x m) := by
  unfold mkA
  simp only
  split <;> rfl
def stG (C : Cm) (k : Nat) (x : Cu) (m : Mk) : Cu := if decide (m.d = k) && decide (C.at_ ≤ m.at_) then foV x m else x
theorem mkV_cs {s : St} {m : Mk} {i : Nat} {d : Dv} {x : Cu} (hF : F.Pairwise fun x y => x.k < y.k) (hd : F[i]? = some d) (hx : s.cs[i]? = some x) :
    (mkV wvN C F s m).cs[i]? = some (stG C d.k x m) := by
  unfold mkV stG
  cases hi : ixF F m.d with
  | none =>
    have hne : ¬ m.d = d.k := by
      intro e
      rw [e, ixF_at hF hd] at hi
      cases hi
    simp [hne, hx]
  | some j =>
    obtain ⟨d', h1, h2⟩ := ixF_get hi
    simp only
    by_cases hat : m.at_ < C.at_
    · rw [if_pos hat]
      have : ¬ C.at_ ≤ m.at_ := by omega
      simp [this, hx]
    · rw [if_neg hat]
      have hat' : C.at_ ≤ m.at_ := by omega
      by_cases hij : j = i
      · subst hij
        rw [hd] at h1
        cases h1
        rw [hx]
        simp only [h2, hat', decide_true, Bool.and_self, if_true]
        unfold foV
        by_cases ho : foOk x m = true
        · rw [if_pos ho, if_pos ho, mkA_cs, List.getElem?_set_self (List.getElem?_eq_some_iff.1 hx).1]
        · rw [if_neg ho, if_neg ho, hx]
      · have hne : ¬ m.d = d.k := by
          intro e
          rw [e, ixF_at hF hd] at hi
          injection hi with hi
          exact hij hi.symm
        simp only [hne, decide_false, Bool.false_and, Bool.false_eq_true, if_false]
        cases hj : s.cs[j]? with
        | none => exact hx
        | some y =>
          simp only
          split
          · rw [mkA_cs, List.getElem?_set_ne hij, hx]
          · exact hx
theorem fold_cs {i : Nat} {d : Dv} (hF : F.Pairwise fun x y => x.k < y.k) (hd : F[i]? = some d) : ∀ (l : List Mk) (s : St) (x : Cu), s.cs[i]? = some x → (l.foldl (mkV wvN C F) s).cs[i]? = some (l.foldl (stG C d.k) x)
  | [], _, _, h => h
  | _ :: l, _, _, h => fold_cs hF hd l _ _ (mkV_cs hF hd h)
theorem stF_in {k : Nat} {t : Int} : ∀ (l : List Mk) (x : Cu), (∀ m ∈ l, m.at_ ≤ t) → l.foldl (stF C k t) x = l.foldl (stG C k) x
  | [], _, _ => rfl
  | m :: l, x, h => by
    have h1 := h m List.mem_cons_self
    have e : stF C k t x m = stG C k x m := by
      unfold stF stG myV
      simp [h1]
    rw [List.foldl_cons, List.foldl_cons, e]
    exact stF_in l _ fun y hy => h y (List.mem_cons_of_mem _ hy)
theorem stF_late {k : Nat} {t : Int} : ∀ (l : List Mk) (x : Cu), (∀ m ∈ l, t < m.at_) → l.foldl (stF C k t) x = x
  | [], _, _ => rfl
  | m :: l, x, h => by
    have h1 := h m List.mem_cons_self
    have e : stF C k t x m = x := by
      unfold stF myV
      have : ¬ m.at_ ≤ t := by omega
      simp [this]
    rw [List.foldl_cons, e]
    exact stF_late l _ fun y hy => h y (List.mem_cons_of_mem _ hy)
theorem unV_cs {i : Nat} {d : Dv} {t : Int} (hF : F.Pairwise fun x y => x.k < y.k) (hd : F[i]? = some d) : ∀ (n : Nat) (l : List Mk) (s : St) (x : Cu), l.length < n → l.Pairwise (fun a b => a.at_ ≤ b.at_) → s.cs[i]? = some x →
    (unV wvN C F t n l s).cs[i]? = some (l.foldl (stF C d.k t) x)
  | 0, l, s, x, h, _, _ => absurd h (by omega)
  | n + 1, [], s, x, _, _, hx => by
    show (bgA C t s).cs[i]? = _
    rw [bgA, (bgV_keep C t 5 s).1]
    exact hx
  | n + 1, m :: l, s, x, hn, hp, hx => by
    rw [unV_cons]
    obtain ⟨hp1, hp2⟩ := List.pairwise_cons.1 hp
    by_cases ht : m.at_ ≤ t
    · rw [if_pos ht]
      have e1 : (bgA C (m.at_ - 1) s).cs[i]? = some x := by rw [bgA, (bgV_keep C _ 5 s).1]; exact hx
      have e2 := fold_cs (wvN := wvN) (C := C) hF hd ((m :: l).takeWhile (fun x => x.at_ == m.at_)) _ _ e1
      have e3 : (bgA C m.at_ (((m :: l).takeWhile (fun x => x.at_ == m.at_)).foldl (mkV wvN C F) (bgA C (m.at_ - 1) s))).cs[i]? = some (((m :: l).takeWhile (fun x => x.at_ == m.at_)).foldl (stG C d.k) x) := by
        rw [bgA, (bgV_keep C _ 5 _).1]; exact e2
      have hlen : ((m :: l).dropWhile (fun x => x.at_ == m.at_)).length < n := by
        have h0 : (m :: l).dropWhile (fun x => x.at_ == m.at_) = l.dropWhile (fun x => x.at_ == m.at_) := by simp
        rw [h0]
        have := (List.dropWhile_sublist (l := l) (fun x => x.at_ == m.at_)).length_le
        simp only [List.length_cons] at hn
        omega
      have e4 := unV_cs hF hd n _ _ _ hlen (hp.sublist (List.dropWhile_sublist _)) e3 (t := t)
      rw [e4]
      have hin : ∀ y ∈ (m :: l).takeWhile (fun x => x.at_ == m.at_), y.at_ ≤ t := by
        intro y hy
        have := List.all_takeWhile (l := m :: l) (p := fun x => x.at_ == m.at_)
        have h2 := List.all_eq_true.1 this y hy
        have h3 : y.at_ = m.at_ := by simpa using h2
        omega
      rw [← stF_in (t := t) _ x hin, ← List.foldl_append, List.takeWhile_append_dropWhile]
    · rw [if_neg ht]
      have hl : ∀ y ∈ m :: l, t < y.at_ := by
        intro y hy
        rcases List.mem_cons.1 hy with h | h
        · rw [h]; omega
        · have := hp1 y h; omega
      rw [stF_late _ x hl, bgA, (bgV_keep C t 5 s).1]
      exact hx
end
theorem MksOk.sorted {l : List Mk} (h : MksOk l) : l.Pairwise fun a b => a.at_ ≤ b.at_ :=
  h.ord.imp fun {a b} hab => by rcases hab with h | ⟨h, _⟩ <;> omega
/-- The course of a device in the campaign's state is as the device stands. -/
theorem fiV_cs {C : Cm} {F : List Dv} {l : List Mk} {t : Int} {i : Nat} {d : Dv} (hF : FlOk F) (hl : MksOk l) (hd : F[i]? = some d) : (fiV C F t l).cs[i]? = some (stV C d t l) := by
  unfold fiV unA
  refine unV_cs hF.ord hd (l.length + 1) l _ _ (by omega) hl.sorted ?_
  show (F.map cu0)[i]? = _
  rw [List.getElem?_map, hd]
  rfl
theorem fiV_len {C : Cm} {F : List Dv} {l : List Mk} {t : Int} (hC : CmOk C) (hF : FlOk F) (ht : 0 ≤ t ∧ t ≤ 1000000) (hl : MksOk l) : (fiV C F t l).cs.length = F.length := (fiV_ok hC hF ht hl).lc
theorem fiV_map {C : Cm} {F : List Dv} {l : List Mk} {t : Int} (hC : CmOk C) (hF : FlOk F) (ht : 0 ≤ t ∧ t ≤ 1000000) (hl : MksOk l) : (fiV C F t l).cs = F.map fun d => stV C d t l := by
  have hlen := fiV_len hC hF ht hl
  refine List.ext_getElem? fun i => ?_
  rw [List.getElem?_map]
  cases hd : F[i]? with
  | none =>
    have := List.getElem?_eq_none_iff.1 hd
    rw [Option.map_none, List.getElem?_eq_none_iff]
    omega
  | some d =>
    rw [fiV_cs hF hl hd]
    rfl
/-- What an offer for a device says. -/
theorem ofr_of {C : Cm} {F : List Dv} {l : List Mk} {t : Int} {L : List Im} {O : List Ofr} {be i : Nat} {d : Dv} {y : Ofr} (hF : FlOk F) (hl : MksOk l) (ho : OfOk C F be (fiV C F t l).cs L O) (hd : F[i]? = some d) (hy : y ∈ O) (hk : y.d = d.k) :
    wvN C d.k < be ∧ ∃ h : d.md < 2, y.v ∈ @tkV ⟨d.md, h⟩ L (stV C d t l).v := by
  obtain ⟨d', x, h1, h2, h3, h4, h5, im, h6, h7⟩ := ho.1 y hy
  obtain ⟨j, hj⟩ := List.mem_iff_getElem?.1 h1
  rw [List.getElem?_zip_eq_some] at hj
  obtain ⟨hj1, hj2⟩ := hj
  have hij : j = i := by
    have e1 := ixF_at hF.ord hj1
    have e2 := ixF_at hF.ord hd
    rw [← h2, hk, e2] at e1
    injection e1 with e1
    exact e1.symm
  subst hij
  have e1 : d = d' := Option.some.inj (hd.symm.trans hj1)
  subst e1
  have e2 : stV C d t l = x := Option.some.inj ((fiV_cs hF hl hd).symm.trans hj2)
  subst e2
  refine ⟨h4, h5, ?_⟩
  unfold tkV
  exact List.mem_map.2 ⟨im, h6, h7⟩
end Go.Proofs.YtidgicbhgnbidaaGreatDoor
