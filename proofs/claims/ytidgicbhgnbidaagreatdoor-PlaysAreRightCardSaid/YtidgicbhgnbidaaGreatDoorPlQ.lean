/- The plain law of PlaysAreRight: a play's marks are in order, and each is of a version that the device can take then. No function of the program in sight. -/
import Derived.Test.YtidgicbhgnbidaaGreatDoorCmJ
import Derived.Test.YtidgicbhgnbidaaGreatDoorPlD
import Derived.Test.YtidgicbhgnbidaaGreatDoorPlG
import Derived.Test.YtidgicbhgnbidaaGreatDoorPlF
namespace Go.Proofs.YtidgicbhgnbidaaGreatDoor
open Go.RowKit

/-- The marks of a device, in their order, beginning at a version. -/
def chkL (L : List Im) (d : Dv) (h : d.md < 2) : Ve → List Mk → Prop
  | _, [] => True
  | v, m :: l => (m.v ∈ @tkV ⟨d.md, h⟩ L v ∧ ¬ (m.kd = 3 ∧ d.k = 1)) ∧ chkL L d h (if m.kd = 3 then m.v else v) l
/-- A course whose offer was of a version that could be taken. -/
structure CuT (L : List Im) (d : Dv) (h : d.md < 2) (x : Cu) : Prop where
  kd : 0 ≤ x.kd ∧ x.kd ≤ 5
  o : x.kd = 1 ∨ x.kd = 2 → x.o ∈ @tkV ⟨d.md, h⟩ L x.v
section
variable {C : Cm} {L : List Im} {F : List Dv} {be : Nat} {cs : List Cu} {sp at_ : Int}
theorem one_of {p : Mk → Bool} : ∀ {l : List Mk}, (l.filter p).length ≤ 1 → l.filter p = [] ∨ ∃ m, l.filter p = [m] := by
  intro l h
  cases hl : l.filter p with
  | nil => exact .inl rfl
  | cons m r =>
    right
    rw [hl] at h
    have : r = [] := List.eq_nil_of_length_eq_zero (by simp only [List.length_cons] at h; omega)
    exact ⟨m, by rw [this]⟩
theorem nodup_one (d : Dv) : ∀ {l : List Mk}, (l.map (·.d)).Nodup → (l.filter (kpM d)).length ≤ 1
  | [], _ => by simp
  | m :: l, h => by
    rw [List.map_cons, List.nodup_cons] at h
    rw [List.filter_cons]
    by_cases hm : kpM d m = true
    · rw [if_pos hm]
      have : l.filter (kpM d) = [] := by
        rw [List.filter_eq_nil_iff]
        intro y hy hk
        unfold kpM at hm hk
        have e1 := of_decide_eq_true hm
        have e2 := of_decide_eq_true hk
        exact h.1 (by rw [e1, ← e2]; exact List.mem_map_of_mem hy)
      rw [this]
      simp
    · rw [if_neg hm]
      exact nodup_one d h.2
theorem stG_skip {k : Nat} : ∀ (l : List Mk) (x : Cu), (∀ m ∈ l, ¬ m.d = k) → l.foldl (stG C k) x = x
  | [], _, _ => rfl
  | m :: l, x, h => by
    have e : stG C k x m = x := by
      unfold stG
      have := h m List.mem_cons_self
      simp [this]
    rw [List.foldl_cons, e]
    exact stG_skip l x fun y hy => h y (List.mem_cons_of_mem _ hy)
theorem stG_filter {d : Dv} : ∀ (l : List Mk) (x : Cu), l.foldl (stG C d.k) x = (l.filter (kpM d)).foldl (stG C d.k) x
  | [], _ => rfl
  | m :: l, x => by
    rw [List.foldl_cons, List.filter_cons]
    by_cases hm : kpM d m = true
    · rw [if_pos hm, List.foldl_cons]
      exact stG_filter l _
    · rw [if_neg hm]
      have e : stG C d.k x m = x := by
        unfold stG
        have : ¬ m.d = d.k := by
          unfold kpM at hm
          simpa using hm
        simp [this]
      rw [e]
      exact stG_filter l x
/-- A step's mark of a device is right for its course, and the course behind it is right again. -/
theorem StepM.right (hF : FlOk F) {i : Nat} {d : Dv} {x : Cu} (h : d.md < 2) (hd : F[i]? = some d) (hx : cs[i]? = some x) (hT : CuT L d h x) (hat : C.at_ ≤ at_) {m : Mk} (hm : StepM C L F be cs at_ m) (hk : m.d = d.k) :
    (m.v ∈ @tkV ⟨d.md, h⟩ L x.v ∧ ¬ (m.kd = 3 ∧ d.k = 1)) ∧ CuT L d h (stG C d.k x m) ∧ (stG C d.k x m).v = if m.kd = 3 then m.v else x.v := by
  have hz : (d, x) ∈ F.zip cs := List.mem_of_getElem? (List.getElem?_zip_eq_some.2 ⟨hd, hx⟩)
  have hma : m.at_ = at_ := by obtain ⟨_, _, _, e⟩ := hm.dk; exact e
  have e0 : stG C d.k x m = foV x m := by
    unfold stG
    have : C.at_ ≤ m.at_ := by omega
    simp [hk, this]
  rw [e0]
  rcases hm with ⟨p, h1, h2⟩ | ⟨p, im, h1, h2, h3, h4⟩
  · have e := zip_uniq hF h1 hz (by rw [← (busyM_k h2).1, hk])
    subst e
    unfold busyM at h2
    simp only at h2
    by_cases h5 : x.kd = 2
    · rw [if_pos h5] at h2
      by_cases h6 : d.k = 1
      · rw [if_pos h6] at h2
        cases h2
        have ho : foOk x ⟨at_, d.k, 4, x.o⟩ = true := by unfold foOk; simp [h5]
        unfold foV
        rw [if_pos ho]
        refine ⟨⟨hT.o (.inr h5), fun hh => by have := hh.1; simp at this⟩, ⟨⟨by show (0 : Int) ≤ 4; omega, by show (4 : Int) ≤ 5; omega⟩, fun hh => ?_⟩, ?_⟩
        · rcases hh with hh | hh <;> simp [foTo] at hh
        · simp [foTo]
      · rw [if_neg h6] at h2
        cases h2
        have ho : foOk x ⟨at_, d.k, 3, x.o⟩ = true := by unfold foOk; simp [h5]
        unfold foV
        rw [if_pos ho]
        refine ⟨⟨hT.o (.inr h5), fun hh => h6 hh.2⟩, ⟨⟨by show (0 : Int) ≤ 3; omega, by show (3 : Int) ≤ 5; omega⟩, fun hh => ?_⟩, ?_⟩
        · rcases hh with hh | hh <;> simp [foTo] at hh
        · simp [foTo]
    · rw [if_neg h5] at h2
      by_cases h6 : x.kd = 1
      · rw [if_pos h6] at h2
        cases h2
        have ho : foOk x ⟨at_, d.k, 2, x.o⟩ = true := by unfold foOk; simp [h6]
        unfold foV
        rw [if_pos ho]
        refine ⟨⟨hT.o (.inl h6), fun hh => by have := hh.1; simp at this⟩, ⟨⟨by show (0 : Int) ≤ 2; omega, by show (2 : Int) ≤ 5; omega⟩, fun _ => ?_⟩, ?_⟩
        · have := hT.o (.inl h6)
          simpa [foTo] using this
        · simp [foTo]
      · rw [if_neg h6] at h2
        cases h2
  · have e := zip_uniq hF h1 hz (by rw [← hk, h4])
    subst e
    obtain ⟨hb, hou, hrd⟩ := wtB_idle h2
    simp only at hb hou hrd h3 h4
    obtain ⟨hj, h5⟩ := frU_tak h3
    have hv : im.v ∈ @tkV ⟨d.md, h⟩ L x.v := by
      unfold tkV
      exact List.mem_map_of_mem h5
    rw [h4]
    have hkd : x.kd = 0 ∨ x.kd = 3 ∨ x.kd = 4 := by
      unfold bzV at hb
      unfold ouV at hou
      rw [hrd] at hou
      simp at hb hou
      have := hT.kd
      omega
    have ho : foOk x ⟨at_, d.k, 1, im.v⟩ = true := by
      unfold foOk
      rcases hkd with e | e | e <;> simp [e]
    unfold foV
    rw [if_pos ho]
    refine ⟨⟨hv, fun hh => by have := hh.1; simp at this⟩, ⟨⟨by show (0 : Int) ≤ 1; omega, by show (1 : Int) ≤ 5; omega⟩, fun _ => ?_⟩, ?_⟩
    · simpa [foTo] using hv
    · simp [foTo]
end
section
variable {C : Cm} {L : List Im} {F : List Dv}
theorem nowV_mem {at_ : Int} {s : St} (hF : FlOk F) {m : Mk} (h : m ∈ nowV C L F at_ s) : StepM C L F (bgA C at_ s).be.length (bgA C at_ s).cs at_ m := by
  unfold nowV stepV at h
  rw [srtV_perm.mem_iff] at h
  exact stepL_mem hF h
theorem nowV_nodup {at_ : Int} {s : St} (hF : FlOk F) : ((nowV C L F at_ s).map (·.d)).Nodup := by
  unfold nowV stepV
  rw [(srtV_perm.map _).nodup_iff]
  exact stepL_nodup hF
theorem bgA_cs (C : Cm) (t : Int) (s : St) : (bgA C t s).cs = s.cs := (bgV_keep C t 5 s).1
/-- The marks of a device in a play. -/
theorem plR_chk (hF : FlOk F) {i : Nat} {d : Dv} (h : d.md < 2) (hd : F[i]? = some d) : ∀ (n : Nat) (at_ : Int) (s : St) (x : Cu), C.at_ ≤ at_ → s.cs[i]? = some x → CuT L d h x → chkL L d h x.v ((plR C L F n at_ s).filter (kpM d))
  | 0, _, _, _, _, _, _ => trivial
  | n + 1, at_, s, x, hat, hx, hT => by
    rw [plR, List.filter_append]
    have hx1 : (bgA C at_ s).cs[i]? = some x := by rw [bgA_cs]; exact hx
    have hx2 : (nextS C L F at_ s).cs[i]? = some (((nowV C L F at_ s).filter (kpM d)).foldl (stG C d.k) x) := by
      unfold nextS
      rw [bgA_cs, ← stG_filter]
      exact fold_cs hF.ord hd _ _ _ hx1
    rcases one_of (nodup_one d (nowV_nodup (C := C) (L := L) (at_ := at_) (s := s) hF)) with e | ⟨m, e⟩
    · rw [e] at hx2 ⊢
      exact plR_chk hF h hd n (at_ + 10) _ x (by omega) hx2 hT
    · have hm : m ∈ (nowV C L F at_ s).filter (kpM d) := by rw [e]; exact List.mem_singleton.2 rfl
      have hk : m.d = d.k := by
        have := (List.mem_filter.1 hm).2
        unfold kpM at this
        exact of_decide_eq_true this
      obtain ⟨h1, h2, h3⟩ := (nowV_mem hF (List.mem_filter.1 hm).1).right hF h hd hx1 hT hat hk
      rw [e] at hx2 ⊢
      refine ⟨h1, ?_⟩
      rw [← h3]
      exact plR_chk hF h hd n (at_ + 10) _ _ (by omega) hx2 h2
theorem nextS_ok {at_ : Int} {s : St} {n : Nat} (hC : CmOk C) (hF : FlOk F) (hL : ImsOk L) (hs : StO C F n s) (ht : 0 ≤ at_ ∧ at_ ≤ 1000000) : StO C F (n + (nowV C L F at_ s).length) (nextS C L F at_ s) := by
  unfold nextS
  exact StO.bg hC ht.2 (by omega) 5 (StO.fold _ (StO.bg hC ht.2 (by omega) 5 hs) (nowV_ok hC hF hL hs ht).1)
theorem nowV_ord {at_ : Int} {s : St} {n : Nat} (hC : CmOk C) (hF : FlOk F) (hL : ImsOk L) (hs : StO C F n s) (ht : 0 ≤ at_ ∧ at_ ≤ 1000000) : (nowV C L F at_ s).Pairwise mkL := by
  have hok := (nowV_ok (at_ := at_) hC hF hL hs ht).1
  have hnd := nowV_nodup (C := C) (L := L) (at_ := at_) (s := s) hF
  have hat : ∀ m ∈ nowV C L F at_ s, m.at_ = at_ := fun m hm => by obtain ⟨_, _, _, e⟩ := (nowV_mem hF hm).dk; exact e
  have hs2 : (nowV C L F at_ s).Pairwise (fun x y => ¬ cmpM y x < 0) := by
    unfold nowV stepV srtV
    split
    · rename_i h
      exact (Classical.choose_spec h).2
    · rename_i h
      refine absurd ?_ h
      refine ⟨(stepL C L F (bgA C at_ s).be.length (bgA C at_ s).cs (bgA C at_ s).sp at_).mergeSort (fun x y => decide (x.d ≤ y.d)), List.mergeSort_perm _ _, ?_⟩
      have hp : ((stepL C L F (bgA C at_ s).be.length (bgA C at_ s).cs (bgA C at_ s).sp at_).mergeSort (fun x y => decide (x.d ≤ y.d))).Pairwise (fun x y => decide (x.d ≤ y.d) = true) :=
        List.pairwise_mergeSort (fun a b c h1 h2 => by simp at *; omega) (fun a b => by simp; omega) _
      refine hp.imp_of_mem ?_
      intro a b ha hb hab
      have ha' := (List.mergeSort_perm _ _).mem_iff.1 ha
      have hb' := (List.mergeSort_perm _ _).mem_iff.1 hb
      have e1 := (stepL_mem hF ha').dk
      have e2 := (stepL_mem hF hb').dk
      have m1 := (stepL_mem hF ha').ok hF hL (StO.bg hC ht.2 (by omega) 5 hs).cu ht
      have m2 := (stepL_mem hF hb').ok hF hL (StO.bg hC ht.2 (by omega) 5 hs).cu ht
      show ¬ cmpM b a < 0
      rw [cmpM_lt m2.d m1.d]
      obtain ⟨_, _, _, f1⟩ := e1
      obtain ⟨_, _, _, f2⟩ := e2
      have := of_decide_eq_true hab
      unfold mkL
      omega
  have hnd2 : (nowV C L F at_ s).Pairwise (fun x y => ¬ x.d = y.d) := by
    rw [List.Nodup, List.pairwise_map] at hnd
    exact hnd
  refine (hs2.and hnd2).imp_of_mem ?_
  rintro a b ha hb ⟨h1, h2⟩
  rw [cmpM_lt (hok b hb).d (hok a ha).d] at h1
  have f1 := hat a ha
  have f2 := hat b hb
  unfold mkL at h1 ⊢
  omega
theorem plR_ok (hC : CmOk C) (hF : FlOk F) (hL : ImsOk L) : ∀ (n : Nat) (at_ : Int) (s : St) (k : Nat), StO C F k s → 0 ≤ at_ → at_ + 10 * (n : Int) ≤ 1000000 → (∀ m ∈ plR C L F n at_ s, MkOk m ∧ at_ ≤ m.at_) ∧ (plR C L F n at_ s).Pairwise mkL ∧ (plR C L F n at_ s).length ≤ 6 * n
  | 0, _, _, _, _, _, _ => ⟨(fun m hm => absurd hm (List.not_mem_nil (a := m))), List.Pairwise.nil, (by simp [plR])⟩
  | n + 1, at_, s, k, hs, h0, h1 => by
    have ht : 0 ≤ at_ ∧ at_ ≤ 1000000 := ⟨h0, by omega⟩
    obtain ⟨i1, i2, i3⟩ := plR_ok hC hF hL n (at_ + 10) (nextS C L F at_ s) _ (nextS_ok hC hF hL hs ht) (by omega) (by omega)
    obtain ⟨j1, j3⟩ := nowV_ok hC hF hL hs ht
    have hat : ∀ m ∈ nowV C L F at_ s, m.at_ = at_ := fun m hm => by obtain ⟨_, _, _, e⟩ := (nowV_mem hF hm).dk; exact e
    rw [plR]
    refine ⟨fun m hm => ?_, ?_, ?_⟩
    · rcases List.mem_append.1 hm with h | h
      · exact ⟨j1 m h, by rw [hat m h]; omega⟩
      · exact ⟨(i1 m h).1, by have := (i1 m h).2; omega⟩
    · rw [List.pairwise_append]
      refine ⟨nowV_ord hC hF hL hs ht, i2, fun a ha b hb => .inl ?_⟩
      have := hat a ha
      have := (i1 b hb).2
      omega
    · rw [List.length_append]
      omega
end
/-- The marks of a play from the campaign's beginning. -/
theorem plR_mkq {C : Cm} {F : List Dv} {L : List Im} (hC : CmOk C) (hF : FlOk F) (hL : ImsOk L) {R : Nat} (hR : R ≤ 15) : MkqOk (plR C L F R C.at_ (nwV (wvN C) C F)) := by
  have hat := hC.at_
  obtain ⟨h1, h2, h3⟩ := plR_ok hC hF hL R C.at_ _ 0 (nwV_ok hC hF) hat.1 (by omega)
  exact ⟨by omega, fun m hm => (h1 m hm).1, h2⟩
theorem plR_dev {C : Cm} {F : List Dv} {L : List Im} (hF : FlOk F) {R i : Nat} {d : Dv} (h : d.md < 2) (hd : F[i]? = some d) : chkL L d h d.fw ((plR C L F R C.at_ (nwV (wvN C) C F)).filter (kpM d)) := by
  refine plR_chk hF h hd R C.at_ _ (cu0 d) (Int.le_refl _) ?_ ⟨⟨by show (0 : Int) ≤ 0; omega, by show (0 : Int) ≤ 5; omega⟩, fun hh => ?_⟩
  · show (F.map cu0)[i]? = _
    rw [List.getElem?_map, hd]
    rfl
  · rcases hh with hh | hh <;> simp [cu0] at hh
end Go.Proofs.YtidgicbhgnbidaaGreatDoor
