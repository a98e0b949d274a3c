/- The plain law of a play: the marks of a step, of a play; each mark is of a version that the device can take; a shorter play is the beginning of a longer one. No function of the program in sight. -/
import Derived.Test.YtidgicbhgnbidaaGreatDoorCmJ
import Derived.Test.YtidgicbhgnbidaaGreatDoorCmT
namespace Go.Proofs.YtidgicbhgnbidaaGreatDoor
open Go.RowKit

/-- What a device that is busy marks. -/
def busyM (at_ : Int) (p : Dv × Cu) : Option Mk :=
  if p.2.kd = 2 then some ⟨at_, p.1.k, if p.1.k = 1 then 4 else 3, p.2.o⟩ else if p.2.kd = 1 then some ⟨at_, p.1.k, 2, p.2.o⟩ else none
def offM (at_ : Int) (y : Ofr) : Mk := ⟨at_, y.d, 1, y.v⟩
/-- The marks of a step, as they come. -/
noncomputable def stepL (C : Cm) (L : List Im) (F : List Dv) (be : Nat) (cs : List Cu) (sp at_ : Int) : List Mk := (F.zip cs).filterMap (busyM at_) ++ (ofV C L F be cs sp at_).map (offM at_)
noncomputable def stepV (C : Cm) (L : List Im) (F : List Dv) (be : Nat) (cs : List Cu) (sp at_ : Int) : List Mk := srtV (fun x y => cmpM x y < 0) (stepL C L F be cs sp at_)
/-- The state behind a step. -/
noncomputable def nowV (C : Cm) (L : List Im) (F : List Dv) (at_ : Int) (s : St) : List Mk := stepV C L F (bgA C at_ s).be.length (bgA C at_ s).cs (bgA C at_ s).sp at_
noncomputable def nextS (C : Cm) (L : List Im) (F : List Dv) (at_ : Int) (s : St) : St := bgA C at_ ((nowV C L F at_ s).foldl (mkV (wvN C) C F) (bgA C at_ s))
noncomputable def plR (C : Cm) (L : List Im) (F : List Dv) : Nat → Int → St → List Mk
  | 0, _, _ => []
  | n + 1, at_, s => nowV C L F at_ s ++ plR C L F n (at_ + 10) (nextS C L F at_ s)
theorem plR_pre (C : Cm) (L : List Im) (F : List Dv) (b : Nat) : ∀ (a : Nat) (at_ : Int) (s : St), ∃ r, plR C L F (a + b) at_ s = plR C L F a at_ s ++ r
  | 0, _, _ => ⟨_, rfl⟩
  | a + 1, at_, s => by
    obtain ⟨r, hr⟩ := plR_pre C L F b a (at_ + 10) (nextS C L F at_ s)
    refine ⟨r, ?_⟩
    rw [show a + 1 + b = (a + b) + 1 by omega, plR, plR, hr, List.append_assoc]
section
variable {C : Cm} {L : List Im} {F : List Dv} {be : Nat} {cs : List Cu} {sp at_ : Int}
theorem frU_tak {t : Ve} {j : Nat} {v : Ve} {im : Im} (h : frU L t j v = some im) : ∃ hj : j < 2, im ∈ @tak ⟨j, hj⟩ L v := by
  unfold frU at h
  split at h
  · rename_i hx
    obtain ⟨hj, T, _, h2⟩ := Classical.choose_spec hx
    rw [h] at h2
    refine ⟨hj, ?_⟩
    unfold firV at h2
    split at h2
    · cases h2
    · cases hn : nxB T (@tak ⟨j, hj⟩ L v) with
      | none => rw [hn] at h2; cases h2
      | some p =>
        obtain ⟨z, b⟩ := p
        rw [hn] at h2
        have e : im = z := Option.some.inj h2
        rw [e]
        exact nxB_mem hn
  · cases h
theorem ofR_mem {t : Ve} {room : Int} : ∀ {l : List Dv} {r : Int} {y : Ofr}, y ∈ ofR L t F cs room l r → ∃ d ∈ l, ∃ im, frU L t d.md (cxF F cs d).v = some im ∧ y = ⟨d.k, im.v, im.sz⟩
  | [], r, y, h => by cases h
  | d :: l, r, y, h => by
    rw [ofR] at h
    split at h
    · cases h
    · cases hf : frU L t d.md (cxF F cs d).v with
      | none =>
        rw [hf] at h
        obtain ⟨d', h1, h2⟩ := ofR_mem h
        exact ⟨d', List.mem_cons_of_mem _ h1, h2⟩
      | some im =>
        rw [hf] at h
        rcases List.mem_cons.1 h with h | h
        · exact ⟨d, List.mem_cons_self, im, hf, h⟩
        · obtain ⟨d', h1, h2⟩ := ofR_mem h
          exact ⟨d', List.mem_cons_of_mem _ h1, h2⟩
theorem ofR_sub {t : Ve} {room : Int} : ∀ {l : List Dv} {r : Int}, ((ofR L t F cs room l r).map (·.d)).Sublist (l.map (·.k))
  | [], r => List.Sublist.slnil
  | d :: l, r => by
    rw [ofR]
    split
    · exact List.nil_sublist _
    · split
      · exact (ofR_sub (l := l)).cons _
      · exact (ofR_sub (l := l)).cons_cons _
theorem zip_uniq (hF : FlOk F) {p q : Dv × Cu} (hp : p ∈ F.zip cs) (hq : q ∈ F.zip cs) (h : p.1.k = q.1.k) : p = q := by
  obtain ⟨i, hi⟩ := List.getElem?_of_mem hp
  obtain ⟨j, hj⟩ := List.getElem?_of_mem hq
  obtain ⟨d, x⟩ := p
  obtain ⟨d', x'⟩ := q
  rw [List.getElem?_zip_eq_some] at hi hj
  have e1 := ixF_at hF.ord hi.1
  have e2 := ixF_at hF.ord hj.1
  simp only at h e1 e2
  rw [h, e2] at e1
  have e3 := Option.some.inj e1
  subst e3
  have e4 : d' = d := Option.some.inj (hj.1.symm.trans hi.1)
  have e5 : x' = x := Option.some.inj (hj.2.symm.trans hi.2)
  rw [e4, e5]
theorem cxF_zip (hF : FlOk F) {p : Dv × Cu} (hp : p ∈ F.zip cs) : cxF F cs p.1 = p.2 := by
  obtain ⟨i, hi⟩ := List.getElem?_of_mem hp
  obtain ⟨d, x⟩ := p
  rw [List.getElem?_zip_eq_some] at hi
  unfold cxF
  rw [show ixF F (d, x).1.k = some i from ixF_at hF.ord hi.1]
  simp only [Option.bind_some]
  rw [hi.2]
  rfl
theorem ofV_mem (hF : FlOk F) {y : Ofr} (h : y ∈ ofV C L F be cs sp at_) : ∃ p ∈ F.zip cs, wtB C be p = true ∧ y.d = p.1.k ∧ ∃ im, frU L C.t p.1.md p.2.v = some im ∧ y = ⟨p.1.k, im.v, im.sz⟩ := by
  unfold ofV at h
  split at h
  · cases h
  · obtain ⟨d, h1, im, h2, h3⟩ := ofR_mem h
    rw [srtV_perm.mem_iff] at h1
    obtain ⟨x, h4, h5⟩ := wtP_mem h1
    have e := cxF_zip hF h4
    simp only at e
    rw [e] at h2
    exact ⟨(d, x), h4, h5, by rw [h3], im, h2, h3⟩
theorem busyM_k {p : Dv × Cu} {m : Mk} (h : busyM at_ p = some m) : m.d = p.1.k ∧ m.at_ = at_ ∧ bzV p.2 = true := by
  unfold busyM at h
  unfold bzV
  split at h
  · rename_i h2
    cases h
    exact ⟨rfl, rfl, by rw [h2]; rfl⟩
  · split at h
    · rename_i h2
      cases h
      exact ⟨rfl, rfl, by rw [h2]; rfl⟩
    · cases h
theorem wtB_idle {p : Dv × Cu} (h : wtB C be p = true) : bzV p.2 = false ∧ ouV C p.2 = false ∧ rdV C p.2 = false := by
  unfold wtB at h
  simp only [Bool.and_eq_true, Bool.not_eq_true', decide_eq_true_eq] at h
  exact ⟨h.1, h.2.2.2, h.2.2.1⟩
/-- What a mark of a step is. -/
inductive StepM (C : Cm) (L : List Im) (F : List Dv) (be : Nat) (cs : List Cu) (at_ : Int) (m : Mk) : Prop
  | busy (p : Dv × Cu) : p ∈ F.zip cs → busyM at_ p = some m → StepM C L F be cs at_ m
  | off (p : Dv × Cu) (im : Im) : p ∈ F.zip cs → wtB C be p = true → frU L C.t p.1.md p.2.v = some im → m = ⟨at_, p.1.k, 1, im.v⟩ → StepM C L F be cs at_ m
theorem stepL_mem (hF : FlOk F) {m : Mk} (h : m ∈ stepL C L F be cs sp at_) : StepM C L F be cs at_ m := by
  unfold stepL at h
  rcases List.mem_append.1 h with h | h
  · obtain ⟨p, h1, h2⟩ := List.mem_filterMap.1 h
    exact .busy p h1 h2
  · obtain ⟨y, h1, h2⟩ := List.mem_map.1 h
    obtain ⟨p, h3, h4, h5, im, h6, h7⟩ := ofV_mem hF h1
    exact .off p im h3 h4 h6 (by rw [← h2, h7]; rfl)
theorem StepM.dk {m : Mk} (h : StepM C L F be cs at_ m) : ∃ p ∈ F.zip cs, m.d = p.1.k ∧ m.at_ = at_ := by
  rcases h with ⟨p, h1, h2⟩ | ⟨p, im, h1, _, _, h4⟩
  · exact ⟨p, h1, (busyM_k h2).1, (busyM_k h2).2.1⟩
  · exact ⟨p, h1, by rw [h4], by rw [h4]⟩
theorem StepM.uniq (hF : FlOk F) {a b : Mk} (ha : StepM C L F be cs at_ a) (hb : StepM C L F be cs at_ b) (h : a.d = b.d) : a = b := by
  rcases ha with ⟨p, a1, a2⟩ | ⟨p, im, a1, a2, a3, a4⟩ <;> rcases hb with ⟨q, b1, b2⟩ | ⟨q, im', b1, b2, b3, b4⟩
  · have e := zip_uniq hF a1 b1 (by rw [← (busyM_k a2).1, ← (busyM_k b2).1, h])
    rw [e] at a2
    exact Option.some.inj (a2.symm.trans b2)
  · have e := zip_uniq hF a1 b1 (by rw [← (busyM_k a2).1, h, b4])
    have h1 := (busyM_k a2).2.2
    rw [e, (wtB_idle b2).1] at h1
    cases h1
  · have e := zip_uniq hF a1 b1 (by rw [← (busyM_k b2).1, ← h, a4])
    have h1 := (busyM_k b2).2.2
    rw [← e, (wtB_idle a2).1] at h1
    cases h1
  · have e := zip_uniq hF a1 b1 (by rw [a4, b4] at h; exact h)
    rw [e] at a3 a4
    rw [a3] at b3
    cases b3
    rw [a4, b4]
theorem filterMap_busy : ∀ (l : List (Dv × Cu)), ((l.filterMap (busyM at_)).map (·.d)).Sublist (l.map (·.1.k))
  | [] => List.Sublist.slnil
  | p :: l => by
    rw [List.filterMap_cons]
    cases h : busyM at_ p with
    | none => exact (filterMap_busy l).cons _
    | some m =>
      simp only [List.map_cons]
      rw [(busyM_k h).1]
      exact (filterMap_busy l).cons_cons _
theorem keys_nodup (hF : FlOk F) : (F.map (·.k)).Nodup := by
  have : (F.map (·.k)).Pairwise (· < ·) := by
    rw [List.pairwise_map]
    exact hF.ord
  exact this.imp fun h => by omega
theorem zip_keys' : ∀ (F : List Dv) (cs : List Cu), ((F.zip cs).map (·.1.k)).Sublist (F.map (·.k))
  | [], _ => by simp
  | d :: F, [] => by simp
  | d :: F, x :: cs => by
    simp only [List.zip_cons_cons, List.map_cons]
    exact (zip_keys' F cs).cons_cons _
theorem zip_keys : ((F.zip cs).map (·.1.k)).Sublist (F.map (·.k)) := zip_keys' F cs
theorem stepL_nodup (hF : FlOk F) : ((stepL C L F be cs sp at_).map (·.d)).Nodup := by
  unfold stepL
  rw [List.map_append, List.nodup_append]
  refine ⟨((filterMap_busy _).trans zip_keys).nodup (keys_nodup hF), ?_, ?_⟩
  · rw [List.map_map]
    unfold ofV
    split
    · exact List.nodup_nil
    · refine (show ((ofR L C.t F cs (C.rm - (bzN cs : Int)) (srtV (fun x y => cmpD C x y < 0) (wtP C be (F.zip cs))) 0).map (·.d)).Nodup from ofR_sub.nodup ?_)
      rw [(srtV_perm.map _).nodup_iff]
      have hw : ((wtP C be (F.zip cs)).map (·.k)).Sublist ((F.zip cs).map (·.1.k)) := by
        unfold wtP
        rw [List.map_map]
        exact List.Sublist.map _ List.filter_sublist
      exact (hw.trans zip_keys).nodup (keys_nodup hF)
  · intro a ha b hb e
    obtain ⟨m, hm, rfl⟩ := List.mem_map.1 ha
    obtain ⟨m', hm', rfl⟩ := List.mem_map.1 hb
    obtain ⟨p, h1, h2⟩ := List.mem_filterMap.1 hm
    obtain ⟨y, h3, rfl⟩ := List.mem_map.1 hm'
    obtain ⟨q, h4, h5, h6, _⟩ := ofV_mem hF h3
    have e2 := zip_uniq hF h1 h4 (by rw [← (busyM_k h2).1, ← h6]; exact e)
    have h7 := (busyM_k h2).2.2
    rw [e2, (wtB_idle h5).1] at h7
    cases h7
theorem stepL_len (hF : FlOk F) : (stepL C L F be cs sp at_).length ≤ 6 := by
  have h1 := stepL_nodup (C := C) (L := L) (be := be) (cs := cs) (sp := sp) (at_ := at_) hF
  have h2 : ∀ k ∈ (stepL C L F be cs sp at_).map (·.d), k ∈ F.map (·.k) := by
    intro k hk
    obtain ⟨m, hm, rfl⟩ := List.mem_map.1 hk
    obtain ⟨p, h3, h4, _⟩ := (stepL_mem hF hm).dk
    rw [h4]
    exact List.mem_map.2 ⟨p.1, (List.of_mem_zip h3).1, rfl⟩
  have h3 := h1.length_le_of_subset h2
  rw [List.length_map, List.length_map] at h3
  exact Nat.le_trans h3 hF.n
theorem StepM.ok {n : Nat} (hF : FlOk F) (hL : ImsOk L) (hcs : ∀ x ∈ cs, CuOk x n) (ht : 0 ≤ at_ ∧ at_ ≤ 1000000) {m : Mk} (h : StepM C L F be cs at_ m) : MkOk m := by
  rcases h with ⟨p, h1, h2⟩ | ⟨p, im, h1, _, h3, h4⟩
  · have hd := hF.ok p.1 (List.of_mem_zip h1).1
    have hx := hcs p.2 (List.of_mem_zip h1).2
    unfold busyM at h2
    split at h2
    · cases h2
      refine ⟨ht, hd.k, ?_, hx.o⟩
      show 1 ≤ (if p.1.k = 1 then (4 : Int) else 3) ∧ (if p.1.k = 1 then (4 : Int) else 3) ≤ 5
      split <;> omega
    · split at h2
      · cases h2
        exact ⟨ht, hd.k, by show (1 : Int) ≤ 2 ∧ (2 : Int) ≤ 5; omega, hx.o⟩
      · cases h2
  · obtain ⟨hj, h5⟩ := frU_tak h3
    have hd := hF.ok p.1 (List.of_mem_zip h1).1
    rw [h4]
    exact ⟨ht, hd.k, by show (1 : Int) ≤ 1 ∧ (1 : Int) ≤ 5; omega, (hL.ok im ((@mem_tak ⟨_, hj⟩ _ _ _).1 h5).1).v⟩
theorem MkOk.rw_ {m : Mk} (h : MkOk m) : MkRw m := ⟨by have := h.at_; omega, .inl h.at_.2, by have := h.d; omega, h.v⟩
theorem step_srt (hF : FlOk F) {m : List Mk} (hp : m.Perm (stepL C L F be cs sp at_)) (hs : m.Pairwise (fun x y => ¬ cmpM y x < 0)) : m = stepV C L F be cs sp at_ := by
  unfold stepV
  refine srtV_eq (fun a ha b hb h1 h2 => ?_) hp hs
  have ha' := stepL_mem hF ha
  have hb' := stepL_mem hF hb
  obtain ⟨p, p1, p2, p3⟩ := ha'.dk
  obtain ⟨q, q1, q2, q3⟩ := hb'.dk
  have hpk := (hF.ok p.1 (List.of_mem_zip p1).1).k
  have hqk := (hF.ok q.1 (List.of_mem_zip q1).1).k
  refine ha'.uniq hF hb' ?_
  have e1 := dvR_cmp (i := a.d) (j := b.d) (by omega) (by omega)
  have e2 := dvR_cmp (i := b.d) (j := a.d) (by omega) (by omega)
  unfold cmpM at h1 h2
  rw [lexJ, e1] at h1
  rw [lexJ, e2] at h2
  unfold rkD at h1 h2
  rw [if_neg (by omega), if_neg (by omega)] at h1 h2
  omega
end
end Go.Proofs.YtidgicbhgnbidaaGreatDoor
