/- A region that draws its order and lays new blocks beside its calls: each operation is looked at once, at the frame of the end; where the new blocks lie is a variable. No program in sight. -/
import Derived.Test.YtnmgfnnkcenfeaaGreatDoorQtt
namespace Go.Proofs.YtnmgfnnkcenfeaaGreatDoor
open Go.RowKit

def putL : Act → List Oper → List Value → Act
  | a, o :: os, v :: vs => putL (a.put o.dst v) os vs
  | a, _, _ => a
def putG (G : Nat → Nat) : Act → List Oper → List (Option Obj) → Nat → Act
  | a, o :: os, m :: ms, k => putG G (match m with | none => a | some _ => a.put o.dst (.pointer (some ⟨G k, 0, none⟩))) os ms (k + 1)
  | a, _, _, _ => a
def QR (P : Program) (A : Act) (o : Oper) (w : World) (v : Value) : Prop :=
  (execOp A.eval o).run P w = .ok (.value v) w ∨ ∃ f args, (execOp A.eval o).run P w = .ok (.enter f args) w ∧ Calls P f args w (fun e w' => e = .returned v ∧ Below w.heap.size w w')
def QAl (P : Program) (A : Act) (o : Oper) (ob : Obj) : Prop := ∀ w, (execOp A.eval o).run P w = .ok (.value (.pointer (some ⟨w.heap.size, 0, none⟩))) (w.alloc ob)
def QOne (P : Program) (W : World) (A : Act) (o : Oper) (v : Value) (m : Option Obj) : Prop :=
  match m with
  | none => ∀ w, Below W.heap.size W w → QR P A o w v
  | some ob => QAl P A o ob
def QOps (P : Program) (W : World) (A : Act) : List Oper → List Value → List (Option Obj) → Prop
  | o :: os, v :: vs, m :: ms => QOne P W A o v m ∧ QOps P W A os vs ms
  | _, _, _ => True
theorem QOps.get {P : Program} {W : World} {A : Act} : ∀ {os : List Oper} {vs : List Value} {ms : List (Option Obj)} {k : Nat} {o : Oper} {v : Value} {m : Option Obj}, QOps P W A os vs ms → os[k]? = some o → vs[k]? = some v → ms[k]? = some m → QOne P W A o v m
  | o :: os, v :: vs, m :: ms, 0, _, _, _, h, h1, h2, h3 => by cases h1; cases h2; cases h3; exact h.1
  | o :: os, v :: vs, m :: ms, k + 1, _, _, _, h, h1, h2, h3 => QOps.get h.2 h1 h2 h3
  | [], _, _, _, _, _, _, _, h1, _, _ => by simp at h1
  | _ :: _, [], _, _, _, _, _, _, _, h2, _ => by simp at h2
  | _ :: _, _ :: _, [], _, _, _, _, _, _, _, h3 => by simp at h3
def opB (ops : Array Oper) (n : Nat) (ms : List (Option Obj)) (i : Nat) : Bool :=
  match ops[i]? with
  | none => false
  | some o => o.guard.isNone && o.dst.isSome && o.after.all (fun e => !Region.binds .any e || decide (e.on < i)) &&
      (List.range n).all (fun k => match ops[k]? with
        | none => false
        | some p => (k == i || p.dst != o.dst) &&
          (match p.dst with
            | none => false
            | some t => !(o.looksAt ops).contains t || ((match ms[k]? with | some none => true | _ => false) && o.after.any (fun e => Region.binds .any e && e.on == k))))
def allB (m n : Nat) : Array Bool := Array.replicate n true ++ Array.replicate (m - n) false
def ptB (ops : Array Oper) (n : Nat) (ms : List (Option Obj)) : Bool :=
  Region.noSelect ops && decide (n < ops.size) && Region.sinkB .any ops n && Region.chainB .any ops n && Region.seqB .any ops (ops.size - n) n (allB ops.size n) && (List.range n).all (opB ops n ms)
structure OpOk (ops : Array Oper) (n : Nat) (ms : List (Option Obj)) (i : Nat) (o : Oper) (t : Tmp) : Prop where
  guard : o.guard = none
  dst : o.dst = some t
  back : ∀ e ∈ o.after, Region.binds .any e = true → e.on < i
  apart : ∀ k p u, k < n → ops[k]? = some p → p.dst = some u → k ≠ i → u ≠ t
  looks : ∀ k p u, k < n → ops[k]? = some p → p.dst = some u → u ∈ o.looksAt ops → ms[k]? = some none ∧ ∃ e ∈ o.after, Region.binds .any e = true ∧ e.on = k
theorem opB_spec {ops : Array Oper} {n : Nat} {ms : List (Option Obj)} {i : Nat} (h : opB ops n ms i = true) : ∃ o t, ops[i]? = some o ∧ OpOk ops n ms i o t := by
  unfold opB at h
  cases ho : ops[i]? with
  | none => rw [ho] at h; cases h
  | some o =>
    rw [ho] at h
    simp only [Bool.and_eq_true] at h
    obtain ⟨⟨⟨h1, h2⟩, h3⟩, h4⟩ := h
    obtain ⟨t, ht⟩ := Option.isSome_iff_exists.1 h2
    refine ⟨o, t, rfl, Option.isNone_iff_eq_none.1 h1, ht, ?_, ?_, ?_⟩
    · intro e he hb
      have := Array.all_eq_true_iff_forall_mem.1 h3 e he
      rw [hb] at this
      simpa using this
    · intro k p u hk hp hu hki e
      have := List.all_eq_true.1 h4 k (List.mem_range.2 hk)
      rw [hp] at this
      simp only [Bool.and_eq_true, Bool.or_eq_true, beq_iff_eq, bne_iff_ne] at this
      rcases this.1 with g | g
      · exact hki g
      · rw [hu, ht, e] at g; exact g rfl
    · intro k p u hk hp hu hm
      have := List.all_eq_true.1 h4 k (List.mem_range.2 hk)
      rw [hp] at this
      simp only [hu, Bool.and_eq_true, Bool.or_eq_true, Bool.not_eq_true'] at this
      rcases this.2 with g | ⟨g1, g2⟩
      · rw [List.contains_iff_mem.2 hm] at g; cases g
      · refine ⟨?_, ?_⟩
        · cases hms : ms[k]? with
          | none => rw [hms] at g1; cases g1
          | some m =>
            cases m with
            | none => rfl
            | some ob => rw [hms] at g1; cases g1
        · obtain ⟨j, hj, hj2⟩ := Array.any_eq_true.1 g2
          simp only [Bool.and_eq_true, beq_iff_eq] at hj2
          exact ⟨_, Array.getElem_mem hj, hj2.1, hj2.2⟩
theorem wpAny_more {P : Program} {md : Region.Mode} {ops : Array Oper} {Q : Exit → Act → World → Prop} : ∀ (f : Nat) (d : Array Bool) (a : Act) (w : World), wpAny P md ops Q f d a w → wpAny P md ops Q (f + 1) d a w
  | 0, d, a, w, h => ⟨fun _ => h.2, fun i hi => by rw [h.1] at hi; cases hi⟩
  | f + 1, d, a, w, h => ⟨h.1, fun i hi => wpOp_mono (fun a' w' h' => wpAny_more f _ a' w' h') (h.2 i hi)⟩
theorem wpAny_le {P : Program} {md : Region.Mode} {ops : Array Oper} {Q : Exit → Act → World → Prop} {f g : Nat} (hfg : f ≤ g) {d : Array Bool} {a : Act} {w : World} (h : wpAny P md ops Q f d a w) : wpAny P md ops Q g d a w := by
  induction hfg with
  | refl => exact h
  | step _ ih => exact wpAny_more _ _ _ _ ih
def cntU (d : Array Bool) : Nat → Nat
  | 0 => 0
  | k + 1 => cntU d k + (if d.getD k false = true then 0 else 1)
theorem cntU_zero {d : Array Bool} : ∀ {n : Nat}, cntU d n = 0 → ∀ k, k < n → d.getD k false = true
  | 0, _, k, hk => by omega
  | n + 1, h, k, hk => by
    simp only [cntU] at h
    split at h
    · rename_i h1
      rcases Nat.lt_or_eq_of_le (Nat.le_of_lt_succ hk) with h2 | h2
      · exact cntU_zero (by omega) k h2
      · rw [h2]; exact h1
    · omega
theorem cntU_some {d : Array Bool} : ∀ {n : Nat}, 0 < cntU d n → ∃ k, k < n ∧ d.getD k false = false ∧ ∀ j, j < k → d.getD j false = true
  | 0, h => by simp [cntU] at h
  | n + 1, h => by
    by_cases h0 : 0 < cntU d n
    · obtain ⟨k, h1, h2⟩ := cntU_some h0
      exact ⟨k, by omega, h2⟩
    · simp only [cntU] at h
      split at h
      · omega
      · rename_i h1
        exact ⟨n, by omega, by simpa using h1, fun j hj => cntU_zero (by omega) j hj⟩
theorem cntU_set {d : Array Bool} {i : Nat} (hi : i < d.size) (h : d.getD i false = false) : ∀ {n : Nat}, cntU (d.setIfInBounds i true) n = cntU d n - (if i < n then 1 else 0) ∧ (i < n → 0 < cntU d n)
  | 0 => by simp [cntU]
  | n + 1 => by
    obtain ⟨h1, h2⟩ := cntU_set hi h (n := n)
    simp only [cntU]
    by_cases hin : i = n
    · subst hin
      have e1 : (if i < i then 1 else 0 : Nat) = 0 := if_neg (Nat.lt_irrefl i)
      have e2 : (if i < i + 1 then 1 else 0 : Nat) = 1 := if_pos (Nat.lt_succ_self i)
      have e3 : (d.setIfInBounds i true).getD i false = true := by simp [hi]
      rw [h1, e1, e2, e3, h]
      simp
    · rw [h1, getD_set_ne false hin]
      by_cases hl : i < n
      · have e1 : (if i < n then 1 else 0 : Nat) = 1 := if_pos hl
        have e2 : (if i < n + 1 then 1 else 0 : Nat) = 1 := if_pos (by omega)
        have := h2 hl
        rw [e1, e2]
        exact ⟨by omega, fun _ => by omega⟩
      · have e1 : (if i < n then 1 else 0 : Nat) = 0 := if_neg hl
        have e2 : (if i < n + 1 then 1 else 0 : Nat) = 0 := if_neg (by omega)
        rw [e1, e2]
        exact ⟨by omega, fun h => by omega⟩
theorem putL_get : ∀ (os : List Oper) (vs : List Value) (a : Act) (t : Tmp), (∀ o ∈ os, o.dst ≠ some t) → (putL a os vs).tmps[t]? = a.tmps[t]?
  | [], _, a, t, _ => rfl
  | _ :: _, [], a, t, _ => rfl
  | o :: os, v :: vs, a, t, h => by
    rw [putL, putL_get os vs _ t (fun p hp => h p (List.mem_cons_of_mem _ hp))]
    have h0 := h o List.mem_cons_self
    unfold Act.put
    split
    · rename_i d hd
      rw [hd] at h0
      simp only
      rw [Array.getElem?_setIfInBounds_ne (fun e => h0 (by rw [e]))]
    · rfl
theorem put_size (a : Act) (d : Option Tmp) (v : Value) : (a.put d v).tmps.size = a.tmps.size ∧ (a.put d v).defers = a.defers := by
  unfold Act.put
  split
  · simp
  · exact ⟨rfl, rfl⟩
theorem putL_size : ∀ (os : List Oper) (vs : List Value) (a : Act), (putL a os vs).tmps.size = a.tmps.size ∧ (putL a os vs).defers = a.defers
  | [], _, a => ⟨rfl, rfl⟩
  | _ :: _, [], a => ⟨rfl, rfl⟩
  | o :: os, v :: vs, a => by
    obtain ⟨h1, h2⟩ := putL_size os vs (a.put o.dst v)
    obtain ⟨g1, g2⟩ := put_size a o.dst v
    exact ⟨h1.trans g1, h2.trans g2⟩
theorem putL_at : ∀ (os : List Oper) (vs : List Value) (a : Act) (k : Nat) (o : Oper) (v : Value) (t : Tmp), os[k]? = some o → vs[k]? = some v → o.dst = some t → t < a.tmps.size → (∀ j p, os[j]? = some p → j ≠ k → p.dst ≠ some t) → (putL a os vs).tmps[t]? = some v
  | [], _, a, k, o, v, t, h1, _, _, _, _ => by simp at h1
  | _ :: _, [], a, k, o, v, t, _, h2, _, _, _ => by simp at h2
  | p :: os, u :: vs, a, 0, o, v, t, h1, h2, h3, h4, h5 => by
    cases h1; cases h2
    rw [putL, putL_get os vs _ t (fun q hq => by
      obtain ⟨j, hj⟩ := List.getElem?_of_mem hq
      exact h5 (j + 1) q (by simpa using hj) (by omega))]
    unfold Act.put
    rw [h3]
    simp [h4]
  | p :: os, u :: vs, a, k + 1, o, v, t, h1, h2, h3, h4, h5 => by
    rw [putL]
    refine putL_at os vs _ k o v t (by simpa using h1) (by simpa using h2) h3 ?_ (fun j q hj hne => h5 (j + 1) q (by simpa using hj) (by omega))
    rw [(put_size _ _ _).1]; exact h4
structure PInv (W : World) (ops : Array Oper) (n : Nat) (ms : List (Option Obj)) (A : Act) (G : Nat → Nat) (d : Array Bool) (a : Act) (w : World) : Prop where
  head : HeadInv .any ops n d
  bel : Below W.heap.size W w
  defers : a.defers = A.defers
  size : a.tmps.size = A.tmps.size
  slot : ∀ t, (∀ k o, k < n → ops[k]? = some o → o.dst = some t → d.getD k false = true ∧ ms[k]? = some none) → a.tmps[t]? = A.tmps[t]?
  al : ∀ k o t ob, k < n → ops[k]? = some o → o.dst = some t → ms[k]? = some (some ob) → d.getD k false = true → a.tmps[t]? = some (.pointer (some ⟨G k, 0, none⟩)) ∧ W.heap.size ≤ G k ∧ w.heap[G k]? = some ob
  ne : ∀ k j ob ob', k < n → j < n → ms[k]? = some (some ob) → ms[j]? = some (some ob') → d.getD k false = true → d.getD j false = true → k ≠ j → G k ≠ G j
section
variable {P : Program} {W : World} {ops : Array Oper} {n : Nat} {vs : List Value} {ms : List (Option Obj)} {A : Act}
theorem eval_agree {a a' : Act} {x : Operand} (h : ∀ t, x = .tmp t → a.tmps[t]? = a'.tmps[t]?) : a.eval x = a'.eval x := by
  cases x with
  | tmp t =>
    have := h t rfl
    simp only [Act.eval, Array.getD_eq_getD_getElem?, this]
  | const v => rfl
  | global g => rfl
  | func f => rfl
theorem heap_keep {w w' : World} {g : Nat} {ob : Obj} (h : w.heap[g]? = some ob) (hb : Below w.heap.size w w') : w'.heap[g]? = some ob :=
  (hb.block g (Array.getElem?_eq_some_iff.1 h).1).trans h
theorem region_pt {R : Exit → Act → World → Prop} (hB : ptB ops n ms = true) (hq : QOps P W A (ops.toList.take n) vs ms) (hvs : vs.length = n) (hms : ms.length = n)
    (hA : ∀ k o v t, k < n → ops[k]? = some o → vs[k]? = some v → o.dst = some t → t < A.tmps.size ∧ (ms[k]? = some none → A.tmps[t]? = some v))
    (hend : ∀ a w G, PInv W ops n ms A G (allB ops.size n) a w → wpList P ops R (ops.toList.drop n) a w) :
    ∀ (f : Nat) (d : Array Bool) (a : Act) (w : World) (G : Nat → Nat), PInv W ops n ms A G d a w → cntU d n = f → wpAny P .any ops R (f + (ops.size - n)) d a w := by
  unfold ptB at hB
  simp only [Bool.and_eq_true, decide_eq_true_eq] at hB
  obtain ⟨⟨⟨⟨⟨hsel, hn⟩, hs⟩, hc⟩, hseq⟩, hops⟩ := hB
  have hok : ∀ i, i < n → ∃ o t, ops[i]? = some o ∧ OpOk ops n ms i o t := fun i hi => opB_spec (List.all_eq_true.1 hops i (List.mem_range.2 hi))
  have hdl : (ops.toList.drop n).length = ops.size - n := by simp
  intro f
  induction f with
  | zero =>
    intro d a w G inv hcn
    have hall := cntU_zero hcn
    have hd : d = allB ops.size n := by
      refine Array.ext (by unfold allB; rw [inv.head.size]; simp; omega) (fun i h1 h2 => ?_)
      rw [inv.head.size] at h1
      have hg : d.getD i false = (allB ops.size n).getD i false := by
        by_cases hin : i < n
        · rw [hall i hin]
          unfold allB
          simp [Array.getElem?_append, hin]
        · have h3 := getD_both (inv.head.tail i (by omega) h1)
          rw [h3]
          unfold allB
          simp only [Array.getD_eq_getD_getElem?, Array.getElem?_append, Array.size_replicate, hin, if_false, Array.getElem?_replicate]
          split <;> rfl
      have e1 : d.getD i false = d[i] := by simp [inv.head.size, h1]
      have e2 : (allB ops.size n).getD i false = (allB ops.size n)[i] := by
        rw [Array.getD_eq_getD_getElem?, Array.getElem?_eq_getElem h2]; rfl
      rw [e1, e2] at hg
      exact hg
    rw [Nat.zero_add]
    have := wpAny_of_seq (P := P) (md := .any) (Q' := R) (ops.toList.drop n) n d a w (fun j => by simp [List.getElem?_drop]) (by rw [hdl, hd]; exact hseq) (hend a w G (hd ▸ inv))
    rwa [hdl] at this
  | succ f ih =>
    intro d a w G inv hcn
    obtain ⟨k0, hk0, hk1, hk2⟩ := cntU_some (d := d) (n := n) (by omega)
    have hr0 : k0 ∈ Region.ready .any ops d := by
      obtain ⟨o, t, ho, hO⟩ := hok k0 hk0
      exact mem_ready.2 ⟨getD_in (by rw [inv.head.size]; omega) hk1, o, ho, fun e he hb => hk2 _ (hO.back e he hb)⟩
    have hlow : ∀ j ∈ Region.ready .any ops d, j < n := fun j hj => by
      rcases Nat.lt_or_ge j n with h | h
      · exact h
      · exact absurd hj (tail_waits hs hc hn inv.head _ k0 rfl hk0 (mem_ready.1 hr0).1 j h)
    rw [Nat.succ_add]
    refine ⟨fun h => (by rw [h] at hr0; cases hr0), fun i hi => ?_⟩
    have hin := hlow i hi
    obtain ⟨hiu, oi, hoi, hiall⟩ := mem_ready.1 hi
    obtain ⟨o, t, ho, hO⟩ := hok i hin
    obtain rfl : o = oi := Option.some.inj (ho.symm.trans hoi)
    have hid : d.getD i false = false := getD_both hiu
    have hisz : i < d.size := by rw [inv.head.size]; omega
    obtain ⟨v, hv⟩ : ∃ v, vs[i]? = some v := ⟨_, List.getElem?_eq_getElem (by omega)⟩
    obtain ⟨m, hm⟩ : ∃ m, ms[i]? = some m := ⟨_, List.getElem?_eq_getElem (by omega)⟩
    obtain ⟨htA, hvA⟩ := hA i o v t hin ho hv hO.dst
    have hQ := hq.get (k := i) (by rw [List.getElem?_take_of_lt hin]; simpa using ho) hv hm
    have hexec : execOp a.eval o = execOp A.eval o := by
      refine execOp_congr o (fun cs b => Region.noSelect_spec hsel i o cs b ho) (fun x hx => eval_agree (fun u hu => inv.slot u (fun k p hk hp hpu => ?_)))
      have hlook : u ∈ o.looksAt ops := by
        subst hu
        exact List.mem_append_left _ (List.mem_filterMap.2 ⟨.tmp u, by simpa using hx, rfl⟩)
      obtain ⟨g1, e, he, hb, hon⟩ := hO.looks k p u hk hp hpu hlook
      exact ⟨hon ▸ hiall e he hb, g1⟩
    have hcnt : cntU (d.setIfInBounds i true) n = f := by
      obtain ⟨h1, h2⟩ := cntU_set hisz hid (n := n)
      rw [h1, if_pos hin]; omega
    have hdset : ∀ k, (d.setIfInBounds i true).getD k false = true → k = i ∨ d.getD k false = true := fun k hk => by
      by_cases hki : i = k
      · exact .inl hki.symm
      · rw [getD_set_ne false hki] at hk; exact .inr hk
    -- the frame behind it
    have hput : ∀ (u : Value) (s : Tmp), (a.put o.dst u).tmps[s]? = if s = t then some u else a.tmps[s]? := by
      intro u s
      rw [hO.dst]
      unfold Act.put
      simp only
      by_cases hst : s = t
      · subst hst
        rw [if_pos rfl]
        simp [inv.size, htA]
      · rw [if_neg hst, Array.getElem?_setIfInBounds_ne (fun e => hst e.symm)]
    have hnew : ∀ (u : Value) (w' : World) (G' : Nat → Nat), Below w.heap.size w w' → (m = none → u = v) → (∀ ob, m = some ob → u = .pointer (some ⟨w.heap.size, 0, none⟩) ∧ w'.heap[w.heap.size]? = some ob ∧ G' i = w.heap.size) → (∀ k, k ≠ i → G' k = G k) →
        PInv W ops n ms A G' (d.setIfInBounds i true) (a.put o.dst u) w' := by
      intro u w' G' hb hu hal hGk
      refine ⟨inv.head.set hi hin, inv.bel.trans (hb.mono inv.bel.size), by rw [(put_size _ _ _).2]; exact inv.defers, by rw [(put_size _ _ _).1]; exact inv.size, ?_, ?_, ?_⟩
      · intro s hs'
        rw [hput]
        by_cases hst : s = t
        · rw [if_pos hst]
          obtain ⟨_, g2⟩ := hs' i o hin ho (by rw [hst]; exact hO.dst)
          have hmn : m = none := by rw [hm] at g2; exact Option.some.inj g2
          rw [hu hmn, hst, hvA g2]
        · rw [if_neg hst]
          refine inv.slot s (fun k p hk hp hps => ?_)
          obtain ⟨g1, g2⟩ := hs' k p hk hp hps
          rcases hdset k g1 with e | e
          · exfalso
            subst e
            have : p = o := Option.some.inj (hp.symm.trans ho)
            rw [this, hO.dst] at hps
            exact hst (Option.some.inj hps).symm
          · exact ⟨e, g2⟩
      · intro k p s ob hk hp hps hmk hdk
        by_cases hki : k = i
        · subst hki
          have hpo : p = o := Option.some.inj (hp.symm.trans ho)
          rw [hm] at hmk
          obtain ⟨g1, g2, g3⟩ := hal ob (Option.some.inj hmk)
          rw [hpo, hO.dst] at hps
          have hst : s = t := (Option.some.inj hps).symm
          rw [hput, if_pos hst, g1, g3]
          exact ⟨rfl, inv.bel.size, g2⟩
        · have hdk' : d.getD k false = true := (hdset k hdk).resolve_left hki
          obtain ⟨g1, g2, g3⟩ := inv.al k p s ob hk hp hps hmk hdk'
          have hne := hO.apart k p s hk hp hps hki
          rw [hput, if_neg hne, hGk k hki]
          exact ⟨g1, g2, heap_keep g3 hb⟩
      · intro k j ob ob' hk hj hmk hmj hdk hdj hkj
        have low : ∀ q obq, q < n → ms[q]? = some (some obq) → d.getD q false = true → G q < w.heap.size := fun q obq hqn hmq hdq => by
          obtain ⟨p, s, hp, hP⟩ := hok q hqn
          obtain ⟨_, _, g3⟩ := inv.al q p s obq hqn hp hP.dst hmq hdq
          exact (Array.getElem?_eq_some_iff.1 g3).1
        by_cases hki : k = i
        · have hji : j ≠ i := fun e => hkj (hki.trans e.symm)
          have hdj' := (hdset j hdj).resolve_left hji
          have h1 := low j ob' hj hmj hdj'
          rw [hki] at hmk
          rw [hm] at hmk
          obtain ⟨_, _, g3⟩ := hal ob (Option.some.inj hmk)
          rw [hki, g3, hGk j hji]
          omega
        · have hdk' := (hdset k hdk).resolve_left hki
          by_cases hji : j = i
          · have h1 := low k ob hk hmk hdk'
            rw [hji] at hmj
            rw [hm] at hmj
            obtain ⟨_, _, g3⟩ := hal ob' (Option.some.inj hmj)
            rw [hji, g3, hGk k hki]
            omega
          · rw [hGk k hki, hGk j hji]
            exact inv.ne k j ob ob' hk hj hmk hmj hdk' ((hdset j hdj).resolve_left hji) hkj
    unfold wpOp
    rw [ho]
    simp only
    have hw : Region.wanted o (yielded ops a.tmps) = true := by unfold Region.wanted; rw [hO.guard]
    rw [if_pos hw]
    refine .inl ?_
    unfold Oper.wp
    rw [hexec]
    cases m with
    | none =>
      have h1 := hQ w inv.bel
      rcases h1 with h1 | ⟨fn, args, h1, h2⟩
      · rw [h1]
        exact ih _ _ _ G (hnew v w G (Below.refl _ _) (fun _ => rfl) (fun ob h => by cases h) (fun _ _ => rfl)) hcnt
      · rw [h1]
        refine h2.mono (fun e w' h => ?_)
        obtain ⟨rfl, hb⟩ := h
        exact ih _ _ _ G (hnew v w' G hb (fun _ => rfl) (fun ob h => by cases h) (fun _ _ => rfl)) hcnt
    | some ob =>
      rw [hQ w]
      refine ih _ _ _ (fun k => if k = i then w.heap.size else G k) (hnew _ _ _ ((Below.refl _ _).alloc (Nat.le_refl _) _) (fun h => by cases h) (fun ob' h => ?_) (fun k hk => if_neg hk)) hcnt
      cases h
      exact ⟨rfl, heap_new w ob, if_pos rfl⟩
theorem putG_size (G : Nat → Nat) : ∀ (os : List Oper) (ms : List (Option Obj)) (a : Act) (k : Nat), (putG G a os ms k).tmps.size = a.tmps.size ∧ (putG G a os ms k).defers = a.defers
  | [], _, a, k => ⟨rfl, rfl⟩
  | _ :: _, [], a, k => ⟨rfl, rfl⟩
  | o :: os, none :: ms, a, k => putG_size G os ms a (k + 1)
  | o :: os, some ob :: ms, a, k => by
    obtain ⟨h1, h2⟩ := putG_size G os ms (a.put o.dst (.pointer (some ⟨G k, 0, none⟩))) (k + 1)
    obtain ⟨g1, g2⟩ := put_size a o.dst (.pointer (some ⟨G k, 0, none⟩))
    exact ⟨h1.trans g1, h2.trans g2⟩
theorem put_get (a : Act) (o : Oper) (v : Value) (t : Tmp) (h : o.dst ≠ some t) : (a.put o.dst v).tmps[t]? = a.tmps[t]? := by
  unfold Act.put
  split
  · rename_i d hd
    rw [hd] at h
    simp only
    rw [Array.getElem?_setIfInBounds_ne (fun e => h (by rw [e]))]
  · rfl
theorem putG_get (G : Nat → Nat) : ∀ (os : List Oper) (ms : List (Option Obj)) (a : Act) (k : Nat) (t : Tmp), (∀ (j : Nat) (o : Oper) (ob : Obj), os[j]? = some o → ms[j]? = some (some ob) → o.dst ≠ some t) → (putG G a os ms k).tmps[t]? = a.tmps[t]?
  | [], _, a, k, t, _ => rfl
  | _ :: _, [], a, k, t, _ => rfl
  | o :: os, none :: ms, a, k, t, h => putG_get G os ms a (k + 1) t (fun j p ob hp hm => h (j + 1) p ob (by simpa using hp) (by simpa using hm))
  | o :: os, some ob :: ms, a, k, t, h => by
    refine (putG_get G os ms _ (k + 1) t (fun j p ob' hp hm => h (j + 1) p ob' (by simpa using hp) (by simpa using hm))).trans ?_
    exact put_get _ _ _ _ (h 0 o ob rfl rfl)
theorem putG_at (G : Nat → Nat) : ∀ (os : List Oper) (ms : List (Option Obj)) (a : Act) (k j : Nat) (o : Oper) (ob : Obj) (t : Tmp), os[j]? = some o → ms[j]? = some (some ob) → o.dst = some t → t < a.tmps.size → (∀ i p, os[i]? = some p → i ≠ j → p.dst ≠ some t) → (putG G a os ms k).tmps[t]? = some (.pointer (some ⟨G (k + j), 0, none⟩))
  | [], _, a, k, j, o, ob, t, h, _, _, _, _ => by simp at h
  | _ :: _, [], a, k, j, o, ob, t, _, h, _, _, _ => by simp at h
  | o :: os, none :: ms, a, k, 0, _, _, t, h1, h2, _, _, _ => by simp at h2
  | o :: os, some ob :: ms, a, k, 0, _, _, t, h1, h2, h3, h4, h5 => by
    cases h1
    refine (putG_get G os ms _ (k + 1) t (fun j p ob' hp hm => h5 (j + 1) p (by simpa using hp) (by omega))).trans ?_
    unfold Act.put
    rw [h3]
    simp [h4]
  | o :: os, none :: ms, a, k, j + 1, p, ob, t, h1, h2, h3, h4, h5 => by
    have := putG_at G os ms a (k + 1) j p ob t (by simpa using h1) (by simpa using h2) h3 h4 (fun i q hq hne => h5 (i + 1) q (by simpa using hq) (by omega))
    rw [show k + (j + 1) = k + 1 + j by omega]
    exact this
  | o :: os, some ob' :: ms, a, k, j + 1, p, ob, t, h1, h2, h3, h4, h5 => by
    have := putG_at G os ms (a.put o.dst (.pointer (some ⟨G k, 0, none⟩))) (k + 1) j p ob t (by simpa using h1) (by simpa using h2) h3 (by rw [(put_size _ _ _).1]; exact h4) (fun i q hq hne => h5 (i + 1) q (by simpa using hq) (by omega))
    rw [show k + (j + 1) = k + 1 + j by omega]
    exact this
theorem cntU_le (d : Array Bool) : ∀ n, cntU d n ≤ n
  | 0 => Nat.le_refl _
  | n + 1 => by
    have := cntU_le d n
    simp only [cntU]
    split <;> omega
theorem act_ext {a b : Act} (h1 : a.defers = b.defers) (h2 : a.tmps.size = b.tmps.size) (h3 : ∀ t : Nat, a.tmps[t]? = b.tmps[t]?) : a = b := by
  cases a; cases b
  simp only at h1 h2 h3
  subst h1
  congr 1
  exact Array.ext_getElem? h3
/-- What is so of the new blocks. -/
def GOk (W : World) (ms : List (Option Obj)) (G : Nat → Nat) (w : World) : Prop :=
  (∀ k ob, ms[k]? = some (some ob) → W.heap.size ≤ G k ∧ w.heap[G k]? = some ob) ∧ (∀ k j ob ob', ms[k]? = some (some ob) → ms[j]? = some (some ob') → k ≠ j → G k ≠ G j)
/-- The first n operations in whatever order; what comes last has one order only. -/
theorem qRegionPt {id : Nat} {R : Exit → Act → World → Prop} {a : Act} {w : World} {l : List Oper} (n : Nat) (vs : List Value) (ms : List (Option Obj)) (hm : P.follows .mixedOrders = true) (hB : ptB l.toArray n ms = true)
    (hvs : vs.length = n) (hms : ms.length = n) (hsz : (l.take n).all (fun o => match o.dst with | some t => decide (t < a.tmps.size) | none => true) = true)
    (hq : QOps P w (putL a (l.take n) vs) (l.take n) vs ms)
    (h : ∀ (G : Nat → Nat) w', Below w.heap.size w w' → GOk w ms G w' → wpList P l.toArray R (l.drop n) (putG G (putL a (l.take n) vs) (l.take n) ms 0) w') : (Code.region id l.toArray true).wp P R a w := by
  refine wp_region_any hm ?_
  have hB' := hB
  unfold ptB at hB'
  simp only [Bool.and_eq_true, decide_eq_true_eq] at hB'
  obtain ⟨⟨⟨⟨⟨hsel, hn⟩, hs⟩, hc⟩, hseq⟩, hops⟩ := hB'
  have hok : ∀ i, i < n → ∃ o t, l.toArray[i]? = some o ∧ OpOk l.toArray n ms i o t := fun i hi => opB_spec (List.all_eq_true.1 hops i (List.mem_range.2 hi))
  have htk : ∀ i o, i < n → l.toArray[i]? = some o → (l.take n)[i]? = some o := fun i o hi ho => by
    rw [List.getElem?_take_of_lt hi]; simpa using ho
  have htk2 : ∀ i o, (l.take n)[i]? = some o → i < n ∧ l.toArray[i]? = some o := fun i o ho => by
    have hi : i < n := by
      have := (List.getElem?_eq_some_iff.1 ho).1
      rw [List.length_take] at this; omega
    rw [List.getElem?_take_of_lt hi] at ho
    exact ⟨hi, by simpa using ho⟩
  have hbd : ∀ k o t, k < n → l.toArray[k]? = some o → o.dst = some t → t < a.tmps.size := fun k o t hk ho ht => by
    have := List.all_eq_true.1 hsz o (List.mem_of_getElem? (htk k o hk ho))
    rw [ht] at this
    simpa using this
  have hsize := putL_size (l.take n) vs a
  have hA : ∀ k o v t, k < n → l.toArray[k]? = some o → vs[k]? = some v → o.dst = some t → t < (putL a (l.take n) vs).tmps.size ∧ (ms[k]? = some none → (putL a (l.take n) vs).tmps[t]? = some v) := fun k o v t hk ho hv ht => by
    refine ⟨by rw [hsize.1]; exact hbd k o t hk ho ht, fun _ => putL_at _ _ a k o v t (htk k o hk ho) hv ht (hbd k o t hk ho ht) (fun j p hp hne e => ?_)⟩
    obtain ⟨hj, hp'⟩ := htk2 j p hp
    obtain ⟨o', t', ho', hO⟩ := hok k hk
    have e1 : o' = o := Option.some.inj (ho'.symm.trans ho)
    have e2 : t' = t := by have := hO.dst; rw [e1, ht] at this; exact (Option.some.inj this).symm
    exact hO.apart j p t hj hp' e hne e2.symm
  have hmain := region_pt (W := w) (R := R) (vs := vs) hB (by simpa using hq) hvs hms hA (fun a' w' G inv => by
    have hend := h G w' inv.bel
    have hall : ∀ k, k < n → (allB l.toArray.size n).getD k false = true := fun k hk => by
      unfold allB
      simp [Array.getElem?_append, hk]
    have hg : GOk w ms G w' := by
      refine ⟨fun k ob hk => ?_, fun k j ob ob' hk hj hne => ?_⟩
      · have hkn : k < n := by have := (List.getElem?_eq_some_iff.1 hk).1; omega
        obtain ⟨o, t, ho, hO⟩ := hok k hkn
        exact (inv.al k o t ob hkn ho hO.dst hk (hall k hkn)).2
      · have hkn : k < n := by have := (List.getElem?_eq_some_iff.1 hk).1; omega
        have hjn : j < n := by have := (List.getElem?_eq_some_iff.1 hj).1; omega
        exact inv.ne k j ob ob' hkn hjn hk hj (hall k hkn) (hall j hjn) hne
    have e : a' = putG G (putL a (l.take n) vs) (l.take n) ms 0 := by
      have hgs := putG_size G (l.take n) ms (putL a (l.take n) vs) 0
      refine act_ext (inv.defers.trans hgs.2.symm) (inv.size.trans hgs.1.symm) (fun t => ?_)
      by_cases hx : ∃ (j : Nat) (o : Oper) (ob : Obj), (l.take n)[j]? = some o ∧ ms[j]? = some (some ob) ∧ o.dst = some t
      · obtain ⟨j, o, ob, hj, hmj, hot⟩ := hx
        obtain ⟨hjn, hj'⟩ := htk2 j o hj
        rw [(inv.al j o t ob hjn hj' hot hmj (hall j hjn)).1]
        have := putG_at G (l.take n) ms (putL a (l.take n) vs) 0 j o ob t hj hmj hot (by rw [hsize.1]; exact hbd j o t hjn hj' hot) (fun i p hp hne e => by
          obtain ⟨hi, hp'⟩ := htk2 i p hp
          obtain ⟨o', t', ho', hO⟩ := hok j hjn
          have e1 : o' = o := Option.some.inj (ho'.symm.trans hj')
          have e2 : t' = t := by have := hO.dst; rw [e1, hot] at this; exact (Option.some.inj this).symm
          exact hO.apart i p t hi hp' e hne e2.symm)
        rw [this, Nat.zero_add]
      · rw [putG_get G (l.take n) ms _ 0 t (fun j o ob hj hmj hot => hx ⟨j, o, ob, hj, hmj, hot⟩)]
        refine inv.slot t (fun k o hk ho hot => ⟨hall k hk, ?_⟩)
        cases hmk : ms[k]? with
        | none =>
          rw [List.getElem?_eq_none_iff] at hmk
          omega
        | some m =>
          cases m with
          | none => rfl
          | some ob => exact absurd ⟨k, o, ob, htk k o hk ho, hmk, hot⟩ hx
    rw [e]
    simpa using hend hg)
  have inv0 : PInv w l.toArray n ms (putL a (l.take n) vs) (fun _ => 0) (Array.replicate l.toArray.size false) a { w with drawn := w.drawn + 1 } := by
    refine ⟨⟨by simp, fun j oj _ hj => (by rw [getD_replicate_false] at hj; cases hj), fun t _ ht => getD_in (by simpa using ht) (getD_replicate_false _ _)⟩, (Below.refl _ _).drew, hsize.2.symm, hsize.1.symm, ?_, ?_, ?_⟩
    · intro t ht
      refine (putL_get _ _ a t (fun o ho e => ?_)).symm
      obtain ⟨j, hj⟩ := List.getElem?_of_mem ho
      obtain ⟨hjn, hj'⟩ := htk2 j o hj
      have := (ht j o hjn hj' e).1
      rw [getD_replicate_false] at this
      cases this
    · intro k o t ob _ _ _ _ hd
      rw [getD_replicate_false] at hd; cases hd
    · intro k j ob ob' _ _ _ _ hd
      rw [getD_replicate_false] at hd; cases hd
  have := hmain _ _ a _ _ inv0 rfl
  refine wpAny_le ?_ this
  have := cntU_le (Array.replicate l.toArray.size false) n
  omega
end
end Go.Proofs.YtnmgfnnkcenfeaaGreatDoor
