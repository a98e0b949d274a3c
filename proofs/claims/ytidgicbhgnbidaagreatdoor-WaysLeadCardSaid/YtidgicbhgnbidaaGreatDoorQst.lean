/- A region that draws its order and has calls and stores that come in a chain beside loads and new blocks: each operation is looked at once; the world's class goes on from stage to stage. No program in sight. -/
import Derived.Test.YtidgicbhgnbidaaGreatDoorQp
namespace Go.Proofs.YtidgicbhgnbidaaGreatDoor
open Go.RowKit

/-- New blocks stay. -/
def GrN (W w w' : World) : Prop := w.heap.size ≤ w'.heap.size ∧ ∀ b, W.heap.size ≤ b → b < w.heap.size → w'.heap[b]? = w.heap[b]?
theorem GrN.refl (W w : World) : GrN W w w := ⟨Nat.le_refl _, fun _ _ _ => rfl⟩
theorem GrN.alloc (W w : World) (o : Obj) : GrN W w (w.alloc o) := ⟨by simp, fun b _ h => Below.heap_alloc _ _ _ h⟩
def hasE (o : Oper) (k : Nat) : Bool := o.after.any (fun e => Region.binds .any e && e.on == k)
theorem hasE_spec {o : Oper} {k : Nat} (h : hasE o k = true) : ∃ e ∈ o.after, Region.binds .any e = true ∧ e.on = k := by
  obtain ⟨j, hj, hj2⟩ := Array.any_eq_true.1 h
  simp only [Bool.and_eq_true, beq_iff_eq] at hj2
  exact ⟨_, Array.getElem_mem hj, hj2.1, hj2.2⟩
/-- What an operation lays: the memory, and its value for the block's number. -/
abbrev Laid := Option (Obj × (Nat → Value))
def putH (G : Nat → Nat) : Act → List Oper → List Laid → Nat → Act
  | a, o :: os, m :: ms, k => putH G (match m with | none => a | some m => a.put o.dst (m.2 (G k))) os ms (k + 1)
  | a, _, _, _ => a
theorem putH_size (G : Nat → Nat) : ∀ (os : List Oper) (ms : List Laid) (a : Act) (k : Nat), (putH G a os ms k).tmps.size = a.tmps.size ∧ (putH G a os ms k).defers = a.defers
  | [], _, a, k => ⟨rfl, rfl⟩
  | _ :: _, [], a, k => ⟨rfl, rfl⟩
  | o :: os, none :: ms, a, k => putH_size G os ms a (k + 1)
  | o :: os, some m :: ms, a, k => by
    obtain ⟨h1, h2⟩ := putH_size G os ms (a.put o.dst (m.2 (G k))) (k + 1)
    obtain ⟨g1, g2⟩ := put_size a o.dst (m.2 (G k))
    exact ⟨h1.trans g1, h2.trans g2⟩
theorem putH_get (G : Nat → Nat) : ∀ (os : List Oper) (ms : List Laid) (a : Act) (k : Nat) (t : Tmp), (∀ (j : Nat) (o : Oper) (m : Obj × (Nat → Value)), os[j]? = some o → ms[j]? = some (some m) → o.dst ≠ some t) → (putH G a os ms k).tmps[t]? = a.tmps[t]?
  | [], _, a, k, t, _ => rfl
  | _ :: _, [], a, k, t, _ => rfl
  | o :: os, none :: ms, a, k, t, h => putH_get G os ms a (k + 1) t (fun j p ob hp hm => h (j + 1) p ob (by simpa using hp) (by simpa using hm))
  | o :: os, some m :: ms, a, k, t, h => by
    refine (putH_get G os ms _ (k + 1) t (fun j p ob' hp hm => h (j + 1) p ob' (by simpa using hp) (by simpa using hm))).trans ?_
    exact put_get _ _ _ _ (h 0 o m rfl rfl)
theorem putH_at (G : Nat → Nat) : ∀ (os : List Oper) (ms : List Laid) (a : Act) (k j : Nat) (o : Oper) (m : Obj × (Nat → Value)) (t : Tmp), os[j]? = some o → ms[j]? = some (some m) → o.dst = some t → t < a.tmps.size → (∀ i p, os[i]? = some p → i ≠ j → p.dst ≠ some t) → (putH G a os ms k).tmps[t]? = some (m.2 (G (k + j)))
  | [], _, a, k, j, o, ob, t, h, _, _, _, _ => by simp at h
  | _ :: _, [], a, k, j, o, ob, t, _, h, _, _, _ => by simp at h
  | o :: os, none :: ms, a, k, 0, _, _, t, h1, h2, _, _, _ => by simp at h2
  | o :: os, some m :: ms, a, k, 0, _, _, t, h1, h2, h3, h4, h5 => by
    cases h1
    cases h2
    refine (putH_get G os ms _ (k + 1) t (fun j p ob' hp hm => h5 (j + 1) p (by simpa using hp) (by omega))).trans ?_
    unfold Act.put
    rw [h3]
    simp [h4]
  | o :: os, none :: ms, a, k, j + 1, p, ob, t, h1, h2, h3, h4, h5 => by
    have := putH_at G os ms a (k + 1) j p ob t (by simpa using h1) (by simpa using h2) h3 h4 (fun i q hq hne => h5 (i + 1) q (by simpa using hq) (by omega))
    rw [show k + (j + 1) = k + 1 + j by omega]
    exact this
  | o :: os, some m' :: ms, a, k, j + 1, p, ob, t, h1, h2, h3, h4, h5 => by
    have := putH_at G os ms (a.put o.dst (m'.2 (G k))) (k + 1) j p ob t (by simpa using h1) (by simpa using h2) h3 (by rw [(put_size _ _ _).1]; exact h4) (fun i q hq hne => h5 (i + 1) q (by simpa using hq) (by omega))
    rw [show k + (j + 1) = k + 1 + j by omega]
    exact this
/-- The new blocks that an operation may look at. -/
def LkOk (W w : World) (o : Oper) (ms : List Laid) (G : Nat → Nat) : Prop := ∀ k ob f, ms[k]? = some (some (ob, f)) → hasE o k = true → W.heap.size ≤ G k ∧ w.heap[G k]? = some ob
def StepSt (P : Program) (W : World) (a : Act) (o : Oper) (w : World) (v : Value) (K' : World → Prop) : Prop :=
  (∃ w', (execOp a.eval o).run P w = .ok (.value v) w' ∧ K' w' ∧ GrN W w w') ∨ (∃ f args, (execOp a.eval o).run P w = .ok (.enter f args) w ∧ Calls P f args w (fun e w' => e = .returned v ∧ K' w' ∧ GrN W w w')) ∨ ∃ w', (execOp a.eval o).run P w = .ok .skip w' ∧ o.dst = none ∧ K' w' ∧ GrN W w w'
def OneSt (P : Program) (W : World) (K : Nat → World → Prop) (A : Act) (l : List Oper) (ms : List Laid) (o : Oper) (v : Value) (m : Laid) (c b : Nat) : Prop :=
  ∀ (G : Nat → Nat) (s : Nat) (w : World), K s w → LkOk W w o ms G →
    match m with
    | some ob => c = 0 → s ≤ b → (execOp (putH G A l ms 0).eval o).run P w = .ok (.value (ob.2 w.heap.size)) (w.alloc ob.1)
    | none => if 0 < c then (s + 1 = c → StepSt P W (putH G A l ms 0) o w v (K c)) else (s ≤ b → StepSt P W (putH G A l ms 0) o w v (K s))
def AllSt (P : Program) (W : World) (K : Nat → World → Prop) (A : Act) (l : List Oper) (ms0 : List Laid) : List Oper → List Value → List Laid → List Nat → List Nat → Prop
  | o :: os, v :: vs, m :: ms, c :: cs, b :: bs => OneSt P W K A l ms0 o v m c b ∧ AllSt P W K A l ms0 os vs ms cs bs
  | _, _, _, _, _ => True
theorem AllSt.get {P : Program} {W : World} {K : Nat → World → Prop} {A : Act} {l : List Oper} {ms0 : List Laid} : ∀ {os : List Oper} {vs : List Value} {ms : List Laid} {cs bs : List Nat} {k : Nat} {o : Oper} {v : Value} {m : Laid} {c b : Nat}, AllSt P W K A l ms0 os vs ms cs bs → os[k]? = some o → vs[k]? = some v → ms[k]? = some m → cs[k]? = some c → bs[k]? = some b → OneSt P W K A l ms0 o v m c b
  | o :: os, v :: vs, m :: ms, c :: cs, b :: bs, 0, _, _, _, _, _, h, h1, h2, h3, h4, h5 => by cases h1; cases h2; cases h3; cases h4; cases h5; exact h.1
  | o :: os, v :: vs, m :: ms, c :: cs, b :: bs, k + 1, _, _, _, _, _, h, h1, h2, h3, h4, h5 => AllSt.get h.2 h1 h2 h3 h4 h5
  | [], _, _, _, _, _, _, _, _, _, _, _, h1, _, _, _, _ => by simp at h1
  | _ :: _, [], _, _, _, _, _, _, _, _, _, _, _, h2, _, _, _ => by simp at h2
  | _ :: _, _ :: _, [], _, _, _, _, _, _, _, _, _, _, _, h3, _, _ => by simp at h3
  | _ :: _, _ :: _, _ :: _, [], _, _, _, _, _, _, _, _, _, _, _, h4, _ => by simp at h4
  | _ :: _, _ :: _, _ :: _, _ :: _, [], _, _, _, _, _, _, _, _, _, _, _, h5 => by simp at h5
/-- What the kernel looks at, an operation. -/
def opSt (ops : Array Oper) (ms : List Laid) (cs bs : List Nat) (cm i : Nat) : Bool :=
  match ops[i]?, ms[i]?, cs[i]?, bs[i]? with
  | some o, some m, some c, some b =>
    o.guard.isNone && o.after.all (fun e => !Region.binds .any e || decide (e.on < i)) && (o.dst.isSome || m.isNone) &&
      (List.range ops.size).all (fun k => match ops[k]? with
        | none => false
        | some p => (k == i || p.dst != o.dst || p.dst.isNone) && (match p.dst with
          | none => true
          | some t => !(o.looksAt ops).contains t || hasE o k) && (k == i || c == 0 || cs[k]? != some c)) &&
      (if c = 0 then decide (cm ≤ b) || (List.range ops.size).any (fun j => cs[j]? == some (b + 1) && (match ops[j]? with | some q => hasE q i | none => false))
       else m.isNone && decide (c ≤ cm) && (c == 1 || (List.range ops.size).any (fun j => cs[j]? == some (c - 1) && hasE o j)))
  | _, _, _, _ => false
def stB (ops : Array Oper) (ms : List Laid) (cs bs : List Nat) (cm : Nat) : Bool :=
  Region.noSelect ops && (List.range ops.size).all (opSt ops ms cs bs cm) && (cm == 0 || (List.range ops.size).any (fun j => cs[j]? == some cm))
structure OpSt (ops : Array Oper) (ms : List Laid) (cs bs : List Nat) (cm i : Nat) (o : Oper) (m : Laid) (c b : Nat) : Prop where
  guard : o.guard = none
  back : ∀ e ∈ o.after, Region.binds .any e = true → e.on < i
  dst : m ≠ none → ∃ t : Tmp, o.dst = some t
  apart : ∀ (k : Nat) (p : Oper) (t : Tmp), ops[k]? = some p → p.dst = some t → o.dst = some t → k = i
  looks : ∀ (k : Nat) (p : Oper) (u : Tmp), ops[k]? = some p → p.dst = some u → u ∈ o.looksAt ops → hasE o k = true
  alone : 0 < c → ∀ k : Nat, k < ops.size → cs[k]? = some c → k = i
  low : c = 0 → b < cm → ∃ (j : Nat) (q : Oper), ops[j]? = some q ∧ cs[j]? = some (b + 1) ∧ hasE q i = true
  high : 0 < c → m = none ∧ c ≤ cm ∧ (c = 1 ∨ ∃ j : Nat, j < ops.size ∧ cs[j]? = some (c - 1) ∧ hasE o j = true)
theorem opSt_spec {ops : Array Oper} {ms : List Laid} {cs bs : List Nat} {cm i : Nat} (h : opSt ops ms cs bs cm i = true) : ∃ o m c b, ops[i]? = some o ∧ ms[i]? = some m ∧ cs[i]? = some c ∧ bs[i]? = some b ∧ OpSt ops ms cs bs cm i o m c b := by
  unfold opSt at h
  split at h
  · rename_i o m c b ho hm hc hb
    simp only [Bool.and_eq_true] at h
    obtain ⟨⟨⟨⟨h1, h2⟩, h3⟩, h4⟩, h5⟩ := h
    refine ⟨o, m, c, b, ho, hm, hc, hb, Option.isNone_iff_eq_none.1 h1, ?_, ?_, ?_, ?_, ?_, ?_, ?_⟩
    · intro e he hbd
      have := Array.all_eq_true_iff_forall_mem.1 h2 e he
      rw [hbd] at this
      simpa using this
    · intro hne
      simp only [Bool.or_eq_true] at h3
      rcases h3 with h3 | h3
      · exact Option.isSome_iff_exists.1 h3
      · exact absurd (Option.isNone_iff_eq_none.1 h3) hne
    · intro k p t hp hpt hot
      have hk : k < ops.size := (Array.getElem?_eq_some_iff.1 hp).1
      have := List.all_eq_true.1 h4 k (List.mem_range.2 hk)
      rw [hp] at this
      simp only [Bool.and_eq_true, Bool.or_eq_true, beq_iff_eq, bne_iff_ne] at this
      rcases this.1.1 with (g | g) | g
      · exact g
      · exact absurd (hpt.trans hot.symm) g
      · rw [hpt] at g; cases g
    · intro k p u hp hpu hm'
      have hk : k < ops.size := (Array.getElem?_eq_some_iff.1 hp).1
      have := List.all_eq_true.1 h4 k (List.mem_range.2 hk)
      rw [hp] at this
      simp only [hpu, Bool.and_eq_true, Bool.or_eq_true, Bool.not_eq_true'] at this
      rcases this.1.2 with g | g
      · rw [List.contains_iff_mem.2 hm'] at g; cases g
      · exact g
    · intro hc0 k hk hck
      have := List.all_eq_true.1 h4 k (List.mem_range.2 hk)
      rw [Array.getElem?_eq_getElem hk] at this
      simp only [Bool.and_eq_true, Bool.or_eq_true, beq_iff_eq, bne_iff_ne] at this
      rcases this.2 with (g | g) | g
      · exact g
      · omega
      · exact absurd hck g
    · intro hc0 hbc
      rw [if_pos hc0] at h5
      simp only [Bool.or_eq_true, decide_eq_true_eq] at h5
      rcases h5 with h5 | h5
      · omega
      · obtain ⟨j, hj, hj2⟩ := List.any_eq_true.1 h5
        simp only [Bool.and_eq_true, beq_iff_eq] at hj2
        cases hq : ops[j]? with
        | none => rw [hq] at hj2; cases hj2.2
        | some q => rw [hq] at hj2; exact ⟨j, q, hq, hj2.1, hj2.2⟩
    · intro hc0
      rw [if_neg (by omega)] at h5
      simp only [Bool.and_eq_true, Bool.or_eq_true, beq_iff_eq, decide_eq_true_eq] at h5
      obtain ⟨⟨g1, g2⟩, g3⟩ := h5
      refine ⟨Option.isNone_iff_eq_none.1 g1, g2, ?_⟩
      rcases g3 with g3 | g3
      · exact .inl g3
      · obtain ⟨j, hj, hj2⟩ := List.any_eq_true.1 g3
        simp only [Bool.and_eq_true, beq_iff_eq] at hj2
        exact .inr ⟨j, List.mem_range.1 hj, hj2.1, hj2.2⟩
  · cases h
structure SInv (W : World) (K : Nat → World → Prop) (ops : Array Oper) (ms : List Laid) (cs : List Nat) (cm : Nat) (A : Act) (G : Nat → Nat) (d : Array Bool) (a : Act) (w : World) (s : Nat) : Prop where
  dsize : d.size = ops.size
  closed : ∀ j oj, ops[j]? = some oj → d.getD j false = true → ∀ e ∈ oj.after, Region.binds .any e = true → d.getD e.on false = true
  st : K s w ∧ s ≤ cm ∧ ∀ i c, i < ops.size → cs[i]? = some c → 0 < c → (d.getD i false = true ↔ c ≤ s)
  defers : a.defers = A.defers
  size : a.tmps.size = A.tmps.size
  hsize : W.heap.size ≤ w.heap.size
  slot : ∀ t, (∀ k o, ops[k]? = some o → o.dst = some t → d.getD k false = true ∧ ms[k]? = some none) → a.tmps[t]? = A.tmps[t]?
  al : ∀ k o t ob, ops[k]? = some o → o.dst = some t → ms[k]? = some (some ob) → d.getD k false = true → a.tmps[t]? = some (ob.2 (G k)) ∧ W.heap.size ≤ G k ∧ w.heap[G k]? = some ob.1
section
variable {P : Program} {W : World} {K : Nat → World → Prop} {ops : Array Oper} {vs : List Value} {ms : List Laid} {cs bs : List Nat} {cm : Nat} {A : Act}
theorem cntU_pos {d : Array Bool} : ∀ {n : Nat} {k : Nat}, k < n → d.getD k false = false → 0 < cntU d n
  | 0, k, h, _ => by omega
  | n + 1, k, h, hk => by
    simp only [cntU]
    rcases Nat.lt_or_eq_of_le (Nat.le_of_lt_succ h) with h1 | h1
    · have := cntU_pos (d := d) h1 hk
      omega
    · subst h1
      rw [hk]
      simp
theorem region_st {R : Exit → Act → World → Prop} (hB : stB ops ms cs bs cm = true) (hq : AllSt P W K A ops.toList ms ops.toList vs ms cs bs) (hvs : vs.length = ops.size) (hms : ms.length = ops.size)
    (hKa : ∀ s w o, K s w → K s (w.alloc o)) (hA : ∀ (k : Nat) (o : Oper) (v : Value) (t : Tmp), ops[k]? = some o → vs[k]? = some v → o.dst = some t → t < A.tmps.size ∧ (ms[k]? = some none → A.tmps[t]? = some v))
    (hend : ∀ a w G, K cm w → W.heap.size ≤ w.heap.size → (∀ k ob, ms[k]? = some (some ob) → W.heap.size ≤ G k ∧ w.heap[G k]? = some ob.1) → a = putH G A ops.toList ms 0 → R .normal a w) :
    ∀ (f : Nat) (d : Array Bool) (a : Act) (w : World) (G : Nat → Nat) (s : Nat), SInv W K ops ms cs cm A G d a w s → cntU d ops.size = f → wpAny P .any ops R f d a w := by
  unfold stB at hB
  simp only [Bool.and_eq_true] at hB
  obtain ⟨⟨hsel, hops⟩, hcm⟩ := hB
  have hok : ∀ i, i < ops.size → ∃ o m c b, ops[i]? = some o ∧ ms[i]? = some m ∧ cs[i]? = some c ∧ bs[i]? = some b ∧ OpSt ops ms cs bs cm i o m c b := fun i hi => opSt_spec (List.all_eq_true.1 hops i (List.mem_range.2 hi))
  -- what a frame holds where an operation looks
  have hfr : ∀ (G : Nat → Nat) (d : Array Bool) (a : Act) (w : World) (s : Nat), SInv W K ops ms cs cm A G d a w s → ∀ t, (∀ (k : Nat) (o : Oper), ops[k]? = some o → o.dst = some t → d.getD k false = true) → a.tmps[t]? = (putH G A ops.toList ms 0).tmps[t]? := by
    intro G d a w s inv t ht
    by_cases hx : ∃ (j : Nat) (o : Oper) (ob : Obj × (Nat → Value)), ops.toList[j]? = some o ∧ ms[j]? = some (some ob) ∧ o.dst = some t
    · obtain ⟨j, o, ob, hj, hmj, hot⟩ := hx
      have hj' : ops[j]? = some o := by simpa using hj
      rw [(inv.al j o t ob hj' hot hmj (ht j o hj' hot)).1]
      have hjn : j < ops.size := (Array.getElem?_eq_some_iff.1 hj').1
      obtain ⟨o', m', c', b', ho', _, _, _, hO⟩ := hok j hjn
      obtain rfl : o' = o := Option.some.inj (ho'.symm.trans hj')
      obtain ⟨v, hv⟩ : ∃ v, vs[j]? = some v := ⟨_, List.getElem?_eq_getElem (by omega)⟩
      have := putH_at G ops.toList ms A 0 j o' ob t hj hmj hot (hA j o' v t hj' hv hot).1 (fun i p hp hne e => hne (hO.apart i p t (by simpa using hp) e hot))
      rw [this, Nat.zero_add]
    · rw [putH_get G ops.toList ms A 0 t (fun j o ob hj hmj hot => hx ⟨j, o, ob, hj, hmj, hot⟩)]
      refine inv.slot t (fun k o hk hot => ⟨ht k o hk hot, ?_⟩)
      have hkn : k < ops.size := (Array.getElem?_eq_some_iff.1 hk).1
      obtain ⟨o', m', c', b', ho', hm', _⟩ := hok k hkn
      cases m' with
      | none => exact hm'
      | some ob => exact absurd ⟨k, o, ob, by simpa using hk, hm', hot⟩ hx
  intro f
  induction f with
  | zero =>
    intro d a w G s inv hcn
    have hall := cntU_zero hcn
    refine ⟨?_, ?_⟩
    · refine List.eq_nil_iff_forall_not_mem.2 (fun i hi => ?_)
      obtain ⟨h1, o, ho, _⟩ := mem_ready.1 hi
      have hi' : i < ops.size := (Array.getElem?_eq_some_iff.1 ho).1
      have h2 := hall i hi'
      rw [getD_both h1] at h2
      cases h2
    · refine hend a w G ?_ inv.hsize ?_ ?_
      · have hs : s = cm := by
          have hle := inv.st.2.1
          simp only [Bool.or_eq_true, beq_iff_eq] at hcm
          rcases hcm with h | h
          · omega
          · obtain ⟨j, hj, hj2⟩ := List.any_eq_true.1 h
            have hjn := List.mem_range.1 hj
            rcases Nat.eq_zero_or_pos cm with h0 | h0
            · omega
            · have := (inv.st.2.2 j cm hjn (by simpa using hj2) h0).1 (hall j hjn)
              omega
        exact hs ▸ inv.st.1
      · intro k ob hk
        rcases Nat.lt_or_ge k ops.size with hkn | hkn
        · obtain ⟨o, m, c, b, ho, hm, _, _, hO⟩ := hok k hkn
          obtain ⟨t, ht⟩ := hO.dst (by rw [hk] at hm; rw [← Option.some.inj hm]; simp)
          exact (inv.al k o t ob ho ht hk (hall k hkn)).2
        · have := (List.getElem?_eq_some_iff.1 hk).1
          omega
      · have hgs := putH_size G ops.toList ms A 0
        refine act_ext (inv.defers.trans hgs.2.symm) (inv.size.trans hgs.1.symm) (fun t => ?_)
        exact hfr G d a w s inv t (fun k o hk _ => hall k (Array.getElem?_eq_some_iff.1 hk).1)
  | succ f ih =>
    intro d a w G s inv hcn
    obtain ⟨k0, hk0, hk1, hk2⟩ := cntU_some (d := d) (n := ops.size) (by omega)
    have hr0 : k0 ∈ Region.ready .any ops d := by
      obtain ⟨o, m, c, b, ho, _, _, _, hO⟩ := hok k0 hk0
      exact mem_ready.2 ⟨getD_in (by rw [inv.dsize]; omega) hk1, o, ho, fun e he hb => hk2 _ (hO.back e he hb)⟩
    refine ⟨fun h => (by rw [h] at hr0; cases hr0), fun i hi => ?_⟩
    obtain ⟨hiu, oi, hoi, hiall⟩ := mem_ready.1 hi
    have hin : i < ops.size := (Array.getElem?_eq_some_iff.1 hoi).1
    obtain ⟨o, m, c, b, ho, hm, hc, hb, hO⟩ := hok i hin
    obtain rfl : o = oi := Option.some.inj (ho.symm.trans hoi)
    have hid : d.getD i false = false := getD_both hiu
    have hisz : i < d.size := by rw [inv.dsize]; omega
    obtain ⟨v, hv⟩ : ∃ v, vs[i]? = some v := ⟨_, List.getElem?_eq_getElem (by omega)⟩
    have hQ := hq.get (k := i) (by simpa using ho) hv hm hc hb G s w inv.st.1 (by
      intro k ob f hk he
      obtain ⟨e, he1, he2, he3⟩ := hasE_spec he
      have hkn : k < ops.size := by have := hO.back e he1 he2; omega
      obtain ⟨p, m', c', b', hp, hm', _, _, hP⟩ := hok k hkn
      obtain ⟨t, ht⟩ := hP.dst (by rw [hk] at hm'; rw [← Option.some.inj hm']; simp)
      exact (inv.al k p t (ob, f) hp ht hk (he3 ▸ hiall e he1 he2)).2)
    have hexec : execOp a.eval o = execOp (putH G A ops.toList ms 0).eval o := by
      refine execOp_congr o (fun cs b => Region.noSelect_spec hsel i o cs b ho) (fun x hx => eval_agree (fun u hu => hfr G d a w s inv u (fun k p hp hpu => ?_)))
      have hlook : u ∈ o.looksAt ops := by
        subst hu
        exact List.mem_append_left _ (List.mem_filterMap.2 ⟨.tmp u, by simpa using hx, rfl⟩)
      obtain ⟨e, he, hbd, hon⟩ := hasE_spec (hO.looks k p u hp hpu hlook)
      exact hon ▸ hiall e he hbd
    have hcnt : cntU (d.setIfInBounds i true) ops.size = f := by
      obtain ⟨h1, h2⟩ := cntU_set hisz hid (n := ops.size)
      rw [h1, if_pos hin]; omega
    have hdset : ∀ k, (d.setIfInBounds i true).getD k false = true → k = i ∨ d.getD k false = true := fun k hk => by
      by_cases hki : i = k
      · exact .inl hki.symm
      · rw [getD_set_ne false hki] at hk; exact .inr hk
    have hdmono : ∀ k, d.getD k false = true → (d.setIfInBounds i true).getD k false = true := fun k hk => by
      by_cases hki : i = k
      · subst hki; rw [hid] at hk; cases hk
      · rw [getD_set_ne false hki]; exact hk
    have hdsame : (d.setIfInBounds i true).getD i false = true := by simp [hisz]
    have hput : ∀ (u : Value) (q t : Tmp), o.dst = some t → t < A.tmps.size → (a.put o.dst u).tmps[q]? = if q = t then some u else a.tmps[q]? := by
      intro u q t hot htA
      rw [hot]
      unfold Act.put
      simp only
      by_cases hst : q = t
      · subst hst
        rw [if_pos rfl]
        simp [inv.size, htA]
      · rw [if_neg hst, Array.getElem?_setIfInBounds_ne (fun e => hst e.symm)]
    have hnew : ∀ (u : Value) (w' : World) (G' : Nat → Nat) (s' : Nat), GrN W w w' → K s' w' → s' ≤ cm → (∀ j c', j < ops.size → cs[j]? = some c' → 0 < c' → ((d.setIfInBounds i true).getD j false = true ↔ c' ≤ s')) → (m = none → u = v) →
        (∀ ob, m = some ob → u = ob.2 w.heap.size ∧ w'.heap[w.heap.size]? = some ob.1 ∧ G' i = w.heap.size) → (∀ k, k ≠ i → G' k = G k) →
        SInv W K ops ms cs cm A G' (d.setIfInBounds i true) (a.put o.dst u) w' s' := by
      intro u w' G' s' hg hK hscm hst hu hal hGk
      refine ⟨by rw [Array.size_setIfInBounds]; exact inv.dsize, ?_, ⟨hK, hscm, hst⟩, by rw [(put_size _ _ _).2]; exact inv.defers, by rw [(put_size _ _ _).1]; exact inv.size, Nat.le_trans inv.hsize hg.1, ?_, ?_⟩
      · intro j oj hj hdj e he hbd
        rcases hdset j hdj with e1 | e1
        · subst e1
          obtain rfl : oj = o := Option.some.inj (hj.symm.trans ho)
          exact hdmono _ (hiall e he hbd)
        · exact hdmono _ (inv.closed j oj hj e1 e he hbd)
      · intro q hs'
        by_cases hot : ∃ t, o.dst = some t
        · obtain ⟨t, hot⟩ := hot
          obtain ⟨htA, hvA⟩ := hA i o v t ho hv hot
          rw [hput u q t hot htA]
          by_cases hqt : q = t
          · rw [if_pos hqt]
            obtain ⟨_, g2⟩ := hs' i o ho (by rw [hqt]; exact hot)
            have hmn : m = none := by rw [hm] at g2; exact Option.some.inj g2
            rw [hu hmn, hqt, hvA g2]
          · rw [if_neg hqt]
            refine inv.slot q (fun k p hp hps => ?_)
            obtain ⟨g1, g2⟩ := hs' k p hp hps
            rcases hdset k g1 with e | e
            · exfalso
              subst e
              have : p = o := Option.some.inj (hp.symm.trans ho)
              rw [this, hot] at hps
              exact hqt (Option.some.inj hps).symm
            · exact ⟨e, g2⟩
        · have hdn : o.dst = none := by
            cases h : o.dst with
            | none => rfl
            | some t => exact absurd ⟨t, h⟩ hot
          rw [show (a.put o.dst u).tmps = a.tmps by rw [hdn]; rfl]
          refine inv.slot q (fun k p hp hps => ?_)
          obtain ⟨g1, g2⟩ := hs' k p hp hps
          rcases hdset k g1 with e | e
          · exfalso
            subst e
            have : p = o := Option.some.inj (hp.symm.trans ho)
            rw [this, hdn] at hps
            cases hps
          · exact ⟨e, g2⟩
      · intro k p t ob hp hps hmk hdk
        by_cases hki : k = i
        · subst hki
          have hpo : p = o := Option.some.inj (hp.symm.trans ho)
          rw [hm] at hmk
          obtain ⟨g1, g2, g3⟩ := hal ob (Option.some.inj hmk)
          rw [hpo] at hps
          rw [hput u t t hps (hA k o v t ho hv hps).1, if_pos rfl, g1, g3]
          exact ⟨rfl, inv.hsize, g2⟩
        · have hdk' : d.getD k false = true := (hdset k hdk).resolve_left hki
          obtain ⟨g1, g2, g3⟩ := inv.al k p t ob hp hps hmk hdk'
          have hlt := (Array.getElem?_eq_some_iff.1 g3).1
          have hne : (a.put o.dst u).tmps[t]? = a.tmps[t]? := put_get _ _ _ _ (fun e => hki (hO.apart k p t hp hps e))
          rw [hne, hGk k hki]
          exact ⟨g1, g2, (hg.2 _ g2 hlt).trans g3⟩
    -- the stage behind it
    have hstay : c = 0 → ∀ j c', j < ops.size → cs[j]? = some c' → 0 < c' → ((d.setIfInBounds i true).getD j false = true ↔ c' ≤ s) := by
      intro hc0 j c' hj hcj hpos
      have hji : i ≠ j := fun e => by subst e; rw [hc] at hcj; have := Option.some.inj hcj; omega
      rw [getD_set_ne false hji]
      exact inv.st.2.2 j c' hj hcj hpos
    have hsb : c = 0 → s ≤ b := by
      intro hc0
      rcases Nat.lt_or_ge b cm with hbc | hbc
      · obtain ⟨j, q, hq', hcj, hE⟩ := hO.low hc0 hbc
        rcases Nat.lt_or_ge b s with hlt | hge
        · exfalso
          have hj : j < ops.size := (Array.getElem?_eq_some_iff.1 hq').1
          have hdone := (inv.st.2.2 j (b + 1) hj hcj (by omega)).2 (by omega)
          obtain ⟨e, he1, he2, he3⟩ := hasE_spec hE
          have := inv.closed j q hq' hdone e he1 he2
          rw [he3, hid] at this
          cases this
        · exact hge
      · have := inv.st.2.1
        omega
    unfold wpOp
    rw [ho]
    simp only
    have hw : Region.wanted o (yielded ops a.tmps) = true := by unfold Region.wanted; rw [hO.guard]
    rw [if_pos hw]
    refine .inl ?_
    unfold Oper.wp
    rw [hexec]
    by_cases hc0 : c = 0
    · cases m with
      | some ob =>
        rw [hQ hc0 (hsb hc0)]
        refine ih _ _ _ (fun k => if k = i then w.heap.size else G k) s (hnew _ _ _ s (GrN.alloc _ _ _) (hKa _ _ _ inv.st.1) inv.st.2.1 (hstay hc0) (fun h => by cases h) (fun ob' h => ?_) (fun k hk => if_neg hk)) hcnt
        cases h
        exact ⟨rfl, heap_new w ob.1, if_pos rfl⟩
      | none =>
        simp only [hc0, Nat.lt_irrefl, if_false] at hQ
        rcases hQ (hsb hc0) with ⟨w', h1, h2, h3⟩ | ⟨fn, args, h1, h2⟩ | ⟨w', h1, hdn, h2, h3⟩
        · rw [h1]
          exact ih _ _ _ G s (hnew v w' G s h3 h2 inv.st.2.1 (hstay hc0) (fun _ => rfl) (fun ob h => by cases h) (fun _ _ => rfl)) hcnt
        · rw [h1]
          refine h2.mono (fun e w' h => ?_)
          obtain ⟨rfl, hk, hg⟩ := h
          exact ih _ _ _ G s (hnew v w' G s hg hk inv.st.2.1 (hstay hc0) (fun _ => rfl) (fun ob h => by cases h) (fun _ _ => rfl)) hcnt
        · rw [h1]
          have ea : a.put o.dst undef = a.put o.dst v := by rw [hdn]; rfl
          exact ih _ _ _ G s (by rw [ea]; exact hnew v w' G s h3 h2 inv.st.2.1 (hstay hc0) (fun _ => rfl) (fun ob h => by cases h) (fun _ _ => rfl)) hcnt
    · have hcp : 0 < c := by omega
      obtain ⟨hmn, hccm, hpre⟩ := hO.high hcp
      subst hmn
      have hnot : ¬ c ≤ s := fun h => by
        have := (inv.st.2.2 i c hin hc hcp).2 h
        rw [hid] at this; cases this
      have hs1 : s + 1 = c := by
        rcases hpre with h | ⟨j, hj, hcj, hE⟩
        · omega
        · rcases Nat.eq_zero_or_pos (c - 1) with h0 | h0
          · omega
          · obtain ⟨e, he1, he2, he3⟩ := hasE_spec hE
            have := (inv.st.2.2 j (c - 1) hj hcj h0).1 (he3 ▸ hiall e he1 he2)
            omega
      have hgo : ∀ j c', j < ops.size → cs[j]? = some c' → 0 < c' → ((d.setIfInBounds i true).getD j false = true ↔ c' ≤ c) := by
        intro j c' hj hcj hpos
        by_cases hji : i = j
        · subst hji
          rw [hc] at hcj
          have := Option.some.inj hcj
          exact ⟨fun _ => by omega, fun _ => hdsame⟩
        · rw [getD_set_ne false hji, inv.st.2.2 j c' hj hcj hpos]
          have hne : c' ≠ c := fun e => hji (hO.alone hcp j hj (e ▸ hcj)).symm
          omega
      simp only [hcp, if_true] at hQ
      rcases hQ hs1 with ⟨w', h1, h2, h3⟩ | ⟨fn, args, h1, h2⟩ | ⟨w', h1, hdn, h2, h3⟩
      · rw [h1]
        exact ih _ _ _ G c (hnew v w' G c h3 h2 hccm hgo (fun _ => rfl) (fun ob h => by cases h) (fun _ _ => rfl)) hcnt
      · rw [h1]
        refine h2.mono (fun e w' h => ?_)
        obtain ⟨rfl, hk, hg⟩ := h
        exact ih _ _ _ G c (hnew v w' G c hg hk hccm hgo (fun _ => rfl) (fun ob h => by cases h) (fun _ _ => rfl)) hcnt
      · rw [h1]
        have ea : a.put o.dst undef = a.put o.dst v := by rw [hdn]; rfl
        exact ih _ _ _ G c (by rw [ea]; exact hnew v w' G c h3 h2 hccm hgo (fun _ => rfl) (fun ob h => by cases h) (fun _ _ => rfl)) hcnt
/-- A region that draws, each operation looked at once. -/
theorem qRegionSt {id : Nat} {R : Exit → Act → World → Prop} {a : Act} {w : World} {l : List Oper} (K : Nat → World → Prop) (vs : List Value) (ms : List Laid) (cs bs : List Nat) (cm : Nat) (hm : P.follows .mixedOrders = true) (hB : stB l.toArray ms cs bs cm = true)
    (hvs : vs.length = l.length) (hms : ms.length = l.length) (hsz : l.all (fun o => match o.dst with | some t => decide (t < a.tmps.size) | none => true) = true)
    (hK0 : K 0 w.drew) (hKa : ∀ s w o, K s w → K s (w.alloc o))
    (hq : AllSt P w K (putL a l vs) l ms l vs ms cs bs)
    (h : ∀ (G : Nat → Nat) w', K cm w' → w.heap.size ≤ w'.heap.size → (∀ k ob, ms[k]? = some (some ob) → w.heap.size ≤ G k ∧ w'.heap[G k]? = some ob.1) → R .normal (putH G (putL a l vs) l ms 0) w') : (Code.region id l.toArray true).wp P R a w := by
  refine wp_region_any hm ?_
  have hB' := hB
  unfold stB at hB'
  simp only [Bool.and_eq_true] at hB'
  obtain ⟨⟨hsel, hops⟩, hcm⟩ := hB'
  have hok : ∀ i, i < l.toArray.size → ∃ o m c b, l.toArray[i]? = some o ∧ ms[i]? = some m ∧ cs[i]? = some c ∧ bs[i]? = some b ∧ OpSt l.toArray ms cs bs cm i o m c b := fun i hi => opSt_spec (List.all_eq_true.1 hops i (List.mem_range.2 hi))
  have hsize := putL_size l vs a
  have hbd : ∀ (k : Nat) (o : Oper) (t : Tmp), l.toArray[k]? = some o → o.dst = some t → t < a.tmps.size := fun k o t ho ht => by
    have := List.all_eq_true.1 hsz o (List.mem_of_getElem? (i := k) (by simpa using ho))
    rw [ht] at this
    simpa using this
  have hA : ∀ (k : Nat) (o : Oper) (v : Value) (t : Tmp), l.toArray[k]? = some o → vs[k]? = some v → o.dst = some t → t < (putL a l vs).tmps.size ∧ (ms[k]? = some none → (putL a l vs).tmps[t]? = some v) := fun k o v t ho hv ht => by
    refine ⟨by rw [hsize.1]; exact hbd k o t ho ht, fun _ => putL_at l vs a k o v t (by simpa using ho) hv ht (hbd k o t ho ht) (fun j p hp hne e => ?_)⟩
    obtain ⟨o', m', c', b', ho', _, _, _, hO⟩ := hok k (Array.getElem?_eq_some_iff.1 ho).1
    obtain rfl : o' = o := Option.some.inj (ho'.symm.trans ho)
    exact hne (hO.apart j p t (by simpa using hp) e ht)
  have hmain := region_st (R := R) (W := w) (K := K) hB (by simpa using hq) (by simpa using hvs) (by simpa using hms) hKa hA (fun a' w' G hk hs hG e => by rw [e]; exact h G w' hk hs hG)
  have inv0 : SInv w K l.toArray ms cs cm (putL a l vs) (fun _ => 0) (Array.replicate l.toArray.size false) a { w with drawn := w.drawn + 1 } 0 := by
    refine ⟨by simp, fun j oj _ hj => (by rw [getD_replicate_false] at hj; cases hj), ⟨hK0, Nat.zero_le _, fun i c _ _ hp => ⟨fun hd => (by rw [getD_replicate_false] at hd; cases hd), fun hd => by omega⟩⟩, hsize.2.symm, hsize.1.symm, Nat.le_refl _, ?_, ?_⟩
    · intro t ht
      refine (putL_get _ _ a t (fun o ho e => ?_)).symm
      obtain ⟨j, hj⟩ := List.getElem?_of_mem ho
      have := (ht j o (by simpa using hj) e).1
      rw [getD_replicate_false] at this
      cases this
    · intro k o t ob _ _ _ hd
      rw [getD_replicate_false] at hd; cases hd
  have := hmain _ _ a _ _ 0 inv0 rfl
  refine wpAny_le ?_ this
  exact cntU_le _ _
end
section
variable {P : Program} {W : World} {K : Nat → World → Prop} {A : Act} {l : List Oper} {ms : List Laid} {o : Oper} {v : Value} {b : Nat}
theorem OneSt.pure (h : ∀ G w, (execOp (putH G A l ms 0).eval o).run P w = .ok (.value v) w) : OneSt P W K A l ms o v none 0 b := by
  intro G s w hK hL
  show if 0 < 0 then _ else _
  rw [if_neg (by omega)]
  exact fun _ => .inl ⟨w, h G w, hK, GrN.refl _ _⟩
theorem OneSt.load (h : ∀ G s w, K s w → s ≤ b → (execOp (putH G A l ms 0).eval o).run P w = .ok (.value v) w) : OneSt P W K A l ms o v none 0 b := by
  intro G s w hK hL
  show if 0 < 0 then _ else _
  rw [if_neg (by omega)]
  exact fun hs => .inl ⟨w, h G s w hK hs, hK, GrN.refl _ _⟩
theorem OneSt.lay {ob : Obj} {f : Nat → Value} (h : ∀ G w, (execOp (putH G A l ms 0).eval o).run P w = .ok (.value (f w.heap.size)) (w.alloc ob)) : OneSt P W K A l ms o v (some (ob, f)) 0 b := by
  intro G s w hK hL
  exact fun _ _ => h G w
theorem OneSt.call {s : Nat} (h : ∀ G w, K s w → LkOk W w o ms G → ∃ fn args, (execOp (putH G A l ms 0).eval o).run P w = .ok (.enter fn args) w ∧ Calls P fn args w (fun e w' => e = .returned v ∧ K (s + 1) w' ∧ GrN W w w')) : OneSt P W K A l ms o v none (s + 1) b := by
  intro G s' w hK hL
  show if 0 < s + 1 then _ else _
  rw [if_pos (by omega)]
  intro e
  obtain rfl : s' = s := by omega
  exact .inr (.inl (h G w hK hL))
theorem OneSt.store {s : Nat} (h : ∀ G w, K s w → LkOk W w o ms G → ∃ w', (execOp (putH G A l ms 0).eval o).run P w = .ok .skip w' ∧ o.dst = none ∧ K (s + 1) w' ∧ GrN W w w') : OneSt P W K A l ms o v none (s + 1) b := by
  intro G s' w hK hL
  show if 0 < s + 1 then _ else _
  rw [if_pos (by omega)]
  intro e
  obtain rfl : s' = s := by omega
  exact .inr (.inr (h G w hK hL))
end
end Go.Proofs.YtidgicbhgnbidaaGreatDoor
