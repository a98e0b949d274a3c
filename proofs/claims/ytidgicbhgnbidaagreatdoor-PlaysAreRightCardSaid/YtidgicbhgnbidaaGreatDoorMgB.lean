/- Several texts in one: Qt, Qtt, Qp, Qst, Qsd, Qsi, Qse, Stream, SmA, MyP, CmP, CmQ. -/
import Derived.Test.YtidgicbhgnbidaaGreatDoorMgA
import Derived.Deep.QuietTactic
import Derived.BigQuiet
import Derived.StillTail
import Derived.Test.YtidgicbhgnbidaaGreatDoorProg
import Derived.Maps.OwnOps

/- A region that draws its order and whose callees lay blocks of their own, walked once in the text's order: what is so of every world that has grown. -/
namespace Go.Proofs.YtidgicbhgnbidaaGreatDoor
open Go.RowKit

section
variable {P : Program}
theorem qVal {C : World → Prop} {o : Oper} {a : Act} {K : Act → Prop} {v : Value} (h : ∀ V, C V → (execOp a.eval o).run P V = .ok (.value v) V) (k : K (a.put o.dst v)) : o.quiet P a C K :=
  ⟨v, fun w hw => by unfold Oper.quietAt; rw [h w hw]; exact ⟨rfl, rfl⟩, k⟩
theorem qCall {C : World → Prop} {o : Oper} {a : Act} {K : Act → Prop} {v : Value} {f : FuncId} {args : Array Value} (h : ∀ V, C V → (execOp a.eval o).run P V = .ok (.enter f args) V)
    (hc : ∀ V, C V → Calls P f args V fun e w' => e = .returned v ∧ C w') (k : K (a.put o.dst v)) : o.quiet P a C K :=
  ⟨v, fun w hw => by unfold Oper.quietAt; rw [h w hw]; exact ⟨rfl, hc w hw⟩, k⟩
theorem qWant {ops : Array Oper} {C : World → Prop} {Q : Act → Prop} {o : Oper} {rest : List Oper} {a : Act} (hw : Region.wanted o (yielded ops a.tmps) = true) (h : ∀ K : Act → Prop, (∀ a, wpQuiet P ops C Q rest a → K a) → o.quiet P a C K) : wpQuiet P ops C Q (o :: rest) a :=
  wpQuiet_step (fun K hK => by rw [if_pos hw]; exact h K hK)
theorem qSkip {ops : Array Oper} {C : World → Prop} {Q : Act → Prop} {o : Oper} {rest : List Oper} {a : Act} (hw : Region.wanted o (yielded ops a.tmps) = false) (h : wpQuiet P ops C Q rest (a.put o.dst undef)) : wpQuiet P ops C Q (o :: rest) a :=
  wpQuiet_step (fun K hK => by rw [if_neg (by rw [hw]; exact Bool.false_ne_true)]; exact hK _ h)
/-- The class: what has grown out of w. -/
theorem qRegion {id : Nat} {Q : Exit → Act → World → Prop} {a : Act} {w : World} {l : List Oper} (hm : P.follows .mixedOrders = true) (hB : Region.lexB .any l.toArray = true)
    (h : wpQuiet P l.toArray (fun V => Below w.heap.size w V) (fun a' => ∀ w', Below w.heap.size w w' → Q .normal a' w') l a) : (Code.region id l.toArray true).wp P Q a w :=
  wp_region_quiet (C := fun V => Below w.heap.size w V) hm hB ((Below.refl _ _).drew) (by simpa using h)
end
end Go.Proofs.YtidgicbhgnbidaaGreatDoor

/- A region that draws its order: what comes first is quiet in a class of worlds and walked once in the text's order, what comes last has one order only and is walked as it stands. -/
namespace Go.Proofs.YtidgicbhgnbidaaGreatDoor
open Go.RowKit

section
variable {P : Program} {ops : Array Oper} {md : Region.Mode} {C : World → Prop}
/-- The quiet operations below n in whatever order, then L. -/
def hAny (P : Program) (md : Region.Mode) (ops : Array Oper) (C : World → Prop) (n : Nat) (L : Array Bool → Act → Prop) : Nat → Array Bool → Act → Prop
  | 0, d, a => L d a
  | f + 1, d, a => Region.ready md ops d ≠ [] ∧ ∀ j ∈ Region.ready md ops d, j < n ∧ qOp P ops C j (hAny P md ops C n L f (d.setIfInBounds j true)) a
theorem any_of_hAny {n g : Nat} {L : Array Bool → Act → Prop} {R : Exit → Act → World → Prop} (hL : ∀ d a w, C w → L d a → wpAny P md ops R g d a w) (f : Nat) :
    ∀ d a w, C w → hAny P md ops C n L f d a → wpAny P md ops R (f + g) d a w := by
  induction f with
  | zero => intro d a w hw h; rw [Nat.zero_add]; exact hL d a w hw h
  | succ f ih =>
    intro d a w hw h
    rw [Nat.add_right_comm]
    exact ⟨fun h0 => absurd h0 h.1, fun j hj => wpOp_of_qOp hw (fun a' w' hw' h' => ih _ a' w' hw' h') (h.2 j hj).2⟩
theorem hAny_first {n i : Nat} {oi : Oper} {v : Value} {L : Array Bool → Act → Prop} (hi : ops[i]? = some oi) (hsel : ∀ (j : Nat) (o : Oper) cs b, ops[j]? = some o → o.op ≠ .select cs b)
    (hs : Region.sinkB md ops n = true) (hc : Region.chainB md ops n = true) (hn : n < ops.size) (hin : i < n) (hL : ∀ d a, L d a → ∀ j ∈ Region.ready md ops d, n ≤ j) (f : Nat) :
    ∀ d a, HeadInv md ops n d → (∀ j oj, ops[j]? = some oj → j ≠ i → d.getD j true = false → (∀ e ∈ oj.after, Region.binds md e = true → e.on ≠ i) → oi.apart ops oj = true) →
      i ∈ Region.ready md ops d → YieldsIn P ops C oi v a → hAny P md ops C n L f (d.setIfInBounds i true) (a.put oi.dst v) → hAny P md ops C n L (f + 1) d a := by
  have low : ∀ d, HeadInv md ops n d → i ∈ Region.ready md ops d → ∀ j ∈ Region.ready md ops d, j < n := fun d inv hr j hj => by
    rcases Nat.lt_or_ge j n with h | h
    · exact h
    · exact absurd hj (tail_waits hs hc hn inv _ i rfl hin (mem_ready.1 hr).1 j h)
  induction f with
  | zero =>
    intro d a inv _ hr hy H
    refine ⟨List.ne_nil_of_mem hr, fun j hj => ⟨low d inv hr j hj, ?_⟩⟩
    rcases Decidable.em (j = i) with rfl | hji
    · exact hy.qOp hi H
    · have h1 := hL _ _ H j (ready_mono hj hji)
      have h2 := low d inv hr j hj
      omega
  | succ f ih =>
    intro d a inv hfree hr hy H
    refine ⟨List.ne_nil_of_mem hr, fun j hj => ⟨low d inv hr j hj, ?_⟩⟩
    rcases Decidable.em (j = i) with rfl | hji
    · exact hy.qOp hi H
    · obtain ⟨u, oj, hoj, hall⟩ := mem_ready.1 hj
      have hno : ∀ e ∈ oj.after, Region.binds md e = true → e.on ≠ i := by
        intro e he hb h
        have h1 := hall e he hb
        rw [h, getD_both (mem_ready.1 hr).1] at h1
        cases h1
      refine qOp_mono (fun a' h3 => ih (d.setIfInBounds j true) a' (inv.set hj (low d inv hr j hj)) ?_ (ready_mono hr (Ne.symm hji)) h3.1 ?_)
        (qOp_put hoj (hfree j oj hoj hji u hno) (fun cs b => hsel i oi cs b hi) (fun cs b => hsel j oj cs b hoj) hy (H.2 j (ready_mono hj hji)).2)
      · intro k ok hk hki hun
        refine hfree k ok hk hki ?_
        rcases Decidable.em (j = k) with rfl | hjk
        · exact u
        · rwa [getD_set_ne true hjk] at hun
      · rw [Array.setIfInBounds_comm _ _ hji]
        exact h3.2
theorem hAny_lex {n g : Nat} {K : Act → Prop} (hsel : Region.noSelect ops = true) (hs : Region.sinkB md ops n = true) (hc : Region.chainB md ops n = true) (hn : n < ops.size) (l : List Oper) :
    ∀ k d a, (∀ j, j < l.length → l[j]? = ops[k + j]?) → k + l.length = n → HeadInv md ops n d → Region.lexHead md ops g l.length k d = true → wpQuiet P ops C K l a →
      hAny P md ops C n (fun d' a' => Region.seqB md ops g n d' = true ∧ K a') l.length d a := by
  induction l with
  | nil =>
    intro k d a _ hk _ hB h
    obtain rfl : k = n := by simpa using hk
    exact ⟨by simpa [Region.lexHead] using hB, h⟩
  | cons o l ih =>
    intro k d a hl hk inv hB h
    have h0 : ops[k]? = some o := by simpa using (hl 0 (by simp)).symm
    simp only [List.length_cons] at hk
    simp only [List.length_cons, Region.lexHead, Bool.and_eq_true] at hB
    have hr : k ∈ Region.ready md ops d := by simpa using hB.1.1
    obtain ⟨v, hy, hK⟩ := yieldsIn_of_qOp (K := wpQuiet P ops C K l) h0 (by unfold qOp; simp only [h0]; exact h)
    refine hAny_first h0 (Region.noSelect_spec hsel) hs hc hn (by omega) (fun d' a' hL => seqB_ready hL.1) l.length d a inv (Region.free_spec h0 hB.1.2) hr hy
      (ih (k + 1) _ _ (fun j hj => ?_) (by omega) (inv.set hr (by omega)) hB.2 hK)
    have := hl (j + 1) (by simp; omega)
    simpa [Nat.add_assoc, Nat.add_comm 1 j] using this
/-- The quiet part is n operations long. -/
theorem region_quiet_tail {id : Nat} {R : Exit → Act → World → Prop} {a : Act} {w : World} {l : List Oper} (n : Nat) (hm : P.follows .mixedOrders = true) (hB : Region.lexTailB .any l.toArray n = true) (hC : C w.drew)
    (h : wpQuiet P l.toArray C (fun a' => ∀ w', C w' → wpList P l.toArray R (l.drop n) a' w') (l.take n) a) : (Code.region id l.toArray true).wp P R a w := by
  simp only [Region.lexTailB, Bool.and_eq_true, decide_eq_true_eq] at hB
  obtain ⟨⟨⟨⟨hsel, hn⟩, hs⟩, hc⟩, hlex⟩ := hB
  have hn' : n < l.length := by simpa using hn
  have htl : (l.take n).length = n := by rw [List.length_take]; omega
  have hdl : (l.drop n).length = l.toArray.size - n := by simp
  have inv : HeadInv .any l.toArray n (Array.replicate l.toArray.size false) :=
    ⟨by simp, fun j oj _ hj => (by rw [getD_replicate_false] at hj; cases hj), fun t _ ht => getD_in (by simpa using ht) (getD_replicate_false _ _)⟩
  have H := hAny_lex (md := .any) (g := l.toArray.size - n) hsel hs hc hn (l.take n) 0 _ a (fun j hj => by rw [htl] at hj; simp [hj]) (by omega) inv (by rw [htl]; exact hlex) h
  have H2 := any_of_hAny (R := R) (g := l.toArray.size - n) (fun d a' w' hw hL => by
    have := wpAny_of_seq (md := .any) (Q' := R) (l.drop n) n d a' w' (fun j => by simp [List.getElem?_drop]) (by rw [hdl]; exact hL.1) (hL.2 w' hw)
    rwa [hdl] at this) _ _ _ w.drew hC H
  rw [htl, show n + (l.toArray.size - n) = l.toArray.size by omega] at H2
  exact wp_region_any hm H2
/-- The class: what has grown out of w. -/
theorem qRegionTail {id : Nat} {R : Exit → Act → World → Prop} {a : Act} {w : World} {l : List Oper} (n : Nat) (hm : P.follows .mixedOrders = true) (hB : Region.lexTailB .any l.toArray n = true)
    (h : wpQuiet P l.toArray (fun V => Below w.heap.size w V) (fun a' => ∀ w', Below w.heap.size w w' → wpList P l.toArray R (l.drop n) a' w') (l.take n) a) : (Code.region id l.toArray true).wp P R a w :=
  region_quiet_tail n hm hB ((Below.refl _ _).drew) h
end
end Go.Proofs.YtidgicbhgnbidaaGreatDoor

/- A region that draws its order and lays new blocks beside its calls: each operation is looked at once, at the frame of the end; where the new blocks lie is a variable. No program in sight. -/
namespace Go.Proofs.YtidgicbhgnbidaaGreatDoor
open Go.RowKit

def putL : Act → List Oper → List Value → Act
  | a, o :: os, v :: vs => putL (a.put o.dst v) os vs
  | a, _, _ => a
def putG (G : Nat → Nat) : Act → List Oper → List (Option Obj) → Nat → Act
  | a, o :: os, m :: ms, k => putG G (match m with | none => a | some _ => a.put o.dst (.pointer (some ⟨G k, 0, none⟩))) os ms (k + 1)
  | a, _, _, _ => a
def QR (P : Program) (A : Act) (o : Oper) (w : World) (v : Value) : Prop :=
  (execOp A.eval o).run P w = .ok (.value v) w ∨ ∃ f args, (execOp A.eval o).run P w = .ok (.enter f args) w ∧ Calls P f args w (fun e w' => e = .returned v ∧ Below w.heap.size w w')
def QAl (P : Program) (A : Act) (o : Oper) (ob : Obj) : Prop := ∀ w, (execOp A.eval o).run P w = .ok (.value (.pointer (some ⟨w.heap.size, 0, none⟩))) (w.alloc ob)
def QOne (P : Program) (W : World) (A : Act) (o : Oper) (v : Value) (m : Option Obj) : Prop :=
  match m with
  | none => ∀ w, Below W.heap.size W w → QR P A o w v
  | some ob => QAl P A o ob
def QOps (P : Program) (W : World) (A : Act) : List Oper → List Value → List (Option Obj) → Prop
  | o :: os, v :: vs, m :: ms => QOne P W A o v m ∧ QOps P W A os vs ms
  | _, _, _ => True
theorem QOps.get {P : Program} {W : World} {A : Act} : ∀ {os : List Oper} {vs : List Value} {ms : List (Option Obj)} {k : Nat} {o : Oper} {v : Value} {m : Option Obj}, QOps P W A os vs ms → os[k]? = some o → vs[k]? = some v → ms[k]? = some m → QOne P W A o v m
  | o :: os, v :: vs, m :: ms, 0, _, _, _, h, h1, h2, h3 => by cases h1; cases h2; cases h3; exact h.1
  | o :: os, v :: vs, m :: ms, k + 1, _, _, _, h, h1, h2, h3 => QOps.get h.2 h1 h2 h3
  | [], _, _, _, _, _, _, _, h1, _, _ => by simp at h1
  | _ :: _, [], _, _, _, _, _, _, _, h2, _ => by simp at h2
  | _ :: _, _ :: _, [], _, _, _, _, _, _, _, h3 => by simp at h3
def opB (ops : Array Oper) (n : Nat) (ms : List (Option Obj)) (i : Nat) : Bool :=
  match ops[i]? with
  | none => false
  | some o => o.guard.isNone && o.dst.isSome && o.after.all (fun e => !Region.binds .any e || decide (e.on < i)) &&
      (List.range n).all (fun k => match ops[k]? with
        | none => false
        | some p => (k == i || p.dst != o.dst) &&
          (match p.dst with
            | none => false
            | some t => !(o.looksAt ops).contains t || ((match ms[k]? with | some none => true | _ => false) && o.after.any (fun e => Region.binds .any e && e.on == k))))
def allB (m n : Nat) : Array Bool := Array.replicate n true ++ Array.replicate (m - n) false
def ptB (ops : Array Oper) (n : Nat) (ms : List (Option Obj)) : Bool :=
  Region.noSelect ops && decide (n < ops.size) && Region.sinkB .any ops n && Region.chainB .any ops n && Region.seqB .any ops (ops.size - n) n (allB ops.size n) && (List.range n).all (opB ops n ms)
structure OpOk (ops : Array Oper) (n : Nat) (ms : List (Option Obj)) (i : Nat) (o : Oper) (t : Tmp) : Prop where
  guard : o.guard = none
  dst : o.dst = some t
  back : ∀ e ∈ o.after, Region.binds .any e = true → e.on < i
  apart : ∀ k p u, k < n → ops[k]? = some p → p.dst = some u → k ≠ i → u ≠ t
  looks : ∀ k p u, k < n → ops[k]? = some p → p.dst = some u → u ∈ o.looksAt ops → ms[k]? = some none ∧ ∃ e ∈ o.after, Region.binds .any e = true ∧ e.on = k
theorem opB_spec {ops : Array Oper} {n : Nat} {ms : List (Option Obj)} {i : Nat} (h : opB ops n ms i = true) : ∃ o t, ops[i]? = some o ∧ OpOk ops n ms i o t := by
  unfold opB at h
  cases ho : ops[i]? with
  | none => rw [ho] at h; cases h
  | some o =>
    rw [ho] at h
    simp only [Bool.and_eq_true] at h
    obtain ⟨⟨⟨h1, h2⟩, h3⟩, h4⟩ := h
    obtain ⟨t, ht⟩ := Option.isSome_iff_exists.1 h2
    refine ⟨o, t, rfl, Option.isNone_iff_eq_none.1 h1, ht, ?_, ?_, ?_⟩
    · intro e he hb
      have := Array.all_eq_true_iff_forall_mem.1 h3 e he
      rw [hb] at this
      simpa using this
    · intro k p u hk hp hu hki e
      have := List.all_eq_true.1 h4 k (List.mem_range.2 hk)
      rw [hp] at this
      simp only [Bool.and_eq_true, Bool.or_eq_true, beq_iff_eq, bne_iff_ne] at this
      rcases this.1 with g | g
      · exact hki g
      · rw [hu, ht, e] at g; exact g rfl
    · intro k p u hk hp hu hm
      have := List.all_eq_true.1 h4 k (List.mem_range.2 hk)
      rw [hp] at this
      simp only [hu, Bool.and_eq_true, Bool.or_eq_true, Bool.not_eq_true'] at this
      rcases this.2 with g | ⟨g1, g2⟩
      · rw [List.contains_iff_mem.2 hm] at g; cases g
      · refine ⟨?_, ?_⟩
        · cases hms : ms[k]? with
          | none => rw [hms] at g1; cases g1
          | some m =>
            cases m with
            | none => rfl
            | some ob => rw [hms] at g1; cases g1
        · obtain ⟨j, hj, hj2⟩ := Array.any_eq_true.1 g2
          simp only [Bool.and_eq_true, beq_iff_eq] at hj2
          exact ⟨_, Array.getElem_mem hj, hj2.1, hj2.2⟩
theorem wpAny_more {P : Program} {md : Region.Mode} {ops : Array Oper} {Q : Exit → Act → World → Prop} : ∀ (f : Nat) (d : Array Bool) (a : Act) (w : World), wpAny P md ops Q f d a w → wpAny P md ops Q (f + 1) d a w
  | 0, d, a, w, h => ⟨fun _ => h.2, fun i hi => by rw [h.1] at hi; cases hi⟩
  | f + 1, d, a, w, h => ⟨h.1, fun i hi => wpOp_mono (fun a' w' h' => wpAny_more f _ a' w' h') (h.2 i hi)⟩
theorem wpAny_le {P : Program} {md : Region.Mode} {ops : Array Oper} {Q : Exit → Act → World → Prop} {f g : Nat} (hfg : f ≤ g) {d : Array Bool} {a : Act} {w : World} (h : wpAny P md ops Q f d a w) : wpAny P md ops Q g d a w := by
  induction hfg with
  | refl => exact h
  | step _ ih => exact wpAny_more _ _ _ _ ih
def cntU (d : Array Bool) : Nat → Nat
  | 0 => 0
  | k + 1 => cntU d k + (if d.getD k false = true then 0 else 1)
theorem cntU_zero {d : Array Bool} : ∀ {n : Nat}, cntU d n = 0 → ∀ k, k < n → d.getD k false = true
  | 0, _, k, hk => by omega
  | n + 1, h, k, hk => by
    simp only [cntU] at h
    split at h
    · rename_i h1
      rcases Nat.lt_or_eq_of_le (Nat.le_of_lt_succ hk) with h2 | h2
      · exact cntU_zero (by omega) k h2
      · rw [h2]; exact h1
    · omega
theorem cntU_some {d : Array Bool} : ∀ {n : Nat}, 0 < cntU d n → ∃ k, k < n ∧ d.getD k false = false ∧ ∀ j, j < k → d.getD j false = true
  | 0, h => by simp [cntU] at h
  | n + 1, h => by
    by_cases h0 : 0 < cntU d n
    · obtain ⟨k, h1, h2⟩ := cntU_some h0
      exact ⟨k, by omega, h2⟩
    · simp only [cntU] at h
      split at h
      · omega
      · rename_i h1
        exact ⟨n, by omega, by simpa using h1, fun j hj => cntU_zero (by omega) j hj⟩
theorem cntU_set {d : Array Bool} {i : Nat} (hi : i < d.size) (h : d.getD i false = false) : ∀ {n : Nat}, cntU (d.setIfInBounds i true) n = cntU d n - (if i < n then 1 else 0) ∧ (i < n → 0 < cntU d n)
  | 0 => by simp [cntU]
  | n + 1 => by
    obtain ⟨h1, h2⟩ := cntU_set hi h (n := n)
    simp only [cntU]
    by_cases hin : i = n
    · subst hin
      have e1 : (if i < i then 1 else 0 : Nat) = 0 := if_neg (Nat.lt_irrefl i)
      have e2 : (if i < i + 1 then 1 else 0 : Nat) = 1 := if_pos (Nat.lt_succ_self i)
      have e3 : (d.setIfInBounds i true).getD i false = true := by simp [hi]
      rw [h1, e1, e2, e3, h]
      simp
    · rw [h1, getD_set_ne false hin]
      by_cases hl : i < n
      · have e1 : (if i < n then 1 else 0 : Nat) = 1 := if_pos hl
        have e2 : (if i < n + 1 then 1 else 0 : Nat) = 1 := if_pos (by omega)
        have := h2 hl
        rw [e1, e2]
        exact ⟨by omega, fun _ => by omega⟩
      · have e1 : (if i < n then 1 else 0 : Nat) = 0 := if_neg hl
        have e2 : (if i < n + 1 then 1 else 0 : Nat) = 0 := if_neg (by omega)
        rw [e1, e2]
        exact ⟨by omega, fun h => by omega⟩
theorem putL_get : ∀ (os : List Oper) (vs : List Value) (a : Act) (t : Tmp), (∀ o ∈ os, o.dst ≠ some t) → (putL a os vs).tmps[t]? = a.tmps[t]?
  | [], _, a, t, _ => rfl
  | _ :: _, [], a, t, _ => rfl
  | o :: os, v :: vs, a, t, h => by
    rw [putL, putL_get os vs _ t (fun p hp => h p (List.mem_cons_of_mem _ hp))]
    have h0 := h o List.mem_cons_self
    unfold Act.put
    split
    · rename_i d hd
      rw [hd] at h0
      simp only
      rw [Array.getElem?_setIfInBounds_ne (fun e => h0 (by rw [e]))]
    · rfl
theorem put_size (a : Act) (d : Option Tmp) (v : Value) : (a.put d v).tmps.size = a.tmps.size ∧ (a.put d v).defers = a.defers := by
  unfold Act.put
  split
  · simp
  · exact ⟨rfl, rfl⟩
theorem putL_size : ∀ (os : List Oper) (vs : List Value) (a : Act), (putL a os vs).tmps.size = a.tmps.size ∧ (putL a os vs).defers = a.defers
  | [], _, a => ⟨rfl, rfl⟩
  | _ :: _, [], a => ⟨rfl, rfl⟩
  | o :: os, v :: vs, a => by
    obtain ⟨h1, h2⟩ := putL_size os vs (a.put o.dst v)
    obtain ⟨g1, g2⟩ := put_size a o.dst v
    exact ⟨h1.trans g1, h2.trans g2⟩
theorem putL_at : ∀ (os : List Oper) (vs : List Value) (a : Act) (k : Nat) (o : Oper) (v : Value) (t : Tmp), os[k]? = some o → vs[k]? = some v → o.dst = some t → t < a.tmps.size → (∀ j p, os[j]? = some p → j ≠ k → p.dst ≠ some t) → (putL a os vs).tmps[t]? = some v
  | [], _, a, k, o, v, t, h1, _, _, _, _ => by simp at h1
  | _ :: _, [], a, k, o, v, t, _, h2, _, _, _ => by simp at h2
  | p :: os, u :: vs, a, 0, o, v, t, h1, h2, h3, h4, h5 => by
    cases h1; cases h2
    rw [putL, putL_get os vs _ t (fun q hq => by
      obtain ⟨j, hj⟩ := List.getElem?_of_mem hq
      exact h5 (j + 1) q (by simpa using hj) (by omega))]
    unfold Act.put
    rw [h3]
    simp [h4]
  | p :: os, u :: vs, a, k + 1, o, v, t, h1, h2, h3, h4, h5 => by
    rw [putL]
    refine putL_at os vs _ k o v t (by simpa using h1) (by simpa using h2) h3 ?_ (fun j q hj hne => h5 (j + 1) q (by simpa using hj) (by omega))
    rw [(put_size _ _ _).1]; exact h4
structure PInv (W : World) (ops : Array Oper) (n : Nat) (ms : List (Option Obj)) (A : Act) (G : Nat → Nat) (d : Array Bool) (a : Act) (w : World) : Prop where
  head : HeadInv .any ops n d
  bel : Below W.heap.size W w
  defers : a.defers = A.defers
  size : a.tmps.size = A.tmps.size
  slot : ∀ t, (∀ k o, k < n → ops[k]? = some o → o.dst = some t → d.getD k false = true ∧ ms[k]? = some none) → a.tmps[t]? = A.tmps[t]?
  al : ∀ k o t ob, k < n → ops[k]? = some o → o.dst = some t → ms[k]? = some (some ob) → d.getD k false = true → a.tmps[t]? = some (.pointer (some ⟨G k, 0, none⟩)) ∧ W.heap.size ≤ G k ∧ w.heap[G k]? = some ob
  ne : ∀ k j ob ob', k < n → j < n → ms[k]? = some (some ob) → ms[j]? = some (some ob') → d.getD k false = true → d.getD j false = true → k ≠ j → G k ≠ G j
section
variable {P : Program} {W : World} {ops : Array Oper} {n : Nat} {vs : List Value} {ms : List (Option Obj)} {A : Act}
theorem eval_agree {a a' : Act} {x : Operand} (h : ∀ t, x = .tmp t → a.tmps[t]? = a'.tmps[t]?) : a.eval x = a'.eval x := by
  cases x with
  | tmp t =>
    have := h t rfl
    simp only [Act.eval, Array.getD_eq_getD_getElem?, this]
  | const v => rfl
  | global g => rfl
  | func f => rfl
theorem heap_keep {w w' : World} {g : Nat} {ob : Obj} (h : w.heap[g]? = some ob) (hb : Below w.heap.size w w') : w'.heap[g]? = some ob :=
  (hb.block g (Array.getElem?_eq_some_iff.1 h).1).trans h
theorem region_pt {R : Exit → Act → World → Prop} (hB : ptB ops n ms = true) (hq : QOps P W A (ops.toList.take n) vs ms) (hvs : vs.length = n) (hms : ms.length = n)
    (hA : ∀ k o v t, k < n → ops[k]? = some o → vs[k]? = some v → o.dst = some t → t < A.tmps.size ∧ (ms[k]? = some none → A.tmps[t]? = some v))
    (hend : ∀ a w G, PInv W ops n ms A G (allB ops.size n) a w → wpList P ops R (ops.toList.drop n) a w) :
    ∀ (f : Nat) (d : Array Bool) (a : Act) (w : World) (G : Nat → Nat), PInv W ops n ms A G d a w → cntU d n = f → wpAny P .any ops R (f + (ops.size - n)) d a w := by
  unfold ptB at hB
  simp only [Bool.and_eq_true, decide_eq_true_eq] at hB
  obtain ⟨⟨⟨⟨⟨hsel, hn⟩, hs⟩, hc⟩, hseq⟩, hops⟩ := hB
  have hok : ∀ i, i < n → ∃ o t, ops[i]? = some o ∧ OpOk ops n ms i o t := fun i hi => opB_spec (List.all_eq_true.1 hops i (List.mem_range.2 hi))
  have hdl : (ops.toList.drop n).length = ops.size - n := by simp
  intro f
  induction f with
  | zero =>
    intro d a w G inv hcn
    have hall := cntU_zero hcn
    have hd : d = allB ops.size n := by
      refine Array.ext (by unfold allB; rw [inv.head.size]; simp; omega) (fun i h1 h2 => ?_)
      rw [inv.head.size] at h1
      have hg : d.getD i false = (allB ops.size n).getD i false := by
        by_cases hin : i < n
        · rw [hall i hin]
          unfold allB
          simp [Array.getElem?_append, hin]
        · have h3 := getD_both (inv.head.tail i (by omega) h1)
          rw [h3]
          unfold allB
          simp only [Array.getD_eq_getD_getElem?, Array.getElem?_append, Array.size_replicate, hin, if_false, Array.getElem?_replicate]
          split <;> rfl
      have e1 : d.getD i false = d[i] := by simp [inv.head.size, h1]
      have e2 : (allB ops.size n).getD i false = (allB ops.size n)[i] := by
        rw [Array.getD_eq_getD_getElem?, Array.getElem?_eq_getElem h2]; rfl
      rw [e1, e2] at hg
      exact hg
    rw [Nat.zero_add]
    have := wpAny_of_seq (P := P) (md := .any) (Q' := R) (ops.toList.drop n) n d a w (fun j => by simp [List.getElem?_drop]) (by rw [hdl, hd]; exact hseq) (hend a w G (hd ▸ inv))
    rwa [hdl] at this
  | succ f ih =>
    intro d a w G inv hcn
    obtain ⟨k0, hk0, hk1, hk2⟩ := cntU_some (d := d) (n := n) (by omega)
    have hr0 : k0 ∈ Region.ready .any ops d := by
      obtain ⟨o, t, ho, hO⟩ := hok k0 hk0
      exact mem_ready.2 ⟨getD_in (by rw [inv.head.size]; omega) hk1, o, ho, fun e he hb => hk2 _ (hO.back e he hb)⟩
    have hlow : ∀ j ∈ Region.ready .any ops d, j < n := fun j hj => by
      rcases Nat.lt_or_ge j n with h | h
      · exact h
      · exact absurd hj (tail_waits hs hc hn inv.head _ k0 rfl hk0 (mem_ready.1 hr0).1 j h)
    rw [Nat.succ_add]
    refine ⟨fun h => (by rw [h] at hr0; cases hr0), fun i hi => ?_⟩
    have hin := hlow i hi
    obtain ⟨hiu, oi, hoi, hiall⟩ := mem_ready.1 hi
    obtain ⟨o, t, ho, hO⟩ := hok i hin
    obtain rfl : o = oi := Option.some.inj (ho.symm.trans hoi)
    have hid : d.getD i false = false := getD_both hiu
    have hisz : i < d.size := by rw [inv.head.size]; omega
    obtain ⟨v, hv⟩ : ∃ v, vs[i]? = some v := ⟨_, List.getElem?_eq_getElem (by omega)⟩
    obtain ⟨m, hm⟩ : ∃ m, ms[i]? = some m := ⟨_, List.getElem?_eq_getElem (by omega)⟩
    obtain ⟨htA, hvA⟩ := hA i o v t hin ho hv hO.dst
    have hQ := hq.get (k := i) (by rw [List.getElem?_take_of_lt hin]; simpa using ho) hv hm
    have hexec : execOp a.eval o = execOp A.eval o := by
      refine execOp_congr o (fun cs b => Region.noSelect_spec hsel i o cs b ho) (fun x hx => eval_agree (fun u hu => inv.slot u (fun k p hk hp hpu => ?_)))
      have hlook : u ∈ o.looksAt ops := by
        subst hu
        exact List.mem_append_left _ (List.mem_filterMap.2 ⟨.tmp u, by simpa using hx, rfl⟩)
      obtain ⟨g1, e, he, hb, hon⟩ := hO.looks k p u hk hp hpu hlook
      exact ⟨hon ▸ hiall e he hb, g1⟩
    have hcnt : cntU (d.setIfInBounds i true) n = f := by
      obtain ⟨h1, h2⟩ := cntU_set hisz hid (n := n)
      rw [h1, if_pos hin]; omega
    have hdset : ∀ k, (d.setIfInBounds i true).getD k false = true → k = i ∨ d.getD k false = true := fun k hk => by
      by_cases hki : i = k
      · exact .inl hki.symm
      · rw [getD_set_ne false hki] at hk; exact .inr hk
    -- the frame behind it
    have hput : ∀ (u : Value) (s : Tmp), (a.put o.dst u).tmps[s]? = if s = t then some u else a.tmps[s]? := by
      intro u s
      rw [hO.dst]
      unfold Act.put
      simp only
      by_cases hst : s = t
      · subst hst
        rw [if_pos rfl]
        simp [inv.size, htA]
      · rw [if_neg hst, Array.getElem?_setIfInBounds_ne (fun e => hst e.symm)]
    have hnew : ∀ (u : Value) (w' : World) (G' : Nat → Nat), Below w.heap.size w w' → (m = none → u = v) → (∀ ob, m = some ob → u = .pointer (some ⟨w.heap.size, 0, none⟩) ∧ w'.heap[w.heap.size]? = some ob ∧ G' i = w.heap.size) → (∀ k, k ≠ i → G' k = G k) →
        PInv W ops n ms A G' (d.setIfInBounds i true) (a.put o.dst u) w' := by
      intro u w' G' hb hu hal hGk
      refine ⟨inv.head.set hi hin, inv.bel.trans (hb.mono inv.bel.size), by rw [(put_size _ _ _).2]; exact inv.defers, by rw [(put_size _ _ _).1]; exact inv.size, ?_, ?_, ?_⟩
      · intro s hs'
        rw [hput]
        by_cases hst : s = t
        · rw [if_pos hst]
          obtain ⟨_, g2⟩ := hs' i o hin ho (by rw [hst]; exact hO.dst)
          have hmn : m = none := by rw [hm] at g2; exact Option.some.inj g2
          rw [hu hmn, hst, hvA g2]
        · rw [if_neg hst]
          refine inv.slot s (fun k p hk hp hps => ?_)
          obtain ⟨g1, g2⟩ := hs' k p hk hp hps
          rcases hdset k g1 with e | e
          · exfalso
            subst e
            have : p = o := Option.some.inj (hp.symm.trans ho)
            rw [this, hO.dst] at hps
            exact hst (Option.some.inj hps).symm
          · exact ⟨e, g2⟩
      · intro k p s ob hk hp hps hmk hdk
        by_cases hki : k = i
        · subst hki
          have hpo : p = o := Option.some.inj (hp.symm.trans ho)
          rw [hm] at hmk
          obtain ⟨g1, g2, g3⟩ := hal ob (Option.some.inj hmk)
          rw [hpo, hO.dst] at hps
          have hst : s = t := (Option.some.inj hps).symm
          rw [hput, if_pos hst, g1, g3]
          exact ⟨rfl, inv.bel.size, g2⟩
        · have hdk' : d.getD k false = true := (hdset k hdk).resolve_left hki
          obtain ⟨g1, g2, g3⟩ := inv.al k p s ob hk hp hps hmk hdk'
          have hne := hO.apart k p s hk hp hps hki
          rw [hput, if_neg hne, hGk k hki]
          exact ⟨g1, g2, heap_keep g3 hb⟩
      · intro k j ob ob' hk hj hmk hmj hdk hdj hkj
        have low : ∀ q obq, q < n → ms[q]? = some (some obq) → d.getD q false = true → G q < w.heap.size := fun q obq hqn hmq hdq => by
          obtain ⟨p, s, hp, hP⟩ := hok q hqn
          obtain ⟨_, _, g3⟩ := inv.al q p s obq hqn hp hP.dst hmq hdq
          exact (Array.getElem?_eq_some_iff.1 g3).1
        by_cases hki : k = i
        · have hji : j ≠ i := fun e => hkj (hki.trans e.symm)
          have hdj' := (hdset j hdj).resolve_left hji
          have h1 := low j ob' hj hmj hdj'
          rw [hki] at hmk
          rw [hm] at hmk
          obtain ⟨_, _, g3⟩ := hal ob (Option.some.inj hmk)
          rw [hki, g3, hGk j hji]
          omega
        · have hdk' := (hdset k hdk).resolve_left hki
          by_cases hji : j = i
          · have h1 := low k ob hk hmk hdk'
            rw [hji] at hmj
            rw [hm] at hmj
            obtain ⟨_, _, g3⟩ := hal ob' (Option.some.inj hmj)
            rw [hji, g3, hGk k hki]
            omega
          · rw [hGk k hki, hGk j hji]
            exact inv.ne k j ob ob' hk hj hmk hmj hdk' ((hdset j hdj).resolve_left hji) hkj
    unfold wpOp
    rw [ho]
    simp only
    have hw : Region.wanted o (yielded ops a.tmps) = true := by unfold Region.wanted; rw [hO.guard]
    rw [if_pos hw]
    refine .inl ?_
    unfold Oper.wp
    rw [hexec]
    cases m with
    | none =>
      have h1 := hQ w inv.bel
      rcases h1 with h1 | ⟨fn, args, h1, h2⟩
      · rw [h1]
        exact ih _ _ _ G (hnew v w G (Below.refl _ _) (fun _ => rfl) (fun ob h => by cases h) (fun _ _ => rfl)) hcnt
      · rw [h1]
        refine h2.mono (fun e w' h => ?_)
        obtain ⟨rfl, hb⟩ := h
        exact ih _ _ _ G (hnew v w' G hb (fun _ => rfl) (fun ob h => by cases h) (fun _ _ => rfl)) hcnt
    | some ob =>
      rw [hQ w]
      refine ih _ _ _ (fun k => if k = i then w.heap.size else G k) (hnew _ _ _ ((Below.refl _ _).alloc (Nat.le_refl _) _) (fun h => by cases h) (fun ob' h => ?_) (fun k hk => if_neg hk)) hcnt
      cases h
      exact ⟨rfl, heap_new w ob, if_pos rfl⟩
theorem putG_size (G : Nat → Nat) : ∀ (os : List Oper) (ms : List (Option Obj)) (a : Act) (k : Nat), (putG G a os ms k).tmps.size = a.tmps.size ∧ (putG G a os ms k).defers = a.defers
  | [], _, a, k => ⟨rfl, rfl⟩
  | _ :: _, [], a, k => ⟨rfl, rfl⟩
  | o :: os, none :: ms, a, k => putG_size G os ms a (k + 1)
  | o :: os, some ob :: ms, a, k => by
    obtain ⟨h1, h2⟩ := putG_size G os ms (a.put o.dst (.pointer (some ⟨G k, 0, none⟩))) (k + 1)
    obtain ⟨g1, g2⟩ := put_size a o.dst (.pointer (some ⟨G k, 0, none⟩))
    exact ⟨h1.trans g1, h2.trans g2⟩
theorem put_get (a : Act) (o : Oper) (v : Value) (t : Tmp) (h : o.dst ≠ some t) : (a.put o.dst v).tmps[t]? = a.tmps[t]? := by
  unfold Act.put
  split
  · rename_i d hd
    rw [hd] at h
    simp only
    rw [Array.getElem?_setIfInBounds_ne (fun e => h (by rw [e]))]
  · rfl
theorem putG_get (G : Nat → Nat) : ∀ (os : List Oper) (ms : List (Option Obj)) (a : Act) (k : Nat) (t : Tmp), (∀ (j : Nat) (o : Oper) (ob : Obj), os[j]? = some o → ms[j]? = some (some ob) → o.dst ≠ some t) → (putG G a os ms k).tmps[t]? = a.tmps[t]?
  | [], _, a, k, t, _ => rfl
  | _ :: _, [], a, k, t, _ => rfl
  | o :: os, none :: ms, a, k, t, h => putG_get G os ms a (k + 1) t (fun j p ob hp hm => h (j + 1) p ob (by simpa using hp) (by simpa using hm))
  | o :: os, some ob :: ms, a, k, t, h => by
    refine (putG_get G os ms _ (k + 1) t (fun j p ob' hp hm => h (j + 1) p ob' (by simpa using hp) (by simpa using hm))).trans ?_
    exact put_get _ _ _ _ (h 0 o ob rfl rfl)
theorem putG_at (G : Nat → Nat) : ∀ (os : List Oper) (ms : List (Option Obj)) (a : Act) (k j : Nat) (o : Oper) (ob : Obj) (t : Tmp), os[j]? = some o → ms[j]? = some (some ob) → o.dst = some t → t < a.tmps.size → (∀ i p, os[i]? = some p → i ≠ j → p.dst ≠ some t) → (putG G a os ms k).tmps[t]? = some (.pointer (some ⟨G (k + j), 0, none⟩))
  | [], _, a, k, j, o, ob, t, h, _, _, _, _ => by simp at h
  | _ :: _, [], a, k, j, o, ob, t, _, h, _, _, _ => by simp at h
  | o :: os, none :: ms, a, k, 0, _, _, t, h1, h2, _, _, _ => by simp at h2
  | o :: os, some ob :: ms, a, k, 0, _, _, t, h1, h2, h3, h4, h5 => by
    cases h1
    refine (putG_get G os ms _ (k + 1) t (fun j p ob' hp hm => h5 (j + 1) p (by simpa using hp) (by omega))).trans ?_
    unfold Act.put
    rw [h3]
    simp [h4]
  | o :: os, none :: ms, a, k, j + 1, p, ob, t, h1, h2, h3, h4, h5 => by
    have := putG_at G os ms a (k + 1) j p ob t (by simpa using h1) (by simpa using h2) h3 h4 (fun i q hq hne => h5 (i + 1) q (by simpa using hq) (by omega))
    rw [show k + (j + 1) = k + 1 + j by omega]
    exact this
  | o :: os, some ob' :: ms, a, k, j + 1, p, ob, t, h1, h2, h3, h4, h5 => by
    have := putG_at G os ms (a.put o.dst (.pointer (some ⟨G k, 0, none⟩))) (k + 1) j p ob t (by simpa using h1) (by simpa using h2) h3 (by rw [(put_size _ _ _).1]; exact h4) (fun i q hq hne => h5 (i + 1) q (by simpa using hq) (by omega))
    rw [show k + (j + 1) = k + 1 + j by omega]
    exact this
theorem cntU_le (d : Array Bool) : ∀ n, cntU d n ≤ n
  | 0 => Nat.le_refl _
  | n + 1 => by
    have := cntU_le d n
    simp only [cntU]
    split <;> omega
theorem act_ext {a b : Act} (h1 : a.defers = b.defers) (h2 : a.tmps.size = b.tmps.size) (h3 : ∀ t : Nat, a.tmps[t]? = b.tmps[t]?) : a = b := by
  cases a; cases b
  simp only at h1 h2 h3
  subst h1
  congr 1
  exact Array.ext_getElem? h3
/-- What is so of the new blocks. -/
def GOk (W : World) (ms : List (Option Obj)) (G : Nat → Nat) (w : World) : Prop :=
  (∀ k ob, ms[k]? = some (some ob) → W.heap.size ≤ G k ∧ w.heap[G k]? = some ob) ∧ (∀ k j ob ob', ms[k]? = some (some ob) → ms[j]? = some (some ob') → k ≠ j → G k ≠ G j)
/-- The first n operations in whatever order; what comes last has one order only. -/
theorem qRegionPt {id : Nat} {R : Exit → Act → World → Prop} {a : Act} {w : World} {l : List Oper} (n : Nat) (vs : List Value) (ms : List (Option Obj)) (hm : P.follows .mixedOrders = true) (hB : ptB l.toArray n ms = true)
    (hvs : vs.length = n) (hms : ms.length = n) (hsz : (l.take n).all (fun o => match o.dst with | some t => decide (t < a.tmps.size) | none => true) = true)
    (hq : QOps P w (putL a (l.take n) vs) (l.take n) vs ms)
    (h : ∀ (G : Nat → Nat) w', Below w.heap.size w w' → GOk w ms G w' → wpList P l.toArray R (l.drop n) (putG G (putL a (l.take n) vs) (l.take n) ms 0) w') : (Code.region id l.toArray true).wp P R a w := by
  refine wp_region_any hm ?_
  have hB' := hB
  unfold ptB at hB'
  simp only [Bool.and_eq_true, decide_eq_true_eq] at hB'
  obtain ⟨⟨⟨⟨⟨hsel, hn⟩, hs⟩, hc⟩, hseq⟩, hops⟩ := hB'
  have hok : ∀ i, i < n → ∃ o t, l.toArray[i]? = some o ∧ OpOk l.toArray n ms i o t := fun i hi => opB_spec (List.all_eq_true.1 hops i (List.mem_range.2 hi))
  have htk : ∀ i o, i < n → l.toArray[i]? = some o → (l.take n)[i]? = some o := fun i o hi ho => by
    rw [List.getElem?_take_of_lt hi]; simpa using ho
  have htk2 : ∀ i o, (l.take n)[i]? = some o → i < n ∧ l.toArray[i]? = some o := fun i o ho => by
    have hi : i < n := by
      have := (List.getElem?_eq_some_iff.1 ho).1
      rw [List.length_take] at this; omega
    rw [List.getElem?_take_of_lt hi] at ho
    exact ⟨hi, by simpa using ho⟩
  have hbd : ∀ k o t, k < n → l.toArray[k]? = some o → o.dst = some t → t < a.tmps.size := fun k o t hk ho ht => by
    have := List.all_eq_true.1 hsz o (List.mem_of_getElem? (htk k o hk ho))
    rw [ht] at this
    simpa using this
  have hsize := putL_size (l.take n) vs a
  have hA : ∀ k o v t, k < n → l.toArray[k]? = some o → vs[k]? = some v → o.dst = some t → t < (putL a (l.take n) vs).tmps.size ∧ (ms[k]? = some none → (putL a (l.take n) vs).tmps[t]? = some v) := fun k o v t hk ho hv ht => by
    refine ⟨by rw [hsize.1]; exact hbd k o t hk ho ht, fun _ => putL_at _ _ a k o v t (htk k o hk ho) hv ht (hbd k o t hk ho ht) (fun j p hp hne e => ?_)⟩
    obtain ⟨hj, hp'⟩ := htk2 j p hp
    obtain ⟨o', t', ho', hO⟩ := hok k hk
    have e1 : o' = o := Option.some.inj (ho'.symm.trans ho)
    have e2 : t' = t := by have := hO.dst; rw [e1, ht] at this; exact (Option.some.inj this).symm
    exact hO.apart j p t hj hp' e hne e2.symm
  have hmain := region_pt (W := w) (R := R) (vs := vs) hB (by simpa using hq) hvs hms hA (fun a' w' G inv => by
    have hend := h G w' inv.bel
    have hall : ∀ k, k < n → (allB l.toArray.size n).getD k false = true := fun k hk => by
      unfold allB
      simp [Array.getElem?_append, hk]
    have hg : GOk w ms G w' := by
      refine ⟨fun k ob hk => ?_, fun k j ob ob' hk hj hne => ?_⟩
      · have hkn : k < n := by have := (List.getElem?_eq_some_iff.1 hk).1; omega
        obtain ⟨o, t, ho, hO⟩ := hok k hkn
        exact (inv.al k o t ob hkn ho hO.dst hk (hall k hkn)).2
      · have hkn : k < n := by have := (List.getElem?_eq_some_iff.1 hk).1; omega
        have hjn : j < n := by have := (List.getElem?_eq_some_iff.1 hj).1; omega
        exact inv.ne k j ob ob' hkn hjn hk hj (hall k hkn) (hall j hjn) hne
    have e : a' = putG G (putL a (l.take n) vs) (l.take n) ms 0 := by
      have hgs := putG_size G (l.take n) ms (putL a (l.take n) vs) 0
      refine act_ext (inv.defers.trans hgs.2.symm) (inv.size.trans hgs.1.symm) (fun t => ?_)
      by_cases hx : ∃ (j : Nat) (o : Oper) (ob : Obj), (l.take n)[j]? = some o ∧ ms[j]? = some (some ob) ∧ o.dst = some t
      · obtain ⟨j, o, ob, hj, hmj, hot⟩ := hx
        obtain ⟨hjn, hj'⟩ := htk2 j o hj
        rw [(inv.al j o t ob hjn hj' hot hmj (hall j hjn)).1]
        have := putG_at G (l.take n) ms (putL a (l.take n) vs) 0 j o ob t hj hmj hot (by rw [hsize.1]; exact hbd j o t hjn hj' hot) (fun i p hp hne e => by
          obtain ⟨hi, hp'⟩ := htk2 i p hp
          obtain ⟨o', t', ho', hO⟩ := hok j hjn
          have e1 : o' = o := Option.some.inj (ho'.symm.trans hj')
          have e2 : t' = t := by have := hO.dst; rw [e1, hot] at this; exact (Option.some.inj this).symm
          exact hO.apart i p t hi hp' e hne e2.symm)
        rw [this, Nat.zero_add]
      · rw [putG_get G (l.take n) ms _ 0 t (fun j o ob hj hmj hot => hx ⟨j, o, ob, hj, hmj, hot⟩)]
        refine inv.slot t (fun k o hk ho hot => ⟨hall k hk, ?_⟩)
        cases hmk : ms[k]? with
        | none =>
          rw [List.getElem?_eq_none_iff] at hmk
          omega
        | some m =>
          cases m with
          | none => rfl
          | some ob => exact absurd ⟨k, o, ob, htk k o hk ho, hmk, hot⟩ hx
    rw [e]
    simpa using hend hg)
  have inv0 : PInv w l.toArray n ms (putL a (l.take n) vs) (fun _ => 0) (Array.replicate l.toArray.size false) a { w with drawn := w.drawn + 1 } := by
    refine ⟨⟨by simp, fun j oj _ hj => (by rw [getD_replicate_false] at hj; cases hj), fun t _ ht => getD_in (by simpa using ht) (getD_replicate_false _ _)⟩, (Below.refl _ _).drew, hsize.2.symm, hsize.1.symm, ?_, ?_, ?_⟩
    · intro t ht
      refine (putL_get _ _ a t (fun o ho e => ?_)).symm
      obtain ⟨j, hj⟩ := List.getElem?_of_mem ho
      obtain ⟨hjn, hj'⟩ := htk2 j o hj
      have := (ht j o hjn hj' e).1
      rw [getD_replicate_false] at this
      cases this
    · intro k o t ob _ _ _ _ hd
      rw [getD_replicate_false] at hd; cases hd
    · intro k j ob ob' _ _ _ _ hd
      rw [getD_replicate_false] at hd; cases hd
  have := hmain _ _ a _ _ inv0 rfl
  refine wpAny_le ?_ this
  have := cntU_le (Array.replicate l.toArray.size false) n
  omega
end
end Go.Proofs.YtidgicbhgnbidaaGreatDoor

/- A region that draws its order and has calls and stores that come in a chain beside loads and new blocks: each operation is looked at once; the world's class goes on from stage to stage. No program in sight. -/
namespace Go.Proofs.YtidgicbhgnbidaaGreatDoor
open Go.RowKit

/-- New blocks stay. -/
def GrN (W w w' : World) : Prop := w.heap.size ≤ w'.heap.size ∧ ∀ b, W.heap.size ≤ b → b < w.heap.size → w'.heap[b]? = w.heap[b]?
theorem GrN.refl (W w : World) : GrN W w w := ⟨Nat.le_refl _, fun _ _ _ => rfl⟩
theorem GrN.alloc (W w : World) (o : Obj) : GrN W w (w.alloc o) := ⟨by simp, fun b _ h => Below.heap_alloc _ _ _ h⟩
def hasE (o : Oper) (k : Nat) : Bool := o.after.any (fun e => Region.binds .any e && e.on == k)
theorem hasE_spec {o : Oper} {k : Nat} (h : hasE o k = true) : ∃ e ∈ o.after, Region.binds .any e = true ∧ e.on = k := by
  obtain ⟨j, hj, hj2⟩ := Array.any_eq_true.1 h
  simp only [Bool.and_eq_true, beq_iff_eq] at hj2
  exact ⟨_, Array.getElem_mem hj, hj2.1, hj2.2⟩
/-- What an operation lays: the memory, and its value for the block's number. -/
abbrev Laid := Option (Obj × (Nat → Value))
def putH (G : Nat → Nat) : Act → List Oper → List Laid → Nat → Act
  | a, o :: os, m :: ms, k => putH G (match m with | none => a | some m => a.put o.dst (m.2 (G k))) os ms (k + 1)
  | a, _, _, _ => a
theorem putH_size (G : Nat → Nat) : ∀ (os : List Oper) (ms : List Laid) (a : Act) (k : Nat), (putH G a os ms k).tmps.size = a.tmps.size ∧ (putH G a os ms k).defers = a.defers
  | [], _, a, k => ⟨rfl, rfl⟩
  | _ :: _, [], a, k => ⟨rfl, rfl⟩
  | o :: os, none :: ms, a, k => putH_size G os ms a (k + 1)
  | o :: os, some m :: ms, a, k => by
    obtain ⟨h1, h2⟩ := putH_size G os ms (a.put o.dst (m.2 (G k))) (k + 1)
    obtain ⟨g1, g2⟩ := put_size a o.dst (m.2 (G k))
    exact ⟨h1.trans g1, h2.trans g2⟩
theorem putH_get (G : Nat → Nat) : ∀ (os : List Oper) (ms : List Laid) (a : Act) (k : Nat) (t : Tmp), (∀ (j : Nat) (o : Oper) (m : Obj × (Nat → Value)), os[j]? = some o → ms[j]? = some (some m) → o.dst ≠ some t) → (putH G a os ms k).tmps[t]? = a.tmps[t]?
  | [], _, a, k, t, _ => rfl
  | _ :: _, [], a, k, t, _ => rfl
  | o :: os, none :: ms, a, k, t, h => putH_get G os ms a (k + 1) t (fun j p ob hp hm => h (j + 1) p ob (by simpa using hp) (by simpa using hm))
  | o :: os, some m :: ms, a, k, t, h => by
    refine (putH_get G os ms _ (k + 1) t (fun j p ob' hp hm => h (j + 1) p ob' (by simpa using hp) (by simpa using hm))).trans ?_
    exact put_get _ _ _ _ (h 0 o m rfl rfl)
theorem putH_at (G : Nat → Nat) : ∀ (os : List Oper) (ms : List Laid) (a : Act) (k j : Nat) (o : Oper) (m : Obj × (Nat → Value)) (t : Tmp), os[j]? = some o → ms[j]? = some (some m) → o.dst = some t → t < a.tmps.size → (∀ i p, os[i]? = some p → i ≠ j → p.dst ≠ some t) → (putH G a os ms k).tmps[t]? = some (m.2 (G (k + j)))
  | [], _, a, k, j, o, ob, t, h, _, _, _, _ => by simp at h
  | _ :: _, [], a, k, j, o, ob, t, _, h, _, _, _ => by simp at h
  | o :: os, none :: ms, a, k, 0, _, _, t, h1, h2, _, _, _ => by simp at h2
  | o :: os, some m :: ms, a, k, 0, _, _, t, h1, h2, h3, h4, h5 => by
    cases h1
    cases h2
    refine (putH_get G os ms _ (k + 1) t (fun j p ob' hp hm => h5 (j + 1) p (by simpa using hp) (by omega))).trans ?_
    unfold Act.put
    rw [h3]
    simp [h4]
  | o :: os, none :: ms, a, k, j + 1, p, ob, t, h1, h2, h3, h4, h5 => by
    have := putH_at G os ms a (k + 1) j p ob t (by simpa using h1) (by simpa using h2) h3 h4 (fun i q hq hne => h5 (i + 1) q (by simpa using hq) (by omega))
    rw [show k + (j + 1) = k + 1 + j by omega]
    exact this
  | o :: os, some m' :: ms, a, k, j + 1, p, ob, t, h1, h2, h3, h4, h5 => by
    have := putH_at G os ms (a.put o.dst (m'.2 (G k))) (k + 1) j p ob t (by simpa using h1) (by simpa using h2) h3 (by rw [(put_size _ _ _).1]; exact h4) (fun i q hq hne => h5 (i + 1) q (by simpa using hq) (by omega))
    rw [show k + (j + 1) = k + 1 + j by omega]
    exact this
/-- The new blocks that an operation may look at. -/
def LkOk (W w : World) (o : Oper) (ms : List Laid) (G : Nat → Nat) : Prop := ∀ k ob f, ms[k]? = some (some (ob, f)) → hasE o k = true → W.heap.size ≤ G k ∧ w.heap[G k]? = some ob
def StepSt (P : Program) (W : World) (a : Act) (o : Oper) (w : World) (v : Value) (K' : World → Prop) : Prop :=
  (∃ w', (execOp a.eval o).run P w = .ok (.value v) w' ∧ K' w' ∧ GrN W w w') ∨ (∃ f args, (execOp a.eval o).run P w = .ok (.enter f args) w ∧ Calls P f args w (fun e w' => e = .returned v ∧ K' w' ∧ GrN W w w')) ∨ ∃ w', (execOp a.eval o).run P w = .ok .skip w' ∧ o.dst = none ∧ K' w' ∧ GrN W w w'
def OneSt (P : Program) (W : World) (K : Nat → World → Prop) (A : Act) (l : List Oper) (ms : List Laid) (o : Oper) (v : Value) (m : Laid) (c b : Nat) : Prop :=
  ∀ (G : Nat → Nat) (s : Nat) (w : World), K s w → LkOk W w o ms G →
    match m with
    | some ob => c = 0 → s ≤ b → (execOp (putH G A l ms 0).eval o).run P w = .ok (.value (ob.2 w.heap.size)) (w.alloc ob.1)
    | none => if 0 < c then (s + 1 = c → StepSt P W (putH G A l ms 0) o w v (K c)) else (s ≤ b → StepSt P W (putH G A l ms 0) o w v (K s))
def AllSt (P : Program) (W : World) (K : Nat → World → Prop) (A : Act) (l : List Oper) (ms0 : List Laid) : List Oper → List Value → List Laid → List Nat → List Nat → Prop
  | o :: os, v :: vs, m :: ms, c :: cs, b :: bs => OneSt P W K A l ms0 o v m c b ∧ AllSt P W K A l ms0 os vs ms cs bs
  | _, _, _, _, _ => True
theorem AllSt.get {P : Program} {W : World} {K : Nat → World → Prop} {A : Act} {l : List Oper} {ms0 : List Laid} : ∀ {os : List Oper} {vs : List Value} {ms : List Laid} {cs bs : List Nat} {k : Nat} {o : Oper} {v : Value} {m : Laid} {c b : Nat}, AllSt P W K A l ms0 os vs ms cs bs → os[k]? = some o → vs[k]? = some v → ms[k]? = some m → cs[k]? = some c → bs[k]? = some b → OneSt P W K A l ms0 o v m c b
  | o :: os, v :: vs, m :: ms, c :: cs, b :: bs, 0, _, _, _, _, _, h, h1, h2, h3, h4, h5 => by cases h1; cases h2; cases h3; cases h4; cases h5; exact h.1
  | o :: os, v :: vs, m :: ms, c :: cs, b :: bs, k + 1, _, _, _, _, _, h, h1, h2, h3, h4, h5 => AllSt.get h.2 h1 h2 h3 h4 h5
  | [], _, _, _, _, _, _, _, _, _, _, _, h1, _, _, _, _ => by simp at h1
  | _ :: _, [], _, _, _, _, _, _, _, _, _, _, _, h2, _, _, _ => by simp at h2
  | _ :: _, _ :: _, [], _, _, _, _, _, _, _, _, _, _, _, h3, _, _ => by simp at h3
  | _ :: _, _ :: _, _ :: _, [], _, _, _, _, _, _, _, _, _, _, _, h4, _ => by simp at h4
  | _ :: _, _ :: _, _ :: _, _ :: _, [], _, _, _, _, _, _, _, _, _, _, _, h5 => by simp at h5
/-- What the kernel looks at, an operation. -/
def opSt (ops : Array Oper) (ms : List Laid) (cs bs : List Nat) (cm i : Nat) : Bool :=
  match ops[i]?, ms[i]?, cs[i]?, bs[i]? with
  | some o, some m, some c, some b =>
    o.guard.isNone && o.after.all (fun e => !Region.binds .any e || decide (e.on < i)) && (o.dst.isSome || m.isNone) &&
      (List.range ops.size).all (fun k => match ops[k]? with
        | none => false
        | some p => (k == i || p.dst != o.dst || p.dst.isNone) && (match p.dst with
          | none => true
          | some t => !(o.looksAt ops).contains t || hasE o k) && (k == i || c == 0 || cs[k]? != some c)) &&
      (if c = 0 then decide (cm ≤ b) || (List.range ops.size).any (fun j => cs[j]? == some (b + 1) && (match ops[j]? with | some q => hasE q i | none => false))
       else m.isNone && decide (c ≤ cm) && (c == 1 || (List.range ops.size).any (fun j => cs[j]? == some (c - 1) && hasE o j)))
  | _, _, _, _ => false
def stB (ops : Array Oper) (ms : List Laid) (cs bs : List Nat) (cm : Nat) : Bool :=
  Region.noSelect ops && (List.range ops.size).all (opSt ops ms cs bs cm) && (cm == 0 || (List.range ops.size).any (fun j => cs[j]? == some cm))
structure OpSt (ops : Array Oper) (ms : List Laid) (cs bs : List Nat) (cm i : Nat) (o : Oper) (m : Laid) (c b : Nat) : Prop where
  guard : o.guard = none
  back : ∀ e ∈ o.after, Region.binds .any e = true → e.on < i
  dst : m ≠ none → ∃ t : Tmp, o.dst = some t
  apart : ∀ (k : Nat) (p : Oper) (t : Tmp), ops[k]? = some p → p.dst = some t → o.dst = some t → k = i
  looks : ∀ (k : Nat) (p : Oper) (u : Tmp), ops[k]? = some p → p.dst = some u → u ∈ o.looksAt ops → hasE o k = true
  alone : 0 < c → ∀ k : Nat, k < ops.size → cs[k]? = some c → k = i
  low : c = 0 → b < cm → ∃ (j : Nat) (q : Oper), ops[j]? = some q ∧ cs[j]? = some (b + 1) ∧ hasE q i = true
  high : 0 < c → m = none ∧ c ≤ cm ∧ (c = 1 ∨ ∃ j : Nat, j < ops.size ∧ cs[j]? = some (c - 1) ∧ hasE o j = true)
theorem opSt_spec {ops : Array Oper} {ms : List Laid} {cs bs : List Nat} {cm i : Nat} (h : opSt ops ms cs bs cm i = true) : ∃ o m c b, ops[i]? = some o ∧ ms[i]? = some m ∧ cs[i]? = some c ∧ bs[i]? = some b ∧ OpSt ops ms cs bs cm i o m c b := by
  unfold opSt at h
  split at h
  · rename_i o m c b ho hm hc hb
    simp only [Bool.and_eq_true] at h
    obtain ⟨⟨⟨⟨h1, h2⟩, h3⟩, h4⟩, h5⟩ := h
    refine ⟨o, m, c, b, ho, hm, hc, hb, Option.isNone_iff_eq_none.1 h1, ?_, ?_, ?_, ?_, ?_, ?_, ?_⟩
    · intro e he hbd
      have := Array.all_eq_true_iff_forall_mem.1 h2 e he
      rw [hbd] at this
      simpa using this
    · intro hne
      simp only [Bool.or_eq_true] at h3
      rcases h3 with h3 | h3
      · exact Option.isSome_iff_exists.1 h3
      · exact absurd (Option.isNone_iff_eq_none.1 h3) hne
    · intro k p t hp hpt hot
      have hk : k < ops.size := (Array.getElem?_eq_some_iff.1 hp).1
      have := List.all_eq_true.1 h4 k (List.mem_range.2 hk)
      rw [hp] at this
      simp only [Bool.and_eq_true, Bool.or_eq_true, beq_iff_eq, bne_iff_ne] at this
      rcases this.1.1 with (g | g) | g
      · exact g
      · exact absurd (hpt.trans hot.symm) g
      · rw [hpt] at g; cases g
    · intro k p u hp hpu hm'
      have hk : k < ops.size := (Array.getElem?_eq_some_iff.1 hp).1
      have := List.all_eq_true.1 h4 k (List.mem_range.2 hk)
      rw [hp] at this
      simp only [hpu, Bool.and_eq_true, Bool.or_eq_true, Bool.not_eq_true'] at this
      rcases this.1.2 with g | g
      · rw [List.contains_iff_mem.2 hm'] at g; cases g
      · exact g
    · intro hc0 k hk hck
      have := List.all_eq_true.1 h4 k (List.mem_range.2 hk)
      rw [Array.getElem?_eq_getElem hk] at this
      simp only [Bool.and_eq_true, Bool.or_eq_true, beq_iff_eq, bne_iff_ne] at this
      rcases this.2 with (g | g) | g
      · exact g
      · omega
      · exact absurd hck g
    · intro hc0 hbc
      rw [if_pos hc0] at h5
      simp only [Bool.or_eq_true, decide_eq_true_eq] at h5
      rcases h5 with h5 | h5
      · omega
      · obtain ⟨j, hj, hj2⟩ := List.any_eq_true.1 h5
        simp only [Bool.and_eq_true, beq_iff_eq] at hj2
        cases hq : ops[j]? with
        | none => rw [hq] at hj2; cases hj2.2
        | some q => rw [hq] at hj2; exact ⟨j, q, hq, hj2.1, hj2.2⟩
    · intro hc0
      rw [if_neg (by omega)] at h5
      simp only [Bool.and_eq_true, Bool.or_eq_true, beq_iff_eq, decide_eq_true_eq] at h5
      obtain ⟨⟨g1, g2⟩, g3⟩ := h5
      refine ⟨Option.isNone_iff_eq_none.1 g1, g2, ?_⟩
      rcases g3 with g3 | g3
      · exact .inl g3
      · obtain ⟨j, hj, hj2⟩ := List.any_eq_true.1 g3
        simp only [Bool.and_eq_true, beq_iff_eq] at hj2
        exact .inr ⟨j, List.mem_range.1 hj, hj2.1, hj2.2⟩
  · cases h
structure SInv (W : World) (K : Nat → World → Prop) (ops : Array Oper) (ms : List Laid) (cs : List Nat) (cm : Nat) (A : Act) (G : Nat → Nat) (d : Array Bool) (a : Act) (w : World) (s : Nat) : Prop where
  dsize : d.size = ops.size
  closed : ∀ j oj, ops[j]? = some oj → d.getD j false = true → ∀ e ∈ oj.after, Region.binds .any e = true → d.getD e.on false = true
  st : K s w ∧ s ≤ cm ∧ ∀ i c, i < ops.size → cs[i]? = some c → 0 < c → (d.getD i false = true ↔ c ≤ s)
  defers : a.defers = A.defers
  size : a.tmps.size = A.tmps.size
  hsize : W.heap.size ≤ w.heap.size
  slot : ∀ t, (∀ k o, ops[k]? = some o → o.dst = some t → d.getD k false = true ∧ ms[k]? = some none) → a.tmps[t]? = A.tmps[t]?
  al : ∀ k o t ob, ops[k]? = some o → o.dst = some t → ms[k]? = some (some ob) → d.getD k false = true → a.tmps[t]? = some (ob.2 (G k)) ∧ W.heap.size ≤ G k ∧ w.heap[G k]? = some ob.1
section
variable {P : Program} {W : World} {K : Nat → World → Prop} {ops : Array Oper} {vs : List Value} {ms : List Laid} {cs bs : List Nat} {cm : Nat} {A : Act}
theorem cntU_pos {d : Array Bool} : ∀ {n : Nat} {k : Nat}, k < n → d.getD k false = false → 0 < cntU d n
  | 0, k, h, _ => by omega
  | n + 1, k, h, hk => by
    simp only [cntU]
    rcases Nat.lt_or_eq_of_le (Nat.le_of_lt_succ h) with h1 | h1
    · have := cntU_pos (d := d) h1 hk
      omega
    · subst h1
      rw [hk]
      simp
theorem region_st {R : Exit → Act → World → Prop} (hB : stB ops ms cs bs cm = true) (hq : AllSt P W K A ops.toList ms ops.toList vs ms cs bs) (hvs : vs.length = ops.size) (hms : ms.length = ops.size)
    (hKa : ∀ s w o, K s w → K s (w.alloc o)) (hA : ∀ (k : Nat) (o : Oper) (v : Value) (t : Tmp), ops[k]? = some o → vs[k]? = some v → o.dst = some t → t < A.tmps.size ∧ (ms[k]? = some none → A.tmps[t]? = some v))
    (hend : ∀ a w G, K cm w → W.heap.size ≤ w.heap.size → (∀ k ob, ms[k]? = some (some ob) → W.heap.size ≤ G k ∧ w.heap[G k]? = some ob.1) → a = putH G A ops.toList ms 0 → R .normal a w) :
    ∀ (f : Nat) (d : Array Bool) (a : Act) (w : World) (G : Nat → Nat) (s : Nat), SInv W K ops ms cs cm A G d a w s → cntU d ops.size = f → wpAny P .any ops R f d a w := by
  unfold stB at hB
  simp only [Bool.and_eq_true] at hB
  obtain ⟨⟨hsel, hops⟩, hcm⟩ := hB
  have hok : ∀ i, i < ops.size → ∃ o m c b, ops[i]? = some o ∧ ms[i]? = some m ∧ cs[i]? = some c ∧ bs[i]? = some b ∧ OpSt ops ms cs bs cm i o m c b := fun i hi => opSt_spec (List.all_eq_true.1 hops i (List.mem_range.2 hi))
  -- what a frame holds where an operation looks
  have hfr : ∀ (G : Nat → Nat) (d : Array Bool) (a : Act) (w : World) (s : Nat), SInv W K ops ms cs cm A G d a w s → ∀ t, (∀ (k : Nat) (o : Oper), ops[k]? = some o → o.dst = some t → d.getD k false = true) → a.tmps[t]? = (putH G A ops.toList ms 0).tmps[t]? := by
    intro G d a w s inv t ht
    by_cases hx : ∃ (j : Nat) (o : Oper) (ob : Obj × (Nat → Value)), ops.toList[j]? = some o ∧ ms[j]? = some (some ob) ∧ o.dst = some t
    · obtain ⟨j, o, ob, hj, hmj, hot⟩ := hx
      have hj' : ops[j]? = some o := by simpa using hj
      rw [(inv.al j o t ob hj' hot hmj (ht j o hj' hot)).1]
      have hjn : j < ops.size := (Array.getElem?_eq_some_iff.1 hj').1
      obtain ⟨o', m', c', b', ho', _, _, _, hO⟩ := hok j hjn
      obtain rfl : o' = o := Option.some.inj (ho'.symm.trans hj')
      obtain ⟨v, hv⟩ : ∃ v, vs[j]? = some v := ⟨_, List.getElem?_eq_getElem (by omega)⟩
      have := putH_at G ops.toList ms A 0 j o' ob t hj hmj hot (hA j o' v t hj' hv hot).1 (fun i p hp hne e => hne (hO.apart i p t (by simpa using hp) e hot))
      rw [this, Nat.zero_add]
    · rw [putH_get G ops.toList ms A 0 t (fun j o ob hj hmj hot => hx ⟨j, o, ob, hj, hmj, hot⟩)]
      refine inv.slot t (fun k o hk hot => ⟨ht k o hk hot, ?_⟩)
      have hkn : k < ops.size := (Array.getElem?_eq_some_iff.1 hk).1
      obtain ⟨o', m', c', b', ho', hm', _⟩ := hok k hkn
      cases m' with
      | none => exact hm'
      | some ob => exact absurd ⟨k, o, ob, by simpa using hk, hm', hot⟩ hx
  intro f
  induction f with
  | zero =>
    intro d a w G s inv hcn
    have hall := cntU_zero hcn
    refine ⟨?_, ?_⟩
    · refine List.eq_nil_iff_forall_not_mem.2 (fun i hi => ?_)
      obtain ⟨h1, o, ho, _⟩ := mem_ready.1 hi
      have hi' : i < ops.size := (Array.getElem?_eq_some_iff.1 ho).1
      have h2 := hall i hi'
      rw [getD_both h1] at h2
      cases h2
    · refine hend a w G ?_ inv.hsize ?_ ?_
      · have hs : s = cm := by
          have hle := inv.st.2.1
          simp only [Bool.or_eq_true, beq_iff_eq] at hcm
          rcases hcm with h | h
          · omega
          · obtain ⟨j, hj, hj2⟩ := List.any_eq_true.1 h
            have hjn := List.mem_range.1 hj
            rcases Nat.eq_zero_or_pos cm with h0 | h0
            · omega
            · have := (inv.st.2.2 j cm hjn (by simpa using hj2) h0).1 (hall j hjn)
              omega
        exact hs ▸ inv.st.1
      · intro k ob hk
        rcases Nat.lt_or_ge k ops.size with hkn | hkn
        · obtain ⟨o, m, c, b, ho, hm, _, _, hO⟩ := hok k hkn
          obtain ⟨t, ht⟩ := hO.dst (by rw [hk] at hm; rw [← Option.some.inj hm]; simp)
          exact (inv.al k o t ob ho ht hk (hall k hkn)).2
        · have := (List.getElem?_eq_some_iff.1 hk).1
          omega
      · have hgs := putH_size G ops.toList ms A 0
        refine act_ext (inv.defers.trans hgs.2.symm) (inv.size.trans hgs.1.symm) (fun t => ?_)
        exact hfr G d a w s inv t (fun k o hk _ => hall k (Array.getElem?_eq_some_iff.1 hk).1)
  | succ f ih =>
    intro d a w G s inv hcn
    obtain ⟨k0, hk0, hk1, hk2⟩ := cntU_some (d := d) (n := ops.size) (by omega)
    have hr0 : k0 ∈ Region.ready .any ops d := by
      obtain ⟨o, m, c, b, ho, _, _, _, hO⟩ := hok k0 hk0
      exact mem_ready.2 ⟨getD_in (by rw [inv.dsize]; omega) hk1, o, ho, fun e he hb => hk2 _ (hO.back e he hb)⟩
    refine ⟨fun h => (by rw [h] at hr0; cases hr0), fun i hi => ?_⟩
    obtain ⟨hiu, oi, hoi, hiall⟩ := mem_ready.1 hi
    have hin : i < ops.size := (Array.getElem?_eq_some_iff.1 hoi).1
    obtain ⟨o, m, c, b, ho, hm, hc, hb, hO⟩ := hok i hin
    obtain rfl : o = oi := Option.some.inj (ho.symm.trans hoi)
    have hid : d.getD i false = false := getD_both hiu
    have hisz : i < d.size := by rw [inv.dsize]; omega
    obtain ⟨v, hv⟩ : ∃ v, vs[i]? = some v := ⟨_, List.getElem?_eq_getElem (by omega)⟩
    have hQ := hq.get (k := i) (by simpa using ho) hv hm hc hb G s w inv.st.1 (by
      intro k ob f hk he
      obtain ⟨e, he1, he2, he3⟩ := hasE_spec he
      have hkn : k < ops.size := by have := hO.back e he1 he2; omega
      obtain ⟨p, m', c', b', hp, hm', _, _, hP⟩ := hok k hkn
      obtain ⟨t, ht⟩ := hP.dst (by rw [hk] at hm'; rw [← Option.some.inj hm']; simp)
      exact (inv.al k p t (ob, f) hp ht hk (he3 ▸ hiall e he1 he2)).2)
    have hexec : execOp a.eval o = execOp (putH G A ops.toList ms 0).eval o := by
      refine execOp_congr o (fun cs b => Region.noSelect_spec hsel i o cs b ho) (fun x hx => eval_agree (fun u hu => hfr G d a w s inv u (fun k p hp hpu => ?_)))
      have hlook : u ∈ o.looksAt ops := by
        subst hu
        exact List.mem_append_left _ (List.mem_filterMap.2 ⟨.tmp u, by simpa using hx, rfl⟩)
      obtain ⟨e, he, hbd, hon⟩ := hasE_spec (hO.looks k p u hp hpu hlook)
      exact hon ▸ hiall e he hbd
    have hcnt : cntU (d.setIfInBounds i true) ops.size = f := by
      obtain ⟨h1, h2⟩ := cntU_set hisz hid (n := ops.size)
      rw [h1, if_pos hin]; omega
    have hdset : ∀ k, (d.setIfInBounds i true).getD k false = true → k = i ∨ d.getD k false = true := fun k hk => by
      by_cases hki : i = k
      · exact .inl hki.symm
      · rw [getD_set_ne false hki] at hk; exact .inr hk
    have hdmono : ∀ k, d.getD k false = true → (d.setIfInBounds i true).getD k false = true := fun k hk => by
      by_cases hki : i = k
      · subst hki; rw [hid] at hk; cases hk
      · rw [getD_set_ne false hki]; exact hk
    have hdsame : (d.setIfInBounds i true).getD i false = true := by simp [hisz]
    have hput : ∀ (u : Value) (q t : Tmp), o.dst = some t → t < A.tmps.size → (a.put o.dst u).tmps[q]? = if q = t then some u else a.tmps[q]? := by
      intro u q t hot htA
      rw [hot]
      unfold Act.put
      simp only
      by_cases hst : q = t
      · subst hst
        rw [if_pos rfl]
        simp [inv.size, htA]
      · rw [if_neg hst, Array.getElem?_setIfInBounds_ne (fun e => hst e.symm)]
    have hnew : ∀ (u : Value) (w' : World) (G' : Nat → Nat) (s' : Nat), GrN W w w' → K s' w' → s' ≤ cm → (∀ j c', j < ops.size → cs[j]? = some c' → 0 < c' → ((d.setIfInBounds i true).getD j false = true ↔ c' ≤ s')) → (m = none → u = v) →
        (∀ ob, m = some ob → u = ob.2 w.heap.size ∧ w'.heap[w.heap.size]? = some ob.1 ∧ G' i = w.heap.size) → (∀ k, k ≠ i → G' k = G k) →
        SInv W K ops ms cs cm A G' (d.setIfInBounds i true) (a.put o.dst u) w' s' := by
      intro u w' G' s' hg hK hscm hst hu hal hGk
      refine ⟨by rw [Array.size_setIfInBounds]; exact inv.dsize, ?_, ⟨hK, hscm, hst⟩, by rw [(put_size _ _ _).2]; exact inv.defers, by rw [(put_size _ _ _).1]; exact inv.size, Nat.le_trans inv.hsize hg.1, ?_, ?_⟩
      · intro j oj hj hdj e he hbd
        rcases hdset j hdj with e1 | e1
        · subst e1
          obtain rfl : oj = o := Option.some.inj (hj.symm.trans ho)
          exact hdmono _ (hiall e he hbd)
        · exact hdmono _ (inv.closed j oj hj e1 e he hbd)
      · intro q hs'
        by_cases hot : ∃ t, o.dst = some t
        · obtain ⟨t, hot⟩ := hot
          obtain ⟨htA, hvA⟩ := hA i o v t ho hv hot
          rw [hput u q t hot htA]
          by_cases hqt : q = t
          · rw [if_pos hqt]
            obtain ⟨_, g2⟩ := hs' i o ho (by rw [hqt]; exact hot)
            have hmn : m = none := by rw [hm] at g2; exact Option.some.inj g2
            rw [hu hmn, hqt, hvA g2]
          · rw [if_neg hqt]
            refine inv.slot q (fun k p hp hps => ?_)
            obtain ⟨g1, g2⟩ := hs' k p hp hps
            rcases hdset k g1 with e | e
            · exfalso
              subst e
              have : p = o := Option.some.inj (hp.symm.trans ho)
              rw [this, hot] at hps
              exact hqt (Option.some.inj hps).symm
            · exact ⟨e, g2⟩
        · have hdn : o.dst = none := by
            cases h : o.dst with
            | none => rfl
            | some t => exact absurd ⟨t, h⟩ hot
          rw [show (a.put o.dst u).tmps = a.tmps by rw [hdn]; rfl]
          refine inv.slot q (fun k p hp hps => ?_)
          obtain ⟨g1, g2⟩ := hs' k p hp hps
          rcases hdset k g1 with e | e
          · exfalso
            subst e
            have : p = o := Option.some.inj (hp.symm.trans ho)
            rw [this, hdn] at hps
            cases hps
          · exact ⟨e, g2⟩
      · intro k p t ob hp hps hmk hdk
        by_cases hki : k = i
        · subst hki
          have hpo : p = o := Option.some.inj (hp.symm.trans ho)
          rw [hm] at hmk
          obtain ⟨g1, g2, g3⟩ := hal ob (Option.some.inj hmk)
          rw [hpo] at hps
          rw [hput u t t hps (hA k o v t ho hv hps).1, if_pos rfl, g1, g3]
          exact ⟨rfl, inv.hsize, g2⟩
        · have hdk' : d.getD k false = true := (hdset k hdk).resolve_left hki
          obtain ⟨g1, g2, g3⟩ := inv.al k p t ob hp hps hmk hdk'
          have hlt := (Array.getElem?_eq_some_iff.1 g3).1
          have hne : (a.put o.dst u).tmps[t]? = a.tmps[t]? := put_get _ _ _ _ (fun e => hki (hO.apart k p t hp hps e))
          rw [hne, hGk k hki]
          exact ⟨g1, g2, (hg.2 _ g2 hlt).trans g3⟩
    -- the stage behind it
    have hstay : c = 0 → ∀ j c', j < ops.size → cs[j]? = some c' → 0 < c' → ((d.setIfInBounds i true).getD j false = true ↔ c' ≤ s) := by
      intro hc0 j c' hj hcj hpos
      have hji : i ≠ j := fun e => by subst e; rw [hc] at hcj; have := Option.some.inj hcj; omega
      rw [getD_set_ne false hji]
      exact inv.st.2.2 j c' hj hcj hpos
    have hsb : c = 0 → s ≤ b := by
      intro hc0
      rcases Nat.lt_or_ge b cm with hbc | hbc
      · obtain ⟨j, q, hq', hcj, hE⟩ := hO.low hc0 hbc
        rcases Nat.lt_or_ge b s with hlt | hge
        · exfalso
          have hj : j < ops.size := (Array.getElem?_eq_some_iff.1 hq').1
          have hdone := (inv.st.2.2 j (b + 1) hj hcj (by omega)).2 (by omega)
          obtain ⟨e, he1, he2, he3⟩ := hasE_spec hE
          have := inv.closed j q hq' hdone e he1 he2
          rw [he3, hid] at this
          cases this
        · exact hge
      · have := inv.st.2.1
        omega
    unfold wpOp
    rw [ho]
    simp only
    have hw : Region.wanted o (yielded ops a.tmps) = true := by unfold Region.wanted; rw [hO.guard]
    rw [if_pos hw]
    refine .inl ?_
    unfold Oper.wp
    rw [hexec]
    by_cases hc0 : c = 0
    · cases m with
      | some ob =>
        rw [hQ hc0 (hsb hc0)]
        refine ih _ _ _ (fun k => if k = i then w.heap.size else G k) s (hnew _ _ _ s (GrN.alloc _ _ _) (hKa _ _ _ inv.st.1) inv.st.2.1 (hstay hc0) (fun h => by cases h) (fun ob' h => ?_) (fun k hk => if_neg hk)) hcnt
        cases h
        exact ⟨rfl, heap_new w ob.1, if_pos rfl⟩
      | none =>
        simp only [hc0, Nat.lt_irrefl, if_false] at hQ
        rcases hQ (hsb hc0) with ⟨w', h1, h2, h3⟩ | ⟨fn, args, h1, h2⟩ | ⟨w', h1, hdn, h2, h3⟩
        · rw [h1]
          exact ih _ _ _ G s (hnew v w' G s h3 h2 inv.st.2.1 (hstay hc0) (fun _ => rfl) (fun ob h => by cases h) (fun _ _ => rfl)) hcnt
        · rw [h1]
          refine h2.mono (fun e w' h => ?_)
          obtain ⟨rfl, hk, hg⟩ := h
          exact ih _ _ _ G s (hnew v w' G s hg hk inv.st.2.1 (hstay hc0) (fun _ => rfl) (fun ob h => by cases h) (fun _ _ => rfl)) hcnt
        · rw [h1]
          have ea : a.put o.dst undef = a.put o.dst v := by rw [hdn]; rfl
          exact ih _ _ _ G s (by rw [ea]; exact hnew v w' G s h3 h2 inv.st.2.1 (hstay hc0) (fun _ => rfl) (fun ob h => by cases h) (fun _ _ => rfl)) hcnt
    · have hcp : 0 < c := by omega
      obtain ⟨hmn, hccm, hpre⟩ := hO.high hcp
      subst hmn
      have hnot : ¬ c ≤ s := fun h => by
        have := (inv.st.2.2 i c hin hc hcp).2 h
        rw [hid] at this; cases this
      have hs1 : s + 1 = c := by
        rcases hpre with h | ⟨j, hj, hcj, hE⟩
        · omega
        · rcases Nat.eq_zero_or_pos (c - 1) with h0 | h0
          · omega
          · obtain ⟨e, he1, he2, he3⟩ := hasE_spec hE
            have := (inv.st.2.2 j (c - 1) hj hcj h0).1 (he3 ▸ hiall e he1 he2)
            omega
      have hgo : ∀ j c', j < ops.size → cs[j]? = some c' → 0 < c' → ((d.setIfInBounds i true).getD j false = true ↔ c' ≤ c) := by
        intro j c' hj hcj hpos
        by_cases hji : i = j
        · subst hji
          rw [hc] at hcj
          have := Option.some.inj hcj
          exact ⟨fun _ => by omega, fun _ => hdsame⟩
        · rw [getD_set_ne false hji, inv.st.2.2 j c' hj hcj hpos]
          have hne : c' ≠ c := fun e => hji (hO.alone hcp j hj (e ▸ hcj)).symm
          omega
      simp only [hcp, if_true] at hQ
      rcases hQ hs1 with ⟨w', h1, h2, h3⟩ | ⟨fn, args, h1, h2⟩ | ⟨w', h1, hdn, h2, h3⟩
      · rw [h1]
        exact ih _ _ _ G c (hnew v w' G c h3 h2 hccm hgo (fun _ => rfl) (fun ob h => by cases h) (fun _ _ => rfl)) hcnt
      · rw [h1]
        refine h2.mono (fun e w' h => ?_)
        obtain ⟨rfl, hk, hg⟩ := h
        exact ih _ _ _ G c (hnew v w' G c hg hk hccm hgo (fun _ => rfl) (fun ob h => by cases h) (fun _ _ => rfl)) hcnt
      · rw [h1]
        have ea : a.put o.dst undef = a.put o.dst v := by rw [hdn]; rfl
        exact ih _ _ _ G c (by rw [ea]; exact hnew v w' G c h3 h2 hccm hgo (fun _ => rfl) (fun ob h => by cases h) (fun _ _ => rfl)) hcnt
/-- A region that draws, each operation looked at once. -/
theorem qRegionSt {id : Nat} {R : Exit → Act → World → Prop} {a : Act} {w : World} {l : List Oper} (K : Nat → World → Prop) (vs : List Value) (ms : List Laid) (cs bs : List Nat) (cm : Nat) (hm : P.follows .mixedOrders = true) (hB : stB l.toArray ms cs bs cm = true)
    (hvs : vs.length = l.length) (hms : ms.length = l.length) (hsz : l.all (fun o => match o.dst with | some t => decide (t < a.tmps.size) | none => true) = true)
    (hK0 : K 0 w.drew) (hKa : ∀ s w o, K s w → K s (w.alloc o))
    (hq : AllSt P w K (putL a l vs) l ms l vs ms cs bs)
    (h : ∀ (G : Nat → Nat) w', K cm w' → w.heap.size ≤ w'.heap.size → (∀ k ob, ms[k]? = some (some ob) → w.heap.size ≤ G k ∧ w'.heap[G k]? = some ob.1) → R .normal (putH G (putL a l vs) l ms 0) w') : (Code.region id l.toArray true).wp P R a w := by
  refine wp_region_any hm ?_
  have hB' := hB
  unfold stB at hB'
  simp only [Bool.and_eq_true] at hB'
  obtain ⟨⟨hsel, hops⟩, hcm⟩ := hB'
  have hok : ∀ i, i < l.toArray.size → ∃ o m c b, l.toArray[i]? = some o ∧ ms[i]? = some m ∧ cs[i]? = some c ∧ bs[i]? = some b ∧ OpSt l.toArray ms cs bs cm i o m c b := fun i hi => opSt_spec (List.all_eq_true.1 hops i (List.mem_range.2 hi))
  have hsize := putL_size l vs a
  have hbd : ∀ (k : Nat) (o : Oper) (t : Tmp), l.toArray[k]? = some o → o.dst = some t → t < a.tmps.size := fun k o t ho ht => by
    have := List.all_eq_true.1 hsz o (List.mem_of_getElem? (i := k) (by simpa using ho))
    rw [ht] at this
    simpa using this
  have hA : ∀ (k : Nat) (o : Oper) (v : Value) (t : Tmp), l.toArray[k]? = some o → vs[k]? = some v → o.dst = some t → t < (putL a l vs).tmps.size ∧ (ms[k]? = some none → (putL a l vs).tmps[t]? = some v) := fun k o v t ho hv ht => by
    refine ⟨by rw [hsize.1]; exact hbd k o t ho ht, fun _ => putL_at l vs a k o v t (by simpa using ho) hv ht (hbd k o t ho ht) (fun j p hp hne e => ?_)⟩
    obtain ⟨o', m', c', b', ho', _, _, _, hO⟩ := hok k (Array.getElem?_eq_some_iff.1 ho).1
    obtain rfl : o' = o := Option.some.inj (ho'.symm.trans ho)
    exact hne (hO.apart j p t (by simpa using hp) e ht)
  have hmain := region_st (R := R) (W := w) (K := K) hB (by simpa using hq) (by simpa using hvs) (by simpa using hms) hKa hA (fun a' w' G hk hs hG e => by rw [e]; exact h G w' hk hs hG)
  have inv0 : SInv w K l.toArray ms cs cm (putL a l vs) (fun _ => 0) (Array.replicate l.toArray.size false) a { w with drawn := w.drawn + 1 } 0 := by
    refine ⟨by simp, fun j oj _ hj => (by rw [getD_replicate_false] at hj; cases hj), ⟨hK0, Nat.zero_le _, fun i c _ _ hp => ⟨fun hd => (by rw [getD_replicate_false] at hd; cases hd), fun hd => by omega⟩⟩, hsize.2.symm, hsize.1.symm, Nat.le_refl _, ?_, ?_⟩
    · intro t ht
      refine (putL_get _ _ a t (fun o ho e => ?_)).symm
      obtain ⟨j, hj⟩ := List.getElem?_of_mem ho
      have := (ht j o (by simpa using hj) e).1
      rw [getD_replicate_false] at this
      cases this
    · intro k o t ob _ _ _ hd
      rw [getD_replicate_false] at hd; cases hd
  have := hmain _ _ a _ _ 0 inv0 rfl
  refine wpAny_le ?_ this
  exact cntU_le _ _
end
section
variable {P : Program} {W : World} {K : Nat → World → Prop} {A : Act} {l : List Oper} {ms : List Laid} {o : Oper} {v : Value} {b : Nat}
theorem OneSt.pure (h : ∀ G w, (execOp (putH G A l ms 0).eval o).run P w = .ok (.value v) w) : OneSt P W K A l ms o v none 0 b := by
  intro G s w hK hL
  show if 0 < 0 then _ else _
  rw [if_neg (by omega)]
  exact fun _ => .inl ⟨w, h G w, hK, GrN.refl _ _⟩
theorem OneSt.load (h : ∀ G s w, K s w → s ≤ b → (execOp (putH G A l ms 0).eval o).run P w = .ok (.value v) w) : OneSt P W K A l ms o v none 0 b := by
  intro G s w hK hL
  show if 0 < 0 then _ else _
  rw [if_neg (by omega)]
  exact fun hs => .inl ⟨w, h G s w hK hs, hK, GrN.refl _ _⟩
theorem OneSt.lay {ob : Obj} {f : Nat → Value} (h : ∀ G w, (execOp (putH G A l ms 0).eval o).run P w = .ok (.value (f w.heap.size)) (w.alloc ob)) : OneSt P W K A l ms o v (some (ob, f)) 0 b := by
  intro G s w hK hL
  exact fun _ _ => h G w
theorem OneSt.call {s : Nat} (h : ∀ G w, K s w → LkOk W w o ms G → ∃ fn args, (execOp (putH G A l ms 0).eval o).run P w = .ok (.enter fn args) w ∧ Calls P fn args w (fun e w' => e = .returned v ∧ K (s + 1) w' ∧ GrN W w w')) : OneSt P W K A l ms o v none (s + 1) b := by
  intro G s' w hK hL
  show if 0 < s + 1 then _ else _
  rw [if_pos (by omega)]
  intro e
  obtain rfl : s' = s := by omega
  exact .inr (.inl (h G w hK hL))
theorem OneSt.store {s : Nat} (h : ∀ G w, K s w → LkOk W w o ms G → ∃ w', (execOp (putH G A l ms 0).eval o).run P w = .ok .skip w' ∧ o.dst = none ∧ K (s + 1) w' ∧ GrN W w w') : OneSt P W K A l ms o v none (s + 1) b := by
  intro G s' w hK hL
  show if 0 < s + 1 then _ else _
  rw [if_pos (by omega)]
  intro e
  obtain rfl : s' = s := by omega
  exact .inr (.inr (h G w hK hL))
end
end Go.Proofs.YtidgicbhgnbidaaGreatDoor

/- As Qst, where values, and what is laid, may name the numbers of the blocks that were laid before. No program in sight. -/
namespace Go.Proofs.YtidgicbhgnbidaaGreatDoor
open Go.RowKit

/-- What an operation lays, by the numbers of the new blocks. -/
abbrev ObD := Option ((Nat → Nat) → Obj)
def msL (ms : List ObD) : List Laid := ms.map (Option.map fun ob => (ob fun _ => 0, fun _ => undef))
def gv (l : List Value) (i : Nat) : Value := l.getD i undef
def updG (G : Nat → Nat) (i x : Nat) : Nat → Nat := fun k => if k = i then x else G k
/-- What an operation depends on is done when it is ready. -/
def depB (ops : Array Oper) (ds : List (List Nat)) : Bool :=
  (List.range ops.size).all fun k => match ops[k]?, ds[k]? with
    | some o, some l => l.all fun j => j == k || hasE o j || (List.range k).any fun p => hasE o p && (match ds[p]? with
      | some m => m.contains j
      | none => false)
    | _, _ => false
theorem depB_spec {ops : Array Oper} {ds : List (List Nat)} (h : depB ops ds = true) {k : Nat} {o : Oper} {l : List Nat} (ho : ops[k]? = some o) (hl : ds[k]? = some l) {j : Nat} (hj : j ∈ l) :
    j = k ∨ hasE o j = true ∨ ∃ p m, p < k ∧ hasE o p = true ∧ ds[p]? = some m ∧ j ∈ m := by
  have hk : k < ops.size := (Array.getElem?_eq_some_iff.1 ho).1
  have h1 := List.all_eq_true.1 h k (List.mem_range.2 hk)
  rw [ho, hl] at h1
  have h2 := List.all_eq_true.1 h1 j hj
  simp only [Bool.or_eq_true, beq_iff_eq] at h2
  rcases h2 with (h2 | h2) | h2
  · exact .inl h2
  · exact .inr (.inl h2)
  · obtain ⟨p, hp, hp2⟩ := List.any_eq_true.1 h2
    simp only [Bool.and_eq_true] at hp2
    cases hm : ds[p]? with
    | none => rw [hm] at hp2; cases hp2.2
    | some m => rw [hm] at hp2; exact .inr (.inr ⟨p, m, List.mem_range.1 hp, hp2.1, hm, List.contains_iff_mem.1 hp2.2⟩)
theorem dep_done {ops : Array Oper} {ds : List (List Nat)} (h : depB ops ds = true) {d : Array Bool} (hcl : ∀ j oj, ops[j]? = some oj → d.getD j false = true → ∀ e ∈ oj.after, Region.binds .any e = true → d.getD e.on false = true) (hsz : d.size = ops.size) :
    ∀ (n k : Nat), k < n → d.getD k false = true → ∀ l, ds[k]? = some l → ∀ j ∈ l, d.getD j false = true
  | 0, k, hk, _, _, _, _, _ => by omega
  | n + 1, k, hk, hd, l, hl, j, hj => by
    have hks : k < ops.size := by
      rcases Nat.lt_or_ge k ops.size with h1 | h1
      · exact h1
      · rw [Array.getD_eq_getD_getElem?, Array.getElem?_eq_none (by omega)] at hd; cases hd
    obtain ⟨o, ho⟩ : ∃ o, ops[k]? = some o := ⟨_, Array.getElem?_eq_getElem hks⟩
    rcases depB_spec h ho hl hj with e | e | ⟨p, m, hp, he, hm, hjm⟩
    · rw [e]; exact hd
    · obtain ⟨x, hx1, hx2, hx3⟩ := hasE_spec e
      rw [← hx3]; exact hcl k o ho hd x hx1 hx2
    · obtain ⟨x, hx1, hx2, hx3⟩ := hasE_spec he
      have hdp := hcl k o ho hd x hx1 hx2
      rw [hx3] at hdp
      exact dep_done h hcl hsz n p (by omega) hdp m hm j hjm
/-- The new blocks that an operation may look at. -/
def LkD (W w : World) (ms : List ObD) (l : List Nat) (i : Nat) (G : Nat → Nat) : Prop := ∀ j ∈ l, j ≠ i → ∀ ob, ms[j]? = some (some ob) → W.heap.size ≤ G j ∧ w.heap[G j]? = some (ob G)
def OneSd (P : Program) (W : World) (K : Nat → World → Prop) (A : Act) (l : List Oper) (V : (Nat → Nat) → List Value) (ms : List ObD) (i : Nat) (o : Oper) (m : ObD) (ds : List Nat) (c b : Nat) : Prop :=
  ∀ (G : Nat → Nat) (s : Nat) (w : World), K s w → LkD W w ms ds i G →
    match m with
    | some ob => c = 0 → s ≤ b → (execOp (putL A l (V G)).eval o).run P w = .ok (.value (gv (V (updG G i w.heap.size)) i)) (w.alloc (ob G))
    | none => if 0 < c then (s + 1 = c → StepSt P W (putL A l (V G)) o w (gv (V G) i) (K c)) else (s ≤ b → StepSt P W (putL A l (V G)) o w (gv (V G) i) (K s))
def AllSd (P : Program) (W : World) (K : Nat → World → Prop) (A : Act) (l : List Oper) (V : (Nat → Nat) → List Value) (ms0 : List ObD) : Nat → List Oper → List ObD → List (List Nat) → List Nat → List Nat → Prop
  | i, o :: os, m :: ms, d :: ds, c :: cs, b :: bs => OneSd P W K A l V ms0 i o m d c b ∧ AllSd P W K A l V ms0 (i + 1) os ms ds cs bs
  | _, _, _, _, _, _ => True
theorem AllSd.get {P : Program} {W : World} {K : Nat → World → Prop} {A : Act} {l : List Oper} {V : (Nat → Nat) → List Value} {ms0 : List ObD} : ∀ {i : Nat} {os : List Oper} {ms : List ObD} {ds : List (List Nat)} {cs bs : List Nat} {k : Nat} {o : Oper} {m : ObD} {d : List Nat} {c b : Nat}, AllSd P W K A l V ms0 i os ms ds cs bs → os[k]? = some o → ms[k]? = some m → ds[k]? = some d → cs[k]? = some c → bs[k]? = some b → OneSd P W K A l V ms0 (i + k) o m d c b
  | i, o :: os, m :: ms, d :: ds, c :: cs, b :: bs, 0, _, _, _, _, _, h, h1, h3, h2, h4, h5 => by cases h1; cases h2; cases h3; cases h4; cases h5; exact h.1
  | i, o :: os, m :: ms, d :: ds, c :: cs, b :: bs, k + 1, _, _, _, _, _, h, h1, h3, h2, h4, h5 => by
    have := AllSd.get h.2 (k := k) h1 h3 h2 h4 h5
    rw [show i + (k + 1) = i + 1 + k by omega]
    exact this
  | _, [], _, _, _, _, _, _, _, _, _, _, _, h1, _, _, _, _ => by simp at h1
  | _, _ :: _, [], _, _, _, _, _, _, _, _, _, _, _, h2, _, _, _ => by simp at h2
  | _, _ :: _, _ :: _, [], _, _, _, _, _, _, _, _, _, _, _, h3, _, _ => by simp at h3
  | _, _ :: _, _ :: _, _ :: _, [], _, _, _, _, _, _, _, _, _, _, _, h4, _ => by simp at h4
  | _, _ :: _, _ :: _, _ :: _, _ :: _, [], _, _, _, _, _, _, _, _, _, _, _, h5 => by simp at h5
structure DInv (W : World) (K : Nat → World → Prop) (ops : Array Oper) (V : (Nat → Nat) → List Value) (ms : List ObD) (cs : List Nat) (cm : Nat) (A : Act) (G : Nat → Nat) (d : Array Bool) (a : Act) (w : World) (s : Nat) : Prop where
  dsize : d.size = ops.size
  closed : ∀ j oj, ops[j]? = some oj → d.getD j false = true → ∀ e ∈ oj.after, Region.binds .any e = true → d.getD e.on false = true
  st : K s w ∧ s ≤ cm ∧ ∀ i c, i < ops.size → cs[i]? = some c → 0 < c → (d.getD i false = true ↔ c ≤ s)
  defers : a.defers = A.defers
  size : a.tmps.size = A.tmps.size
  hsize : W.heap.size ≤ w.heap.size
  slot0 : ∀ t, (∀ k o, ops[k]? = some o → o.dst = some t → d.getD k false = false) → a.tmps[t]? = A.tmps[t]?
  slot1 : ∀ k o t, ops[k]? = some o → o.dst = some t → d.getD k false = true → a.tmps[t]? = some (gv (V G) k)
  al : ∀ k ob, k < ops.size → ms[k]? = some (some ob) → d.getD k false = true → W.heap.size ≤ G k ∧ w.heap[G k]? = some (ob G)
section
variable {P : Program} {W : World} {K : Nat → World → Prop} {ops : Array Oper} {V : (Nat → Nat) → List Value} {ms : List ObD} {ds : List (List Nat)} {cs bs : List Nat} {cm : Nat} {A : Act}
theorem msL_get {k : Nat} : (msL ms)[k]? = (ms[k]?).map (Option.map fun ob => (ob fun _ => 0, fun _ => undef)) := by unfold msL; rw [List.getElem?_map]
theorem putL_gv {os : List Oper} {l : List Value} {a : Act} {k : Nat} {o : Oper} {t : Tmp} (h1 : os[k]? = some o) (hl : l.length = os.length) (h3 : o.dst = some t) (h4 : t < a.tmps.size) (h5 : ∀ j p, os[j]? = some p → j ≠ k → p.dst ≠ some t) : (putL a os l).tmps[t]? = some (gv l k) := by
  have hk : k < os.length := (List.getElem?_eq_some_iff.1 h1).1
  have hv : l[k]? = some (gv l k) := by unfold gv; rw [List.getD_eq_getElem?_getD, List.getElem?_eq_getElem (by omega)]; rfl
  exact putL_at os l a k o _ t h1 hv h3 h4 h5
theorem region_sd {R : Exit → Act → World → Prop} (hB : stB ops (msL ms) cs bs cm = true) (hD : depB ops ds = true) (hq : AllSd P W K A ops.toList V ms 0 ops.toList ms ds cs bs) (hvs : ∀ G, (V G).length = ops.size) (hms : ms.length = ops.size) (hds : ds.length = ops.size)
    (hdep : ∀ (k : Nat) (l : List Nat), ds[k]? = some l → ∀ G G' : Nat → Nat, (∀ j ∈ l, G j = G' j) → gv (V G) k = gv (V G') k)
    (hobj : ∀ (k : Nat) (l : List Nat) (ob : (Nat → Nat) → Obj), ds[k]? = some l → ms[k]? = some (some ob) → ∀ G G' : Nat → Nat, (∀ j ∈ l, j ≠ k → G j = G' j) → ob G = ob G')
    (hKa : ∀ s w o, K s w → K s (w.alloc o)) (hA : ∀ (k : Nat) (o : Oper) (t : Tmp), ops[k]? = some o → o.dst = some t → t < A.tmps.size)
    (hend : ∀ a w G, K cm w → W.heap.size ≤ w.heap.size → (∀ k ob, ms[k]? = some (some ob) → W.heap.size ≤ G k ∧ w.heap[G k]? = some (ob G)) → a = putL A ops.toList (V G) → R .normal a w) :
    ∀ (f : Nat) (d : Array Bool) (a : Act) (w : World) (G : Nat → Nat) (s : Nat), DInv W K ops V ms cs cm A G d a w s → cntU d ops.size = f → wpAny P .any ops R f d a w := by
  unfold stB at hB
  simp only [Bool.and_eq_true] at hB
  obtain ⟨⟨hsel, hops⟩, hcm⟩ := hB
  have hok : ∀ i, i < ops.size → ∃ o m c b, ops[i]? = some o ∧ (msL ms)[i]? = some m ∧ cs[i]? = some c ∧ bs[i]? = some b ∧ OpSt ops (msL ms) cs bs cm i o m c b := fun i hi => opSt_spec (List.all_eq_true.1 hops i (List.mem_range.2 hi))
  have hap : ∀ (j : Nat) (o : Oper) (t : Tmp), ops[j]? = some o → o.dst = some t → ∀ (i : Nat) (p : Oper), ops.toList[i]? = some p → i ≠ j → p.dst ≠ some t := by
    intro j o t hj hot i p hp hne e
    obtain ⟨o', m', c', b', ho', _, _, _, hO⟩ := hok j (Array.getElem?_eq_some_iff.1 hj).1
    obtain rfl : o' = o := Option.some.inj (ho'.symm.trans hj)
    exact hne (hO.apart i p t (by simpa using hp) e hot)
  -- what a frame holds where an operation looks
  have hfr : ∀ (G : Nat → Nat) (d : Array Bool) (a : Act) (w : World) (s : Nat), DInv W K ops V ms cs cm A G d a w s → ∀ t, (∀ (k : Nat) (o : Oper), ops[k]? = some o → o.dst = some t → d.getD k false = true) → a.tmps[t]? = (putL A ops.toList (V G)).tmps[t]? := by
    intro G d a w s inv t ht
    by_cases hx : ∃ (j : Nat) (o : Oper), ops[j]? = some o ∧ o.dst = some t
    · obtain ⟨j, o, hj, hot⟩ := hx
      rw [inv.slot1 j o t hj hot (ht j o hj hot)]
      exact (putL_gv (k := j) (o := o) (by simpa using hj) (by rw [hvs]; simp) hot (hA j o t hj hot) (hap j o t hj hot)).symm
    · rw [putL_get ops.toList (V G) A t (fun o ho e => by
        obtain ⟨j, hj⟩ := List.getElem?_of_mem ho
        exact hx ⟨j, o, by simpa using hj, e⟩)]
      exact inv.slot0 t (fun k o hk hot => absurd ⟨k, o, hk, hot⟩ hx)
  intro f
  induction f with
  | zero =>
    intro d a w G s inv hcn
    have hall := cntU_zero hcn
    refine ⟨?_, ?_⟩
    · refine List.eq_nil_iff_forall_not_mem.2 (fun i hi => ?_)
      obtain ⟨h1, o, ho, _⟩ := mem_ready.1 hi
      have hi' : i < ops.size := (Array.getElem?_eq_some_iff.1 ho).1
      have h2 := hall i hi'
      rw [getD_both h1] at h2
      cases h2
    · refine hend a w G ?_ inv.hsize ?_ ?_
      · have hs : s = cm := by
          have hle := inv.st.2.1
          simp only [Bool.or_eq_true, beq_iff_eq] at hcm
          rcases hcm with h | h
          · omega
          · obtain ⟨j, hj, hj2⟩ := List.any_eq_true.1 h
            have hjn := List.mem_range.1 hj
            rcases Nat.eq_zero_or_pos cm with h0 | h0
            · omega
            · have := (inv.st.2.2 j cm hjn (by simpa using hj2) h0).1 (hall j hjn)
              omega
        exact hs ▸ inv.st.1
      · intro k ob hk
        have hkn := (List.getElem?_eq_some_iff.1 hk).1
        exact inv.al k ob (by omega) hk (hall k (by omega))
      · have hgs := putL_size ops.toList (V G) A
        refine act_ext (inv.defers.trans hgs.2.symm) (inv.size.trans hgs.1.symm) (fun t => ?_)
        exact hfr G d a w s inv t (fun k o hk _ => hall k (Array.getElem?_eq_some_iff.1 hk).1)
  | succ f ih =>
    intro d a w G s inv hcn
    obtain ⟨k0, hk0, hk1, hk2⟩ := cntU_some (d := d) (n := ops.size) (by omega)
    have hr0 : k0 ∈ Region.ready .any ops d := by
      obtain ⟨o, m, c, b, ho, _, _, _, hO⟩ := hok k0 hk0
      exact mem_ready.2 ⟨getD_in (by rw [inv.dsize]; omega) hk1, o, ho, fun e he hb => hk2 _ (hO.back e he hb)⟩
    refine ⟨fun h => (by rw [h] at hr0; cases hr0), fun i hi => ?_⟩
    obtain ⟨hiu, oi, hoi, hiall⟩ := mem_ready.1 hi
    have hin : i < ops.size := (Array.getElem?_eq_some_iff.1 hoi).1
    obtain ⟨o, mL, c, b, ho, hmL, hc, hb, hO⟩ := hok i hin
    obtain rfl : o = oi := Option.some.inj (ho.symm.trans hoi)
    obtain ⟨m, hm⟩ : ∃ m, ms[i]? = some m := ⟨_, List.getElem?_eq_getElem (by omega)⟩
    have hmm : mL = m.map fun ob => (ob fun _ => 0, fun _ => undef) := by
      rw [msL_get, hm] at hmL
      exact (Option.some.inj hmL).symm
    obtain ⟨dl, hdl⟩ : ∃ dl, ds[i]? = some dl := ⟨_, List.getElem?_eq_getElem (by omega)⟩
    have hid : d.getD i false = false := getD_both hiu
    have hisz : i < d.size := by rw [inv.dsize]; omega
    have hdd : ∀ j ∈ dl, j ≠ i → d.getD j false = true := by
      intro j hj hne
      rcases depB_spec hD ho hdl hj with e | e | ⟨p, m', hp, he, hm', hjm⟩
      · exact absurd e hne
      · obtain ⟨x, hx1, hx2, hx3⟩ := hasE_spec e
        exact hx3 ▸ hiall x hx1 hx2
      · obtain ⟨x, hx1, hx2, hx3⟩ := hasE_spec he
        exact dep_done hD inv.closed inv.dsize ops.size p (by omega) (hx3 ▸ hiall x hx1 hx2) m' hm' j hjm
    have hQ := hq.get (k := i) (by simpa using ho) hm hdl hc hb G s w inv.st.1 (by
      intro j hj hne ob hob
      have hjn : j < ops.size := by have := (List.getElem?_eq_some_iff.1 hob).1; omega
      exact inv.al j ob hjn hob (hdd j hj (fun e => hne (by omega))))
    rw [Nat.zero_add] at hQ
    have hexec : execOp a.eval o = execOp (putL A ops.toList (V G)).eval o := by
      refine execOp_congr o (fun cs b => Region.noSelect_spec hsel i o cs b ho) (fun x hx => eval_agree (fun u hu => hfr G d a w s inv u (fun k p hp hpu => ?_)))
      have hlook : u ∈ o.looksAt ops := by
        subst hu
        exact List.mem_append_left _ (List.mem_filterMap.2 ⟨.tmp u, by simpa using hx, rfl⟩)
      obtain ⟨e, he, hbd, hon⟩ := hasE_spec (hO.looks k p u hp hpu hlook)
      exact hon ▸ hiall e he hbd
    have hcnt : cntU (d.setIfInBounds i true) ops.size = f := by
      obtain ⟨h1, h2⟩ := cntU_set hisz hid (n := ops.size)
      rw [h1, if_pos hin]; omega
    have hdset : ∀ k, (d.setIfInBounds i true).getD k false = true → k = i ∨ d.getD k false = true := fun k hk => by
      by_cases hki : i = k
      · exact .inl hki.symm
      · rw [getD_set_ne false hki] at hk; exact .inr hk
    have hdmono : ∀ k, d.getD k false = true → (d.setIfInBounds i true).getD k false = true := fun k hk => by
      by_cases hki : i = k
      · subst hki; rw [hid] at hk; cases hk
      · rw [getD_set_ne false hki]; exact hk
    have hdsame : (d.setIfInBounds i true).getD i false = true := by simp [hisz]
    have hput : ∀ (u : Value) (q t : Tmp), o.dst = some t → t < A.tmps.size → (a.put o.dst u).tmps[q]? = if q = t then some u else a.tmps[q]? := by
      intro u q t hot htA
      rw [hot]
      unfold Act.put
      simp only
      by_cases hst : q = t
      · subst hst
        rw [if_pos rfl]
        simp [inv.size, htA]
      · rw [if_neg hst, Array.getElem?_setIfInBounds_ne (fun e => hst e.symm)]
    -- what was done depends on no block that is laid now
    have hsame : ∀ (G' : Nat → Nat), (∀ k, k ≠ i → G' k = G k) → ∀ k, d.getD k false = true → k < ops.size → gv (V G') k = gv (V G) k := by
      intro G' hG k hk hkn
      obtain ⟨l, hl⟩ : ∃ l, ds[k]? = some l := ⟨_, List.getElem?_eq_getElem (by omega)⟩
      refine hdep k l hl G' G (fun j hj => hG j (fun e => ?_))
      have := dep_done hD inv.closed inv.dsize ops.size k hkn hk l hl j hj
      rw [e, hid] at this
      cases this
    have hnew : ∀ (u : Value) (w' : World) (G' : Nat → Nat) (s' : Nat), GrN W w w' → K s' w' → s' ≤ cm → (∀ j c', j < ops.size → cs[j]? = some c' → 0 < c' → ((d.setIfInBounds i true).getD j false = true ↔ c' ≤ s')) → (∀ t, o.dst = some t → u = gv (V G') i) →
        (∀ ob, m = some ob → G' i = w.heap.size ∧ w'.heap[w.heap.size]? = some (ob G)) → (∀ k, k ≠ i → G' k = G k) →
        DInv W K ops V ms cs cm A G' (d.setIfInBounds i true) (a.put o.dst u) w' s' := by
      intro u w' G' s' hg hK hscm hst hu hal hGk
      refine ⟨by rw [Array.size_setIfInBounds]; exact inv.dsize, ?_, ⟨hK, hscm, hst⟩, by rw [(put_size _ _ _).2]; exact inv.defers, by rw [(put_size _ _ _).1]; exact inv.size, Nat.le_trans inv.hsize hg.1, ?_, ?_, ?_⟩
      · intro j oj hj hdj e he hbd
        rcases hdset j hdj with e1 | e1
        · subst e1
          obtain rfl : oj = o := Option.some.inj (hj.symm.trans ho)
          exact hdmono _ (hiall e he hbd)
        · exact hdmono _ (inv.closed j oj hj e1 e he hbd)
      · intro q hs'
        have hqo : o.dst ≠ some q := fun e => by
          have := hs' i o ho e
          rw [hdsame] at this
          cases this
        rw [put_get _ _ _ _ hqo]
        refine inv.slot0 q (fun k p hp hps => ?_)
        have h1 := hs' k p hp hps
        cases h2 : d.getD k false with
        | false => rfl
        | true => rw [hdmono k h2] at h1; cases h1
      · intro k p t hp hps hk
        by_cases hki : k = i
        · subst hki
          obtain rfl : p = o := Option.some.inj (hp.symm.trans ho)
          rw [hput u t t hps (hA k p t ho hps), if_pos rfl, hu t hps]
        · have hk' := (hdset k hk).resolve_left hki
          have hne : (a.put o.dst u).tmps[t]? = a.tmps[t]? := put_get _ _ _ _ (fun e => hki (hO.apart k p t hp hps e))
          rw [hne, inv.slot1 k p t hp hps hk', hsame G' hGk k hk' (Array.getElem?_eq_some_iff.1 hp).1]
      · intro k ob hkn hmk hdk
        obtain ⟨l, hl⟩ : ∃ l, ds[k]? = some l := ⟨_, List.getElem?_eq_getElem (by omega)⟩
        by_cases hki : k = i
        · subst hki
          rw [hm] at hmk
          obtain ⟨g1, g2⟩ := hal ob (Option.some.inj hmk)
          rw [g1]
          refine ⟨inv.hsize, ?_⟩
          rw [hobj k l ob hl (by rw [hm]; exact hmk) G' G (fun j _ hne => hGk j hne)]
          exact g2
        · have hk' := (hdset k hdk).resolve_left hki
          obtain ⟨g1, g2⟩ := inv.al k ob hkn hmk hk'
          rw [hGk k hki]
          refine ⟨g1, ?_⟩
          rw [hobj k l ob hl hmk G' G (fun j hj _ => hGk j (fun e => by
            have := dep_done hD inv.closed inv.dsize ops.size k hkn hk' l hl j hj
            rw [e, hid] at this
            cases this))]
          exact (hg.2 _ g1 (Array.getElem?_eq_some_iff.1 g2).1).trans g2
    -- the stage behind it
    have hstay : c = 0 → ∀ j c', j < ops.size → cs[j]? = some c' → 0 < c' → ((d.setIfInBounds i true).getD j false = true ↔ c' ≤ s) := by
      intro hc0 j c' hj hcj hpos
      have hji : i ≠ j := fun e => by subst e; rw [hc] at hcj; have := Option.some.inj hcj; omega
      rw [getD_set_ne false hji]
      exact inv.st.2.2 j c' hj hcj hpos
    have hsb : c = 0 → s ≤ b := by
      intro hc0
      rcases Nat.lt_or_ge b cm with hbc | hbc
      · obtain ⟨j, q, hq', hcj, hE⟩ := hO.low hc0 hbc
        rcases Nat.lt_or_ge b s with hlt | hge
        · exfalso
          have hj : j < ops.size := (Array.getElem?_eq_some_iff.1 hq').1
          have hdone := (inv.st.2.2 j (b + 1) hj hcj (by omega)).2 (by omega)
          obtain ⟨e, he1, he2, he3⟩ := hasE_spec hE
          have := inv.closed j q hq' hdone e he1 he2
          rw [he3, hid] at this
          cases this
        · exact hge
      · have := inv.st.2.1
        omega
    unfold wpOp
    rw [ho]
    simp only
    have hw : Region.wanted o (yielded ops a.tmps) = true := by unfold Region.wanted; rw [hO.guard]
    rw [if_pos hw]
    refine .inl ?_
    unfold Oper.wp
    rw [hexec]
    by_cases hc0 : c = 0
    · cases m with
      | some ob =>
        rw [hQ hc0 (hsb hc0)]
        have hal : (w.alloc (ob G)).heap[w.heap.size]? = some (ob G) := heap_new w (ob G)
        refine ih _ _ _ (updG G i w.heap.size) s (hnew _ _ _ s (GrN.alloc _ _ _) (hKa _ _ _ inv.st.1) inv.st.2.1 (hstay hc0) (fun t _ => rfl) (fun ob' h => ?_) (fun k hk => if_neg hk)) hcnt
        cases h
        exact ⟨if_pos rfl, hal⟩
      | none =>
        simp only [hc0, Nat.lt_irrefl, if_false] at hQ
        rcases hQ (hsb hc0) with ⟨w', h1, h2, h3⟩ | ⟨fn, args, h1, h2⟩ | ⟨w', h1, hdn, h2, h3⟩
        · rw [h1]
          exact ih _ _ _ G s (hnew _ w' G s h3 h2 inv.st.2.1 (hstay hc0) (fun _ _ => rfl) (fun ob h => by cases h) (fun _ _ => rfl)) hcnt
        · rw [h1]
          refine h2.mono (fun e w' h => ?_)
          obtain ⟨rfl, hk, hg⟩ := h
          exact ih _ _ _ G s (hnew _ w' G s hg hk inv.st.2.1 (hstay hc0) (fun _ _ => rfl) (fun ob h => by cases h) (fun _ _ => rfl)) hcnt
        · rw [h1]
          exact ih _ _ _ G s (hnew _ w' G s h3 h2 inv.st.2.1 (hstay hc0) (fun t ht => by rw [hdn] at ht; cases ht) (fun ob h => by cases h) (fun _ _ => rfl)) hcnt
    · have hcp : 0 < c := by omega
      obtain ⟨hmn, hccm, hpre⟩ := hO.high hcp
      obtain rfl : m = none := by
        cases m with
        | none => rfl
        | some ob => rw [hmm] at hmn; cases hmn
      have hnot : ¬ c ≤ s := fun h => by
        have := (inv.st.2.2 i c hin hc hcp).2 h
        rw [hid] at this; cases this
      have hs1 : s + 1 = c := by
        rcases hpre with h | ⟨j, hj, hcj, hE⟩
        · omega
        · rcases Nat.eq_zero_or_pos (c - 1) with h0 | h0
          · omega
          · obtain ⟨e, he1, he2, he3⟩ := hasE_spec hE
            have := (inv.st.2.2 j (c - 1) hj hcj h0).1 (he3 ▸ hiall e he1 he2)
            omega
      have hgo : ∀ j c', j < ops.size → cs[j]? = some c' → 0 < c' → ((d.setIfInBounds i true).getD j false = true ↔ c' ≤ c) := by
        intro j c' hj hcj hpos
        by_cases hji : i = j
        · subst hji
          rw [hc] at hcj
          have := Option.some.inj hcj
          exact ⟨fun _ => by omega, fun _ => hdsame⟩
        · rw [getD_set_ne false hji, inv.st.2.2 j c' hj hcj hpos]
          have hne : c' ≠ c := fun e => hji (hO.alone hcp j hj (e ▸ hcj)).symm
          omega
      simp only [hcp, if_true] at hQ
      rcases hQ hs1 with ⟨w', h1, h2, h3⟩ | ⟨fn, args, h1, h2⟩ | ⟨w', h1, hdn, h2, h3⟩
      · rw [h1]
        exact ih _ _ _ G c (hnew _ w' G c h3 h2 hccm hgo (fun _ _ => rfl) (fun ob h => by cases h) (fun _ _ => rfl)) hcnt
      · rw [h1]
        refine h2.mono (fun e w' h => ?_)
        obtain ⟨rfl, hk, hg⟩ := h
        exact ih _ _ _ G c (hnew _ w' G c hg hk hccm hgo (fun _ _ => rfl) (fun ob h => by cases h) (fun _ _ => rfl)) hcnt
      · rw [h1]
        exact ih _ _ _ G c (hnew _ w' G c h3 h2 hccm hgo (fun t ht => by rw [hdn] at ht; cases ht) (fun ob h => by cases h) (fun _ _ => rfl)) hcnt
/-- A region that draws, each operation looked at once; values may name the new blocks' numbers. -/
theorem qRegionSd {id : Nat} {R : Exit → Act → World → Prop} {a : Act} {w : World} {l : List Oper} (K : Nat → World → Prop) (V : (Nat → Nat) → List Value) (ms : List ObD) (ds : List (List Nat)) (cs bs : List Nat) (cm : Nat) (hm : P.follows .mixedOrders = true) (hB : stB l.toArray (msL ms) cs bs cm = true) (hD : depB l.toArray ds = true)
    (hvs : ∀ G, (V G).length = l.length) (hms : ms.length = l.length) (hds : ds.length = l.length) (hsz : l.all (fun o => match o.dst with | some t => decide (t < a.tmps.size) | none => true) = true)
    (hdep : ∀ (k : Nat) (l : List Nat), ds[k]? = some l → ∀ G G' : Nat → Nat, (∀ j ∈ l, G j = G' j) → gv (V G) k = gv (V G') k)
    (hobj : ∀ (k : Nat) (l : List Nat) (ob : (Nat → Nat) → Obj), ds[k]? = some l → ms[k]? = some (some ob) → ∀ G G' : Nat → Nat, (∀ j ∈ l, j ≠ k → G j = G' j) → ob G = ob G')
    (hK0 : K 0 w.drew) (hKa : ∀ s w o, K s w → K s (w.alloc o))
    (hq : AllSd P w K a l V ms 0 l ms ds cs bs)
    (h : ∀ (G : Nat → Nat) w', K cm w' → w.heap.size ≤ w'.heap.size → (∀ k ob, ms[k]? = some (some ob) → w.heap.size ≤ G k ∧ w'.heap[G k]? = some (ob G)) → R .normal (putL a l (V G)) w') : (Code.region id l.toArray true).wp P R a w := by
  refine wp_region_any hm ?_
  have hA : ∀ (k : Nat) (o : Oper) (t : Tmp), l.toArray[k]? = some o → o.dst = some t → t < a.tmps.size := fun k o t ho ht => by
    have := List.all_eq_true.1 hsz o (List.mem_of_getElem? (i := k) (by simpa using ho))
    rw [ht] at this
    simpa using this
  have hmain := region_sd (R := R) (W := w) (K := K) hB hD (by simpa using hq) (by simpa using hvs) (by simpa using hms) (by simpa using hds) hdep hobj hKa hA (fun a' w' G hk hs hG e => by rw [e]; exact h G w' hk hs hG)
  have inv0 : DInv w K l.toArray V ms cs cm a (fun _ => 0) (Array.replicate l.toArray.size false) a { w with drawn := w.drawn + 1 } 0 := by
    refine ⟨by simp, fun j oj _ hj => (by rw [getD_replicate_false] at hj; cases hj), ⟨hK0, Nat.zero_le _, fun i c _ _ hp => ⟨fun hd => (by rw [getD_replicate_false] at hd; cases hd), fun hd => by omega⟩⟩, rfl, rfl, Nat.le_refl _, fun _ _ => rfl, ?_, ?_⟩
    · intro k o t _ _ hd
      rw [getD_replicate_false] at hd; cases hd
    · intro k ob _ _ hd
      rw [getD_replicate_false] at hd; cases hd
  have := hmain _ _ a _ _ 0 inv0 rfl
  refine wpAny_le ?_ this
  exact cntU_le _ _
end
section
variable {P : Program} {W : World} {K : Nat → World → Prop} {A : Act} {l : List Oper} {V : (Nat → Nat) → List Value} {ms : List ObD} {i : Nat} {o : Oper} {ds : List Nat} {b : Nat}
theorem OneSd.pure (h : ∀ G w, (execOp (putL A l (V G)).eval o).run P w = .ok (.value (gv (V G) i)) w) : OneSd P W K A l V ms i o none ds 0 b := by
  intro G s w hK hL
  show if 0 < 0 then _ else _
  rw [if_neg (by omega)]
  exact fun _ => .inl ⟨w, h G w, hK, GrN.refl _ _⟩
theorem OneSd.load (h : ∀ G s w, K s w → s ≤ b → LkD W w ms ds i G → (execOp (putL A l (V G)).eval o).run P w = .ok (.value (gv (V G) i)) w) : OneSd P W K A l V ms i o none ds 0 b := by
  intro G s w hK hL
  show if 0 < 0 then _ else _
  rw [if_neg (by omega)]
  exact fun hs => .inl ⟨w, h G s w hK hs hL, hK, GrN.refl _ _⟩
theorem OneSd.lay {ob : (Nat → Nat) → Obj} (h : ∀ G w, (execOp (putL A l (V G)).eval o).run P w = .ok (.value (gv (V (updG G i w.heap.size)) i)) (w.alloc (ob G))) : OneSd P W K A l V ms i o (some ob) ds 0 b := by
  intro G s w hK hL
  exact fun _ _ => h G w
theorem OneSd.call {s : Nat} (h : ∀ G w, K s w → LkD W w ms ds i G → ∃ fn args, (execOp (putL A l (V G)).eval o).run P w = .ok (.enter fn args) w ∧ Calls P fn args w (fun e w' => e = .returned (gv (V G) i) ∧ K (s + 1) w' ∧ GrN W w w')) : OneSd P W K A l V ms i o none ds (s + 1) b := by
  intro G s' w hK hL
  show if 0 < s + 1 then _ else _
  rw [if_pos (by omega)]
  intro e
  obtain rfl : s' = s := by omega
  exact .inr (.inl (h G w hK hL))
theorem OneSd.store {s : Nat} (h : ∀ G w, K s w → LkD W w ms ds i G → ∃ w', (execOp (putL A l (V G)).eval o).run P w = .ok .skip w' ∧ o.dst = none ∧ K (s + 1) w' ∧ GrN W w w') : OneSd P W K A l V ms i o none ds (s + 1) b := by
  intro G s' w hK hL
  show if 0 < s + 1 then _ else _
  rw [if_pos (by omega)]
  intro e
  obtain rfl : s' = s := by omega
  exact .inr (.inr (h G w hK hL))
/-- A call that changes nothing of the chain (stage stays). -/
theorem OneSd.still (h : ∀ G s w, K s w → s ≤ b → LkD W w ms ds i G → ∃ fn args, (execOp (putL A l (V G)).eval o).run P w = .ok (.enter fn args) w ∧ Calls P fn args w (fun e w' => e = .returned (gv (V G) i) ∧ K s w' ∧ GrN W w w')) : OneSd P W K A l V ms i o none ds 0 b := by
  intro G s w hK hL
  show if 0 < 0 then _ else _
  rw [if_neg (by omega)]
  exact fun hs => .inr (.inl (h G s w hK hs hL))
end
end Go.Proofs.YtidgicbhgnbidaaGreatDoor

/- As Qsd, where the new blocks' numbers are known to be apart; and an operation may yield a value and change the memory. Printed by gen_Qsi.py. No program in sight. -/
namespace Go.Proofs.YtidgicbhgnbidaaGreatDoor
open Go.RowKit

structure DInvI (W : World) (K : Nat → World → Prop) (ops : Array Oper) (V : (Nat → Nat) → List Value) (ms : List ObD) (cs : List Nat) (cm : Nat) (A : Act) (G : Nat → Nat) (d : Array Bool) (a : Act) (w : World) (s : Nat) : Prop where
  dsize : d.size = ops.size
  closed : ∀ j oj, ops[j]? = some oj → d.getD j false = true → ∀ e ∈ oj.after, Region.binds .any e = true → d.getD e.on false = true
  st : K s w ∧ s ≤ cm ∧ ∀ i c, i < ops.size → cs[i]? = some c → 0 < c → (d.getD i false = true ↔ c ≤ s)
  defers : a.defers = A.defers
  size : a.tmps.size = A.tmps.size
  hsize : W.heap.size ≤ w.heap.size
  slot0 : ∀ t, (∀ k o, ops[k]? = some o → o.dst = some t → d.getD k false = false) → a.tmps[t]? = A.tmps[t]?
  slot1 : ∀ k o t, ops[k]? = some o → o.dst = some t → d.getD k false = true → a.tmps[t]? = some (gv (V G) k)
  al : ∀ k ob, k < ops.size → ms[k]? = some (some ob) → d.getD k false = true → W.heap.size ≤ G k ∧ w.heap[G k]? = some (ob G)
  inj : ∀ j k obj obk, j < ops.size → k < ops.size → j ≠ k → ms[j]? = some (some obj) → ms[k]? = some (some obk) → d.getD j false = true → d.getD k false = true → G j ≠ G k
section
variable {P : Program} {W : World} {K : Nat → World → Prop} {ops : Array Oper} {V : (Nat → Nat) → List Value} {ms : List ObD} {ds : List (List Nat)} {cs bs : List Nat} {cm : Nat} {A : Act}
theorem region_si {R : Exit → Act → World → Prop} (hB : stB ops (msL ms) cs bs cm = true) (hD : depB ops ds = true) (hq : AllSd P W K A ops.toList V ms 0 ops.toList ms ds cs bs) (hvs : ∀ G, (V G).length = ops.size) (hms : ms.length = ops.size) (hds : ds.length = ops.size)
    (hdep : ∀ (k : Nat) (l : List Nat), ds[k]? = some l → ∀ G G' : Nat → Nat, (∀ j ∈ l, G j = G' j) → gv (V G) k = gv (V G') k)
    (hobj : ∀ (k : Nat) (l : List Nat) (ob : (Nat → Nat) → Obj), ds[k]? = some l → ms[k]? = some (some ob) → ∀ G G' : Nat → Nat, (∀ j ∈ l, j ≠ k → G j = G' j) → ob G = ob G')
    (hKa : ∀ s w o, K s w → K s (w.alloc o)) (hA : ∀ (k : Nat) (o : Oper) (t : Tmp), ops[k]? = some o → o.dst = some t → t < A.tmps.size)
    (hend : ∀ a w G, K cm w → W.heap.size ≤ w.heap.size → (∀ k ob, ms[k]? = some (some ob) → W.heap.size ≤ G k ∧ w.heap[G k]? = some (ob G)) → (∀ j k obj obk, j ≠ k → ms[j]? = some (some obj) → ms[k]? = some (some obk) → G j ≠ G k) → a = putL A ops.toList (V G) → R .normal a w) :
    ∀ (f : Nat) (d : Array Bool) (a : Act) (w : World) (G : Nat → Nat) (s : Nat), DInvI W K ops V ms cs cm A G d a w s → cntU d ops.size = f → wpAny P .any ops R f d a w := by
  unfold stB at hB
  simp only [Bool.and_eq_true] at hB
  obtain ⟨⟨hsel, hops⟩, hcm⟩ := hB
  have hok : ∀ i, i < ops.size → ∃ o m c b, ops[i]? = some o ∧ (msL ms)[i]? = some m ∧ cs[i]? = some c ∧ bs[i]? = some b ∧ OpSt ops (msL ms) cs bs cm i o m c b := fun i hi => opSt_spec (List.all_eq_true.1 hops i (List.mem_range.2 hi))
  have hap : ∀ (j : Nat) (o : Oper) (t : Tmp), ops[j]? = some o → o.dst = some t → ∀ (i : Nat) (p : Oper), ops.toList[i]? = some p → i ≠ j → p.dst ≠ some t := by
    intro j o t hj hot i p hp hne e
    obtain ⟨o', m', c', b', ho', _, _, _, hO⟩ := hok j (Array.getElem?_eq_some_iff.1 hj).1
    obtain rfl : o' = o := Option.some.inj (ho'.symm.trans hj)
    exact hne (hO.apart i p t (by simpa using hp) e hot)
  -- what a frame holds where an operation looks
  have hfr : ∀ (G : Nat → Nat) (d : Array Bool) (a : Act) (w : World) (s : Nat), DInvI W K ops V ms cs cm A G d a w s → ∀ t, (∀ (k : Nat) (o : Oper), ops[k]? = some o → o.dst = some t → d.getD k false = true) → a.tmps[t]? = (putL A ops.toList (V G)).tmps[t]? := by
    intro G d a w s inv t ht
    by_cases hx : ∃ (j : Nat) (o : Oper), ops[j]? = some o ∧ o.dst = some t
    · obtain ⟨j, o, hj, hot⟩ := hx
      rw [inv.slot1 j o t hj hot (ht j o hj hot)]
      exact (putL_gv (k := j) (o := o) (by simpa using hj) (by rw [hvs]; simp) hot (hA j o t hj hot) (hap j o t hj hot)).symm
    · rw [putL_get ops.toList (V G) A t (fun o ho e => by
        obtain ⟨j, hj⟩ := List.getElem?_of_mem ho
        exact hx ⟨j, o, by simpa using hj, e⟩)]
      exact inv.slot0 t (fun k o hk hot => absurd ⟨k, o, hk, hot⟩ hx)
  intro f
  induction f with
  | zero =>
    intro d a w G s inv hcn
    have hall := cntU_zero hcn
    refine ⟨?_, ?_⟩
    · refine List.eq_nil_iff_forall_not_mem.2 (fun i hi => ?_)
      obtain ⟨h1, o, ho, _⟩ := mem_ready.1 hi
      have hi' : i < ops.size := (Array.getElem?_eq_some_iff.1 ho).1
      have h2 := hall i hi'
      rw [getD_both h1] at h2
      cases h2
    · refine hend a w G ?_ inv.hsize ?_ ?_ ?_
      · have hs : s = cm := by
          have hle := inv.st.2.1
          simp only [Bool.or_eq_true, beq_iff_eq] at hcm
          rcases hcm with h | h
          · omega
          · obtain ⟨j, hj, hj2⟩ := List.any_eq_true.1 h
            have hjn := List.mem_range.1 hj
            rcases Nat.eq_zero_or_pos cm with h0 | h0
            · omega
            · have := (inv.st.2.2 j cm hjn (by simpa using hj2) h0).1 (hall j hjn)
              omega
        exact hs ▸ inv.st.1
      · intro k ob hk
        have hkn := (List.getElem?_eq_some_iff.1 hk).1
        exact inv.al k ob (by omega) hk (hall k (by omega))
      · intro j k obj obk hne hj hk
        have hjn := (List.getElem?_eq_some_iff.1 hj).1
        have hkn := (List.getElem?_eq_some_iff.1 hk).1
        exact inv.inj j k obj obk (by omega) (by omega) hne hj hk (hall j (by omega)) (hall k (by omega))
      · have hgs := putL_size ops.toList (V G) A
        refine act_ext (inv.defers.trans hgs.2.symm) (inv.size.trans hgs.1.symm) (fun t => ?_)
        exact hfr G d a w s inv t (fun k o hk _ => hall k (Array.getElem?_eq_some_iff.1 hk).1)
  | succ f ih =>
    intro d a w G s inv hcn
    obtain ⟨k0, hk0, hk1, hk2⟩ := cntU_some (d := d) (n := ops.size) (by omega)
    have hr0 : k0 ∈ Region.ready .any ops d := by
      obtain ⟨o, m, c, b, ho, _, _, _, hO⟩ := hok k0 hk0
      exact mem_ready.2 ⟨getD_in (by rw [inv.dsize]; omega) hk1, o, ho, fun e he hb => hk2 _ (hO.back e he hb)⟩
    refine ⟨fun h => (by rw [h] at hr0; cases hr0), fun i hi => ?_⟩
    obtain ⟨hiu, oi, hoi, hiall⟩ := mem_ready.1 hi
    have hin : i < ops.size := (Array.getElem?_eq_some_iff.1 hoi).1
    obtain ⟨o, mL, c, b, ho, hmL, hc, hb, hO⟩ := hok i hin
    obtain rfl : o = oi := Option.some.inj (ho.symm.trans hoi)
    obtain ⟨m, hm⟩ : ∃ m, ms[i]? = some m := ⟨_, List.getElem?_eq_getElem (by omega)⟩
    have hmm : mL = m.map fun ob => (ob fun _ => 0, fun _ => undef) := by
      rw [msL_get, hm] at hmL
      exact (Option.some.inj hmL).symm
    obtain ⟨dl, hdl⟩ : ∃ dl, ds[i]? = some dl := ⟨_, List.getElem?_eq_getElem (by omega)⟩
    have hid : d.getD i false = false := getD_both hiu
    have hisz : i < d.size := by rw [inv.dsize]; omega
    have hdd : ∀ j ∈ dl, j ≠ i → d.getD j false = true := by
      intro j hj hne
      rcases depB_spec hD ho hdl hj with e | e | ⟨p, m', hp, he, hm', hjm⟩
      · exact absurd e hne
      · obtain ⟨x, hx1, hx2, hx3⟩ := hasE_spec e
        exact hx3 ▸ hiall x hx1 hx2
      · obtain ⟨x, hx1, hx2, hx3⟩ := hasE_spec he
        exact dep_done hD inv.closed inv.dsize ops.size p (by omega) (hx3 ▸ hiall x hx1 hx2) m' hm' j hjm
    have hQ := hq.get (k := i) (by simpa using ho) hm hdl hc hb G s w inv.st.1 (by
      intro j hj hne ob hob
      have hjn : j < ops.size := by have := (List.getElem?_eq_some_iff.1 hob).1; omega
      exact inv.al j ob hjn hob (hdd j hj (fun e => hne (by omega))))
    rw [Nat.zero_add] at hQ
    have hexec : execOp a.eval o = execOp (putL A ops.toList (V G)).eval o := by
      refine execOp_congr o (fun cs b => Region.noSelect_spec hsel i o cs b ho) (fun x hx => eval_agree (fun u hu => hfr G d a w s inv u (fun k p hp hpu => ?_)))
      have hlook : u ∈ o.looksAt ops := by
        subst hu
        exact List.mem_append_left _ (List.mem_filterMap.2 ⟨.tmp u, by simpa using hx, rfl⟩)
      obtain ⟨e, he, hbd, hon⟩ := hasE_spec (hO.looks k p u hp hpu hlook)
      exact hon ▸ hiall e he hbd
    have hcnt : cntU (d.setIfInBounds i true) ops.size = f := by
      obtain ⟨h1, h2⟩ := cntU_set hisz hid (n := ops.size)
      rw [h1, if_pos hin]; omega
    have hdset : ∀ k, (d.setIfInBounds i true).getD k false = true → k = i ∨ d.getD k false = true := fun k hk => by
      by_cases hki : i = k
      · exact .inl hki.symm
      · rw [getD_set_ne false hki] at hk; exact .inr hk
    have hdmono : ∀ k, d.getD k false = true → (d.setIfInBounds i true).getD k false = true := fun k hk => by
      by_cases hki : i = k
      · subst hki; rw [hid] at hk; cases hk
      · rw [getD_set_ne false hki]; exact hk
    have hdsame : (d.setIfInBounds i true).getD i false = true := by simp [hisz]
    have hput : ∀ (u : Value) (q t : Tmp), o.dst = some t → t < A.tmps.size → (a.put o.dst u).tmps[q]? = if q = t then some u else a.tmps[q]? := by
      intro u q t hot htA
      rw [hot]
      unfold Act.put
      simp only
      by_cases hst : q = t
      · subst hst
        rw [if_pos rfl]
        simp [inv.size, htA]
      · rw [if_neg hst, Array.getElem?_setIfInBounds_ne (fun e => hst e.symm)]
    -- what was done depends on no block that is laid now
    have hsame : ∀ (G' : Nat → Nat), (∀ k, k ≠ i → G' k = G k) → ∀ k, d.getD k false = true → k < ops.size → gv (V G') k = gv (V G) k := by
      intro G' hG k hk hkn
      obtain ⟨l, hl⟩ : ∃ l, ds[k]? = some l := ⟨_, List.getElem?_eq_getElem (by omega)⟩
      refine hdep k l hl G' G (fun j hj => hG j (fun e => ?_))
      have := dep_done hD inv.closed inv.dsize ops.size k hkn hk l hl j hj
      rw [e, hid] at this
      cases this
    have hnew : ∀ (u : Value) (w' : World) (G' : Nat → Nat) (s' : Nat), GrN W w w' → K s' w' → s' ≤ cm → (∀ j c', j < ops.size → cs[j]? = some c' → 0 < c' → ((d.setIfInBounds i true).getD j false = true ↔ c' ≤ s')) → (∀ t, o.dst = some t → u = gv (V G') i) →
        (∀ ob, m = some ob → G' i = w.heap.size ∧ w'.heap[w.heap.size]? = some (ob G)) → (∀ k, k ≠ i → G' k = G k) →
        DInvI W K ops V ms cs cm A G' (d.setIfInBounds i true) (a.put o.dst u) w' s' := by
      intro u w' G' s' hg hK hscm hst hu hal hGk
      refine ⟨by rw [Array.size_setIfInBounds]; exact inv.dsize, ?_, ⟨hK, hscm, hst⟩, by rw [(put_size _ _ _).2]; exact inv.defers, by rw [(put_size _ _ _).1]; exact inv.size, Nat.le_trans inv.hsize hg.1, ?_, ?_, ?_, ?_⟩
      · intro j oj hj hdj e he hbd
        rcases hdset j hdj with e1 | e1
        · subst e1
          obtain rfl : oj = o := Option.some.inj (hj.symm.trans ho)
          exact hdmono _ (hiall e he hbd)
        · exact hdmono _ (inv.closed j oj hj e1 e he hbd)
      · intro q hs'
        have hqo : o.dst ≠ some q := fun e => by
          have := hs' i o ho e
          rw [hdsame] at this
          cases this
        rw [put_get _ _ _ _ hqo]
        refine inv.slot0 q (fun k p hp hps => ?_)
        have h1 := hs' k p hp hps
        cases h2 : d.getD k false with
        | false => rfl
        | true => rw [hdmono k h2] at h1; cases h1
      · intro k p t hp hps hk
        by_cases hki : k = i
        · subst hki
          obtain rfl : p = o := Option.some.inj (hp.symm.trans ho)
          rw [hput u t t hps (hA k p t ho hps), if_pos rfl, hu t hps]
        · have hk' := (hdset k hk).resolve_left hki
          have hne : (a.put o.dst u).tmps[t]? = a.tmps[t]? := put_get _ _ _ _ (fun e => hki (hO.apart k p t hp hps e))
          rw [hne, inv.slot1 k p t hp hps hk', hsame G' hGk k hk' (Array.getElem?_eq_some_iff.1 hp).1]
      · intro k ob hkn hmk hdk
        obtain ⟨l, hl⟩ : ∃ l, ds[k]? = some l := ⟨_, List.getElem?_eq_getElem (by omega)⟩
        by_cases hki : k = i
        · subst hki
          rw [hm] at hmk
          obtain ⟨g1, g2⟩ := hal ob (Option.some.inj hmk)
          rw [g1]
          refine ⟨inv.hsize, ?_⟩
          rw [hobj k l ob hl (by rw [hm]; exact hmk) G' G (fun j _ hne => hGk j hne)]
          exact g2
        · have hk' := (hdset k hdk).resolve_left hki
          obtain ⟨g1, g2⟩ := inv.al k ob hkn hmk hk'
          rw [hGk k hki]
          refine ⟨g1, ?_⟩
          rw [hobj k l ob hl hmk G' G (fun j hj _ => hGk j (fun e => by
            have := dep_done hD inv.closed inv.dsize ops.size k hkn hk' l hl j hj
            rw [e, hid] at this
            cases this))]
          exact (hg.2 _ g1 (Array.getElem?_eq_some_iff.1 g2).1).trans g2
      · intro j k obj obk hjn hkn hne hmj hmk hdj hdk
        have hlt : ∀ k ob, k < ops.size → ms[k]? = some (some ob) → d.getD k false = true → G k < w.heap.size := fun k ob h1 h2 h3 => (Array.getElem?_eq_some_iff.1 (inv.al k ob h1 h2 h3).2).1
        by_cases hji : j = i
        · have hki : k ≠ i := fun e => hne (hji.trans e.symm)
          have hk' := (hdset k hdk).resolve_left hki
          have h1 := hlt k obk hkn hmk hk'
          subst hji
          rw [hm] at hmj
          rw [(hal obj (Option.some.inj hmj)).1, hGk k hki]
          omega
        · have hj' := (hdset j hdj).resolve_left hji
          by_cases hki : k = i
          · have h1 := hlt j obj hjn hmj hj'
            subst hki
            rw [hm] at hmk
            rw [(hal obk (Option.some.inj hmk)).1, hGk j hji]
            omega
          · have hk' := (hdset k hdk).resolve_left hki
            rw [hGk j hji, hGk k hki]
            exact inv.inj j k obj obk hjn hkn hne hmj hmk hj' hk'
    -- the stage behind it
    have hstay : c = 0 → ∀ j c', j < ops.size → cs[j]? = some c' → 0 < c' → ((d.setIfInBounds i true).getD j false = true ↔ c' ≤ s) := by
      intro hc0 j c' hj hcj hpos
      have hji : i ≠ j := fun e => by subst e; rw [hc] at hcj; have := Option.some.inj hcj; omega
      rw [getD_set_ne false hji]
      exact inv.st.2.2 j c' hj hcj hpos
    have hsb : c = 0 → s ≤ b := by
      intro hc0
      rcases Nat.lt_or_ge b cm with hbc | hbc
      · obtain ⟨j, q, hq', hcj, hE⟩ := hO.low hc0 hbc
        rcases Nat.lt_or_ge b s with hlt | hge
        · exfalso
          have hj : j < ops.size := (Array.getElem?_eq_some_iff.1 hq').1
          have hdone := (inv.st.2.2 j (b + 1) hj hcj (by omega)).2 (by omega)
          obtain ⟨e, he1, he2, he3⟩ := hasE_spec hE
          have := inv.closed j q hq' hdone e he1 he2
          rw [he3, hid] at this
          cases this
        · exact hge
      · have := inv.st.2.1
        omega
    unfold wpOp
    rw [ho]
    simp only
    have hw : Region.wanted o (yielded ops a.tmps) = true := by unfold Region.wanted; rw [hO.guard]
    rw [if_pos hw]
    refine .inl ?_
    unfold Oper.wp
    rw [hexec]
    by_cases hc0 : c = 0
    · cases m with
      | some ob =>
        rw [hQ hc0 (hsb hc0)]
        have hal : (w.alloc (ob G)).heap[w.heap.size]? = some (ob G) := heap_new w (ob G)
        refine ih _ _ _ (updG G i w.heap.size) s (hnew _ _ _ s (GrN.alloc _ _ _) (hKa _ _ _ inv.st.1) inv.st.2.1 (hstay hc0) (fun t _ => rfl) (fun ob' h => ?_) (fun k hk => if_neg hk)) hcnt
        cases h
        exact ⟨if_pos rfl, hal⟩
      | none =>
        simp only [hc0, Nat.lt_irrefl, if_false] at hQ
        rcases hQ (hsb hc0) with ⟨w', h1, h2, h3⟩ | ⟨fn, args, h1, h2⟩ | ⟨w', h1, hdn, h2, h3⟩
        · rw [h1]
          exact ih _ _ _ G s (hnew _ w' G s h3 h2 inv.st.2.1 (hstay hc0) (fun _ _ => rfl) (fun ob h => by cases h) (fun _ _ => rfl)) hcnt
        · rw [h1]
          refine h2.mono (fun e w' h => ?_)
          obtain ⟨rfl, hk, hg⟩ := h
          exact ih _ _ _ G s (hnew _ w' G s hg hk inv.st.2.1 (hstay hc0) (fun _ _ => rfl) (fun ob h => by cases h) (fun _ _ => rfl)) hcnt
        · rw [h1]
          exact ih _ _ _ G s (hnew _ w' G s h3 h2 inv.st.2.1 (hstay hc0) (fun t ht => by rw [hdn] at ht; cases ht) (fun ob h => by cases h) (fun _ _ => rfl)) hcnt
    · have hcp : 0 < c := by omega
      obtain ⟨hmn, hccm, hpre⟩ := hO.high hcp
      obtain rfl : m = none := by
        cases m with
        | none => rfl
        | some ob => rw [hmm] at hmn; cases hmn
      have hnot : ¬ c ≤ s := fun h => by
        have := (inv.st.2.2 i c hin hc hcp).2 h
        rw [hid] at this; cases this
      have hs1 : s + 1 = c := by
        rcases hpre with h | ⟨j, hj, hcj, hE⟩
        · omega
        · rcases Nat.eq_zero_or_pos (c - 1) with h0 | h0
          · omega
          · obtain ⟨e, he1, he2, he3⟩ := hasE_spec hE
            have := (inv.st.2.2 j (c - 1) hj hcj h0).1 (he3 ▸ hiall e he1 he2)
            omega
      have hgo : ∀ j c', j < ops.size → cs[j]? = some c' → 0 < c' → ((d.setIfInBounds i true).getD j false = true ↔ c' ≤ c) := by
        intro j c' hj hcj hpos
        by_cases hji : i = j
        · subst hji
          rw [hc] at hcj
          have := Option.some.inj hcj
          exact ⟨fun _ => by omega, fun _ => hdsame⟩
        · rw [getD_set_ne false hji, inv.st.2.2 j c' hj hcj hpos]
          have hne : c' ≠ c := fun e => hji (hO.alone hcp j hj (e ▸ hcj)).symm
          omega
      simp only [hcp, if_true] at hQ
      rcases hQ hs1 with ⟨w', h1, h2, h3⟩ | ⟨fn, args, h1, h2⟩ | ⟨w', h1, hdn, h2, h3⟩
      · rw [h1]
        exact ih _ _ _ G c (hnew _ w' G c h3 h2 hccm hgo (fun _ _ => rfl) (fun ob h => by cases h) (fun _ _ => rfl)) hcnt
      · rw [h1]
        refine h2.mono (fun e w' h => ?_)
        obtain ⟨rfl, hk, hg⟩ := h
        exact ih _ _ _ G c (hnew _ w' G c hg hk hccm hgo (fun _ _ => rfl) (fun ob h => by cases h) (fun _ _ => rfl)) hcnt
      · rw [h1]
        exact ih _ _ _ G c (hnew _ w' G c h3 h2 hccm hgo (fun t ht => by rw [hdn] at ht; cases ht) (fun ob h => by cases h) (fun _ _ => rfl)) hcnt
/-- A region that draws, each operation looked at once; values may name the new blocks' numbers. -/
theorem qRegionSi {id : Nat} {R : Exit → Act → World → Prop} {a : Act} {w : World} {l : List Oper} (K : Nat → World → Prop) (V : (Nat → Nat) → List Value) (ms : List ObD) (ds : List (List Nat)) (cs bs : List Nat) (cm : Nat) (hm : P.follows .mixedOrders = true) (hB : stB l.toArray (msL ms) cs bs cm = true) (hD : depB l.toArray ds = true)
    (hvs : ∀ G, (V G).length = l.length) (hms : ms.length = l.length) (hds : ds.length = l.length) (hsz : l.all (fun o => match o.dst with | some t => decide (t < a.tmps.size) | none => true) = true)
    (hdep : ∀ (k : Nat) (l : List Nat), ds[k]? = some l → ∀ G G' : Nat → Nat, (∀ j ∈ l, G j = G' j) → gv (V G) k = gv (V G') k)
    (hobj : ∀ (k : Nat) (l : List Nat) (ob : (Nat → Nat) → Obj), ds[k]? = some l → ms[k]? = some (some ob) → ∀ G G' : Nat → Nat, (∀ j ∈ l, j ≠ k → G j = G' j) → ob G = ob G')
    (hK0 : K 0 w.drew) (hKa : ∀ s w o, K s w → K s (w.alloc o))
    (hq : AllSd P w K a l V ms 0 l ms ds cs bs)
    (h : ∀ (G : Nat → Nat) w', K cm w' → w.heap.size ≤ w'.heap.size → (∀ k ob, ms[k]? = some (some ob) → w.heap.size ≤ G k ∧ w'.heap[G k]? = some (ob G)) → (∀ j k obj obk, j ≠ k → ms[j]? = some (some obj) → ms[k]? = some (some obk) → G j ≠ G k) → R .normal (putL a l (V G)) w') : (Code.region id l.toArray true).wp P R a w := by
  refine wp_region_any hm ?_
  have hA : ∀ (k : Nat) (o : Oper) (t : Tmp), l.toArray[k]? = some o → o.dst = some t → t < a.tmps.size := fun k o t ho ht => by
    have := List.all_eq_true.1 hsz o (List.mem_of_getElem? (i := k) (by simpa using ho))
    rw [ht] at this
    simpa using this
  have hmain := region_si (R := R) (W := w) (K := K) hB hD (by simpa using hq) (by simpa using hvs) (by simpa using hms) (by simpa using hds) hdep hobj hKa hA (fun a' w' G hk hs hG hj e => by rw [e]; exact h G w' hk hs hG hj)
  have inv0 : DInvI w K l.toArray V ms cs cm a (fun _ => 0) (Array.replicate l.toArray.size false) a { w with drawn := w.drawn + 1 } 0 := by
    refine ⟨by simp, fun j oj _ hj => (by rw [getD_replicate_false] at hj; cases hj), ⟨hK0, Nat.zero_le _, fun i c _ _ hp => ⟨fun hd => (by rw [getD_replicate_false] at hd; cases hd), fun hd => by omega⟩⟩, rfl, rfl, Nat.le_refl _, fun _ _ => rfl, ?_, ?_, ?_⟩
    · intro k o t _ _ hd
      rw [getD_replicate_false] at hd; cases hd
    · intro k ob _ _ hd
      rw [getD_replicate_false] at hd; cases hd
    · intro j k obj obk _ _ _ _ _ hd
      rw [getD_replicate_false] at hd; cases hd
  have := hmain _ _ a _ _ 0 inv0 rfl
  refine wpAny_le ?_ this
  exact cntU_le _ _
end
section
variable {P : Program} {W : World} {K : Nat → World → Prop} {A : Act} {l : List Oper} {V : (Nat → Nat) → List Value} {ms : List ObD} {i : Nat} {o : Oper} {ds : List Nat} {b : Nat}
/-- An operation that yields a value and changes the memory. -/
theorem OneSd.put {s : Nat} (h : ∀ G w, K s w → LkD W w ms ds i G → ∃ w', (execOp (putL A l (V G)).eval o).run P w = .ok (.value (gv (V G) i)) w' ∧ K (s + 1) w' ∧ GrN W w w') : OneSd P W K A l V ms i o none ds (s + 1) b := by
  intro G s' w hK hL
  show if 0 < s + 1 then _ else _
  rw [if_pos (by omega)]
  intro e
  obtain rfl : s' = s := by omega
  exact .inl (h G w hK hL)
end
end Go.Proofs.YtidgicbhgnbidaaGreatDoor

/- As Qsd, where the region's last operations come in one order: they are walked on. No program in sight. Printed by gen_Qse.py. -/
namespace Go.Proofs.YtidgicbhgnbidaaGreatDoor
open Go.RowKit

/-- What an operation depends on is done when it is ready. -/
def depE (ops : Array Oper) (n : Nat) (ds : List (List Nat)) : Bool :=
  (List.range n).all fun k => match ops[k]?, ds[k]? with
    | some o, some l => l.all fun j => j == k || hasE o j || (List.range k).any fun p => hasE o p && (match ds[p]? with
      | some m => m.contains j
      | none => false)
    | _, _ => false
theorem depE_spec {ops : Array Oper} {n : Nat} {ds : List (List Nat)} (h : depE ops n ds = true) {k : Nat} {o : Oper} {l : List Nat} (hk : k < n) (ho : ops[k]? = some o) (hl : ds[k]? = some l) {j : Nat} (hj : j ∈ l) :
    j = k ∨ hasE o j = true ∨ ∃ p m, p < k ∧ hasE o p = true ∧ ds[p]? = some m ∧ j ∈ m := by
  have h1 := List.all_eq_true.1 h k (List.mem_range.2 hk)
  rw [ho, hl] at h1
  have h2 := List.all_eq_true.1 h1 j hj
  simp only [Bool.or_eq_true, beq_iff_eq] at h2
  rcases h2 with (h2 | h2) | h2
  · exact .inl h2
  · exact .inr (.inl h2)
  · obtain ⟨p, hp, hp2⟩ := List.any_eq_true.1 h2
    simp only [Bool.and_eq_true] at hp2
    cases hm : ds[p]? with
    | none => rw [hm] at hp2; cases hp2.2
    | some m => rw [hm] at hp2; exact .inr (.inr ⟨p, m, List.mem_range.1 hp, hp2.1, hm, List.contains_iff_mem.1 hp2.2⟩)
theorem dep_doneE {ops : Array Oper} {n : Nat} {ds : List (List Nat)} (h : depE ops n ds = true) {d : Array Bool} (hcl : ∀ j oj, ops[j]? = some oj → d.getD j false = true → ∀ e ∈ oj.after, Region.binds .any e = true → d.getD e.on false = true) (hsz : d.size = ops.size) :
    ∀ (f k : Nat), k < f → k < n → d.getD k false = true → ∀ l, ds[k]? = some l → ∀ j ∈ l, d.getD j false = true
  | 0, k, hk, _, _, _, _, _, _ => by omega
  | f + 1, k, hk, hkn, hd, l, hl, j, hj => by
    have hks : k < ops.size := by
      rcases Nat.lt_or_ge k ops.size with h1 | h1
      · exact h1
      · rw [Array.getD_eq_getD_getElem?, Array.getElem?_eq_none (by omega)] at hd; cases hd
    obtain ⟨o, ho⟩ : ∃ o, ops[k]? = some o := ⟨_, Array.getElem?_eq_getElem hks⟩
    rcases depE_spec h hkn ho hl hj with e | e | ⟨p, m, hp, he, hm, hjm⟩
    · rw [e]; exact hd
    · obtain ⟨x, hx1, hx2, hx3⟩ := hasE_spec e
      rw [← hx3]; exact hcl k o ho hd x hx1 hx2
    · obtain ⟨x, hx1, hx2, hx3⟩ := hasE_spec he
      have hdp := hcl k o ho hd x hx1 hx2
      rw [hx3] at hdp
      exact dep_doneE h hcl hsz f p (by omega) (by omega) hdp m hm j hjm
structure EInv (n : Nat) (W : World) (K : Nat → World → Prop) (ops : Array Oper) (V : (Nat → Nat) → List Value) (ms : List ObD) (cs : List Nat) (cm : Nat) (A : Act) (G : Nat → Nat) (d : Array Bool) (a : Act) (w : World) (s : Nat) : Prop where
  head : HeadInv .any ops n d
  st : K s w ∧ s ≤ cm ∧ ∀ i c, i < n → cs[i]? = some c → 0 < c → (d.getD i false = true ↔ c ≤ s)
  defers : a.defers = A.defers
  size : a.tmps.size = A.tmps.size
  hsize : W.heap.size ≤ w.heap.size
  slot0 : ∀ t, (∀ k o, k < n → ops[k]? = some o → o.dst = some t → d.getD k false = false) → a.tmps[t]? = A.tmps[t]?
  slot1 : ∀ k o t, k < n → ops[k]? = some o → o.dst = some t → d.getD k false = true → a.tmps[t]? = some (gv (V G) k)
  al : ∀ k ob, k < n → ms[k]? = some (some ob) → d.getD k false = true → W.heap.size ≤ G k ∧ w.heap[G k]? = some (ob G)
section
variable {n : Nat} {P : Program} {W : World} {K : Nat → World → Prop} {ops : Array Oper} {V : (Nat → Nat) → List Value} {ms : List ObD} {ds : List (List Nat)} {cs bs : List Nat} {cm : Nat} {A : Act}
theorem region_se {R : Exit → Act → World → Prop} (hsel : Region.noSelect ops = true) (hn : n < ops.size) (hs : Region.sinkB .any ops n = true) (hc : Region.chainB .any ops n = true) (hseq : Region.seqB .any ops (ops.size - n) n (allB ops.size n) = true) (hops : (List.range n).all (opSt ops (msL ms) cs bs cm) = true) (hcm : (cm == 0 || (List.range n).any (fun j => cs[j]? == some cm)) = true) (hD : depE ops n ds = true) (hq : AllSd P W K A (ops.toList.take n) V ms 0 (ops.toList.take n) ms ds cs bs) (hvs : ∀ G, (V G).length = n) (hms : ms.length = n) (hds : ds.length = n) (hcsl : cs.length ≤ n)
    (hdep : ∀ (k : Nat) (l : List Nat), ds[k]? = some l → ∀ G G' : Nat → Nat, (∀ j ∈ l, G j = G' j) → gv (V G) k = gv (V G') k)
    (hobj : ∀ (k : Nat) (l : List Nat) (ob : (Nat → Nat) → Obj), ds[k]? = some l → ms[k]? = some (some ob) → ∀ G G' : Nat → Nat, (∀ j ∈ l, j ≠ k → G j = G' j) → ob G = ob G')
    (hKa : ∀ s w o, K s w → K s (w.alloc o)) (hA : ∀ (k : Nat) (o : Oper) (t : Tmp), k < n → ops[k]? = some o → o.dst = some t → t < A.tmps.size)
    (hend : ∀ a w G, K cm w → W.heap.size ≤ w.heap.size → (∀ k ob, ms[k]? = some (some ob) → W.heap.size ≤ G k ∧ w.heap[G k]? = some (ob G)) → a = putL A (ops.toList.take n) (V G) → wpList P ops R (ops.toList.drop n) a w) :
    ∀ (f : Nat) (d : Array Bool) (a : Act) (w : World) (G : Nat → Nat) (s : Nat), EInv n W K ops V ms cs cm A G d a w s → cntU d n = f → wpAny P .any ops R (f + (ops.size - n)) d a w := by
  have hdl : (ops.toList.drop n).length = ops.size - n := by simp
  have htk : ∀ (i : Nat) (o : Oper), i < n → ops[i]? = some o → (ops.toList.take n)[i]? = some o := fun i o hi ho => by
    rw [List.getElem?_take_of_lt hi]; simpa using ho
  have htk2 : ∀ (i : Nat) (o : Oper), (ops.toList.take n)[i]? = some o → i < n ∧ ops[i]? = some o := fun i o ho => by
    have hi : i < n := by
      have := (List.getElem?_eq_some_iff.1 ho).1
      rw [List.length_take] at this; omega
    rw [List.getElem?_take_of_lt hi] at ho
    exact ⟨hi, by simpa using ho⟩
  have htl : (ops.toList.take n).length = n := by rw [List.length_take]; simp; omega
  have hok : ∀ i, i < n → ∃ o m c b, ops[i]? = some o ∧ (msL ms)[i]? = some m ∧ cs[i]? = some c ∧ bs[i]? = some b ∧ OpSt ops (msL ms) cs bs cm i o m c b := fun i hi => opSt_spec (List.all_eq_true.1 hops i (List.mem_range.2 hi))
  have hap : ∀ (j : Nat) (o : Oper) (t : Tmp), j < n → ops[j]? = some o → o.dst = some t → ∀ (i : Nat) (p : Oper), (ops.toList.take n)[i]? = some p → i ≠ j → p.dst ≠ some t := by
    intro j o t hjn hj hot i p hp hne e
    obtain ⟨o', m', c', b', ho', _, _, _, hO⟩ := hok j hjn
    obtain rfl : o' = o := Option.some.inj (ho'.symm.trans hj)
    exact hne (hO.apart i p t (htk2 i p hp).2 e hot)
  -- what a frame holds where an operation looks
  have hfr : ∀ (G : Nat → Nat) (d : Array Bool) (a : Act) (w : World) (s : Nat), EInv n W K ops V ms cs cm A G d a w s → ∀ t, (∀ (k : Nat) (o : Oper), k < n → ops[k]? = some o → o.dst = some t → d.getD k false = true) → a.tmps[t]? = (putL A (ops.toList.take n) (V G)).tmps[t]? := by
    intro G d a w s inv t ht
    by_cases hx : ∃ (j : Nat) (o : Oper), j < n ∧ ops[j]? = some o ∧ o.dst = some t
    · obtain ⟨j, o, hjn, hj, hot⟩ := hx
      rw [inv.slot1 j o t hjn hj hot (ht j o hjn hj hot)]
      exact (putL_gv (k := j) (o := o) (htk j o hjn hj) (by rw [hvs, htl]) hot (hA j o t hjn hj hot) (hap j o t hjn hj hot)).symm
    · rw [putL_get (ops.toList.take n) (V G) A t (fun o ho e => by
        obtain ⟨j, hj⟩ := List.getElem?_of_mem ho
        obtain ⟨h1, h2⟩ := htk2 j o hj
        exact hx ⟨j, o, h1, h2, e⟩)]
      exact inv.slot0 t (fun k o hkn hk hot => absurd ⟨k, o, hkn, hk, hot⟩ hx)
  intro f
  induction f with
  | zero =>
    intro d a w G s inv hcn
    have hall := cntU_zero hcn
    have hd : d = allB ops.size n := by
      refine Array.ext (by unfold allB; rw [inv.head.size]; simp; omega) (fun i h1 h2 => ?_)
      rw [inv.head.size] at h1
      have hg : d.getD i false = (allB ops.size n).getD i false := by
        by_cases hin : i < n
        · rw [hall i hin]
          unfold allB
          simp [Array.getElem?_append, hin]
        · have h3 := getD_both (inv.head.tail i (by omega) h1)
          rw [h3]
          unfold allB
          simp only [Array.getD_eq_getD_getElem?, Array.getElem?_append, Array.size_replicate, hin, if_false, Array.getElem?_replicate]
          split <;> rfl
      have e1 : d.getD i false = d[i] := by simp [inv.head.size, h1]
      have e2 : (allB ops.size n).getD i false = (allB ops.size n)[i] := by
        rw [Array.getD_eq_getD_getElem?, Array.getElem?_eq_getElem h2]; rfl
      rw [e1, e2] at hg
      exact hg
    rw [Nat.zero_add]
    have := wpAny_of_seq (P := P) (md := .any) (Q' := R) (ops.toList.drop n) n d a w (fun j => by simp [List.getElem?_drop]) (by rw [hdl, hd]; exact hseq) (hend a w G (by
      have hs' : s = cm := by
        have hle := inv.st.2.1
        simp only [Bool.or_eq_true, beq_iff_eq] at hcm
        rcases hcm with h | h
        · omega
        · obtain ⟨j, hj, hj2⟩ := List.any_eq_true.1 h
          have hjn := List.mem_range.1 hj
          rcases Nat.eq_zero_or_pos cm with h0 | h0
          · omega
          · have := (inv.st.2.2 j cm hjn (by simpa using hj2) h0).1 (hall j hjn)
            omega
      exact hs' ▸ inv.st.1) inv.hsize (fun k ob hk => by
        have hkn := (List.getElem?_eq_some_iff.1 hk).1
        exact inv.al k ob (by omega) hk (hall k (by omega))) (by
        have hgs := putL_size (ops.toList.take n) (V G) A
        refine act_ext (inv.defers.trans hgs.2.symm) (inv.size.trans hgs.1.symm) (fun t => ?_)
        exact hfr G d a w s inv t (fun k o hkn hk _ => hall k hkn)))
    rwa [hdl] at this
  | succ f ih =>
    intro d a w G s inv hcn
    obtain ⟨k0, hk0, hk1, hk2⟩ := cntU_some (d := d) (n := n) (by omega)
    have hr0 : k0 ∈ Region.ready .any ops d := by
      obtain ⟨o, m, c, b, ho, _, _, _, hO⟩ := hok k0 hk0
      exact mem_ready.2 ⟨getD_in (by rw [inv.head.size]; omega) hk1, o, ho, fun e he hb => hk2 _ (hO.back e he hb)⟩
    have hlow : ∀ j ∈ Region.ready .any ops d, j < n := fun j hj => by
      rcases Nat.lt_or_ge j n with h | h
      · exact h
      · exact absurd hj (tail_waits hs hc hn inv.head _ k0 rfl hk0 (mem_ready.1 hr0).1 j h)
    rw [Nat.succ_add]
    refine ⟨fun h => (by rw [h] at hr0; cases hr0), fun i hi => ?_⟩
    have hin := hlow i hi
    obtain ⟨hiu, oi, hoi, hiall⟩ := mem_ready.1 hi
    obtain ⟨o, mL, c, b, ho, hmL, hc, hb, hO⟩ := hok i hin
    obtain rfl : o = oi := Option.some.inj (ho.symm.trans hoi)
    obtain ⟨m, hm⟩ : ∃ m, ms[i]? = some m := ⟨_, List.getElem?_eq_getElem (by omega)⟩
    have hmm : mL = m.map fun ob => (ob fun _ => 0, fun _ => undef) := by
      rw [msL_get, hm] at hmL
      exact (Option.some.inj hmL).symm
    obtain ⟨dl, hdl⟩ : ∃ dl, ds[i]? = some dl := ⟨_, List.getElem?_eq_getElem (by omega)⟩
    have hid : d.getD i false = false := getD_both hiu
    have hisz : i < d.size := by rw [inv.head.size]; omega
    have hdd : ∀ j ∈ dl, j ≠ i → d.getD j false = true := by
      intro j hj hne
      rcases depE_spec hD hin ho hdl hj with e | e | ⟨p, m', hp, he, hm', hjm⟩
      · exact absurd e hne
      · obtain ⟨x, hx1, hx2, hx3⟩ := hasE_spec e
        exact hx3 ▸ hiall x hx1 hx2
      · obtain ⟨x, hx1, hx2, hx3⟩ := hasE_spec he
        exact dep_doneE hD inv.head.closed inv.head.size n p (by omega) (by omega) (hx3 ▸ hiall x hx1 hx2) m' hm' j hjm
    have hQ := hq.get (k := i) (htk i o hin ho) hm hdl hc hb G s w inv.st.1 (by
      intro j hj hne ob hob
      have hjn : j < n := by have := (List.getElem?_eq_some_iff.1 hob).1; omega
      exact inv.al j ob hjn hob (hdd j hj (fun e => hne (by omega))))
    rw [Nat.zero_add] at hQ
    have hexec : execOp a.eval o = execOp (putL A (ops.toList.take n) (V G)).eval o := by
      refine execOp_congr o (fun cs b => Region.noSelect_spec hsel i o cs b ho) (fun x hx => eval_agree (fun u hu => hfr G d a w s inv u (fun k p hkn hp hpu => ?_)))
      have hlook : u ∈ o.looksAt ops := by
        subst hu
        exact List.mem_append_left _ (List.mem_filterMap.2 ⟨.tmp u, by simpa using hx, rfl⟩)
      obtain ⟨e, he, hbd, hon⟩ := hasE_spec (hO.looks k p u hp hpu hlook)
      exact hon ▸ hiall e he hbd
    have hcnt : cntU (d.setIfInBounds i true) n = f := by
      obtain ⟨h1, h2⟩ := cntU_set hisz hid (n := n)
      rw [h1, if_pos hin]; omega
    have hdset : ∀ k, (d.setIfInBounds i true).getD k false = true → k = i ∨ d.getD k false = true := fun k hk => by
      by_cases hki : i = k
      · exact .inl hki.symm
      · rw [getD_set_ne false hki] at hk; exact .inr hk
    have hdmono : ∀ k, d.getD k false = true → (d.setIfInBounds i true).getD k false = true := fun k hk => by
      by_cases hki : i = k
      · subst hki; rw [hid] at hk; cases hk
      · rw [getD_set_ne false hki]; exact hk
    have hdsame : (d.setIfInBounds i true).getD i false = true := by simp [hisz]
    have hput : ∀ (u : Value) (q t : Tmp), o.dst = some t → t < A.tmps.size → (a.put o.dst u).tmps[q]? = if q = t then some u else a.tmps[q]? := by
      intro u q t hot htA
      rw [hot]
      unfold Act.put
      simp only
      by_cases hst : q = t
      · subst hst
        rw [if_pos rfl]
        simp [inv.size, htA]
      · rw [if_neg hst, Array.getElem?_setIfInBounds_ne (fun e => hst e.symm)]
    -- what was done depends on no block that is laid now
    have hsame : ∀ (G' : Nat → Nat), (∀ k, k ≠ i → G' k = G k) → ∀ k, d.getD k false = true → k < n → gv (V G') k = gv (V G) k := by
      intro G' hG k hk hkn
      obtain ⟨l, hl⟩ : ∃ l, ds[k]? = some l := ⟨_, List.getElem?_eq_getElem (by omega)⟩
      refine hdep k l hl G' G (fun j hj => hG j (fun e => ?_))
      have := dep_doneE hD inv.head.closed inv.head.size n k hkn hkn hk l hl j hj
      rw [e, hid] at this
      cases this
    have hnew : ∀ (u : Value) (w' : World) (G' : Nat → Nat) (s' : Nat), GrN W w w' → K s' w' → s' ≤ cm → (∀ j c', j < n → cs[j]? = some c' → 0 < c' → ((d.setIfInBounds i true).getD j false = true ↔ c' ≤ s')) → (∀ t, o.dst = some t → u = gv (V G') i) →
        (∀ ob, m = some ob → G' i = w.heap.size ∧ w'.heap[w.heap.size]? = some (ob G)) → (∀ k, k ≠ i → G' k = G k) →
        EInv n W K ops V ms cs cm A G' (d.setIfInBounds i true) (a.put o.dst u) w' s' := by
      intro u w' G' s' hg hK hscm hst hu hal hGk
      refine ⟨inv.head.set hi hin, ⟨hK, hscm, hst⟩, by rw [(put_size _ _ _).2]; exact inv.defers, by rw [(put_size _ _ _).1]; exact inv.size, Nat.le_trans inv.hsize hg.1, ?_, ?_, ?_⟩
      · intro q hs'
        have hqo : o.dst ≠ some q := fun e => by
          have := hs' i o hin ho e
          rw [hdsame] at this
          cases this
        rw [put_get _ _ _ _ hqo]
        refine inv.slot0 q (fun k p hkn hp hps => ?_)
        have h1 := hs' k p hkn hp hps
        cases h2 : d.getD k false with
        | false => rfl
        | true => rw [hdmono k h2] at h1; cases h1
      · intro k p t hkn hp hps hk
        by_cases hki : k = i
        · subst hki
          obtain rfl : p = o := Option.some.inj (hp.symm.trans ho)
          rw [hput u t t hps (hA k p t hkn ho hps), if_pos rfl, hu t hps]
        · have hk' := (hdset k hk).resolve_left hki
          have hne : (a.put o.dst u).tmps[t]? = a.tmps[t]? := put_get _ _ _ _ (fun e => hki (hO.apart k p t hp hps e))
          rw [hne, inv.slot1 k p t hkn hp hps hk', hsame G' hGk k hk' hkn]
      · intro k ob hkn hmk hdk
        obtain ⟨l, hl⟩ : ∃ l, ds[k]? = some l := ⟨_, List.getElem?_eq_getElem (by omega)⟩
        by_cases hki : k = i
        · subst hki
          rw [hm] at hmk
          obtain ⟨g1, g2⟩ := hal ob (Option.some.inj hmk)
          rw [g1]
          refine ⟨inv.hsize, ?_⟩
          rw [hobj k l ob hl (by rw [hm]; exact hmk) G' G (fun j _ hne => hGk j hne)]
          exact g2
        · have hk' := (hdset k hdk).resolve_left hki
          obtain ⟨g1, g2⟩ := inv.al k ob hkn hmk hk'
          rw [hGk k hki]
          refine ⟨g1, ?_⟩
          rw [hobj k l ob hl hmk G' G (fun j hj _ => hGk j (fun e => by
            have := dep_doneE hD inv.head.closed inv.head.size n k hkn hkn hk' l hl j hj
            rw [e, hid] at this
            cases this))]
          exact (hg.2 _ g1 (Array.getElem?_eq_some_iff.1 g2).1).trans g2
    -- the stage behind it
    have hstay : c = 0 → ∀ j c', j < n → cs[j]? = some c' → 0 < c' → ((d.setIfInBounds i true).getD j false = true ↔ c' ≤ s) := by
      intro hc0 j c' hj hcj hpos
      have hji : i ≠ j := fun e => by subst e; rw [hc] at hcj; have := Option.some.inj hcj; omega
      rw [getD_set_ne false hji]
      exact inv.st.2.2 j c' hj hcj hpos
    have hsb : c = 0 → s ≤ b := by
      intro hc0
      rcases Nat.lt_or_ge b cm with hbc | hbc
      · obtain ⟨j, q, hq', hcj, hE⟩ := hO.low hc0 hbc
        rcases Nat.lt_or_ge b s with hlt | hge
        · exfalso
          have hj : j < n := by have := (List.getElem?_eq_some_iff.1 hcj).1; have := hcsl; omega
          have hdone := (inv.st.2.2 j (b + 1) hj hcj (by omega)).2 (by omega)
          obtain ⟨e, he1, he2, he3⟩ := hasE_spec hE
          have := inv.head.closed j q hq' hdone e he1 he2
          rw [he3, hid] at this
          cases this
        · exact hge
      · have := inv.st.2.1
        omega
    unfold wpOp
    rw [ho]
    simp only
    have hw : Region.wanted o (yielded ops a.tmps) = true := by unfold Region.wanted; rw [hO.guard]
    rw [if_pos hw]
    refine .inl ?_
    unfold Oper.wp
    rw [hexec]
    by_cases hc0 : c = 0
    · cases m with
      | some ob =>
        rw [hQ hc0 (hsb hc0)]
        have hal : (w.alloc (ob G)).heap[w.heap.size]? = some (ob G) := heap_new w (ob G)
        refine ih _ _ _ (updG G i w.heap.size) s (hnew _ _ _ s (GrN.alloc _ _ _) (hKa _ _ _ inv.st.1) inv.st.2.1 (hstay hc0) (fun t _ => rfl) (fun ob' h => ?_) (fun k hk => if_neg hk)) hcnt
        cases h
        exact ⟨if_pos rfl, hal⟩
      | none =>
        simp only [hc0, Nat.lt_irrefl, if_false] at hQ
        rcases hQ (hsb hc0) with ⟨w', h1, h2, h3⟩ | ⟨fn, args, h1, h2⟩ | ⟨w', h1, hdn, h2, h3⟩
        · rw [h1]
          exact ih _ _ _ G s (hnew _ w' G s h3 h2 inv.st.2.1 (hstay hc0) (fun _ _ => rfl) (fun ob h => by cases h) (fun _ _ => rfl)) hcnt
        · rw [h1]
          refine h2.mono (fun e w' h => ?_)
          obtain ⟨rfl, hk, hg⟩ := h
          exact ih _ _ _ G s (hnew _ w' G s hg hk inv.st.2.1 (hstay hc0) (fun _ _ => rfl) (fun ob h => by cases h) (fun _ _ => rfl)) hcnt
        · rw [h1]
          exact ih _ _ _ G s (hnew _ w' G s h3 h2 inv.st.2.1 (hstay hc0) (fun t ht => by rw [hdn] at ht; cases ht) (fun ob h => by cases h) (fun _ _ => rfl)) hcnt
    · have hcp : 0 < c := by omega
      obtain ⟨hmn, hccm, hpre⟩ := hO.high hcp
      obtain rfl : m = none := by
        cases m with
        | none => rfl
        | some ob => rw [hmm] at hmn; cases hmn
      have hnot : ¬ c ≤ s := fun h => by
        have := (inv.st.2.2 i c hin hc hcp).2 h
        rw [hid] at this; cases this
      have hs1 : s + 1 = c := by
        rcases hpre with h | ⟨j, _, hcj, hE⟩
        · omega
        · have hj : j < n := by have := (List.getElem?_eq_some_iff.1 hcj).1; omega
          rcases Nat.eq_zero_or_pos (c - 1) with h0 | h0
          · omega
          · obtain ⟨e, he1, he2, he3⟩ := hasE_spec hE
            have := (inv.st.2.2 j (c - 1) hj hcj h0).1 (he3 ▸ hiall e he1 he2)
            omega
      have hgo : ∀ j c', j < n → cs[j]? = some c' → 0 < c' → ((d.setIfInBounds i true).getD j false = true ↔ c' ≤ c) := by
        intro j c' hj hcj hpos
        by_cases hji : i = j
        · subst hji
          rw [hc] at hcj
          have := Option.some.inj hcj
          exact ⟨fun _ => by omega, fun _ => hdsame⟩
        · rw [getD_set_ne false hji, inv.st.2.2 j c' hj hcj hpos]
          have hne : c' ≠ c := fun e => hji (hO.alone hcp j (by omega) (e ▸ hcj)).symm
          omega
      simp only [hcp, if_true] at hQ
      rcases hQ hs1 with ⟨w', h1, h2, h3⟩ | ⟨fn, args, h1, h2⟩ | ⟨w', h1, hdn, h2, h3⟩
      · rw [h1]
        exact ih _ _ _ G c (hnew _ w' G c h3 h2 hccm hgo (fun _ _ => rfl) (fun ob h => by cases h) (fun _ _ => rfl)) hcnt
      · rw [h1]
        refine h2.mono (fun e w' h => ?_)
        obtain ⟨rfl, hk, hg⟩ := h
        exact ih _ _ _ G c (hnew _ w' G c hg hk hccm hgo (fun _ _ => rfl) (fun ob h => by cases h) (fun _ _ => rfl)) hcnt
      · rw [h1]
        exact ih _ _ _ G c (hnew _ w' G c h3 h2 hccm hgo (fun t ht => by rw [hdn] at ht; cases ht) (fun ob h => by cases h) (fun _ _ => rfl)) hcnt
/-- The first n operations in whatever order; what comes last has one order only. -/
def seB (ops : Array Oper) (n : Nat) (ms : List Laid) (cs bs : List Nat) (cm : Nat) : Bool :=
  Region.noSelect ops && decide (n < ops.size) && Region.sinkB .any ops n && Region.chainB .any ops n && Region.seqB .any ops (ops.size - n) n (allB ops.size n) && (List.range n).all (opSt ops ms cs bs cm) && (cm == 0 || (List.range n).any (fun j => cs[j]? == some cm)) && decide (cs.length ≤ n)
theorem qRegionSe {id : Nat} {R : Exit → Act → World → Prop} {a : Act} {w : World} {l : List Oper} (n : Nat) (K : Nat → World → Prop) (V : (Nat → Nat) → List Value) (ms : List ObD) (ds : List (List Nat)) (cs bs : List Nat) (cm : Nat) (hm : P.follows .mixedOrders = true) (hB : seB l.toArray n (msL ms) cs bs cm = true) (hD : depE l.toArray n ds = true)
    (hvs : ∀ G, (V G).length = n) (hms : ms.length = n) (hds : ds.length = n) (hsz : (l.take n).all (fun o => match o.dst with | some t => decide (t < a.tmps.size) | none => true) = true)
    (hdep : ∀ (k : Nat) (l : List Nat), ds[k]? = some l → ∀ G G' : Nat → Nat, (∀ j ∈ l, G j = G' j) → gv (V G) k = gv (V G') k)
    (hobj : ∀ (k : Nat) (l : List Nat) (ob : (Nat → Nat) → Obj), ds[k]? = some l → ms[k]? = some (some ob) → ∀ G G' : Nat → Nat, (∀ j ∈ l, j ≠ k → G j = G' j) → ob G = ob G')
    (hK0 : K 0 w.drew) (hKa : ∀ s w o, K s w → K s (w.alloc o))
    (hq : AllSd P w K a (l.take n) V ms 0 (l.take n) ms ds cs bs)
    (h : ∀ (G : Nat → Nat) w', K cm w' → w.heap.size ≤ w'.heap.size → (∀ k ob, ms[k]? = some (some ob) → w.heap.size ≤ G k ∧ w'.heap[G k]? = some (ob G)) → wpList P l.toArray R (l.drop n) (putL a (l.take n) (V G)) w') : (Code.region id l.toArray true).wp P R a w := by
  refine wp_region_any hm ?_
  unfold seB at hB
  simp only [Bool.and_eq_true, decide_eq_true_eq] at hB
  obtain ⟨⟨⟨⟨⟨⟨⟨hsel, hn⟩, hs⟩, hc⟩, hseq⟩, hops⟩, hcm⟩, hcsl⟩ := hB
  have hA : ∀ (k : Nat) (o : Oper) (t : Tmp), k < n → l.toArray[k]? = some o → o.dst = some t → t < a.tmps.size := fun k o t hk ho ht => by
    have := List.all_eq_true.1 hsz o (List.mem_of_getElem? (i := k) (by rw [List.getElem?_take_of_lt hk]; simpa using ho))
    rw [ht] at this
    simpa using this
  have hmain := region_se (R := R) (W := w) (K := K) hsel hn hs hc hseq hops hcm hD (by simpa using hq) hvs hms hds hcsl hdep hobj hKa hA (fun a' w' G hk hs hG e => by rw [e]; simpa using h G w' hk hs hG)
  have inv0 : EInv n w K l.toArray V ms cs cm a (fun _ => 0) (Array.replicate l.toArray.size false) a { w with drawn := w.drawn + 1 } 0 := by
    refine ⟨⟨by simp, fun j oj _ hj => (by rw [getD_replicate_false] at hj; cases hj), fun t _ ht => getD_in (by simpa using ht) (getD_replicate_false _ _)⟩, ⟨hK0, Nat.zero_le _, fun i c _ _ hp => ⟨fun hd => (by rw [getD_replicate_false] at hd; cases hd), fun hd => by omega⟩⟩, rfl, rfl, Nat.le_refl _, fun _ _ => rfl, ?_, ?_⟩
    · intro k o t _ _ _ hd
      rw [getD_replicate_false] at hd; cases hd
    · intro k ob _ _ hd
      rw [getD_replicate_false] at hd; cases hd
  have := hmain _ _ a _ _ 0 inv0 rfl
  refine wpAny_le ?_ this
  have := cntU_le (Array.replicate l.toArray.size false) n
  omega
end
end Go.Proofs.YtidgicbhgnbidaaGreatDoor

/- The stream of numbers: Below, Next, Range, Pick, Flip, each by its contract. -/
namespace Go.Proofs.YtidgicbhgnbidaaGreatDoor
open Go.RowKit

theorem below_any (x n : Int) (w : World) (hn : n ≤ 1099511627776) : Calls Tryz.prog 81 #[.int .i64 x, .int .i64 n] w fun e w' => e = .returned (.int .i64 (below x n)) ∧ w = w' := by
  by_cases h : n < 1
  · have hb : below x n = 0 := by simp [below, h]
    rw [hb]
    go_enter Tryz.func81, Tryz.ntmps81
    go_wp2
    go_ret; exact ⟨rfl, rfl⟩
  · have hb : below x n = x % n := by simp [below, h]
    rw [hb]
    have h1 : 1 ≤ n := by omega
    have H := Lib.hid (tmod_cases x n h1)
    have hlo : -n < x.tmod n := by have := Int.lt_tmod_of_pos x (b := n) (by omega); omega
    have hhi : x.tmod n < n := Int.tmod_lt_of_pos x (by omega)
    have hn0 : ¬ n = 0 := by omega
    clear hb h
    go_enter Tryz.func81, Tryz.ntmps81
    go_wp2
    · go_ret; exact ⟨ret_int (H.out.1 (by assumption)).1.symm, rfl⟩
    · go_ret; exact ⟨ret_int (H.out.2 (by assumption)).symm, rfl⟩

/-- Block p is a stream that has handed out k numbers of a slice. -/
def SBlk (w : World) (p : Nat) (A : Option Addr) (n c : Nat) (k : Nat) : Prop := w.heap[p]? = some (.cells #[.slice A n c, .int .i64 (k : Int)] 25 (0, 0))
theorem SBlk.cell0 {w p A n c k} (h : SBlk w p A n c k) : w.cell? ⟨p, 0, none⟩ = some (.slice A n c) := cell_of_blk h rfl
theorem SBlk.cell1 {w p A n c k} (h : SBlk w p A n c k) : w.cell? ⟨p, 1, none⟩ = some (.int .i64 (k : Int)) := cell_of_blk h rfl
theorem SBlk.fr1 {w p A n c k} (h : SBlk w p A n c k) : w.frozen? ⟨p, 1, none⟩ = false := by simp [World.frozen?, show w.heap[p]? = _ from h]

set_option maxHeartbeats 400000 in
theorem next_nil (w : World) (p c k : Nat) (A : Option Addr) (m : Int) (hm : m ≤ 1099511627776) (hk : k < 1000000) (hs : SBlk w p A 0 c k) :
    Calls Tryz.prog 34 #[.pointer (some ⟨p, 0, none⟩), .int .i64 m] w fun e w' => e = .returned (.int .i64 (nextV [] k m)) ∧ ∃ q, w' = (w.setCell ⟨p, 1, none⟩ (.int .i64 ((k : Int) + 1))).drewN q := by
  have h0 := hs.cell0
  have h1 := hs.cell1
  have h2 := hs.fr1
  clear hs
  have hk' : (k : Int) < 1000000 := by omega
  go_enter Tryz.func34, Tryz.ntmps34
  go_wp2_with (go_at_call 81; refine (below_any _ _ _ (by omega)).mono ?_; rintro e w' ⟨rfl, rfl⟩)
  go_ret
  exact ⟨ret_int (by simp [nextV]), 0, rfl⟩

set_option maxHeartbeats 1000000 in
theorem next_some (w : World) (p n c k b o : Nat) (xs : List Int) (m : Int) (hm : m ≤ 1099511627776) (hk : k < 1000000) (hn : 0 < n) (hn2 : n ≤ 17592186044416) (hlen : xs.length = n)
    (hs : SBlk w p (some ⟨b, o, none⟩) n c k) (hbp : b ≠ p) (hx : w.cell? ⟨b, o + k % n, none⟩ = some (.int .i64 (xs.getD (k % n) 0))) :
    Calls Tryz.prog 34 #[.pointer (some ⟨p, 0, none⟩), .int .i64 m] w fun e w' => e = .returned (.int .i64 (nextV xs k m)) ∧ ∃ q, w' = (w.setCell ⟨p, 1, none⟩ (.int .i64 ((k : Int) + 1))).drewN q := by
  have h0 := hs.cell0
  have h1 := hs.cell1
  have h2 := hs.fr1
  obtain ⟨x, hxd⟩ : ∃ x, x = xs.getD (k % n) 0 := ⟨_, rfl⟩
  obtain ⟨q, hq⟩ : ∃ q, q = k / n := ⟨_, rfl⟩
  obtain ⟨r, hr⟩ : ∃ r, r = k % n := ⟨_, rfl⟩
  obtain ⟨t, ht⟩ : ∃ t, t = q * (7919 + r) := ⟨_, rfl⟩
  have HV := Lib.hid (show nextV xs k m = below (below x 1073741824 + (t : Int)) m by
    unfold nextV; rw [if_neg (by omega), hlen, hxd, ht, hq, hr])
  have HR : t ≤ k * 7920 := by rw [ht, hq, hr]; exact round_le k n hn
  have hb0 := below_range x 1073741824 (by omega)
  have hrn : r < n := by rw [hr]; exact Nat.mod_lt _ hn
  have hqk : q ≤ k := by rw [hq]; exact Nat.div_le_self _ _
  rw [← hxd, ← hr] at hx
  have hw2 : (k : Int) % (n : Int) = (r : Int) := by rw [hr]; rfl
  have hw3 : (k : Int) / (n : Int) = (q : Int) := by rw [hq]; rfl
  have hw4 : wrap64 ((q : Int) * (7919 + (r : Int))) = (t : Int) := by
    rw [show ((q : Int) * (7919 + (r : Int))) = (t : Int) by rw [ht, Int.natCast_mul, Int.natCast_add]; rfl]; unfold wrap64; omega
  clear hs hlen ht hq hr hxd
  have hn0 : ¬ (n : Int) = 0 := by omega
  go_enter Tryz.func34, Tryz.ntmps34
  go_wp2_with (fail)
  go_quiet (fail)
  go_wp2_with (fail)
  go_quiet (fail)
  go_wp2_with (go_at_call 81; refine (below_any _ _ _ (by omega)).mono ?_; rintro e w' ⟨rfl, rfl⟩)
  go_ret
  exact ⟨ret_int HV.out.symm, _, rfl⟩

/-- Block p is a stream over the numbers xs, k of which it has handed out. -/
def Strm (w : World) (p : Nat) (xs : List Int) (k : Nat) : Prop :=
  xs.length ≤ 17592186044416 ∧ ∃ A c, SBlk w p A xs.length c k ∧ Row w p A (xs.map (Value.int .i64))

theorem Strm.keep {w w' : World} {p k : Nat} {xs : List Int} (h : Strm w p xs k) (hb : ∀ b, b ≤ p → w'.heap[b]? = w.heap[b]?) : Strm w' p xs k := by
  obtain ⟨h1, A, c, h2, h3⟩ := h
  exact ⟨h1, A, c, (hb p (Nat.le_refl _)).trans h2, h3.keep fun b hlt => hb b (by omega)⟩
theorem Strm.lt {w : World} {p k : Nat} {xs : List Int} (h : Strm w p xs k) : p < w.heap.size := by
  obtain ⟨h1, A, c, h2, h3⟩ := h
  unfold SBlk at h2
  exact (Array.getElem?_eq_some_iff.1 h2).1
theorem Strm.below {w w' : World} {p k : Nat} {xs : List Int} (h : Strm w p xs k) (hb : Below w.heap.size w w') : Strm w' p xs k :=
  h.keep fun b hlt => hb.block b (by have := h.lt; omega)

theorem Strm.row {w w' : World} {p k : Nat} {xs : List Int} {row : Option Nat} (h : Strm w p xs k) (hg : w.grownBy w' row) (hr : ∀ g, row = some g → p < g) : Strm w' p xs k :=
  h.keep fun b hlt => hg.block b (by have := h.lt; omega) (fun e => by have := hr b e.symm; omega)
theorem Strm.alloc {w : World} {p k : Nat} {xs : List Int} (h : Strm w p xs k) (o : Obj) : Strm (w.alloc o) p xs k :=
  h.keep fun b hb => Below.heap_alloc _ _ b (by have := h.lt; omega)

theorem next_any (w : World) (p k : Nat) (xs : List Int) (m : Int) (hm : m ≤ 1099511627776) (hk : k < 1000000) (hs : Strm w p xs k) :
    Calls Tryz.prog 34 #[.pointer (some ⟨p, 0, none⟩), .int .i64 m] w fun e w' => e = .returned (.int .i64 (nextV xs k m)) ∧ Strm w' p xs (k + 1) ∧ w.grownBy w' (some p) := by
  have hlt := hs.lt
  obtain ⟨h1, A, c, h2, h3⟩ := hs
  have fin : ∀ q, Strm ((w.setCell ⟨p, 1, none⟩ (.int .i64 ((k : Int) + 1))).drewN q) p xs (k + 1) ∧ w.grownBy ((w.setCell ⟨p, 1, none⟩ (.int .i64 ((k : Int) + 1))).drewN q) (some p) := by
    intro q
    refine ⟨⟨h1, A, c, ?_, ?_⟩, grown_drewN (grown_set (grown_refl w _) (.inl rfl) _) q⟩
    · show (w.setCell ⟨p, 1, none⟩ (.int .i64 ((k : Int) + 1))).heap[p]? = _
      unfold SBlk at h2
      simp [World.setCell, Array.getElem?_modify, h2]
    · exact h3.keep fun b hb => Below.heap_setCell w ⟨p, 1, none⟩ _ b (by show b ≠ p; omega)
  by_cases hn : xs.length = 0
  · obtain rfl : xs = [] := List.eq_nil_of_length_eq_zero hn
    refine (next_nil w p c k A m hm hk h2).mono ?_
    rintro e w' ⟨rfl, q, rfl⟩
    exact ⟨rfl, fin q⟩
  · rcases h3 with h3 | ⟨b, o, rfl, hb, hc⟩
    · simp at h3; simp [h3] at hn
    · have hj : k % xs.length < xs.length := Nat.mod_lt _ (by omega)
      have hcell := hc (k % xs.length) (.int .i64 (xs.getD (k % xs.length) 0)) (by simp [List.getElem?_eq_getElem hj])
      refine (next_some w p xs.length c k b o xs m hm hk (by omega) h1 rfl h2 (by omega) hcell).mono ?_
      rintro e w' ⟨rfl, q, rfl⟩
      exact ⟨rfl, fin q⟩

theorem range_any (w : World) (p k : Nat) (xs : List Int) (lo hi : Int) (hk : k < 1000000) (h1 : -1000000000000 < lo) (h2 : lo ≤ hi) (h3 : hi < 1000000000000) (h4 : hi - lo < 1000000000000) (hs : Strm w p xs k) :
    Calls Tryz.prog 8 #[.pointer (some ⟨p, 0, none⟩), .int .i64 lo, .int .i64 hi] w fun e w' => e = .returned (.int .i64 (lo + nextV xs k (hi - lo + 1))) ∧ Strm w' p xs (k + 1) ∧ w.grownBy w' (some p) := by
  have hr := nextV_range xs k (hi - lo + 1) (by omega)
  have HS := Lib.hid hs
  clear hs
  go_enter Tryz.func8, Tryz.ntmps8
  go_wp2_with (go_at_call 34; refine (next_any _ _ _ xs _ (by omega) hk HS.out).mono ?_; rintro e w' ⟨rfl, hs', hg'⟩)
  go_ret
  exact ⟨rfl, hs', hg'⟩

theorem pick_any (w : World) (p k g m c : Nat) (xs : List Int) (vs : List Int) (hk : k < 1000000) (hm : vs.length = m) (h0 : 0 < m) (h1 : m ≤ 1000000) (hs : Strm w p xs k) (hg : g ≠ p)
    (hc : Cells w g 0 (vs.map (Value.int .i64))) :
    Calls Tryz.prog 9 #[.pointer (some ⟨p, 0, none⟩), .slice (some ⟨g, 0, none⟩) m c] w fun e w' => e = .returned (.int .i64 (vs.getD (nextN xs k m) 0)) ∧ Strm w' p xs (k + 1) ∧ w.grownBy w' (some p) := by
  have hj := nextN_lt xs k m h0
  have HE := Lib.hid (nextN_eq xs k m h0)
  obtain ⟨j, ej⟩ : ∃ j, j = nextN xs k m := ⟨_, rfl⟩
  rw [← ej] at HE hj ⊢
  have hcell := hc j (.int .i64 (vs.getD j 0)) (by simp [List.getElem?_eq_getElem (show j < vs.length by omega)])
  have hlt := World.block_lt_of_cell? w _ hcell
  simp only [Nat.zero_add] at hcell hlt
  obtain ⟨x, ex⟩ : ∃ x, x = vs.getD j 0 := ⟨_, rfl⟩
  rw [← ex] at hcell ⊢
  have HS := Lib.hid hs
  clear hs hc ej ex hm
  go_enter Tryz.func9, Tryz.ntmps9
  go_wp2_with (go_at_call 34; refine (next_any _ _ _ xs _ (by omega) hk HS.out).mono ?_; rw [HE.out]; rintro e w' ⟨rfl, hs', hg'⟩; have hc' := hg'.cell hcell (by simpa using hg); clear hcell; have HS' := Lib.hid hs'; have HG' := Lib.hid hg'; clear hs' hg')
  go_ret
  exact ⟨rfl, HS'.out, HG'.out⟩
theorem range_nat (w : World) (p k m : Nat) (xs : List Int) (hk : k < 1000000) (h3 : m < 1000000000) (hs : Strm w p xs k) :
    Calls Tryz.prog 8 #[.pointer (some ⟨p, 0, none⟩), .int .i64 0, .int .i64 (m : Int)] w fun e w' => e = .returned (.int .i64 (nextN xs k (m + 1) : Int)) ∧ Strm w' p xs (k + 1) ∧ w.grownBy w' (some p) := by
  refine (range_any w p k xs 0 m hk (by omega) (by omega) (by omega) (by omega) hs).mono ?_
  rintro e w' ⟨rfl, h⟩
  refine ⟨ret_int ?_, h⟩
  have := nextN_eq xs k (m + 1) (by omega)
  rw [← this]
  simp
end Go.Proofs.YtidgicbhgnbidaaGreatDoor

/- Maps whose keys are texts, entry by entry: what a look-up gives, what a store leaves. No program in sight. -/
namespace Go.Proofs.YtidgicbhgnbidaaGreatDoor
open Go.RowKit Go.Maps Go.WideMaps

theorem ba_beq (a b : ByteArray) : (a == b) = decide (a = b) := by
  by_cases h : a = b
  · subst h
    rw [decide_eq_true rfl]
    show (a.data == a.data) = true
    exact beq_self_eq_true _
  · rw [decide_eq_false h]
    show (a.data == b.data) = false
    have : a.data ≠ b.data := fun e => h (by cases a; cases b; simp at e; rw [e])
    simpa using this
abbrev SmL := List (ByteArray × Value)
def smE : Nat → SmL → List MapEntry
  | _, [] => []
  | i, p :: l => { key := .string p.1, val := p.2, born := i } :: smE (i + 1) l
theorem smE_snoc (i : Nat) (l : SmL) (p : ByteArray × Value) : smE i (l ++ [p]) = smE i l ++ [{ key := .string p.1, val := p.2, born := i + l.length }] := by
  induction l generalizing i with
  | nil => rfl
  | cons q l ih => simp only [List.cons_append, smE, ih, List.length_cons]; rw [show i + 1 + l.length = i + (l.length + 1) by omega]
theorem smE_len (i : Nat) (l : SmL) : (smE i l).length = l.length := by
  induction l generalizing i with
  | nil => rfl
  | cons q l ih => simp [smE, ih]
def smG (k : ByteArray) : SmL → Option Value
  | [] => none
  | p :: l => if k = p.1 then some p.2 else smG k l
def smU (k : ByteArray) (v : Value) : SmL → SmL
  | [] => [(k, v)]
  | p :: l => if k = p.1 then (k, v) :: l else p :: smU k v l
theorem smG_U (k q : ByteArray) (v : Value) (l : SmL) : smG q (smU k v l) = if q = k then some v else smG q l := by
  induction l with
  | nil => simp [smU, smG]
  | cons p l ih =>
    unfold smU
    by_cases h : k = p.1
    · rw [if_pos h]
      simp only [smG]
      by_cases h2 : q = k
      · rw [if_pos h2, if_pos h2]
      · rw [if_neg h2, if_neg h2, if_neg (by rw [← h]; exact h2)]
    · rw [if_neg h]
      simp only [smG]
      by_cases h2 : q = p.1
      · rw [if_pos h2, if_neg (by rw [h2]; exact fun e => h e.symm), if_pos h2]
      · rw [if_neg h2, ih, if_neg h2]
def SmI (w : World) (m : Nat) (l : SmL) : Prop := w.heap[m]? = some (.map (smE 0 l).toArray l.length)
theorem SmI.lt {w : World} {m : Nat} {l : SmL} (h : SmI w m l) : m < w.heap.size := (Array.getElem?_eq_some_iff.1 h).1
theorem SmI.keep {w w' : World} {m : Nat} {l : SmL} (h : SmI w m l) (hk : w'.heap[m]? = w.heap[m]?) : SmI w' m l := hk.trans h
theorem SmI.below {w w' : World} {m : Nat} {l : SmL} (h : SmI w m l) (hb : Below w.heap.size w w') : SmI w' m l := h.keep (hb.block m h.lt)
theorem find_sm (k : ByteArray) (v : Value) : ∀ (l : SmL) (i j : Nat),
    (Instr.findNow .string (.string k) (smE i l) j = some none ∧ smG k l = none ∧ smU k v l = l ++ [(k, v)]) ∨
    ∃ n x, Instr.findNow .string (.string k) (smE i l) j = some (some (j + n, x)) ∧ smG k l = some x ∧ (smE i l).modify n (fun e => { e with key := .string k, val := v }) = smE i (smU k v l) ∧ ((smE i l)[n]?).map (·.key) = some (.string k) ∧ (smU k v l).length = l.length
  | [], _, _ => .inl ⟨rfl, rfl, rfl⟩
  | p :: l, i, j => by
    by_cases h : k = p.1
    · refine .inr ⟨0, p.2, ?_, ?_, ?_, ?_, ?_⟩
      · simp [smE, Instr.findNow, Instr.sameNow, h, ba_beq]
      · simp [smG, h]
      · simp [smE, smU, h]
      · simp [smE, h]
      · simp [smU, h]
    · have hne : (k == p.1) = false := by rw [ba_beq]; exact decide_eq_false h
      rcases find_sm k v l (i + 1) (j + 1) with ⟨h1, h2, h3⟩ | ⟨n, x, h1, h2, h3, h4, h5⟩
      · refine .inl ⟨?_, ?_, ?_⟩
        · simp [smE, Instr.findNow, Instr.sameNow, hne, h1]
        · simp [smG, h, h2]
        · simp [smU, h, h3]
      · refine .inr ⟨n + 1, x, ?_, ?_, ?_, ?_, ?_⟩
        · simp only [smE, Instr.findNow, Instr.sameNow, hne, h1]
          rw [show j + 1 + n = j + (n + 1) by omega]
        · simp [smG, h, h2]
        · simp only [smE, smU, if_neg h, List.modify_succ_cons, h3]
        · simpa [smE] using h4
        · simp [smU, h, h5]
section
variable {P : Program} {t kt et : TypeId} {w : World} {m : Nat} {l : SmL} {k : ByteArray} {z v : Value}
theorem run_find_sm (hk : P.underlying kt = some .string) (r : Option (Nat × Value)) (h : Instr.findNow .string (.string k) (smE 0 l) 0 = some r) : (Instr.findKey kt (.string k) (smE 0 l)).run P w = .ok r w := by
  simp [Instr.findKey, run_underlying hk, h, Result.andThen]
/-- m[k]. -/
theorem look_sm (ht : P.underlying t = some (.map kt et)) (hk : P.underlying kt = some .string) (hz : (zeroValue et).run P w = .ok z w) (hs : k.size ≤ maxLen) (hb : SmI w m l) :
    (Instr.lookup t (.map (some m)) (.string k) false).run P w = .ok ((smG k l).getD z) w := by
  have hc := fun x => (WideMaps.string_law (P := P) hk).check w x (keyOf_string_mk hk hs)
  unfold SmI at hb
  rcases find_sm k z l 0 0 with ⟨h1, h2, _⟩ | ⟨n, x, h1, h2, _⟩
  · have hf := run_find_sm (P := P) (w := w) hk none h1
    simp [Instr.lookup, run_underlying ht, MapKept.run_getObj_map hb, hc, hf, hz, h2, Result.andThen]
  · have hf := run_find_sm (P := P) (w := w) hk _ h1
    simp [Instr.lookup, run_underlying ht, MapKept.run_getObj_map hb, hc, hf, h2, Result.andThen]
/-- v, ok := m[k]. -/
theorem look_sm_ok (ht : P.underlying t = some (.map kt et)) (hk : P.underlying kt = some .string) (hz : (zeroValue et).run P w = .ok z w) (hs : k.size ≤ maxLen) (hb : SmI w m l) :
    (Instr.lookup t (.map (some m)) (.string k) true).run P w = .ok (.tuple #[(smG k l).getD z, .bool (smG k l).isSome]) w := by
  have hc := fun x => (WideMaps.string_law (P := P) hk).check w x (keyOf_string_mk hk hs)
  unfold SmI at hb
  rcases find_sm k z l 0 0 with ⟨h1, h2, _⟩ | ⟨n, x, h1, h2, _⟩
  · have hf := run_find_sm (P := P) (w := w) hk none h1
    simp [Instr.lookup, run_underlying ht, MapKept.run_getObj_map hb, hc, hf, hz, h2, Result.andThen]
  · have hf := run_find_sm (P := P) (w := w) hk _ h1
    simp [Instr.lookup, run_underlying ht, MapKept.run_getObj_map hb, hc, hf, h2, Result.andThen]
/-- m[k] = v. -/
theorem upd_sm (ht : P.underlying t = some (.map kt et)) (hk : P.underlying kt = some .string) (hs : k.size ≤ maxLen) (hb : SmI w m l) :
    (Instr.mapUpdate t (.map (some m)) (.string k) v).run P w = .ok () { w with heap := w.heap.setIfInBounds m (.map (smE 0 (smU k v l)).toArray (smU k v l).length) } := by
  have hc := fun x => (WideMaps.string_law (P := P) hk).check w x (keyOf_string_mk hk hs)
  unfold SmI at hb
  rcases find_sm k v l 0 0 with ⟨h1, h2, h3⟩ | ⟨n, x, h1, h2, h3, h4, h5⟩
  · have hf := run_find_sm (P := P) (w := w) hk none h1
    have e : (smE 0 (smU k v l)).toArray = (smE 0 l).toArray.push { key := .string k, val := v, born := l.length } := by rw [h3, smE_snoc]; simp
    rw [e, h3, List.length_append]
    simp [Instr.mapUpdate, run_underlying ht, MapKept.run_getObj_map hb, hc, hf, MapKept.run_setObj_map _ hb, Result.andThen]
  · have hf := run_find_sm (P := P) (w := w) hk _ h1
    have hst : (Instr.keyThatStays (((smE 0 l)[n]?.map (·.key)).getD (.string k)) (.string k)).run P w = .ok (.string k) w := by
      rw [h4]
      have hsb : Instr.sameBits 10000 (.string k) (.string k) = true := by show (k == k) = true; rw [ba_beq]; simp
      simp [Instr.keyThatStays, hsb]
    rw [← h3, h5]
    simp only [Nat.zero_add] at hf
    simp [Instr.mapUpdate, run_underlying ht, MapKept.run_getObj_map hb, hc, hf, hst, MapKept.run_setObj_map _ hb, Result.andThen]
theorem SmI.upd (hb : SmI w m l) : SmI { w with heap := w.heap.setIfInBounds m (.map (smE 0 (smU k v l)).toArray (smU k v l).length) } m (smU k v l) := Array.getElem?_setIfInBounds_self_of_lt hb.lt
theorem len_sm (hb : SmI w m l) : w.heap[m]? = some (.map (smE 0 l).toArray l.length) ∧ (smE 0 l).toArray.size = l.length := ⟨hb, by simp [smE_len]⟩
end
end Go.Proofs.YtidgicbhgnbidaaGreatDoor

/- Versions, ranges and images as plain data; which versions lead to one. No function of the program in sight. -/
namespace Go.Proofs.YtidgicbhgnbidaaGreatDoor
open Go.RowKit

/-- A version. -/
structure Ve where
  a : Int
  b : Int
  c : Int
deriving DecidableEq
structure VeOk (v : Ve) : Prop where
  a : 0 ≤ v.a ∧ v.a ≤ 9999
  b : 0 ≤ v.b ∧ v.b ≤ 9999
  c : 0 ≤ v.c ∧ v.c ≤ 9999
/-- The number of a version among all. -/
def vn (v : Ve) : Int := (v.a * 10000 + v.b) * 10000 + v.c
theorem vn_inj {x y : Ve} (hx : VeOk x) (hy : VeOk y) (h : vn x = vn y) : x = y := by
  obtain ⟨⟨a1, a2⟩, ⟨b1, b2⟩, ⟨c1, c2⟩⟩ := hx
  obtain ⟨⟨d1, d2⟩, ⟨e1, e2⟩, ⟨f1, f2⟩⟩ := hy
  obtain ⟨a, b, c⟩ := x
  obtain ⟨d, e, f⟩ := y
  simp only [vn] at *
  have h1 : a = d := by omega
  have h2 : b = e := by omega
  have h3 : c = f := by omega
  rw [h1, h2, h3]
theorem vn_range {x : Ve} (h : VeOk x) : 0 ≤ vn x ∧ vn x ≤ 999999999999 := by
  obtain ⟨⟨a1, a2⟩, ⟨b1, b2⟩, ⟨c1, c2⟩⟩ := h
  unfold vn
  omega
def vd (n : Int) : Ve := ⟨n / 10000 / 10000, n / 10000 % 10000, n % 10000⟩
theorem vd_ok {n : Int} (h : 0 ≤ n ∧ n ≤ 999999999999) : VeOk (vd n) := by
  unfold vd
  exact ⟨⟨by show 0 ≤ n / 10000 / 10000; omega, by show n / 10000 / 10000 ≤ 9999; omega⟩, ⟨by show 0 ≤ n / 10000 % 10000; omega, by show n / 10000 % 10000 ≤ 9999; omega⟩, ⟨by show 0 ≤ n % 10000; omega, by show n % 10000 ≤ 9999; omega⟩⟩
theorem vn_vd (n : Int) : vn (vd n) = n := by
  unfold vn vd
  show (n / 10000 / 10000 * 10000 + n / 10000 % 10000) * 10000 + n % 10000 = n
  omega
def cmpV (x y : Ve) : Int := orI [cmpI x.a y.a, cmpI x.b y.b, cmpI x.c y.c]
theorem cmpV_eq (x y : Ve) : cmpV x y = if x.a < y.a then -1 else if y.a < x.a then 1 else if x.b < y.b then -1 else if y.b < x.b then 1 else if x.c < y.c then -1 else if y.c < x.c then 1 else 0 := by
  unfold cmpV cmpI
  simp only [orI]
  repeat' split
  all_goals first | rfl | omega
theorem cmpV_lt {x y : Ve} (hx : VeOk x) (hy : VeOk y) : cmpV x y < 0 ↔ vn x < vn y := by
  obtain ⟨⟨a1, a2⟩, ⟨b1, b2⟩, ⟨c1, c2⟩⟩ := hx
  obtain ⟨⟨d1, d2⟩, ⟨e1, e2⟩, ⟨f1, f2⟩⟩ := hy
  rw [cmpV_eq]
  unfold vn
  repeat' split
  all_goals constructor <;> intro h <;> omega
theorem cmpV_le {x y : Ve} (hx : VeOk x) (hy : VeOk y) : cmpV x y ≤ 0 ↔ vn x ≤ vn y := by
  obtain ⟨⟨a1, a2⟩, ⟨b1, b2⟩, ⟨c1, c2⟩⟩ := hx
  obtain ⟨⟨d1, d2⟩, ⟨e1, e2⟩, ⟨f1, f2⟩⟩ := hy
  rw [cmpV_eq]
  unfold vn
  repeat' split
  all_goals constructor <;> intro h <;> omega
/-- A range of versions, both ends in it. -/
abbrev Rg := Ve × Ve
structure RgOk (r : Rg) : Prop where
  lo : VeOk r.1
  hi : VeOk r.2
  le : vn r.1 ≤ vn r.2
def inR (r : Rg) (v : Ve) : Bool := decide (vn r.1 ≤ vn v) && decide (vn v ≤ vn r.2)
/-- An image: its version, its models (0: the one that is asked for), its ranges, its size; and where these lie. -/
structure Im where
  v : Ve
  ma : Option Addr
  mc : Nat
  mo : List Nat
  fa : Option Addr
  fc : Nat
  rs : List Rg
  sz : Int
def cov (x : Im) (v : Ve) : Bool := x.rs.any fun r => inR r v
/-- The model that is asked for. -/
class Mdl where
  j : Nat
  lt : j < 2
def hasM [Mdl] (x : Im) : Bool := x.mo.any fun i => i == Mdl.j
structure ImOk (x : Im) : Prop where
  v : VeOk x.v
  mo : x.mo = [0] ∨ x.mo = [0, 1] ∨ x.mo = [1]
  rl : x.rs.length ≤ 2
  rn : 0 < x.rs.length
  rs : ∀ r ∈ x.rs, RgOk r ∧ vn r.2 < vn x.v
  ro : x.rs.Pairwise fun r s => vn r.2 < vn s.1
  sz : 1 ≤ x.sz ∧ x.sz ≤ 10
structure ImsOk (L : List Im) : Prop where
  len : L.length ≤ 8
  ok : ∀ x ∈ L, ImOk x
  ord : L.Pairwise fun x y => vn x.v < vn y.v
theorem cov_lt {x : Im} {v : Ve} (h : ImOk x) (hc : cov x v = true) : vn v < vn x.v := by
  unfold cov at hc
  obtain ⟨r, hr, h1⟩ := List.any_eq_true.1 hc
  unfold inR at h1
  have h2 := (h.rs r hr).2
  simp only [Bool.and_eq_true, decide_eq_true_eq] at h1
  omega
/-- The images that can be put on a version. -/
def tak [Mdl] (L : List Im) (v : Ve) : List Im := L.filter fun x => hasM x && cov x v
theorem mem_tak [Mdl] {L : List Im} {v : Ve} {x : Im} : x ∈ tak L v ↔ x ∈ L ∧ hasM x = true ∧ cov x v = true := by
  unfold tak
  rw [List.mem_filter, Bool.and_eq_true]
def ownI [Mdl] (L : List Im) : List Im := L.filter hasM
theorem tak_own [Mdl] (L : List Im) (v : Ve) : tak (ownI L) v = tak L v := by
  unfold tak ownI
  rw [List.filter_filter]
  congr 1
  funext x
  cases hasM x <;> simp
theorem ImsOk.filter {L : List Im} (h : ImsOk L) (p : Im → Bool) : ImsOk (L.filter p) :=
  ⟨Nat.le_trans (List.length_filter_le _ _) h.len, fun x hx => h.ok x (List.mem_filter.1 hx).1, h.ord.filter _⟩
/-- A version leads to another one. -/
inductive Rch [Mdl] (L : List Im) (t : Ve) : Ve → Prop
  | self : Rch L t t
  | step {v : Ve} {x : Im} : x ∈ tak L v → Rch L t x.v → Rch L t v
theorem Rch.cases_iff [Mdl] {L : List Im} {t v : Ve} : Rch L t v ↔ v = t ∨ ∃ x ∈ tak L v, Rch L t x.v := by
  constructor
  · intro h
    cases h with
    | self => exact .inl rfl
    | step h1 h2 => exact .inr ⟨_, h1, h2⟩
  · rintro (rfl | ⟨x, h1, h2⟩)
    · exact .self
    · exact .step h1 h2
theorem Rch.own [Mdl] {L : List Im} {t v : Ve} : Rch (ownI L) t v ↔ Rch L t v := by
  constructor
  · intro h
    induction h with
    | self => exact .self
    | step h1 _ ih => rw [tak_own] at h1; exact .step h1 ih
  · intro h
    induction h with
    | self => exact .self
    | step h1 _ ih => exact .step (by rw [tak_own]; exact h1) ih
/-- A way from one version to another one. -/
def wayV [Mdl] (L : List Im) : Ve → List Ve → Ve → Prop
  | v, [], t => v = t
  | v, y :: l, t => (∃ x ∈ tak L v, x.v = y) ∧ wayV L y l t
theorem wayV.snoc [Mdl] {L : List Im} {x : Im} : ∀ {l : List Ve} {v u : Ve}, wayV L v l u → x ∈ tak L u → wayV L v (l ++ [x.v]) x.v
  | [], v, u, h, hx => by
    have h1 : v = u := h
    subst h1
    exact ⟨⟨x, hx, rfl⟩, rfl⟩
  | y :: l, v, u, h, hx => ⟨h.1, wayV.snoc h.2 hx⟩
end Go.Proofs.YtidgicbhgnbidaaGreatDoor

/- Campaigns as plain data: courses of devices, waves that begin, marks that are followed. No function of the program in sight. -/
namespace Go.Proofs.YtidgicbhgnbidaaGreatDoor
open Go.RowKit

/-- A mark: when, which device (by its number), its kind, its version. -/
structure Mk where
  at_ : Int
  d : Nat
  kd : Int
  v : Ve
/-- A course: kind, since, version, fails, the last version that was offered. -/
structure Cu where
  kd : Int
  si : Int
  v : Ve
  f : Int
  o : Ve
/-- A wave: part, wait, least, fails. -/
structure Wv where
  pt : Int
  wt : Int
  ls : Int
  fl : Int
/-- A campaign: key, target, when it begins, waves (and where they lie), hours, room. -/
structure Cm where
  key : Nat
  t : Ve
  at_ : Int
  ws : List Wv
  wa : Option Addr
  wc : Nat
  h0 : Int
  h1 : Int
  rm : Int
/-- A device of the fleet: key, model, version. -/
structure Dv where
  k : Nat
  md : Nat
  fw : Ve
def ve0 : Ve := ⟨0, 0, 0⟩
theorem ve0_ok : VeOk ve0 := ⟨by decide, by decide, by decide⟩
structure WvOk (x : Wv) : Prop where
  pt : 1 ≤ x.pt ∧ x.pt ≤ 1000
  wt : 0 ≤ x.wt ∧ x.wt ≤ 30
  ls : 1 ≤ x.ls ∧ x.ls ≤ 3
  fl : 0 ≤ x.fl ∧ x.fl ≤ 1000
structure CmOk (c : Cm) : Prop where
  key : c.key < 3
  t : VeOk c.t
  at_ : 0 ≤ c.at_ ∧ c.at_ ≤ 100
  n : 1 ≤ c.ws.length ∧ c.ws.length ≤ 3
  w : ∀ x ∈ c.ws, WvOk x
  sum : (c.ws.map (·.pt)).sum = 1000
  h0 : 0 ≤ c.h0 ∧ c.h0 ≤ 86400000
  h1 : 0 ≤ c.h1 ∧ c.h1 ≤ 86400000
  rm : 1 ≤ c.rm ∧ c.rm ≤ 5
structure DvOk (d : Dv) : Prop where
  k : d.k < 6
  md : d.md < 2
  fw : VeOk d.fw
structure FlOk (F : List Dv) : Prop where
  n : F.length ≤ 6
  ok : ∀ d ∈ F, DvOk d
  ord : F.Pairwise fun x y => x.k < y.k
structure MkOk (m : Mk) : Prop where
  at_ : 0 ≤ m.at_ ∧ m.at_ ≤ 1000000
  d : m.d < 6
  kd : 1 ≤ m.kd ∧ m.kd ≤ 5
  v : VeOk m.v
def mkL (x y : Mk) : Prop := x.at_ < y.at_ ∨ x.at_ = y.at_ ∧ x.d < y.d
structure MksOk (l : List Mk) : Prop where
  n : l.length ≤ 14
  ok : ∀ m ∈ l, MkOk m
  ord : l.Pairwise mkL
/-- What a mark makes of a course; none: it cannot follow. -/
def foOk (x : Cu) (m : Mk) : Bool :=
  if m.kd = 1 then decide (x.kd = 0) || (decide (x.kd = 3) || decide (x.kd = 4))
  else if m.kd = 2 ∨ m.kd = 5 then decide (x.kd = 1) && decide (m.v = x.o)
  else decide (x.kd = 2) && decide (m.v = x.o)
def foTo (x : Cu) (m : Mk) : Cu := ⟨m.kd, m.at_, if m.kd = 3 then m.v else x.v, if m.kd = 4 then x.f + 1 else x.f, m.v⟩
def foV (x : Cu) (m : Mk) : Cu := if foOk x m then foTo x m else x
def rdV (C : Cm) (x : Cu) : Bool := decide (x.v = C.t)
def ouV (C : Cm) (x : Cu) : Bool := !rdV C x && (decide (3 ≤ x.f) || decide (x.kd = 5))
def doV (C : Cm) (x : Cu) : Bool := rdV C x || ouV C x
def cu0 (d : Dv) : Cu := ⟨0, 0, d.fw, 0, ve0⟩
structure CuOk (x : Cu) (n : Nat) : Prop where
  kd : 0 ≤ x.kd ∧ x.kd ≤ 5
  v : VeOk x.v
  o : VeOk x.o
  f : 0 ≤ x.f ∧ x.f ≤ n
theorem cu0_ok {d : Dv} (h : DvOk d) : CuOk (cu0 d) 0 := ⟨⟨by show (0 : Int) ≤ 0; omega, by show (0 : Int) ≤ 5; omega⟩, h.fw, ve0_ok, ⟨by show (0 : Int) ≤ 0; omega, by show (0 : Int) ≤ 0; omega⟩⟩
theorem CuOk.mono {x : Cu} {n n' : Nat} (h : CuOk x n) (hn : n ≤ n') : CuOk x n' := ⟨h.kd, h.v, h.o, by have := h.f; omega⟩
theorem CuOk.to {x : Cu} {n : Nat} {m : Mk} (h : CuOk x n) (hm : MkOk m) : CuOk (foTo x m) (n + 1) := by
  unfold foTo
  refine ⟨⟨by show 0 ≤ m.kd; have := hm.kd; omega, by show m.kd ≤ 5; have := hm.kd; omega⟩, ?_, hm.v, ?_⟩
  · show VeOk (if m.kd = 3 then m.v else x.v)
    split
    · exact hm.v
    · exact h.v
  · show 0 ≤ (if m.kd = 4 then x.f + 1 else x.f) ∧ (if m.kd = 4 then x.f + 1 else x.f) ≤ ((n + 1 : Nat) : Int)
    have := h.f
    split <;> omega
theorem CuOk.fo {x : Cu} {n : Nat} {m : Mk} (h : CuOk x n) (hm : MkOk m) : CuOk (foV x m) (n + 1) := by
  unfold foV
  split
  · exact h.to hm
  · exact h.mono (by omega)
/-- How a campaign stands: the courses of its devices; of each wave how many are open, ended and failed; when waves began, when one failed (or -1), when the next one begins (or -1). -/
structure St where
  cs : List Cu
  op : List Int
  en : List Int
  fa : List Int
  be : List Int
  sp : Int
  nx : Int
def wtV (C : Cm) (k : Nat) : Int := (C.ws[k]?.map (·.wt)).getD 0
/-- When the next wave begins, seen from a moment. -/
def nxV (C : Cm) (t : Int) (s : St) : Int :=
  if s.nx < 0 ∧ 0 < s.be.length ∧ s.be.length < C.ws.length ∧ s.op.getD (s.be.length - 1) 0 = 0 ∧ s.be.getD (s.be.length - 1) 0 ≤ t then t + wtV C s.be.length else s.nx
def stopV (t : Int) (s : St) (nx : Int) : Bool := decide (nx < 0) || (decide (t < nx) || (decide (0 < s.be.length) && (decide (0 ≤ s.sp) && decide (s.sp ≤ nx))))
def begV (C : Cm) (s : St) (nx : Int) : St :=
  { s with be := s.be ++ [nx], nx := if s.be.length + 1 < C.ws.length ∧ s.op.getD s.be.length 0 = 0 then nx + wtV C (s.be.length + 1) else -1 }
def bgV (C : Cm) (t : Int) : Nat → St → St
  | 0, s => s
  | n + 1, s => if stopV t s (nxV C t s) then { s with nx := nxV C t s } else bgV C t n (begV C s (nxV C t s))
theorem bgV_succ (C : Cm) (t : Int) (n : Nat) (s : St) : bgV C t (n + 1) s = if stopV t s (nxV C t s) then { s with nx := nxV C t s } else bgV C t n (begV C s (nxV C t s)) := rfl
def bgA (C : Cm) (t : Int) (s : St) : St := bgV C t 5 s
theorem bgV_keep (C : Cm) (t : Int) : ∀ (n : Nat) (s : St), (bgV C t n s).cs = s.cs ∧ (bgV C t n s).op = s.op ∧ (bgV C t n s).en = s.en ∧ (bgV C t n s).fa = s.fa ∧ (bgV C t n s).sp = s.sp
  | 0, s => ⟨rfl, rfl, rfl, rfl, rfl⟩
  | n + 1, s => by
    rw [bgV_succ]
    split
    · exact ⟨rfl, rfl, rfl, rfl, rfl⟩
    · exact bgV_keep C t n (begV C s (nxV C t s))
/-- Which device of the fleet a number is. -/
def ixF : List Dv → Nat → Option Nat
  | [], _ => none
  | d :: F, k => if k = d.k then some 0 else (ixF F k).map (· + 1)
theorem ixF_get : ∀ {F : List Dv} {k i : Nat}, ixF F k = some i → ∃ d, F[i]? = some d ∧ d.k = k
  | [], _, _, h => by cases h
  | d :: F, k, i, h => by
    unfold ixF at h
    by_cases hk : k = d.k
    · rw [if_pos hk] at h
      cases h
      exact ⟨d, rfl, hk.symm⟩
    · rw [if_neg hk] at h
      obtain ⟨j, hj, rfl⟩ := Option.map_eq_some_iff.1 h
      obtain ⟨e, h1, h2⟩ := ixF_get hj
      exact ⟨e, h1, h2⟩
theorem ixF_lt {F : List Dv} {k i : Nat} (h : ixF F k = some i) : i < F.length := by
  obtain ⟨d, h1, _⟩ := ixF_get h
  exact (List.getElem?_eq_some_iff.1 h1).1
theorem ixF_at : ∀ {F : List Dv} (_ : F.Pairwise fun x y => x.k < y.k) {i : Nat} {d : Dv}, F[i]? = some d → ixF F d.k = some i
  | [], _, i, d, h => by simp at h
  | e :: F, hp, 0, d, h => by
    have h1 : e = d := by simpa using h
    subst h1
    unfold ixF
    rw [if_pos rfl]
  | e :: F, hp, i + 1, d, h => by
    have h1 : F[i]? = some d := by simpa using h
    obtain ⟨h2, h3⟩ := List.pairwise_cons.1 hp
    have h4 := h2 d (List.mem_of_getElem? h1)
    unfold ixF
    rw [if_neg (by omega), ixF_at h3 h1]
    rfl
/-- The wave of a lot. -/
def wvF (n : Int) : List Wv → Int → Nat → Nat
  | [], _, k => k - 1
  | w :: l, s, k => if n < s + w.pt then k else wvF n l (s + w.pt) (k + 1)
theorem wvF_le (n : Int) : ∀ (l : List Wv) (s : Int) (k : Nat), 0 < l.length + k → wvF n l s k < l.length + k
  | [], s, k, h => by unfold wvF; simp only [List.length_nil] at h ⊢; omega
  | w :: l, s, k, h => by
    unfold wvF
    split
    · simp only [List.length_cons]; omega
    · have := wvF_le n l (s + w.pt) (k + 1) (by omega)
      simp only [List.length_cons]; omega
section
variable (wvN : Nat → Nat) (C : Cm) (F : List Dv)
/-- A mark of a device that is there. -/
def mkA (s : St) (m : Mk) (i : Nat) (x : Cu) : St :=
  let y := foTo x m
  let k := wvN m.d
  let op := if doV C x = doV C y then s.op else if doV C y then s.op.set k (s.op.getD k 0 - 1) else s.op.set k (s.op.getD k 0 + 1)
  let s1 : St := { s with cs := s.cs.set i y, op := op }
  if m.kd ≠ 3 ∧ m.kd ≠ 4 then s1 else
    let en := s.en.set k (s.en.getD k 0 + 1)
    let fa := if m.kd = 4 then s.fa.set k (s.fa.getD k 0 + 1) else s.fa
    let sp := if s.sp < 0 ∧ ((C.ws[k]?.map (·.ls)).getD 0 ≤ en.getD k 0 ∧ (C.ws[k]?.map (·.fl)).getD 0 * en.getD k 0 < 1000 * fa.getD k 0) then m.at_ else s.sp
    { s1 with en := en, fa := fa, sp := sp }
def mkV (s : St) (m : Mk) : St :=
  match ixF F m.d with
  | none => s
  | some i => if m.at_ < C.at_ then s else
    match s.cs[i]? with
    | none => s
    | some x => if foOk x m then mkA wvN C s m i x else s
/-- Marks are followed up to a moment. -/
def unV (t : Int) : Nat → List Mk → St → St
  | 0, _, s => s
  | n + 1, l, s =>
    match l with
    | [] => bgA C t s
    | m :: _ => if m.at_ ≤ t then unV t n (l.dropWhile (fun x => x.at_ == m.at_)) (bgA C m.at_ ((l.takeWhile (fun x => x.at_ == m.at_)).foldl (mkV wvN C F) (bgA C (m.at_ - 1) s))) else bgA C t s
def opn : List Dv → List Int → List Int
  | [], op => op
  | d :: F, op => opn F (if rdV C (cu0 d) then op else op.set (wvN d.k) (op.getD (wvN d.k) 0 + 1))
def nwV : St := ⟨F.map cu0, opn wvN C F (List.replicate C.ws.length 0), List.replicate C.ws.length 0, List.replicate C.ws.length 0, [], -1, C.at_⟩
end
end Go.Proofs.YtidgicbhgnbidaaGreatDoor

/- What a campaign's state keeps true while waves begin and marks are followed. No function of the program in sight. -/
namespace Go.Proofs.YtidgicbhgnbidaaGreatDoor
open Go.RowKit

/-- How a state is, behind at most n marks. -/
structure StO (C : Cm) (F : List Dv) (n : Nat) (s : St) : Prop where
  lc : s.cs.length = F.length
  lo : s.op.length = C.ws.length
  le : s.en.length = C.ws.length
  lf : s.fa.length = C.ws.length
  cu : ∀ x ∈ s.cs, CuOk x n
  op : ∀ x ∈ s.op, -(n : Int) ≤ x ∧ x ≤ 6 + n
  en : ∀ x ∈ s.en, 0 ≤ x ∧ x ≤ n
  fa : ∀ x ∈ s.fa, 0 ≤ x ∧ x ≤ n
  bn : s.be.length ≤ C.ws.length
  be : ∀ x ∈ s.be, 0 ≤ x ∧ x ≤ 1000000
  sp : -1 ≤ s.sp ∧ s.sp ≤ 1000000
  nx : -1 ≤ s.nx ∧ s.nx ≤ 1001000
  nk : 0 ≤ s.nx → s.be.length < C.ws.length
theorem wtV_range {C : Cm} (h : CmOk C) (k : Nat) : 0 ≤ wtV C k ∧ wtV C k ≤ 30 := by
  unfold wtV
  cases hw : C.ws[k]? with
  | none => exact ⟨by show (0 : Int) ≤ 0; omega, by show (0 : Int) ≤ 30; omega⟩
  | some x => exact (h.w x (List.mem_of_getElem? hw)).wt
theorem getD_all {P : Int → Prop} (h0 : P 0) {l : List Int} (h : ∀ x ∈ l, P x) (k : Nat) : P (l.getD k 0) := by
  rw [List.getD_eq_getElem?_getD]
  cases hk : l[k]? with
  | none => exact h0
  | some x => exact h x (List.mem_of_getElem? hk)
theorem set_all {P : Int → Prop} {l : List Int} (h : ∀ x ∈ l, P x) {k : Nat} {v : Int} (hv : P v) : ∀ x ∈ l.set k v, P x := by
  intro x hx
  rcases List.mem_or_eq_of_mem_set hx with h1 | h1
  · exact h x h1
  · rw [h1]; exact hv
section
variable {C : Cm} {F : List Dv} {n : Nat} {s : St} {t : Int}
theorem nxV_range (hC : CmOk C) (h : StO C F n s) (ht : t ≤ 1000000) (h1 : -1 ≤ t) : -1 ≤ nxV C t s ∧ nxV C t s ≤ 1001000 ∧ (0 ≤ nxV C t s → s.be.length < C.ws.length) := by
  have h2 := h.nx
  have h3 := h.nk
  have h4 := wtV_range hC s.be.length
  unfold nxV
  split
  · rename_i hc
    exact ⟨by omega, by omega, fun _ => hc.2.2.1⟩
  · exact ⟨h2.1, h2.2, h3⟩
/-- A wave begins. -/
theorem StO.beg (hC : CmOk C) (h : StO C F n s) (ht : t ≤ 1000000) (h1 : -1 ≤ t) (hs : stopV t s (nxV C t s) = false) : StO C F n (begV C s (nxV C t s)) ∧ 0 ≤ nxV C t s ∧ nxV C t s ≤ t := by
  obtain ⟨a1, a2, a3⟩ := nxV_range hC h ht h1
  unfold stopV at hs
  simp only [Bool.or_eq_false_iff, decide_eq_false_iff_not] at hs
  obtain ⟨b1, b2, _⟩ := hs
  have hn := a3 (by omega)
  refine ⟨⟨h.lc, h.lo, h.le, h.lf, h.cu, h.op, h.en, h.fa, ?_, ?_, h.sp, ?_, ?_⟩, by omega, by omega⟩
  · show (s.be ++ [nxV C t s]).length ≤ _
    rw [List.length_append, List.length_singleton]; omega
  · intro x hx
    rcases List.mem_append.1 hx with hx | hx
    · exact h.be x hx
    · rw [List.mem_singleton] at hx
      rw [hx]; omega
  · show -1 ≤ (if s.be.length + 1 < C.ws.length ∧ s.op.getD s.be.length 0 = 0 then nxV C t s + wtV C (s.be.length + 1) else -1) ∧ (if s.be.length + 1 < C.ws.length ∧ s.op.getD s.be.length 0 = 0 then nxV C t s + wtV C (s.be.length + 1) else -1) ≤ 1001000
    have := wtV_range hC (s.be.length + 1)
    split <;> omega
  · show 0 ≤ (if s.be.length + 1 < C.ws.length ∧ s.op.getD s.be.length 0 = 0 then nxV C t s + wtV C (s.be.length + 1) else -1) → (s.be ++ [nxV C t s]).length < C.ws.length
    rw [List.length_append, List.length_singleton]
    split
    · rename_i hc; intro _; exact hc.1
    · intro h; omega
theorem StO.nxt (hC : CmOk C) (h : StO C F n s) (ht : t ≤ 1000000) (h1 : -1 ≤ t) : StO C F n { s with nx := nxV C t s } := by
  obtain ⟨a1, a2, a3⟩ := nxV_range hC h ht h1
  exact ⟨h.lc, h.lo, h.le, h.lf, h.cu, h.op, h.en, h.fa, h.bn, h.be, h.sp, ⟨a1, a2⟩, a3⟩
theorem StO.bg (hC : CmOk C) (ht : t ≤ 1000000) (h1 : -1 ≤ t) : ∀ (k : Nat) {s : St}, StO C F n s → StO C F n (bgV C t k s)
  | 0, s, h => h
  | k + 1, s, h => by
    rw [bgV_succ]
    cases hs : stopV t s (nxV C t s) with
    | true => exact h.nxt hC ht h1
    | false => exact StO.bg hC ht h1 k (h.beg hC ht h1 hs).1
theorem StO.mono {n' : Nat} (h : StO C F n s) (hn : n ≤ n') : StO C F n' s :=
  ⟨h.lc, h.lo, h.le, h.lf, fun x hx => (h.cu x hx).mono hn, fun x hx => by have := h.op x hx; omega, fun x hx => by have := h.en x hx; omega, fun x hx => by have := h.fa x hx; omega, h.bn, h.be, h.sp, h.nx, h.nk⟩
/-- Rounds that are left over change nothing. -/
theorem bgV_stop (hC : CmOk C) (ht : t ≤ 1000000) (h1 : -1 ≤ t) : ∀ (k j : Nat) {s : St}, StO C F n s → C.ws.length < s.be.length + k → C.ws.length < s.be.length + j → bgV C t k s = bgV C t j s
  | 0, j, s, h, hk, _ => by have := h.bn; omega
  | k, 0, s, h, _, hj => by have := h.bn; omega
  | k + 1, j + 1, s, h, hk, hj => by
    rw [bgV_succ, bgV_succ]
    cases hs : stopV t s (nxV C t s) with
    | true => rfl
    | false =>
      have hb := h.beg hC ht h1 hs
      have e : (begV C s (nxV C t s)).be.length = s.be.length + 1 := by show (s.be ++ [nxV C t s]).length = _; rw [List.length_append]; rfl
      exact bgV_stop hC ht h1 k j hb.1 (by omega) (by omega)
variable {wvN : Nat → Nat} {m : Mk} {i : Nat} {x : Cu}
theorem StO.mark_ (h : StO C F n s) (hm : MkOk m) (hx : s.cs[i]? = some x) : StO C F (n + 1) (mkA wvN C s m i x) := by
  have hxo := h.cu x (List.mem_of_getElem? hx)
  have hcs : ∀ y ∈ s.cs.set i (foTo x m), CuOk y (n + 1) := by
    intro y hy
    rcases List.mem_or_eq_of_mem_set hy with h1 | h1
    · exact (h.cu y h1).mono (by omega)
    · rw [h1]; exact hxo.to hm
  have hop : ∀ k, (if doV C x = doV C (foTo x m) then s.op else if doV C (foTo x m) then s.op.set k (s.op.getD k 0 - 1) else s.op.set k (s.op.getD k 0 + 1)).length = C.ws.length ∧ ∀ y ∈ (if doV C x = doV C (foTo x m) then s.op else if doV C (foTo x m) then s.op.set k (s.op.getD k 0 - 1) else s.op.set k (s.op.getD k 0 + 1)), -((n + 1 : Nat) : Int) ≤ y ∧ y ≤ 6 + ((n + 1 : Nat) : Int) := by
    intro k
    have hg := getD_all (P := fun y => -(n : Int) ≤ y ∧ y ≤ 6 + n) (by omega) h.op k
    have hw : ∀ y ∈ s.op, -((n + 1 : Nat) : Int) ≤ y ∧ y ≤ 6 + ((n + 1 : Nat) : Int) := fun y hy => by have := h.op y hy; omega
    split
    · exact ⟨h.lo, hw⟩
    · split
      · exact ⟨by rw [List.length_set]; exact h.lo, set_all hw (by omega)⟩
      · exact ⟨by rw [List.length_set]; exact h.lo, set_all hw (by omega)⟩
  have hen : ∀ k, ∀ y ∈ s.en.set k (s.en.getD k 0 + 1), 0 ≤ y ∧ y ≤ ((n + 1 : Nat) : Int) := fun k => by
    have hg := getD_all (P := fun y => 0 ≤ y ∧ y ≤ (n : Int)) (by omega) h.en k
    exact set_all (fun y hy => by have := h.en y hy; omega) (by omega)
  have hfa : ∀ k, (if m.kd = 4 then s.fa.set k (s.fa.getD k 0 + 1) else s.fa).length = C.ws.length ∧ ∀ y ∈ (if m.kd = 4 then s.fa.set k (s.fa.getD k 0 + 1) else s.fa), 0 ≤ y ∧ y ≤ ((n + 1 : Nat) : Int) := fun k => by
    have hg := getD_all (P := fun y => 0 ≤ y ∧ y ≤ (n : Int)) (by omega) h.fa k
    have hw : ∀ y ∈ s.fa, 0 ≤ y ∧ y ≤ ((n + 1 : Nat) : Int) := fun y hy => by have := h.fa y hy; omega
    split
    · exact ⟨by rw [List.length_set]; exact h.lf, set_all hw (by omega)⟩
    · exact ⟨h.lf, hw⟩
  have h' := h.mono (n' := n + 1) (by omega)
  unfold mkA
  simp only
  split
  · exact ⟨by rw [List.length_set]; exact h.lc, (hop _).1, h.le, h.lf, hcs, (hop _).2, h'.en, h'.fa, h.bn, h.be, h.sp, h.nx, h.nk⟩
  · refine ⟨by rw [List.length_set]; exact h.lc, (hop _).1, by rw [List.length_set]; exact h.le, (hfa _).1, hcs, (hop _).2, hen _, (hfa _).2, h.bn, h.be, ?_, h.nx, h.nk⟩
    have hif : ∀ (p : Prop) [Decidable p] (a b : Int), (-1 ≤ a ∧ a ≤ 1000000) → (-1 ≤ b ∧ b ≤ 1000000) → (-1 ≤ (if p then a else b) ∧ (if p then a else b) ≤ 1000000) := by
      intro p _ a b ha hb
      split
      · exact ha
      · exact hb
    exact hif _ _ _ (by have := hm.at_; omega) h.sp
theorem StO.mkv (h : StO C F n s) (hm : MkOk m) : StO C F (n + 1) (mkV wvN C F s m) := by
  have h' := h.mono (n' := n + 1) (by omega)
  unfold mkV
  split
  · exact h'
  · split
    · exact h'
    · split
      · exact h'
      · rename_i x hx
        split
        · exact h.mark_ hm hx
        · exact h'
theorem opn_ok : ∀ (G : List Dv) (op : List Int) (k : Nat), (∀ x ∈ op, 0 ≤ x ∧ x ≤ (k : Int)) → (opn wvN C G op).length = op.length ∧ ∀ x ∈ opn wvN C G op, 0 ≤ x ∧ x ≤ ((k + G.length : Nat) : Int)
  | [], op, k, h => ⟨rfl, fun x hx => by have := h x hx; simpa using this⟩
  | d :: G, op, k, h => by
    have hg := getD_all (P := fun y => 0 ≤ y ∧ y ≤ (k : Int)) (by omega) h (wvN d.k)
    unfold opn
    have hk : ∀ x ∈ (if rdV C (cu0 d) then op else op.set (wvN d.k) (op.getD (wvN d.k) 0 + 1)), 0 ≤ x ∧ x ≤ ((k + 1 : Nat) : Int) := by
      split
      · intro x hx; have := h x hx; omega
      · exact set_all (fun x hx => by have := h x hx; omega) (by omega)
    obtain ⟨h1, h2⟩ := opn_ok G _ (k + 1) hk
    refine ⟨h1.trans ?_, fun x hx => by have := h2 x hx; rw [List.length_cons]; omega⟩
    split
    · rfl
    · rw [List.length_set]
theorem nwV_ok (hC : CmOk C) (hF : FlOk F) : StO C F 0 (nwV wvN C F) := by
  have hr : ∀ x ∈ List.replicate C.ws.length (0 : Int), 0 ≤ x ∧ x ≤ ((0 : Nat) : Int) := fun x hx => by
    have := List.eq_of_mem_replicate hx
    omega
  obtain ⟨h1, h2⟩ := opn_ok (wvN := wvN) (C := C) F (List.replicate C.ws.length (0 : Int)) 0 hr
  have hn := hF.n
  refine ⟨by show (F.map cu0).length = _; rw [List.length_map], by show (opn wvN C F _).length = _; rw [h1, List.length_replicate], by show (List.replicate _ _).length = _; rw [List.length_replicate], by show (List.replicate _ _).length = _; rw [List.length_replicate], ?_, ?_, hr, hr, Nat.zero_le _, fun x hx => (by cases hx), ⟨by show (-1 : Int) ≤ -1; omega, by show (-1 : Int) ≤ 1000000; omega⟩, ?_, fun _ => hC.n.1⟩
  · intro x hx
    obtain ⟨d, hd, rfl⟩ := List.mem_map.1 hx
    exact cu0_ok (hF.ok d hd)
  · intro x hx
    have := h2 x hx
    omega
  · show -1 ≤ C.at_ ∧ C.at_ ≤ 1001000
    have := hC.at_
    omega
end
end Go.Proofs.YtidgicbhgnbidaaGreatDoor
