/- Maps from versions to costs, entry by entry: look-ups and stores; versions compared by ==. -/
import Derived.Test.YtidgicbhgnbidaaGreatDoorMyB
import Derived.Maps.OwnOps
import Derived.Laws.StructEq
import Derived.DeepKeys
namespace Go.Proofs.YtidgicbhgnbidaaGreatDoor
open Go.RowKit Go.Maps Go.WideMaps

theorem eqFields_three {P : Program} {d : Nat} {xs ys : Array Value} {F1 F2 F3 : Field} {a b c a' b' c' : Value} {x y z : Bool} (w : World) (n1 : (F1.name == "_") = false) (n2 : (F2.name == "_") = false) (n3 : (F3.name == "_") = false)
    (p1 : (part F1.type xs F1.offset).run P w = .ok a w) (p2 : (part F2.type xs F2.offset).run P w = .ok b w) (p3 : (part F3.type xs F3.offset).run P w = .ok c w) (q1 : (part F1.type ys F1.offset).run P w = .ok a' w) (q2 : (part F2.type ys F2.offset).run P w = .ok b' w) (q3 : (part F3.type ys F3.offset).run P w = .ok c' w)
    (e1 : (Op.equalIn d F1.type a a').run P w = .ok x w) (e2 : (Op.equalIn d F2.type b b').run P w = .ok y w) (e3 : (Op.equalIn d F3.type c c').run P w = .ok z w) : (Op.eqFields d xs ys [F1, F2, F3]).run P w = .ok (x && (y && z)) w := by
  have m1 : F1.name ≠ "_" := by simpa using n1
  have m2 : F2.name ≠ "_" := by simpa using n2
  have m3 : F3.name ≠ "_" := by simpa using n3
  simp only [Op.eqFields, m1, m2, m3, ne_eq, not_false_eq_true, if_true, Sem.run_bind, p1, q1, e1, Result.andThen_ok]
  cases x with
  | false => simp
  | true =>
    simp only [Bool.not_true, Bool.false_eq_true, if_false, Sem.run_bind, p2, q2, e2, Result.andThen_ok]
    cases y with
    | false => simp
    | true =>
      simp only [Bool.not_true, Bool.false_eq_true, if_false, Sem.run_bind, p3, q3, e3, Result.andThen_ok]
      cases z <;> simp
theorem ve_eq (x y : Ve) : (x.a == y.a && (x.b == y.b && x.c == y.c)) = decide (x = y) := by
  obtain ⟨a, b, c⟩ := x
  obtain ⟨d, e, f⟩ := y
  rw [Bool.eq_iff_iff]
  simp only [Bool.and_eq_true, beq_iff_eq, decide_eq_true_eq, Ve.mk.injEq]
theorem ver_equal (x y : Ve) (w : World) : (Op.equal 29 (veV x) (veV y)).run Tryz.prog w = .ok (decide (x = y)) w := by
  rw [← ve_eq]
  have h := run_equalIn_agg (P := Tryz.prog) (w := w) 9999 29 #[.int .i64 x.a, .int .i64 x.b, .int .i64 x.c] #[.int .i64 y.a, .int .i64 y.b, .int .i64 y.c] (by kernel_rfl) (by kernel_rfl)
  have e : (Op.equal 29 (veV x) (veV y)).run Tryz.prog w = (Op.equalIn (9999 + 1) 29 (.agg #[.int .i64 x.a, .int .i64 x.b, .int .i64 x.c]) (.agg #[.int .i64 y.a, .int .i64 y.b, .int .i64 y.c])).run Tryz.prog w := rfl
  rw [e, h]
  have hi := fun a b => run_equalIn_int (P := Tryz.prog) (w := w) 9998 3 .i64 .i64 a b Tryz.underlying3
  have f : (Tryz.prog.fieldsOf 29).toList = [(Tryz.prog.fieldsOf 29)[0]!, (Tryz.prog.fieldsOf 29)[1]!, (Tryz.prog.fieldsOf 29)[2]!] := by kernel_rfl
  have t1 : ((Tryz.prog.fieldsOf 29)[0]!).type = 3 := by kernel_rfl
  have t2 : ((Tryz.prog.fieldsOf 29)[1]!).type = 3 := by kernel_rfl
  have t3 : ((Tryz.prog.fieldsOf 29)[2]!).type = 3 := by kernel_rfl
  rw [f]
  exact eqFields_three w (by kernel_rfl) (by kernel_rfl) (by kernel_rfl) (a := .int .i64 x.a) (b := .int .i64 x.b) (c := .int .i64 x.c) (a' := .int .i64 y.a) (b' := .int .i64 y.b) (c' := .int .i64 y.c) (by kernel_rfl) (by kernel_rfl) (by kernel_rfl) (by kernel_rfl) (by kernel_rfl) (by kernel_rfl) (by rw [t1]; exact hi _ _) (by rw [t2]; exact hi _ _) (by rw [t3]; exact hi _ _)
theorem ver_neq (x y : Ve) (w : World) : (binOp .neq 29 (veV x) (veV y)).run Tryz.prog w = .ok (.bool (!decide (x = y))) w := by
  have h := ver_equal x y w
  unfold veV at h ⊢
  simp [binOp, h, Result.andThen]
theorem ver_eql (x y : Ve) (w : World) : (binOp .eql 29 (veV x) (veV y)).run Tryz.prog w = .ok (.bool (decide (x = y))) w := by
  have h := ver_equal x y w
  unfold veV at h ⊢
  simp [binOp, h, Result.andThen]
theorem ver_check (b : Bool) (v : Ve) (w : World) : (Instr.checkKey b 10000 29 (veV v)).run Tryz.prog w = .ok () w := by
  kernel_rfl
/-- The entries. -/
abbrev VmL := List (Ve × Co)
def vmE : Nat → VmL → List MapEntry
  | _, [] => []
  | i, p :: l => { key := veV p.1, val := coV p.2, born := i } :: vmE (i + 1) l
theorem vmE_snoc (i : Nat) (l : VmL) (p : Ve × Co) : vmE i (l ++ [p]) = vmE i l ++ [{ key := veV p.1, val := coV p.2, born := i + l.length }] := by
  induction l generalizing i with
  | nil => rfl
  | cons q l ih => simp only [List.cons_append, vmE, ih, List.length_cons]; rw [show i + 1 + l.length = i + (l.length + 1) by omega]
def vmG (k : Ve) : VmL → Option Co
  | [] => none
  | p :: l => if k = p.1 then some p.2 else vmG k l
def vmU (k : Ve) (v : Co) : VmL → VmL
  | [] => [(k, v)]
  | p :: l => if k = p.1 then (k, v) :: l else p :: vmU k v l
theorem vmG_U (k q : Ve) (v : Co) (l : VmL) : vmG q (vmU k v l) = if q = k then some v else vmG q l := by
  induction l with
  | nil => simp [vmU, vmG]
  | cons p l ih =>
    unfold vmU
    by_cases h : k = p.1
    · rw [if_pos h]
      simp only [vmG]
      by_cases h2 : q = k
      · rw [if_pos h2, if_pos h2]
      · rw [if_neg h2, if_neg h2, if_neg (by rw [← h]; exact h2)]
    · rw [if_neg h]
      simp only [vmG]
      by_cases h2 : q = p.1
      · rw [if_pos h2, if_neg (by rw [h2]; exact fun e => h e.symm), if_pos h2]
      · rw [if_neg h2, ih, if_neg h2]
def VmI (w : World) (m : Nat) (l : VmL) : Prop := w.heap[m]? = some (.map (vmE 0 l).toArray l.length)
theorem VmI.lt {w : World} {m : Nat} {l : VmL} (h : VmI w m l) : m < w.heap.size := (Array.getElem?_eq_some_iff.1 h).1
theorem VmI.keep {w w' : World} {m : Nat} {l : VmL} (h : VmI w m l) (hk : w'.heap[m]? = w.heap[m]?) : VmI w' m l := hk.trans h
theorem VmI.below {w w' : World} {m : Nat} {l : VmL} (h : VmI w m l) (hb : Below w.heap.size w w') : VmI w' m l := h.keep (hb.block m h.lt)
theorem find_vm (k : Ve) (v : Co) (w : World) : ∀ (l : VmL) (i j : Nat),
    ((Instr.findAsking 29 (veV k) (vmE i l) j).run Tryz.prog w = .ok none w ∧ vmG k l = none ∧ vmU k v l = l ++ [(k, v)]) ∨
    ∃ n x, (Instr.findAsking 29 (veV k) (vmE i l) j).run Tryz.prog w = .ok (some (j + n, coV x)) w ∧ vmG k l = some x ∧ (vmE i l).modify n (fun e => { e with key := veV k, val := coV v }) = vmE i (vmU k v l) ∧ ((vmE i l)[n]?).map (·.key) = some (veV k) ∧ (vmU k v l).length = l.length
  | [], _, _ => .inl ⟨by simp [vmE, Instr.findAsking], rfl, rfl⟩
  | p :: l, i, j => by
    have he := ver_equal k p.1 w
    by_cases h : k = p.1
    · rw [decide_eq_true h] at he
      refine .inr ⟨0, p.2, ?_, ?_, ?_, ?_, ?_⟩
      · simp [vmE, Instr.findAsking, he, Result.andThen]
      · simp [vmG, h]
      · simp [vmE, vmU, h]
      · simp [vmE, h]
      · simp [vmU, h]
    · rw [decide_eq_false h] at he
      rcases find_vm k v w l (i + 1) (j + 1) with ⟨h1, h2, h3⟩ | ⟨n, x, h1, h2, h3, h4, h5⟩
      · refine .inl ⟨?_, ?_, ?_⟩
        · simp [vmE, Instr.findAsking, he, h1, Result.andThen]
        · simp [vmG, h, h2]
        · simp [vmU, h, h3]
      · refine .inr ⟨n + 1, x, ?_, ?_, ?_, ?_, ?_⟩
        · simp only [vmE]
          simp [Instr.findAsking, he, h1, Result.andThen]
          omega
        · simp [vmG, h, h2]
        · simp only [vmE, vmU, if_neg h, List.modify_succ_cons, h3]
        · simpa [vmE] using h4
        · simp [vmU, h, h5]
theorem now_vm (k : Ve) (l : VmL) (i j : Nat) : Instr.findNow (.struct (Tryz.prog.fieldsOf 29)) (veV k) (vmE i l) j = if l = [] then some none else none := by
  cases l with
  | nil => rfl
  | cons p l => rfl
theorem key_vm (k : Ve) (l : VmL) (w : World) (r : Option (Nat × Value)) (h : (Instr.findAsking 29 (veV k) (vmE 0 l) 0).run Tryz.prog w = .ok r w) : (Instr.findKey 29 (veV k) (vmE 0 l)).run Tryz.prog w = .ok r w := by
  have hu : Tryz.prog.underlying 29 = some (.struct (Tryz.prog.fieldsOf 29)) := by kernel_rfl
  cases l with
  | nil =>
    have hr : r = none := by simp [vmE, Instr.findAsking] at h; exact h.symm
    subst hr
    simp [Instr.findKey, run_underlying hu, now_vm, Result.andThen]
  | cons p l =>
    simp only [Instr.findKey, Sem.run_bind, run_underlying hu, now_vm, Result.andThen_ok]
    simpa using h
section
variable {w : World} {m : Nat} {l : VmL} {k : Ve} {v : Co}
/-- v, ok := m[k]. -/
theorem look_vm (hb : VmI w m l) : (Instr.lookup 96 (.map (some m)) (veV k) true).run Tryz.prog w = .ok (.tuple #[coV ((vmG k l).getD (0, 0)), .bool (vmG k l).isSome]) w := by
  have hz : (zeroValue 99).run Tryz.prog w = .ok (coV (0, 0)) w := by kernel_rfl
  have hc := fun b => ver_check b k w
  unfold VmI at hb
  rcases find_vm k (0, 0) w l 0 0 with ⟨h1, h2, _⟩ | ⟨n, x, h1, h2, _⟩
  · have hf := key_vm k l w none h1
    simp [Instr.lookup, run_underlying Tryz.underlying96, MapKept.run_getObj_map hb, hc, hf, hz, h2, Result.andThen]
  · have hf := key_vm k l w _ h1
    simp [Instr.lookup, run_underlying Tryz.underlying96, MapKept.run_getObj_map hb, hc, hf, h2, Result.andThen]
/-- m[k] = v. -/
theorem upd_vm (hb : VmI w m l) : (Instr.mapUpdate 96 (.map (some m)) (veV k) (coV v)).run Tryz.prog w = .ok () { w with heap := w.heap.setIfInBounds m (.map (vmE 0 (vmU k v l)).toArray (vmU k v l).length) } := by
  have hc := fun b => ver_check b k w
  unfold VmI at hb
  rcases find_vm k v w l 0 0 with ⟨h1, h2, h3⟩ | ⟨n, x, h1, h2, h3, h4, h5⟩
  · have hf := key_vm k l w none h1
    have e : (vmE 0 (vmU k v l)).toArray = (vmE 0 l).toArray.push { key := veV k, val := coV v, born := l.length } := by rw [h3, vmE_snoc]; simp
    rw [e, h3, List.length_append]
    simp [Instr.mapUpdate, run_underlying Tryz.underlying96, MapKept.run_getObj_map hb, hc, hf, MapKept.run_setObj_map _ hb, Result.andThen]
  · have hf := key_vm k l w _ h1
    have hst : (Instr.keyThatStays (((vmE 0 l)[n]?.map (·.key)).getD (veV k)) (veV k)).run Tryz.prog w = .ok (veV k) w := by
      rw [h4]
      have hsb : Instr.sameBits 10000 (veV k) (veV k) = true := by
        show Instr.sameBits (9999 + 1) (.agg #[.int .i64 k.a, .int .i64 k.b, .int .i64 k.c]) (.agg #[.int .i64 k.a, .int .i64 k.b, .int .i64 k.c]) = true
        simp [Instr.sameBits]
      simp [Instr.keyThatStays, hsb]
    rw [← h3, h5]
    simp only [Nat.zero_add] at hf
    simp [Instr.mapUpdate, run_underlying Tryz.underlying96, MapKept.run_getObj_map hb, hc, hf, hst, MapKept.run_setObj_map _ hb, Result.andThen]
theorem VmI.upd (hb : VmI w m l) : VmI { w with heap := w.heap.setIfInBounds m (.map (vmE 0 (vmU k v l)).toArray (vmU k v l).length) } m (vmU k v l) := Array.getElem?_setIfInBounds_self_of_lt hb.lt
end
end Go.Proofs.YtidgicbhgnbidaaGreatDoor
