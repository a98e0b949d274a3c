/- What a row holds behind stores of many cells, and behind clear; no program in sight. -/
import Derived.Test.YtnmgfnnkcenfeaaGreatDoorRec
import Derived.Lib.SliceRun
import Derived.Deep.RegionLaw
namespace Go.Proofs.YtnmgfnnkcenfeaaGreatDoor
open Go.RowKit

theorem set_take_drop (xs r : List Value) (o : Nat) (v : Value) (h : o < xs.length) : (xs.set o v).take (o + 1) ++ r ++ (xs.set o v).drop (o + 1 + r.length) = xs.take o ++ v :: r ++ xs.drop (o + (v :: r).length) := by
  rw [List.set_eq_take_append_cons_drop, if_pos h]
  have h1 : (xs.take o).length = o := by simp; omega
  rw [List.take_append, List.drop_append, h1]
  have e1 : (xs.take o).take (o + 1) = xs.take o := by rw [List.take_take]; congr 1; omega
  have e2 : (xs.take o).drop (o + 1 + r.length) = [] := List.drop_eq_nil_of_le (by omega)
  rw [e1, e2, show o + 1 - o = 1 by omega, show o + 1 + r.length - o = r.length + 1 by omega]
  simp only [List.take_succ_cons, List.take_zero, List.drop_succ_cons, List.drop_drop, List.nil_append, List.append_assoc, List.cons_append, List.length_cons]
  rw [show o + 1 + r.length = o + (r.length + 1) by omega]
theorem own_setCells {base : Nat} {e : TypeId} {size g n cap : Nat} : ∀ (vs : List Value) (o : Nat) (w : World) (xs : List Value), w.ownsRow base e size (.slice (some ⟨g, 0, none⟩) n cap) n xs → o + vs.length ≤ xs.length →
    (w.setCells g o vs).ownsRow base e size (.slice (some ⟨g, 0, none⟩) n cap) n (xs.take o ++ vs ++ xs.drop (o + vs.length)) ∧ w.grownBy (w.setCells g o vs) (some g)
  | [], o, w, xs, h, _ => by simpa [World.setCells] using ⟨h, grown_refl w _⟩
  | v :: r, o, w, xs, h, hl => by
    simp only [List.length_cons] at hl
    obtain ⟨h1, h2⟩ := h.stored o v
    obtain ⟨h3, h4⟩ := own_setCells r (o + 1) _ _ h1 (by rw [List.length_set]; omega)
    rw [set_take_drop xs r o v (by omega)] at h3
    exact ⟨h3, grown_trans h2 h4⟩
theorem own_shrink {w : World} {base : Nat} {e : TypeId} {size g n cap : Nat} {xs : List Value} (h : w.ownsRow base e size (.slice (some ⟨g, 0, none⟩) n cap) n xs) (m : Nat) (hm : m ≤ n) :
    w.ownsRow base e size (.slice (some ⟨g, 0, none⟩) m cap) m (xs.take (m * size)) := by
  have hle : m * size ≤ n * size := Nat.mul_le_mul_right _ hm
  refine ⟨by rw [List.length_take, h.1]; omega, ?_⟩
  rcases h.2 with ⟨hv, _⟩ | ⟨g', cap', cur, hv, hb, hh, hc, hcm, hcs, ht⟩
  · injection hv with h1 _; cases h1
  · injection hv with h1 h2 h3
    injection h1 with h1
    injection h1 with h1 _
    subst h1 h3
    refine .inr ⟨g, cap, cur, rfl, hb, hh, by omega, hcm, hcs, ?_⟩
    rw [← ht, List.take_take]
    congr 1; omega
theorem run_clear_one {P : Program} (w : World) (t e ty : TypeId) (z : Value) (zs : List Value) (ht : P.underlying t = some (.slice e)) (hv : ∀ w, (zeroValue e).run P w = .ok z w) (hz : z.cells.toList = zs) (h1 : ∀ u ∈ zs, u.oneCell' = true) (b o c : Nat)
    (hc : ∀ j, j < zs.length → (w.cell? ⟨b, o + j, none⟩).isSome = true) (hf : ∀ j, j < zs.length → w.frozen? ⟨b, o + j, none⟩ = false) :
    (Builtin.clear_ #[t] ty #[.slice (some ⟨b, o, none⟩) 1 c]).run P w = .ok (.tuple #[]) (w.setCells b o zs) := by
  have hzc : (Builtin.zeroCells z.cells 1).toList = zs := by
    rw [← hz]
    simp [Builtin.zeroCells]
    apply List.ext_getElem
    · simp
    · intro i h1 h2
      simp at h1 h2
      simp [Nat.mod_eq_of_lt h2, getElem!_pos z.cells i h2]
  have hst := run_storeCells_cells (P := P) b o zs 0 w (by simpa using hc) (by simpa using hf) h1
  simp only [Nat.add_zero] at hst
  simp [Builtin.clear_, run_underlying ht, hv, hzc, hst]
/-- An element less: what stood behind it comes up, and nothing is left at the end. -/
theorem del_cells {α : Type} {f : α → List Value} {k : Nat} (hf : ∀ x, (f x).length = k) (l : List α) (i : Nat) (hi : i < l.length) (zs : List Value) :
    let a := (recs f l).take (i * k) ++ recs f (l.drop (i + 1)) ++ (recs f l).drop (i * k + (recs f (l.drop (i + 1))).length)
    (a.take ((l.length - 1) * k) ++ zs ++ a.drop ((l.length - 1) * k + zs.length)).take ((l.length - 1) * k) = recs f (l.eraseIdx i) := by
  intro a
  have hl := recs_length hf l
  have hd := recs_length hf (l.drop (i + 1))
  rw [List.length_drop] at hd
  have e1 : (recs f l).take (i * k) = recs f (l.take i) := by
    conv => lhs; rw [← List.take_append_drop i l, recs_append]
    rw [List.take_left' (by rw [recs_length hf, List.length_take]; congr 1; omega)]
  have hal : (recs f (l.take i) ++ recs f (l.drop (i + 1))).length = (l.length - 1) * k := by
    rw [List.length_append, recs_length hf, hd, List.length_take, ← Nat.add_mul]
    congr 1; omega
  have ha : a = recs f (l.take i) ++ recs f (l.drop (i + 1)) ++ (recs f l).drop (i * k + (recs f (l.drop (i + 1))).length) := by show _ ++ _ ++ _ = _; rw [e1]
  have hta : a.take ((l.length - 1) * k) = recs f (l.take i) ++ recs f (l.drop (i + 1)) := by rw [ha, List.take_left' hal]
  rw [hta, List.append_assoc, List.take_left' hal, ← recs_append, List.eraseIdx_eq_take_drop_succ]
/-- append to a row of the call's own, as one step of a region that draws its order. -/
theorem step_append_row {P : Program} {ops : Array Oper} {o : Oper} {a : Act} {w : World} {K : Act → World → Prop} {Q : Exit → Act → World → Prop} {E : Prop}
    (hg : o.guard = none) (s x : Operand) (t : TypeId) (hop : o.op = Op.call { callee := Callee.builtin Builtin.append, args := #[s, x], argTypes := #[t, t] })
    (base : Nat) (e : TypeId) (i : TypeInfo) (z : Value) (size bytes : Nat) (h1 : P.underlying t = some (.slice e)) (h2 : P.info? e = some i) (h3 : i.zero = some z) (h4 : i.size = size) (h5 : i.bytes = bytes) (h6 : z.cells.size = size) (h7 : 0 < size)
    (v : Value) (n : Nat) (xs : List Value) (hs : a.eval s = v) (hown : w.ownsRow base e size v n xs)
    (ad : Addr) (m c : Nat) (news : List Value) (hx : a.eval x = .slice (some ad) m c) (hn : news.length = m * size) (hc : ∀ j u, news[j]? = some u → w.cell? (ad.add j) = some u) (h1c : ∀ u ∈ news, u.oneCell' = true)
    (b1 : n + m ≤ maxLen) (b2 : (n + m) * bytes ≤ 140737488355328) (hb : base ≤ w.heap.size)
    (hK : ∀ v' w', w'.ownsRow base e size v' (n + m) (xs ++ news) → w.grownBy w' v.ownBlock → K (a.put o.dst v') w') :
    if Region.wanted o (yielded ops a.tmps) = true then Oper.wp P o a w K Q else E := by
  have hw : Region.wanted o (yielded ops a.tmps) = true := by simp [Region.wanted, hg]
  rw [if_pos hw]
  obtain ⟨v', w', hrun, r1, r2, _⟩ := run_append_own (P := P) w base t o.type e i z size bytes h1 h2 h3 h4 h5 h6 h7 v n xs hown ad m c news hn hc h1c b1 b2 hb
  unfold Oper.wp
  simp [execOp, hop, resolve, invoke, builtin, hs, hx, hrun, Result.andThen]
  exact hK v' w' r1 r2
theorem own_cells0 {w : World} {base : Nat} {e : TypeId} {size g n cap : Nat} {xs : List Value} (h : w.ownsRow base e size (.slice (some ⟨g, 0, none⟩) n cap) n xs) : Cells w g 0 xs := by
  intro j v hv
  rw [Nat.zero_add]
  exact (h.cellAt j (by rw [← h.1]; exact (List.getElem?_eq_some_iff.1 hv).1)).trans hv
theorem own_blk {w : World} {base : Nat} {e : TypeId} {size g n cap : Nat} {xs : List Value} (h : w.ownsRow base e size (.slice (some ⟨g, 0, none⟩) n cap) n xs) : ∃ cs, w.heap[g]? = some (.cells cs e (0, 0)) := by
  rcases h.2 with ⟨hv, _⟩ | ⟨g', cap', cur, hv, hb, hh, _⟩
  · injection hv with h1; cases h1
  · injection hv with h1
    injection h1 with h1
    injection h1 with h1
    subst h1
    exact ⟨cur, hh⟩
/-- How long a slice is. -/
def slLen : Value → Nat
  | .slice _ n _ => n
  | _ => 0
end Go.Proofs.YtnmgfnnkcenfeaaGreatDoor
