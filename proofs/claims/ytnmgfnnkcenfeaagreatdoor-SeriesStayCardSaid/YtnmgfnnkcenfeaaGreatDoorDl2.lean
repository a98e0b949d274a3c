/- Rows of records: one record stored anew, many cleared; no program in sight. -/
import Derived.Test.YtnmgfnnkcenfeaaGreatDoorDel
namespace Go.Proofs.YtnmgfnnkcenfeaaGreatDoor
open Go.RowKit

section
variable {α : Type} {f : α → List Value} {k : Nat}
theorem recs_cons (x : α) (l : List α) : recs f (x :: l) = f x ++ recs f l := by simp [recs]
theorem recs_set (hf : ∀ x, (f x).length = k) : ∀ (l : List α) (i : Nat) (x : α), i < l.length → (recs f l).take (i * k) ++ f x ++ (recs f l).drop (i * k + (f x).length) = recs f (l.set i x)
  | [], i, x, h => by simp at h
  | y :: l, 0, x, _ => by
    rw [List.set_cons_zero, recs_cons, recs_cons, Nat.zero_mul, List.take_zero, List.nil_append, Nat.zero_add, List.drop_left' (by rw [hf, hf])]
  | y :: l, i + 1, x, h => by
    have ih := recs_set hf l i x (by simpa using h)
    have e : (i + 1) * k = (f y).length + i * k := by rw [Nat.succ_mul, hf]; omega
    rw [List.set_cons_succ, recs_cons, recs_cons, e, List.take_length_add_append, Nat.add_assoc, List.drop_length_add_append, ← ih]
    simp
end
theorem run_clear_n {P : Program} (w : World) (t e : TypeId) (z : Value) (zs : List Value) (n : Nat) (ht : P.underlying t = some (.slice e)) (hv : ∀ w, (zeroValue e).run P w = .ok z w) (hz : z.cells.toList = zs) (h0 : 0 < zs.length) (h1 : ∀ u ∈ zs, u.oneCell' = true) (b o : Nat)
    (hc : ∀ j, j < n * zs.length → (w.cell? ⟨b, o + j, none⟩).isSome = true) (hf : ∀ j, j < n * zs.length → w.frozen? ⟨b, o + j, none⟩ = false) :
    ∃ vs : List Value, vs.length = n * zs.length ∧ ∀ (ty : TypeId) (c : Nat), (Builtin.clear_ #[t] ty #[.slice (some ⟨b, o, none⟩) n c]).run P w = .ok (.tuple #[]) (w.setCells b o vs) := by
  have hsz : z.cells.size = zs.length := by rw [← hz]; simp
  refine ⟨(Builtin.zeroCells z.cells n).toList, by simp [Builtin.zeroCells, hsz], ?_⟩
  have hone : ∀ u ∈ (Builtin.zeroCells z.cells n).toList, u.oneCell' = true := by
    intro u hu
    simp only [Builtin.zeroCells, Array.toList_map, List.mem_map] at hu
    obtain ⟨i, _, rfl⟩ := hu
    refine h1 _ ?_
    rw [← hz]
    have hlt : i % z.cells.size < z.cells.size := Nat.mod_lt _ (by rw [hsz]; exact h0)
    rw [getElem!_pos z.cells _ hlt]
    exact Array.getElem_mem_toList hlt
  have hlen : (Builtin.zeroCells z.cells n).toList.length = n * zs.length := by simp [Builtin.zeroCells, hsz]
  intro ty c
  have hst := run_storeCells_cells (P := P) b o (Builtin.zeroCells z.cells n).toList 0 w (by rw [hlen]; simpa using hc) (by rw [hlen]; simpa using hf) hone
  simp only [Nat.add_zero] at hst
  cases n with
  | zero => simp [Builtin.clear_, run_underlying ht, Builtin.zeroCells, World.setCells]
  | succ m => simp [Builtin.clear_, run_underlying ht, hv, hst]
end Go.Proofs.YtnmgfnnkcenfeaaGreatDoor
