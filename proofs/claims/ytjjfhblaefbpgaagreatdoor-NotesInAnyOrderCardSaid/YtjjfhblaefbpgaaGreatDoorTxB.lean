/- A strings.Builder of a call's own is kept by what lays new blocks only; no program in sight. -/
import Derived.Lib.FrozenHead
import Derived.Lib.OthersKept
namespace Go.Proofs.YtjjfhblaefbpgaaGreatDoor
open Go.RowKit

theorem builderF_below {T e : TypeId} {B b : Nat} {p : Value} {bs : List Value} {w w' : World} (h : Lib.BuilderAtF T e B b p bs w) (hb : Below w.heap.size w w') : Lib.BuilderAtF T e B b p bs w' := by
  have hlt := h.lt
  obtain ⟨hB, v, hv, hown, hne⟩ := h
  exact ⟨hB, v, (hb.block b hlt).trans hv, hown.kept (row := none) ⟨hb.os, hb.tape, hb.output, hb.size, fun k hk _ => hb.block k hk⟩ (Classical.em _), hne⟩
theorem isBuilderF_below {T e : TypeId} {B b : Nat} {bs : List Value} {w w' : World} (h : Lib.IsBuilderF T e B b bs w) (hb : Below w.heap.size w w') : Lib.IsBuilderF T e B b bs w' :=
  h.elim (fun x => .inl (builderF_below x hb)) (fun x => .inr (builderF_below x hb))
theorem others_below {e : TypeId} {bo : Option Nat} {a w w' : World} (h : Lib.OthersKept e bo a w) (hb : Below w.heap.size w w') : Lib.OthersKept e bo a w' := by
  intro k x hk hbk hx
  have h1 := h k x hk hbk hx
  rw [hb.block k (Array.getElem?_eq_some_iff.1 h1).1]
  exact h1
end Go.Proofs.YtjjfhblaefbpgaaGreatDoor
