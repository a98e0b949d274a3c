/- A region that draws its order and whose callees lay blocks of their own, walked once in the text's order: what is so of every world that has grown. -/
import Derived.Test.YtnmgfnnkcenfeaaGreatDoorMgA
import Derived.Deep.QuietTactic
import Derived.BigQuiet
namespace Go.Proofs.YtnmgfnnkcenfeaaGreatDoor
open Go.RowKit

section
variable {P : Program}
theorem qVal {C : World → Prop} {o : Oper} {a : Act} {K : Act → Prop} {v : Value} (h : ∀ V, C V → (execOp a.eval o).run P V = .ok (.value v) V) (k : K (a.put o.dst v)) : o.quiet P a C K :=
  ⟨v, fun w hw => by unfold Oper.quietAt; rw [h w hw]; exact ⟨rfl, rfl⟩, k⟩
theorem qCall {C : World → Prop} {o : Oper} {a : Act} {K : Act → Prop} {v : Value} {f : FuncId} {args : Array Value} (h : ∀ V, C V → (execOp a.eval o).run P V = .ok (.enter f args) V)
    (hc : ∀ V, C V → Calls P f args V fun e w' => e = .returned v ∧ C w') (k : K (a.put o.dst v)) : o.quiet P a C K :=
  ⟨v, fun w hw => by unfold Oper.quietAt; rw [h w hw]; exact ⟨rfl, hc w hw⟩, k⟩
theorem qWant {ops : Array Oper} {C : World → Prop} {Q : Act → Prop} {o : Oper} {rest : List Oper} {a : Act} (hw : Region.wanted o (yielded ops a.tmps) = true) (h : ∀ K : Act → Prop, (∀ a, wpQuiet P ops C Q rest a → K a) → o.quiet P a C K) : wpQuiet P ops C Q (o :: rest) a :=
  wpQuiet_step (fun K hK => by rw [if_pos hw]; exact h K hK)
theorem qSkip {ops : Array Oper} {C : World → Prop} {Q : Act → Prop} {o : Oper} {rest : List Oper} {a : Act} (hw : Region.wanted o (yielded ops a.tmps) = false) (h : wpQuiet P ops C Q rest (a.put o.dst undef)) : wpQuiet P ops C Q (o :: rest) a :=
  wpQuiet_step (fun K hK => by rw [if_neg (by rw [hw]; exact Bool.false_ne_true)]; exact hK _ h)
/-- The class: what has grown out of w. -/
theorem qRegion {id : Nat} {Q : Exit → Act → World → Prop} {a : Act} {w : World} {l : List Oper} (hm : P.follows .mixedOrders = true) (hB : Region.lexB .any l.toArray = true)
    (h : wpQuiet P l.toArray (fun V => Below w.heap.size w V) (fun a' => ∀ w', Below w.heap.size w w' → Q .normal a' w') l a) : (Code.region id l.toArray true).wp P Q a w :=
  wp_region_quiet (C := fun V => Below w.heap.size w V) hm hB ((Below.refl _ _).drew) (by simpa using h)
end
end Go.Proofs.YtnmgfnnkcenfeaaGreatDoor
