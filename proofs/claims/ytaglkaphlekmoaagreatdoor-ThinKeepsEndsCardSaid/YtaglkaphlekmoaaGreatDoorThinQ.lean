/- series.Thin: one contract. -/
import Derived.Test.YtaglkaphlekmoaaGreatDoorThinC
import Derived.Test.YtaglkaphlekmoaaGreatDoorThinD
import Derived.Test.YtaglkaphlekmoaaGreatDoorThin
namespace Go.Proofs.YtaglkaphlekmoaaGreatDoor
open Go.RowKit

theorem thin_any (l : List Smp) (n m c : Nat) (A : Option Addr) (w : World) (hn : l.length = n) (hm : 3 ≤ m) (hm2 : m ≤ 100) (hn2 : n ≤ 50) (hnc : n ≤ c) (hg : GoodS l) (hA : (A = none ∧ n = 0 ∧ c = 0) ∨ ∃ g, A = some ⟨g, 0, none⟩) (hr : Row w w.heap.size A (cellsOf l)) (hv : ∀ s ∈ l, (0 ≤ s.1 ∧ s.1 ≤ 20000) ∧ -1000 ≤ s.2 ∧ s.2 ≤ 1000) :
    Calls Tryz.prog 24 #[.slice A n c, .int .i64 (m : Int)] w fun e w' => ∃ v is, e = .returned (.tuple #[v, .int .i64 0]) ∧ Kept is (min m n) n ∧ w'.ownsRow w.heap.size 53 4 v (min m n) (cellsOf (atI l is)) ∧ Below w.heap.size w w' := by
  rcases Nat.lt_or_ge m n with h | h
  · rcases hA with ⟨_, h0, _⟩ | ⟨g, rfl⟩
    · omega
    · obtain ⟨b, o, he, hb, hc⟩ : ∃ b o, some (⟨g, 0, none⟩ : Addr) = some ⟨b, o, none⟩ ∧ b < w.heap.size ∧ Cells w b o (cellsOf l) := by
        rcases hr with h' | h'
        · exfalso
          have := cellsOf_length l
          rw [h'] at this
          simp at this
          omega
        · exact h'
      injection he with he
      injection he with e1 e2
      subst e1 e2
      refine (thin_some l n m c g 0 w hn hm h hn2 hnc hg hb hc hv).mono ?_
      rintro e w' ⟨⟨v, is, rfl, hp, hl, ho⟩, hbl⟩
      rw [show min m n = m by omega]
      exact ⟨v, is, rfl, ⟨hp.len, hp.rise, hp.lt, fun _ => hp.head, fun _ => hl⟩, ho, hbl⟩
  · refine (thin_few l n m c A w hn hm h (by omega) hg hA hr).mono ?_
    rintro e w' ⟨v, rfl, ho, hb⟩
    rw [show min m n = n by omega]
    refine ⟨v, List.range n, rfl, kept_range n, ?_, hb⟩
    rw [show List.range n = List.range l.length by rw [hn], atI_range]
    exact ho
end Go.Proofs.YtaglkaphlekmoaaGreatDoor
