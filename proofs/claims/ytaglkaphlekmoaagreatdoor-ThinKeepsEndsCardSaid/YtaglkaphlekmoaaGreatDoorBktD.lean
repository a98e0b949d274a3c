/- Buckets as data. -/
import Derived.Test.YtaglkaphlekmoaaGreatDoorProg
import Derived.Test.YtaglkaphlekmoaaGreatDoorAppend
namespace Go.Proofs.YtaglkaphlekmoaaGreatDoor
open Go.RowKit

theorem region_tail {P : Program} {id : Nat} {Q : Exit → Act → World → Prop} {a : Act} {w : World} {l : List Oper} (n : Nat) (hm : P.follows .mixedOrders = true) (hB : Region.lexTailB .any l.toArray n = true)
    (h : ∀ V : World, w.drew = V → wpStill P l.toArray V (fun a' => wpList P l.toArray Q (l.drop n) a' V) (l.take n) a) : (Code.region id l.toArray true).wp P Q a w :=
  wp_region_still_tail n hm hB (h _ rfl)

theorem own_to {w V : World} {base : Nat} {e : TypeId} {size n : Nat} {v : Value} {xs : List Value} (hV : w.drew = V) (h : w.ownsRow base e size v n xs) : V.ownsRow base e size v n xs := by subst hV; exact h
theorem grown_to {a w V : World} {row : Option Nat} (hV : w.drew = V) (h : a.grownBy w row) : a.grownBy V row := by subst hV; exact ⟨h.os, h.tape, h.output, h.size, h.block⟩
theorem below_to {n : Nat} {a w V : World} (hV : w.drew = V) (h : Below n a w) : Below n a V := by subst hV; exact h.drew

structure Bkt where
  fr : Int
  to_ : Int
  cnt : Int
  sum : Int
  mn : Int
  mx : Int
  fi : Int
  la : Int

def bktC (b : Bkt) : List Value := [.int .i64 b.fr, .int .i64 b.to_, .int .i64 b.cnt, .int .i64 b.sum, .int .i64 b.mn, .int .i64 b.mx, .int .i64 b.fi, .int .i64 b.la]
def bktV (b : Bkt) : Value := .agg #[.int .i64 b.fr, .int .i64 b.to_, .int .i64 b.cnt, .int .i64 b.sum, .int .i64 b.mn, .int .i64 b.mx, .int .i64 b.fi, .int .i64 b.la]
def bCells (l : List Bkt) : List Value := l.flatMap bktC
theorem bCells_length (l : List Bkt) : (bCells l).length = l.length * 8 := by
  induction l with
  | nil => rfl
  | cons x l ih => simp only [bCells, List.flatMap_cons, List.length_append, List.length_cons] at ih ⊢; rw [ih]; simp [bktC]; omega
theorem bCells_app (a b : List Bkt) : bCells (a ++ b) = bCells a ++ bCells b := by simp [bCells]
theorem bCells_snoc (a : List Bkt) (b : Bkt) : bCells (a ++ [b]) = bCells a ++ bktC b := by simp [bCells]
theorem bktC_one (b : Bkt) : ∀ u ∈ bktC b, u.oneCell' = true := by
  intro u hu
  simp only [bktC, List.mem_cons, List.not_mem_nil, or_false] at hu
  rcases hu with rfl | rfl | rfl | rfl | rfl | rfl | rfl | rfl <;> rfl
theorem bCells_get (l : List Bkt) (i : Nat) (x : Bkt) (h : l[i]? = some x) (j : Nat) (hj : j < 8) : (bCells l)[i * 8 + j]? = (bktC x)[j]? := by
  induction l generalizing i with
  | nil => simp at h
  | cons y l ih =>
    cases i with
    | zero =>
      simp only [List.getElem?_cons_zero, Option.some.injEq] at h
      subst h
      simp only [bCells, List.flatMap_cons]
      rw [List.getElem?_append_left (by simp [bktC]; omega)]
      simp
    | succ i =>
      simp only [List.getElem?_cons_succ] at h
      have := ih i h
      simp only [bCells, List.flatMap_cons] at this ⊢
      rw [List.getElem?_append_right (by simp [bktC]; omega)]
      rw [← this]
      congr 1
      simp [bktC]; omega
/-- A bucket that takes in another one of its time. -/
def mergeB (x b : Bkt) : Bkt := { x with cnt := x.cnt + b.cnt, sum := x.sum + b.sum, mn := min x.mn b.mn, mx := max x.mx b.mx, la := b.la }
theorem bktC_merge (l : List Bkt) (x b : Bkt) : (((((bCells (l ++ [x])).set (l.length * 8 + 2) (.int .i64 (x.cnt + b.cnt))).set (l.length * 8 + 3) (.int .i64 (x.sum + b.sum))).set (l.length * 8 + 4) (.int .i64 (min x.mn b.mn))).set (l.length * 8 + 5) (.int .i64 (max x.mx b.mx))).set (l.length * 8 + 7) (.int .i64 b.la) = bCells (l ++ [mergeB x b]) := by
  have h : ∀ (c : List Value) (j : Nat) (u : Value), (bCells l ++ c).set (l.length * 8 + j) u = bCells l ++ c.set j u := by
    intro c j u
    rw [List.set_append_right _ _ (by rw [bCells_length]; omega), bCells_length]
    congr 2; omega
  rw [bCells_snoc, h, h, h, h, h, bCells_snoc]
  simp [bktC, mergeB]

theorem stored3 {W : World} {base g n cap : Nat} {e : TypeId} {size : Nat} {xs : List Value} (q : Nat) (i4 i5 i7 : Nat) (u4 u5 u7 : Value) (h : W.ownsRow base e size (.slice (some ⟨g, 0, none⟩) n cap) n xs) :
    ((((W.drewN q).setCell ⟨g, i4, none⟩ u4).setCell ⟨g, i5, none⟩ u5).setCell ⟨g, i7, none⟩ u7).ownsRow base e size (.slice (some ⟨g, 0, none⟩) n cap) n (((xs.set i4 u4).set i5 u5).set i7 u7) :=
  (((own_drewN h q).stored i4 u4).1.stored i5 u5).1.stored i7 u7 |>.1
theorem grown3 {w W : World} {g : Nat} (q : Nat) (i4 i5 i7 : Nat) (u4 u5 u7 : Value) (h : w.grownBy W (some g)) :
    w.grownBy ((((W.drewN q).setCell ⟨g, i4, none⟩ u4).setCell ⟨g, i5, none⟩ u5).setCell ⟨g, i7, none⟩ u7) (some g) :=
  grown_set (grown_set (grown_set (grown_drewN h q) (.inl rfl) _) (.inl rfl) _) (.inl rfl) _

theorem Tryz.infoB : (Tryz.prog.info? 84).map (fun i => (i.zero, i.size, i.bytes)) = some (some (.agg #[.int .i64 0, .int .i64 0, .int .i64 0, .int .i64 0, .int .i64 0, .int .i64 0, .int .i64 0, .int .i64 0]), 8, 64) := by kernel_rfl

end Go.Proofs.YtaglkaphlekmoaaGreatDoor
