/- A row of records that the library sorts: between the words of append and those of the sort; no program in sight. -/
import Derived.Test.YtnmgfnnkcenfeaaGreatDoorRec
import Derived.Shelf.GgSortFunc.InsertionK
import Derived.Sort.OwnSorted
namespace Go.Proofs.YtnmgfnnkcenfeaaGreatDoor
open Go.RowKit Go.Sort

section
variable {α : Type} [Inhabited α] {f : α → List Value} {k : Nat}
theorem flat_recs (hf : ∀ x, (f x).length = k) (l : List α) : flatK f k l.toArray = (recs f l).toArray := by
  refine ext_get! (by simp [recs_length hf]) fun t ht => ?_
  have ht' : t < l.length * k := by simpa using ht
  rw [get_flatK _ _ _ t (by simpa using ht')]
  have hk0 : 0 < k := by
    rcases Nat.eq_zero_or_pos k with h | h
    · subst h; simp at ht'
    · exact h
  have hdiv : t / k < l.length := (Nat.div_lt_iff_lt_mul hk0).2 ht'
  have hmod := Nat.mod_lt t hk0
  have e := recs_get hf l (t / k) l[t / k] (List.getElem?_eq_getElem hdiv) (t % k) hmod
  rw [Nat.div_add_mod' t k] at e
  have h1 : l.toArray[t / k]! = l[t / k] := by simp [getElem!_pos, hdiv]
  have hlen : t % k < (f l[t / k]).length := by rw [hf]; exact hmod
  have h2 : t < (recs f l).length := by rw [recs_length hf]; exact ht'
  rw [h1, getElem!_pos (f l[t / k]) _ hlen, getElem!_pos (recs f l).toArray t (by simpa using h2)]
  rw [List.getElem?_eq_getElem h2, List.getElem?_eq_getElem hlen] at e
  simpa using (Option.some.inj e).symm
theorem holdsK_of_own (hf : ∀ x, (f x).length = k) {w : World} {base g cap n : Nat} {e : TypeId} {l : List α} (h : w.ownsRow base e k (.slice (some ⟨g, 0, none⟩) n cap) n (recs f l)) (hn : l.length = n) : HoldsK f k w g 0 l.toArray := by
  unfold HoldsK
  rw [flat_recs hf]
  rcases h.2 with ⟨hv, _⟩ | ⟨g', cap', cur, hv, hb, hg, h1, h2, h3, ht⟩
  · cases hv
  · cases hv
    intro j hj
    have hj' : j < (recs f l).length := by simpa using hj
    have hlen := recs_length hf l
    refine ⟨?_, by simp [World.frozen?, hg]⟩
    have e1 : (cur.toList.take (n * k))[j]? = (recs f l)[j]? := by rw [ht]
    rw [List.getElem?_take, if_pos (by rw [← hn, ← hlen]; exact hj'), Array.getElem?_toList, List.getElem?_eq_getElem hj'] at e1
    simp only [World.cell?, hg, Nat.zero_add]
    simp only [Option.isSome_none, Bool.false_eq_true, if_false]
    rw [e1]
    simp [getElem!_pos, hj']
theorem own_sortedK (hf : ∀ x, (f x).length = k) {w : World} {base g cap n : Nat} {e : TypeId} {l m : List α} (h : w.ownsRow base e k (.slice (some ⟨g, 0, none⟩) n cap) n (recs f l)) (hm : m.length = n) (q : Nat) (os : Array Obj) :
    (sortWorldK f k w g 0 q m.toArray os).ownsRow base e k (.slice (some ⟨g, 0, none⟩) n cap) n (recs f m) := by
  unfold sortWorldK putRowK
  rw [flat_recs hf]
  rcases h.2 with ⟨hv, _⟩ | ⟨g', cap', cur, hv, hb, hg, h1, h2, h3, ht⟩
  · cases hv
  · cases hv
    have hlt : g < w.heap.size := (Array.getElem?_eq_some_iff.1 hg).1
    have hlen := recs_length hf m
    rw [hm] at hlen
    refine ⟨hlen, .inr ⟨g, cap, putCells id 0 (recs f m).toArray cur, rfl, hb, ?_, h1, h2, by simpa [putCells] using h3, ?_⟩⟩
    · rw [heap_grow_old _ _ (by simpa using hlt)]
      simp [putRow, mapBlock, Sort.ahead, Array.getElem?_modify, hg, onCells]
    · apply List.ext_getElem?
      intro j
      by_cases hj : j < n * k
      · have hjc : j < cur.size := by rw [h3]; exact Nat.lt_of_lt_of_le hj (Nat.mul_le_mul_right _ h1)
        have hjr : j < (recs f m).length := by rw [hlen]; exact hj
        rw [List.getElem?_take, if_pos hj, Array.getElem?_toList]
        simp only [putCells, Array.getElem?_mapIdx, Array.getElem?_eq_getElem hjc, Option.map_some]
        rw [if_pos (by simp; exact hjr), List.getElem?_eq_getElem hjr]
        simp [getElem!_pos, hjr]
      · rw [List.getElem?_take_eq_none (by omega), List.getElem?_eq_none (by rw [hlen]; omega)]
theorem grown_sortedK {w : World} {g q : Nat} {os : Array Obj} (d : Array α) : w.grownBy (sortWorldK f k w g 0 q d os) (some g) := by
  unfold sortWorldK putRowK
  refine ⟨rfl, rfl, rfl, by simp, fun j hj hne => ?_⟩
  rw [heap_grow_old _ _ (by simpa using hj)]
  have : g ≠ j := fun e => hne (by rw [e])
  simp [putRow, mapBlock, Sort.ahead, Array.getElem?_modify, this]
/-- What the sort's contract says of a whole row, in lists. -/
theorem sorted_list {l : List α} {lt : α → α → Bool} {d' : Array α} (hp : PermIn 0 l.toArray.size l.toArray d') (hs : SortedIn lt 0 l.toArray.size d') : d'.toList.Perm l ∧ d'.toList.length = l.length ∧ d'.toList.Pairwise (fun x y => lt y x = false) := by
  obtain ⟨h1, _, h3⟩ := hp
  have hl : d'.size = l.length := by simpa using h1
  refine ⟨?_, by simpa using hl, ?_⟩
  · have e1 : d'.extract 0 l.toArray.size = d' := by rw [← h1]; simp
    rw [e1] at h3
    simpa using h3
  · rw [List.pairwise_iff_getElem]
    intro i j hi hj hij
    have hi' : i < d'.size := by simpa using hi
    have hj' : j < d'.size := by simpa using hj
    have := hs i j (Nat.zero_le _) hij (by simpa [hl] using hj')
    rw [getElem!_pos d' j hj', getElem!_pos d' i hi'] at this
    simpa using this
end
end Go.Proofs.YtnmgfnnkcenfeaaGreatDoor
