/- Several texts in one: OwK, Grq, LaySp, LayRev, LayFx. -/
import Derived.Test.YthplhibdapjjgaaGreatDoorMgC
import Derived.Shelf.GgSortFunc.InsertionK
import Derived.Sort.OwnSorted
import Derived.Test.YthplhibdapjjgaaGreatDoorMgA
import Derived.Shelf.SlSortCmp.SmallK
import Derived.Test.YthplhibdapjjgaaGreatDoorProg
import Derived.Shelf.SlicesQ.Reverse

/- A row of records that the library sorts: between the words of append and those of the sort; no program in sight. -/
namespace Go.Proofs.YthplhibdapjjgaaGreatDoor
open Go.RowKit Go.Sort

section
variable {α : Type} [Inhabited α] {f : α → List Value} {k : Nat}
theorem flat_recs (hf : ∀ x, (f x).length = k) (l : List α) : flatK f k l.toArray = (recs f l).toArray := by
  refine ext_get! (by simp [recs_length hf]) fun t ht => ?_
  have ht' : t < l.length * k := by simpa using ht
  rw [get_flatK _ _ _ t (by simpa using ht')]
  have hk0 : 0 < k := by
    rcases Nat.eq_zero_or_pos k with h | h
    · subst h; simp at ht'
    · exact h
  have hdiv : t / k < l.length := (Nat.div_lt_iff_lt_mul hk0).2 ht'
  have hmod := Nat.mod_lt t hk0
  have e := recs_get hf l (t / k) l[t / k] (List.getElem?_eq_getElem hdiv) (t % k) hmod
  rw [Nat.div_add_mod' t k] at e
  have h1 : l.toArray[t / k]! = l[t / k] := by simp [getElem!_pos, hdiv]
  have hlen : t % k < (f l[t / k]).length := by rw [hf]; exact hmod
  have h2 : t < (recs f l).length := by rw [recs_length hf]; exact ht'
  rw [h1, getElem!_pos (f l[t / k]) _ hlen, getElem!_pos (recs f l).toArray t (by simpa using h2)]
  rw [List.getElem?_eq_getElem h2, List.getElem?_eq_getElem hlen] at e
  simpa using (Option.some.inj e).symm
theorem holdsK_of_own (hf : ∀ x, (f x).length = k) {w : World} {base g cap n : Nat} {e : TypeId} {l : List α} (h : w.ownsRow base e k (.slice (some ⟨g, 0, none⟩) n cap) n (recs f l)) (hn : l.length = n) : HoldsK f k w g 0 l.toArray := by
  unfold HoldsK
  rw [flat_recs hf]
  rcases h.2 with ⟨hv, _⟩ | ⟨g', cap', cur, hv, hb, hg, h1, h2, h3, ht⟩
  · cases hv
  · cases hv
    intro j hj
    have hj' : j < (recs f l).length := by simpa using hj
    have hlen := recs_length hf l
    refine ⟨?_, by simp [World.frozen?, hg]⟩
    have e1 : (cur.toList.take (n * k))[j]? = (recs f l)[j]? := by rw [ht]
    rw [List.getElem?_take, if_pos (by rw [← hn, ← hlen]; exact hj'), Array.getElem?_toList, List.getElem?_eq_getElem hj'] at e1
    simp only [World.cell?, hg, Nat.zero_add]
    simp only [Option.isSome_none, Bool.false_eq_true, if_false]
    rw [e1]
    simp [getElem!_pos, hj']
theorem own_sortedK (hf : ∀ x, (f x).length = k) {w : World} {base g cap n : Nat} {e : TypeId} {l m : List α} (h : w.ownsRow base e k (.slice (some ⟨g, 0, none⟩) n cap) n (recs f l)) (hm : m.length = n) (q : Nat) (os : Array Obj) :
    (sortWorldK f k w g 0 q m.toArray os).ownsRow base e k (.slice (some ⟨g, 0, none⟩) n cap) n (recs f m) := by
  unfold sortWorldK putRowK
  rw [flat_recs hf]
  rcases h.2 with ⟨hv, _⟩ | ⟨g', cap', cur, hv, hb, hg, h1, h2, h3, ht⟩
  · cases hv
  · cases hv
    have hlt : g < w.heap.size := (Array.getElem?_eq_some_iff.1 hg).1
    have hlen := recs_length hf m
    rw [hm] at hlen
    refine ⟨hlen, .inr ⟨g, cap, putCells id 0 (recs f m).toArray cur, rfl, hb, ?_, h1, h2, by simpa [putCells] using h3, ?_⟩⟩
    · rw [heap_grow_old _ _ (by simpa using hlt)]
      simp [putRow, mapBlock, Sort.ahead, Array.getElem?_modify, hg, onCells]
    · apply List.ext_getElem?
      intro j
      by_cases hj : j < n * k
      · have hjc : j < cur.size := by rw [h3]; exact Nat.lt_of_lt_of_le hj (Nat.mul_le_mul_right _ h1)
        have hjr : j < (recs f m).length := by rw [hlen]; exact hj
        rw [List.getElem?_take, if_pos hj, Array.getElem?_toList]
        simp only [putCells, Array.getElem?_mapIdx, Array.getElem?_eq_getElem hjc, Option.map_some]
        rw [if_pos (by simp; exact hjr), List.getElem?_eq_getElem hjr]
        simp [getElem!_pos, hjr]
      · rw [List.getElem?_take_eq_none (by omega), List.getElem?_eq_none (by rw [hlen]; omega)]
theorem grown_sortedK {w : World} {g q : Nat} {os : Array Obj} (d : Array α) : w.grownBy (sortWorldK f k w g 0 q d os) (some g) := by
  unfold sortWorldK putRowK
  refine ⟨rfl, rfl, rfl, by simp, fun j hj hne => ?_⟩
  rw [heap_grow_old _ _ (by simpa using hj)]
  have : g ≠ j := fun e => hne (by rw [e])
  simp [putRow, mapBlock, Sort.ahead, Array.getElem?_modify, this]
/-- What the sort's contract says of a whole row, in lists. -/
theorem sorted_list {l : List α} {lt : α → α → Bool} {d' : Array α} (hp : PermIn 0 l.toArray.size l.toArray d') (hs : SortedIn lt 0 l.toArray.size d') : d'.toList.Perm l ∧ d'.toList.length = l.length ∧ d'.toList.Pairwise (fun x y => lt y x = false) := by
  obtain ⟨h1, _, h3⟩ := hp
  have hl : d'.size = l.length := by simpa using h1
  refine ⟨?_, by simpa using hl, ?_⟩
  · have e1 : d'.extract 0 l.toArray.size = d' := by rw [← h1]; simp
    rw [e1] at h3
    simpa using h3
  · rw [List.pairwise_iff_getElem]
    intro i j hi hj hij
    have hi' : i < d'.size := by simpa using hi
    have hj' : j < d'.size := by simpa using hj
    have := hs i j (Nat.zero_le _) hij (by simpa [hl] using hj')
    rw [getElem!_pos d' j hj', getElem!_pos d' i hi'] at this
    simpa using this
end
end Go.Proofs.YthplhibdapjjgaaGreatDoor

/- What has been drawn and laid since, and nothing else; the beginning of an own row; no program in sight. -/
namespace Go.Proofs.YthplhibdapjjgaaGreatDoor
open Go.RowKit Go.Shelf Go.Sort

def Gr (W V : World) : Prop := ∃ q os', V = grow (W.drewN q) os'
theorem Gr.refl (w : World) : Gr w w := ⟨0, #[], by rw [grow_empty]; rfl⟩
theorem Gr.drew {w v : World} (h : Gr w v) : Gr w v.drew := by
  obtain ⟨q, os, rfl⟩ := h
  exact ⟨q + 1, os, rfl⟩
theorem Gr.alloc {w v : World} (h : Gr w v) (o : Obj) : Gr w (v.alloc o) := by
  obtain ⟨q, os, rfl⟩ := h
  exact ⟨q, os ++ #[o], by rw [alloc_eq_grow, grow_grow]⟩
theorem own_pref {w : World} {base e size n m c : Nat} {A : Option Addr} {xs : List Value} (h : w.ownsRow base e size (.slice A n c) n xs) (hm : m ≤ n) (h0 : 0 < n) : w.ownsRow base e size (.slice A m c) m (xs.take (m * size)) := by
  obtain ⟨h1, h2⟩ := h
  rcases h2 with ⟨_, hn⟩ | ⟨g, cap, cur, hv, hb, hg, hn, hc, hs, ht⟩
  · omega
  · injection hv with e1 e2 e3
    subst e1 e3
    have hle : m * size ≤ n * size := Nat.mul_le_mul_right _ hm
    refine ⟨by rw [List.length_take, h1]; omega, .inr ⟨g, c, cur, rfl, hb, hg, by omega, hc, hs, ?_⟩⟩
    rw [← ht, List.take_take]
    congr 1
    omega
end Go.Proofs.YthplhibdapjjgaaGreatDoor

/- The shelf's SlLaysF0.n6 at this program. -/
namespace Go.Proofs.YthplhibdapjjgaaGreatDoor
open Go.RowKit Go.Shelf

def laySp_ren : Go.Shelf.Ren := ⟨fun | 6 => 27 | 15 => 64 | 14 => 63 | 28 => 110 | 29 => 111 | 20 => 102 | 21 => 103 | 22 => 104 | 23 => 105 | 24 => 106 | 25 => 107 | 26 => 108 | 27 => 109 | 46 => 141 | 47 => 142 | 48 => 143 | 49 => 144 | 50 => 145 | 57 => 168 | n => n, fun | 22 => 26 | 24 => 37 | 25 => 65 | 3 => 3 | 39 => 120 | 0 => 0 | 53 => 165 | 55 => 167 | 4 => 4 | 46 => 158 | 45 => 157 | 50 => 162 | 5 => 5 | 9 => 9 | 66 => 187 | 70 => 191 | 76 => 210 | 77 => 211 | n => n, fun  | n => n⟩
theorem laySp : SlLaysF0.n6 Tryz.prog laySp_ren := {
  mixed := by kernel_rfl,
  f6 := ⟨Tryz.f27.name, by kernel_rfl, Tryz.func27.trans (congrArg some (by kernel_rfl))⟩,
  f14 := ⟨Tryz.f63.name, by kernel_rfl, Tryz.func63.trans (congrArg some (by kernel_rfl))⟩,
  f15 := Tryz.func64.trans (congrArg some (by kernel_rfl)),
  f20 := ⟨Tryz.f102.name, by kernel_rfl, Tryz.func102.trans (congrArg some (by kernel_rfl))⟩,
  f21 := ⟨Tryz.f103.name, by kernel_rfl, Tryz.func103.trans (congrArg some (by kernel_rfl))⟩,
  f22 := ⟨Tryz.f104.name, by kernel_rfl, Tryz.func104.trans (congrArg some (by kernel_rfl))⟩,
  f23 := ⟨Tryz.f105.name, by kernel_rfl, Tryz.func105.trans (congrArg some (by kernel_rfl))⟩,
  f24 := ⟨Tryz.f106.name, by kernel_rfl, Tryz.func106.trans (congrArg some (by kernel_rfl))⟩,
  f25 := ⟨Tryz.f107.name, by kernel_rfl, Tryz.func107.trans (congrArg some (by kernel_rfl))⟩,
  f26 := ⟨Tryz.f108.name, by kernel_rfl, Tryz.func108.trans (congrArg some (by kernel_rfl))⟩,
  f27 := ⟨Tryz.f109.name, by kernel_rfl, Tryz.func109.trans (congrArg some (by kernel_rfl))⟩,
  f28 := Tryz.func110.trans (congrArg some (by kernel_rfl)),
  f29 := Tryz.func111.trans (congrArg some (by kernel_rfl)),
  f46 := ⟨Tryz.f141.name, by kernel_rfl, Tryz.func141.trans (congrArg some (by kernel_rfl))⟩,
  f47 := Tryz.func142.trans (congrArg some (by kernel_rfl)),
  f48 := Tryz.func143.trans (congrArg some (by kernel_rfl)),
  f49 := ⟨Tryz.f144.name, by kernel_rfl, Tryz.func144.trans (congrArg some (by kernel_rfl))⟩,
  f50 := ⟨Tryz.f145.name, by kernel_rfl, Tryz.func145.trans (congrArg some (by kernel_rfl))⟩,
  f57 := ⟨Tryz.f168.name, by kernel_rfl, Tryz.func168.trans (congrArg some (by kernel_rfl))⟩,
  t0 := Tryz.underlying0,
  a0 := Tryz.isAgg0,
  z0 := Tryz.sizeOf0,
  v0 := Tryz.zeroValue0,
  t3 := Tryz.underlying3,
  a3 := Tryz.isAgg3,
  z3 := Tryz.sizeOf3,
  v3 := Tryz.zeroValue3,
  t4 := Tryz.underlying4,
  a4 := Tryz.isAgg4,
  z4 := Tryz.sizeOf4,
  v4 := Tryz.zeroValue4,
  t5 := Tryz.underlying5,
  a5 := Tryz.isAgg5,
  z5 := Tryz.sizeOf5,
  v5 := Tryz.zeroValue5,
  t9 := Tryz.underlying9,
  a9 := Tryz.isAgg9,
  z9 := Tryz.sizeOf9,
  v9 := Tryz.zeroValue9,
  t22 := Tryz.underlying26,
  a22 := Tryz.isAgg26,
  z22 := Tryz.sizeOf26,
  v22 := Tryz.zeroValue26,
  t25 := Tryz.underlying65,
  a25 := Tryz.isAgg65,
  z25 := Tryz.sizeOf65,
  v25 := Tryz.zeroValue65,
  t39 := Tryz.underlying120,
  a39 := Tryz.isAgg120,
  z39 := Tryz.sizeOf120,
  v39 := Tryz.zeroValue120,
  t45 := Tryz.underlying157,
  a45 := Tryz.isAgg157,
  z45 := Tryz.sizeOf157,
  v45 := Tryz.zeroValue157,
  t46 := Tryz.underlying158,
  a46 := Tryz.isAgg158,
  z46 := Tryz.sizeOf158,
  v46 := Tryz.zeroValue158,
  t50 := Tryz.underlying162,
  a50 := Tryz.isAgg162,
  z50 := Tryz.sizeOf162,
  v50 := Tryz.zeroValue162,
  t53 := Tryz.underlying165,
  a53 := Tryz.isAgg165,
  z53 := Tryz.sizeOf165,
  v53 := Tryz.zeroValue165,
  t55 := Tryz.underlying167,
  a55 := Tryz.isAgg167,
  z55 := Tryz.sizeOf167,
  v55 := Tryz.zeroValue167,
  t66 := Tryz.underlying187,
  a66 := Tryz.isAgg187,
  z66 := Tryz.sizeOf187,
  v66 := Tryz.zeroValue187,
  t70 := Tryz.underlying191,
  a70 := Tryz.isAgg191,
  z70 := Tryz.sizeOf191,
  v70 := Tryz.zeroValue191,
  t76 := Tryz.underlying210,
  a76 := Tryz.isAgg210,
  z76 := Tryz.sizeOf210,
  v76 := Tryz.zeroValue210,
  t77 := Tryz.underlying211,
  a77 := Tryz.isAgg211,
  z77 := Tryz.sizeOf211,
  v77 := Tryz.zeroValue211 }
end Go.Proofs.YthplhibdapjjgaaGreatDoor

/- The shelf's SlLaysE0.n35 at this program. -/
namespace Go.Proofs.YthplhibdapjjgaaGreatDoor
open Go.RowKit Go.Shelf

def lay35_ren : Go.Shelf.Ren := ⟨fun | 35 => 31 | n => n, fun | 22 => 26 | 23 => 37 | 3 => 3 | 4 => 4 | 0 => 0 | n => n, fun  | n => n⟩
theorem lay35 : SlLaysE0.n35 Tryz.prog lay35_ren := {
  mixed := by kernel_rfl,
  f35 := ⟨Tryz.f31.name, by kernel_rfl, Tryz.func31.trans (congrArg some (by kernel_rfl))⟩,
  t0 := Tryz.underlying0,
  a0 := Tryz.isAgg0,
  z0 := Tryz.sizeOf0,
  v0 := Tryz.zeroValue0,
  t3 := Tryz.underlying3,
  a3 := Tryz.isAgg3,
  z3 := Tryz.sizeOf3,
  v3 := Tryz.zeroValue3,
  t4 := Tryz.underlying4,
  a4 := Tryz.isAgg4,
  z4 := Tryz.sizeOf4,
  v4 := Tryz.zeroValue4,
  t22 := Tryz.underlying26,
  a22 := Tryz.isAgg26,
  z22 := Tryz.sizeOf26,
  v22 := Tryz.zeroValue26 }
end Go.Proofs.YthplhibdapjjgaaGreatDoor

/- The shelf's SlLaysF0.n20 at this program. -/
namespace Go.Proofs.YthplhibdapjjgaaGreatDoor
open Go.RowKit Go.Shelf

def layFx_ren : Go.Shelf.Ren := ⟨fun | 20 => 113 | n => n, fun | 24 => 42 | 22 => 30 | 3 => 3 | 25 => 71 | 4 => 4 | 0 => 0 | n => n, fun  | n => n⟩
theorem layFx : SlLaysF0.n20 Tryz.prog layFx_ren := {
  mixed := by kernel_rfl,
  f20 := ⟨Tryz.f113.name, by kernel_rfl, Tryz.func113.trans (congrArg some (by kernel_rfl))⟩,
  t0 := Tryz.underlying0,
  a0 := Tryz.isAgg0,
  z0 := Tryz.sizeOf0,
  v0 := Tryz.zeroValue0,
  t3 := Tryz.underlying3,
  a3 := Tryz.isAgg3,
  z3 := Tryz.sizeOf3,
  v3 := Tryz.zeroValue3,
  t4 := Tryz.underlying4,
  a4 := Tryz.isAgg4,
  z4 := Tryz.sizeOf4,
  v4 := Tryz.zeroValue4,
  t22 := Tryz.underlying30,
  a22 := Tryz.isAgg30,
  z22 := Tryz.sizeOf30,
  v22 := Tryz.zeroValue30,
  t25 := Tryz.underlying71,
  a25 := Tryz.isAgg71,
  z25 := Tryz.sizeOf71,
  v25 := Tryz.zeroValue71 }
end Go.Proofs.YthplhibdapjjgaaGreatDoor
