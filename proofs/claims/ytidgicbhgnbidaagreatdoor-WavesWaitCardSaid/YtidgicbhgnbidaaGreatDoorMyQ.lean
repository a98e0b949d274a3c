/- Plain law of costs: what a table of costs keeps, what a pass over it leaves, and what it says at its end. No function of the program in sight. -/
import Derived.Test.YtidgicbhgnbidaaGreatDoorMyD
namespace Go.Proofs.YtidgicbhgnbidaaGreatDoor
open Go.RowKit

def upN (O : List Im) (v : Ve) : Nat := (O.filter fun y => decide (vn v < vn y.v)).length
theorem upN_le (O : List Im) (v : Ve) : upN O v ≤ O.length := List.length_filter_le _ _
theorem upN_lt : ∀ {O : List Im} {y : Im} {v : Ve}, y ∈ O → vn v < vn y.v → upN O y.v + 1 ≤ upN O v
  | [], _, _, h, _ => by cases h
  | z :: O, y, v, h, hl => by
    have hmon : ∀ O' : List Im, upN O' y.v ≤ upN O' v := by
      intro O'
      unfold upN
      induction O' with
      | nil => exact Nat.le_refl _
      | cons a O' ih =>
        rw [List.filter_cons, List.filter_cons]
        by_cases h1 : vn y.v < vn a.v
        · rw [if_pos (decide_eq_true h1), if_pos (decide_eq_true (by omega))]
          simp only [List.length_cons]; omega
        · rw [if_neg (by rw [decide_eq_false h1]; decide)]
          split
          · simp only [List.length_cons]; omega
          · exact ih
    unfold upN
    rw [List.filter_cons, List.filter_cons]
    rcases List.mem_cons.1 h with rfl | h
    · rw [if_neg (by rw [decide_eq_false (by omega)]; decide), if_pos (decide_eq_true hl)]
      have := hmon O
      unfold upN at this
      simp only [List.length_cons]; omega
    · have ih := upN_lt h hl
      unfold upN at ih
      by_cases h1 : vn y.v < vn z.v
      · rw [if_pos (decide_eq_true h1), if_pos (decide_eq_true (by omega))]
        simp only [List.length_cons]; omega
      · rw [if_neg (by rw [decide_eq_false h1]; decide)]
        split
        · simp only [List.length_cons]; omega
        · exact ih
/-- A cost as a version can have it. -/
structure CoOk [Mdl] (O : List Im) (t k : Ve) (c : Co) : Prop where
  s : 0 ≤ c.1
  z : 0 ≤ c.2 ∧ c.2 ≤ 10 * c.1
  u : c.1 ≤ upN O k
  r : Rch O t k
structure TbOk [Mdl] (O : List Im) (t : Ve) (T : VmL) : Prop where
  top : vmG t T = some (0, 0)
  ok : ∀ k c, vmG k T = some c → CoOk O t k c
theorem TbOk.init [Mdl] (O : List Im) (t : Ve) : TbOk O t (vmU t (0, 0) []) := by
  refine ⟨by rw [vmG_U, if_pos rfl], fun k c h => ?_⟩
  rw [vmG_U] at h
  by_cases hk : k = t
  · rw [if_pos hk] at h
    rw [← Option.some.inj h, hk]
    exact ⟨Int.le_refl _, ⟨Int.le_refl _, by show (0 : Int) ≤ 10 * 0; omega⟩, by show (0 : Int) ≤ ((upN O t : Nat) : Int); omega, .self⟩
  · rw [if_neg hk] at h
    cases h
def nxC (c : Co) (y : Im) : Co := (c.1 + 1, c.2 + y.sz)
theorem CoOk.next [Mdl] {O : List Im} {t v : Ve} {y : Im} {c : Co} (hO : ImsOk O) (h : CoOk O t y.v c) (hy : y ∈ tak O v) : CoOk O t v (nxC c y) ∧ 1 ≤ (nxC c y).1 := by
  obtain ⟨h1, h2, h3⟩ := mem_tak.1 hy
  have hok := hO.ok y h1
  have hu := upN_lt h1 (cov_lt hok h3)
  have hs := hok.sz
  have a1 := h.s
  have a2 := h.z
  have a3 := h.u
  unfold nxC
  exact ⟨⟨by show 0 ≤ c.1 + 1; omega, ⟨by show 0 ≤ c.2 + y.sz; omega, by show c.2 + y.sz ≤ 10 * (c.1 + 1); omega⟩, by show c.1 + 1 ≤ ((upN O v : Nat) : Int); omega, .step hy h.r⟩, by show 1 ≤ c.1 + 1; omega⟩
def phC : Option Co → Nat
  | none => 1000
  | some c => (c.1 * 100 + c.2).toNat
theorem phC_some (c : Co) : phC (some c) = (c.1 * 100 + c.2).toNat := rfl
theorem phC_le [Mdl] {O : List Im} {t k : Ve} {c : Co} (hO : ImsOk O) (h : CoOk O t k c) : phC (some c) < 1000 ∧ c.1 ≤ 8 ∧ c.2 ≤ 80 := by
  have h1 := upN_le O k
  have h2 := hO.len
  have h3 := h.u
  have h4 := h.z
  have h5 := h.s
  rw [phC_some]
  omega
theorem phC_lt [Mdl] {O : List Im} {t k k' : Ve} {a b : Co} (hO : ImsOk O) (ha : CoOk O t k a) (hb : CoOk O t k' b) (h : cmpC a b < 0) : phC (some a) < phC (some b) := by
  rw [cmpC_lt] at h
  have h1 := phC_le hO ha
  have h2 := phC_le hO hb
  have a1 := ha.s
  have a2 := ha.z
  have b1 := hb.s
  have b2 := hb.z
  rw [phC_some, phC_some] at *
  omega
def phT (O : List Im) (T : VmL) : Nat := (O.map fun x => phC (vmG x.v T)).sum
theorem sum_le {α : Type} {f g : α → Nat} : ∀ (l : List α), (∀ x ∈ l, f x ≤ g x) → (l.map f).sum ≤ (l.map g).sum
  | [], _ => Nat.le_refl _
  | x :: l, h => by
    have h1 := h x List.mem_cons_self
    have h2 := sum_le l (fun y hy => h y (List.mem_cons_of_mem _ hy))
    simp only [List.map_cons, List.sum_cons]
    omega
theorem sum_lt {α : Type} {f g : α → Nat} : ∀ (l : List α), (∀ x ∈ l, f x ≤ g x) → (∃ x ∈ l, f x < g x) → (l.map f).sum < (l.map g).sum
  | [], _, h => by obtain ⟨x, hx, _⟩ := h; cases hx
  | x :: l, h, ⟨y, hy, hl⟩ => by
    have h1 := h x List.mem_cons_self
    have h2 := sum_le l (fun y hy => h y (List.mem_cons_of_mem _ hy))
    simp only [List.map_cons, List.sum_cons]
    rcases List.mem_cons.1 hy with e | e
    · subst e; omega
    · have := sum_lt l (fun y hy => h y (List.mem_cons_of_mem _ hy)) ⟨y, e, hl⟩
      omega
/-- How an image's best cost stands after some of the images that can follow it. -/
structure BeI [Mdl] (O : List Im) (t : Ve) (T : VmL) (x : Im) (j : Nat) (b0 : Bool) (is : Bool) (c : Co) (b : Bool) : Prop where
  st : (b = b0 ∧ is = (vmG x.v T).isSome ∧ c = (vmG x.v T).getD (0, 0) ∧ ∀ y ∈ (tak O x.v).take j, (vmG y.v T).isSome = true → is = true) ∨
    (b = true ∧ is = true ∧ CoOk O t x.v c ∧ phC (some c) < phC (vmG x.v T))
theorem BeI.zero [Mdl] {O : List Im} {t : Ve} {T : VmL} {x : Im} {b0 : Bool} : BeI O t T x 0 b0 (vmG x.v T).isSome ((vmG x.v T).getD (0, 0)) b0 := ⟨.inl ⟨rfl, rfl, rfl, fun y hy => by simp at hy⟩⟩
section
variable {O : List Im} {t : Ve} {T : VmL} {x y : Im} {j : Nat} {b0 is b : Bool} {c : Co}
theorem mem_take_succ {α : Type} {l : List α} {j : Nat} {y z : α} (h : l[j]? = some y) (hz : z ∈ l.take (j + 1)) : z ∈ l.take j ∨ z = y := by
  rw [List.take_add_one, h] at hz
  rcases List.mem_append.1 hz with h1 | h1
  · exact .inl h1
  · simp only [Option.toList, List.mem_singleton] at h1
    exact .inr h1
/-- The next one has no cost, or no better one. -/
theorem BeI.skip [Mdl] (h : BeI O t T x j b0 is c b) (hy : (tak O x.v)[j]? = some y) (hn : (vmG y.v T).isSome = true → is = true) : BeI O t T x (j + 1) b0 is c b := by
  rcases h.st with ⟨h1, h2, h3, h4⟩ | h1
  · refine ⟨.inl ⟨h1, h2, h3, fun z hz => ?_⟩⟩
    rcases mem_take_succ hy hz with hz | rfl
    · exact h4 z hz
    · exact hn
  · exact ⟨.inr h1⟩
/-- The next one is better. -/
theorem BeI.take [Mdl] (h : BeI O t T x j b0 is c b) (hO : ImsOk O) (hT : TbOk O t T) (hy : y ∈ tak O x.v) {d : Co} (hd : vmG y.v T = some d) (hb : is = false ∨ cmpC (nxC d y) c < 0) : BeI O t T x (j + 1) b0 true (nxC d y) true := by
  obtain ⟨g1, g2⟩ := (hT.ok _ _ hd).next hO hy
  refine ⟨.inr ⟨rfl, rfl, g1, ?_⟩⟩
  have g3 := phC_le hO g1
  rcases h.st with ⟨h1, h2, h3, h4⟩ | ⟨h1, h2, h3, h4⟩
  · cases hx : vmG x.v T with
    | none => exact g3.1
    | some e =>
      rw [hx] at h2 h3
      rcases hb with hb | hb
      · rw [hb] at h2; cases h2
      · have e1 : c = e := h3
        rw [e1] at hb
        exact phC_lt hO g1 (hT.ok _ _ hx) hb
  · rcases hb with hb | hb
    · rw [h2] at hb; cases hb
    · exact Nat.lt_trans (phC_lt hO g1 h3 hb) h4
end
/-- How a table stands after some images of a pass. -/
structure PsI [Mdl] (O : List Im) (t : Ve) (T0 T : VmL) (i : Nat) (b : Bool) : Prop where
  ok : TbOk O t T
  le : phT O T ≤ phT O T0
  lt : b = true → phT O T < phT O T0
  no : b = false → (∀ k, vmG k T = vmG k T0) ∧ ∀ x ∈ O.take i, (∃ y ∈ tak O x.v, (vmG y.v T0).isSome = true) → (vmG x.v T0).isSome = true
theorem PsI.zero [Mdl] {O : List Im} {t : Ve} {T : VmL} (h : TbOk O t T) : PsI O t T T 0 false := ⟨h, Nat.le_refl _, (fun h => by cases h), fun _ => ⟨fun _ => rfl, fun x hx => by simp at hx⟩⟩
section
variable {O : List Im} {t : Ve} {T0 T : VmL} {x : Im} {i J : Nat} {b0 is b : Bool} {c : Co}
theorem vm_pos {v : Ve} {T : VmL} : (vmG v T).isSome = true ↔ ∃ c, vmG v T = some c := Option.isSome_iff_exists
/-- A round ends: no cost is there. -/
theorem PsI.none [Mdl] (h : PsI O t T0 T i b0) (hx : O[i]? = some x) (hJ : (tak O x.v).length ≤ J) (hb : BeI O t T x J b0 false c b) : PsI O t T0 T (i + 1) b := by
  rcases hb.st with ⟨h1, h2, h3, h4⟩ | ⟨_, h2, _⟩
  · subst h1
    refine ⟨h.ok, h.le, h.lt, fun hf => ⟨(h.no hf).1, fun z hz => ?_⟩⟩
    rcases mem_take_succ hx hz with hz | rfl
    · exact (h.no hf).2 z hz
    · rintro ⟨y, hy, hys⟩
      rw [← (h.no hf).1] at hys
      have := h4 y (by rw [List.take_of_length_le hJ]; exact hy) hys
      cases this
  · cases h2
/-- A round ends: the best cost is put into the table. -/
theorem PsI.put [Mdl] (h : PsI O t T0 T i b0) (_hO : ImsOk O) (hx : O[i]? = some x) (hb : BeI O t T x J b0 true c b) : PsI O t T0 (vmU x.v c T) (i + 1) b := by
  have hxm := List.mem_of_getElem? hx
  rcases hb.st with ⟨h1, h2, h3, h4⟩ | ⟨h1, _, h3, h4⟩
  · subst h1
    obtain ⟨d, hd⟩ := vm_pos.1 h2.symm
    rw [hd] at h3
    have hcd : c = d := h3
    subst hcd
    have hsame : ∀ k, vmG k (vmU x.v c T) = vmG k T := by
      intro k
      rw [vmG_U]
      by_cases hk : k = x.v
      · rw [if_pos hk, hk, hd]
      · rw [if_neg hk]
    have hph : phT O (vmU x.v c T) = phT O T := by unfold phT; simp only [hsame]
    refine ⟨⟨by rw [hsame]; exact h.ok.top, fun k e he => h.ok.ok k e (by rw [← hsame]; exact he)⟩, by rw [hph]; exact h.le, fun hf => by rw [hph]; exact h.lt hf, fun hf => ⟨fun k => by rw [hsame]; exact (h.no hf).1 k, fun z hz => ?_⟩⟩
    rcases mem_take_succ hx hz with hz | rfl
    · exact (h.no hf).2 z hz
    · intro _
      rw [← (h.no hf).1, hd]
      rfl
  · have hmem : ∀ y ∈ O, phC (vmG y.v (vmU x.v c T)) ≤ phC (vmG y.v T) := by
      intro y _
      rw [vmG_U]
      by_cases hk : y.v = x.v
      · rw [if_pos hk, hk]; omega
      · rw [if_neg hk]; exact Nat.le_refl _
    have hph : phT O (vmU x.v c T) < phT O T := sum_lt O hmem ⟨x, hxm, by rw [vmG_U, if_pos rfl]; exact h4⟩
    have hle := h.le
    refine ⟨⟨?_, fun k e he => ?_⟩, by omega, fun _ => by omega, fun hf => by rw [h1] at hf; cases hf⟩
    · rw [vmG_U]
      by_cases hk : t = x.v
      · rw [← hk, h.ok.top] at h4
        rw [phC_some, phC_some] at h4
        omega
      · rw [if_neg hk]; exact h.ok.top
    · rw [vmG_U] at he
      by_cases hk : k = x.v
      · rw [if_pos hk] at he
        rw [← Option.some.inj he, hk]
        exact h3
      · rw [if_neg hk] at he
        exact h.ok.ok k e he
end
/-- What a table says at its end. -/
structure CoEnd [Mdl] (L : List Im) (t : Ve) (T : VmL) : Prop where
  top : vmG t T = some (0, 0)
  ok : ∀ k c, vmG k T = some c → (0 ≤ c.1 ∧ c.1 ≤ 8) ∧ 0 ≤ c.2 ∧ c.2 ≤ 80
  rc : ∀ x ∈ L, hasM x = true → ((vmG x.v T).isSome = true ↔ Rch L t x.v)
theorem PsI.done [Mdl] {L : List Im} {t : Ve} {T0 T : VmL} {n : Nat} (hL : ImsOk L) (h : PsI (ownI L) t T0 T n false) (hn : (ownI L).length ≤ n) : CoEnd L t T := by
  obtain ⟨h1, h2⟩ := h.no rfl
  have hO : ImsOk (ownI L) := hL.filter _
  refine ⟨h.ok.top, fun k c hk => ?_, fun x hx hm => ?_⟩
  · have h3 := h.ok.ok k c hk
    have h4 := phC_le hO h3
    exact ⟨⟨h3.s, h4.2.1⟩, h3.z.1, h4.2.2⟩
  · have hxo : x ∈ ownI L := List.mem_filter.2 ⟨hx, hm⟩
    constructor
    · intro hs
      obtain ⟨c, hc⟩ := vm_pos.1 hs
      exact Rch.own.1 (h.ok.ok _ c hc).r
    · intro hr
      have hr' := Rch.own.2 hr
      have key : ∀ v, Rch (ownI L) t v → ∀ x ∈ ownI L, x.v = v → (vmG x.v T).isSome = true := by
        intro v hv
        induction hv with
        | self => intro x _ e; rw [e, h.ok.top]; rfl
        | step hy hr ih =>
          intro x hx e
          rw [h1]
          refine h2 x (by rw [List.take_of_length_le hn]; exact hx) ⟨_, by rw [e]; exact hy, ?_⟩
          rw [← h1]
          exact ih _ (mem_tak.1 hy).1 rfl
      exact key _ hr' x hxo rfl
end Go.Proofs.YtidgicbhgnbidaaGreatDoor
