/- Letters and notes of the stream, right or wrong, as functions of its list; how texts lie. No function of the program in sight. -/
import Derived.Test.YtnnncddjcdjhoaaGreatDoorSoT
import Derived.Test.YtnnncddjcdjhoaaGreatDoorOfS
import Derived.Lib.RepeatB
namespace Go.Proofs.YtnnncddjcdjhoaaGreatDoor
open Go.RowKit Go.Shelf Go.Sort

structure Lr where
  id : ByteArray
  sl : ByteArray
  bo : ByteArray
  pr : Int
  at_ : Int
  un : Int
deriving Inhabited
structure Nr where
  l : Lr
  s : Int
  t : Int
  c : Int
deriving Inhabited
def lrC (l : Lr) : List Value := [.string l.id, .string l.sl, .string l.bo, .int .i64 l.pr, .int .i64 l.at_, .int .i64 l.un]
def nrC (n : Nr) : List Value := [.string n.l.id, .string n.l.sl, .string n.l.bo, .int .i64 n.l.pr, .int .i64 n.l.at_, .int .i64 n.l.un, .int .i64 n.s, .int .i64 n.t, .int .i64 n.c]
theorem lrC_len (l : Lr) : (lrC l).length = 6 := rfl
theorem nrC_len (n : Nr) : (nrC n).length = 9 := rfl
theorem lrC_one (l : Lr) : ∀ u ∈ lrC l, u.oneCell' = true := by
  intro u hu
  simp only [lrC, List.mem_cons, List.not_mem_nil, or_false] at hu
  rcases hu with h | h | h | h | h | h <;> rw [h] <;> rfl
theorem nrC_one (n : Nr) : ∀ u ∈ nrC n, u.oneCell' = true := by
  intro u hu
  simp only [nrC, List.mem_cons, List.not_mem_nil, or_false] at hu
  rcases hu with h | h | h | h | h | h | h | h | h <;> rw [h] <;> rfl
/-- Texts of no great length. -/
structure LrK (l : Lr) : Prop where
  id : l.id.size ≤ 2000
  sl : l.sl.size ≤ 2000
  bo : l.bo.size ≤ 2000
def NrK (n : Nr) : Prop := LrK n.l
/-- A comparison that orders. -/
structure CmpOk {α : Type} (f : α → α → Int) : Prop where
  swap : ∀ x y, f y x = - f x y
  tr : ∀ x y z, f x y ≤ 0 → f y z ≤ 0 → f x z ≤ 0 ∧ (f x z = 0 → f x y = 0 ∧ f y z = 0)
theorem ltOf_yes {α : Type} (f : α → α → Int) (x y : α) : ltOf f x y = true ↔ f x y < 0 := by unfold ltOf; simp
theorem ltOf_no {α : Type} (f : α → α → Int) (x y : α) : ltOf f x y = false ↔ ¬ f x y < 0 := by unfold ltOf; simp
theorem CmpOk.swo {α : Type} {f : α → α → Int} (h : CmpOk f) : SWO (ltOf f) where
  irrefl x := by
    have := h.swap x x
    rw [ltOf_no]; omega
  trans x y z h1 h2 := by
    rw [ltOf_yes] at *
    have := h.tr x y z (by omega) (by omega)
    omega
  ntrans x y z h1 h2 := by
    rw [ltOf_no] at *
    have h3 := h.swap x y
    have h4 := h.swap y z
    have h5 := h.swap x z
    have := h.tr z y x (by omega) (by omega)
    omega
theorem CmpOk.or {α : Type} {f g : α → α → Int} (hf : CmpOk f) (hg : CmpOk g) : CmpOk (fun x y => if f x y ≠ 0 then f x y else g x y) where
  swap x y := by
    have h1 := hf.swap x y
    have h2 := hg.swap x y
    split <;> split <;> omega
  tr x y z h1 h2 := by
    have h3 : f x y ≤ 0 := by split at h1 <;> omega
    have h4 : f y z ≤ 0 := by split at h2 <;> omega
    have h5 := hf.tr x y z h3 h4
    have h6 := hg.tr x y z
    split at h1 <;> split at h2 <;> split <;> first | omega | (exact ⟨by omega, fun h => by omega⟩)
theorem CmpOk.num {α : Type} (g : α → Int) : CmpOk (fun x y => cmpI (g x) (g y)) where
  swap x y := by simp only [cmpI]; repeat' split <;> omega
  tr x y z h1 h2 := by
    simp only [cmpI] at *
    repeat' split at h1
    all_goals repeat' split at h2
    all_goals repeat' split
    all_goals omega
theorem CmpOk.flip {α : Type} {f : α → α → Int} (h : CmpOk f) : CmpOk (fun x y => f y x) where
  swap x y := h.swap y x
  tr x y z h1 h2 := by
    have := h.tr z y x h2 h1
    exact ⟨this.1, fun e => ⟨(this.2 e).2, (this.2 e).1⟩⟩
theorem compareBytes_swap : ∀ a b : List UInt8, Lib.compareBytes b a = - Lib.compareBytes a b
  | [], [] => rfl
  | [], _ :: _ => rfl
  | _ :: _, [] => rfl
  | a :: ar, b :: bs => by
    have ih := compareBytes_swap ar bs
    unfold Lib.compareBytes
    by_cases h1 : a < b
    · have h2 : ¬ b < a := by rw [UInt8.lt_iff_toNat_lt] at *; omega
      simp [h1, h2]
    · by_cases h2 : b < a
      · simp [h1, h2]
      · simp only [h1, h2, if_false]; exact ih
theorem compareBytes_tr : ∀ a b c : List UInt8, Lib.compareBytes a b ≤ 0 → Lib.compareBytes b c ≤ 0 → Lib.compareBytes a c ≤ 0 ∧ (Lib.compareBytes a c = 0 → Lib.compareBytes a b = 0 ∧ Lib.compareBytes b c = 0)
  | [], [], [] => by simp [Lib.compareBytes]
  | [], [], _ :: _ => by simp [Lib.compareBytes]
  | [], _ :: _, [] => by simp [Lib.compareBytes]
  | [], _ :: _, _ :: _ => by simp [Lib.compareBytes]
  | _ :: _, [], _ => by simp [Lib.compareBytes]
  | _ :: _, _ :: _, [] => by simp [Lib.compareBytes]
  | a :: ar, b :: bs, c :: cs => by
    have ih := compareBytes_tr ar bs cs
    intro h1 h2
    simp only [Lib.compareBytes, UInt8.lt_iff_toNat_lt] at h1 h2 ⊢
    split at h1
    · split at h2
      · rw [if_pos (by omega)]; exact ⟨by omega, by omega⟩
      · split at h2
        · omega
        · rw [if_pos (by omega)]; exact ⟨by omega, by omega⟩
    · split at h1
      · omega
      · split at h2
        · rw [if_pos (by omega)]; exact ⟨by omega, by omega⟩
        · split at h2
          · omega
          · rename_i g1 g2 g3 g4
            rw [if_neg (by omega), if_neg (by omega), if_neg (by omega), if_neg (by omega), if_neg (by omega), if_neg (by omega)]
            exact ih h1 h2
def cbY (a b : ByteArray) : Int := Lib.compareBytes a.data.toList b.data.toList
theorem CmpOk.text {α : Type} (g : α → ByteArray) : CmpOk (fun x y => cbY (g x) (g y)) where
  swap _ _ := compareBytes_swap _ _
  tr _ _ _ := compareBytes_tr _ _ _
/-- How letters lie by name; how they are fetched. -/
def cfI (x y : Lr) : Int := cbY x.id y.id
def cfR (x y : Lr) : Int := orI [cmpI y.pr x.pr, cmpI x.at_ y.at_, cbY x.id y.id]
theorem cfI_ok : CmpOk cfI := CmpOk.text (fun x : Lr => x.id)
theorem cfR_ok : CmpOk cfR := by
  have h := ((CmpOk.num (fun x : Lr => x.pr)).flip).or ((CmpOk.num (fun x : Lr => x.at_)).or (CmpOk.text (fun x : Lr => x.id)))
  have e : cfR = (fun x y => if cmpI y.pr x.pr ≠ 0 then cmpI y.pr x.pr else if cmpI x.at_ y.at_ ≠ 0 then cmpI x.at_ y.at_ else cbY x.id y.id) := by
    funext x y
    unfold cfR
    simp only [orI]
    repeat' split
    all_goals first | rfl | omega
  rw [e]
  exact h
/-- Odd of the stream. -/
def odR (lo hi : Int) (xs : LiA) (k : Nat) : Int := if nextV xs k 12 = 0 then [lo - 1, hi + 1, lo, hi, -1099511627776, 1099511627776].getD (nextN xs (k + 1) 6) 0 else lo + nextV xs (k + 1) (hi - lo + 1)
def cId : List ByteArray := [⟨#[108, 97]⟩, ⟨#[108, 98]⟩, ⟨#[108, 99]⟩, ⟨#[108, 100]⟩, ⟨#[108, 101]⟩, ⟨#[108, 102]⟩]
def cSl : List ByteArray := [⟨#[]⟩, ⟨#[]⟩, ⟨#[115, 97]⟩, ⟨#[115, 98]⟩]
def cBo : List ByteArray := [⟨#[100, 111]⟩, ⟨#[]⟩, ⟨#[97, 32, 34, 98, 34]⟩]
def cPr : List Int := [0, 0, 1, 5, 9]
def cUn : List Int := [1, 5, 10, 20, 50, 1000]
def cAt : List Int := [0, 5, 5, 9]
def wId : List ByteArray := [⟨#[]⟩, ⟨#[65]⟩]
def wSl : List ByteArray := [⟨#[65]⟩, ⟨#[45]⟩]
def bLong : ByteArray := ⟨(Lib.repeatL [98] 1001).toArray⟩
def wBo : List ByteArray := [⟨#[10]⟩, ⟨#[127]⟩, ⟨#[255]⟩, bLong]
theorem repeatL_len (l : List UInt8) (c : Nat) : (Lib.repeatL l c).length = c * l.length := by
  induction c with
  | zero => simp [Lib.repeatL]
  | succ c ih => rw [Lib.repeatL, List.length_append, ih, Nat.succ_mul, Nat.add_comm]
theorem bLong_size : bLong.size = 1001 := by
  show (Lib.repeatL [98] 1001).toArray.size = 1001
  simp [repeatL_len]
theorem getD_all {α : Type} (P : α → Prop) (d : α) (vs : List α) (h : ∀ v ∈ vs, P v) (i : Nat) (hi : i < vs.length) : P (vs.getD i d) := by
  rw [List.getD_eq_getElem?_getD, List.getElem?_eq_getElem hi]
  exact h _ (List.getElem_mem hi)
def rlF (xs : LiA) (k : Nat) (a : Int) : Lr :=
  ⟨cId.getD (nextN xs k 6) ⟨#[]⟩, cSl.getD (nextN xs (k + 1) 4) ⟨#[]⟩, cBo.getD (nextN xs (k + 2) 3) ⟨#[]⟩, cPr.getD (nextN xs (k + 3) 5) 0, a, a + cUn.getD (nextN xs (k + 4) 6) 0⟩
theorem rlF_k (xs : LiA) (k : Nat) (a : Int) : LrK (rlF xs k a) where
  id := getD_all (fun b : ByteArray => b.size ≤ 2000) _ cId (by decide) _ (nextN_lt _ _ _ (by omega))
  sl := getD_all (fun b : ByteArray => b.size ≤ 2000) _ cSl (by decide) _ (nextN_lt _ _ _ (by omega))
  bo := getD_all (fun b : ByteArray => b.size ≤ 2000) _ cBo (by decide) _ (nextN_lt _ _ _ (by omega))
def ltF (xs : LiA) (k : Nat) (a : Int) : Lr × Nat :=
  if nextV xs (k + 5) 15 = 0 then
    if nextN xs (k + 6) 5 = 0 then ({ rlF xs k a with id := wId.getD (nextN xs (k + 7) 2) ⟨#[]⟩ }, k + 8)
    else if nextN xs (k + 6) 5 = 1 then ({ rlF xs k a with sl := wSl.getD (nextN xs (k + 7) 2) ⟨#[]⟩ }, k + 8)
    else if nextN xs (k + 6) 5 = 2 then ({ rlF xs k a with bo := wBo.getD (nextN xs (k + 7) 4) ⟨#[]⟩ }, k + 8)
    else if nextN xs (k + 6) 5 = 3 then ({ rlF xs k a with pr := odR 0 9 xs (k + 7) }, k + 9)
    else ({ rlF xs k a with at_ := odR 0 50 xs (k + 7), un := odR 0 100 xs (k + 9) }, k + 11)
  else (rlF xs k a, k + 6)
theorem ltF_pos (xs : LiA) (k : Nat) (a : Int) : (ltF xs k a).2 ≤ k + 11 := by
  unfold ltF
  repeat' split
  all_goals simp
theorem ltF_k (xs : LiA) (k : Nat) (a : Int) : LrK (ltF xs k a).1 := by
  have h := rlF_k xs k a
  unfold ltF
  repeat' split
  · exact ⟨getD_all (fun b : ByteArray => b.size ≤ 2000) _ wId (by decide) _ (nextN_lt _ _ _ (by omega)), h.sl, h.bo⟩
  · exact ⟨h.id, getD_all (fun b : ByteArray => b.size ≤ 2000) _ wSl (by decide) _ (nextN_lt _ _ _ (by omega)), h.bo⟩
  · refine ⟨h.id, h.sl, getD_all (fun b : ByteArray => b.size ≤ 2000) _ wBo ?_ _ (nextN_lt _ _ _ (by omega))⟩
    intro v hv
    simp only [wBo, List.mem_cons, List.not_mem_nil, or_false] at hv
    rcases hv with rfl | rfl | rfl | rfl
    · decide
    · decide
    · decide
    · rw [bLong_size]; omega
  · exact ⟨h.id, h.sl, h.bo⟩
  · exact ⟨h.id, h.sl, h.bo⟩
  · exact h
/-- The letters, in turn. -/
def lsF (xs : LiA) (k : Nat) : Nat → List Lr × Nat
  | 0 => ([], k)
  | j + 1 => ((lsF xs k j).1 ++ [(ltF xs ((lsF xs k j).2 + 1) (cAt.getD (nextN xs (lsF xs k j).2 4) 0)).1], (ltF xs ((lsF xs k j).2 + 1) (cAt.getD (nextN xs (lsF xs k j).2 4) 0)).2)
theorem lsF_step {xs : LiA} {k j k' k2 : Nat} {L : List Lr} {a : Int} {l : Lr} (h : lsF xs k j = (L, k')) (ha : a = cAt.getD (nextN xs k' 4) 0) (hl : ltF xs (k' + 1) a = (l, k2)) : lsF xs k (j + 1) = (L ++ [l], k2) := by
  rw [lsF, h, ← ha, hl]
def srtL (l : List Lr) : List Lr := (Sort.insertionSort (ltOf cfI) l.toArray 0 l.length).toList
section
variable {α : Type}
/-- What is kept after j elements. -/
def CsI (l P : List α) : Prop := ∀ x ∈ P, x ∈ l
/-- What is kept after j elements, as a function. -/
def csN (sm : α → α → Bool) (l : List α) : Nat → List α
  | 0 => []
  | j + 1 => match l[j]? with
    | none => csN sm l j
    | some x => if j ≠ 0 ∧ (l[j - 1]?).any (fun y => sm x y) = true then csN sm l j else csN sm l j ++ [x]
theorem csN_one (sm : α → α → Bool) (l : List α) : csN sm l 1 = l.take 1 := by
  cases l with
  | nil => rfl
  | cons x l => simp [csN]
theorem csN_same {sm : α → α → Bool} {l : List α} {j : Nat} {x y : α} (hj : 1 ≤ j) (hx : l[j]? = some x) (hy : l[j - 1]? = some y) (h : sm x y = true) : csN sm l (j + 1) = csN sm l j := by
  rw [csN, hx]
  simp only
  rw [if_pos ⟨by omega, by rw [hy]; exact h⟩]
theorem csN_new {sm : α → α → Bool} {l : List α} {j : Nat} {x y : α} (hx : l[j]? = some x) (hy : l[j - 1]? = some y) (h : sm x y = false) : csN sm l (j + 1) = csN sm l j ++ [x] := by
  rw [csN, hx]
  simp only
  rw [if_neg (fun hh => by have := hh.2; rw [hy] at this; rw [Option.any_some, h] at this; cases this)]
def CsJ (sm : α → α → Bool) (l P : List α) (j : Nat) : Prop := CsI l P ∧ P = csN sm l j
theorem CsJ.same {sm : α → α → Bool} {l P : List α} {j : Nat} {x y : α} (h : CsJ sm l P j) (hj : 1 ≤ j) (hx : l[j]? = some x) (hy : l[j - 1]? = some y) (hs : true = sm x y) : CsJ sm l P (j + 1) :=
  ⟨h.1, by rw [csN_same hj hx hy hs.symm]; exact h.2⟩
/-- What the row holds. -/
def csR (l P : List α) : List α := P ++ l.drop P.length
theorem csR_len {l P : List α} (h : P.length ≤ l.length) : (csR l P).length = l.length := by
  unfold csR
  rw [List.length_append, List.length_drop]; omega
theorem csR_get {l P : List α} {j : Nat} (h : P.length ≤ j) : (csR l P)[j]? = l[j]? := by
  unfold csR
  rw [List.getElem?_append_right h, List.getElem?_drop]
  congr 1; omega
theorem csR_take (l : List α) (k : Nat) (h : k ≤ l.length) : csR l (l.take k) = l := by
  unfold csR
  rw [List.length_take, Nat.min_eq_left h, List.take_append_drop]
theorem csR_set {l P : List α} {x : α} (h : P.length < l.length) : (csR l P).set P.length x = csR l (P ++ [x]) := by
  unfold csR
  rw [List.set_append_right _ _ (Nat.le_refl _), Nat.sub_self, List.length_append, List.length_singleton, List.append_assoc]
  congr 1
  rw [List.drop_eq_getElem_cons h, List.set_cons_zero]
  rfl
theorem CsI.new {l P : List α} {j : Nat} {x : α} (h : CsI l P) (hx : l[j]? = some x) : CsI l (P ++ [x]) := by
  intro a ha
  rw [List.mem_append, List.mem_singleton] at ha
  rcases ha with ha | rfl
  · exact h a ha
  · exact List.mem_of_getElem? hx
theorem CsI.take (l : List α) (k : Nat) : CsI l (l.take k) := fun _ h => List.mem_of_mem_take h
theorem CsJ.new {sm : α → α → Bool} {l P : List α} {j : Nat} {x y : α} (h : CsJ sm l P j) (hx : l[j]? = some x) (hy : l[j - 1]? = some y) (hs : false = sm x y) : CsJ sm l (P ++ [x]) (j + 1) :=
  ⟨h.1.new hx, by rw [csN_new hx hy hs.symm, ← h.2]⟩
theorem CsJ.newT {sm : α → α → Bool} {l : List α} {j : Nat} {x y : α} (h : CsJ sm l (l.take j) j) (hx : l[j]? = some x) (hy : l[j - 1]? = some y) (hs : false = sm x y) : CsJ sm l (l.take (j + 1)) (j + 1) := by
  have e : l.take (j + 1) = l.take j ++ [x] := by rw [List.take_add_one, hx]; rfl
  rw [e]
  exact h.new hx hy hs
theorem CsJ.one (sm : α → α → Bool) (l : List α) : CsJ sm l (l.take 1) 1 := ⟨CsI.take l 1, (csN_one sm l).symm⟩
theorem csN_few (sm : α → α → Bool) {l : List α} (h : l.length < 2) : l = csN sm l l.length := by
  match l, h with
  | [], _ => rfl
  | [x], _ => simp [csN]
end
def lrSm (x y : Lr) : Bool := x.id.toList == y.id.toList
/-- Letters(n) of the stream, and where it stands behind it. -/
def leF (xs : LiA) (k n : Nat) : List Lr × Nat :=
  if nextV xs (lsF xs k n).2 8 = 0 then ((lsF xs k n).1, (lsF xs k n).2 + 1)
  else (csN lrSm (srtL (lsF xs k n).1) n, (lsF xs k n).2 + 1)
theorem leF_yes {xs : LiA} {k n k' : Nat} {L : List Lr} (h : lsF xs k n = (L, k')) (hb : true = decide (nextV xs k' 8 = 0)) : leF xs k n = (L, k' + 1) := by
  unfold leF
  rw [h, if_pos (by simpa using hb.symm)]
theorem leF_no {xs : LiA} {k n k' : Nat} {L M m : List Lr} (h : lsF xs k n = (L, k')) (hb : false = decide (nextV xs k' 8 = 0)) (hM : M = srtL L) (hm : m = csN lrSm M n) : leF xs k n = (m, k' + 1) := by
  unfold leF
  rw [h, if_neg (by simpa using hb.symm), hm, hM]
end Go.Proofs.YtnnncddjcdjhoaaGreatDoor
