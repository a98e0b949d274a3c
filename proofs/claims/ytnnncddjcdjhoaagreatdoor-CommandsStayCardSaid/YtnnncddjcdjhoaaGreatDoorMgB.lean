/- Several texts in one: Rec, DqP, DqA, Del, DqB, DqC, DqD. -/
import Derived.Test.YtnnncddjcdjhoaaGreatDoorMgA
import Derived.Lib.SliceRun
import Derived.Deep.RegionLaw
import Derived.Deep.LoopGhost
import Derived.Deep.RegionHeld3

/- Rows of records: plain lemmas on memory; no program in sight. -/
namespace Go.Proofs.YtnnncddjcdjhoaaGreatDoor
open Go.RowKit

/-- The cells of records, each of k cells. -/
def recs {α : Type} (f : α → List Value) (l : List α) : List Value := l.flatMap f
theorem recs_nil {α : Type} (f : α → List Value) : recs f [] = [] := rfl
theorem recs_append {α : Type} (f : α → List Value) (a b : List α) : recs f (a ++ b) = recs f a ++ recs f b := by simp [recs]
theorem recs_snoc {α : Type} (f : α → List Value) (a : List α) (x : α) : recs f (a ++ [x]) = recs f a ++ f x := by simp [recs]
section
variable {α : Type} {f : α → List Value} {k : Nat}
theorem recs_length (hf : ∀ x, (f x).length = k) (l : List α) : (recs f l).length = l.length * k := by
  induction l with
  | nil => simp [recs]
  | cons x l ih => simp only [recs, List.flatMap_cons, List.length_append, List.length_cons] at ih ⊢; rw [ih, hf, Nat.succ_mul]; omega
theorem recs_get (hf : ∀ x, (f x).length = k) (l : List α) (i : Nat) (x : α) (h : l[i]? = some x) (j : Nat) (hj : j < k) : (recs f l)[i * k + j]? = (f x)[j]? := by
  induction l generalizing i with
  | nil => simp at h
  | cons y l ih =>
    cases i with
    | zero =>
      simp only [List.getElem?_cons_zero, Option.some.injEq] at h
      subst h
      simp only [recs, List.flatMap_cons]
      rw [List.getElem?_append_left (by rw [hf]; omega)]
      simp
    | succ i =>
      simp only [List.getElem?_cons_succ] at h
      have := ih i h
      simp only [recs, List.flatMap_cons] at this ⊢
      rw [List.getElem?_append_right (by rw [hf, Nat.succ_mul]; omega), ← this, hf]
      congr 1
      rw [Nat.succ_mul]; omega
theorem rec_cell (hf : ∀ x, (f x).length = k) {w : World} {b o : Nat} {l : List α} (h : Cells w b o (recs f l)) (i : Nat) (x : α) (hx : l[i]? = some x) (j : Nat) (u : Value) (hj : (f x)[j]? = some u) : w.cell? ⟨b, o + i * k + j, none⟩ = some u := by
  have hjk : j < k := by have := (List.getElem?_eq_some_iff.1 hj).1; rw [hf] at this; exact this
  have := h (i * k + j) u ((recs_get hf l i x hx j hjk).trans hj)
  rwa [← Nat.add_assoc] at this
theorem Row.posR (hf : ∀ x, (f x).length = k) (hk : 0 < k) {w : World} {B : Nat} {A : Option Addr} {l : List α} (h : Row w B A (recs f l)) (hl : 0 < l.length) : ∃ b o, A = some ⟨b, o, none⟩ ∧ b < B ∧ Cells w b o (recs f l) := by
  rcases h with h | h
  · have := recs_length hf l
    rw [h] at this
    simp only [List.length_nil] at this
    have := Nat.mul_pos hl hk
    omega
  · exact h
theorem recs_one (h1 : ∀ x, ∀ u ∈ f x, u.oneCell' = true) (l : List α) : ∀ u ∈ recs f l, u.oneCell' = true := by
  intro u hu
  simp only [recs, List.mem_flatMap] at hu
  obtain ⟨x, _, hx⟩ := hu
  exact h1 x u hx
theorem recs_drop (hf : ∀ x, (f x).length = k) (l : List α) (i : Nat) : (recs f l).drop (i * k) = recs f (l.drop i) := by
  induction l generalizing i with
  | nil => simp [recs]
  | cons y l ih =>
    cases i with
    | zero => simp
    | succ i =>
      simp only [recs, List.flatMap_cons, List.drop_succ_cons] at ih ⊢
      rw [Nat.succ_mul, Nat.add_comm, ← List.drop_drop, List.drop_left' (hf y), ih]
end
theorem Cells.drop {w : World} {b o : Nat} {xs : List Value} (h : Cells w b o xs) (i : Nat) : Cells w b (o + i) (xs.drop i) := by
  intro j u hu
  rw [List.getElem?_drop] at hu
  have := h (i + j) u hu
  rwa [← Nat.add_assoc] at this
theorem Cells.take {w : World} {b o : Nat} {xs : List Value} (h : Cells w b o xs) (i : Nat) : Cells w b o (xs.take i) := by
  intro j u hu
  rw [List.getElem?_take] at hu
  split at hu
  · exact h j u hu
  · cases hu
/-- A row that is owned, read from an element on. -/
theorem Row.dropR {α : Type} {f : α → List Value} {k : Nat} (hf : ∀ x, (f x).length = k) {w : World} {B b o : Nat} {l : List α} (h : Cells w b o (recs f l)) (hb : b < B) (i : Nat) : Row w B (some ⟨b, o + i * k, none⟩) (recs f (l.drop i)) := by
  have := h.drop (i * k)
  rw [recs_drop hf] at this
  exact .inr ⟨b, _, rfl, hb, this⟩
theorem own_cap {w : World} {base : Nat} {e : TypeId} {size n : Nat} {A : Option Addr} {c : Nat} {xs : List Value} (h : w.ownsRow base e size (.slice A n c) n xs) : n ≤ c := by
  rcases h.2 with ⟨hv, hn⟩ | ⟨g, cap, cur, hv, _, _, hc, _⟩
  · omega
  · injection hv with _ _ hc'
    omega
theorem own_two {w : World} {base : Nat} {e : TypeId} {size n : Nat} {A : Option Addr} {c : Nat} {xs : List Value} (h : w.ownsRow base e size (.slice A n c) n xs) : (A = none ∧ n = 0 ∧ c = 0) ∨ ∃ g, A = some ⟨g, 0, none⟩ ∧ base ≤ g ∧ g < w.heap.size := by
  rcases h.2 with ⟨hv, hn⟩ | ⟨g, cap, cur, hv, hb, hh, hc, _⟩
  · injection hv with h1 h2 h3
    exact .inl ⟨h1, hn, h3⟩
  · injection hv with h1 h2 h3
    exact .inr ⟨g, h1, hb, (Array.getElem?_eq_some_iff.1 hh).1⟩
end Go.Proofs.YtnnncddjcdjhoaaGreatDoor

/- DoneOnce: the plain law of what a device remembers. -/
namespace Go.Proofs.YtnnncddjcdjhoaaGreatDoor
open Go.RowKit

/-- The letters of the law, by number: name and end. -/
def ltId (i : Nat) : ByteArray := ⟨#[108, 97 + UInt8.ofNat i]⟩
def ltU (i : Nat) : Int := [50, 50, 50, 100, 1000].getD i 0
theorem ltId_ne {i j : Nat} (hi : i < 5) (hj : j < 5) (h : i ≠ j) : ltId i ≠ ltId j := by
  have : (i = 0 ∨ i = 1 ∨ i = 2 ∨ i = 3 ∨ i = 4) ∧ (j = 0 ∨ j = 1 ∨ j = 2 ∨ j = 3 ∨ j = 4) := by omega
  obtain ⟨h1, h2⟩ := this
  rcases h1 with rfl | rfl | rfl | rfl | rfl <;> rcases h2 with rfl | rfl | rfl | rfl | rfl <;> first | (exact absurd rfl h) | decide
theorem ltU_range {i : Nat} (hi : i < 5) : 20 ≤ ltU i ∧ ltU i ≤ 1000 := by
  have : i = 0 ∨ i = 1 ∨ i = 2 ∨ i = 3 ∨ i = 4 := by omega
  rcases this with rfl | rfl | rfl | rfl | rfl <;> decide
/-- What is remembered of a letter. -/
def dnC (i : Nat) : List Value := [.string (ltId i), .int .i64 (ltU i)]
theorem dnC_len (i : Nat) : (dnC i).length = 2 := rfl
theorem dnC_one (i : Nat) : ∀ u ∈ dnC i, u.oneCell' = true := by
  intro u hu
  simp only [dnC, List.mem_cons, List.not_mem_nil, or_false] at hu
  rcases hu with rfl | rfl <;> rfl
/-- The memory N comes of L and letter i at a moment: nothing is lost that has not ended. -/
structure Mem (L N : List Nat) (i : Nat) (at_ : Int) : Prop where
  five : ∀ j ∈ N, j < 5
  new : i ∈ N
  old : ∀ j ∈ L, j ∈ N ∨ ltU j ≤ at_
theorem Mem.start {L : List Nat} {i : Nat} {at_ : Int} (h : ∀ j ∈ L, j < 5) (hi : i < 5) : Mem L (L ++ [i]) i at_ := by
  refine ⟨?_, by simp, fun j hj => .inl (by simp [hj])⟩
  intro j hj
  rcases List.mem_append.1 hj with hj | hj
  · exact h j hj
  · simp only [List.mem_singleton] at hj; omega
theorem Mem.erase {L N : List Nat} {i k m : Nat} {at_ : Int} (h : Mem L N i at_) (hi : at_ < ltU i) (hk : N[k]? = some m) (hm : ltU m ≤ at_) : Mem L (N.eraseIdx k) i at_ := by
  have he : ∀ j, j ∈ N → j ∈ N.eraseIdx k ∨ ltU j ≤ at_ := by
    intro j hj
    obtain ⟨p, hp⟩ := List.getElem?_of_mem hj
    by_cases e : p = k
    · subst e
      rw [hk] at hp
      injection hp with hp
      subst hp
      exact .inr hm
    · refine .inl (List.mem_eraseIdx_iff_getElem?.2 ⟨p, e, hp⟩)
  refine ⟨fun j hj => h.five j (List.mem_of_mem_eraseIdx hj), ?_, ?_⟩
  · rcases he i h.new with h1 | h1
    · exact h1
    · omega
  · intro j hj
    rcases h.old j hj with h1 | h1
    · exact he j h1
    · exact .inr h1
/-- What is done is remembered or has ended. -/
def Kpt (D L : List Nat) (at_ : Int) : Prop := ∀ j ∈ D, j ∈ L ∨ ltU j ≤ at_
theorem Kpt.later {D L : List Nat} {a b : Int} (h : Kpt D L a) (hab : a ≤ b) : Kpt D L b := fun j hj => (h j hj).imp id (by omega)
theorem Kpt.do {D L N : List Nat} {i : Nat} {a : Int} (h : Kpt D L a) (hm : Mem L N i a) : Kpt (D ++ [i]) N a := by
  intro j hj
  rcases List.mem_append.1 hj with hj | hj
  · rcases h j hj with h1 | h1
    · exact hm.old j h1
    · exact .inr h1
  · simp only [List.mem_singleton] at hj
    subst hj
    exact .inl hm.new
theorem Kpt.fresh {D L : List Nat} {i : Nat} {a : Int} (h : Kpt D L a) (hi : i ∉ L) (hu : a < ltU i) : i ∉ D := by
  intro hd
  rcases h i hd with h1 | h1
  · exact hi h1
  · omega
end Go.Proofs.YtnnncddjcdjhoaaGreatDoor

/- What a device remembers: NewDoer, CheckLetter, Clone, the look-up, each by its contract. -/
namespace Go.Proofs.YtnnncddjcdjhoaaGreatDoor
open Go.RowKit

theorem newDoer_any (r : Int) (w : World) (h1 : 1 ≤ r) (h2 : r ≤ 1000) : Calls Tryz.prog 11 #[.int .i64 r] w fun e w' =>
    ∃ g, e = .returned (.tuple #[.pointer (some ⟨g, 0, none⟩), .int .i64 0]) ∧ w.heap.size ≤ g ∧ w'.heap[g]? = some (.cells #[.int .i64 r, .slice none 0 0, .int .i64 0] 86 (0, 0)) ∧ Below w.heap.size w w' := by
  go_enter Tryz.func11, Tryz.ntmps11
  go_wp2_with (go_at_call 44; refine (out_no _ _ _ _ (by omega) (by omega)).mono ?_; rintro e w' ⟨rfl, rfl⟩)
  go_ret2
  exact ⟨_, rfl, Nat.le_refl _, heap_new w _, (Below.refl _ _).alloc (Nat.le_refl _) _⟩

/-- A letter of the law as a value. -/
def ltV (i : Nat) : Value := .agg #[.string (ltId i), .string ⟨#[]⟩, .string ⟨#[]⟩, .int .i64 0, .int .i64 0, .int .i64 (ltU i)]
theorem ltId_key {i : Nat} (hi : i < 5) : isKey (ltId i) = true := by
  have : i = 0 ∨ i = 1 ∨ i = 2 ∨ i = 3 ∨ i = 4 := by omega
  rcases this with rfl | rfl | rfl | rfl | rfl <;> decide

set_option maxRecDepth 100000 in
set_option maxHeartbeats 1000000 in
theorem checkLetter_i (i : Nat) (hi : i < 5) (w : World) : Calls Tryz.prog 33 #[ltV i] w fun e w' => e = .returned (.int .i64 0) ∧ Below w.heap.size w w' := by
  have HK := Lib.hid (ltId_key hi)
  have hu := ltU_range hi
  unfold ltV
  generalize ltId i = id at HK ⊢
  generalize ltU i = u at hu ⊢
  clear hi
  have h1 : ¬ u ≤ 0 := by omega
  have h2 : ¬ 345686400000 < u := by omega
  go_enter Tryz.func33, Tryz.ntmps33
  go_wp2_with (first | (go_at_call 67; refine (key_yes _ _ HK.out).mono ?_; rintro e w' ⟨rfl, rfl⟩) | (go_at_call 51; refine (moment_yes _ _ (by omega) (by omega)).mono ?_; rintro e w' ⟨rfl, rfl⟩) | (go_at_call 44; refine (out_no _ _ _ _ (by omega) (by omega)).mono ?_; rintro e w' ⟨rfl, rfl⟩) | (go_at_call 68; refine (unmarked_empty _).mono ?_; rintro e w' ⟨rfl, rfl⟩))
  go_ret
  exact ⟨rfl, (Below.refl _ _).alloc (Nat.le_refl _) _⟩

theorem Tryz.infoDn : (Tryz.prog.info? 95).map (fun i => (i.zero, i.size, i.bytes)) = some (some (.agg #[.string ⟨#[]⟩, .int .i64 0]), 2, 24) := by kernel_rfl
set_option maxRecDepth 100000 in
set_option maxHeartbeats 1000000 in
theorem cloneD_some (b off n c : Nat) (xs : List Value) (w : World) (hl : xs.length = n * 2) (h1 : ∀ u ∈ xs, u.oneCell' = true) (hn : n ≤ 1000000) (hc : Cells w b off xs) :
    Calls Tryz.prog 54 #[.slice (some ⟨b, off, none⟩) n c] w fun e w' => ∃ v', e = .returned v' ∧ w'.ownsRow w.heap.size 95 2 v' n xs ∧ Below w.heap.size w w' := by
  obtain ⟨i0, hi, hz0, hz1, hz2⟩ := info_parts Tryz.infoDn
  have q22 : ∀ (w : World) (a : Option Addr) (n c n' c' : Nat), (binOp .eql 84 (.slice a n c) (.slice none n' c')).run Tryz.prog w = .ok (.bool a.isNone) w := fun w a n c n' c' => Lib.run_eql_slice_nil w _ _ a n c n' c' Tryz.underlying84
  have HC := Lib.hid hc
  have H1 := Lib.hid h1
  have HL := Lib.hid hl
  clear hc h1 hl
  go_enter Tryz.func54, Tryz.ntmps54
  go_wp2_with (at_builtin; refine wpList_append_own _ rfl _ _ 84 rfl w.heap.size 95 i0 _ 2 24 Tryz.underlying84 hi hz0 hz1 hz2 rfl (by decide) _ _ _ rfl (World.ownsRow_made w #[] 0 (Nat.le_refl _) (Nat.zero_le _) rfl) ⟨b, off, none⟩ n c xs rfl ?qc1 ?qc2 ?qc3 ?qc4 ?qc5 ?qc6 ?_)
  case qc1 => exact HL.out
  case qc2 =>
    intro j u hj
    rw [Addr.add_lit]
    exact Lib.cell?_alloc_some _ (HC.out j u hj)
  case qc3 => exact H1.out
  case qc4 => unfold maxLen; omega
  case qc5 => omega
  case qc6 => simp
  intro v' w1 hown hgrow hnil
  go_wp2
  go_ret
  refine ⟨v', rfl, by simpa using hown, ?_⟩
  exact ((Below.refl _ w).alloc (Nat.le_refl _) _).grown hgrow (by simp) (by intro k hk; simp [Value.ownBlock] at hk; omega)
theorem cloneD_nil (n c : Nat) (w : World) : Calls Tryz.prog 54 #[.slice none n c] w fun e w' => e = .returned (.slice none 0 0) ∧ w = w' := by
  have q22 : ∀ (w : World) (a : Option Addr) (n c n' c' : Nat), (binOp .eql 84 (.slice a n c) (.slice none n' c')).run Tryz.prog w = .ok (.bool a.isNone) w := fun w a n c n' c' => Lib.run_eql_slice_nil w _ _ a n c n' c' Tryz.underlying84
  go_enter Tryz.func54, Tryz.ntmps54
  go_wp2
  go_ret
  exact ⟨rfl, rfl⟩

/-- A slice of n elements lies in memory: nil, or in a block that is there. -/
def Lies (w : World) (A : Option Addr) (n c : Nat) (xs : List Value) : Prop := (A = none ∧ n = 0 ∧ c = 0 ∧ xs = []) ∨ ∃ b o, A = some ⟨b, o, none⟩ ∧ b < w.heap.size ∧ Cells w b o xs
theorem Lies.below {w w' : World} {A : Option Addr} {n c : Nat} {xs : List Value} (h : Lies w A n c xs) (hb : Below w.heap.size w w') : Lies w' A n c xs := by
  rcases h with h | ⟨b, o, e, hlt, hc⟩
  · exact .inl h
  · exact .inr ⟨b, o, e, by have := hb.size; omega, hc.keep (hb.block b hlt)⟩
theorem own_lies {w : World} {base : Nat} {e : TypeId} {size n : Nat} {A : Option Addr} {c : Nat} {xs : List Value} (h : w.ownsRow base e size (.slice A n c) n xs) : Lies w A n c xs := by
  rcases own_two h with ⟨rfl, rfl, rfl⟩ | ⟨g, rfl, _, hlt⟩
  · exact .inl ⟨rfl, rfl, rfl, List.eq_nil_of_length_eq_zero (by rw [h.1]; simp)⟩
  · rcases own_row h with hx | ⟨b, o, e, hb, hc⟩
    · subst hx
      exact .inr ⟨g, 0, rfl, hlt, fun j v hv => by simp at hv⟩
    · exact .inr ⟨b, o, e, hb, hc⟩
theorem cloneD_any (L : List Nat) (n c : Nat) (A : Option Addr) (w : World) (hn : L.length = n) (hn2 : n ≤ 5000) (hr : Lies w A n c (recs dnC L)) :
    Calls Tryz.prog 54 #[.slice A n c] w fun e w' => ∃ v', e = .returned v' ∧ w'.ownsRow w.heap.size 95 2 v' n (recs dnC L) ∧ Below w.heap.size w w' := by
  rcases hr with ⟨rfl, rfl, rfl, hx⟩ | ⟨b, o, rfl, hb, hc⟩
  · refine (cloneD_nil 0 0 w).mono ?_
    rintro e w' ⟨rfl, rfl⟩
    exact ⟨_, rfl, by rw [hx]; exact World.ownsRow_nil _ _ _ _, Below.refl _ _⟩
  · exact cloneD_some b o n c _ w (by rw [recs_length dnC_len, hn]) (recs_one dnC_one L) (by omega) hc

theorem ltId_beq {i j : Nat} (hi : i < 5) (hj : j < 5) : ((ltId i).toList == (ltId j).toList) = decide (i = j) := by
  rw [Lib.toList_data, Lib.toList_data]
  have : (i = 0 ∨ i = 1 ∨ i = 2 ∨ i = 3 ∨ i = 4) ∧ (j = 0 ∨ j = 1 ∨ j = 2 ∨ j = 3 ∨ j = 4) := by omega
  obtain ⟨h1, h2⟩ := this
  rcases h1 with rfl | rfl | rfl | rfl | rfl <;> rcases h2 with rfl | rfl | rfl | rfl | rfl <;> decide
theorem do1_any (id id' : ByteArray) (u : Int) (q : Nat) (w : World) (h0 : w.cell? ⟨q, 0, none⟩ = some (.string id)) :
    Calls Tryz.prog 53 #[.agg #[.string id', .int .i64 u], .pointer (some ⟨q, 0, none⟩)] w fun e w' => e = .returned (.bool (id'.toList == id.toList)) ∧ Below w.heap.size w w' := by
  have hq := World.block_lt_of_cell? w _ h0
  simp only at hq
  go_enter Tryz.func53, Tryz.ntmps53
  go_wp2_with (fail)
  go_ret
  exact ⟨rfl, (Below.refl _ _).alloc (Nat.le_refl _) _⟩

set_option maxRecDepth 100000 in
set_option maxHeartbeats 1000000 in
theorem idxD_some (L : List Nat) (i q n c b o : Nat) (w : World) (hn : L.length = n) (hn5 : n ≤ 5000) (hb : b < w.heap.size) (hc : Cells w b o (recs dnC L)) (h0 : w.cell? ⟨q, 0, none⟩ = some (.string (ltId i))) (hi : i < 5) (h5 : ∀ j ∈ L, j < 5) :
    Calls Tryz.prog 80 #[.slice (some ⟨b, o, none⟩) n c, .func (.func 53) #[] #[.pointer (some ⟨q, 0, none⟩)]] w fun e w' => (∃ r : Int, e = .returned (.int .i64 r) ∧ -1 ≤ r ∧ r ≤ 5000 ∧ (0 ≤ r ↔ i ∈ L)) ∧ Below w.heap.size w w' := by
  have hq := World.block_lt_of_cell? w _ h0
  simp only at hq
  have HC := Lib.hid hc
  have H0 := Lib.hid h0
  have H5 := Lib.hid h5
  clear hc h0 h5
  go_enter Tryz.func80, Tryz.ntmps80
  go_wp2_with (fail)
  go_loopw [8] (fun s wr => ∃ k : Nat, k ≤ n ∧ s = .int .i64 k ∧ i ∉ L.take k ∧ Below w.heap.size w wr) (fun s _ => n - (intOf s).toNat)
  case atStart => exact ⟨0, Nat.zero_le _, rfl, by simp, Below.refl _ _⟩
  case round =>
    obtain ⟨k, hk, rfl, hno, hbl⟩ := hrel
    have hsz := hbl.size
    have HNO := Lib.hid hno
    clear hno
    by_cases hlt : k < n
    · obtain ⟨x, hx⟩ : ∃ x, L[k]? = some x := ⟨_, List.getElem?_eq_getElem (by omega)⟩
      have hcr := HC.out.keep (hbl.block b hb)
      have c0 := rec_cell dnC_len hcr k x hx 0 _ rfl
      have c1 := rec_cell dnC_len hcr k x hx 1 _ rfl
      simp only [Nat.add_zero] at c0
      have hx5 := H5.out x (List.mem_of_getElem? hx)
      have hxm := List.mem_of_getElem? hx
      have HTK := Lib.hid (show L.take (k + 1) = L.take k ++ [x] by rw [List.take_add_one, hx]; rfl)
      have HBL := Lib.hid hbl
      have HCALL := Lib.hid (do1_any (ltId i) (ltId x) (ltU x) q wr ((hbl.cell (p := ⟨q, 0, none⟩) hq).trans H0.out))
      have hlt' : (k : Int) < (n : Int) := by omega
      by_cases e : x = i
      · subst e
        have HM := Lib.hid hxm
        clear hbl hcr hx hxm
        rw [ltId_beq hx5 hx5, decide_eq_true rfl] at HCALL
        go_wp2_with (fail)
        refine HCALL.out.mono ?_
        rintro e w' ⟨rfl, hbw⟩
        have HB3 := Lib.hid (show Below w.heap.size w w' from (HBL.out).trans (hbw.mono hsz))
        clear hbw
        go_wp2_with (fail)
        go_ret
        exact ⟨⟨_, rfl, by omega, by omega, fun _ => HM.out, fun _ => by omega⟩, HB3.out⟩
      · have HNE := Lib.hid e
        clear hbl hcr hx hxm
        rw [ltId_beq hx5 hi, decide_eq_false e] at HCALL
        clear e
        go_wp2_with (fail)
        refine HCALL.out.mono ?_
        rintro e w' ⟨rfl, hbw⟩
        have HB3 := Lib.hid (show Below w.heap.size w w' from (HBL.out).trans (hbw.mono hsz))
        clear hbw
        go_wp2_with (fail)
        go_roundw
        case rel => exact ⟨k + 1, by omega, by go_num, by rw [HTK.out]; simp [HNO.out, Ne.symm HNE.out], HB3.out⟩
        case measure => simp [intOf]; omega
    · have HBL := Lib.hid hbl
      have hkn : k = n := by omega
      subst hkn
      rw [List.take_of_length_le (by omega)] at HNO
      clear hbl
      go_wp2_with (fail)
      go_ret
      exact ⟨⟨_, rfl, by omega, by omega, fun h => by omega, fun h => absurd h HNO.out⟩, HBL.out⟩
theorem idxD_nil (A : Option Addr) (c : Nat) (f : Value) (w : World) : Calls Tryz.prog 80 #[.slice A 0 c, f] w fun e w' => e = .returned (.int .i64 (-1)) ∧ w = w' := by
  go_enter Tryz.func80, Tryz.ntmps80
  go_wp2_with (fail)
  refine wp_loop_rounds 1 ?_
  rw [rounds_succ]
  go_wp2_with (fail)
  go_ret
  exact ⟨rfl, rfl⟩
theorem hasD_any (L : List Nat) (i q n c : Nat) (A : Option Addr) (w : World) (hn : L.length = n) (hn5 : n ≤ 5000) (hr : Lies w A n c (recs dnC L)) (h0 : w.cell? ⟨q, 0, none⟩ = some (.string (ltId i))) (hi : i < 5) (h5 : ∀ j ∈ L, j < 5) :
    Calls Tryz.prog 52 #[.slice A n c, .func (.func 53) #[] #[.pointer (some ⟨q, 0, none⟩)]] w fun e w' => e = .returned (.bool (decide (i ∈ L))) ∧ Below w.heap.size w w' := by
  have H : Hid (Calls Tryz.prog 80 #[.slice A n c, .func (.func 53) #[] #[.pointer (some ⟨q, 0, none⟩)]] w fun e w' => (∃ r : Int, e = .returned (.int .i64 r) ∧ -1 ≤ r ∧ r ≤ 5000 ∧ (0 ≤ r ↔ i ∈ L)) ∧ Below w.heap.size w w') := by
    refine Lib.hid ?_
    rcases hr with ⟨rfl, rfl, rfl, hx⟩ | ⟨b, o, rfl, hb, hc⟩
    · obtain rfl : L = [] := List.eq_nil_of_length_eq_zero hn
      refine (idxD_nil none 0 _ w).mono ?_
      rintro e w' ⟨rfl, rfl⟩
      exact ⟨⟨-1, rfl, by omega, by omega, by simp⟩, Below.refl _ _⟩
    · exact idxD_some L i q n c b o w hn hn5 hb hc h0 hi h5
  clear hr h0 h5
  go_enter Tryz.func52, Tryz.ntmps52
  go_wp2_with (fail)
  refine H.out.mono ?_
  rintro e w' ⟨⟨r, rfl, hr1, hr2, hr3⟩, hbw⟩
  have HB := Lib.hid hbw
  have HR := Lib.hid (show Value.bool (decide (0 ≤ r)) = Value.bool (decide (i ∈ L)) by rw [decide_eq_decide.2 hr3])
  clear hbw hr3
  go_wp2_with (fail)
  go_ret
  exact ⟨ret_val HR.out, HB.out⟩
end Go.Proofs.YtnnncddjcdjhoaaGreatDoor

/- What a row holds behind stores of many cells, and behind clear; no program in sight. -/
namespace Go.Proofs.YtnnncddjcdjhoaaGreatDoor
open Go.RowKit

theorem set_take_drop (xs r : List Value) (o : Nat) (v : Value) (h : o < xs.length) : (xs.set o v).take (o + 1) ++ r ++ (xs.set o v).drop (o + 1 + r.length) = xs.take o ++ v :: r ++ xs.drop (o + (v :: r).length) := by
  rw [List.set_eq_take_append_cons_drop, if_pos h]
  have h1 : (xs.take o).length = o := by simp; omega
  rw [List.take_append, List.drop_append, h1]
  have e1 : (xs.take o).take (o + 1) = xs.take o := by rw [List.take_take]; congr 1; omega
  have e2 : (xs.take o).drop (o + 1 + r.length) = [] := List.drop_eq_nil_of_le (by omega)
  rw [e1, e2, show o + 1 - o = 1 by omega, show o + 1 + r.length - o = r.length + 1 by omega]
  simp only [List.take_succ_cons, List.take_zero, List.drop_succ_cons, List.drop_drop, List.nil_append, List.append_assoc, List.cons_append, List.length_cons]
  rw [show o + 1 + r.length = o + (r.length + 1) by omega]
theorem own_setCells {base : Nat} {e : TypeId} {size g n cap : Nat} : ∀ (vs : List Value) (o : Nat) (w : World) (xs : List Value), w.ownsRow base e size (.slice (some ⟨g, 0, none⟩) n cap) n xs → o + vs.length ≤ xs.length →
    (w.setCells g o vs).ownsRow base e size (.slice (some ⟨g, 0, none⟩) n cap) n (xs.take o ++ vs ++ xs.drop (o + vs.length)) ∧ w.grownBy (w.setCells g o vs) (some g)
  | [], o, w, xs, h, _ => by simpa [World.setCells] using ⟨h, grown_refl w _⟩
  | v :: r, o, w, xs, h, hl => by
    simp only [List.length_cons] at hl
    obtain ⟨h1, h2⟩ := h.stored o v
    obtain ⟨h3, h4⟩ := own_setCells r (o + 1) _ _ h1 (by rw [List.length_set]; omega)
    rw [set_take_drop xs r o v (by omega)] at h3
    exact ⟨h3, grown_trans h2 h4⟩
theorem own_shrink {w : World} {base : Nat} {e : TypeId} {size g n cap : Nat} {xs : List Value} (h : w.ownsRow base e size (.slice (some ⟨g, 0, none⟩) n cap) n xs) (m : Nat) (hm : m ≤ n) :
    w.ownsRow base e size (.slice (some ⟨g, 0, none⟩) m cap) m (xs.take (m * size)) := by
  have hle : m * size ≤ n * size := Nat.mul_le_mul_right _ hm
  refine ⟨by rw [List.length_take, h.1]; omega, ?_⟩
  rcases h.2 with ⟨hv, _⟩ | ⟨g', cap', cur, hv, hb, hh, hc, hcm, hcs, ht⟩
  · injection hv with h1 _; cases h1
  · injection hv with h1 h2 h3
    injection h1 with h1
    injection h1 with h1 _
    subst h1 h3
    refine .inr ⟨g, cap, cur, rfl, hb, hh, by omega, hcm, hcs, ?_⟩
    rw [← ht, List.take_take]
    congr 1; omega
theorem run_clear_one {P : Program} (w : World) (t e ty : TypeId) (z : Value) (zs : List Value) (ht : P.underlying t = some (.slice e)) (hv : ∀ w, (zeroValue e).run P w = .ok z w) (hz : z.cells.toList = zs) (h1 : ∀ u ∈ zs, u.oneCell' = true) (b o c : Nat)
    (hc : ∀ j, j < zs.length → (w.cell? ⟨b, o + j, none⟩).isSome = true) (hf : ∀ j, j < zs.length → w.frozen? ⟨b, o + j, none⟩ = false) :
    (Builtin.clear_ #[t] ty #[.slice (some ⟨b, o, none⟩) 1 c]).run P w = .ok (.tuple #[]) (w.setCells b o zs) := by
  have hzc : (Builtin.zeroCells z.cells 1).toList = zs := by
    rw [← hz]
    simp [Builtin.zeroCells]
    apply List.ext_getElem
    · simp
    · intro i h1 h2
      simp at h1 h2
      simp [Nat.mod_eq_of_lt h2, getElem!_pos z.cells i h2]
  have hst := run_storeCells_cells (P := P) b o zs 0 w (by simpa using hc) (by simpa using hf) h1
  simp only [Nat.add_zero] at hst
  simp [Builtin.clear_, run_underlying ht, hv, hzc, hst]
/-- An element less: what stood behind it comes up, and nothing is left at the end. -/
theorem del_cells {α : Type} {f : α → List Value} {k : Nat} (hf : ∀ x, (f x).length = k) (l : List α) (i : Nat) (hi : i < l.length) (zs : List Value) :
    let a := (recs f l).take (i * k) ++ recs f (l.drop (i + 1)) ++ (recs f l).drop (i * k + (recs f (l.drop (i + 1))).length)
    (a.take ((l.length - 1) * k) ++ zs ++ a.drop ((l.length - 1) * k + zs.length)).take ((l.length - 1) * k) = recs f (l.eraseIdx i) := by
  intro a
  have hl := recs_length hf l
  have hd := recs_length hf (l.drop (i + 1))
  rw [List.length_drop] at hd
  have e1 : (recs f l).take (i * k) = recs f (l.take i) := by
    conv => lhs; rw [← List.take_append_drop i l, recs_append]
    rw [List.take_left' (by rw [recs_length hf, List.length_take]; congr 1; omega)]
  have hal : (recs f (l.take i) ++ recs f (l.drop (i + 1))).length = (l.length - 1) * k := by
    rw [List.length_append, recs_length hf, hd, List.length_take, ← Nat.add_mul]
    congr 1; omega
  have ha : a = recs f (l.take i) ++ recs f (l.drop (i + 1)) ++ (recs f l).drop (i * k + (recs f (l.drop (i + 1))).length) := by show _ ++ _ ++ _ = _; rw [e1]
  have hta : a.take ((l.length - 1) * k) = recs f (l.take i) ++ recs f (l.drop (i + 1)) := by rw [ha, List.take_left' hal]
  rw [hta, List.append_assoc, List.take_left' hal, ← recs_append, List.eraseIdx_eq_take_drop_succ]
/-- append to a row of the call's own, as one step of a region that draws its order. -/
theorem step_append_row {P : Program} {ops : Array Oper} {o : Oper} {a : Act} {w : World} {K : Act → World → Prop} {Q : Exit → Act → World → Prop} {E : Prop}
    (hg : o.guard = none) (s x : Operand) (t : TypeId) (hop : o.op = Op.call { callee := Callee.builtin Builtin.append, args := #[s, x], argTypes := #[t, t] })
    (base : Nat) (e : TypeId) (i : TypeInfo) (z : Value) (size bytes : Nat) (h1 : P.underlying t = some (.slice e)) (h2 : P.info? e = some i) (h3 : i.zero = some z) (h4 : i.size = size) (h5 : i.bytes = bytes) (h6 : z.cells.size = size) (h7 : 0 < size)
    (v : Value) (n : Nat) (xs : List Value) (hs : a.eval s = v) (hown : w.ownsRow base e size v n xs)
    (ad : Addr) (m c : Nat) (news : List Value) (hx : a.eval x = .slice (some ad) m c) (hn : news.length = m * size) (hc : ∀ j u, news[j]? = some u → w.cell? (ad.add j) = some u) (h1c : ∀ u ∈ news, u.oneCell' = true)
    (b1 : n + m ≤ maxLen) (b2 : (n + m) * bytes ≤ 140737488355328) (hb : base ≤ w.heap.size)
    (hK : ∀ v' w', w'.ownsRow base e size v' (n + m) (xs ++ news) → w.grownBy w' v.ownBlock → K (a.put o.dst v') w') :
    if Region.wanted o (yielded ops a.tmps) = true then Oper.wp P o a w K Q else E := by
  have hw : Region.wanted o (yielded ops a.tmps) = true := by simp [Region.wanted, hg]
  rw [if_pos hw]
  obtain ⟨v', w', hrun, r1, r2, _⟩ := run_append_own (P := P) w base t o.type e i z size bytes h1 h2 h3 h4 h5 h6 h7 v n xs hown ad m c news hn hc h1c b1 b2 hb
  unfold Oper.wp
  simp [execOp, hop, resolve, invoke, builtin, hs, hx, hrun, Result.andThen]
  exact hK v' w' r1 r2
theorem own_cells0 {w : World} {base : Nat} {e : TypeId} {size g n cap : Nat} {xs : List Value} (h : w.ownsRow base e size (.slice (some ⟨g, 0, none⟩) n cap) n xs) : Cells w g 0 xs := by
  intro j v hv
  rw [Nat.zero_add]
  exact (h.cellAt j (by rw [← h.1]; exact (List.getElem?_eq_some_iff.1 hv).1)).trans hv
theorem own_blk {w : World} {base : Nat} {e : TypeId} {size g n cap : Nat} {xs : List Value} (h : w.ownsRow base e size (.slice (some ⟨g, 0, none⟩) n cap) n xs) : ∃ cs, w.heap[g]? = some (.cells cs e (0, 0)) := by
  rcases h.2 with ⟨hv, _⟩ | ⟨g', cap', cur, hv, hb, hh, _⟩
  · injection hv with h1; cases h1
  · injection hv with h1
    injection h1 with h1
    injection h1 with h1
    subst h1
    exact ⟨cur, hh⟩
/-- How long a slice is. -/
def slLen : Value → Nat
  | .slice _ n _ => n
  | _ => 0
end Go.Proofs.YtnnncddjcdjhoaaGreatDoor

/- slices.Delete of one of what a device remembers. -/
namespace Go.Proofs.YtnnncddjcdjhoaaGreatDoor
open Go.RowKit

set_option maxRecDepth 100000 in
set_option maxHeartbeats 4000000 in
theorem del_any (L : List Nat) (k m g cap base : Nat) (w : World) (hn : L.length = k + m + 1) (hs : k + m + 1 ≤ 1000) (hown : w.ownsRow base 95 2 (.slice (some ⟨g, 0, none⟩) (k + m + 1) cap) (k + m + 1) (recs dnC L)) :
    Calls Tryz.prog 55 #[.slice (some ⟨g, 0, none⟩) (k + m + 1) cap, .int .i64 (k : Int), .int .i64 ((k : Int) + 1)] w fun e w' => e = .returned (.slice (some ⟨g, 0, none⟩) (k + m) cap) ∧
      w'.ownsRow base 95 2 (.slice (some ⟨g, 0, none⟩) (k + m) cap) (k + m) (recs dnC (L.eraseIdx k)) ∧ w.grownBy w' (some g) := by
  obtain ⟨i0, hi, hz0, hz1, hz2⟩ := info_parts Tryz.infoDn
  have hcap := own_cap hown
  have hcm : cap ≤ 9223372036854775807 := by
    rcases hown.2 with ⟨hv, _⟩ | ⟨g', cap', cur, hv, _, _, _, h, _⟩
    · injection hv with h1; cases h1
    · injection hv with _ _ h3; subst h3; simpa [maxLen] using h
  obtain ⟨news, enews⟩ : ∃ news, news = recs dnC (L.drop (k + 1)) := ⟨_, rfl⟩
  have hlen : news.length = m * 2 := by rw [enews, recs_length dnC_len, List.length_drop]; congr 1; omega
  have hxl : (recs dnC L).length = (k + m + 1) * 2 := by rw [recs_length dnC_len, hn]
  have hownD : w.drew.ownsRow base 95 2 (.slice (some ⟨g, 0, none⟩) (k + m + 1) cap) (k + m + 1) (recs dnC L) := hown
  have hcell : ∀ j, j < (k + m + 1) * 2 → ∃ u, w.drew.cell? ⟨g, j, none⟩ = some u ∧ (recs dnC L)[j]? = some u := by
    intro j hj
    obtain ⟨u, hu⟩ : ∃ u, (recs dnC L)[j]? = some u := ⟨_, List.getElem?_eq_getElem (by rw [hxl]; exact hj)⟩
    exact ⟨u, (hownD.cellAt j hj).trans hu, hu⟩
  obtain ⟨A, hA, hsrc⟩ : ∃ A : Addr, (if cap = k + 1 then (some (⟨g, 0, none⟩ : Addr)) else some ⟨g, (k + 1) * 2, none⟩) = some A ∧ Hid (∀ t u, news[t]? = some u → w.drew.cell? (A.add t) = some u) := by
    by_cases h : cap = k + 1
    · refine ⟨⟨g, 0, none⟩, by simp [h], fun t u hu => ?_⟩
      have h0 : news.length = 0 := by rw [hlen]; omega
      rw [List.length_eq_zero_iff.1 h0] at hu
      simp at hu
    · refine ⟨⟨g, (k + 1) * 2, none⟩, by simp [h], fun t u hu => ?_⟩
      have ht : t < m * 2 := by have := (List.getElem?_eq_some_iff.1 hu).1; rwa [hlen] at this
      rw [Addr.add_lit]
      rw [enews, ← recs_drop dnC_len, List.getElem?_drop] at hu
      exact (hownD.cellAt _ (by omega)).trans hu
  have s1 : Hid (news.length = m * 2) := hlen
  have s2 : Hid (∀ u ∈ news, u.oneCell' = true) := by rw [enews]; exact recs_one dnC_one _
  have s3 : Hid (∀ t, t < news.length → (w.drew.cell? ⟨g, 0 + k * 2 + t, none⟩).isSome = true ∧ w.drew.frozen? ⟨g, 0 + k * 2 + t, none⟩ = false) := by
    intro t ht
    rw [hlen] at ht
    obtain ⟨u, hu, _⟩ := hcell (0 + k * 2 + t) (by omega)
    exact ⟨by rw [hu]; rfl, hownD.frozenAt _⟩
  obtain ⟨W1, hW1⟩ : ∃ W1, W1 = w.drew.setCells g (0 + k * 2) news := ⟨_, rfl⟩
  obtain ⟨o1, g1⟩ := own_setCells news (0 + k * 2) w.drew (recs dnC L) hownD (by rw [hlen, hxl]; omega)
  rw [← hW1] at o1 g1
  obtain ⟨xs1, exs1⟩ : ∃ xs1, xs1 = (recs dnC L).take (0 + k * 2) ++ news ++ (recs dnC L).drop (0 + k * 2 + news.length) := ⟨_, rfl⟩
  rw [← exs1] at o1
  have hx1 : xs1.length = (k + m + 1) * 2 := o1.1
  obtain ⟨o2, g2⟩ := own_setCells [.string ⟨#[]⟩, .int .i64 0] ((k + m) * 2) W1 xs1 o1 (by rw [hx1]; simp; omega)
  have hcl : ∀ ty c, (Builtin.clear_ #[84] ty #[.slice (some ⟨g, (k + m) * 2, none⟩) 1 c]).run Tryz.prog W1 = .ok (.tuple #[]) (W1.setCells g ((k + m) * 2) [.string ⟨#[]⟩, .int .i64 0]) := by
    intro ty c
    refine run_clear_one W1 84 95 ty _ [.string ⟨#[]⟩, .int .i64 0] Tryz.underlying84 Tryz.zeroValue95 rfl ?_ g ((k + m) * 2) c ?_ ?_
    · intro u hu; simp at hu; rcases hu with rfl | rfl <;> rfl
    · intro j hj
      simp at hj
      rw [o1.cellAt _ (by omega), List.getElem?_eq_getElem (by rw [hx1]; omega)]
      rfl
    · intro j _
      exact o1.frozenAt _
  have hfin : Hid ((W1.setCells g ((k + m) * 2) [.string ⟨#[]⟩, .int .i64 0]).ownsRow base 95 2 (.slice (some ⟨g, 0, none⟩) (k + m) cap) (k + m) (recs dnC (L.eraseIdx k)) ∧ w.grownBy (W1.setCells g ((k + m) * 2) [.string ⟨#[]⟩, .int .i64 0]) (some g)) := by
    refine ⟨?_, ?_⟩
    · have h3 := own_shrink o2 (k + m) (by omega)
      have h4 := del_cells dnC_len L k (by omega) [.string ⟨#[]⟩, .int .i64 0]
      simp only [hn, show k + m + 1 - 1 = k + m by omega] at h4
      rw [Nat.zero_add] at exs1
      rw [← enews, ← exs1] at h4
      rw [h4] at h3
      exact h3
    · exact grown_trans ⟨g1.os, g1.tape, g1.output, g1.size, g1.block⟩ g2
  have hW : Hid (W1 = w.drew.setCells g (0 + k * 2) news) := hW1
  have hkc : k ≤ cap := by omega
  have hkc1 : k + 1 ≤ cap := by omega
  have hmc : k + m + 1 ≤ cap := by omega
  have i1 : ((k : Int) + 1).toNat = k + 1 := by omega
  have i2 : ¬ (k : Int) = (k : Int) + 1 := by omega
  have i3 : ((k + m + 1 : Nat) : Int) = (k : Int) + (m : Int) + 1 := by omega
  have i4 : (0 : Int) ≤ (k : Int) + 1 := by omega
  have i5 : (k : Int) ≤ (k : Int) + (m : Int) := by omega
  clear hW1 o1 g1 o2 g2 hcell hownD hown hxl hlen enews hx1 exs1
  go_enter Tryz.func55, Tryz.ntmps55
  go_wp2_with (fail)
  go_region_law (refine step_append_room rfl (.tmp 22) (.tmp 25) 84 rfl 95 i0 2 Tryz.underlying84 hi hz1 g 0 k cap (by simp [Act.eval, Act.put]) A m (cap - (k + 1)) news (by simp [Act.eval, Act.put]) s1.out hsrc.out s2.out (by omega) s3.out ?_; rw [← hW.out])
  go_wp2_with (fail)
  go_ret
  exact ⟨rfl, hfin.out⟩
end Go.Proofs.YtnnncddjcdjhoaaGreatDoor

/- (*command.Doer).Do of the law's letters by its contract. -/
namespace Go.Proofs.YtnnncddjcdjhoaaGreatDoor
open Go.RowKit

/-- A slice lies in memory, from block q on, and not in block g. -/
def LiesX (w : World) (q g : Nat) (A : Option Addr) (n c : Nat) (xs : List Value) : Prop := (A = none ∧ n = 0 ∧ c = 0 ∧ xs = []) ∨ ∃ b o, A = some ⟨b, o, none⟩ ∧ b < w.heap.size ∧ (q ≤ b ∧ b ≠ g ∧ ∃ cs, w.heap[b]? = some (.cells cs 95 (0, 0))) ∧ Cells w b o xs
theorem LiesX.lies {w : World} {q g : Nat} {A : Option Addr} {n c : Nat} {xs : List Value} (h : LiesX w q g A n c xs) : Lies w A n c xs := by
  rcases h with h | ⟨b, o, e, hlt, _, hc⟩
  · exact .inl h
  · exact .inr ⟨b, o, e, hlt, hc⟩
theorem LiesX.row {w w' : World} {q g : Nat} {A : Option Addr} {n c : Nat} {xs : List Value} {row : Option Nat} (h : LiesX w q g A n c xs) (hg : w.grownBy w' row) (hr : ∀ p, row = some p → p < q ∨ p = g ∨ ∀ cs, w.heap[p]? ≠ some (.cells cs 95 (0, 0))) : LiesX w' q g A n c xs := by
  rcases h with h | ⟨b, o, e, hlt, ⟨h1, h2, cs, h3⟩, hc⟩
  · exact .inl h
  · have hne : some b ≠ row := by
      intro e
      rcases hr b e.symm with h | h | h
      · omega
      · exact h2 h
      · exact h cs h3
    exact .inr ⟨b, o, e, by have := hg.size; omega, ⟨h1, h2, cs, (hg.block b hlt hne).trans h3⟩, hc.keep (hg.block b hlt hne)⟩
theorem LiesX.grown {w w' : World} {q g : Nat} {A : Option Addr} {n c : Nat} {xs : List Value} (h : LiesX w q g A n c xs) (hg : w.grownBy w' (some g)) : LiesX w' q g A n c xs := h.row hg (fun _ e => .inr (.inl (Option.some.inj e).symm))
/-- Block g is a device's memory that holds the letters L. -/
structure Doer (w : World) (q g r : Nat) (L : List Nat) (t : Int) : Prop where
  blk : ∃ A c, w.heap[g]? = some (.cells #[.int .i64 (r : Int), .slice A L.length c, .int .i64 t] 86 (0, 0)) ∧ LiesX w q g A L.length c (recs dnC L)
  room : L.length ≤ r
  five : ∀ j ∈ L, j < 5
  t0 : 0 ≤ t
  qg : q ≤ g
theorem Doer.row {w w' : World} {q g r : Nat} {L : List Nat} {t : Int} {row : Option Nat} (h : Doer w q g r L t) (hb : w.grownBy w' row) (hr : ∀ p, row = some p → p ≠ g ∧ (p < q ∨ ∀ cs, w.heap[p]? ≠ some (.cells cs 95 (0, 0)))) : Doer w' q g r L t := by
  obtain ⟨⟨A, c, h1, h2⟩, h3, h4, h5, h6⟩ := h
  have hg := (Array.getElem?_eq_some_iff.1 h1).1
  refine ⟨⟨A, c, (hb.block g hg (fun e => (hr g e.symm).1 rfl)).trans h1, h2.row hb (fun p e => (hr p e).2.imp id .inr)⟩, h3, h4, h5, h6⟩
theorem Doer.grown {w w' : World} {p q g r : Nat} {L : List Nat} {t : Int} (h : Doer w q g r L t) (hb : w.grownBy w' (some p)) (hp : p < q) : Doer w' q g r L t :=
  h.row hb (fun p' e => by have := h.qg; obtain rfl := Option.some.inj e; exact ⟨by omega, .inl hp⟩)
theorem Doer.keep {w w' : World} {q g r : Nat} {L : List Nat} {t : Int} (h : Doer w q g r L t) (hb : Below w.heap.size w w') : Doer w' q g r L t :=
  h.row (row := none) ⟨hb.os, hb.tape, hb.output, hb.size, fun i hi _ => hb.block i hi⟩ (fun p e => by cases e)
/-- What Do answers. -/
def DoAns (r : Nat) (L N : List Nat) (i : Nat) (at_ : Int) (ok : Bool) (er : Int) : Prop := (ok = true ∧ er = 0 ∧ at_ < ltU i ∧ i ∉ L ∧ Mem L N i at_ ∧ (N = L ++ [i] ∨ r ≤ L.length)) ∨ (ok = false ∧ (er = 0 ∨ er = 12) ∧ N = L ∧ (ltU i ≤ at_ ∨ i ∈ L ∨ r ≤ L.length))
/-- What holds behind Do. -/
def DoPost (w : World) (q g r : Nat) (L : List Nat) (i : Nat) (at_ : Int) (e : Ending) (w' : World) : Prop :=
  ∃ (ok : Bool) (er : Int) (N : List Nat) (t' : Int), e = .returned (.tuple #[.bool ok, .int .i64 er]) ∧ Doer w' q g r N t' ∧ t' ≤ at_ ∧ w.grownBy w' (some g) ∧ DoAns r L N i at_ ok er
theorem DoPost.of {w w' : World} {q g r : Nat} {L : List Nat} {i : Nat} {at_ : Int} {e : Ending} (ok : Bool) (er : Int) (N : List Nat) (t' : Int) (h1 : e = .returned (.tuple #[.bool ok, .int .i64 er])) (h2 : Doer w' q g r N t') (h3 : t' ≤ at_) (h4 : w.grownBy w' (some g)) (h5 : DoAns r L N i at_ ok er) :
    DoPost w q g r L i at_ e w' := ⟨ok, er, N, t', h1, h2, h3, h4, h5⟩
theorem below_grown_g {w w' : World} (h : Below w.heap.size w w') (g : Nat) : w.grownBy w' (some g) := ⟨h.os, h.tape, h.output, h.size, fun i hi _ => h.block i hi⟩
theorem set_blk {w : World} {g : Nat} {cs : Array Value} {t : TypeId} (h : w.heap[g]? = some (.cells cs t (0, 0))) (j : Nat) (v : Value) : (w.setCell ⟨g, j, none⟩ v).heap[g]? = some (.cells (cs.setIfInBounds j v) t (0, 0)) := heap_setCell_same w g j cs t v h

set_option maxRecDepth 100000 in
set_option maxHeartbeats 8000000 in
theorem do_any (L : List Nat) (i r q g : Nat) (t at_ : Int) (w : World) (hd : Doer w q g r L t) (hr4 : r ≤ 5) (hi : i < 5) (hta : t ≤ at_) (hat : at_ ≤ 1000000) :
    Calls Tryz.prog 15 #[.pointer (some ⟨g, 0, none⟩), ltV i, .int .i64 at_] w fun e w' => DoPost w q g r L i at_ e w' := by
  obtain ⟨i0, hi0, hz0, hz1, hz2⟩ := info_parts Tryz.infoDn
  have HD := Lib.hid hd
  have ht0 := hd.t0
  have hroom := hd.room
  have H5 := Lib.hid hd.five
  have hqg := hd.qg
  obtain ⟨⟨A, c, hg, hA⟩, _, _, _, _⟩ := hd
  have hglt := (Array.getElem?_eq_some_iff.1 hg).1
  have hu := ltU_range hi
  have HI := Lib.hid hi
  have HLN := Lib.hid (show ∃ n, n = L.length from ⟨_, rfl⟩)
  obtain ⟨n, en⟩ := HLN.out
  have HN := Lib.hid en.symm
  rw [← en] at hg hA hroom
  have HGB := Lib.hid hg
  have HA := Lib.hid hA
  obtain ⟨u, eu⟩ : ∃ u, u = ltU i := ⟨_, rfl⟩
  obtain ⟨id, eid⟩ : ∃ id, id = ltId i := ⟨_, rfl⟩
  have HU := Lib.hid (And.intro eu eid)
  have HCK := Lib.hid (fun V => checkLetter_i i hi V)
  unfold ltV at HCK ⊢
  rw [← eu, ← eid] at HCK ⊢
  rw [← eu] at hu
  clear hA hg hi en HLN eu eid
  go_enter Tryz.func15, Tryz.ntmps15
  go_wp2_with (fail)
  generalize hW : w.alloc (.cells #[.string id, .string ⟨#[]⟩, .string ⟨#[]⟩, .int .i64 0, .int .i64 0, .int .i64 u] 35) = W
  have hWs : W.heap.size = w.heap.size + 1 := by rw [← hW]; simp
  have hBW : Below w.heap.size w W := hW ▸ (Below.refl _ _).alloc (Nat.le_refl _) _
  have HP := Lib.hid (show W.heap[w.heap.size]? = some (.cells #[.string id, .string ⟨#[]⟩, .string ⟨#[]⟩, .int .i64 0, .int .i64 0, .int .i64 u] 35) by rw [← hW]; exact heap_new w _)
  have HBW := Lib.hid hBW
  clear hW hBW
  refine (HCK.out W).mono ?_
  rintro e w1 ⟨rfl, hb1⟩
  have hs1 := hb1.size
  have HP1 := Lib.hid ((hb1.block w.heap.size (by omega)).trans HP.out)
  have HB1 := Lib.hid (HBW.out.trans (hb1.mono (by omega)))
  have hg1 := (HB1.out.block g hglt).trans HGB.out
  have g2 := cell_of_blk (j := 2) hg1 rfl
  have g1 := cell_of_blk (j := 1) hg1 rfl
  have p5 := cell_of_blk (j := 5) HP1.out rfl
  have p0 := cell_of_blk (j := 0) HP1.out rfl
  have hp1 : w.heap.size < w1.heap.size := by omega
  have hg1lt : g < w1.heap.size := by omega
  have hfr : ∀ j, w1.frozen? ⟨g, j, none⟩ = false := by intro j; simp [World.frozen?, hg1]
  have f2 := hfr 2
  have f1 := hfr 1
  have hnlt : ¬ at_ < t := by omega
  clear hb1 hfr HBW HP
  have HSTOP := Lib.hid (show Doer (w1.setCell ⟨g, 2, none⟩ (.int .i64 at_)) q g r L at_ ∧ w.grownBy (w1.setCell ⟨g, 2, none⟩ (.int .i64 at_)) (some g) by
    have hgr := grown_set (g := g) (below_grown_g HB1.out g) (q := ⟨g, 2, none⟩) (.inl rfl) (.int .i64 at_)
    refine ⟨⟨⟨A, c, ?_, ?_⟩, by rw [HN.out]; exact hroom, H5.out, by omega, hqg⟩, hgr⟩
    · rw [HN.out]
      have := set_blk hg1 2 (.int .i64 at_)
      simpa using this
    · rw [HN.out]; exact HA.out.grown hgr)
  have HG1 := Lib.hid hg1
  clear hg1
  by_cases hua : u ≤ at_
  · go_wp2_with (go_at_call 51; refine (moment_yes _ _ (by omega) (by omega)).mono ?_; rintro e w' ⟨rfl, rfl⟩)
    go_ret2
    exact DoPost.of false 0 L at_ rfl HSTOP.out.1 (Int.le_refl _) HSTOP.out.2 (.inr ⟨rfl, .inl rfl, rfl, .inl (by rw [← HU.out.1]; exact hua)⟩)
  · have HL1 := Lib.hid (HA.out.lies.below HB1.out)
    have HHAS := Lib.hid (hasD_any L i w.heap.size n c A w1 HN.out (by omega) HL1.out (HU.out.2 ▸ p0) HI.out H5.out)
    have HST1 := Lib.hid p0
    go_wp2_with (go_at_call 51; refine (moment_yes _ _ (by omega) (by omega)).mono ?_; rintro e w' ⟨rfl, rfl⟩)
    refine HHAS.out.mono ?_
    rintro e w2 ⟨rfl, hb2⟩
    have hs2 := hb2.size
    have HP2 := Lib.hid ((hb2.block w.heap.size (by omega)).trans HP1.out)
    have HB2 := Lib.hid (HB1.out.trans (hb2.mono (by omega)))
    have hg2 := (hb2.block g (by omega)).trans HG1.out
    have HG2 := Lib.hid hg2
    have k2 := cell_of_blk (j := 2) hg2 rfl
    have k1 := cell_of_blk (j := 1) hg2 rfl
    have q5 := cell_of_blk (j := 5) HP2.out rfl
    have q0 := cell_of_blk (j := 0) HP2.out rfl
    have hp2 : w.heap.size < w2.heap.size := by omega
    have hg2lt : g < w2.heap.size := by omega
    have hfr : ∀ j, w2.frozen? ⟨g, j, none⟩ = false := by intro j; simp [World.frozen?, hg2]
    have f2' := hfr 2
    have HLX2 := Lib.hid (HA.out.grown (below_grown_g HB2.out g))
    clear hb2 hfr hg2 g1 g2 p0 p5 f1 f2 HHAS
    by_cases him : i ∈ L
    · have HSTOP2 := Lib.hid (show Doer (w2.setCell ⟨g, 2, none⟩ (.int .i64 at_)) q g r L at_ ∧ w.grownBy (w2.setCell ⟨g, 2, none⟩ (.int .i64 at_)) (some g) by
        have hgr := grown_set (g := g) (below_grown_g HB2.out g) (q := ⟨g, 2, none⟩) (.inl rfl) (.int .i64 at_)
        refine ⟨⟨⟨A, c, ?_, ?_⟩, by rw [HN.out]; exact hroom, H5.out, by omega, hqg⟩, hgr⟩
        · rw [HN.out]
          have := set_blk HG2.out 2 (.int .i64 at_)
          simpa using this
        · rw [HN.out]; exact HA.out.grown hgr)
      rw [decide_eq_true him]
      have HIMT := Lib.hid him
      clear him HSTOP
      go_wp2_with (fail)
      go_ret2
      exact DoPost.of false 0 L at_ rfl HSTOP2.out.1 (Int.le_refl _) HSTOP2.out.2 (.inr ⟨rfl, .inl rfl, rfl, .inr (.inl HIMT.out)⟩)
    · rw [decide_eq_false him]
      have HIM := Lib.hid him
      clear him HSTOP
      have HCL := Lib.hid (fun (V : World) (hV : Below w2.heap.size w2 V) => show Calls Tryz.prog 54 #[.slice A n c] V fun e w3 => ∃ v3, e = .returned v3 ∧ w3.ownsRow (w.heap.size + 1) 95 2 v3 n (recs dnC L) ∧ (∀ k, v3.ownBlock = some k → w2.heap.size ≤ k) ∧ Below w2.heap.size w2 w3 ∧ (∀ b, b < V.heap.size → w3.heap[b]? = V.heap[b]?) from
        (cloneD_any L n c A V HN.out (by omega) (HLX2.out.lies.below hV)).mono fun e w3 ⟨v3, h1, h2, h3⟩ => ⟨v3, h1, own_mono h2 (by have := hV.size; omega), fun k hk => by have := hV.size; have := (h2.lt k hk).1; omega, hV.trans (h3.mono hV.size), h3.block⟩)
      have HSL := Lib.hid (fun (V V' : World) (hV : Below w2.heap.size w2 V) (hV' : Below V.heap.size V V') => show V'.cell? ⟨g, 1, none⟩ = some (.slice A n c) ∧ V'.cell? ⟨w.heap.size, 0, none⟩ = some (.string id) ∧ V'.cell? ⟨w.heap.size, 5, none⟩ = some (.int .i64 u) by
        have h := hV.trans (hV'.mono hV.size)
        exact ⟨(h.cell (p := ⟨g, 1, none⟩) hg2lt).trans k1, (h.cell (p := ⟨w.heap.size, 0, none⟩) hp2).trans q0, (h.cell (p := ⟨w.heap.size, 5, none⟩) hp2).trans q5⟩)
      have HSA := Lib.hid (fun (w3 w' : World) (v3 : Value) (hb3 : Below w2.heap.size w2 w3) (hlo3 : ∀ k, v3.ownBlock = some k → w2.heap.size ≤ k) (h2 : w3.grownBy w' v3.ownBlock) => show Below w2.heap.size w2 w' from hb3.grown h2 hb3.size hlo3)
      go_upto_region 11 with (fail)
      go_cut [9] (fun s9 wx => ∃ A9 c9, s9 = .slice A9 (n + 1) c9 ∧ wx.ownsRow (w.heap.size + 1) 95 2 (.slice A9 (n + 1) c9) (n + 1) (recs dnC (L ++ [i])) ∧ Below w2.heap.size w2 wx)
      case first =>
        have HNEWS : ∀ (V : World), Cells (V.alloc (.cells #[.string id, .int .i64 u] 95)) V.heap.size 0 [.string id, .int .i64 u] := fun V => Cells.new V _ _ _ _ rfl
        have HNW := Lib.hid HNEWS
        clear HNEWS
        go_region_held3 (fun w' => w'.cell? ⟨g, 1, none⟩ = some (.slice A n c) ∧ w'.cell? ⟨w.heap.size, 0, none⟩ = some (.string id) ∧ w'.cell? ⟨w.heap.size, 5, none⟩ = some (.int .i64 u))
          (first | go_keep | (exact hS))
          (first
            | (go_at_call 54; refine (HCL.out _ (by first | with_reducible exact (Below.refl _ _).drew | with_reducible exact ((Below.refl _ _).alloc (Nat.le_refl _) _).drew | with_reducible exact ((Below.refl _ _).drew).alloc (Nat.le_refl _) _)).mono ?_; rintro e w3 ⟨v3, rfl, ho3, hlo3, hb3, hk3⟩; have hS := HSL.out w2 w3 (Below.refl _ _) hb3)
            | (refine step_append_row rfl (.tmp 49) (.tmp 55) 84 rfl (w.heap.size + 1) 95 i0 _ 2 24 Tryz.underlying84 hi0 hz0 hz1 hz2 rfl (by decide) v3 n (recs dnC L) (by simp [Act.eval]) (ho3.alloc _) ⟨w3.heap.size, 0, none⟩ 1 1 [.string id, .int .i64 u] (by simp [Act.eval]) rfl (cells_add (HNW.out _)) (by intro x hx; simp at hx; rcases hx with rfl | rfl <;> rfl) (by unfold maxLen; omega) (by omega) (by have h : w2.heap.size ≤ w3.heap.size := hb3.size; simp; omega) ?_; intro v' w' h1 h2; have hB' := HSA.out _ w' v3 (hb3.alloc hb3.size _) hlo3 h2; have hS := HSL.out w2 w' (Below.refl _ _) hB'; obtain ⟨A9, c9, hv⟩ := own_slice h1; subst hv)
            | (refine step_append_row rfl (.tmp 49) (.tmp 55) 84 rfl (w.heap.size + 1) 95 i0 _ 2 24 Tryz.underlying84 hi0 hz0 hz1 hz2 rfl (by decide) v3 n (recs dnC L) (by simp [Act.eval]) ho3 ⟨w2.heap.size, 0, none⟩ 1 1 [.string id, .int .i64 u] (by simp [Act.eval]) rfl (cells_add ((HNW.out w2).keep (hk3 w2.heap.size (by simp)))) (by intro x hx; simp at hx; rcases hx with rfl | rfl <;> rfl) (by unfold maxLen; omega) (by omega) (by have h : w2.heap.size ≤ w3.heap.size := hb3.size; omega) ?_; intro v' w' h1 h2; have hB' := HSA.out _ w' v3 hb3 hlo3 h2; have hS := HSL.out w2 w' (Below.refl _ _) hB'; obtain ⟨A9, c9, hv⟩ := own_slice h1; subst hv))
        all_goals
          go_wp2_with (fail)
          go_meet
          exact ⟨_, _, rfl, by rw [recs_snoc]; unfold dnC; rw [← HU.out.1, ← HU.out.2]; exact h1, hB'⟩
      case rest =>
        obtain ⟨A9, c9, rfl, ho9, hb9⟩ := hcut
        obtain ⟨w4, rfl⟩ : ∃ w4 : World, w4 = wc := ⟨_, rfl⟩
        have hs4 := hb9.size
        have HO9 := Lib.hid ho9
        have HB4 := Lib.hid (HB2.out.trans (hb9.mono (by omega)))
        have hg4 := (hb9.block g hg2lt).trans HG2.out
        have HG4 := Lib.hid hg4
        have hlen := HN.out
        have HSTAY := Lib.hid (fun (V : World) (hV : Below w4.heap.size w4 V) => show Doer V q g r L t ∧ w.grownBy V (some g) from
          ⟨HD.out.keep (HB4.out.trans (hV.mono (by have := HB4.out.size; omega))), below_grown_g (HB4.out.trans (hV.mono (by have := HB4.out.size; omega))) g⟩)
        clear ho9 hb9 hg4 HCL HSL HSA k1 k2 q0 q5 f2'
        go_wp2_with (fail)
        go_loopw [9] (fun s9 wr => ∃ (N : List Nat) (A9 : Option Addr) (c9 : Nat), s9 = .slice A9 N.length c9 ∧ wr.ownsRow (w.heap.size + 1) 95 2 (.slice A9 N.length c9) N.length (recs dnC N) ∧ Mem L N i at_ ∧ Hid (N = L ++ [i] ∨ r ≤ L.length) ∧ N.length ≤ 6 ∧ wr.heap[g]? = some (.cells #[.int .i64 (r : Int), .slice A n c, .int .i64 t] 86 (0, 0)) ∧ w4.heap.size ≤ wr.heap.size ∧ Below w.heap.size w wr) (fun s9 _ => slLen s9)
        case atStart => exact ⟨L ++ [i], A9, c9, by simp [HN.out], by have := HO9.out; simpa [HN.out] using this, Mem.start H5.out HI.out, Lib.hid (.inl rfl), by simp; omega, HG4.out, Nat.le_refl _, HB4.out⟩
        case round =>
          obtain ⟨N, A9, c9, rfl, hown, hmem, HW, hN5, hgr, hszr, hblr⟩ := hrel
          have HMEM := Lib.hid hmem
          have HOWN := Lib.hid hown
          have HBLR := Lib.hid hblr
          have HGR := Lib.hid hgr
          have hgrlt : g < wr.heap.size := by omega
          have r0 := cell_of_blk (j := 0) hgr rfl
          have r1 := cell_of_blk (j := 1) hgr rfl
          have r2 := cell_of_blk (j := 2) hgr rfl
          obtain ⟨M, eM⟩ : ∃ M, M = N.length := ⟨_, rfl⟩
          rw [← eM] at hN5 hown ⊢
          have HM := Lib.hid eM.symm
          clear eM
          by_cases hle : M ≤ r
          · have hnl : ¬ (r : Int) < (M : Int) := by omega
            have hfr : ∀ j, wr.frozen? ⟨g, j, none⟩ = false := by intro j; simp [World.frozen?, hgr]
            have f1 := hfr 1
            have f2 := hfr 2
            have HFIN := Lib.hid (show Doer ((wr.setCell ⟨g, 1, none⟩ (.slice A9 M c9)).setCell ⟨g, 2, none⟩ (.int .i64 at_)) q g r N at_ ∧ w.grownBy ((wr.setCell ⟨g, 1, none⟩ (.slice A9 M c9)).setCell ⟨g, 2, none⟩ (.int .i64 at_)) (some g) by
              have h1 := set_blk (set_blk hgr 1 (.slice A9 M c9)) 2 (.int .i64 at_)
              have hgw := grown_set (g := g) (grown_set (g := g) (below_grown_g HBLR.out g) (q := ⟨g, 1, none⟩) (.inl rfl) (.slice A9 M c9)) (q := ⟨g, 2, none⟩) (.inl rfl) (.int .i64 at_)
              have h2 := grown_set (g := g) (grown_set (g := g) (grown_refl wr (some g)) (q := ⟨g, 1, none⟩) (.inl rfl) (.slice A9 M c9)) (q := ⟨g, 2, none⟩) (.inl rfl) (.int .i64 at_)
              refine ⟨⟨⟨A9, c9, ?_, ?_⟩, by rw [HM.out]; exact hle, HMEM.out.five, by omega, hqg⟩, hgw⟩
              · rw [HM.out]
                simpa using h1
              · rw [HM.out]
                refine LiesX.grown ?_ h2
                rcases own_two hown with ⟨rfl, h3, rfl⟩ | ⟨g9, rfl, h4, h5⟩
                · exact .inl ⟨rfl, h3, rfl, List.eq_nil_of_length_eq_zero (by rw [hown.1, h3])⟩
                · exact .inr ⟨g9, 0, rfl, h5, ⟨by omega, by omega, own_blk hown⟩, own_cells0 hown⟩)
            clear hmem hown hblr hgr hfr
            go_wp2_with (fail)
            go_ret2
            exact DoPost.of true 0 N at_ rfl HFIN.out.1 (Int.le_refl _) HFIN.out.2 (.inl ⟨rfl, rfl, by rw [← HU.out.1]; omega, HIM.out, HMEM.out, HW.out⟩)
          · have HRL := Lib.hid (show r ≤ L.length from by
              rcases HW.out with h | h
              · have h2 := congrArg List.length h
                simp at h2
                have := HM.out
                omega
              · exact h)
            have hnl : (r : Int) < (M : Int) := by omega
            have hM0 : 0 < M := by omega
            obtain ⟨g9, rfl, hg9, hg9lt⟩ : ∃ g9, A9 = some ⟨g9, 0, none⟩ ∧ w.heap.size + 1 ≤ g9 ∧ g9 < wr.heap.size := by
              rcases own_two hown with ⟨_, h3, _⟩ | h
              · omega
              · exact h
            have HC := Lib.hid (own_cells0 hown)
            have HSR := Lib.hid (fun (V : World) (hV : Below wr.heap.size wr V) => show Doer V q g r L t ∧ w.grownBy V (some g) ∧ V.ownsRow (w.heap.size + 1) 95 2 (.slice (some ⟨g9, 0, none⟩) M c9) M (recs dnC N) ∧ V.heap[g]? = some (.cells #[.int .i64 (r : Int), .slice A n c, .int .i64 t] 86 (0, 0)) ∧ Below w.heap.size w V from by
              have hb := HBLR.out.trans (hV.mono (by have := HBLR.out.size; omega))
              exact ⟨HD.out.keep hb, below_grown_g hb g, own_below hown hV, (hV.block g hgrlt).trans hgr, hb⟩)
            clear hmem hown hblr hgr
            go_wp2_with (fail)
            obtain ⟨wo, rfl⟩ : ∃ wo : World, wo = wr := ⟨_, rfl⟩
            go_loopw [10, 66] (fun f s wi => ∃ fN k : Nat, f = .int .i64 (fN : Int) ∧ fN < M ∧ k ≤ M ∧ s = .int .i64 (k : Int) ∧ Below wo.heap.size wo wi) (fun _ s _ => M - (intOf s).toNat)
            case atStart => exact ⟨0, 0, rfl, hM0, Nat.zero_le _, rfl, Below.refl _ _⟩
            case round =>
              obtain ⟨fN, k, rfl, hfN, hk, rfl, hbi⟩ := hrel
              have hsi := hbi.size
              have HBI := Lib.hid hbi
              have hci := HC.out.keep (hbi.block g9 hg9lt)
              obtain ⟨y, hy⟩ : ∃ y, N[fN]? = some y := ⟨_, List.getElem?_eq_getElem (by have := HM.out; omega)⟩
              have d0 := rec_cell dnC_len hci fN y hy 0 _ rfl
              have d1 := rec_cell dnC_len hci fN y hy 1 _ rfl
              simp only [Nat.zero_add, Nat.add_zero] at d0 d1
              have HY := Lib.hid hy
              obtain ⟨uy, euy⟩ : ∃ uy, uy = ltU y := ⟨_, rfl⟩
              obtain ⟨iy, eiy⟩ : ∃ iy, iy = ltId y := ⟨_, rfl⟩
              have HEY := Lib.hid euy
              rw [← euy] at d1
              rw [← eiy] at d0
              have hg9i : g9 < wr.heap.size := by omega
              have hfM : (fN : Int) < (M : Int) := by omega
              clear hy euy eiy
              by_cases hlt : k < M
              · obtain ⟨x, hx⟩ : ∃ x, N[k]? = some x := ⟨_, List.getElem?_eq_getElem (by have := HM.out; omega)⟩
                have c0 := rec_cell dnC_len hci k x hx 0 _ rfl
                have c1 := rec_cell dnC_len hci k x hx 1 _ rfl
                simp only [Nat.zero_add, Nat.add_zero] at c0 c1
                obtain ⟨ux, eux⟩ : ∃ ux, ux = ltU x := ⟨_, rfl⟩
                obtain ⟨ix, eix⟩ : ∃ ix, ix = ltId x := ⟨_, rfl⟩
                rw [← eux] at c1
                rw [← eix] at c0
                have hlt' : (k : Int) < (M : Int) := by omega
                clear hx eux eix hci hbi
                by_cases hxy : ux < uy
                · go_wp2_with (fail)
                  go_quiet (fail)
                  go_wp2_with (fail)
                  go_roundw
                  case rel => exact ⟨k, k + 1, rfl, by omega, by omega, by go_num, below_drewN (HBI.out.alloc hsi _) _⟩
                  case measure => simp [intOf]; omega
                · go_wp2_with (fail)
                  go_quiet (fail)
                  go_wp2_with (fail)
                  go_roundw
                  case rel => exact ⟨fN, k + 1, rfl, by omega, by omega, by go_num, below_drewN (HBI.out.alloc hsi _) _⟩
                  case measure => simp [intOf]; omega
              · have hkM : k = M := by omega
                subst hkM
                clear hci hbi
                by_cases huy : at_ < uy
                · go_wp2_with (fail)
                  go_ret2
                  obtain ⟨q1, q2, _⟩ := HSR.out wr HBI.out
                  exact DoPost.of false 12 L t rfl q1 (hta) q2 (.inr ⟨rfl, .inr rfl, rfl, .inr (.inr HRL.out)⟩)
                · obtain ⟨m, rfl⟩ : ∃ m, k = fN + m + 1 := ⟨k - fN - 1, by omega⟩
                  have HDEL := Lib.hid (del_any N fN m g9 c9 (w.heap.size + 1) wr HM.out (by omega) (HSR.out wr HBI.out).2.2.1)
                  go_wp2_with (fail)
                  refine HDEL.out.mono ?_
                  rintro e w5 ⟨rfl, ho5, hg5⟩
                  have HO5 := Lib.hid ho5
                  have HG5 := Lib.hid hg5
                  have hs5 := hg5.size
                  clear ho5 hg5
                  go_wp2_with (fail)
                  go_roundw
                  case rel =>
                    have hl : (N.eraseIdx fN).length = fN + m := by rw [List.length_eraseIdx_of_lt (by have := HM.out; omega), HM.out]; omega
                    refine ⟨N.eraseIdx fN, some ⟨g9, 0, none⟩, c9, by rw [hl], by rw [hl]; exact HO5.out, HMEM.out.erase (by rw [← HU.out.1]; omega) HY.out (by rw [← HEY.out]; omega), Lib.hid (.inr HRL.out), by omega, ?_, by omega, ?_⟩
                    · exact (HG5.out.block g (by omega) (by intro e; injection e with e; omega)).trans (HSR.out wr HBI.out).2.2.2.1
                    · exact (HSR.out wr HBI.out).2.2.2.2.grown HG5.out (by omega) (fun q hq => by injection hq with hq; omega)
                  case measure => simp [slLen]
end Go.Proofs.YtnnncddjcdjhoaaGreatDoor

/- (*Doer).Done: the names of what is remembered, in memory of their own. -/
namespace Go.Proofs.YtnnncddjcdjhoaaGreatDoor
open Go.RowKit

def nmC (j : Nat) : List Value := [.string (ltId j)]
theorem nmC_len (j : Nat) : (nmC j).length = 1 := rfl
theorem nmC_one (j : Nat) : ∀ u ∈ nmC j, u.oneCell' = true := by
  intro u hu
  simp only [nmC, List.mem_singleton] at hu
  subst hu
  rfl
theorem Tryz.infoStrD : (Tryz.prog.info? 9).map (fun i => (i.zero, i.size, i.bytes)) = some (some (.string ⟨#[]⟩), 1, 16) := by kernel_rfl
set_option maxRecDepth 100000 in
set_option maxHeartbeats 2000000 in
theorem done_any (L : List Nat) (r q g : Nat) (t : Int) (w : World) (hd : Doer w q g r L t) (hr : r ≤ 5) :
    Calls Tryz.prog 17 #[.pointer (some ⟨g, 0, none⟩)] w fun e w' => ∃ v, e = .returned v ∧ w'.ownsRow w.heap.size 9 1 v L.length (recs nmC L) ∧ Below w.heap.size w w' := by
  obtain ⟨i0, hi0, hz0, hz1, hz2⟩ := info_parts Tryz.infoStrD
  have hroom := hd.room
  obtain ⟨⟨A, c, hg, hA⟩, _, _, _, _⟩ := hd
  have hglt := (Array.getElem?_eq_some_iff.1 hg).1
  have g1 := cell_of_blk (j := 1) hg rfl
  have HA := Lib.hid hA
  obtain ⟨n, en⟩ : ∃ n, n = L.length := ⟨_, rfl⟩
  have HN := Lib.hid en.symm
  rw [← en] at g1 hA hroom ⊢
  have HA := Lib.hid hA.lies
  clear hg hA en
  go_enter Tryz.func17, Tryz.ntmps17
  go_wp2_with (fail)
  go_loopw [3, 11] (fun v s wr => ∃ j : Nat, j ≤ n ∧ s = .int .i64 (j : Int) ∧ wr.ownsRow w.heap.size 9 1 v j (recs nmC (L.take j)) ∧ Below w.heap.size w wr) (fun _ s _ => n - (intOf s).toNat)
  case atStart => exact ⟨0, by omega, rfl, World.ownsRow_nil _ _ _ _, Below.refl _ _⟩
  case round =>
    obtain ⟨j, hj, rfl, hown, hbr⟩ := hrel
    have hbs := hbr.size
    have HO := Lib.hid hown
    have HB := Lib.hid hbr
    by_cases hlt : j < n
    · have hltI : (j : Int) < n := by omega
      obtain ⟨x, hx⟩ : ∃ x, L[j]? = some x := ⟨_, List.getElem?_eq_getElem (by have := HN.out; omega)⟩
      obtain ⟨h0, h1, _⟩ | ⟨b, o, rfl, hb, hC⟩ := HA.out.below hbr
      · omega
      have c0 := rec_cell dnC_len hC j x hx 0 _ rfl
      have c1 := rec_cell dnC_len hC j x hx 1 _ rfl
      simp only [Nat.add_zero] at c0
      have HTK := Lib.hid (show recs nmC (L.take (j + 1)) = recs nmC (L.take j) ++ nmC x from by rw [List.take_add_one, hx]; simp [recs])
      obtain ⟨gx, egx⟩ : ∃ z, z = wr.heap.size := ⟨_, rfl⟩
      obtain ⟨w1, e1⟩ : ∃ V : World, V = wr.alloc (.cells #[.string (ltId x), .int .i64 (ltU x)] 95) := ⟨_, rfl⟩
      have hb1 : Below wr.heap.size wr w1 := by rw [e1]; exact (Below.refl _ _).alloc (Nat.le_refl _) _
      have hg1 : w1.heap[gx]? = some (.cells #[.string (ltId x), .int .i64 (ltU x)] 95 (0, 0)) := by rw [e1, egx]; exact heap_new wr _
      have HB1 := Lib.hid (hbr.trans (hb1.mono hbs))
      have HO1 := Lib.hid (own_below hown hb1)
      have d0 := cell_of_blk (j := 0) hg1 rfl
      have hl1 := (Array.getElem?_eq_some_iff.1 hg1).1
      clear hC hx hown hbr hb1 hg1
      go_upto_region 5 with (fail)
      rw [← egx, ← e1]
      clear egx e1
      have hs1 := HB1.out.size
      go_wp2_with (at_builtin; refine wpList_append_own2 _ rfl _ _ 55 rfl w.heap.size 9 i0 _ 1 16 Tryz.underlying55 hi0 hz0 hz1 hz2 rfl (by decide) _ _ _ rfl (HO1.out.alloc _) ⟨_, 0, none⟩ 1 1 (nmC x) rfl rfl ?c1 ?c2 ?c3 ?c4 ?c5 ?_)
      case c1 => exact cells_add (Cells.new _ _ _ _ _ rfl)
      case c2 => exact nmC_one _
      case c3 => unfold maxLen; omega
      case c4 => omega
      case c5 => first | omega | (simp; omega)
      intro v9 w9 ho9 hg9 hm9
      have HB9 := Lib.hid ((HB1.out.alloc hs1 (.cells #[.string (ltId x)] 9)).grown hg9 (by simp; omega) (fun q hq => (HO1.out.lt q hq).1))
      have HO9 := Lib.hid ho9
      clear ho9 hg9 hm9
      go_wp2_with (fail)
      go_roundw
      case rel => exact ⟨j + 1, by omega, by go_num, by rw [HTK.out]; exact HO9.out, HB9.out⟩
      case measure => simp [intOf]; omega
    · obtain rfl : j = n := by omega
      have HF := Lib.hid (show wr.ownsRow w.heap.size 9 1 u3 j (recs nmC L) from by rw [List.take_of_length_le (by have := HN.out; omega)] at hown; exact hown)
      clear hown hbr
      go_wp2_with (fail)
      go_ret
      exact ⟨_, rfl, HF.out, HB.out⟩
end Go.Proofs.YtnnncddjcdjhoaaGreatDoor
