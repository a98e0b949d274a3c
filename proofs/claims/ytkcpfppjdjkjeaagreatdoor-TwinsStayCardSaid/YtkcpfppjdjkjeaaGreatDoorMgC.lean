/- Several texts in one: PrS, Lay190, Lay194, PrH, Stream, FxF, PrI. -/
import Derived.Test.YtkcpfppjdjkjeaaGreatDoorMgB
import Derived.Sort.OwnSorted
import Derived.Lib.SlicesCompact
import Derived.Test.YtkcpfppjdjkjeaaGreatDoorProg
import Derived.Shelf.Sort.Plain
import Derived.Shelf.Slices.CompactS
import Derived.Lib.OwnBridge
import Derived.Lib.RowBridge
import Derived.Test.YtkcpfppjdjkjeaaGreatDoorMgA
import Derived.Shelf.Slices.In.SortNone

/- Names sorted and each once, by rank: what the library's sort and compact make of them; no program in sight. -/
namespace Go.Proofs.YtkcpfppjdjkjeaaGreatDoor
open Go.RowKit

def nmL (i : Nat) : List UInt8 := (nm i).data.toList
theorem seven (i : Nat) (h : i < 7) : i = 0 ∨ i = 1 ∨ i = 2 ∨ i = 3 ∨ i = 4 ∨ i = 5 ∨ i = 6 := by omega
theorem nmL_inj (i j : Nat) (hi : i < 7) (hj : j < 7) (h : nmL i = nmL j) : i = j := by
  rcases seven i hi with e | e | e | e | e | e | e <;> subst e <;> rcases seven j hj with e | e | e | e | e | e | e <;> subst e <;> first | rfl | (exact absurd h (by decide))
theorem nmL_le (i j : Nat) (hi : i < 7) (hj : j < 7) : decide (i ≤ j) = decide (nmL i ≤ nmL j) := by
  rcases seven i hi with e | e | e | e | e | e | e <;> subst e <;> rcases seven j hj with e | e | e | e | e | e | e <;> subst e <;> decide
theorem sort_rank (r : List Nat) (h7 : ∀ i ∈ r, i < 7) : (r.map nmL).mergeSort (fun x y => decide (x ≤ y)) = (r.mergeSort (fun x y => decide (x ≤ y))).map nmL :=
  (List.map_mergeSort (fun a ha b hb => nmL_le a b (h7 a ha) (h7 b hb))).symm
/-- The ranks that occur, each once. -/
def rkF (r : List Nat) : List Nat := (List.range 7).filter (fun i => r.contains i)
theorem mem_rkF (r : List Nat) (i : Nat) : i ∈ rkF r ↔ i < 7 ∧ i ∈ r := by simp [rkF, List.mem_filter]
theorem rkF_rising (r : List Nat) : (rkF r).Pairwise (· < ·) := List.Pairwise.filter _ (range_rising 7)
theorem compact_rank (r : List Nat) (hs : r.Pairwise (· ≤ ·)) (h7 : ∀ i ∈ r, i < 7) : Lib.compact (r.map nmL) = (rkF r).map nmL := by
  have hget : ∀ q, q < r.length → (r.map nmL).toArray[q]! = nmL (r.getD q 0) := by
    intro q hq
    simp [getElem!_pos, hq, List.getD_eq_getElem?_getD]
  have key : ∀ m, m ≤ r.length → ∃ u : List Nat, Lib.compactUpTo (r.map nmL).toArray m = u.map nmL ∧ u.Pairwise (· < ·) ∧ ∀ i, i ∈ u ↔ i ∈ r.take m := by
    intro m
    induction m with
    | zero => intro _; exact ⟨[], rfl, List.Pairwise.nil, by simp⟩
    | succ m ih =>
      intro hm
      obtain ⟨u, hu1, hu2, hu3⟩ := ih (by omega)
      have hr : r[m]? = some (r.getD m 0) := by
        rw [List.getD_eq_getElem?_getD, List.getElem?_eq_getElem (by omega)]; rfl
      have htake : r.take (m + 1) = r.take m ++ [r.getD m 0] := by rw [List.take_add_one, hr]; rfl
      have hx7 : r.getD m 0 < 7 := h7 _ (List.mem_of_getElem? hr)
      rw [Lib.compactUpTo_succ, hu1, htake]
      by_cases hk : m = 0 ∨ r.getD m 0 ≠ r.getD (m - 1) 0
      · have hkeep : Lib.keeps (r.map nmL).toArray m = true := by
          unfold Lib.keeps
          rw [decide_eq_true_iff]
          rcases hk with hk | hk
          · exact .inl hk
          · by_cases h0 : m = 0
            · exact .inl h0
            · refine .inr (fun e => hk ?_)
              rw [hget m (by omega), hget (m - 1) (by omega)] at e
              have hr1 : r[m - 1]? = some (r.getD (m - 1) 0) := by
                rw [List.getD_eq_getElem?_getD, List.getElem?_eq_getElem (by omega)]; rfl
              exact nmL_inj _ _ hx7 (h7 _ (List.mem_of_getElem? hr1)) e
        rw [hkeep, if_pos rfl, hget m (by omega)]
        refine ⟨u ++ [r.getD m 0], by simp, ?_, fun i => by simp [hu3]⟩
        rw [List.pairwise_append]
        refine ⟨hu2, List.pairwise_singleton _ _, fun a ha b hb => ?_⟩
        rw [List.mem_singleton] at hb
        subst hb
        rw [hu3, List.mem_take_iff_getElem] at ha
        obtain ⟨q, hq, rfl⟩ := ha
        have hq' : q < m ∧ q < r.length := by omega
        have hm0 : m ≠ 0 := by omega
        have hne : r.getD m 0 ≠ r.getD (m - 1) 0 := hk.resolve_left hm0
        have h1 : r[q]'hq'.2 ≤ r.getD (m - 1) 0 := by
          rw [List.getD_eq_getElem?_getD, List.getElem?_eq_getElem (show m - 1 < r.length by omega)]
          by_cases e : q = m - 1
          · subst e; exact Nat.le_refl _
          · exact (List.pairwise_iff_getElem.1 hs) q (m - 1) hq'.2 (by omega) (by omega)
        have h2 : r.getD (m - 1) 0 ≤ r.getD m 0 := by
          rw [List.getD_eq_getElem?_getD, List.getElem?_eq_getElem (show m - 1 < r.length by omega), List.getD_eq_getElem?_getD, List.getElem?_eq_getElem (show m < r.length by omega)]
          exact (List.pairwise_iff_getElem.1 hs) (m - 1) m (by omega) (by omega) (by omega)
        omega
      · have hm0 : m ≠ 0 := fun e => hk (.inl e)
        have he : r.getD m 0 = r.getD (m - 1) 0 := by
          by_cases e : r.getD m 0 = r.getD (m - 1) 0
          · exact e
          · exact absurd (.inr e) hk
        have hkeep : Lib.keeps (r.map nmL).toArray m = false := by
          unfold Lib.keeps
          rw [decide_eq_false_iff_not]
          rintro (h | h)
          · exact hm0 h
          · rw [hget m (by omega), hget (m - 1) (by omega), he] at h
            exact h rfl
        rw [hkeep, if_neg (by simp)]
        refine ⟨u, by simp, hu2, fun i => ?_⟩
        rw [hu3, List.mem_append, List.mem_singleton]
        constructor
        · exact .inl
        · rintro (h | h)
          · exact h
          · rw [h, he, List.mem_take_iff_getElem]
            refine ⟨m - 1, by omega, ?_⟩
            rw [List.getD_eq_getElem?_getD, List.getElem?_eq_getElem (show m - 1 < r.length by omega)]; rfl
  obtain ⟨u, hu1, hu2, hu3⟩ := key r.length (Nat.le_refl _)
  have : u = rkF r := by
    refine ext_rising id _ _ hu2 (rkF_rising r) (fun x => ?_)
    rw [hu3, mem_rkF, List.take_length]
    exact ⟨fun h => ⟨h7 x h, h⟩, fun h => h.2⟩
  unfold Lib.compact
  rw [← this, ← hu1, List.length_map]
theorem rkF_nms (ls : List (List Pr)) : rkF (ls.flatMap (fun l => l.map (·.1))) = nmsF ls := by
  refine ext_rising id _ _ (rkF_rising _) (nmsF_rising _) (fun x => ?_)
  rw [mem_rkF, mem_nmsF]
  simp only [List.mem_flatMap, List.mem_map]
end Go.Proofs.YtkcpfppjdjkjeaaGreatDoor

/- The shelf's Lays.n190 at this program. -/
namespace Go.Proofs.YtkcpfppjdjkjeaaGreatDoor
open Go.RowKit Go.Shelf

def lay190_ren : Go.Shelf.Ren := ⟨fun | 190 => 121 | 125 => 61 | 258 => 146 | 128 => 105 | 129 => 106 | 302 => 168 | 303 => 169 | 304 => 170 | 305 => 171 | 306 => 172 | 307 => 173 | 308 => 174 | 309 => 175 | 310 => 176 | 333 => 191 | 329 => 134 | 330 => 135 | 334 => 192 | 335 => 193 | 336 => 194 | 344 => 204 | n => n, fun | 31 => 112 | 9 => 9 | 3 => 3 | 46 => 117 | 0 => 0 | 51 => 151 | 53 => 153 | 4 => 4 | 183 => 144 | 182 => 143 | 131 => 148 | 5 => 5 | 218 => 172 | 222 => 176 | 228 => 197 | 229 => 198 | n => n, fun  | n => n⟩
theorem lay190 : Lays.n190 Tryz.prog lay190_ren := {
  mixed := by kernel_rfl,
  f125 := Tryz.func61.trans (congrArg some (by kernel_rfl)),
  f128 := Tryz.func105.trans (congrArg some (by kernel_rfl)),
  f129 := Tryz.func106.trans (congrArg some (by kernel_rfl)),
  f190 := Tryz.func121.trans (congrArg some (by kernel_rfl)),
  f258 := Tryz.func146.trans (congrArg some (by kernel_rfl)),
  f302 := Tryz.func168.trans (congrArg some (by kernel_rfl)),
  f303 := Tryz.func169.trans (congrArg some (by kernel_rfl)),
  f304 := Tryz.func170.trans (congrArg some (by kernel_rfl)),
  f305 := Tryz.func171.trans (congrArg some (by kernel_rfl)),
  f306 := Tryz.func172.trans (congrArg some (by kernel_rfl)),
  f307 := Tryz.func173.trans (congrArg some (by kernel_rfl)),
  f308 := Tryz.func174.trans (congrArg some (by kernel_rfl)),
  f309 := Tryz.func175.trans (congrArg some (by kernel_rfl)),
  f310 := Tryz.func176.trans (congrArg some (by kernel_rfl)),
  f329 := Tryz.func134.trans (congrArg some (by kernel_rfl)),
  f330 := Tryz.func135.trans (congrArg some (by kernel_rfl)),
  f333 := Tryz.func191.trans (congrArg some (by kernel_rfl)),
  f334 := Tryz.func192.trans (congrArg some (by kernel_rfl)),
  f335 := Tryz.func193.trans (congrArg some (by kernel_rfl)),
  f336 := Tryz.func194.trans (congrArg some (by kernel_rfl)),
  f344 := Tryz.func204.trans (congrArg some (by kernel_rfl)),
  t0 := Tryz.underlying0,
  a0 := Tryz.isAgg0,
  z0 := Tryz.sizeOf0,
  v0 := Tryz.zeroValue0,
  t3 := Tryz.underlying3,
  a3 := Tryz.isAgg3,
  z3 := Tryz.sizeOf3,
  v3 := Tryz.zeroValue3,
  t4 := Tryz.underlying4,
  a4 := Tryz.isAgg4,
  z4 := Tryz.sizeOf4,
  v4 := Tryz.zeroValue4,
  t5 := Tryz.underlying5,
  a5 := Tryz.isAgg5,
  z5 := Tryz.sizeOf5,
  v5 := Tryz.zeroValue5,
  t9 := Tryz.underlying9,
  a9 := Tryz.isAgg9,
  z9 := Tryz.sizeOf9,
  v9 := Tryz.zeroValue9,
  t31 := Tryz.underlying112,
  a31 := Tryz.isAgg112,
  z31 := Tryz.sizeOf112,
  v31 := Tryz.zeroValue112,
  t46 := Tryz.underlying117,
  a46 := Tryz.isAgg117,
  z46 := Tryz.sizeOf117,
  v46 := Tryz.zeroValue117,
  t51 := Tryz.underlying151,
  a51 := Tryz.isAgg151,
  z51 := Tryz.sizeOf151,
  v51 := Tryz.zeroValue151,
  t53 := Tryz.underlying153,
  a53 := Tryz.isAgg153,
  z53 := Tryz.sizeOf153,
  v53 := Tryz.zeroValue153,
  t131 := Tryz.underlying148,
  a131 := Tryz.isAgg148,
  z131 := Tryz.sizeOf148,
  v131 := Tryz.zeroValue148,
  t182 := Tryz.underlying143,
  a182 := Tryz.isAgg143,
  z182 := Tryz.sizeOf143,
  v182 := Tryz.zeroValue143,
  t183 := Tryz.underlying144,
  a183 := Tryz.isAgg144,
  z183 := Tryz.sizeOf144,
  v183 := Tryz.zeroValue144,
  t218 := Tryz.underlying172,
  a218 := Tryz.isAgg172,
  z218 := Tryz.sizeOf172,
  v218 := Tryz.zeroValue172,
  t222 := Tryz.underlying176,
  a222 := Tryz.isAgg176,
  z222 := Tryz.sizeOf176,
  v222 := Tryz.zeroValue176,
  t228 := Tryz.underlying197,
  a228 := Tryz.isAgg197,
  z228 := Tryz.sizeOf197,
  v228 := Tryz.zeroValue197,
  t229 := Tryz.underlying198,
  a229 := Tryz.isAgg198,
  z229 := Tryz.sizeOf198,
  v229 := Tryz.zeroValue198 }
end Go.Proofs.YtkcpfppjdjkjeaaGreatDoor

/- The shelf's Lays.n194 at this program. -/
namespace Go.Proofs.YtkcpfppjdjkjeaaGreatDoor
open Go.RowKit Go.Shelf

def lay194_ren : Go.Shelf.Ren := ⟨fun | 194 => 122 | n => n, fun | 31 => 112 | 9 => 9 | 3 => 3 | 4 => 4 | 0 => 0 | n => n, fun  | n => n⟩
theorem lay194 : Lays.n194 Tryz.prog lay194_ren := {
  mixed := by kernel_rfl,
  f194 := Tryz.func122.trans (congrArg some (by kernel_rfl)),
  t0 := Tryz.underlying0,
  a0 := Tryz.isAgg0,
  z0 := Tryz.sizeOf0,
  v0 := Tryz.zeroValue0,
  t3 := Tryz.underlying3,
  a3 := Tryz.isAgg3,
  z3 := Tryz.sizeOf3,
  v3 := Tryz.zeroValue3,
  t4 := Tryz.underlying4,
  a4 := Tryz.isAgg4,
  z4 := Tryz.sizeOf4,
  v4 := Tryz.zeroValue4,
  t9 := Tryz.underlying9,
  a9 := Tryz.isAgg9,
  z9 := Tryz.sizeOf9,
  v9 := Tryz.zeroValue9,
  t31 := Tryz.underlying112,
  a31 := Tryz.isAgg112,
  z31 := Tryz.sizeOf112,
  v31 := Tryz.zeroValue112 }
end Go.Proofs.YtkcpfppjdjkjeaaGreatDoor

/- slices.Sort, slices.Compact of the names by their contracts. -/
namespace Go.Proofs.YtkcpfppjdjkjeaaGreatDoor
open Go.RowKit Go.Shelf Go.Sort Go.Lib

def nmC (i : Nat) : List Value := [.string (nm i)]
theorem nmC_len (i : Nat) : (nmC i).length = 1 := rfl
theorem nmC_one (i : Nat) : ∀ u ∈ nmC i, u.oneCell' = true := by
  intro u hu; simp only [nmC, List.mem_singleton] at hu; subst hu; rfl
theorem enc_nm (i : Nat) : encStr (nmL i) = .string (nm i) := by simp [encStr, nmL]
theorem recs_nm (r : List Nat) : recs nmC r = (r.map nmL).map encStr := by
  induction r with
  | nil => rfl
  | cons i r ih => simp only [recs, List.flatMap_cons, List.map_cons] at ih ⊢; rw [ih, enc_nm]; rfl
def srtN (r : List Nat) : List Nat := r.mergeSort (fun x y => decide (x ≤ y))
theorem srtN_perm (r : List Nat) : (srtN r).Perm r := List.mergeSort_perm _ _
theorem srtN_sorted (r : List Nat) : (srtN r).Pairwise (· ≤ ·) := by
  have := List.pairwise_mergeSort (le := fun x y : Nat => decide (x ≤ y)) (fun a b c => by simp; omega) (fun a b => by simp; omega) r
  exact this.imp (fun h => by simpa using h)
theorem sort_names (w : World) (base g cap n : Nat) (r : List Nat) (h7 : ∀ i ∈ r, i < 7) (hn8 : n ≤ 1000) (ho : w.ownsRow base 9 1 (.slice (some ⟨g, 0, none⟩) n cap) n (recs nmC r)) :
    Calls Tryz.prog 121 #[.slice (some ⟨g, 0, none⟩) n cap] w fun e w' => e = .returned (.tuple #[]) ∧ w'.ownsRow base 9 1 (.slice (some ⟨g, 0, none⟩) n cap) n (recs nmC (srtN r)) ∧ w.grownBy w' (some g) := by
  rw [recs_nm] at ho
  obtain ⟨g', cap', e', hb, hg, h1, h2, hl, hH⟩ := Lib.holds_of_ownsRow ho (by simp)
  cases e'
  subst hl
  refine (Any.slices_Sort_string lay190 g 0 cap (r.map nmL) w hH hg (by omega)).mono ?_
  rintro e w' ⟨rfl, q, os, rfl⟩
  refine ⟨rfl, ?_, grownBy_sorted _⟩
  rcases ho.2 with ⟨hv, _⟩ | ⟨g2, cap2, cur, hv, hb2, hh, hc, hcm, hcs, ht⟩
  · cases hv
  · cases hv
    rw [recs_nm, sort_rank r h7]
    exact ownsRow_sorted (by simp [List.length_mergeSort]) hb hh h1 h2 hcs
theorem rkF_length_le (r : List Nat) (hs : r.Pairwise (· ≤ ·)) (h7 : ∀ i ∈ r, i < 7) : (rkF r).length ≤ r.length := by
  have h := Lib.compact_length_le (r.map nmL)
  rw [compact_rank r hs h7] at h
  simpa using h
theorem grown_putRow {w : World} {g q : Nat} (d : Array (List UInt8)) : w.grownBy (putRow encStr (Sort.ahead w q) g 0 d) (some g) := by
  have := grownBy_sorted (w := w) (g := g) (n := q) (os := #[]) d
  simpa using this
theorem compact_names (w : World) (base g cap n : Nat) (r : List Nat) (hs : r.Pairwise (· ≤ ·)) (h7 : ∀ i ∈ r, i < 7) (hn8 : n ≤ 1000) (ho : w.ownsRow base 9 1 (.slice (some ⟨g, 0, none⟩) n cap) n (recs nmC r)) :
    Calls Tryz.prog 122 #[.slice (some ⟨g, 0, none⟩) n cap] w fun e w' => e = .returned (.slice (some ⟨g, 0, none⟩) (rkF r).length cap) ∧ w'.ownsRow base 9 1 (.slice (some ⟨g, 0, none⟩) (rkF r).length cap) (rkF r).length (recs nmC (rkF r)) ∧ w.grownBy w' (some g) := by
  rw [recs_nm] at ho
  obtain ⟨g', cap', e', hb, hg, h1, h2, hl, hH⟩ := Lib.holds_of_ownsRow ho (by simp)
  cases e'
  subst hl
  have hle := rkF_length_le r hs h7
  refine (Any.slices_Compact_string lay194 g 0 cap (r.map nmL) w hH (by omega) h1).mono ?_
  rintro e w' ⟨h, q, rfl⟩
  rw [compact_rank r hs h7] at h ⊢
  rw [List.length_map] at h
  refine ⟨h, ?_, grown_putRow _⟩
  have := Lib.ownsRow_putRow (q := q) (k := (rkF r).length) (ys := (rkF r).map nmL ++ List.replicate ((r.map nmL).length - ((rkF r).map nmL).length) []) ho (by simp; omega) (by simpa using hle)
  rw [recs_nm]
  rw [List.take_append_of_le_length (by simp), List.take_of_length_le (by simp)] at this
  exact this
end Go.Proofs.YtkcpfppjdjkjeaaGreatDoor

/- The stream of numbers: Below, Next, Range, Pick, Flip, each by its contract. -/
namespace Go.Proofs.YtkcpfppjdjkjeaaGreatDoor
open Go.RowKit

theorem below_any (x n : Int) (w : World) (hn : n ≤ 1099511627776) : Calls Tryz.prog 94 #[.int .i64 x, .int .i64 n] w fun e w' => e = .returned (.int .i64 (below x n)) ∧ w = w' := by
  by_cases h : n < 1
  · have hb : below x n = 0 := by simp [below, h]
    rw [hb]
    go_enter Tryz.func94, Tryz.ntmps94
    go_wp2
    go_ret; exact ⟨rfl, rfl⟩
  · have hb : below x n = x % n := by simp [below, h]
    rw [hb]
    have h1 : 1 ≤ n := by omega
    have H := Lib.hid (tmod_cases x n h1)
    have hlo : -n < x.tmod n := by have := Int.lt_tmod_of_pos x (b := n) (by omega); omega
    have hhi : x.tmod n < n := Int.tmod_lt_of_pos x (by omega)
    have hn0 : ¬ n = 0 := by omega
    clear hb h
    go_enter Tryz.func94, Tryz.ntmps94
    go_wp2
    · go_ret; exact ⟨ret_int (H.out.1 (by assumption)).1.symm, rfl⟩
    · go_ret; exact ⟨ret_int (H.out.2 (by assumption)).symm, rfl⟩

/-- Block p is a stream that has handed out k numbers of a slice. -/
def SBlk (w : World) (p : Nat) (A : Option Addr) (n c : Nat) (k : Nat) : Prop := w.heap[p]? = some (.cells #[.slice A n c, .int .i64 (k : Int)] 25 (0, 0))
theorem SBlk.cell0 {w p A n c k} (h : SBlk w p A n c k) : w.cell? ⟨p, 0, none⟩ = some (.slice A n c) := cell_of_blk h rfl
theorem SBlk.cell1 {w p A n c k} (h : SBlk w p A n c k) : w.cell? ⟨p, 1, none⟩ = some (.int .i64 (k : Int)) := cell_of_blk h rfl
theorem SBlk.fr1 {w p A n c k} (h : SBlk w p A n c k) : w.frozen? ⟨p, 1, none⟩ = false := by simp [World.frozen?, show w.heap[p]? = _ from h]

set_option maxHeartbeats 400000 in
theorem next_nil (w : World) (p c k : Nat) (A : Option Addr) (m : Int) (hm : m ≤ 1099511627776) (hk : k < 1000000) (hs : SBlk w p A 0 c k) :
    Calls Tryz.prog 57 #[.pointer (some ⟨p, 0, none⟩), .int .i64 m] w fun e w' => e = .returned (.int .i64 (nextV [] k m)) ∧ ∃ q, w' = (w.setCell ⟨p, 1, none⟩ (.int .i64 ((k : Int) + 1))).drewN q := by
  have h0 := hs.cell0
  have h1 := hs.cell1
  have h2 := hs.fr1
  clear hs
  have hk' : (k : Int) < 1000000 := by omega
  go_enter Tryz.func57, Tryz.ntmps57
  go_wp2_with (go_at_call 94; refine (below_any _ _ _ (by omega)).mono ?_; rintro e w' ⟨rfl, rfl⟩)
  go_ret
  exact ⟨ret_int (by simp [nextV]), 0, rfl⟩

set_option maxHeartbeats 1000000 in
theorem next_some (w : World) (p n c k b o : Nat) (xs : List Int) (m : Int) (hm : m ≤ 1099511627776) (hk : k < 1000000) (hn : 0 < n) (hn2 : n ≤ 17592186044416) (hlen : xs.length = n)
    (hs : SBlk w p (some ⟨b, o, none⟩) n c k) (hbp : b ≠ p) (hx : w.cell? ⟨b, o + k % n, none⟩ = some (.int .i64 (xs.getD (k % n) 0))) :
    Calls Tryz.prog 57 #[.pointer (some ⟨p, 0, none⟩), .int .i64 m] w fun e w' => e = .returned (.int .i64 (nextV xs k m)) ∧ ∃ q, w' = (w.setCell ⟨p, 1, none⟩ (.int .i64 ((k : Int) + 1))).drewN q := by
  have h0 := hs.cell0
  have h1 := hs.cell1
  have h2 := hs.fr1
  obtain ⟨x, hxd⟩ : ∃ x, x = xs.getD (k % n) 0 := ⟨_, rfl⟩
  obtain ⟨q, hq⟩ : ∃ q, q = k / n := ⟨_, rfl⟩
  obtain ⟨r, hr⟩ : ∃ r, r = k % n := ⟨_, rfl⟩
  obtain ⟨t, ht⟩ : ∃ t, t = q * (7919 + r) := ⟨_, rfl⟩
  have HV := Lib.hid (show nextV xs k m = below (below x 1073741824 + (t : Int)) m by
    unfold nextV; rw [if_neg (by omega), hlen, hxd, ht, hq, hr])
  have HR : t ≤ k * 7920 := by rw [ht, hq, hr]; exact round_le k n hn
  have hb0 := below_range x 1073741824 (by omega)
  have hrn : r < n := by rw [hr]; exact Nat.mod_lt _ hn
  have hqk : q ≤ k := by rw [hq]; exact Nat.div_le_self _ _
  rw [← hxd, ← hr] at hx
  have hw2 : (k : Int) % (n : Int) = (r : Int) := by rw [hr]; rfl
  have hw3 : (k : Int) / (n : Int) = (q : Int) := by rw [hq]; rfl
  have hw4 : wrap64 ((q : Int) * (7919 + (r : Int))) = (t : Int) := by
    rw [show ((q : Int) * (7919 + (r : Int))) = (t : Int) by rw [ht, Int.natCast_mul, Int.natCast_add]; rfl]; unfold wrap64; omega
  clear hs hlen ht hq hr hxd
  have hn0 : ¬ (n : Int) = 0 := by omega
  go_enter Tryz.func57, Tryz.ntmps57
  go_wp2_with (fail)
  go_quiet (fail)
  go_wp2_with (fail)
  go_quiet (fail)
  go_wp2_with (go_at_call 94; refine (below_any _ _ _ (by omega)).mono ?_; rintro e w' ⟨rfl, rfl⟩)
  go_ret
  exact ⟨ret_int HV.out.symm, _, rfl⟩

/-- A list of numbers, and where it lies. -/
structure LiA where
  l : List Int
  A : Option Addr
  c : Nat
instance : CoeOut LiA (List Int) := ⟨LiA.l⟩
/-- Block p is a stream over the numbers xs, k of which it has handed out. -/
def Strm (w : World) (p : Nat) (xs : LiA) (k : Nat) : Prop :=
  xs.l.length ≤ 17592186044416 ∧ SBlk w p xs.A xs.l.length xs.c k ∧ Row w p xs.A (xs.l.map (Value.int .i64))

theorem Strm.keep {w w' : World} {p k : Nat} {xs : LiA} (h : Strm w p xs k) (hb : ∀ b, b ≤ p → w'.heap[b]? = w.heap[b]?) : Strm w' p xs k := by
  obtain ⟨h1, h2, h3⟩ := h
  exact ⟨h1, (hb p (Nat.le_refl _)).trans h2, h3.keep fun b hlt => hb b (by omega)⟩
theorem Strm.lt {w : World} {p k : Nat} {xs : LiA} (h : Strm w p xs k) : p < w.heap.size := by
  obtain ⟨h1, h2, h3⟩ := h
  unfold SBlk at h2
  exact (Array.getElem?_eq_some_iff.1 h2).1
theorem Strm.below {w w' : World} {p k : Nat} {xs : LiA} (h : Strm w p xs k) (hb : Below w.heap.size w w') : Strm w' p xs k :=
  h.keep fun b hlt => hb.block b (by have := h.lt; omega)

theorem Strm.row {w w' : World} {p k : Nat} {xs : LiA} {row : Option Nat} (h : Strm w p xs k) (hg : w.grownBy w' row) (hr : ∀ g, row = some g → p < g) : Strm w' p xs k :=
  h.keep fun b hlt => hg.block b (by have := h.lt; omega) (fun e => by have := hr b e.symm; omega)
theorem Strm.alloc {w : World} {p k : Nat} {xs : LiA} (h : Strm w p xs k) (o : Obj) : Strm (w.alloc o) p xs k :=
  h.keep fun b hb => Below.heap_alloc _ _ b (by have := h.lt; omega)

theorem next_any (w : World) (p k : Nat) (xs : LiA) (m : Int) (hm : m ≤ 1099511627776) (hk : k < 1000000) (hs : Strm w p xs k) :
    Calls Tryz.prog 57 #[.pointer (some ⟨p, 0, none⟩), .int .i64 m] w fun e w' => e = .returned (.int .i64 (nextV xs k m)) ∧ Strm w' p xs (k + 1) ∧ w.grownBy w' (some p) := by
  have hlt := hs.lt
  obtain ⟨xs, A, c⟩ := xs
  obtain ⟨h1, h2, h3⟩ := hs
  simp only at h1 h2 h3
  have fin : ∀ q, Strm ((w.setCell ⟨p, 1, none⟩ (.int .i64 ((k : Int) + 1))).drewN q) p ⟨xs, A, c⟩ (k + 1) ∧ w.grownBy ((w.setCell ⟨p, 1, none⟩ (.int .i64 ((k : Int) + 1))).drewN q) (some p) := by
    intro q
    refine ⟨⟨h1, ?_, ?_⟩, grown_drewN (grown_set (grown_refl w _) (.inl rfl) _) q⟩
    · show (w.setCell ⟨p, 1, none⟩ (.int .i64 ((k : Int) + 1))).heap[p]? = _
      unfold SBlk at h2
      simp [World.setCell, Array.getElem?_modify, h2]
    · exact h3.keep fun b hb => Below.heap_setCell w ⟨p, 1, none⟩ _ b (by show b ≠ p; omega)
  by_cases hn : xs.length = 0
  · obtain rfl : xs = [] := List.eq_nil_of_length_eq_zero hn
    refine (next_nil w p c k A m hm hk h2).mono ?_
    rintro e w' ⟨rfl, q, rfl⟩
    exact ⟨rfl, fin q⟩
  · rcases h3 with h3 | ⟨b, o, rfl, hb, hc⟩
    · simp at h3; simp [h3] at hn
    · have hj : k % xs.length < xs.length := Nat.mod_lt _ (by omega)
      have hcell := hc (k % xs.length) (.int .i64 (xs.getD (k % xs.length) 0)) (by simp [List.getElem?_eq_getElem hj])
      refine (next_some w p xs.length c k b o xs m hm hk (by omega) h1 rfl h2 (by omega) hcell).mono ?_
      rintro e w' ⟨rfl, q, rfl⟩
      exact ⟨rfl, fin q⟩

theorem range_any (w : World) (p k : Nat) (xs : LiA) (lo hi : Int) (hk : k < 1000000) (h1 : -1000000000000 < lo) (h2 : lo ≤ hi) (h3 : hi < 1000000000000) (h4 : hi - lo < 1000000000000) (hs : Strm w p xs k) :
    Calls Tryz.prog 17 #[.pointer (some ⟨p, 0, none⟩), .int .i64 lo, .int .i64 hi] w fun e w' => e = .returned (.int .i64 (lo + nextV xs k (hi - lo + 1))) ∧ Strm w' p xs (k + 1) ∧ w.grownBy w' (some p) := by
  have hr := nextV_range xs k (hi - lo + 1) (by omega)
  have HS := Lib.hid hs
  clear hs
  go_enter Tryz.func17, Tryz.ntmps17
  go_wp2_with (go_at_call 57; refine (next_any _ _ _ xs _ (by omega) hk HS.out).mono ?_; rintro e w' ⟨rfl, hs', hg'⟩)
  go_ret
  exact ⟨rfl, hs', hg'⟩

theorem pick_any (w : World) (p k g m c : Nat) (xs : LiA) (vs : List Int) (hk : k < 1000000) (hm : vs.length = m) (h0 : 0 < m) (h1 : m ≤ 1000000) (hs : Strm w p xs k) (hg : g ≠ p)
    (hc : Cells w g 0 (vs.map (Value.int .i64))) :
    Calls Tryz.prog 58 #[.pointer (some ⟨p, 0, none⟩), .slice (some ⟨g, 0, none⟩) m c] w fun e w' => e = .returned (.int .i64 (vs.getD (nextN xs k m) 0)) ∧ Strm w' p xs (k + 1) ∧ w.grownBy w' (some p) := by
  have hj := nextN_lt xs k m h0
  have HE := Lib.hid (nextN_eq xs k m h0)
  obtain ⟨j, ej⟩ : ∃ j, j = nextN xs k m := ⟨_, rfl⟩
  rw [← ej] at HE hj ⊢
  have hcell := hc j (.int .i64 (vs.getD j 0)) (by simp [List.getElem?_eq_getElem (show j < vs.length by omega)])
  have hlt := World.block_lt_of_cell? w _ hcell
  simp only [Nat.zero_add] at hcell hlt
  obtain ⟨x, ex⟩ : ∃ x, x = vs.getD j 0 := ⟨_, rfl⟩
  rw [← ex] at hcell ⊢
  have HS := Lib.hid hs
  clear hs hc ej ex hm
  go_enter Tryz.func58, Tryz.ntmps58
  go_wp2_with (go_at_call 57; refine (next_any _ _ _ xs _ (by omega) hk HS.out).mono ?_; rw [HE.out]; rintro e w' ⟨rfl, hs', hg'⟩; have hc' := hg'.cell hcell (by simpa using hg); clear hcell; have HS' := Lib.hid hs'; have HG' := Lib.hid hg'; clear hs' hg')
  go_ret
  exact ⟨rfl, HS'.out, HG'.out⟩
/-- Where the list lies is below p. -/
def LoA (p : Nat) (xs : LiA) : Prop := xs.l.map (Value.int .i64) = [] ∨ ∃ b o, xs.A = some ⟨b, o, none⟩ ∧ b < p
theorem Strm.low {w : World} {p k : Nat} {xs : LiA} (h : Strm w p xs k) : LoA p xs := by
  obtain ⟨_, _, h3⟩ := h
  rcases h3 with h3 | ⟨b, o, h4, h5, _⟩
  · exact .inl h3
  · exact .inr ⟨b, o, h4, h5⟩
/-- Another stream over the same list goes on; this one stays. -/
theorem Strm.other {w w' : World} {p q k : Nat} {xs : LiA} (h : Strm w q xs k) (hl : LoA p xs) (hg : w.grownBy w' (some p)) (hpq : p ≠ q) : Strm w' q xs k := by
  have hlt := h.lt
  obtain ⟨h1, h2, h3⟩ := h
  refine ⟨h1, (hg.block q hlt (fun e => hpq (by injection e with e; exact e.symm))).trans h2, ?_⟩
  rcases h3 with h3 | ⟨b, o, h4, h5, h6⟩
  · exact .inl h3
  · rcases hl with hl | ⟨b', o', e, hb⟩
    · exact .inl hl
    · rw [h4] at e
      injection e with e
      injection e with e1 e2
      subst e1
      exact .inr ⟨b, o, h4, h5, h6.keep (hg.block b (by omega) (fun e => by injection e with e; omega))⟩
theorem Strm.twin {w : World} {p q k : Nat} {xs : LiA} (h : Strm w p xs k) (hpq : p ≤ q) (hq : w.heap[q]? = w.heap[p]?) : Strm w q xs k :=
  ⟨h.1, hq.trans h.2.1, h.2.2.mono hpq⟩
theorem range_nat (w : World) (p k m : Nat) (xs : LiA) (hk : k < 1000000) (h3 : m < 1000000000) (hs : Strm w p xs k) :
    Calls Tryz.prog 17 #[.pointer (some ⟨p, 0, none⟩), .int .i64 0, .int .i64 (m : Int)] w fun e w' => e = .returned (.int .i64 (nextN xs k (m + 1) : Int)) ∧ Strm w' p xs (k + 1) ∧ w.grownBy w' (some p) := by
  refine (range_any w p k xs 0 m hk (by omega) (by omega) (by omega) (by omega) hs).mono ?_
  rintro e w' ⟨rfl, h⟩
  refine ⟨ret_int ?_, h⟩
  have := nextN_eq xs k (m + 1) (by omega)
  rw [← this]
  simp
end Go.Proofs.YtkcpfppjdjkjeaaGreatDoor

/- Flip of the stream by its contract. -/
namespace Go.Proofs.YtkcpfppjdjkjeaaGreatDoor
open Go.RowKit

theorem cells_atF {w : World} {cs : Array Value} {t : TypeId} {f : Nat × Nat} {xs : List Value} {n : Nat} (h : cs.toList = xs) (hn : n = w.heap.size) : Cells (w.alloc (.cells cs t f)) n 0 xs := by
  subst hn; exact Cells.new _ _ _ _ _ h
theorem flip_any (w : World) (p k : Nat) (xs : LiA) (m : Int) (hm : 1 ≤ m) (hm2 : m ≤ 1000) (hk : k < 1000000) (hs : Strm w p xs k) :
    Calls Tryz.prog 21 #[.pointer (some ⟨p, 0, none⟩), .int .i64 m] w fun e w' => ∃ b : Bool, e = .returned (.bool b) ∧ Strm w' p xs (k + 1) ∧ w.grownBy w' (some p) := by
  have HS := Lib.hid hs
  clear hs
  obtain ⟨v, ev⟩ : ∃ v, v = nextV xs k m := ⟨_, rfl⟩
  have HN := Lib.hid (next_any w p k xs m (by omega) hk HS.out)
  rw [← ev] at HN
  clear ev
  go_enter Tryz.func21, Tryz.ntmps21
  go_wp2_with (fail)
  refine HN.out.mono ?_
  rintro e w' ⟨rfl, hs', hg'⟩
  have H := Lib.hid (And.intro hs' hg')
  clear hs' hg'
  go_wp2_with (fail)
  go_ret
  exact ⟨_, rfl, H.out.1, H.out.2⟩

end Go.Proofs.YtkcpfppjdjkjeaaGreatDoor

/- twin.names of right properties by its contract. -/
namespace Go.Proofs.YtkcpfppjdjkjeaaGreatDoor
open Go.RowKit Go.Shelf

theorem sortN_any (w : World) (base n cap : Nat) (A : Option Addr) (r : List Nat) (h7 : ∀ i ∈ r, i < 7) (hn8 : n ≤ 1000) (ho : w.ownsRow base 9 1 (.slice A n cap) n (recs nmC r)) :
    Calls Tryz.prog 121 #[.slice A n cap] w fun e w' => e = .returned (.tuple #[]) ∧ w'.ownsRow base 9 1 (.slice A n cap) n (recs nmC (srtN r)) ∧ w.grownBy w' (Value.slice A n cap).ownBlock := by
  rcases own_two ho with ⟨rfl, rfl, rfl⟩ | ⟨g, rfl, _, _⟩
  · refine (Any.slices_Sort_string_none lay190 none 0 w).mono ?_
    rintro e w' ⟨h, rfl⟩
    have hr : r = [] := by
      have := ho.1
      rw [recs_length nmC_len] at this
      exact List.eq_nil_of_length_eq_zero (by omega)
    subst hr
    exact ⟨h, by simpa [srtN] using ho, grown_refl _ _⟩
  · exact sort_names w base g cap n r h7 hn8 ho
theorem compactN_any (w : World) (base n cap : Nat) (A : Option Addr) (r : List Nat) (hs : r.Pairwise (· ≤ ·)) (h7 : ∀ i ∈ r, i < 7) (hn8 : n ≤ 1000) (ho : w.ownsRow base 9 1 (.slice A n cap) n (recs nmC r)) :
    Calls Tryz.prog 122 #[.slice A n cap] w fun e w' => e = .returned (.slice A (rkF r).length cap) ∧ w'.ownsRow base 9 1 (.slice A (rkF r).length cap) (rkF r).length (recs nmC (rkF r)) ∧ w.grownBy w' (Value.slice A n cap).ownBlock := by
  rcases own_two ho with ⟨rfl, rfl, rfl⟩ | ⟨g, rfl, _, _⟩
  · refine (Any.slices_Compact_string_empty lay194 none 0 w).mono ?_
    rintro e w' ⟨h, rfl⟩
    have hr : r = [] := by
      have := ho.1
      rw [recs_length nmC_len] at this
      exact List.eq_nil_of_length_eq_zero (by omega)
    subst hr
    have he : rkF [] = [] := by simp [rkF]
    rw [he]
    exact ⟨h, ho, grown_refl _ _⟩
  · exact compact_names w base g cap n r hs h7 hn8 ho

/-- Lists that lie in a row of slices. -/
def LsAt (w : World) (gl : Nat) (ls : List (List Pr)) : Prop := ∀ k l, ls[k]? = some l → ∃ A c, w.cell? ⟨gl, k, none⟩ = some (.slice A l.length c) ∧ Row w w.heap.size A (recs prC l)
def rkK (ls : List (List Pr)) (k : Nat) : List Nat := (ls.take k).flatMap (fun l => l.map (·.1))
theorem rkK_succ {ls : List (List Pr)} {k : Nat} {l : List Pr} (h : ls[k]? = some l) : rkK ls (k + 1) = rkK ls k ++ l.map (·.1) := by
  unfold rkK
  rw [List.take_add_one, h]
  simp
theorem rkK_len (ls : List (List Pr)) (h20 : ∀ l ∈ ls, l.length ≤ 100) : ∀ k, k ≤ ls.length → (rkK ls k).length ≤ 100 * k := by
  intro k
  induction k with
  | zero => intro _; simp [rkK]
  | succ k ih =>
    intro hk
    have h : ls[k]? = some ls[k] := List.getElem?_eq_getElem (by omega)
    rw [rkK_succ h, List.length_append, List.length_map]
    have := ih (by omega)
    have := h20 _ (List.getElem_mem (by omega : k < ls.length))
    omega
theorem rkK_7 {ls : List (List Pr)} (hok : ∀ l ∈ ls, PrsOk l) (k : Nat) : ∀ i ∈ rkK ls k, i < 7 := by
  intro i hi
  simp only [rkK, List.mem_flatMap, List.mem_map] at hi
  obtain ⟨l, hl, p, hp, rfl⟩ := hi
  exact ((hok l (List.mem_of_mem_take hl)).2 p hp).1
theorem Tryz.infoStrN : (Tryz.prog.info? 9).map (fun i => (i.zero, i.size, i.bytes)) = some (some (.string ⟨#[]⟩), 1, 16) := by kernel_rfl
def NmPost (w : World) (ls : List (List Pr)) (e : Ending) (w' : World) : Prop :=
  ∃ A c, e = .returned (.slice A (nmsF ls).length c) ∧ w'.ownsRow w.heap.size 9 1 (.slice A (nmsF ls).length c) (nmsF ls).length (recs nmC (nmsF ls)) ∧ Below w.heap.size w w'
set_option maxRecDepth 100000 in
set_option maxHeartbeats 4000000 in
theorem names_any (w : World) (gl m c : Nat) (ls : List (List Pr)) (hm : ls.length = m) (hm3 : m ≤ 3) (hok : ∀ l ∈ ls, PrsOk l) (h20 : ∀ l ∈ ls, l.length ≤ 100) (hat : LsAt w gl ls) :
    Calls Tryz.prog 81 #[.slice (some ⟨gl, 0, none⟩) m c] w fun e w' => NmPost w ls e w' := by
  obtain ⟨i0, hi0, hz0, hz1, hz2⟩ := info_parts Tryz.infoStrN
  have HL := Lib.hid hok
  have H20 := Lib.hid h20
  have HM := Lib.hid hm
  have HAT := Lib.hid hat
  clear hok h20 hm hat
  go_enter Tryz.func81, Tryz.ntmps81
  go_wp2_with (fail)
  go_loopw [3, 10] (fun v s wr => ∃ k : Nat, k ≤ m ∧ s = .int .i64 (k : Int) ∧ wr.ownsRow w.heap.size 9 1 v (rkK ls k).length (recs nmC (rkK ls k)) ∧ Below w.heap.size w wr) (fun _ s _ => m - (intOf s).toNat)
  case atStart => exact ⟨0, by omega, rfl, World.ownsRow_nil _ _ _ _, Below.refl _ _⟩
  case round =>
    obtain ⟨k, hkm, rfl, hown, hbr⟩ := hrel
    have hbs := hbr.size
    have HB := Lib.hid hbr
    have HO := Lib.hid hown
    have HLK := Lib.hid (rkK_len ls H20.out k (by have := HM.out; omega))
    by_cases hlt : k < m
    · have hltI : (k : Int) < m := by omega
      clear hown
      obtain ⟨l, hl⟩ : ∃ l, ls[k]? = some l := ⟨_, List.getElem?_eq_getElem (by have := HM.out; omega)⟩
      obtain ⟨A, cl, hc, hrow⟩ := HAT.out k l hl
      have hlen := H20.out l (List.mem_of_getElem? hl)
      have hcw := World.block_lt_of_cell? w _ hc
      have hc1 := (hbr.cell (p := ⟨gl, k, none⟩) hcw).trans hc
      have HROW := Lib.hid hrow
      have HLl := Lib.hid hl
      obtain ⟨N, eN⟩ : ∃ N, N = l.length := ⟨_, rfl⟩
      rw [← eN] at hc1 hlen
      have HN := Lib.hid eN
      clear hc hrow hl eN hbr
      obtain ⟨R, eR⟩ : ∃ R, R = rkK ls k := ⟨_, rfl⟩
      rw [← eR] at HO HLK
      have HRE := Lib.hid eR
      have hR300 := HLK.out
      clear eR
      go_wp2_with (fail)
      go_loopw [3, 16] (fun v s wr => ∃ j : Nat, j ≤ N ∧ s = .int .i64 (j : Int) ∧ wr.ownsRow w.heap.size 9 1 v (R.length + j) (recs nmC (R ++ (l.take j).map (·.1))) ∧ Below w.heap.size w wr) (fun _ s _ => N - (intOf s).toNat)
      case atStart => exact ⟨0, by omega, rfl, by simpa using HO.out, HB.out⟩
      case round =>
        obtain ⟨j, hjN, rfl, hown, hbr⟩ := hrel
        have hbs := hbr.size
        have HB := Lib.hid hbr
        have HO := Lib.hid hown
        clear hbr
        by_cases hlt2 : j < N
        · have hltI2 : (j : Int) < N := by omega
          clear hown
          obtain ⟨p, hp⟩ : ∃ p, l[j]? = some p := ⟨_, List.getElem?_eq_getElem (by have := HN.out; omega)⟩
          obtain ⟨b, o, rfl, hb, hC⟩ := (HROW.out.below HB.out).posR prC_len (by omega) (by have := HN.out; omega)
          obtain ⟨c0, c1, c2, c3, c4⟩ := pr_cells hC j p hp
          have HP := Lib.hid hp
          clear hC hp
          go_wp2_with (at_builtin; refine wpList_append_own2 _ rfl _ _ 112 rfl w.heap.size 9 i0 (.string ⟨#[]⟩) 1 16 Tryz.underlying112 hi0 hz0 hz1 hz2 rfl (by decide) _ _ _ rfl ((HO.out.alloc _).alloc _) ⟨wr.heap.size + 1, 0, none⟩ 1 1 [.string (nm p.1)] rfl rfl ?c1 ?c2 ?c3 ?c4 ?c5 ?_)
          case c1 => exact cells_add (cells_atF rfl (by simp))
          case c2 => exact nmC_one p.1
          case c3 => unfold maxLen; omega
          case c4 => omega
          case c5 => simp; omega
          intro v3 w3 ho3 hg3 hm3
          have hlo : ∀ q, u3.ownBlock = some q → w.heap.size ≤ q := fun q hq => (HO.out.lt q hq).1
          have HB3 := Lib.hid (((HB.out.alloc hbs _).alloc (by simp; omega) _).grown hg3 (by simp; omega) hlo)
          have HO3 := Lib.hid ho3
          clear ho3 hg3 hm3 hlo
          go_wp2_with (fail)
          go_roundw
          case rel =>
            refine ⟨j + 1, by omega, by simp, ?_, HB3.out⟩
            have h1 : l.take (j + 1) = l.take j ++ [p] := by rw [List.take_add_one, HP.out]; rfl
            rw [h1, List.map_append, ← List.append_assoc, List.map_singleton, recs_snoc]
            rw [List.map_take]
            exact HO3.out
          case measure => simp [intOf]; omega
        · have hltI2 : ¬ (j : Int) < N := by omega
          have hjN' : j = N := by omega
          subst hjN'
          clear hown
          go_wp2_with (fail)
          go_roundw
          case rel =>
            refine ⟨k + 1, by omega, by simp, ?_, HB.out⟩
            have h1 : rkK ls (k + 1) = R ++ (l.take j).map (·.1) := by
              rw [rkK_succ HLl.out, ← HRE.out, List.take_of_length_le (by have := HN.out; omega)]
            have h2 : (R ++ (l.take j).map (·.1)).length = R.length + j := by
              rw [List.length_append, List.length_map, List.length_take]
              have := HN.out; omega
            rw [h1, h2]
            exact HO.out
          case measure => simp [intOf]; omega
    · have hltI : ¬ (k : Int) < m := by omega
      have hkm' : k = m := by omega
      subst hkm'
      obtain ⟨A, cA, rfl⟩ := own_slice hown
      clear hown hbr
      have h300 := HLK.out
      go_wp2_with (fail)
      refine (sortN_any wr w.heap.size _ cA A (rkK ls k) (rkK_7 HL.out k) (by omega) HO.out).mono ?_
      rintro e w1 ⟨rfl, ho1, hg1⟩
      have hlo1 : ∀ q, (Value.slice A (rkK ls k).length cA).ownBlock = some q → w.heap.size ≤ q := fun q hq => (HO.out.lt q hq).1
      have HB1 := Lib.hid (HB.out.grown hg1 hbs hlo1)
      have HO1 := Lib.hid ho1
      have hs1 := hg1.size
      clear ho1 hg1 hlo1
      go_wp2_with (fail)
      refine (compactN_any w1 w.heap.size _ cA A (srtN (rkK ls k)) (srtN_sorted _) (fun i hi => rkK_7 HL.out k i ((srtN_perm _).mem_iff.1 hi)) (by omega) HO1.out).mono ?_
      rintro e w2 ⟨rfl, ho2, hg2⟩
      have hlo2 : ∀ q, (Value.slice A (rkK ls k).length cA).ownBlock = some q → w.heap.size ≤ q := fun q hq => (HO1.out.lt q hq).1
      have HB2 := Lib.hid (HB1.out.grown hg2 (by omega) hlo2)
      have hrk : rkF (srtN (rkK ls k)) = nmsF ls := by
        rw [← rkF_nms]
        unfold rkF
        refine List.filter_congr (fun i _ => ?_)
        have h1 : rkK ls k = ls.flatMap (fun l => l.map (·.1)) := by
          unfold rkK; rw [List.take_of_length_le (by have := HM.out; omega)]
        rw [← h1]
        have := (srtN_perm (rkK ls k)).mem_iff (a := i)
        simp only [List.contains_eq_mem, this]
      rw [hrk] at ho2 ⊢
      have HF := Lib.hid (show NmPost w ls (.returned (.slice A (nmsF ls).length cA)) w2 from ⟨A, cA, rfl, ho2, HB2.out⟩)
      clear ho2 hg2 hlo2 hrk
      go_wp2_with (fail)
      go_ret
      exact HF.out
end Go.Proofs.YtkcpfppjdjkjeaaGreatDoor
