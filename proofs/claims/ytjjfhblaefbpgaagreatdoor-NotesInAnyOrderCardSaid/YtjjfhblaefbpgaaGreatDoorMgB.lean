/- Several texts in one: Lay147, Lay101, Lay172, TxP, Rec, PrZ, TxN, Del, TxM, TxU, Lay104, Lay146, TxE, PrP, NoP, NoT, Lay196, U8, Stream, FxF, NoA, Qt, Qtt, Qp, NoR. -/
import Derived.Test.YtjjfhblaefbpgaaGreatDoorProg
import Derived.Shelf.Strings.Split
import Derived.Shelf.Strings.Prefix
import Derived.Shelf.Strconv.Atoi
import Derived.Lib.SplitLaws
import Derived.Lib.IndexBytes
import Derived.Test.YtjjfhblaefbpgaaGreatDoorMgA
import Derived.Lib.Strings
import Derived.Lib.AtoiErrMem
import Derived.Lib.SliceRun
import Derived.Deep.RegionLaw
import Derived.Laws.BytesString
import Derived.Shelf.Small.Wraps
import Derived.Lib.ItoaNum
import Derived.Shelf.Unicode.ValidAny
import Derived.Deep.CutRange
import Derived.Deep.QuietTactic
import Derived.BigQuiet
import Derived.StillTail
import Derived.BigRegion

/- The shelf's Lays.n147 at this program. -/
namespace Go.Proofs.YtjjfhblaefbpgaaGreatDoor
open Go.RowKit Go.Shelf

def lay147_ren : Go.Shelf.Ren := ⟨fun | 147 => 89 | 221 => 127 | 268 => 162 | 138 => 158 | 143 => 159 | 195 => 190 | 197 => 160 | 218 => 191 | 219 => 192 | 260 => 193 | 217 => 219 | 225 => 220 | 224 => 221 | 267 => 222 | 266 => 231 | 314 => 232 | n => n, fun | 9 => 9 | 3 => 3 | 31 => 28 | 4 => 4 | 0 => 0 | 105 => 214 | 21 => 21 | 5 => 5 | 46 => 173 | 119 => 235 | 139 => 238 | 138 => 237 | 146 => 271 | 51 => 205 | n => n, fun | 1 => 0 | 3 => 1 | 4 => 2 | n => n⟩
theorem lay147 : Lays.n147 Tryz.prog lay147_ren := {
  mixed := by kernel_rfl,
  f138 := Tryz.func158.trans (congrArg some (by kernel_rfl)),
  f143 := Tryz.func159.trans (congrArg some (by kernel_rfl)),
  f147 := Tryz.func89.trans (congrArg some (by kernel_rfl)),
  f195 := Tryz.func190.trans (congrArg some (by kernel_rfl)),
  f197 := Tryz.func160.trans (congrArg some (by kernel_rfl)),
  f217 := Tryz.func219.trans (congrArg some (by kernel_rfl)),
  f218 := Tryz.func191.trans (congrArg some (by kernel_rfl)),
  f219 := Tryz.func192.trans (congrArg some (by kernel_rfl)),
  f221 := Tryz.func127.trans (congrArg some (by kernel_rfl)),
  f224 := Tryz.func221.trans (congrArg some (by kernel_rfl)),
  f225 := Tryz.func220.trans (congrArg some (by kernel_rfl)),
  f260 := Tryz.func193.trans (congrArg some (by kernel_rfl)),
  f266 := Tryz.func231.trans (congrArg some (by kernel_rfl)),
  f267 := Tryz.func222.trans (congrArg some (by kernel_rfl)),
  f268 := Tryz.func162.trans (congrArg some (by kernel_rfl)),
  f314 := Tryz.func232.trans (congrArg some (by kernel_rfl)),
  t0 := Tryz.underlying0,
  a0 := Tryz.isAgg0,
  z0 := Tryz.sizeOf0,
  v0 := Tryz.zeroValue0,
  t3 := Tryz.underlying3,
  a3 := Tryz.isAgg3,
  z3 := Tryz.sizeOf3,
  v3 := Tryz.zeroValue3,
  t4 := Tryz.underlying4,
  a4 := Tryz.isAgg4,
  z4 := Tryz.sizeOf4,
  v4 := Tryz.zeroValue4,
  t5 := Tryz.underlying5,
  a5 := Tryz.isAgg5,
  z5 := Tryz.sizeOf5,
  v5 := Tryz.zeroValue5,
  t9 := Tryz.underlying9,
  a9 := Tryz.isAgg9,
  z9 := Tryz.sizeOf9,
  v9 := Tryz.zeroValue9,
  t21 := Tryz.underlying21,
  a21 := Tryz.isAgg21,
  z21 := Tryz.sizeOf21,
  v21 := Tryz.zeroValue21,
  t31 := Tryz.underlying28,
  a31 := Tryz.isAgg28,
  z31 := Tryz.sizeOf28,
  v31 := Tryz.zeroValue28,
  t46 := Tryz.underlying173,
  a46 := Tryz.isAgg173,
  z46 := Tryz.sizeOf173,
  v46 := Tryz.zeroValue173,
  t51 := Tryz.underlying205,
  a51 := Tryz.isAgg205,
  z51 := Tryz.sizeOf205,
  v51 := Tryz.zeroValue205,
  t105 := Tryz.underlying214,
  a105 := Tryz.isAgg214,
  z105 := Tryz.sizeOf214,
  v105 := Tryz.zeroValue214,
  t119 := Tryz.underlying235,
  a119 := Tryz.isAgg235,
  z119 := Tryz.sizeOf235,
  t138 := Tryz.underlying237,
  a138 := Tryz.isAgg237,
  z138 := Tryz.sizeOf237,
  v138 := Tryz.zeroValue237,
  t139 := Tryz.underlying238,
  a139 := Tryz.isAgg238,
  z139 := Tryz.sizeOf238,
  v139 := Tryz.zeroValue238,
  t146 := Tryz.underlying271,
  a146 := Tryz.isAgg271,
  z146 := Tryz.sizeOf271,
  v146 := Tryz.zeroValue271,
  g1 := by kernel_rfl,
  g3 := by kernel_rfl,
  g4 := by kernel_rfl }
end Go.Proofs.YtjjfhblaefbpgaaGreatDoor

/- The shelf's Lays.n101 at this program. -/
namespace Go.Proofs.YtjjfhblaefbpgaaGreatDoor
open Go.RowKit Go.Shelf

def lay101_ren : Go.Shelf.Ren := ⟨fun | 101 => 146 | 208 => 179 | 206 => 208 | n => n, fun | 9 => 9 | 4 => 4 | 3 => 3 | n => n, fun  | n => n⟩
theorem lay101 : Lays.n101 Tryz.prog lay101_ren := {
  mixed := by kernel_rfl,
  f101 := Tryz.func146.trans (congrArg some (by kernel_rfl)),
  f206 := Tryz.func208.trans (congrArg some (by kernel_rfl)),
  f208 := Tryz.func179.trans (congrArg some (by kernel_rfl)),
  t3 := Tryz.underlying3,
  a3 := Tryz.isAgg3,
  z3 := Tryz.sizeOf3,
  v3 := Tryz.zeroValue3,
  t4 := Tryz.underlying4,
  a4 := Tryz.isAgg4,
  z4 := Tryz.sizeOf4,
  v4 := Tryz.zeroValue4,
  t9 := Tryz.underlying9,
  a9 := Tryz.isAgg9,
  z9 := Tryz.sizeOf9,
  v9 := Tryz.zeroValue9 }
end Go.Proofs.YtjjfhblaefbpgaaGreatDoor

/- The shelf's Lays.n172 at this program. -/
namespace Go.Proofs.YtjjfhblaefbpgaaGreatDoor
open Go.RowKit Go.Shelf

def lay172_ren : Go.Shelf.Ren := ⟨fun | 172 => 147 | 244 => 180 | 245 => 181 | 247 => 209 | 279 => 210 | 280 => 211 | 281 => 212 | 282 => 213 | 287 => 228 | 316 => 229 | 171 => 36 | 205 => 230 | 321 => 234 | 322 => 235 | 243 => 86 | 246 => 124 | 283 => 154 | 284 => 155 | 285 => 156 | 286 => 157 | 129 => 145 | 317 => 186 | 318 => 187 | 319 => 188 | 320 => 189 | 337 => 217 | 338 => 218 | n => n, fun | 9 => 9 | 3 => 3 | 75 => 86 | 76 => 87 | 4 => 4 | 5 => 5 | 167 => 255 | 37 => 48 | 0 => 0 | 85 => 256 | 2 => 2 | 168 => 258 | 53 => 116 | 175 => 264 | 46 => 173 | 210 => 267 | 127 => 147 | 145 => 277 | 143 => 275 | 21 => 21 | 171 => 210 | 173 => 212 | 212 => 240 | 51 => 205 | 20 => 20 | 213 => 241 | 232 => 269 | 233 => 270 | 80 => 77 | n => n, fun | 15 => 4 | 16 => 5 | 17 => 3 | 18 => 6 | 19 => 7 | n => n⟩
theorem lay172 : Lays.n172 Tryz.prog lay172_ren := {
  mixed := by kernel_rfl,
  f129 := Tryz.func145.trans (congrArg some (by kernel_rfl)),
  f171 := Tryz.func36.trans (congrArg some (by kernel_rfl)),
  f172 := Tryz.func147.trans (congrArg some (by kernel_rfl)),
  f205 := Tryz.func230.trans (congrArg some (by kernel_rfl)),
  f243 := Tryz.func86.trans (congrArg some (by kernel_rfl)),
  f244 := Tryz.func180.trans (congrArg some (by kernel_rfl)),
  f245 := Tryz.func181.trans (congrArg some (by kernel_rfl)),
  f246 := Tryz.func124.trans (congrArg some (by kernel_rfl)),
  f247 := Tryz.func209.trans (congrArg some (by kernel_rfl)),
  f279 := Tryz.func210.trans (congrArg some (by kernel_rfl)),
  f280 := Tryz.func211.trans (congrArg some (by kernel_rfl)),
  f281 := Tryz.func212.trans (congrArg some (by kernel_rfl)),
  f282 := Tryz.func213.trans (congrArg some (by kernel_rfl)),
  f283 := Tryz.func154.trans (congrArg some (by kernel_rfl)),
  f284 := Tryz.func155.trans (congrArg some (by kernel_rfl)),
  f285 := Tryz.func156.trans (congrArg some (by kernel_rfl)),
  f286 := Tryz.func157.trans (congrArg some (by kernel_rfl)),
  f287 := Tryz.func228.trans (congrArg some (by kernel_rfl)),
  f316 := Tryz.func229.trans (congrArg some (by kernel_rfl)),
  f317 := Tryz.func186.trans (congrArg some (by kernel_rfl)),
  f318 := Tryz.func187.trans (congrArg some (by kernel_rfl)),
  f319 := Tryz.func188.trans (congrArg some (by kernel_rfl)),
  f320 := Tryz.func189.trans (congrArg some (by kernel_rfl)),
  f321 := Tryz.func234.trans (congrArg some (by kernel_rfl)),
  f322 := Tryz.func235.trans (congrArg some (by kernel_rfl)),
  f337 := Tryz.func217.trans (congrArg some (by kernel_rfl)),
  f338 := Tryz.func218.trans (congrArg some (by kernel_rfl)),
  t0 := Tryz.underlying0,
  a0 := Tryz.isAgg0,
  z0 := Tryz.sizeOf0,
  v0 := Tryz.zeroValue0,
  t2 := Tryz.underlying2,
  a2 := Tryz.isAgg2,
  z2 := Tryz.sizeOf2,
  v2 := Tryz.zeroValue2,
  t3 := Tryz.underlying3,
  a3 := Tryz.isAgg3,
  z3 := Tryz.sizeOf3,
  v3 := Tryz.zeroValue3,
  t4 := Tryz.underlying4,
  a4 := Tryz.isAgg4,
  z4 := Tryz.sizeOf4,
  v4 := Tryz.zeroValue4,
  t5 := Tryz.underlying5,
  a5 := Tryz.isAgg5,
  z5 := Tryz.sizeOf5,
  v5 := Tryz.zeroValue5,
  t9 := Tryz.underlying9,
  a9 := Tryz.isAgg9,
  z9 := Tryz.sizeOf9,
  v9 := Tryz.zeroValue9,
  t20 := Tryz.underlying20,
  a20 := Tryz.isAgg20,
  z20 := Tryz.sizeOf20,
  v20 := Tryz.zeroValue20,
  t21 := Tryz.underlying21,
  a21 := Tryz.isAgg21,
  z21 := Tryz.sizeOf21,
  v21 := Tryz.zeroValue21,
  t37 := Tryz.underlying48,
  a37 := Tryz.isAgg48,
  z37 := Tryz.sizeOf48,
  v37 := Tryz.zeroValue48,
  t46 := Tryz.underlying173,
  a46 := Tryz.isAgg173,
  z46 := Tryz.sizeOf173,
  v46 := Tryz.zeroValue173,
  t51 := Tryz.underlying205,
  a51 := Tryz.isAgg205,
  z51 := Tryz.sizeOf205,
  v51 := Tryz.zeroValue205,
  t53 := Tryz.underlying116,
  a53 := Tryz.isAgg116,
  z53 := Tryz.sizeOf116,
  v53 := Tryz.zeroValue116,
  t75 := Tryz.underlying86,
  a75 := Tryz.isAgg86,
  z75 := Tryz.sizeOf86,
  v75 := Tryz.zeroValue86,
  t76 := Tryz.underlying87,
  a76 := Tryz.isAgg87,
  z76 := Tryz.sizeOf87,
  v76 := Tryz.zeroValue87,
  t85 := Tryz.underlying256,
  a85 := Tryz.isAgg256,
  z85 := Tryz.sizeOf256,
  v85 := Tryz.zeroValue256,
  t127 := Tryz.underlying147,
  a127 := Tryz.isAgg147,
  z127 := Tryz.sizeOf147,
  v127 := Tryz.zeroValue147,
  t143 := Tryz.underlying275,
  a143 := Tryz.isAgg275,
  z143 := Tryz.sizeOf275,
  v143 := Tryz.zeroValue275,
  t145 := Tryz.underlying277,
  a145 := Tryz.isAgg277,
  z145 := Tryz.sizeOf277,
  v145 := Tryz.zeroValue277,
  t167 := Tryz.underlying255,
  a167 := Tryz.isAgg255,
  z167 := Tryz.sizeOf255,
  v167 := Tryz.zeroValue255,
  t168 := Tryz.underlying258,
  a168 := Tryz.isAgg258,
  z168 := Tryz.sizeOf258,
  v168 := Tryz.zeroValue258,
  t171 := Tryz.underlying210,
  a171 := Tryz.isAgg210,
  z171 := Tryz.sizeOf210,
  v171 := Tryz.zeroValue210,
  t173 := Tryz.underlying212,
  a173 := Tryz.isAgg212,
  z173 := Tryz.sizeOf212,
  v173 := Tryz.zeroValue212,
  t175 := Tryz.underlying264,
  a175 := Tryz.isAgg264,
  z175 := Tryz.sizeOf264,
  v175 := Tryz.zeroValue264,
  t210 := Tryz.underlying267,
  a210 := Tryz.isAgg267,
  z210 := Tryz.sizeOf267,
  v210 := Tryz.zeroValue267,
  t212 := Tryz.underlying240,
  a212 := Tryz.isAgg240,
  z212 := Tryz.sizeOf240,
  v212 := Tryz.zeroValue240,
  t213 := Tryz.underlying241,
  a213 := Tryz.isAgg241,
  z213 := Tryz.sizeOf241,
  t232 := Tryz.underlying269,
  a232 := Tryz.isAgg269,
  z232 := Tryz.sizeOf269,
  v232 := Tryz.zeroValue269,
  t233 := Tryz.underlying270,
  a233 := Tryz.isAgg270,
  z233 := Tryz.sizeOf270,
  v233 := Tryz.zeroValue270,
  g15 := by kernel_rfl,
  g16 := by kernel_rfl,
  g17 := by kernel_rfl,
  g18 := by kernel_rfl,
  g19 := by kernel_rfl }
end Go.Proofs.YtjjfhblaefbpgaaGreatDoor

/- Texts cut at a byte: the plain laws; no program in sight. -/
namespace Go.Proofs.YtjjfhblaefbpgaaGreatDoor

theorem index_in (c : UInt8) : ∀ (p r : List UInt8), c ∉ p → Lib.index (p ++ c :: r) [c] = (p.length : Int)
  | [], r, _ => by rw [List.nil_append, Lib.index_one]; simp [Lib.indexByte]
  | b :: p, r, h => by
    have ih := index_in c p r (fun hm => h (List.mem_cons_of_mem _ hm))
    have hb : (b == c) = false := by simp only [beq_eq_false_iff_ne]; intro e; exact h (e ▸ List.mem_cons_self)
    rw [Lib.index_one] at ih ⊢
    rw [List.cons_append, Lib.indexByte, hb, ih]
    have : ((p.length : Int) == -1) = false := by simp only [beq_eq_false_iff_ne]; omega
    rw [this]
    simp
theorem index_out (c : UInt8) : ∀ (p : List UInt8), c ∉ p → Lib.index p [c] = -1
  | [], _ => by rw [Lib.index_one]; rfl
  | b :: p, h => by
    have ih := index_out c p (fun hm => h (List.mem_cons_of_mem _ hm))
    have hb : (b == c) = false := by simp only [beq_eq_false_iff_ne]; intro e; exact h (e ▸ List.mem_cons_self)
    rw [Lib.index_one] at ih ⊢
    rw [Lib.indexByte, hb, ih]
    rfl
theorem splitK_cut (c : UInt8) (k : Nat) (p r : List UInt8) (h : c ∉ p) : Lib.splitK [c] 0 (k + 1) (p ++ c :: r) = p :: Lib.splitK [c] 0 k r := by
  have hi := index_in c p r h
  have hm : ¬ (Lib.index (p ++ c :: r) [c] == -1) = true := fun e => by have := beq_iff_eq.1 e; omega
  rw [Lib.splitK, if_neg hm, hi]
  simp
theorem splitK_end (c : UInt8) (k : Nat) (p : List UInt8) (h : c ∉ p) : Lib.splitK [c] 0 k p = [p] := by
  cases k with
  | zero => rfl
  | succ k => rw [Lib.splitK, if_pos (by rw [index_out c p h]; rfl)]
/-- The words of a line, with c between. -/
def joinC (c : UInt8) : List (List UInt8) → List UInt8
  | [] => []
  | [p] => p
  | p :: q :: r => p ++ c :: joinC c (q :: r)
theorem splitK_join (c : UInt8) : ∀ (l : List (List UInt8)) (k : Nat), l ≠ [] → (∀ p ∈ l, c ∉ p) → l.length ≤ k + 1 → Lib.splitK [c] 0 k (joinC c l) = l
  | [], _, h, _, _ => absurd rfl h
  | [p], k, _, h, _ => splitK_end c k p (h p (by simp))
  | p :: q :: r, k, _, h, hk => by
    cases k with
    | zero => simp at hk
    | succ k =>
      rw [joinC, splitK_cut c k p _ (h p (by simp)), splitK_join c (q :: r) k (by simp) (fun x hx => h x (List.mem_cons_of_mem _ hx)) (by simp at hk ⊢; omega)]
theorem bytes_ext {s t : ByteArray} (h : s.data.toList = t.data.toList) : s = t := by
  cases s; cases t
  simp only at h
  congr 1
  exact Array.toList_inj.1 h
theorem map_bytes {l : List ByteArray} {m : List (List UInt8)} (h : l.map (·.data.toList) = m) : l = m.map (fun p => ⟨p.toArray⟩) := by
  subst h
  rw [List.map_map]
  induction l with
  | nil => rfl
  | cons x l ih =>
    rw [List.map_cons, ← ih]
    congr 1
theorem splitB_join (c : UInt8) (l : List (List UInt8)) (k : Nat) (h0 : l ≠ []) (h : ∀ p ∈ l, c ∉ p) (hk : l.length ≤ k + 1) : Lib.splitB ⟨#[c]⟩ 0 k ⟨(joinC c l).toArray⟩ = l.map (fun p => ⟨p.toArray⟩) := by
  refine map_bytes ?_
  rw [Lib.splitB_data]
  exact splitK_join c l k h0 h hk
theorem count_join (c : UInt8) : ∀ (l : List (List UInt8)), l ≠ [] → (∀ p ∈ l, c ∉ p) → (joinC c l).count c + 1 = l.length
  | [], h, _ => absurd rfl h
  | [p], _, h => by
    rw [joinC, List.count_eq_zero.2 (h p (by simp))]
    rfl
  | p :: q :: r, _, h => by
    have ih := count_join c (q :: r) (by simp) (fun x hx => h x (List.mem_cons_of_mem _ hx))
    rw [joinC, List.count_append, List.count_eq_zero.2 (h p (by simp)), List.count_cons_self]
    simp only [List.length_cons] at ih ⊢
    omega
/-- A text of lines: each ended by c. -/
def linesC (c : UInt8) (l : List (List UInt8)) : List UInt8 := l.flatMap (fun p => p ++ [c])
theorem linesC_join (c : UInt8) : ∀ (l : List (List UInt8)), l ≠ [] → linesC c l = joinC c l ++ [c]
  | [], h => absurd rfl h
  | [p], _ => by simp [linesC, joinC]
  | p :: q :: r, _ => by
    have ih := linesC_join c (q :: r) (by simp)
    unfold linesC at ih ⊢
    rw [List.flatMap_cons, ih, joinC]
    simp
theorem linesC_snoc (c : UInt8) (l : List (List UInt8)) (p : List UInt8) : linesC c (l ++ [p]) = linesC c l ++ (p ++ [c]) := by simp [linesC]
theorem linesC_suffix (c : UInt8) (l : List (List UInt8)) (h : l ≠ []) : Lib.hasSuffix (linesC c l) [c] = true ∧ Lib.trimSuffix (linesC c l) [c] = joinC c l := by
  have hs : Lib.hasSuffix (linesC c l) [c] = true := by
    unfold Lib.hasSuffix
    rw [List.isSuffixOf_iff_suffix, linesC_join c l h]
    exact List.suffix_append _ _
  refine ⟨hs, ?_⟩
  unfold Lib.trimSuffix
  rw [if_pos hs, linesC_join c l h]
  simp
end Go.Proofs.YtjjfhblaefbpgaaGreatDoor

/- Rows of records: plain lemmas on memory; no program in sight. -/
namespace Go.Proofs.YtjjfhblaefbpgaaGreatDoor
open Go.RowKit

/-- The cells of records, each of k cells. -/
def recs {α : Type} (f : α → List Value) (l : List α) : List Value := l.flatMap f
theorem recs_nil {α : Type} (f : α → List Value) : recs f [] = [] := rfl
theorem recs_append {α : Type} (f : α → List Value) (a b : List α) : recs f (a ++ b) = recs f a ++ recs f b := by simp [recs]
theorem recs_snoc {α : Type} (f : α → List Value) (a : List α) (x : α) : recs f (a ++ [x]) = recs f a ++ f x := by simp [recs]
section
variable {α : Type} {f : α → List Value} {k : Nat}
theorem recs_length (hf : ∀ x, (f x).length = k) (l : List α) : (recs f l).length = l.length * k := by
  induction l with
  | nil => simp [recs]
  | cons x l ih => simp only [recs, List.flatMap_cons, List.length_append, List.length_cons] at ih ⊢; rw [ih, hf, Nat.succ_mul]; omega
theorem recs_get (hf : ∀ x, (f x).length = k) (l : List α) (i : Nat) (x : α) (h : l[i]? = some x) (j : Nat) (hj : j < k) : (recs f l)[i * k + j]? = (f x)[j]? := by
  induction l generalizing i with
  | nil => simp at h
  | cons y l ih =>
    cases i with
    | zero =>
      simp only [List.getElem?_cons_zero, Option.some.injEq] at h
      subst h
      simp only [recs, List.flatMap_cons]
      rw [List.getElem?_append_left (by rw [hf]; omega)]
      simp
    | succ i =>
      simp only [List.getElem?_cons_succ] at h
      have := ih i h
      simp only [recs, List.flatMap_cons] at this ⊢
      rw [List.getElem?_append_right (by rw [hf, Nat.succ_mul]; omega), ← this, hf]
      congr 1
      rw [Nat.succ_mul]; omega
theorem rec_cell (hf : ∀ x, (f x).length = k) {w : World} {b o : Nat} {l : List α} (h : Cells w b o (recs f l)) (i : Nat) (x : α) (hx : l[i]? = some x) (j : Nat) (u : Value) (hj : (f x)[j]? = some u) : w.cell? ⟨b, o + i * k + j, none⟩ = some u := by
  have hjk : j < k := by have := (List.getElem?_eq_some_iff.1 hj).1; rw [hf] at this; exact this
  have := h (i * k + j) u ((recs_get hf l i x hx j hjk).trans hj)
  rwa [← Nat.add_assoc] at this
theorem Row.posR (hf : ∀ x, (f x).length = k) (hk : 0 < k) {w : World} {B : Nat} {A : Option Addr} {l : List α} (h : Row w B A (recs f l)) (hl : 0 < l.length) : ∃ b o, A = some ⟨b, o, none⟩ ∧ b < B ∧ Cells w b o (recs f l) := by
  rcases h with h | h
  · have := recs_length hf l
    rw [h] at this
    simp only [List.length_nil] at this
    have := Nat.mul_pos hl hk
    omega
  · exact h
theorem recs_one (h1 : ∀ x, ∀ u ∈ f x, u.oneCell' = true) (l : List α) : ∀ u ∈ recs f l, u.oneCell' = true := by
  intro u hu
  simp only [recs, List.mem_flatMap] at hu
  obtain ⟨x, _, hx⟩ := hu
  exact h1 x u hx
theorem recs_drop (hf : ∀ x, (f x).length = k) (l : List α) (i : Nat) : (recs f l).drop (i * k) = recs f (l.drop i) := by
  induction l generalizing i with
  | nil => simp [recs]
  | cons y l ih =>
    cases i with
    | zero => simp
    | succ i =>
      simp only [recs, List.flatMap_cons, List.drop_succ_cons] at ih ⊢
      rw [Nat.succ_mul, Nat.add_comm, ← List.drop_drop, List.drop_left' (hf y), ih]
end
theorem Cells.drop {w : World} {b o : Nat} {xs : List Value} (h : Cells w b o xs) (i : Nat) : Cells w b (o + i) (xs.drop i) := by
  intro j u hu
  rw [List.getElem?_drop] at hu
  have := h (i + j) u hu
  rwa [← Nat.add_assoc] at this
theorem Cells.take {w : World} {b o : Nat} {xs : List Value} (h : Cells w b o xs) (i : Nat) : Cells w b o (xs.take i) := by
  intro j u hu
  rw [List.getElem?_take] at hu
  split at hu
  · exact h j u hu
  · cases hu
/-- A row that is owned, read from an element on. -/
theorem Row.dropR {α : Type} {f : α → List Value} {k : Nat} (hf : ∀ x, (f x).length = k) {w : World} {B b o : Nat} {l : List α} (h : Cells w b o (recs f l)) (hb : b < B) (i : Nat) : Row w B (some ⟨b, o + i * k, none⟩) (recs f (l.drop i)) := by
  have := h.drop (i * k)
  rw [recs_drop hf] at this
  exact .inr ⟨b, _, rfl, hb, this⟩
theorem own_cap {w : World} {base : Nat} {e : TypeId} {size n : Nat} {A : Option Addr} {c : Nat} {xs : List Value} (h : w.ownsRow base e size (.slice A n c) n xs) : n ≤ c := by
  rcases h.2 with ⟨hv, hn⟩ | ⟨g, cap, cur, hv, _, _, hc, _⟩
  · omega
  · injection hv with _ _ hc'
    omega
theorem own_two {w : World} {base : Nat} {e : TypeId} {size n : Nat} {A : Option Addr} {c : Nat} {xs : List Value} (h : w.ownsRow base e size (.slice A n c) n xs) : (A = none ∧ n = 0 ∧ c = 0) ∨ ∃ g, A = some ⟨g, 0, none⟩ ∧ base ≤ g ∧ g < w.heap.size := by
  rcases h.2 with ⟨hv, hn⟩ | ⟨g, cap, cur, hv, hb, hh, hc, _⟩
  · injection hv with h1 h2 h3
    exact .inl ⟨h1, hn, h3⟩
  · injection hv with h1 h2 h3
    exact .inr ⟨g, h1, hb, (Array.getElem?_eq_some_iff.1 hh).1⟩
end Go.Proofs.YtjjfhblaefbpgaaGreatDoor

/- Owned rows kept, worlds grown; equal texts; no program in sight. -/
namespace Go.Proofs.YtjjfhblaefbpgaaGreatDoor
open Go.RowKit

theorem own_belowP {w w' : World} {base : Nat} {e : TypeId} {size n : Nat} {v : Value} {xs : List Value} (h : w.ownsRow base e size v n xs) (hb : Below w.heap.size w w') : w'.ownsRow base e size v n xs := by
  refine h.kept (row := none) ⟨hb.os, hb.tape, hb.output, hb.size, fun i hi _ => hb.block i hi⟩ ?_
  cases hv : v.ownBlock with
  | none => exact .inl rfl
  | some g => exact .inr (by simp)
theorem toList_same (s t : ByteArray) : (s.toList = t.toList) = (s = t) := by
  apply propext
  constructor
  · intro h
    rw [Lib.toList_data, Lib.toList_data] at h
    cases s; cases t
    simpa using h
  · rintro rfl; rfl
theorem own_neG {w w' : World} {base : Nat} {e : TypeId} {size n : Nat} {v : Value} {xs : List Value} {g : Nat} (h : w.ownsRow base e size v n xs) (hg : w.grownBy w' (some g)) (hne : ∀ q, v.ownBlock = some q → q ≠ g) : w'.ownsRow base e size v n xs := by
  refine h.kept (row := some g) hg ?_
  cases hv : v.ownBlock with
  | none => exact .inl rfl
  | some q => exact .inr (by have := hne q hv; simpa using this)
theorem own_apart {w : World} {base base' : Nat} {e e' : TypeId} {size size' n n' : Nat} {v v' : Value} {xs xs' : List Value} (h : w.ownsRow base e size v n xs) (h' : w.ownsRow base' e' size' v' n' xs') (hne : e' ≠ e) : v.ownBlock = none ∨ v.ownBlock ≠ v'.ownBlock := by
  rcases h.2 with ⟨rfl, _⟩ | ⟨g, cap, cur, rfl, _, hh, _⟩
  · exact .inl rfl
  · exact .inr (own_ne h' hh hne)
theorem grown_more {w w1 w2 : World} {r row : Option Nat} (h : w.grownBy w1 r) (h2 : w1.grownBy w2 row) (hr : ∀ g, row = some g → w.heap.size ≤ g) : w.grownBy w2 r :=
  ⟨h2.os.trans h.os, h2.tape.trans h.tape, h2.output.trans h.output, Nat.le_trans h.size h2.size, fun k hk hne => (h2.block k (by have := h.size; omega) (by intro e; have := hr _ e.symm; omega)).trans (h.block k hk hne)⟩
theorem grown_belowP {w w' : World} {r : Option Nat} (hb : Below w.heap.size w w') : w.grownBy w' r := ⟨hb.os, hb.tape, hb.output, hb.size, fun i hi _ => hb.block i hi⟩
end Go.Proofs.YtjjfhblaefbpgaaGreatDoor

/- base.Number of a right numeral by its contract. -/
namespace Go.Proofs.YtjjfhblaefbpgaaGreatDoor
open Go.RowKit Go.Shelf

/-- d is the numeral s without its sign; it is written as Number wants it, and is n. -/
structure NumW (s d : ByteArray) (n : Int) : Prop where
  trim : Lib.trimPrefix s.data.toList [45] = d.data.toList
  pos : 0 < d.size
  few : d.size ≤ 15
  few2 : s.size ≤ 16
  digit : ∀ j (h : j < d.size), 48 ≤ ((d[j]'h).toNat : Int) ∧ ((d[j]'h).toNat : Int) ≤ 57
  zero : ∀ (h : 0 < d.size), ((d[0]'h).toNat : Int) = 48 → d.size = 1 ∧ s.size = 1
  val : Lib.atoi s.data.toList = some n
theorem empty_of {s : ByteArray} (h0 : 0 < s.size) : s.toList.isEmpty = false := by
  cases hl : s.toList with
  | nil =>
    have : s.toList.length = s.size := by rw [Lib.toList_data]; simp
    rw [hl] at this; simp at this; omega
  | cons x l => rfl
set_option maxHeartbeats 2000000 in
theorem number_any (s d : ByteArray) (n : Int) (w : World) (h : NumW s d n) : Calls Tryz.prog 109 #[.string s, .int .i64 15] w fun e w' => e = .returned (.tuple #[.int .i64 n, .bool true]) ∧ Below w.heap.size w w' := by
  have HP := Lib.hid (fun V => show Calls Tryz.prog 146 #[.string s, .string ⟨#[45]⟩] V fun e w' => e = .returned (.string d) ∧ V = w' from
    (Any.strings_TrimPrefix lay101 s ⟨#[45]⟩ V).mono (fun e w' hh => ⟨by rw [hh.1, h.trim], hh.2.symm⟩))
  have HA := Lib.hid (fun V => show Calls Tryz.prog 147 #[.string s] V fun e w' => e = .returned (.tuple #[.int .i64 n, .nilIface]) ∧ Below V.heap.size V w' from
    (Any.strconv_Atoi lay172 s n (by have := h.few2; omega) h.val V).mono (fun e w' hh => ⟨hh.1, by obtain ⟨t, rfl⟩ := hh.2; exact Lib.bytesWorld_below _ _ _⟩))
  have HD := Lib.hid h.digit
  have h0 := h.pos
  have h15 := h.few
  have hz := h.zero h0
  have hem : d.toList.isEmpty = false := empty_of h0
  clear h
  go_enter Tryz.func109, Tryz.ntmps109
  go_wp2_with (fail)
  refine (HP.out w).mono ?_
  rintro e w' ⟨rfl, rfl⟩
  by_cases h48 : ((d[0]'h0).toNat : Int) = 48
  · obtain ⟨h1, h2⟩ := hz h48
    have hn1 : ¬ (1 : Int) < d.size := by omega
    have hn2 : ¬ (d.size : Int) < s.size := by omega
    clear hz
    go_upto_region 5 with (fail)
    go_loopw [39] (fun i wr => ∃ k : Nat, k ≤ d.size ∧ i = .int .i64 k ∧ Below w.heap.size w wr) (fun i _ => d.size - (intOf i).toNat)
    case atStart => exact ⟨0, Nat.zero_le _, rfl, Below.refl _ _⟩
    case round =>
      obtain ⟨k, hk, rfl, hbr⟩ := hrel
      have hbs := hbr.size
      have HB := Lib.hid hbr
      clear hbr
      by_cases hlt : k < d.size
      · have hlt1 : k < d.size := by omega
        have hltI : (k : Int) < d.size := by omega
        obtain ⟨a1, a2⟩ := HD.out k hlt1
        go_wp2_with (fail)
        go_roundw
        case rel => exact ⟨k + 1, by omega, by go_num, HB.out⟩
        case measure => simp [intOf]; omega
      · have hltI : ¬ (k : Int) < d.size := by omega
        go_wp2_with (fail)
        refine (HA.out wr).mono ?_
        rintro e w2 ⟨rfl, hb2⟩
        have HB2 := Lib.hid (HB.out.trans (hb2.mono hbs))
        clear hb2
        go_wp2_with (fail)
        go_quiet (fail)
        go_wp2_with (fail)
        refine bodyPost_ret (v := .tuple #[.int .i64 n, .bool true]) (by simp [results, Tryz.results109, go_sem]) rfl ⟨rfl, below_drewN HB2.out _⟩
  · have hn48 : ¬ ((d[0]'h0).toNat : Int) = 48 := h48
    clear hz
    go_upto_region 5 with (fail)
    go_loopw [39] (fun i wr => ∃ k : Nat, k ≤ d.size ∧ i = .int .i64 k ∧ Below w.heap.size w wr) (fun i _ => d.size - (intOf i).toNat)
    case atStart => exact ⟨0, Nat.zero_le _, rfl, Below.refl _ _⟩
    case round =>
      obtain ⟨k, hk, rfl, hbr⟩ := hrel
      have hbs := hbr.size
      have HB := Lib.hid hbr
      clear hbr
      by_cases hlt : k < d.size
      · have hlt1 : k < d.size := by omega
        have hltI : (k : Int) < d.size := by omega
        obtain ⟨a1, a2⟩ := HD.out k hlt1
        go_wp2_with (fail)
        go_roundw
        case rel => exact ⟨k + 1, by omega, by go_num, HB.out⟩
        case measure => simp [intOf]; omega
      · have hltI : ¬ (k : Int) < d.size := by omega
        go_wp2_with (fail)
        refine (HA.out wr).mono ?_
        rintro e w2 ⟨rfl, hb2⟩
        have HB2 := Lib.hid (HB.out.trans (hb2.mono hbs))
        clear hb2
        go_wp2_with (fail)
        go_quiet (fail)
        go_wp2_with (fail)
        refine bodyPost_ret (v := .tuple #[.int .i64 n, .bool true]) (by simp [results, Tryz.results109, go_sem]) rfl ⟨rfl, below_drewN HB2.out _⟩
end Go.Proofs.YtjjfhblaefbpgaaGreatDoor

/- What a row holds behind stores of many cells, and behind clear; no program in sight. -/
namespace Go.Proofs.YtjjfhblaefbpgaaGreatDoor
open Go.RowKit

theorem set_take_drop (xs r : List Value) (o : Nat) (v : Value) (h : o < xs.length) : (xs.set o v).take (o + 1) ++ r ++ (xs.set o v).drop (o + 1 + r.length) = xs.take o ++ v :: r ++ xs.drop (o + (v :: r).length) := by
  rw [List.set_eq_take_append_cons_drop, if_pos h]
  have h1 : (xs.take o).length = o := by simp; omega
  rw [List.take_append, List.drop_append, h1]
  have e1 : (xs.take o).take (o + 1) = xs.take o := by rw [List.take_take]; congr 1; omega
  have e2 : (xs.take o).drop (o + 1 + r.length) = [] := List.drop_eq_nil_of_le (by omega)
  rw [e1, e2, show o + 1 - o = 1 by omega, show o + 1 + r.length - o = r.length + 1 by omega]
  simp only [List.take_succ_cons, List.take_zero, List.drop_succ_cons, List.drop_drop, List.nil_append, List.append_assoc, List.cons_append, List.length_cons]
  rw [show o + 1 + r.length = o + (r.length + 1) by omega]
theorem own_setCells {base : Nat} {e : TypeId} {size g n cap : Nat} : ∀ (vs : List Value) (o : Nat) (w : World) (xs : List Value), w.ownsRow base e size (.slice (some ⟨g, 0, none⟩) n cap) n xs → o + vs.length ≤ xs.length →
    (w.setCells g o vs).ownsRow base e size (.slice (some ⟨g, 0, none⟩) n cap) n (xs.take o ++ vs ++ xs.drop (o + vs.length)) ∧ w.grownBy (w.setCells g o vs) (some g)
  | [], o, w, xs, h, _ => by simpa [World.setCells] using ⟨h, grown_refl w _⟩
  | v :: r, o, w, xs, h, hl => by
    simp only [List.length_cons] at hl
    obtain ⟨h1, h2⟩ := h.stored o v
    obtain ⟨h3, h4⟩ := own_setCells r (o + 1) _ _ h1 (by rw [List.length_set]; omega)
    rw [set_take_drop xs r o v (by omega)] at h3
    exact ⟨h3, grown_trans h2 h4⟩
theorem own_shrink {w : World} {base : Nat} {e : TypeId} {size g n cap : Nat} {xs : List Value} (h : w.ownsRow base e size (.slice (some ⟨g, 0, none⟩) n cap) n xs) (m : Nat) (hm : m ≤ n) :
    w.ownsRow base e size (.slice (some ⟨g, 0, none⟩) m cap) m (xs.take (m * size)) := by
  have hle : m * size ≤ n * size := Nat.mul_le_mul_right _ hm
  refine ⟨by rw [List.length_take, h.1]; omega, ?_⟩
  rcases h.2 with ⟨hv, _⟩ | ⟨g', cap', cur, hv, hb, hh, hc, hcm, hcs, ht⟩
  · injection hv with h1 _; cases h1
  · injection hv with h1 h2 h3
    injection h1 with h1
    injection h1 with h1 _
    subst h1 h3
    refine .inr ⟨g, cap, cur, rfl, hb, hh, by omega, hcm, hcs, ?_⟩
    rw [← ht, List.take_take]
    congr 1; omega
theorem run_clear_one {P : Program} (w : World) (t e ty : TypeId) (z : Value) (zs : List Value) (ht : P.underlying t = some (.slice e)) (hv : ∀ w, (zeroValue e).run P w = .ok z w) (hz : z.cells.toList = zs) (h1 : ∀ u ∈ zs, u.oneCell' = true) (b o c : Nat)
    (hc : ∀ j, j < zs.length → (w.cell? ⟨b, o + j, none⟩).isSome = true) (hf : ∀ j, j < zs.length → w.frozen? ⟨b, o + j, none⟩ = false) :
    (Builtin.clear_ #[t] ty #[.slice (some ⟨b, o, none⟩) 1 c]).run P w = .ok (.tuple #[]) (w.setCells b o zs) := by
  have hzc : (Builtin.zeroCells z.cells 1).toList = zs := by
    rw [← hz]
    simp [Builtin.zeroCells]
    apply List.ext_getElem
    · simp
    · intro i h1 h2
      simp at h1 h2
      simp [Nat.mod_eq_of_lt h2, getElem!_pos z.cells i h2]
  have hst := run_storeCells_cells (P := P) b o zs 0 w (by simpa using hc) (by simpa using hf) h1
  simp only [Nat.add_zero] at hst
  simp [Builtin.clear_, run_underlying ht, hv, hzc, hst]
/-- An element less: what stood behind it comes up, and nothing is left at the end. -/
theorem del_cells {α : Type} {f : α → List Value} {k : Nat} (hf : ∀ x, (f x).length = k) (l : List α) (i : Nat) (hi : i < l.length) (zs : List Value) :
    let a := (recs f l).take (i * k) ++ recs f (l.drop (i + 1)) ++ (recs f l).drop (i * k + (recs f (l.drop (i + 1))).length)
    (a.take ((l.length - 1) * k) ++ zs ++ a.drop ((l.length - 1) * k + zs.length)).take ((l.length - 1) * k) = recs f (l.eraseIdx i) := by
  intro a
  have hl := recs_length hf l
  have hd := recs_length hf (l.drop (i + 1))
  rw [List.length_drop] at hd
  have e1 : (recs f l).take (i * k) = recs f (l.take i) := by
    conv => lhs; rw [← List.take_append_drop i l, recs_append]
    rw [List.take_left' (by rw [recs_length hf, List.length_take]; congr 1; omega)]
  have hal : (recs f (l.take i) ++ recs f (l.drop (i + 1))).length = (l.length - 1) * k := by
    rw [List.length_append, recs_length hf, hd, List.length_take, ← Nat.add_mul]
    congr 1; omega
  have ha : a = recs f (l.take i) ++ recs f (l.drop (i + 1)) ++ (recs f l).drop (i * k + (recs f (l.drop (i + 1))).length) := by show _ ++ _ ++ _ = _; rw [e1]
  have hta : a.take ((l.length - 1) * k) = recs f (l.take i) ++ recs f (l.drop (i + 1)) := by rw [ha, List.take_left' hal]
  rw [hta, List.append_assoc, List.take_left' hal, ← recs_append, List.eraseIdx_eq_take_drop_succ]
/-- append to a row of the call's own, as one step of a region that draws its order. -/
theorem step_append_row {P : Program} {ops : Array Oper} {o : Oper} {a : Act} {w : World} {K : Act → World → Prop} {Q : Exit → Act → World → Prop} {E : Prop}
    (hg : o.guard = none) (s x : Operand) (t : TypeId) (hop : o.op = Op.call { callee := Callee.builtin Builtin.append, args := #[s, x], argTypes := #[t, t] })
    (base : Nat) (e : TypeId) (i : TypeInfo) (z : Value) (size bytes : Nat) (h1 : P.underlying t = some (.slice e)) (h2 : P.info? e = some i) (h3 : i.zero = some z) (h4 : i.size = size) (h5 : i.bytes = bytes) (h6 : z.cells.size = size) (h7 : 0 < size)
    (v : Value) (n : Nat) (xs : List Value) (hs : a.eval s = v) (hown : w.ownsRow base e size v n xs)
    (ad : Addr) (m c : Nat) (news : List Value) (hx : a.eval x = .slice (some ad) m c) (hn : news.length = m * size) (hc : ∀ j u, news[j]? = some u → w.cell? (ad.add j) = some u) (h1c : ∀ u ∈ news, u.oneCell' = true)
    (b1 : n + m ≤ maxLen) (b2 : (n + m) * bytes ≤ 140737488355328) (hb : base ≤ w.heap.size)
    (hK : ∀ v' w', w'.ownsRow base e size v' (n + m) (xs ++ news) → w.grownBy w' v.ownBlock → K (a.put o.dst v') w') :
    if Region.wanted o (yielded ops a.tmps) = true then Oper.wp P o a w K Q else E := by
  have hw : Region.wanted o (yielded ops a.tmps) = true := by simp [Region.wanted, hg]
  rw [if_pos hw]
  obtain ⟨v', w', hrun, r1, r2, _⟩ := run_append_own (P := P) w base t o.type e i z size bytes h1 h2 h3 h4 h5 h6 h7 v n xs hown ad m c news hn hc h1c b1 b2 hb
  unfold Oper.wp
  simp [execOp, hop, resolve, invoke, builtin, hs, hx, hrun, Result.andThen]
  exact hK v' w' r1 r2
theorem own_cells0 {w : World} {base : Nat} {e : TypeId} {size g n cap : Nat} {xs : List Value} (h : w.ownsRow base e size (.slice (some ⟨g, 0, none⟩) n cap) n xs) : Cells w g 0 xs := by
  intro j v hv
  rw [Nat.zero_add]
  exact (h.cellAt j (by rw [← h.1]; exact (List.getElem?_eq_some_iff.1 hv).1)).trans hv
theorem own_blk {w : World} {base : Nat} {e : TypeId} {size g n cap : Nat} {xs : List Value} (h : w.ownsRow base e size (.slice (some ⟨g, 0, none⟩) n cap) n xs) : ∃ cs, w.heap[g]? = some (.cells cs e (0, 0)) := by
  rcases h.2 with ⟨hv, _⟩ | ⟨g', cap', cur, hv, hb, hh, _⟩
  · injection hv with h1; cases h1
  · injection hv with h1
    injection h1 with h1
    injection h1 with h1
    subst h1
    exact ⟨cur, hh⟩
/-- How long a slice is. -/
def slLen : Value → Nat
  | .slice _ n _ => n
  | _ => 0
end Go.Proofs.YtjjfhblaefbpgaaGreatDoor

/- base.Numbers of right numerals by its contract. -/
namespace Go.Proofs.YtjjfhblaefbpgaaGreatDoor
open Go.RowKit

theorem Tryz.infoIntN : (Tryz.prog.info? 3).map (fun i => (i.zero, i.size, i.bytes)) = some (some (.int .i64 0), 1, 8) := by kernel_rfl
def NumsPost (ns : List Int) (w : World) (e : Ending) (w' : World) : Prop :=
  ∃ A c n, n = ns.length ∧ e = .returned (.tuple #[.slice A n c, .bool true]) ∧ w'.ownsRow w.heap.size 3 1 (.slice A n c) n (ns.map (.int .i64 ·)) ∧ Below w.heap.size w w'
set_option maxRecDepth 100000 in
set_option maxHeartbeats 4000000 in
theorem numbers_any (ws : List ByteArray) (ns : List Int) (n c b o : Nat) (w : World) (hw : ws.length = n) (hn : ns.length = n) (h100 : n ≤ 100) (hb : b < w.heap.size) (hC : Cells w b o (ws.map .string))
    (hN : ∀ (i : Nat) (s : ByteArray), ws[i]? = some s → ∃ d k, ns[i]? = some k ∧ NumW s d k) :
    Calls Tryz.prog 63 #[.slice (some ⟨b, o, none⟩) n c, .int .i64 15] w fun e w' => NumsPost ns w e w' := by
  obtain ⟨i0, hi0, hz0, hz1, hz2⟩ := info_parts Tryz.infoIntN
  have HC := Lib.hid (fun V (hV : Below w.heap.size w V) => hC.keep (hV.block b hb))
  have HN := Lib.hid hN
  have HL := Lib.hid (And.intro hw hn)
  clear hC hN hw hn
  go_enter Tryz.func63, Tryz.ntmps63
  go_wp2_with (fail)
  go_loopw [13, 6] (fun s v wr => ∃ (i : Nat), i ≤ n ∧ s = .int .i64 (i : Int) ∧ Hid (wr.ownsRow w.heap.size 3 1 v i ((ns.take i).map (.int .i64 ·))) ∧ Hid (Below w.heap.size w wr)) (fun s _ _ => n - (intOf s).toNat)
  case atStart => exact ⟨0, by omega, rfl, Lib.hid (World.ownsRow_nil _ _ _ _), Lib.hid (Below.refl _ _)⟩
  case round =>
    obtain ⟨i, hin, rfl, HO, HB⟩ := hrel
    have hbs := HB.out.size
    by_cases hlt : i < n
    · have hltI : (i : Int) < n := by omega
      obtain ⟨s, hs⟩ : ∃ s, ws[i]? = some s := ⟨_, List.getElem?_eq_getElem (by have := HL.out.1; omega)⟩
      obtain ⟨d, k, hk, hnw⟩ := HN.out i s hs
      have c0 : wr.cell? ⟨b, o + i, none⟩ = some (.string s) := HC.out wr HB.out i _ (by rw [List.getElem?_map, hs]; rfl)
      have HK := Lib.hid hk
      have HNW := Lib.hid hnw
      clear hk hnw hs
      go_wp2_with (fail)
      refine (number_any s d k wr HNW.out).mono ?_
      rintro e w2 ⟨rfl, hb2⟩
      have HB2 := Lib.hid (HB.out.trans (hb2.mono hbs))
      have HO2 := Lib.hid (own_belowP HO.out hb2)
      have hs2 := hb2.size
      clear hb2 c0
      go_wp2_with (at_builtin; refine wpList_append_own2 _ rfl _ _ 22 rfl w.heap.size 3 i0 _ 1 8 Tryz.underlying22 hi0 hz0 hz1 hz2 rfl (by decide) _ _ _ rfl (HO2.out.alloc _) ⟨_, 0, none⟩ 1 1 [.int .i64 k] rfl rfl ?c1 ?c2 ?c3 ?c4 ?c5 ?_)
      case c1 => exact cells_add (Cells.new _ _ _ _ _ rfl)
      case c2 => intro u hu; simp at hu; rw [hu]; rfl
      case c3 => unfold maxLen; omega
      case c4 => omega
      case c5 => have := HB2.out.size; simp; omega
      intro v9 w9 ho9 hg9 _
      have hlo : ∀ q, u6.ownBlock = some q → w.heap.size ≤ q := fun q hq => (HO2.out.lt q hq).1
      have HB9 := Lib.hid ((HB2.out.alloc HB2.out.size _).grown hg9 (by have := HB2.out.size; simp; omega) hlo)
      have HO9 := Lib.hid (show w9.ownsRow w.heap.size 3 1 v9 (i + 1) ((ns.take (i + 1)).map (.int .i64 ·)) from by
        rw [List.take_add_one, HK.out]; simpa using ho9)
      clear ho9 hg9 hlo
      go_wp2_with (fail)
      go_roundw
      case rel => exact ⟨i + 1, by omega, by simp, HO9, HB9⟩
      case measure => simp [intOf]; omega
    · have hltI : ¬ (i : Int) < n := by omega
      obtain rfl : i = n := by omega
      obtain ⟨A, c', rfl⟩ := own_slice HO.out
      have HF := Lib.hid (show NumsPost ns w (.returned (.tuple #[.slice A i c', .bool true])) wr from ⟨A, c', i, HL.out.2.symm, rfl, by have h := HO.out; rwa [List.take_of_length_le (by rw [HL.out.2]; omega)] at h, HB.out⟩)
      go_wp2_with (fail)
      refine bodyPost_ret (v := .tuple #[.slice A i c', .bool true]) (by simp [results, Tryz.results63, go_sem]) rfl HF.out
end Go.Proofs.YtjjfhblaefbpgaaGreatDoor

/- base.Unquote of the text "do" between quotes by its contract. -/
namespace Go.Proofs.YtjjfhblaefbpgaaGreatDoor
open Go.RowKit

theorem Tryz.infoU8u : (Tryz.prog.info? 5).map (fun i => (i.zero, i.size, i.bytes)) = some (some (.int .u8 0), 1, 1) := by kernel_rfl
set_option maxRecDepth 100000 in
set_option maxHeartbeats 4000000 in
theorem unquote_do (w : World) : Calls Tryz.prog 90 #[.string ⟨#[34, 100, 111, 34]⟩] w fun e w' => e = .returned (.tuple #[.string ⟨#[100, 111]⟩, .bool true]) ∧ Below w.heap.size w w' := by
  obtain ⟨i0, hi0, hz0, hz1, hz2⟩ := info_parts Tryz.infoU8u
  go_enter Tryz.func90, Tryz.ntmps90
  go_wp2_with (fail)
  refine wp_loop_rounds 3 ?_
  rw [rounds_succ]
  have HO0 := Lib.hid (World.ownsRow_nil w w.heap.size 5 1)
  go_wp2_with (at_builtin; refine wpList_append_own2 _ rfl _ _ 48 rfl w.heap.size 5 i0 _ 1 1 Tryz.underlying48 hi0 hz0 hz1 hz2 rfl (by decide) (.slice none 0 0) 0 [] rfl (HO0.out.alloc _) ⟨w.heap.size, 0, none⟩ 1 1 [.int .u8 100] rfl rfl ?c1 ?c2 ?c3 ?c4 ?c5 ?_)
  case c1 => exact cells_add (Cells.new _ _ _ _ _ rfl)
  case c2 => intro u hu; simp at hu; rw [hu]; rfl
  case c3 => unfold maxLen; omega
  case c4 => omega
  case c5 => simp
  intro v1 w1 ho1 hg1 _
  have HB1 := Lib.hid (((Below.refl w.heap.size w).alloc (Nat.le_refl _) (.cells #[.int .u8 100] 5)).grown hg1 (by simp) (fun q hq => by cases hq))
  have HO1 := Lib.hid ho1
  have hs1 := hg1.size
  clear ho1 hg1
  go_wp2_with (fail)
  rw [rounds_succ]
  go_wp2_with (at_builtin; refine wpList_append_own2 _ rfl _ _ 48 rfl w.heap.size 5 i0 _ 1 1 Tryz.underlying48 hi0 hz0 hz1 hz2 rfl (by decide) v1 1 [.int .u8 100] rfl (HO1.out.alloc _) ⟨w1.heap.size, 0, none⟩ 1 1 [.int .u8 111] rfl rfl ?d1 ?d2 ?d3 ?d4 ?d5 ?_)
  case d1 => exact cells_add (Cells.new _ _ _ _ _ rfl)
  case d2 => intro u hu; simp at hu; rw [hu]; rfl
  case d3 => unfold maxLen; omega
  case d4 => omega
  case d5 => have := HB1.out.size; simp; omega
  intro v2 w2 ho2 hg2 _
  have hlo : ∀ q, v1.ownBlock = some q → w.heap.size ≤ q := fun q hq => (HO1.out.lt q hq).1
  have HB2 := Lib.hid ((HB1.out.alloc HB1.out.size (.cells #[.int .u8 111] 5)).grown hg2 (by have := HB1.out.size; simp; omega) hlo)
  obtain ⟨A2, c2, rfl⟩ := own_slice ho2
  obtain ⟨g, rfl⟩ : ∃ g, A2 = some ⟨g, 0, none⟩ := by
    rcases own_two ho2 with ⟨_, h, _⟩ | ⟨g, h, _⟩
    · omega
    · exact ⟨g, h⟩
  have HC := own_cells0 ho2
  have hconv : (convert 48 9 (.slice (some ⟨g, 0, none⟩) 2 c2)).run Tryz.prog w2 = .ok (.string ⟨#[100, 111]⟩) w2 := by
    rw [run_convert_bytes_string w2 48 9 5 _ _ _ Tryz.underlying48 Tryz.underlying5 Tryz.underlying9]
    have hl := run_loadCells_list (P := Tryz.prog) (w := w2) ⟨g, 0, none⟩ [.int .u8 100, .int .u8 111] (by
      intro j v hv
      have := HC j v hv
      rw [Nat.zero_add] at this
      rcases Nat.eq_zero_or_pos j with hj | hj
      · subst hj; simpa [Addr.add] using this
      · have e : (⟨g, 0, none⟩ : Addr).add j = ⟨g, j, none⟩ := by simp [Addr.add]; omega
        rw [e]; exact this)
    exact (run_bytesToString w2 ⟨g, 0, none⟩ 2 c2 [100, 111] hl).trans rfl
  clear ho2 hg2 HC hlo
  go_wp2_with (fail)
  rw [rounds_succ]
  go_wp2_with (fail)
  refine bodyPost_ret (v := .tuple #[.string ⟨#[100, 111]⟩, .bool true]) (by simp [results, Tryz.results90, go_sem]) rfl ⟨rfl, HB2.out⟩
end Go.Proofs.YtjjfhblaefbpgaaGreatDoor

/- The shelf's Lays.n104 at this program. -/
namespace Go.Proofs.YtjjfhblaefbpgaaGreatDoor
open Go.RowKit Go.Shelf

def lay104_ren : Go.Shelf.Ren := ⟨fun | 104 => 126 | 211 => 161 | 207 => 194 | n => n, fun | 9 => 9 | 4 => 4 | 24 => 150 | 3 => 3 | n => n, fun  | n => n⟩
theorem lay104 : Lays.n104 Tryz.prog lay104_ren := {
  mixed := by kernel_rfl,
  f104 := Tryz.func126.trans (congrArg some (by kernel_rfl)),
  f207 := Tryz.func194.trans (congrArg some (by kernel_rfl)),
  f211 := Tryz.func161.trans (congrArg some (by kernel_rfl)),
  t3 := Tryz.underlying3,
  a3 := Tryz.isAgg3,
  z3 := Tryz.sizeOf3,
  v3 := Tryz.zeroValue3,
  t4 := Tryz.underlying4,
  a4 := Tryz.isAgg4,
  z4 := Tryz.sizeOf4,
  v4 := Tryz.zeroValue4,
  t9 := Tryz.underlying9,
  a9 := Tryz.isAgg9,
  z9 := Tryz.sizeOf9,
  v9 := Tryz.zeroValue9,
  t24 := Tryz.underlying150,
  a24 := Tryz.isAgg150,
  z24 := Tryz.sizeOf150,
  v24 := Tryz.zeroValue150 }
end Go.Proofs.YtjjfhblaefbpgaaGreatDoor

/- The shelf's Lays.n146 at this program. -/
namespace Go.Proofs.YtjjfhblaefbpgaaGreatDoor
open Go.RowKit Go.Shelf

def lay146_ren : Go.Shelf.Ren := ⟨fun | 146 => 94 | 221 => 127 | 268 => 162 | 138 => 158 | 143 => 159 | 195 => 190 | 197 => 160 | 218 => 191 | 219 => 192 | 260 => 193 | 217 => 219 | 225 => 220 | 224 => 221 | 267 => 222 | 266 => 231 | 314 => 232 | n => n, fun | 9 => 9 | 31 => 28 | 3 => 3 | 4 => 4 | 0 => 0 | 105 => 214 | 21 => 21 | 5 => 5 | 46 => 173 | 119 => 235 | 139 => 238 | 138 => 237 | 146 => 271 | 51 => 205 | n => n, fun | 1 => 0 | 3 => 1 | 4 => 2 | n => n⟩
theorem lay146 : Lays.n146 Tryz.prog lay146_ren := {
  mixed := by kernel_rfl,
  f138 := Tryz.func158.trans (congrArg some (by kernel_rfl)),
  f143 := Tryz.func159.trans (congrArg some (by kernel_rfl)),
  f146 := Tryz.func94.trans (congrArg some (by kernel_rfl)),
  f195 := Tryz.func190.trans (congrArg some (by kernel_rfl)),
  f197 := Tryz.func160.trans (congrArg some (by kernel_rfl)),
  f217 := Tryz.func219.trans (congrArg some (by kernel_rfl)),
  f218 := Tryz.func191.trans (congrArg some (by kernel_rfl)),
  f219 := Tryz.func192.trans (congrArg some (by kernel_rfl)),
  f221 := Tryz.func127.trans (congrArg some (by kernel_rfl)),
  f224 := Tryz.func221.trans (congrArg some (by kernel_rfl)),
  f225 := Tryz.func220.trans (congrArg some (by kernel_rfl)),
  f260 := Tryz.func193.trans (congrArg some (by kernel_rfl)),
  f266 := Tryz.func231.trans (congrArg some (by kernel_rfl)),
  f267 := Tryz.func222.trans (congrArg some (by kernel_rfl)),
  f268 := Tryz.func162.trans (congrArg some (by kernel_rfl)),
  f314 := Tryz.func232.trans (congrArg some (by kernel_rfl)),
  t0 := Tryz.underlying0,
  a0 := Tryz.isAgg0,
  z0 := Tryz.sizeOf0,
  v0 := Tryz.zeroValue0,
  t3 := Tryz.underlying3,
  a3 := Tryz.isAgg3,
  z3 := Tryz.sizeOf3,
  v3 := Tryz.zeroValue3,
  t4 := Tryz.underlying4,
  a4 := Tryz.isAgg4,
  z4 := Tryz.sizeOf4,
  v4 := Tryz.zeroValue4,
  t5 := Tryz.underlying5,
  a5 := Tryz.isAgg5,
  z5 := Tryz.sizeOf5,
  v5 := Tryz.zeroValue5,
  t9 := Tryz.underlying9,
  a9 := Tryz.isAgg9,
  z9 := Tryz.sizeOf9,
  v9 := Tryz.zeroValue9,
  t21 := Tryz.underlying21,
  a21 := Tryz.isAgg21,
  z21 := Tryz.sizeOf21,
  v21 := Tryz.zeroValue21,
  t31 := Tryz.underlying28,
  a31 := Tryz.isAgg28,
  z31 := Tryz.sizeOf28,
  v31 := Tryz.zeroValue28,
  t46 := Tryz.underlying173,
  a46 := Tryz.isAgg173,
  z46 := Tryz.sizeOf173,
  v46 := Tryz.zeroValue173,
  t51 := Tryz.underlying205,
  a51 := Tryz.isAgg205,
  z51 := Tryz.sizeOf205,
  v51 := Tryz.zeroValue205,
  t105 := Tryz.underlying214,
  a105 := Tryz.isAgg214,
  z105 := Tryz.sizeOf214,
  v105 := Tryz.zeroValue214,
  t119 := Tryz.underlying235,
  a119 := Tryz.isAgg235,
  z119 := Tryz.sizeOf235,
  t138 := Tryz.underlying237,
  a138 := Tryz.isAgg237,
  z138 := Tryz.sizeOf237,
  v138 := Tryz.zeroValue237,
  t139 := Tryz.underlying238,
  a139 := Tryz.isAgg238,
  z139 := Tryz.sizeOf238,
  v139 := Tryz.zeroValue238,
  t146 := Tryz.underlying271,
  a146 := Tryz.isAgg271,
  z146 := Tryz.sizeOf271,
  v146 := Tryz.zeroValue271,
  g1 := by kernel_rfl,
  g3 := by kernel_rfl,
  g4 := by kernel_rfl }
end Go.Proofs.YtjjfhblaefbpgaaGreatDoor

/- base.Lines of ended lines, base.Each of a reader that takes each line, by their contracts. -/
namespace Go.Proofs.YtjjfhblaefbpgaaGreatDoor
open Go.RowKit Go.Shelf

/-- internal/bytealg.MaxLen holds a number. -/
def MlW (w : World) : Prop := ∃ m, w.cell? ⟨0, 0, none⟩ = some (.int .i64 m)
theorem MlW.below {w w' : World} (h : MlW w) (hb : Below w.heap.size w w') : MlW w' := by
  obtain ⟨m, hm⟩ := h
  exact ⟨m, (hb.cell (World.block_lt_of_cell? w _ hm)).trans hm⟩
def strsV (L : List (List UInt8)) : Array Value := (L.map (fun p => Value.string ⟨p.toArray⟩)).toArray
def LnPost (L : List (List UInt8)) (w : World) (e : Ending) (w' : World) : Prop :=
  ∃ A n, e = .returned (.tuple #[.slice A n n, .bool true]) ∧ n = L.length ∧ Below w.heap.size w w' ∧ (n = 0 ∨ ∃ g, A = some ⟨g, 0, none⟩ ∧ w.heap.size ≤ g ∧ w'.heap[g]? = some (.cells (strsV L) 9 (0, 0)))
theorem byte_eqF {l : List UInt8} (h : l ≠ []) : ((⟨l.toArray⟩ : ByteArray).toList == (⟨#[]⟩ : ByteArray).toList) = false := by
  rw [Lib.toList_data, Lib.toList_data]
  cases l with
  | nil => exact absurd rfl h
  | cons x l => rfl
set_option maxHeartbeats 2000000 in
theorem lines_any (s : ByteArray) (L : List (List UInt8)) (w : World) (hs : s = ⟨(linesC 10 L).toArray⟩) (hL : ∀ p ∈ L, (10 : UInt8) ∉ p) (hsz : s.size ≤ 200000) (hT : MlW w) :
    Calls Tryz.prog 88 #[.string s] w fun e w' => LnPost L w e w' := by
  by_cases h0 : L = []
  · subst h0
    have hs' : s = ⟨#[]⟩ := hs
    subst hs'
    have HF := Lib.hid (show LnPost [] w (.returned (.tuple #[.slice none 0 0, .bool true])) w from ⟨none, 0, rfl, rfl, Below.refl _ _, .inl rfl⟩)
    go_enter Tryz.func88, Tryz.ntmps88
    go_wp2_with (fail)
    refine bodyPost_ret (v := .tuple #[.slice none 0 0, .bool true]) (by simp [results, Tryz.results88, go_sem]) rfl HF.out
  · obtain ⟨hx1, hx2⟩ := linesC_suffix 10 L h0
    have hne : linesC 10 L ≠ [] := by rw [linesC_join 10 L h0]; simp
    have HC := Lib.hid (show Calls Tryz.prog 126 #[.string s, .string ⟨#[10]⟩] w fun e w' => e = .returned (.tuple #[.string ⟨(joinC 10 L).toArray⟩, .bool true]) ∧ w = w' from by
      refine (Any.strings_CutSuffix lay104 s ⟨#[10]⟩ w (by omega)).mono ?_
      rintro e w' ⟨h1, h2⟩
      have e1 : s.data.toList = linesC 10 L := by rw [hs]
      refine ⟨?_, h2.symm⟩
      rw [h1, e1]
      rw [show (⟨#[10]⟩ : ByteArray).data.toList = [10] from rfl, hx1, hx2])
    have hcnt : Lib.countB ⟨(joinC 10 L).toArray⟩ ⟨#[10]⟩ + 1 = L.length := by
      have h1 : Lib.countB ⟨(joinC 10 L).toArray⟩ ⟨#[10]⟩ = (joinC 10 L).count 10 := Lib.count_one 10 (joinC 10 L)
      rw [h1]
      exact count_join 10 L h0 hL
    obtain ⟨m, hm⟩ := hT
    have hsj : (⟨(joinC 10 L).toArray⟩ : ByteArray).size ≤ 200000 := by
      have h1 : (linesC 10 L).length = (joinC 10 L).length + 1 := by rw [linesC_join 10 L h0]; simp
      have h2 : s.size = (linesC 10 L).length := by rw [hs]; simp [ByteArray.size]
      have h3 : (⟨(joinC 10 L).toArray⟩ : ByteArray).size = (joinC 10 L).length := by simp [ByteArray.size]
      omega
    obtain ⟨n, hn⟩ : ∃ n, n = L.length := ⟨_, rfl⟩
    have HS := Lib.hid (show Calls Tryz.prog 94 #[.string ⟨(joinC 10 L).toArray⟩, .string ⟨#[10]⟩] w fun e w' => e = .returned (.slice (some ⟨w.heap.size, 0, none⟩) n n) ∧ w' = w.alloc (.cells (strsV L) 9) from by
      refine (Any.strings_Split lay146 (by kernel_rfl) ⟨(joinC 10 L).toArray⟩ ⟨#[10]⟩ m w (by omega) hm (by decide)).mono ?_
      rintro e w' ⟨h1, h2⟩
      rw [hcnt, ← hn] at h1
      refine ⟨h1, ?_⟩
      rw [h2, splitB_join 10 L _ h0 hL (by omega), List.map_map]
      rfl)
    have HF := Lib.hid (show LnPost L w (.returned (.tuple #[.slice (some ⟨w.heap.size, 0, none⟩) n n, .bool true])) (w.alloc (.cells (strsV L) 9)) from
      ⟨_, n, rfl, hn, (Below.refl _ _).alloc (Nat.le_refl _) _, .inr ⟨_, rfl, Nat.le_refl _, heap_new _ _⟩⟩)
    have hse : (s.toList == (⟨#[]⟩ : ByteArray).toList) = false := by rw [hs]; exact byte_eqF hne
    have hem : s.toList.isEmpty = false := by
      rw [hs, Lib.toList_data]
      cases hl : linesC 10 L with
      | nil => exact absurd hl hne
      | cons x l => rfl
    clear hs hm hn hcnt hx1 hx2
    go_enter Tryz.func88, Tryz.ntmps88
    go_wp2_with (fail)
    refine HC.out.mono ?_
    rintro e w1 ⟨rfl, rfl⟩
    go_wp2_with (fail)
    refine HS.out.mono ?_
    rintro e w2 ⟨rfl, rfl⟩
    go_wp2_with (fail)
    refine bodyPost_ret (v := .tuple #[.slice (some ⟨w.heap.size, 0, none⟩) n n, .bool true]) (by simp [results, Tryz.results88, go_sem]) rfl HF.out
set_option maxRecDepth 100000 in
set_option maxHeartbeats 4000000 in
theorem each_any (F : Nat) (cap : Value) (s : ByteArray) (L : List (List UInt8)) (Inv : Nat → World → Prop) (w : World) (hs : s = ⟨(linesC 10 L).toArray⟩) (hL : ∀ p ∈ L, (10 : UInt8) ∉ p) (hsz : s.size ≤ 200000) (hn : L.length ≤ 100000) (hT : MlW w)
    (hrun : ∀ (args : Array Value) (V : World), (callFunc F args).run Tryz.prog V = .ok (.enter F args) V)
    (h0 : ∀ V, Below w.heap.size w V → Inv 0 V)
    (hst : ∀ (i : Nat) (p : List UInt8) (V : World), L[i]? = some p → w.heap.size ≤ V.heap.size → Inv i V → Calls Tryz.prog F #[.string ⟨p.toArray⟩, cap] V fun e V' => e = .returned (.bool true) ∧ Inv (i + 1) V' ∧ V.heap.size ≤ V'.heap.size ∧
      ∀ (g : Nat) (cs : Array Value), w.heap.size ≤ g → V.heap[g]? = some (.cells cs 9 (0, 0)) → V'.heap[g]? = some (.cells cs 9 (0, 0))) :
    Calls Tryz.prog 40 #[.string s, .func (.func F) #[] #[cap]] w fun e w' => e = .returned (.tuple #[.int .i64 0, .bool true]) ∧ Inv L.length w' := by
  have HST := Lib.hid hst
  have H0 := Lib.hid h0
  have HLN := Lib.hid (lines_any s L w hs hL hsz hT)
  clear hst h0 hs hL hT
  go_enter Tryz.func40, Tryz.ntmps40
  go_wp2_with (fail)
  refine HLN.out.mono ?_
  rintro e w1 ⟨A, n, rfl, hnl, hb1, hrow⟩
  have hs1 := hb1.size
  have hn5 : n ≤ 100000 := by omega
  have HI := Lib.hid (H0.out w1 hb1)
  have HROW := Lib.hid hrow
  have HN := Lib.hid hnl
  clear hb1 hrow hnl hn
  go_wp2_with (fail)
  go_loopw [17] (fun i wr => ∃ k : Nat, k ≤ n ∧ i = .int .i64 (k : Int) ∧ Hid (Inv k wr) ∧ w.heap.size ≤ wr.heap.size ∧ Hid (n = 0 ∨ ∃ g, A = some ⟨g, 0, none⟩ ∧ w.heap.size ≤ g ∧ wr.heap[g]? = some (.cells (strsV L) 9 (0, 0)))) (fun i _ => n - (intOf i).toNat)
  case atStart => exact ⟨0, Nat.zero_le _, rfl, HI, hs1, HROW⟩
  case round =>
    obtain ⟨k, hk, rfl, HIk, hsr, HRk⟩ := hrel
    by_cases hlt : k < n
    · have hltI : (k : Int) < n := by omega
      obtain ⟨g, rfl, hg, hbk⟩ := HRk.out.resolve_left (by omega)
      obtain ⟨p, hp⟩ : ∃ p, L[k]? = some p := ⟨_, List.getElem?_eq_getElem (by have := HN.out; omega)⟩
      have c0 := cell_of_blk (v := .string ⟨p.toArray⟩) (j := k) hbk (by simp [strsV, hp])
      have HCALL := Lib.hid (HST.out k p wr hp hsr HIk.out)
      have HBK := Lib.hid hbk
      clear hbk hp
      go_wp2_with (fail)
      refine HCALL.out.mono ?_
      rintro e w2 ⟨rfl, hi2, hs2, hkp⟩
      have HI2 := Lib.hid hi2
      have HR2 := Lib.hid (hkp g _ hg HBK.out)
      clear hi2 hkp c0
      go_wp2_with (fail)
      go_roundw
      case rel => exact ⟨k + 1, by omega, by simp, HI2, by omega, Lib.hid (.inr ⟨g, rfl, hg, HR2.out⟩)⟩
      case measure => simp [intOf]; omega
    · have hltI : ¬ (k : Int) < n := by omega
      obtain rfl : k = n := by omega
      have HF := Lib.hid (show Inv L.length wr from by rw [← HN.out]; exact HIk.out)
      go_wp2_with (fail)
      refine bodyPost_ret (v := .tuple #[.int .i64 0, .bool true]) (by simp [results, Tryz.results40, go_sem]) rfl ⟨rfl, HF.out⟩
end Go.Proofs.YtjjfhblaefbpgaaGreatDoor

/- Properties as data: ranks of names, values; the plain law of changes; no program in sight. -/
namespace Go.Proofs.YtjjfhblaefbpgaaGreatDoor
open Go.RowKit

structure Pv where
  k : Int
  f : Bool
  n : Int
  s : ByteArray
deriving DecidableEq
def pvNone : Pv := ⟨0, false, 0, ⟨#[]⟩⟩
/-- The names, by rank. -/
def nm (i : Nat) : ByteArray :=
  match i with
  | 0 => ⟨#[97]⟩
  | 1 => ⟨#[97, 46, 120]⟩
  | 2 => ⟨#[97, 46, 120, 46, 112]⟩
  | 3 => ⟨#[97, 46, 121]⟩
  | 4 => ⟨#[97, 98]⟩
  | 5 => ⟨#[98]⟩
  | _ => ⟨#[98, 46, 122]⟩
def wdT (i : Nat) : ByteArray :=
  match i with
  | 0 => ⟨#[]⟩
  | 1 => ⟨#[120]⟩
  | 2 => ⟨#[97, 32, 34, 98, 34]⟩
  | 3 => ⟨#[92]⟩
  | 4 => ⟨#[195, 169]⟩
  | _ => ⟨#[45, 32, 49]⟩
def PvOk (v : Pv) : Prop :=
  (v.k = 1 ∧ v.n = 0 ∧ v.s = ⟨#[]⟩) ∨ (v.k = 2 ∧ v.f = false ∧ v.s = ⟨#[]⟩ ∧ -1000000000 ≤ v.n ∧ v.n ≤ 1000000000) ∨ (v.k = 3 ∧ v.f = false ∧ v.n = 0 ∧ ∃ i, i < 6 ∧ v.s = wdT i)
theorem PvOk.ne {v : Pv} (h : PvOk v) : v ≠ pvNone := by
  rintro rfl
  rcases h with h | h | h <;> simp [pvNone] at h
theorem PvOk.kne {v : Pv} (h : PvOk v) : v.k ≠ 0 := by
  rcases h with h | h | h <;> omega

abbrev Pr := Nat × Pv
def pvC (v : Pv) : List Value := [.int .i64 v.k, .bool v.f, .int .i64 v.n, .string v.s]
def prC (p : Pr) : List Value := [.string (nm p.1), .int .i64 p.2.k, .bool p.2.f, .int .i64 p.2.n, .string p.2.s]
theorem prC_len (p : Pr) : (prC p).length = 5 := rfl
theorem prC_one (p : Pr) : ∀ u ∈ prC p, u.oneCell' = true := by
  intro u hu
  simp only [prC, List.mem_cons, List.not_mem_nil, or_false] at hu
  rcases hu with h | h | h | h | h <;> rw [h] <;> rfl

/-- Lists that rise strictly and have the same members are one. -/
theorem ext_rising {α : Type} (key : α → Nat) : ∀ l m : List α, l.Pairwise (fun x y => key x < key y) → m.Pairwise (fun x y => key x < key y) → (∀ x, x ∈ l ↔ x ∈ m) → l = m
  | [], [], _, _, _ => rfl
  | [], y :: m, _, _, h => absurd ((h y).2 (by simp)) (by simp)
  | x :: l, [], _, _, h => absurd ((h x).1 (by simp)) (by simp)
  | x :: l, y :: m, hl, hm, h => by
    rw [List.pairwise_cons] at hl hm
    have hxy : x = y := by
      rcases List.mem_cons.1 ((h x).1 (by simp)) with e | hx
      · exact e
      · rcases List.mem_cons.1 ((h y).2 (by simp)) with e | hy
        · exact e.symm
        · have h1 := hm.1 x hx
          have h2 := hl.1 y hy
          omega
    subst hxy
    congr 1
    refine ext_rising key l m hl.2 hm.2 (fun z => ⟨fun hz => ?_, fun hz => ?_⟩)
    · rcases List.mem_cons.1 ((h z).1 (List.mem_cons_of_mem _ hz)) with e | hz'
      · subst e
        exact absurd (hl.1 z hz) (Nat.lt_irrefl _)
      · exact hz'
    · rcases List.mem_cons.1 ((h z).2 (List.mem_cons_of_mem _ hz)) with e | hz'
      · subst e
        exact absurd (hm.1 z hz) (Nat.lt_irrefl _)
      · exact hz'
/-- What a list of ranks shows. -/
def frn {β : Type} (g : Nat → Option β) : List β := (List.range 7).filterMap g
theorem range_rising (n : Nat) : (List.range n).Pairwise (· < ·) := List.pairwise_lt_range
theorem frn_rising {β : Type} (key : β → Nat) (g : Nat → Option β) (hg : ∀ i x, g i = some x → key x = i) : (frn g).Pairwise (fun x y => key x < key y) := by
  unfold frn
  refine List.Pairwise.filterMap g ?_ (range_rising 7)
  intro a a' h x hx y hy
  rw [hg _ _ hx, hg _ _ hy]
  exact h
theorem mem_frn {β : Type} (g : Nat → Option β) (x : β) : x ∈ frn g ↔ ∃ i, i < 7 ∧ g i = some x := by
  simp [frn, List.mem_filterMap]

/-- The properties of a function from ranks to values. -/
def prs (v : Nat → Pv) : List Pr := frn (fun i => if v i = pvNone then none else some (i, v i))
theorem mem_prs (v : Nat → Pv) (x : Pr) : x ∈ prs v ↔ x.1 < 7 ∧ v x.1 ≠ pvNone ∧ x.2 = v x.1 := by
  unfold prs
  rw [mem_frn]
  constructor
  · rintro ⟨i, hi, h⟩
    split at h
    · cases h
    · next hn => cases h; exact ⟨hi, hn, rfl⟩
  · rintro ⟨h1, h2, h3⟩
    exact ⟨x.1, h1, by rw [if_neg h2, ← h3]⟩
theorem prs_rising (v : Nat → Pv) : (prs v).Pairwise (fun x y => x.1 < y.1) := by
  refine frn_rising _ _ ?_
  intro i x h
  split at h
  · cases h
  · cases h; rfl
/-- Right lists: they rise, and their values are right. -/
def PrsOk (l : List Pr) : Prop := l.Pairwise (fun x y => x.1 < y.1) ∧ ∀ x ∈ l, x.1 < 7 ∧ PvOk x.2
/-- The value at a rank. -/
def vo (l : List Pr) (i : Nat) : Pv := match l.find? (fun p => p.1 == i) with | some p => p.2 | none => pvNone
theorem vo_mem {l : List Pr} (h : l.Pairwise (fun x y => x.1 < y.1)) {x : Pr} (hx : x ∈ l) : vo l x.1 = x.2 := by
  unfold vo
  cases hf : l.find? (fun p => p.1 == x.1) with
  | none =>
    rw [List.find?_eq_none] at hf
    exact absurd (hf x hx) (by simp)
  | some p =>
    have h1 : p.1 = x.1 := by simpa using List.find?_some hf
    have h2 := List.mem_of_find?_eq_some hf
    simp only
    have : p = x := by
      rw [List.pairwise_iff_getElem] at h
      obtain ⟨i, hi, rfl⟩ := List.getElem_of_mem h2
      obtain ⟨j, hj, rfl⟩ := List.getElem_of_mem hx
      rcases Nat.lt_trichotomy i j with hl | hl | hl
      · have := h i j hi hj hl; omega
      · subst hl; rfl
      · have := h j i hj hi hl; omega
    rw [this]
theorem vo_none {l : List Pr} {i : Nat} (h : ∀ x ∈ l, x.1 ≠ i) : vo l i = pvNone := by
  unfold vo
  rw [List.find?_eq_none.2 (by intro x hx; simpa using h x hx)]
theorem vo_some {l : List Pr} {i : Nat} (h : vo l i ≠ pvNone) : ∃ x ∈ l, x.1 = i ∧ x.2 = vo l i := by
  unfold vo at h ⊢
  cases hf : l.find? (fun p => p.1 == i) with
  | none => rw [hf] at h; exact absurd rfl h
  | some p => exact ⟨p, List.mem_of_find?_eq_some hf, by simpa using List.find?_some hf, rfl⟩
theorem PrsOk.prs {l : List Pr} (h : PrsOk l) : l = prs (vo l) := by
  refine ext_rising (·.1) _ _ h.1 (prs_rising _) (fun x => ?_)
  rw [mem_prs]
  constructor
  · intro hx
    have e := vo_mem h.1 hx
    have := h.2 x hx
    exact ⟨this.1, by rw [e]; exact this.2.ne, e.symm⟩
  · rintro ⟨h1, h2, h3⟩
    obtain ⟨y, hy, hy1, hy2⟩ := vo_some h2
    have : x = y := Prod.ext hy1.symm (by rw [h3, hy2])
    rw [this]; exact hy
theorem vo_prs (v : Nat → Pv) (i : Nat) (hi : i < 7) : vo (prs v) i = v i := by
  by_cases hv : v i = pvNone
  · rw [vo_none, hv]
    intro x hx e
    rw [mem_prs] at hx
    rw [e] at hx
    exact hx.2.1 hv
  · exact vo_mem (x := (i, v i)) (prs_rising v) ((mem_prs v _).2 ⟨hi, hv, rfl⟩)
theorem prs_ok {v : Nat → Pv} (h : ∀ i, i < 7 → v i = pvNone ∨ PvOk (v i)) : PrsOk (prs v) := by
  refine ⟨prs_rising v, fun x hx => ?_⟩
  rw [mem_prs] at hx
  refine ⟨hx.1, ?_⟩
  rw [hx.2.2]
  rcases h x.1 hx.1 with e | e
  · exact absurd e hx.2.1
  · exact e
theorem PrsOk.vo {l : List Pr} (h : PrsOk l) (i : Nat) : vo l i = pvNone ∨ PvOk (vo l i) := by
  by_cases e : Go.Proofs.YtjjfhblaefbpgaaGreatDoor.vo l i = pvNone
  · exact .inl e
  · obtain ⟨x, hx, _, hx2⟩ := vo_some e
    rw [← hx2]
    exact .inr (h.2 x hx).2
/-- Changes. -/
abbrev Ch := Nat × Pv × Pv
def chs (v w : Nat → Pv) : List Ch := frn (fun i => if v i = w i then none else some (i, v i, w i))
theorem mem_chs (v w : Nat → Pv) (x : Ch) : x ∈ chs v w ↔ x.1 < 7 ∧ v x.1 ≠ w x.1 ∧ x.2 = (v x.1, w x.1) := by
  unfold chs
  rw [mem_frn]
  constructor
  · rintro ⟨i, hi, h⟩
    split at h
    · cases h
    · next hn => cases h; exact ⟨hi, hn, rfl⟩
  · rintro ⟨h1, h2, h3⟩
    exact ⟨x.1, h1, by rw [if_neg h2, ← h3]⟩
theorem chs_rising (v w : Nat → Pv) : (chs v w).Pairwise (fun x y => x.1 < y.1) := by
  refine frn_rising _ _ ?_
  intro i x h
  split at h
  · cases h
  · cases h; rfl
theorem chs_turn (v w : Nat → Pv) : (chs v w).map (fun x => (x.1, x.2.2, x.2.1)) = chs w v := by
  refine ext_rising (·.1) _ _ ?_ (chs_rising _ _) (fun x => ?_)
  · rw [List.pairwise_map]; exact chs_rising v w
  · rw [List.mem_map, mem_chs]
    constructor
    · rintro ⟨y, hy, rfl⟩
      rw [mem_chs] at hy
      obtain ⟨h1, h2, h3⟩ := hy
      exact ⟨h1, fun e => h2 e.symm, by rw [h3]⟩
    · rintro ⟨h1, h2, h3⟩
      refine ⟨(x.1, v x.1, w x.1), (mem_chs _ _ _).2 ⟨h1, fun e => h2 e.symm, rfl⟩, ?_⟩
      exact Prod.ext rfl h3.symm
theorem fm_congr {α β : Type} {f g : α → Option β} : ∀ l : List α, (∀ x ∈ l, f x = g x) → l.filterMap f = l.filterMap g
  | [], _ => rfl
  | x :: l, h => by
    rw [List.filterMap_cons, List.filterMap_cons, h x (by simp), fm_congr l (fun y hy => h y (List.mem_cons_of_mem _ hy))]
/-- The names of lists. -/
def nmsF (ls : List (List Pr)) : List Nat := (List.range 7).filter (fun i => ls.any (fun l => l.any (fun p => p.1 == i)))
theorem mem_nmsF (ls : List (List Pr)) (i : Nat) : i ∈ nmsF ls ↔ i < 7 ∧ ∃ l ∈ ls, ∃ p ∈ l, p.1 = i := by
  simp [nmsF, List.mem_filter]
theorem nmsF_rising (ls : List (List Pr)) : (nmsF ls).Pairwise (· < ·) := List.Pairwise.filter _ (range_rising 7)
theorem nmsF_frn {β : Type} (ls : List (List Pr)) (g : Nat → Option β) (h : ∀ i, i < 7 → (∀ l ∈ ls, ∀ p ∈ l, p.1 ≠ i) → g i = none) : (nmsF ls).filterMap g = frn g := by
  unfold nmsF frn
  rw [List.filterMap_filter]
  refine fm_congr _ ?_
  intro i hi
  rw [List.mem_range] at hi
  split
  · rfl
  · next hn =>
    symm
    refine h i hi ?_
    intro l hl p hp e
    exact hn (by simp only [List.any_eq_true]; exact ⟨l, hl, p, hp, by simpa using e⟩)
/-- The changes, as they are found by names. -/
theorem differ_chs {a b : List Pr} : (nmsF [a, b]).filterMap (fun i => if vo a i = vo b i then none else some (i, vo a i, vo b i)) = chs (vo a) (vo b) := by
  refine nmsF_frn _ _ ?_
  intro i _ h
  rw [vo_none (h a (by simp)), vo_none (h b (by simp)), if_pos rfl]
/-- What is left, and what comes, once sorted, is the other list. -/
theorem apply_prs (v w : Nat → Pv) (m : List Pr)
    (hp : m.Perm ((prs v).filter (fun p => !(chs v w).any (fun c => c.1 == p.1)) ++ (chs v w).filterMap (fun c => if c.2.2 = pvNone then none else some (c.1, c.2.2))))
    (hs : m.Pairwise (fun x y => x.1 ≤ y.1)) : m = prs w := by
  have hmem : ∀ x, x ∈ m ↔ x ∈ prs w := by
    intro x
    rw [hp.mem_iff, List.mem_append, List.mem_filter, List.mem_filterMap, mem_prs, mem_prs]
    constructor
    · rintro (⟨⟨h1, h2, h3⟩, h4⟩ | ⟨c, hc, h⟩)
      · have e : v x.1 = w x.1 := by
          by_cases e : v x.1 = w x.1
          · exact e
          · have : (chs v w).any (fun c => c.1 == x.1) = true := by
              rw [List.any_eq_true]
              exact ⟨(x.1, v x.1, w x.1), (mem_chs _ _ _).2 ⟨h1, e, rfl⟩, by simp⟩
            rw [this] at h4; simp at h4
        rw [← e]
        exact ⟨h1, h2, h3⟩
      · rw [mem_chs] at hc
        obtain ⟨h1, h2, h3⟩ := hc
        split at h
        · cases h
        · next hn =>
          cases h
          rw [h3] at hn ⊢
          exact ⟨h1, hn, rfl⟩
    · rintro ⟨h1, h2, h3⟩
      by_cases e : v x.1 = w x.1
      · refine .inl ⟨⟨h1, by rw [e]; exact h2, by rw [e]; exact h3⟩, ?_⟩
        have : (chs v w).any (fun c => c.1 == x.1) = false := by
          rw [List.any_eq_false]
          intro c hc hcx
          rw [mem_chs] at hc
          have : c.1 = x.1 := by simpa using hcx
          rw [this] at hc
          exact hc.2.1 e
        rw [this]; rfl
      · refine .inr ⟨(x.1, v x.1, w x.1), (mem_chs _ _ _).2 ⟨h1, e, rfl⟩, ?_⟩
        simp only
        rw [if_neg h2, ← h3]
  have hnd : m.Pairwise (fun x y => x.1 ≠ y.1) := by
    refine (hp.pairwise_iff (fun h => Ne.symm h)).2 ?_
    rw [List.pairwise_append]
    refine ⟨?_, ?_, ?_⟩
    · exact ((prs_rising v).imp (fun h => Nat.ne_of_lt h)).filter _
    · refine List.Pairwise.filterMap _ ?_ ((chs_rising v w).imp (fun h => Nat.ne_of_lt h))
      intro c c' h x hx y hy
      split at hx
      · cases hx
      · split at hy
        · cases hy
        · cases hx; cases hy; exact h
    · intro x hx y hy e
      rw [List.mem_filter] at hx
      rw [List.mem_filterMap] at hy
      obtain ⟨c, hc, h⟩ := hy
      split at h
      · cases h
      · cases h
        have : (chs v w).any (fun c => c.1 == x.1) = true := by
          rw [List.any_eq_true]
          exact ⟨c, hc, by simpa using e.symm⟩
        rw [this] at hx; simp at hx
  refine ext_rising (·.1) _ _ ?_ (prs_rising w) hmem
  exact (hs.and hnd).imp (fun h => by omega)
/-- What two sides make of one base. -/
def thV (o x y : Pv) : Pv := if x = o ∨ x = y then y else if y = o then x else o
def thK (o x y : Pv) : Bool := !(decide (x = o) || decide (x = y) || decide (y = o))
theorem thV_turn (o x y : Pv) : thV o x y = thV o y x := by
  unfold thV
  by_cases h1 : x = o <;> by_cases h2 : y = o <;> by_cases h3 : x = y
  all_goals (simp_all; try (intro h; exact absurd h.symm h3))
theorem thK_turn (o x y : Pv) : thK o x y = thK o y x := by
  unfold thK
  by_cases h1 : x = o <;> by_cases h2 : y = o <;> by_cases h3 : x = y
  all_goals simp_all [eq_comm]
theorem thV_same (o x : Pv) : thV o x o = x := by
  unfold thV
  by_cases h1 : x = o <;> simp_all
theorem thV_or (o x y : Pv) : thV o x y = o ∨ thV o x y = x ∨ thV o x y = y := by
  unfold thV
  split
  · exact .inr (.inr rfl)
  · split
    · exact .inr (.inl rfl)
    · exact .inl rfl
theorem three_prs {o a b : List Pr} : (nmsF [o, a, b]).filterMap (fun i => if thV (vo o i) (vo a i) (vo b i) = pvNone then none else some (i, thV (vo o i) (vo a i) (vo b i))) = prs (fun i => thV (vo o i) (vo a i) (vo b i)) := by
  refine nmsF_frn _ _ ?_
  intro i _ h
  rw [vo_none (h o (by simp)), vo_none (h a (by simp)), vo_none (h b (by simp))]
  rfl
end Go.Proofs.YtjjfhblaefbpgaaGreatDoor

/- Notes of letters as data, and how they are merged: the plain law; no program in sight. -/
namespace Go.Proofs.YtjjfhblaefbpgaaGreatDoor
open Go.RowKit

/-- A note: its state, how often it was tried, since when. -/
structure Nt where
  s : Int
  t : Int
  c : Int
deriving DecidableEq
abbrev No := Nat × Nt
def NtOk (x : Nt) : Prop := 1 ≤ x.s ∧ x.s ≤ 7 ∧ 0 ≤ x.t ∧ x.t ≤ 2 ∧ 0 ≤ x.c ∧ x.c ≤ 3
def NsOk (l : List No) : Prop := l.Pairwise (fun x y => x.1 < y.1) ∧ ∀ x ∈ l, x.1 < 3 ∧ NtOk x.2
/-- How far a letter with a state has gone on. -/
def rkN (s : Int) : Int := if s = 6 then 1 else if s = 5 then 2 else if s = 7 then 3 else if s = 4 then 4 else if s = 3 then 5 else 0
def nk (x : Nt) : Int := ((rkN x.s * 3 + x.t) * 4 + (3 - x.c)) * 7 + (7 - x.s)
theorem nk_inj {x y : Nt} (hx : NtOk x) (hy : NtOk y) (h : nk x = nk y) : x = y := by
  obtain ⟨a1, a2, a3, a4, a5, a6⟩ := hx
  obtain ⟨b1, b2, b3, b4, b5, b6⟩ := hy
  obtain ⟨s, t, c⟩ := x
  obtain ⟨s', t', c'⟩ := y
  simp only [nk] at *
  have e1 : s = s' := by omega
  subst e1
  have e2 : c = c' := by omega
  have e3 : t = t' := by omega
  rw [e2, e3]
def mgO (x y : Option Nt) : Option Nt :=
  match x, y with
  | none, y => y
  | x, none => x
  | some a, some b => if nk a < nk b then some b else some a
theorem mgO_l (y : Option Nt) : mgO none y = y := rfl
theorem mgO_r (x : Option Nt) : mgO x none = x := by cases x <;> rfl
theorem mgO_some (a b : Nt) : mgO (some a) (some b) = if nk a < nk b then some b else some a := rfl
def OkO (x : Option Nt) : Prop := ∀ c, x = some c → NtOk c
theorem mgO_ok {x y : Option Nt} (hx : OkO x) (hy : OkO y) : OkO (mgO x y) := by
  intro c hc
  unfold mgO at hc
  split at hc
  · exact hy c hc
  · exact hx c hc
  · split at hc
    · exact hy c hc
    · exact hx c hc
theorem mgO_turn {x y : Option Nt} (hx : OkO x) (hy : OkO y) : mgO x y = mgO y x := by
  cases x with
  | none => cases y <;> rfl
  | some a =>
    cases y with
    | none => rfl
    | some b =>
      rw [mgO_some, mgO_some]
      by_cases h1 : nk a < nk b
      · rw [if_pos h1, if_neg (by omega)]
      · by_cases h2 : nk b < nk a
        · rw [if_neg h1, if_pos h2]
        · rw [if_neg h1, if_neg h2, nk_inj (hx a rfl) (hy b rfl) (by omega)]
theorem mgO_assoc (x y z : Option Nt) : mgO (mgO x y) z = mgO x (mgO y z) := by
  cases x with
  | none => rfl
  | some a =>
    cases y with
    | none => rw [mgO_r, mgO_l]
    | some b =>
      cases z with
      | none => rw [mgO_r, mgO_r]
      | some c =>
        rw [mgO_some, mgO_some]
        by_cases g1 : nk a < nk b
        · rw [if_pos g1]
          by_cases g2 : nk b < nk c
          · rw [if_pos g2, mgO_some, mgO_some, if_pos g2, if_pos (by omega)]
          · rw [if_neg g2, mgO_some, mgO_some, if_neg g2, if_pos g1]
        · rw [if_neg g1]
          by_cases g2 : nk b < nk c
          · rw [if_pos g2]
          · rw [if_neg g2, mgO_some, mgO_some, if_neg g1, if_neg (by omega)]
theorem mgO_again {x y z : Option Nt} (hy : OkO y) (hz : OkO z) : mgO (mgO (mgO x y) z) y = mgO (mgO x y) z := by
  have h1 : mgO y y = y := by
    cases y with
    | none => rfl
    | some b => rw [mgO_some]; split <;> rfl
  rw [mgO_assoc x y z, mgO_assoc, mgO_assoc y z y, mgO_turn hz hy, ← mgO_assoc y y z, h1]
/-- The note at a rank. -/
def lk (l : List No) (i : Nat) : Option Nt := (l.find? (fun p => p.1 == i)).map (·.2)
theorem lk_nil (i : Nat) : lk [] i = none := rfl
theorem lk_cons (x : No) (l : List No) (i : Nat) : lk (x :: l) i = if x.1 = i then some x.2 else lk l i := by
  unfold lk
  rw [List.find?_cons]
  by_cases h : x.1 = i
  · simp [h]
  · have h2 : (x.1 == i) = false := by simpa using h
    rw [h2, if_neg h]
theorem lk_some {l : List No} {i : Nat} {c : Nt} (h : lk l i = some c) : (i, c) ∈ l := by
  unfold lk at h
  rw [Option.map_eq_some_iff] at h
  obtain ⟨p, hp, rfl⟩ := h
  have h1 : p.1 = i := by simpa using List.find?_some hp
  rw [← h1]
  exact List.mem_of_find?_eq_some hp
theorem lk_less {l : List No} {i : Nat} (h : ∀ x ∈ l, i < x.1) : lk l i = none := by
  cases hc : lk l i with
  | none => rfl
  | some c =>
    have := h _ (lk_some hc)
    exact absurd this (Nat.lt_irrefl _)
theorem lk_mem {l : List No} (h : l.Pairwise (fun x y => x.1 < y.1)) {x : No} (hx : x ∈ l) : lk l x.1 = some x.2 := by
  induction l with
  | nil => simp at hx
  | cons y l ih =>
    rw [lk_cons]
    have h' := List.pairwise_cons.1 h
    rcases List.mem_cons.1 hx with rfl | hx
    · rw [if_pos rfl]
    · have := h'.1 x hx
      rw [if_neg (by omega)]
      exact ih h'.2 hx
theorem lk_ext {l m : List No} (hl : l.Pairwise (fun x y => x.1 < y.1)) (hm : m.Pairwise (fun x y => x.1 < y.1)) (h : ∀ i, lk l i = lk m i) : l = m := by
  refine ext_rising (·.1) _ _ hl hm (fun x => ⟨fun hx => ?_, fun hx => ?_⟩)
  · have := lk_mem hl hx
    rw [h] at this
    exact lk_some this
  · have := lk_mem hm hx
    rw [← h] at this
    exact lk_some this
theorem NsOk.lk {l : List No} (h : NsOk l) (i : Nat) : OkO (lk l i) := fun _ hc => (h.2 _ (lk_some hc)).2
/-- Merged, as the program does it. -/
def jnN : List No → List No → List No
  | [], b => b
  | x :: a, [] => x :: a
  | x :: a, y :: b =>
    if x.1 < y.1 then x :: jnN a (y :: b)
    else if y.1 < x.1 then y :: jnN (x :: a) b
    else (if nk x.2 < nk y.2 then y else x) :: jnN a b
termination_by a b => a.length + b.length
theorem jnN_nil_l (b : List No) : jnN [] b = b := by rw [jnN]
theorem jnN_nil_r (a : List No) : jnN a [] = a := by cases a <;> rw [jnN]
theorem jnN_lt {x y : No} {a b : List No} (h : x.1 < y.1) : jnN (x :: a) (y :: b) = x :: jnN a (y :: b) := by rw [jnN, if_pos h]
theorem jnN_gt {x y : No} {a b : List No} (h1 : ¬ x.1 < y.1) (h : y.1 < x.1) : jnN (x :: a) (y :: b) = y :: jnN (x :: a) b := by rw [jnN, if_neg h1, if_pos h]
theorem jnN_eq {x y : No} {a b : List No} (h1 : ¬ x.1 < y.1) (h : ¬ y.1 < x.1) : jnN (x :: a) (y :: b) = (if nk x.2 < nk y.2 then y else x) :: jnN a b := by rw [jnN, if_neg h1, if_neg h]
theorem jnN_is (n : Nat) : ∀ a b : List No, a.length + b.length = n → a.Pairwise (fun x y => x.1 < y.1) → b.Pairwise (fun x y => x.1 < y.1) →
    (jnN a b).Pairwise (fun x y => x.1 < y.1) ∧ (∀ i, lk (jnN a b) i = mgO (lk a i) (lk b i)) ∧ (∀ x ∈ jnN a b, x ∈ a ∨ x ∈ b) := by
  induction n using Nat.strongRecOn with
  | _ n ih =>
    intro a b hn ha hb
    match a, b with
    | [], b =>
      rw [jnN_nil_l]
      exact ⟨hb, fun i => by rw [lk_nil, mgO_l], fun x hx => .inr hx⟩
    | x :: a, [] =>
      rw [jnN_nil_r]
      exact ⟨ha, fun i => by rw [lk_nil, mgO_r], fun x hx => .inl hx⟩
    | x :: a, y :: b =>
      have ha' := List.pairwise_cons.1 ha
      have hb' := List.pairwise_cons.1 hb
      simp only [List.length_cons] at hn
      by_cases h1 : x.1 < y.1
      · rw [jnN_lt h1]
        obtain ⟨g1, g2, g4⟩ := ih _ (by simp; omega) a (y :: b) rfl ha'.2 hb
        have hbx : lk (y :: b) x.1 = none := lk_less (fun z hz => by
          rcases List.mem_cons.1 hz with rfl | hz
          · exact h1
          · exact Nat.lt_trans h1 (hb'.1 z hz))
        refine ⟨List.pairwise_cons.2 ⟨fun z hz => ?_, g1⟩, fun i => ?_, fun z hz => ?_⟩
        · rcases g4 z hz with h | h
          · exact ha'.1 z h
          · rcases List.mem_cons.1 h with rfl | h
            · exact h1
            · exact Nat.lt_trans h1 (hb'.1 z h)
        · rw [lk_cons, lk_cons x a]
          by_cases e : x.1 = i
          · subst e; rw [if_pos rfl, if_pos rfl, hbx, mgO_r]
          · rw [if_neg e, if_neg e]; exact g2 i
        · rcases List.mem_cons.1 hz with rfl | hz
          · exact .inl (by simp)
          · rcases g4 z hz with h | h
            · exact .inl (List.mem_cons_of_mem _ h)
            · exact .inr h
      · by_cases h2 : y.1 < x.1
        · rw [jnN_gt h1 h2]
          obtain ⟨g1, g2, g4⟩ := ih _ (by simp; omega) (x :: a) b rfl ha hb'.2
          have hax : lk (x :: a) y.1 = none := lk_less (fun z hz => by
            rcases List.mem_cons.1 hz with rfl | hz
            · exact h2
            · exact Nat.lt_trans h2 (ha'.1 z hz))
          refine ⟨List.pairwise_cons.2 ⟨fun z hz => ?_, g1⟩, fun i => ?_, fun z hz => ?_⟩
          · rcases g4 z hz with h | h
            · rcases List.mem_cons.1 h with rfl | h
              · exact h2
              · exact Nat.lt_trans h2 (ha'.1 z h)
            · exact hb'.1 z h
          · rw [lk_cons, lk_cons y b]
            by_cases e : y.1 = i
            · subst e; rw [if_pos rfl, if_pos rfl, hax, mgO_l]
            · rw [if_neg e, if_neg e]; exact g2 i
          · rcases List.mem_cons.1 hz with rfl | hz
            · exact .inr (by simp)
            · rcases g4 z hz with h | h
              · exact .inl h
              · exact .inr (List.mem_cons_of_mem _ h)
        · rw [jnN_eq h1 h2]
          have hxy : x.1 = y.1 := by omega
          obtain ⟨g1, g2, g4⟩ := ih _ (by omega) a b rfl ha'.2 hb'.2
          have hp1 : (if nk x.2 < nk y.2 then y else x).1 = x.1 := by split <;> omega
          refine ⟨List.pairwise_cons.2 ⟨fun z hz => ?_, g1⟩, fun i => ?_, fun z hz => ?_⟩
          · rw [hp1]
            rcases g4 z hz with h | h
            · exact ha'.1 z h
            · rw [hxy]; exact hb'.1 z h
          · rw [lk_cons, lk_cons x a, lk_cons y b, hp1]
            by_cases e : x.1 = i
            · have e2 : y.1 = i := hxy.symm.trans e
              rw [if_pos e, if_pos e, if_pos e2, mgO_some]
              split <;> rfl
            · have e2 : ¬ y.1 = i := fun h => e (hxy.trans h)
              rw [if_neg e, if_neg e, if_neg e2]; exact g2 i
          · rcases List.mem_cons.1 hz with rfl | hz
            · split
              · exact .inr (by simp)
              · exact .inl (by simp)
            · rcases g4 z hz with h | h
              · exact .inl (List.mem_cons_of_mem _ h)
              · exact .inr (List.mem_cons_of_mem _ h)
theorem jnN_ok {a b : List No} (ha : NsOk a) (hb : NsOk b) : NsOk (jnN a b) := by
  obtain ⟨h1, _, h3⟩ := jnN_is _ a b rfl ha.1 hb.1
  exact ⟨h1, fun x hx => (h3 x hx).elim (ha.2 x) (hb.2 x)⟩
theorem jnN_lk {a b : List No} (ha : NsOk a) (hb : NsOk b) (i : Nat) : lk (jnN a b) i = mgO (lk a i) (lk b i) := (jnN_is _ a b rfl ha.1 hb.1).2.1 i
theorem jnN_turn {a b : List No} (ha : NsOk a) (hb : NsOk b) : jnN a b = jnN b a :=
  lk_ext (jnN_ok ha hb).1 (jnN_ok hb ha).1 (fun i => by rw [jnN_lk ha hb, jnN_lk hb ha, mgO_turn (ha.lk i) (hb.lk i)])
theorem jnN_assoc {a b c : List No} (ha : NsOk a) (hb : NsOk b) (hc : NsOk c) : jnN (jnN a b) c = jnN a (jnN b c) :=
  lk_ext (jnN_ok (jnN_ok ha hb) hc).1 (jnN_ok ha (jnN_ok hb hc)).1 (fun i => by rw [jnN_lk (jnN_ok ha hb) hc, jnN_lk ha hb, jnN_lk ha (jnN_ok hb hc), jnN_lk hb hc, mgO_assoc])
theorem jnN_again {a b c : List No} (ha : NsOk a) (hb : NsOk b) (hc : NsOk c) : jnN (jnN (jnN a b) c) b = jnN (jnN a b) c := by
  have h1 := jnN_ok (jnN_ok ha hb) hc
  exact lk_ext (jnN_ok h1 hb).1 h1.1 (fun i => by rw [jnN_lk h1 hb, jnN_lk (jnN_ok ha hb) hc, jnN_lk ha hb, mgO_again (hb.lk i) (hc.lk i)])
theorem NsOk.len {l : List No} (h : NsOk l) : l.length ≤ 3 := by
  obtain ⟨h1, h2⟩ := h
  match l with
  | [] => simp
  | [_] => simp
  | [_, _] => simp
  | [_, _, _] => simp
  | x :: y :: z :: u :: r =>
    have hu := (h2 u (by simp)).1
    rw [List.pairwise_cons] at h1
    have a1 := h1.1 y (by simp)
    have h3 := List.pairwise_cons.1 h1.2
    have a2 := h3.1 z (by simp)
    have h4 := List.pairwise_cons.1 h3.2
    have a3 := h4.1 u (by simp)
    omega
end Go.Proofs.YtjjfhblaefbpgaaGreatDoor

/- The text of notes: the plain laws; no program in sight. -/
namespace Go.Proofs.YtjjfhblaefbpgaaGreatDoor
open Go.RowKit

def idL (i : Nat) : List UInt8 :=
  match i with
  | 0 => [108, 97]
  | 1 => [108, 98]
  | _ => [108, 99]
def dgL (n : Int) : List UInt8 := [UInt8.ofNat (48 + n.toNat)]
def wdL (x : No) : List (List UInt8) := [idL x.1, [45], [48], [48], [49, 48, 48], dgL x.2.s, dgL x.2.t, dgL x.2.c, [34, 100, 111, 34]]
def lnL (x : No) : List UInt8 := joinC 32 (wdL x)
def txL (l : List No) : List UInt8 := linesC 10 (l.map lnL)
theorem dg_not (n : Int) (h0 : 0 ≤ n) (h9 : n ≤ 9) (c : UInt8) (hc : c = 32 ∨ c = 10 ∨ c = 45) : c ∉ dgL n := by
  have : n = 0 ∨ n = 1 ∨ n = 2 ∨ n = 3 ∨ n = 4 ∨ n = 5 ∨ n = 6 ∨ n = 7 ∨ n = 8 ∨ n = 9 := by omega
  rcases hc with rfl | rfl | rfl <;> rcases this with h | h | h | h | h | h | h | h | h | h <;> subst h <;> decide
theorem id_not (i : Nat) (c : UInt8) (hc : c = 32 ∨ c = 10) : c ∉ idL i := by
  unfold idL
  rcases hc with rfl | rfl <;> split <;> decide
theorem wd_not {x : No} (hx : NtOk x.2) : ∀ p ∈ wdL x, (32 : UInt8) ∉ p := by
  obtain ⟨h1, h2, h3, h4, h5, h6⟩ := hx
  intro p hp
  simp only [wdL, List.mem_cons, List.not_mem_nil, or_false] at hp
  rcases hp with rfl | rfl | rfl | rfl | rfl | rfl | rfl | rfl | rfl
  · exact id_not _ _ (.inl rfl)
  · decide
  · decide
  · decide
  · decide
  · exact dg_not _ (by omega) (by omega) _ (.inl rfl)
  · exact dg_not _ (by omega) (by omega) _ (.inl rfl)
  · exact dg_not _ (by omega) (by omega) _ (.inl rfl)
  · decide
theorem ln_eq (x : No) : lnL x = idL x.1 ++ [32, 45, 32, 48, 32, 48, 32, 49, 48, 48, 32] ++ dgL x.2.s ++ [32] ++ dgL x.2.t ++ [32] ++ dgL x.2.c ++ [32, 34, 100, 111, 34] := by
  simp [lnL, wdL, joinC]
theorem ln_not {x : No} (hx : NtOk x.2) : (10 : UInt8) ∉ lnL x := by
  obtain ⟨h1, h2, h3, h4, h5, h6⟩ := hx
  rw [ln_eq]
  intro h
  simp only [List.mem_append] at h
  rcases h with ((((((h | h) | h) | h) | h) | h) | h) | h
  · exact id_not _ _ (.inr rfl) h
  · revert h; decide
  · exact dg_not _ (by omega) (by omega) _ (.inr (.inl rfl)) h
  · revert h; decide
  · exact dg_not _ (by omega) (by omega) _ (.inr (.inl rfl)) h
  · revert h; decide
  · exact dg_not _ (by omega) (by omega) _ (.inr (.inl rfl)) h
  · revert h; decide
theorem id_len (i : Nat) : (idL i).length = 2 := by unfold idL; split <;> rfl
theorem ln_len (x : No) : (lnL x).length = 23 := by
  rw [ln_eq]
  simp [id_len, dgL]
theorem itoa_dg (n : Int) (h0 : 0 ≤ n) (h9 : n ≤ 9) : Lib.itoa n = dgL n := by
  unfold Lib.itoa dgL
  rw [if_neg (by omega), Lib.decDigits, dif_pos (by omega)]
theorem itoa_100 : Lib.itoa 100 = [49, 48, 48] := by
  have h1 : Lib.decDigits 1 = [49] := by rw [Lib.decDigits]; rfl
  have h2 : Lib.decDigits 10 = [49, 48] := by rw [Lib.decDigits, dif_neg (by omega), show 10 / 10 = 1 from rfl, h1]; rfl
  show Lib.decDigits 100 = _
  rw [Lib.decDigits, dif_neg (by omega), show 100 / 10 = 10 from rfl, h2]
  rfl
theorem tx_len (l : List No) : (txL l).length = 24 * l.length := by
  unfold txL linesC
  induction l with
  | nil => rfl
  | cons x l ih =>
    rw [List.map_cons, List.flatMap_cons, List.length_append, ih, List.length_append, ln_len]
    simp only [List.length_cons, List.length_nil]
    omega
/-- The lines of a text are those of its notes. -/
theorem tx_lines {l : List No} (h0 : l ≠ []) : Lib.hasSuffix (txL l) [10] = true ∧ Lib.trimSuffix (txL l) [10] = joinC 10 (l.map lnL) :=
  linesC_suffix 10 _ (by simpa using h0)
theorem tx_split {l : List No} (hl : NsOk l) (h0 : l ≠ []) (k : Nat) (hk : l.length ≤ k + 1) : Lib.splitB ⟨#[10]⟩ 0 k ⟨(joinC 10 (l.map lnL)).toArray⟩ = l.map (fun x => ⟨(lnL x).toArray⟩) := by
  rw [splitB_join 10 _ _ (by simpa using h0) (fun p hp => by
    rw [List.mem_map] at hp
    obtain ⟨x, hx, rfl⟩ := hp
    exact ln_not (hl.2 x hx).2) (by simpa using hk), List.map_map]
  rfl
theorem ln_split {x : No} (hx : NtOk x.2) (k : Nat) (hk : 8 ≤ k) : Lib.splitB ⟨#[32]⟩ 0 k ⟨(lnL x).toArray⟩ = (wdL x).map (fun p => ⟨p.toArray⟩) :=
  splitB_join 32 _ _ (by simp [wdL]) (wd_not hx) (by simp [wdL]; omega)
end Go.Proofs.YtjjfhblaefbpgaaGreatDoor

/- The shelf's Lays.n196 at this program. -/
namespace Go.Proofs.YtjjfhblaefbpgaaGreatDoor
open Go.RowKit Go.Shelf

def lay196_ren : Go.Shelf.Ren := ⟨fun | 196 => 153 | 259 => 185 | n => n, fun | 9 => 9 | 4 => 4 | 3 => 3 | 5 => 5 | 12 => 12 | 119 => 235 | 0 => 0 | 46 => 173 | 139 => 238 | 138 => 237 | 53 => 116 | n => n, fun | 3 => 1 | 4 => 2 | n => n⟩
theorem lay196 : Lays.n196 Tryz.prog lay196_ren := {
  mixed := by kernel_rfl,
  f196 := Tryz.func153.trans (congrArg some (by kernel_rfl)),
  f259 := Tryz.func185.trans (congrArg some (by kernel_rfl)),
  t0 := Tryz.underlying0,
  a0 := Tryz.isAgg0,
  z0 := Tryz.sizeOf0,
  v0 := Tryz.zeroValue0,
  t3 := Tryz.underlying3,
  a3 := Tryz.isAgg3,
  z3 := Tryz.sizeOf3,
  v3 := Tryz.zeroValue3,
  t4 := Tryz.underlying4,
  a4 := Tryz.isAgg4,
  z4 := Tryz.sizeOf4,
  v4 := Tryz.zeroValue4,
  t5 := Tryz.underlying5,
  a5 := Tryz.isAgg5,
  z5 := Tryz.sizeOf5,
  v5 := Tryz.zeroValue5,
  t9 := Tryz.underlying9,
  a9 := Tryz.isAgg9,
  z9 := Tryz.sizeOf9,
  v9 := Tryz.zeroValue9,
  t12 := Tryz.underlying12,
  a12 := Tryz.isAgg12,
  z12 := Tryz.sizeOf12,
  v12 := Tryz.zeroValue12,
  t46 := Tryz.underlying173,
  a46 := Tryz.isAgg173,
  z46 := Tryz.sizeOf173,
  v46 := Tryz.zeroValue173,
  t53 := Tryz.underlying116,
  a53 := Tryz.isAgg116,
  z53 := Tryz.sizeOf116,
  v53 := Tryz.zeroValue116,
  t119 := Tryz.underlying235,
  a119 := Tryz.isAgg235,
  z119 := Tryz.sizeOf235,
  t138 := Tryz.underlying237,
  a138 := Tryz.isAgg237,
  z138 := Tryz.sizeOf237,
  v138 := Tryz.zeroValue237,
  t139 := Tryz.underlying238,
  a139 := Tryz.isAgg238,
  z139 := Tryz.sizeOf238,
  v139 := Tryz.zeroValue238,
  g3 := by kernel_rfl,
  g4 := by kernel_rfl }
end Go.Proofs.YtjjfhblaefbpgaaGreatDoor

/- unicode/utf8.ValidString at the library's tables as laid. -/
namespace Go.Proofs.YtjjfhblaefbpgaaGreatDoor
open Go.RowKit Go.Shelf

/-- The library's two tables are as they were laid. -/
def U8T (w : World) : Prop := Lib.Utf8Tabs (lay196_ren.g 3) (lay196_ren.g 4) w
theorem U8T.below {w w' : World} (h : U8T w) (hb : Below w.heap.size w w') : U8T w' := Utf8Tabs_below h hb
theorem valid_at (s : ByteArray) (w : World) (hs : s.size ≤ 1000) (hv : Lib.validD s.data.toList = true) (hT : U8T w) : Calls Tryz.prog 153 #[.string s] w fun e w' => e = .returned (.bool true) ∧ Below w.heap.size w w' := by
  refine (Any.utf8_ValidString lay196 s w (by omega) hT).mono ?_
  rintro e w' ⟨h, hb⟩
  rw [hv] at h
  exact ⟨h, hb⟩

end Go.Proofs.YtjjfhblaefbpgaaGreatDoor

/- The stream of numbers: Below, Next, Range, Pick, Flip, each by its contract. -/
namespace Go.Proofs.YtjjfhblaefbpgaaGreatDoor
open Go.RowKit

theorem below_any (x n : Int) (w : World) (hn : n ≤ 1099511627776) : Calls Tryz.prog 55 #[.int .i64 x, .int .i64 n] w fun e w' => e = .returned (.int .i64 (below x n)) ∧ w = w' := by
  by_cases h : n < 1
  · have hb : below x n = 0 := by simp [below, h]
    rw [hb]
    go_enter Tryz.func55, Tryz.ntmps55
    go_wp2
    go_ret; exact ⟨rfl, rfl⟩
  · have hb : below x n = x % n := by simp [below, h]
    rw [hb]
    have h1 : 1 ≤ n := by omega
    have H := Lib.hid (tmod_cases x n h1)
    have hlo : -n < x.tmod n := by have := Int.lt_tmod_of_pos x (b := n) (by omega); omega
    have hhi : x.tmod n < n := Int.tmod_lt_of_pos x (by omega)
    have hn0 : ¬ n = 0 := by omega
    clear hb h
    go_enter Tryz.func55, Tryz.ntmps55
    go_wp2
    · go_ret; exact ⟨ret_int (H.out.1 (by assumption)).1.symm, rfl⟩
    · go_ret; exact ⟨ret_int (H.out.2 (by assumption)).symm, rfl⟩

/-- Block p is a stream that has handed out k numbers of a slice. -/
def SBlk (w : World) (p : Nat) (A : Option Addr) (n c : Nat) (k : Nat) : Prop := w.heap[p]? = some (.cells #[.slice A n c, .int .i64 (k : Int)] 25 (0, 0))
theorem SBlk.cell0 {w p A n c k} (h : SBlk w p A n c k) : w.cell? ⟨p, 0, none⟩ = some (.slice A n c) := cell_of_blk h rfl
theorem SBlk.cell1 {w p A n c k} (h : SBlk w p A n c k) : w.cell? ⟨p, 1, none⟩ = some (.int .i64 (k : Int)) := cell_of_blk h rfl
theorem SBlk.fr1 {w p A n c k} (h : SBlk w p A n c k) : w.frozen? ⟨p, 1, none⟩ = false := by simp [World.frozen?, show w.heap[p]? = _ from h]

set_option maxHeartbeats 400000 in
theorem next_nil (w : World) (p c k : Nat) (A : Option Addr) (m : Int) (hm : m ≤ 1099511627776) (hk : k < 1000000) (hs : SBlk w p A 0 c k) :
    Calls Tryz.prog 18 #[.pointer (some ⟨p, 0, none⟩), .int .i64 m] w fun e w' => e = .returned (.int .i64 (nextV [] k m)) ∧ ∃ q, w' = (w.setCell ⟨p, 1, none⟩ (.int .i64 ((k : Int) + 1))).drewN q := by
  have h0 := hs.cell0
  have h1 := hs.cell1
  have h2 := hs.fr1
  clear hs
  have hk' : (k : Int) < 1000000 := by omega
  go_enter Tryz.func18, Tryz.ntmps18
  go_wp2_with (go_at_call 55; refine (below_any _ _ _ (by omega)).mono ?_; rintro e w' ⟨rfl, rfl⟩)
  go_ret
  exact ⟨ret_int (by simp [nextV]), 0, rfl⟩

set_option maxHeartbeats 1000000 in
theorem next_some (w : World) (p n c k b o : Nat) (xs : List Int) (m : Int) (hm : m ≤ 1099511627776) (hk : k < 1000000) (hn : 0 < n) (hn2 : n ≤ 17592186044416) (hlen : xs.length = n)
    (hs : SBlk w p (some ⟨b, o, none⟩) n c k) (hbp : b ≠ p) (hx : w.cell? ⟨b, o + k % n, none⟩ = some (.int .i64 (xs.getD (k % n) 0))) :
    Calls Tryz.prog 18 #[.pointer (some ⟨p, 0, none⟩), .int .i64 m] w fun e w' => e = .returned (.int .i64 (nextV xs k m)) ∧ ∃ q, w' = (w.setCell ⟨p, 1, none⟩ (.int .i64 ((k : Int) + 1))).drewN q := by
  have h0 := hs.cell0
  have h1 := hs.cell1
  have h2 := hs.fr1
  obtain ⟨x, hxd⟩ : ∃ x, x = xs.getD (k % n) 0 := ⟨_, rfl⟩
  obtain ⟨q, hq⟩ : ∃ q, q = k / n := ⟨_, rfl⟩
  obtain ⟨r, hr⟩ : ∃ r, r = k % n := ⟨_, rfl⟩
  obtain ⟨t, ht⟩ : ∃ t, t = q * (7919 + r) := ⟨_, rfl⟩
  have HV := Lib.hid (show nextV xs k m = below (below x 1073741824 + (t : Int)) m by
    unfold nextV; rw [if_neg (by omega), hlen, hxd, ht, hq, hr])
  have HR : t ≤ k * 7920 := by rw [ht, hq, hr]; exact round_le k n hn
  have hb0 := below_range x 1073741824 (by omega)
  have hrn : r < n := by rw [hr]; exact Nat.mod_lt _ hn
  have hqk : q ≤ k := by rw [hq]; exact Nat.div_le_self _ _
  rw [← hxd, ← hr] at hx
  have hw2 : (k : Int) % (n : Int) = (r : Int) := by rw [hr]; rfl
  have hw3 : (k : Int) / (n : Int) = (q : Int) := by rw [hq]; rfl
  have hw4 : wrap64 ((q : Int) * (7919 + (r : Int))) = (t : Int) := by
    rw [show ((q : Int) * (7919 + (r : Int))) = (t : Int) by rw [ht, Int.natCast_mul, Int.natCast_add]; rfl]; unfold wrap64; omega
  clear hs hlen ht hq hr hxd
  have hn0 : ¬ (n : Int) = 0 := by omega
  go_enter Tryz.func18, Tryz.ntmps18
  go_wp2_with (fail)
  go_quiet (fail)
  go_wp2_with (fail)
  go_quiet (fail)
  go_wp2_with (go_at_call 55; refine (below_any _ _ _ (by omega)).mono ?_; rintro e w' ⟨rfl, rfl⟩)
  go_ret
  exact ⟨ret_int HV.out.symm, _, rfl⟩

/-- Block p is a stream over the numbers xs, k of which it has handed out. -/
def Strm (w : World) (p : Nat) (xs : List Int) (k : Nat) : Prop :=
  xs.length ≤ 17592186044416 ∧ ∃ A c, SBlk w p A xs.length c k ∧ Row w p A (xs.map (Value.int .i64))

theorem Strm.keep {w w' : World} {p k : Nat} {xs : List Int} (h : Strm w p xs k) (hb : ∀ b, b ≤ p → w'.heap[b]? = w.heap[b]?) : Strm w' p xs k := by
  obtain ⟨h1, A, c, h2, h3⟩ := h
  exact ⟨h1, A, c, (hb p (Nat.le_refl _)).trans h2, h3.keep fun b hlt => hb b (by omega)⟩
theorem Strm.lt {w : World} {p k : Nat} {xs : List Int} (h : Strm w p xs k) : p < w.heap.size := by
  obtain ⟨h1, A, c, h2, h3⟩ := h
  unfold SBlk at h2
  exact (Array.getElem?_eq_some_iff.1 h2).1
theorem Strm.below {w w' : World} {p k : Nat} {xs : List Int} (h : Strm w p xs k) (hb : Below w.heap.size w w') : Strm w' p xs k :=
  h.keep fun b hlt => hb.block b (by have := h.lt; omega)

theorem Strm.row {w w' : World} {p k : Nat} {xs : List Int} {row : Option Nat} (h : Strm w p xs k) (hg : w.grownBy w' row) (hr : ∀ g, row = some g → p < g) : Strm w' p xs k :=
  h.keep fun b hlt => hg.block b (by have := h.lt; omega) (fun e => by have := hr b e.symm; omega)
theorem Strm.alloc {w : World} {p k : Nat} {xs : List Int} (h : Strm w p xs k) (o : Obj) : Strm (w.alloc o) p xs k :=
  h.keep fun b hb => Below.heap_alloc _ _ b (by have := h.lt; omega)

theorem next_any (w : World) (p k : Nat) (xs : List Int) (m : Int) (hm : m ≤ 1099511627776) (hk : k < 1000000) (hs : Strm w p xs k) :
    Calls Tryz.prog 18 #[.pointer (some ⟨p, 0, none⟩), .int .i64 m] w fun e w' => e = .returned (.int .i64 (nextV xs k m)) ∧ Strm w' p xs (k + 1) ∧ w.grownBy w' (some p) := by
  have hlt := hs.lt
  obtain ⟨h1, A, c, h2, h3⟩ := hs
  have fin : ∀ q, Strm ((w.setCell ⟨p, 1, none⟩ (.int .i64 ((k : Int) + 1))).drewN q) p xs (k + 1) ∧ w.grownBy ((w.setCell ⟨p, 1, none⟩ (.int .i64 ((k : Int) + 1))).drewN q) (some p) := by
    intro q
    refine ⟨⟨h1, A, c, ?_, ?_⟩, grown_drewN (grown_set (grown_refl w _) (.inl rfl) _) q⟩
    · show (w.setCell ⟨p, 1, none⟩ (.int .i64 ((k : Int) + 1))).heap[p]? = _
      unfold SBlk at h2
      simp [World.setCell, Array.getElem?_modify, h2]
    · exact h3.keep fun b hb => Below.heap_setCell w ⟨p, 1, none⟩ _ b (by show b ≠ p; omega)
  by_cases hn : xs.length = 0
  · obtain rfl : xs = [] := List.eq_nil_of_length_eq_zero hn
    refine (next_nil w p c k A m hm hk h2).mono ?_
    rintro e w' ⟨rfl, q, rfl⟩
    exact ⟨rfl, fin q⟩
  · rcases h3 with h3 | ⟨b, o, rfl, hb, hc⟩
    · simp at h3; simp [h3] at hn
    · have hj : k % xs.length < xs.length := Nat.mod_lt _ (by omega)
      have hcell := hc (k % xs.length) (.int .i64 (xs.getD (k % xs.length) 0)) (by simp [List.getElem?_eq_getElem hj])
      refine (next_some w p xs.length c k b o xs m hm hk (by omega) h1 rfl h2 (by omega) hcell).mono ?_
      rintro e w' ⟨rfl, q, rfl⟩
      exact ⟨rfl, fin q⟩

theorem range_any (w : World) (p k : Nat) (xs : List Int) (lo hi : Int) (hk : k < 1000000) (h1 : -1000000000000 < lo) (h2 : lo ≤ hi) (h3 : hi < 1000000000000) (h4 : hi - lo < 1000000000000) (hs : Strm w p xs k) :
    Calls Tryz.prog 7 #[.pointer (some ⟨p, 0, none⟩), .int .i64 lo, .int .i64 hi] w fun e w' => e = .returned (.int .i64 (lo + nextV xs k (hi - lo + 1))) ∧ Strm w' p xs (k + 1) ∧ w.grownBy w' (some p) := by
  have hr := nextV_range xs k (hi - lo + 1) (by omega)
  have HS := Lib.hid hs
  clear hs
  go_enter Tryz.func7, Tryz.ntmps7
  go_wp2_with (go_at_call 18; refine (next_any _ _ _ xs _ (by omega) hk HS.out).mono ?_; rintro e w' ⟨rfl, hs', hg'⟩)
  go_ret
  exact ⟨rfl, hs', hg'⟩

theorem pick_any (w : World) (p k g m c : Nat) (xs : List Int) (vs : List Int) (hk : k < 1000000) (hm : vs.length = m) (h0 : 0 < m) (h1 : m ≤ 1000000) (hs : Strm w p xs k) (hg : g ≠ p)
    (hc : Cells w g 0 (vs.map (Value.int .i64))) :
    Calls Tryz.prog 47 #[.pointer (some ⟨p, 0, none⟩), .slice (some ⟨g, 0, none⟩) m c] w fun e w' => e = .returned (.int .i64 (vs.getD (nextN xs k m) 0)) ∧ Strm w' p xs (k + 1) ∧ w.grownBy w' (some p) := by
  have hj := nextN_lt xs k m h0
  have HE := Lib.hid (nextN_eq xs k m h0)
  obtain ⟨j, ej⟩ : ∃ j, j = nextN xs k m := ⟨_, rfl⟩
  rw [← ej] at HE hj ⊢
  have hcell := hc j (.int .i64 (vs.getD j 0)) (by simp [List.getElem?_eq_getElem (show j < vs.length by omega)])
  have hlt := World.block_lt_of_cell? w _ hcell
  simp only [Nat.zero_add] at hcell hlt
  obtain ⟨x, ex⟩ : ∃ x, x = vs.getD j 0 := ⟨_, rfl⟩
  rw [← ex] at hcell ⊢
  have HS := Lib.hid hs
  clear hs hc ej ex hm
  go_enter Tryz.func47, Tryz.ntmps47
  go_wp2_with (go_at_call 18; refine (next_any _ _ _ xs _ (by omega) hk HS.out).mono ?_; rw [HE.out]; rintro e w' ⟨rfl, hs', hg'⟩; have hc' := hg'.cell hcell (by simpa using hg); clear hcell; have HS' := Lib.hid hs'; have HG' := Lib.hid hg'; clear hs' hg')
  go_ret
  exact ⟨rfl, HS'.out, HG'.out⟩
theorem range_nat (w : World) (p k m : Nat) (xs : List Int) (hk : k < 1000000) (h3 : m < 1000000000) (hs : Strm w p xs k) :
    Calls Tryz.prog 7 #[.pointer (some ⟨p, 0, none⟩), .int .i64 0, .int .i64 (m : Int)] w fun e w' => e = .returned (.int .i64 (nextN xs k (m + 1) : Int)) ∧ Strm w' p xs (k + 1) ∧ w.grownBy w' (some p) := by
  refine (range_any w p k xs 0 m hk (by omega) (by omega) (by omega) (by omega) hs).mono ?_
  rintro e w' ⟨rfl, h⟩
  refine ⟨ret_int ?_, h⟩
  have := nextN_eq xs k (m + 1) (by omega)
  rw [← this]
  simp
end Go.Proofs.YtjjfhblaefbpgaaGreatDoor

/- Flip of the stream by its contract. -/
namespace Go.Proofs.YtjjfhblaefbpgaaGreatDoor
open Go.RowKit

theorem cells_atF {w : World} {cs : Array Value} {t : TypeId} {f : Nat × Nat} {xs : List Value} {n : Nat} (h : cs.toList = xs) (hn : n = w.heap.size) : Cells (w.alloc (.cells cs t f)) n 0 xs := by
  subst hn; exact Cells.new _ _ _ _ _ h
theorem flip_any (w : World) (p k : Nat) (xs : List Int) (m : Int) (hm : 1 ≤ m) (hm2 : m ≤ 1000) (hk : k < 1000000) (hs : Strm w p xs k) :
    Calls Tryz.prog 6 #[.pointer (some ⟨p, 0, none⟩), .int .i64 m] w fun e w' => ∃ b : Bool, e = .returned (.bool b) ∧ Strm w' p xs (k + 1) ∧ w.grownBy w' (some p) := by
  have HS := Lib.hid hs
  clear hs
  obtain ⟨v, ev⟩ : ∃ v, v = nextV xs k m := ⟨_, rfl⟩
  have HN := Lib.hid (next_any w p k xs m (by omega) hk HS.out)
  rw [← ev] at HN
  clear ev
  go_enter Tryz.func6, Tryz.ntmps6
  go_wp2_with (fail)
  refine HN.out.mono ?_
  rintro e w' ⟨rfl, hs', hg'⟩
  have H := Lib.hid (And.intro hs' hg')
  clear hs' hg'
  go_wp2_with (fail)
  go_ret
  exact ⟨_, rfl, H.out.1, H.out.2⟩

end Go.Proofs.YtjjfhblaefbpgaaGreatDoor

/- Notes as cells; command.CheckLetter, CheckNotes of right notes by their contracts. -/
namespace Go.Proofs.YtjjfhblaefbpgaaGreatDoor
open Go.RowKit

def idT (i : Nat) : ByteArray :=
  match i with
  | 0 => ⟨#[108, 97]⟩
  | 1 => ⟨#[108, 98]⟩
  | _ => ⟨#[108, 99]⟩
def doT : ByteArray := ⟨#[100, 111]⟩
theorem idT_key (i : Nat) : isKey (idT i) = true := by
  unfold idT; split <;> decide
theorem id_le (i j : Nat) (hi : i < 3) (hj : j < 3) : (Op.bytesLess (idT i).toList (idT j).toList || (idT i).toList == (idT j).toList) = decide (i ≤ j) := by
  rw [Lib.toList_data, Lib.toList_data]
  have h1 : i = 0 ∨ i = 1 ∨ i = 2 := by omega
  have h2 : j = 0 ∨ j = 1 ∨ j = 2 := by omega
  rcases h1 with h | h | h <;> subst h <;> rcases h2 with h | h | h <;> subst h <;> decide
def noC (x : No) : List Value := [.string (idT x.1), .string ⟨#[]⟩, .string ⟨#[100, 111]⟩, .int .i64 0, .int .i64 0, .int .i64 100, .int .i64 x.2.s, .int .i64 x.2.t, .int .i64 x.2.c]
theorem noC_len (x : No) : (noC x).length = 9 := rfl
theorem noC_one (x : No) : ∀ u ∈ noC x, u.oneCell' = true := by
  intro u hu
  simp only [noC, List.mem_cons, List.not_mem_nil, or_false] at hu
  rcases hu with h | h | h | h | h | h | h | h | h <;> rw [h] <;> rfl
def NoAt (V : World) (b o : Nat) (x : No) : Prop :=
  V.cell? ⟨b, o, none⟩ = some (.string (idT x.1)) ∧ V.cell? ⟨b, o + 1, none⟩ = some (.string ⟨#[]⟩) ∧ V.cell? ⟨b, o + 2, none⟩ = some (.string ⟨#[100, 111]⟩) ∧ V.cell? ⟨b, o + 3, none⟩ = some (.int .i64 0) ∧ V.cell? ⟨b, o + 4, none⟩ = some (.int .i64 0) ∧ V.cell? ⟨b, o + 5, none⟩ = some (.int .i64 100) ∧ V.cell? ⟨b, o + 6, none⟩ = some (.int .i64 x.2.s) ∧ V.cell? ⟨b, o + 7, none⟩ = some (.int .i64 x.2.t) ∧ V.cell? ⟨b, o + 8, none⟩ = some (.int .i64 x.2.c)
theorem no_cells {w : World} {b o : Nat} {l : List No} (h : Cells w b o (recs noC l)) (i : Nat) (x : No) (hx : l[i]? = some x) : NoAt w b (o + i * 9) x :=
  ⟨rec_cell noC_len h i x hx 0 _ rfl, rec_cell noC_len h i x hx 1 _ rfl, rec_cell noC_len h i x hx 2 _ rfl, rec_cell noC_len h i x hx 3 _ rfl, rec_cell noC_len h i x hx 4 _ rfl, rec_cell noC_len h i x hx 5 _ rfl, rec_cell noC_len h i x hx 6 _ rfl, rec_cell noC_len h i x hx 7 _ rfl, rec_cell noC_len h i x hx 8 _ rfl⟩
def noBlk (x : No) : Obj := .cells #[.string (idT x.1), .string ⟨#[]⟩, .string ⟨#[100, 111]⟩, .int .i64 0, .int .i64 0, .int .i64 100, .int .i64 x.2.s, .int .i64 x.2.t, .int .i64 x.2.c] 34 (0, 0)
def NoB (V : World) (b : Nat) (x : No) : Prop :=
  V.cell? ⟨b, 0, none⟩ = some (.string (idT x.1)) ∧ V.cell? ⟨b, 1, none⟩ = some (.string ⟨#[]⟩) ∧ V.cell? ⟨b, 2, none⟩ = some (.string ⟨#[100, 111]⟩) ∧ V.cell? ⟨b, 3, none⟩ = some (.int .i64 0) ∧ V.cell? ⟨b, 4, none⟩ = some (.int .i64 0) ∧ V.cell? ⟨b, 5, none⟩ = some (.int .i64 100) ∧ V.cell? ⟨b, 6, none⟩ = some (.int .i64 x.2.s) ∧ V.cell? ⟨b, 7, none⟩ = some (.int .i64 x.2.t) ∧ V.cell? ⟨b, 8, none⟩ = some (.int .i64 x.2.c)
theorem no_blk {V : World} {b : Nat} {x : No} (h : V.heap[b]? = some (noBlk x)) : NoB V b x :=
  ⟨cell_of_blk (j := 0) h rfl, cell_of_blk (j := 1) h rfl, cell_of_blk (j := 2) h rfl, cell_of_blk (j := 3) h rfl, cell_of_blk (j := 4) h rfl, cell_of_blk (j := 5) h rfl, cell_of_blk (j := 6) h rfl, cell_of_blk (j := 7) h rfl, cell_of_blk (j := 8) h rfl⟩
theorem unmarked_do (w : World) (hT : U8T w) : Calls Tryz.prog 119 #[.string ⟨#[100, 111]⟩] w fun e w' => e = .returned (.bool true) ∧ Below w.heap.size w w' := by
  have HV := Lib.hid (valid_at ⟨#[100, 111]⟩ w (by decide) (by decide) hT)
  go_enter Tryz.func119, Tryz.ntmps119
  go_wp2_with (fail)
  refine wp_loop_rounds 3 ?_
  rw [rounds_succ]
  go_wp2_with (fail)
  rw [rounds_succ]
  go_wp2_with (fail)
  rw [rounds_succ]
  go_wp2_with (fail)
  refine HV.out.mono ?_
  rintro e w1 ⟨rfl, hb⟩
  have HB := Lib.hid hb
  clear hb
  go_wp2_with (fail)
  go_ret
  exact ⟨rfl, HB.out⟩
set_option maxRecDepth 100000 in
set_option maxHeartbeats 1000000 in
theorem checkLetter_do (i : Nat) (w : World) (hT : U8T w) : Calls Tryz.prog 79 #[.agg #[.string (idT i), .string ⟨#[]⟩, .string ⟨#[100, 111]⟩, .int .i64 0, .int .i64 0, .int .i64 100]] w fun e w' => e = .returned (.int .i64 0) ∧ Below w.heap.size w w' := by
  have HK := Lib.hid (idT_key i)
  have HU := Lib.hid (fun V (hV : Below w.heap.size w V) => unmarked_do V (hT.below hV))
  generalize idT i = id at HK ⊢
  clear hT
  go_enter Tryz.func79, Tryz.ntmps79
  go_wp2_with (go_at_call 50; refine (key_yes _ _ HK.out).mono ?_; rintro e w' ⟨rfl, rfl⟩)
  have HB0 := Lib.hid ((Below.refl w.heap.size w).alloc (Nat.le_refl _) (.cells #[.string id, .string ⟨#[]⟩, .string ⟨#[100, 111]⟩, .int .i64 0, .int .i64 0, .int .i64 100] 31))
  refine (HU.out _ HB0.out).mono ?_
  rintro e w1 ⟨rfl, hb1⟩
  have hx1 := (hb1.block w.heap.size (by simp)).trans (heap_new w (.cells #[.string id, .string ⟨#[]⟩, .string ⟨#[100, 111]⟩, .int .i64 0, .int .i64 0, .int .i64 100] 31))
  have c3 := cell_of_blk (j := 3) hx1 rfl
  have c4 := cell_of_blk (j := 4) hx1 rfl
  have c5 := cell_of_blk (j := 5) hx1 rfl
  have HB1 := Lib.hid (HB0.out.trans (hb1.mono HB0.out.size))
  clear hb1 hx1
  go_wp2_with (first | (go_at_call 54; refine (moment_yes _ _ (by omega) (by omega)).mono ?_; rintro e w' ⟨rfl, rfl⟩) | (go_at_call 53; refine (out_no _ _ _ _ (by omega) (by omega)).mono ?_; rintro e w' ⟨rfl, rfl⟩))
  go_ret
  exact ⟨rfl, HB1.out⟩
theorem rising_getN {l : List No} (h : l.Pairwise (fun x y => x.1 < y.1)) {i k : Nat} {x y : No} (hi : l[i]? = some x) (hk : l[k]? = some y) (hik : i < k) : x.1 < y.1 := by
  obtain ⟨h1, rfl⟩ := List.getElem?_eq_some_iff.1 hi
  obtain ⟨h2, rfl⟩ := List.getElem?_eq_some_iff.1 hk
  exact (List.pairwise_iff_getElem.1 h) i k h1 h2 hik
set_option maxRecDepth 100000 in
set_option maxHeartbeats 4000000 in
theorem checkNotes_any (l : List No) (n c : Nat) (A : Option Addr) (w : World) (hl : NsOk l) (hn : l.length = n) (hr : Row w w.heap.size A (recs noC l)) (hT : U8T w) :
    Calls Tryz.prog 30 #[.slice A n c] w fun e w' => e = .returned (.int .i64 0) ∧ Below w.heap.size w w' := by
  have hn7 : n ≤ 3 := by rw [← hn]; exact hl.len
  have HR := Lib.hid hr
  have HL := Lib.hid hl
  have HN := Lib.hid hn
  have HT := Lib.hid (fun V (hV : Below w.heap.size w V) => hT.below hV)
  have hnI : ¬ (n : Int) > 1500 := by omega
  have hnI2 : ¬ (1500 : Int) < n := by omega
  clear hr hl hn hT
  go_enter Tryz.func30, Tryz.ntmps30
  go_wp2_with (fail)
  go_loopw [11] (fun s wr => ∃ (i : Nat), i ≤ n ∧ s = .int .i64 (i : Int) ∧ Below w.heap.size w wr) (fun s _ => n - (intOf s).toNat)
  case atStart => exact ⟨0, by omega, rfl, Below.refl _ _⟩
  case round =>
    obtain ⟨i, hin, rfl, hbr⟩ := hrel
    have hbs := hbr.size
    have HB := Lib.hid hbr
    clear hbr
    by_cases hlt : i < n
    · have hltI : (i : Int) < n := by omega
      obtain ⟨x, hx⟩ : ∃ x, l[i]? = some x := ⟨_, List.getElem?_eq_getElem (by have := HN.out; omega)⟩
      obtain ⟨b, o, rfl, hb, hC⟩ := (HR.out.below HB.out).posR noC_len (by omega) (by have := HN.out; omega)
      obtain ⟨hx7, g1, g2, g3, g4, g5, g6⟩ := HL.out.2 x (List.mem_of_getElem? hx)
      obtain ⟨c0, c1, c2, c3, c4, c5, c6, c7, c8⟩ := no_cells hC i x hx
      have HP := Lib.hid hx
      have HBA := Lib.hid (HB.out.alloc hbs (noBlk x))
      clear hx hC
      go_wp2_with (fail)
      refine (checkLetter_do x.1 _ (HT.out _ HBA.out)).mono ?_
      rintro e w1 ⟨rfl, hb1⟩
      have hg : w1.heap[wr.heap.size]? = some (noBlk x) := (hb1.block wr.heap.size (by simp)).trans (heap_new wr _)
      have hz1 := hb1.size
      simp only [World.size_alloc] at hz1
      have HB1 := Lib.hid (HBA.out.trans (hb1.mono (by simp; omega)))
      have hlt1 : wr.heap.size < w1.heap.size := by omega
      obtain ⟨q0, q1, q2, q3, q4, q5, q6, q7, q8⟩ := no_blk hg
      clear hb1 hg c0 c1 c2 c3 c4 c5 c6 c7 c8
      go_upto_region 13 with (first | (go_at_call 54; refine (moment_yes _ _ (by omega) (by omega)).mono ?_; rintro e w' ⟨rfl, rfl⟩) | (go_at_call 53; refine (out_no _ _ _ _ (by omega) (by omega)).mono ?_; rintro e w' ⟨rfl, rfl⟩))
      by_cases hi0 : i = 0
      · subst hi0
        have hd : decide ((0 : Int) < 0) = false := by decide
        go_quiet (fail)
        go_wp2_with (fail)
        go_roundw
        case rel => exact ⟨1, by omega, by simp, below_drewN HB1.out _⟩
        case measure => simp [intOf]; omega
      · have hi1 : 1 ≤ i := by omega
        have hi1I : (0 : Int) < i := by omega
        have hd : decide ((0 : Int) < i) = true := by simpa using hi1I
        have hd2 : decide (0 < i) = true := by simp; omega
        have hd3 : 0 < i := hi1
        obtain ⟨q, hq⟩ : ∃ q, l[i - 1]? = some q := ⟨_, List.getElem?_eq_getElem (by have := HN.out; omega)⟩
        obtain ⟨b', o', e', hb', hC⟩ := (HR.out.below HB1.out).posR noC_len (by omega) (by have := HN.out; omega)
        cases e'
        have hq7 := (HL.out.2 q (List.mem_of_getElem? hq)).1
        have hqp := rising_getN HL.out.1 hq HP.out (by omega)
        obtain ⟨d0, _⟩ := no_cells hC (i - 1) q hq
        have hwrap : (i : Int) - 1 = ((i - 1 : Nat) : Int) := by omega
        clear hC hq
        go_quiet (fail)
        have hle : (Op.bytesLess (idT x.1).toList (idT q.1).toList || (idT x.1).toList == (idT q.1).toList) = false := by rw [id_le _ _ hx7 hq7]; simp; omega
        rw [hle]
        clear hle
        go_wp2_with (fail)
        go_roundw
        case rel => exact ⟨i + 1, by omega, by simp, below_drewN HB1.out _⟩
        case measure => simp [intOf]; omega
    · have hltI : ¬ (i : Int) < n := by omega
      have hin' : i = n := by omega
      subst hin'
      go_wp2_with (fail)
      go_ret
      exact ⟨rfl, HB.out⟩
end Go.Proofs.YtjjfhblaefbpgaaGreatDoor

/- A region that draws its order and whose callees lay blocks of their own, walked once in the text's order: what is so of every world that has grown. -/
namespace Go.Proofs.YtjjfhblaefbpgaaGreatDoor
open Go.RowKit

section
variable {P : Program}
theorem qVal {C : World → Prop} {o : Oper} {a : Act} {K : Act → Prop} {v : Value} (h : ∀ V, C V → (execOp a.eval o).run P V = .ok (.value v) V) (k : K (a.put o.dst v)) : o.quiet P a C K :=
  ⟨v, fun w hw => by unfold Oper.quietAt; rw [h w hw]; exact ⟨rfl, rfl⟩, k⟩
theorem qCall {C : World → Prop} {o : Oper} {a : Act} {K : Act → Prop} {v : Value} {f : FuncId} {args : Array Value} (h : ∀ V, C V → (execOp a.eval o).run P V = .ok (.enter f args) V)
    (hc : ∀ V, C V → Calls P f args V fun e w' => e = .returned v ∧ C w') (k : K (a.put o.dst v)) : o.quiet P a C K :=
  ⟨v, fun w hw => by unfold Oper.quietAt; rw [h w hw]; exact ⟨rfl, hc w hw⟩, k⟩
theorem qWant {ops : Array Oper} {C : World → Prop} {Q : Act → Prop} {o : Oper} {rest : List Oper} {a : Act} (hw : Region.wanted o (yielded ops a.tmps) = true) (h : ∀ K : Act → Prop, (∀ a, wpQuiet P ops C Q rest a → K a) → o.quiet P a C K) : wpQuiet P ops C Q (o :: rest) a :=
  wpQuiet_step (fun K hK => by rw [if_pos hw]; exact h K hK)
theorem qSkip {ops : Array Oper} {C : World → Prop} {Q : Act → Prop} {o : Oper} {rest : List Oper} {a : Act} (hw : Region.wanted o (yielded ops a.tmps) = false) (h : wpQuiet P ops C Q rest (a.put o.dst undef)) : wpQuiet P ops C Q (o :: rest) a :=
  wpQuiet_step (fun K hK => by rw [if_neg (by rw [hw]; exact Bool.false_ne_true)]; exact hK _ h)
/-- The class: what has grown out of w. -/
theorem qRegion {id : Nat} {Q : Exit → Act → World → Prop} {a : Act} {w : World} {l : List Oper} (hm : P.follows .mixedOrders = true) (hB : Region.lexB .any l.toArray = true)
    (h : wpQuiet P l.toArray (fun V => Below w.heap.size w V) (fun a' => ∀ w', Below w.heap.size w w' → Q .normal a' w') l a) : (Code.region id l.toArray true).wp P Q a w :=
  wp_region_quiet (C := fun V => Below w.heap.size w V) hm hB ((Below.refl _ _).drew) (by simpa using h)
end
end Go.Proofs.YtjjfhblaefbpgaaGreatDoor

/- A region that draws its order: what comes first is quiet in a class of worlds and walked once in the text's order, what comes last has one order only and is walked as it stands. -/
namespace Go.Proofs.YtjjfhblaefbpgaaGreatDoor
open Go.RowKit

section
variable {P : Program} {ops : Array Oper} {md : Region.Mode} {C : World → Prop}
/-- The quiet operations below n in whatever order, then L. -/
def hAny (P : Program) (md : Region.Mode) (ops : Array Oper) (C : World → Prop) (n : Nat) (L : Array Bool → Act → Prop) : Nat → Array Bool → Act → Prop
  | 0, d, a => L d a
  | f + 1, d, a => Region.ready md ops d ≠ [] ∧ ∀ j ∈ Region.ready md ops d, j < n ∧ qOp P ops C j (hAny P md ops C n L f (d.setIfInBounds j true)) a
theorem any_of_hAny {n g : Nat} {L : Array Bool → Act → Prop} {R : Exit → Act → World → Prop} (hL : ∀ d a w, C w → L d a → wpAny P md ops R g d a w) (f : Nat) :
    ∀ d a w, C w → hAny P md ops C n L f d a → wpAny P md ops R (f + g) d a w := by
  induction f with
  | zero => intro d a w hw h; rw [Nat.zero_add]; exact hL d a w hw h
  | succ f ih =>
    intro d a w hw h
    rw [Nat.add_right_comm]
    exact ⟨fun h0 => absurd h0 h.1, fun j hj => wpOp_of_qOp hw (fun a' w' hw' h' => ih _ a' w' hw' h') (h.2 j hj).2⟩
theorem hAny_first {n i : Nat} {oi : Oper} {v : Value} {L : Array Bool → Act → Prop} (hi : ops[i]? = some oi) (hsel : ∀ (j : Nat) (o : Oper) cs b, ops[j]? = some o → o.op ≠ .select cs b)
    (hs : Region.sinkB md ops n = true) (hc : Region.chainB md ops n = true) (hn : n < ops.size) (hin : i < n) (hL : ∀ d a, L d a → ∀ j ∈ Region.ready md ops d, n ≤ j) (f : Nat) :
    ∀ d a, HeadInv md ops n d → (∀ j oj, ops[j]? = some oj → j ≠ i → d.getD j true = false → (∀ e ∈ oj.after, Region.binds md e = true → e.on ≠ i) → oi.apart ops oj = true) →
      i ∈ Region.ready md ops d → YieldsIn P ops C oi v a → hAny P md ops C n L f (d.setIfInBounds i true) (a.put oi.dst v) → hAny P md ops C n L (f + 1) d a := by
  have low : ∀ d, HeadInv md ops n d → i ∈ Region.ready md ops d → ∀ j ∈ Region.ready md ops d, j < n := fun d inv hr j hj => by
    rcases Nat.lt_or_ge j n with h | h
    · exact h
    · exact absurd hj (tail_waits hs hc hn inv _ i rfl hin (mem_ready.1 hr).1 j h)
  induction f with
  | zero =>
    intro d a inv _ hr hy H
    refine ⟨List.ne_nil_of_mem hr, fun j hj => ⟨low d inv hr j hj, ?_⟩⟩
    rcases Decidable.em (j = i) with rfl | hji
    · exact hy.qOp hi H
    · have h1 := hL _ _ H j (ready_mono hj hji)
      have h2 := low d inv hr j hj
      omega
  | succ f ih =>
    intro d a inv hfree hr hy H
    refine ⟨List.ne_nil_of_mem hr, fun j hj => ⟨low d inv hr j hj, ?_⟩⟩
    rcases Decidable.em (j = i) with rfl | hji
    · exact hy.qOp hi H
    · obtain ⟨u, oj, hoj, hall⟩ := mem_ready.1 hj
      have hno : ∀ e ∈ oj.after, Region.binds md e = true → e.on ≠ i := by
        intro e he hb h
        have h1 := hall e he hb
        rw [h, getD_both (mem_ready.1 hr).1] at h1
        cases h1
      refine qOp_mono (fun a' h3 => ih (d.setIfInBounds j true) a' (inv.set hj (low d inv hr j hj)) ?_ (ready_mono hr (Ne.symm hji)) h3.1 ?_)
        (qOp_put hoj (hfree j oj hoj hji u hno) (fun cs b => hsel i oi cs b hi) (fun cs b => hsel j oj cs b hoj) hy (H.2 j (ready_mono hj hji)).2)
      · intro k ok hk hki hun
        refine hfree k ok hk hki ?_
        rcases Decidable.em (j = k) with rfl | hjk
        · exact u
        · rwa [getD_set_ne true hjk] at hun
      · rw [Array.setIfInBounds_comm _ _ hji]
        exact h3.2
theorem hAny_lex {n g : Nat} {K : Act → Prop} (hsel : Region.noSelect ops = true) (hs : Region.sinkB md ops n = true) (hc : Region.chainB md ops n = true) (hn : n < ops.size) (l : List Oper) :
    ∀ k d a, (∀ j, j < l.length → l[j]? = ops[k + j]?) → k + l.length = n → HeadInv md ops n d → Region.lexHead md ops g l.length k d = true → wpQuiet P ops C K l a →
      hAny P md ops C n (fun d' a' => Region.seqB md ops g n d' = true ∧ K a') l.length d a := by
  induction l with
  | nil =>
    intro k d a _ hk _ hB h
    obtain rfl : k = n := by simpa using hk
    exact ⟨by simpa [Region.lexHead] using hB, h⟩
  | cons o l ih =>
    intro k d a hl hk inv hB h
    have h0 : ops[k]? = some o := by simpa using (hl 0 (by simp)).symm
    simp only [List.length_cons] at hk
    simp only [List.length_cons, Region.lexHead, Bool.and_eq_true] at hB
    have hr : k ∈ Region.ready md ops d := by simpa using hB.1.1
    obtain ⟨v, hy, hK⟩ := yieldsIn_of_qOp (K := wpQuiet P ops C K l) h0 (by unfold qOp; simp only [h0]; exact h)
    refine hAny_first h0 (Region.noSelect_spec hsel) hs hc hn (by omega) (fun d' a' hL => seqB_ready hL.1) l.length d a inv (Region.free_spec h0 hB.1.2) hr hy
      (ih (k + 1) _ _ (fun j hj => ?_) (by omega) (inv.set hr (by omega)) hB.2 hK)
    have := hl (j + 1) (by simp; omega)
    simpa [Nat.add_assoc, Nat.add_comm 1 j] using this
/-- The quiet part is n operations long. -/
theorem region_quiet_tail {id : Nat} {R : Exit → Act → World → Prop} {a : Act} {w : World} {l : List Oper} (n : Nat) (hm : P.follows .mixedOrders = true) (hB : Region.lexTailB .any l.toArray n = true) (hC : C w.drew)
    (h : wpQuiet P l.toArray C (fun a' => ∀ w', C w' → wpList P l.toArray R (l.drop n) a' w') (l.take n) a) : (Code.region id l.toArray true).wp P R a w := by
  simp only [Region.lexTailB, Bool.and_eq_true, decide_eq_true_eq] at hB
  obtain ⟨⟨⟨⟨hsel, hn⟩, hs⟩, hc⟩, hlex⟩ := hB
  have hn' : n < l.length := by simpa using hn
  have htl : (l.take n).length = n := by rw [List.length_take]; omega
  have hdl : (l.drop n).length = l.toArray.size - n := by simp
  have inv : HeadInv .any l.toArray n (Array.replicate l.toArray.size false) :=
    ⟨by simp, fun j oj _ hj => (by rw [getD_replicate_false] at hj; cases hj), fun t _ ht => getD_in (by simpa using ht) (getD_replicate_false _ _)⟩
  have H := hAny_lex (md := .any) (g := l.toArray.size - n) hsel hs hc hn (l.take n) 0 _ a (fun j hj => by rw [htl] at hj; simp [hj]) (by omega) inv (by rw [htl]; exact hlex) h
  have H2 := any_of_hAny (R := R) (g := l.toArray.size - n) (fun d a' w' hw hL => by
    have := wpAny_of_seq (md := .any) (Q' := R) (l.drop n) n d a' w' (fun j => by simp [List.getElem?_drop]) (by rw [hdl]; exact hL.1) (hL.2 w' hw)
    rwa [hdl] at this) _ _ _ w.drew hC H
  rw [htl, show n + (l.toArray.size - n) = l.toArray.size by omega] at H2
  exact wp_region_any hm H2
/-- The class: what has grown out of w. -/
theorem qRegionTail {id : Nat} {R : Exit → Act → World → Prop} {a : Act} {w : World} {l : List Oper} (n : Nat) (hm : P.follows .mixedOrders = true) (hB : Region.lexTailB .any l.toArray n = true)
    (h : wpQuiet P l.toArray (fun V => Below w.heap.size w V) (fun a' => ∀ w', Below w.heap.size w w' → wpList P l.toArray R (l.drop n) a' w') (l.take n) a) : (Code.region id l.toArray true).wp P R a w :=
  region_quiet_tail n hm hB ((Below.refl _ _).drew) h
end
end Go.Proofs.YtjjfhblaefbpgaaGreatDoor

/- A region that draws its order and lays new blocks beside its calls: each operation is looked at once, at the frame of the end; where the new blocks lie is a variable. No program in sight. -/
namespace Go.Proofs.YtjjfhblaefbpgaaGreatDoor
open Go.RowKit

def putL : Act → List Oper → List Value → Act
  | a, o :: os, v :: vs => putL (a.put o.dst v) os vs
  | a, _, _ => a
def putG (G : Nat → Nat) : Act → List Oper → List (Option Obj) → Nat → Act
  | a, o :: os, m :: ms, k => putG G (match m with | none => a | some _ => a.put o.dst (.pointer (some ⟨G k, 0, none⟩))) os ms (k + 1)
  | a, _, _, _ => a
def QR (P : Program) (A : Act) (o : Oper) (w : World) (v : Value) : Prop :=
  (execOp A.eval o).run P w = .ok (.value v) w ∨ ∃ f args, (execOp A.eval o).run P w = .ok (.enter f args) w ∧ Calls P f args w (fun e w' => e = .returned v ∧ Below w.heap.size w w')
def QAl (P : Program) (A : Act) (o : Oper) (ob : Obj) : Prop := ∀ w, (execOp A.eval o).run P w = .ok (.value (.pointer (some ⟨w.heap.size, 0, none⟩))) (w.alloc ob)
def QOne (P : Program) (W : World) (A : Act) (o : Oper) (v : Value) (m : Option Obj) : Prop :=
  match m with
  | none => ∀ w, Below W.heap.size W w → QR P A o w v
  | some ob => QAl P A o ob
def QOps (P : Program) (W : World) (A : Act) : List Oper → List Value → List (Option Obj) → Prop
  | o :: os, v :: vs, m :: ms => QOne P W A o v m ∧ QOps P W A os vs ms
  | _, _, _ => True
theorem QOps.get {P : Program} {W : World} {A : Act} : ∀ {os : List Oper} {vs : List Value} {ms : List (Option Obj)} {k : Nat} {o : Oper} {v : Value} {m : Option Obj}, QOps P W A os vs ms → os[k]? = some o → vs[k]? = some v → ms[k]? = some m → QOne P W A o v m
  | o :: os, v :: vs, m :: ms, 0, _, _, _, h, h1, h2, h3 => by cases h1; cases h2; cases h3; exact h.1
  | o :: os, v :: vs, m :: ms, k + 1, _, _, _, h, h1, h2, h3 => QOps.get h.2 h1 h2 h3
  | [], _, _, _, _, _, _, _, h1, _, _ => by simp at h1
  | _ :: _, [], _, _, _, _, _, _, _, h2, _ => by simp at h2
  | _ :: _, _ :: _, [], _, _, _, _, _, _, _, h3 => by simp at h3
def opB (ops : Array Oper) (n : Nat) (ms : List (Option Obj)) (i : Nat) : Bool :=
  match ops[i]? with
  | none => false
  | some o => o.guard.isNone && o.dst.isSome && o.after.all (fun e => !Region.binds .any e || decide (e.on < i)) &&
      (List.range n).all (fun k => match ops[k]? with
        | none => false
        | some p => (k == i || p.dst != o.dst) &&
          (match p.dst with
            | none => false
            | some t => !(o.looksAt ops).contains t || ((match ms[k]? with | some none => true | _ => false) && o.after.any (fun e => Region.binds .any e && e.on == k))))
def allB (m n : Nat) : Array Bool := Array.replicate n true ++ Array.replicate (m - n) false
def ptB (ops : Array Oper) (n : Nat) (ms : List (Option Obj)) : Bool :=
  Region.noSelect ops && decide (n < ops.size) && Region.sinkB .any ops n && Region.chainB .any ops n && Region.seqB .any ops (ops.size - n) n (allB ops.size n) && (List.range n).all (opB ops n ms)
structure OpOk (ops : Array Oper) (n : Nat) (ms : List (Option Obj)) (i : Nat) (o : Oper) (t : Tmp) : Prop where
  guard : o.guard = none
  dst : o.dst = some t
  back : ∀ e ∈ o.after, Region.binds .any e = true → e.on < i
  apart : ∀ k p u, k < n → ops[k]? = some p → p.dst = some u → k ≠ i → u ≠ t
  looks : ∀ k p u, k < n → ops[k]? = some p → p.dst = some u → u ∈ o.looksAt ops → ms[k]? = some none ∧ ∃ e ∈ o.after, Region.binds .any e = true ∧ e.on = k
theorem opB_spec {ops : Array Oper} {n : Nat} {ms : List (Option Obj)} {i : Nat} (h : opB ops n ms i = true) : ∃ o t, ops[i]? = some o ∧ OpOk ops n ms i o t := by
  unfold opB at h
  cases ho : ops[i]? with
  | none => rw [ho] at h; cases h
  | some o =>
    rw [ho] at h
    simp only [Bool.and_eq_true] at h
    obtain ⟨⟨⟨h1, h2⟩, h3⟩, h4⟩ := h
    obtain ⟨t, ht⟩ := Option.isSome_iff_exists.1 h2
    refine ⟨o, t, rfl, Option.isNone_iff_eq_none.1 h1, ht, ?_, ?_, ?_⟩
    · intro e he hb
      have := Array.all_eq_true_iff_forall_mem.1 h3 e he
      rw [hb] at this
      simpa using this
    · intro k p u hk hp hu hki e
      have := List.all_eq_true.1 h4 k (List.mem_range.2 hk)
      rw [hp] at this
      simp only [Bool.and_eq_true, Bool.or_eq_true, beq_iff_eq, bne_iff_ne] at this
      rcases this.1 with g | g
      · exact hki g
      · rw [hu, ht, e] at g; exact g rfl
    · intro k p u hk hp hu hm
      have := List.all_eq_true.1 h4 k (List.mem_range.2 hk)
      rw [hp] at this
      simp only [hu, Bool.and_eq_true, Bool.or_eq_true, Bool.not_eq_true'] at this
      rcases this.2 with g | ⟨g1, g2⟩
      · rw [List.contains_iff_mem.2 hm] at g; cases g
      · refine ⟨?_, ?_⟩
        · cases hms : ms[k]? with
          | none => rw [hms] at g1; cases g1
          | some m =>
            cases m with
            | none => rfl
            | some ob => rw [hms] at g1; cases g1
        · obtain ⟨j, hj, hj2⟩ := Array.any_eq_true.1 g2
          simp only [Bool.and_eq_true, beq_iff_eq] at hj2
          exact ⟨_, Array.getElem_mem hj, hj2.1, hj2.2⟩
theorem wpAny_more {P : Program} {md : Region.Mode} {ops : Array Oper} {Q : Exit → Act → World → Prop} : ∀ (f : Nat) (d : Array Bool) (a : Act) (w : World), wpAny P md ops Q f d a w → wpAny P md ops Q (f + 1) d a w
  | 0, d, a, w, h => ⟨fun _ => h.2, fun i hi => by rw [h.1] at hi; cases hi⟩
  | f + 1, d, a, w, h => ⟨h.1, fun i hi => wpOp_mono (fun a' w' h' => wpAny_more f _ a' w' h') (h.2 i hi)⟩
theorem wpAny_le {P : Program} {md : Region.Mode} {ops : Array Oper} {Q : Exit → Act → World → Prop} {f g : Nat} (hfg : f ≤ g) {d : Array Bool} {a : Act} {w : World} (h : wpAny P md ops Q f d a w) : wpAny P md ops Q g d a w := by
  induction hfg with
  | refl => exact h
  | step _ ih => exact wpAny_more _ _ _ _ ih
def cntU (d : Array Bool) : Nat → Nat
  | 0 => 0
  | k + 1 => cntU d k + (if d.getD k false = true then 0 else 1)
theorem cntU_zero {d : Array Bool} : ∀ {n : Nat}, cntU d n = 0 → ∀ k, k < n → d.getD k false = true
  | 0, _, k, hk => by omega
  | n + 1, h, k, hk => by
    simp only [cntU] at h
    split at h
    · rename_i h1
      rcases Nat.lt_or_eq_of_le (Nat.le_of_lt_succ hk) with h2 | h2
      · exact cntU_zero (by omega) k h2
      · rw [h2]; exact h1
    · omega
theorem cntU_some {d : Array Bool} : ∀ {n : Nat}, 0 < cntU d n → ∃ k, k < n ∧ d.getD k false = false ∧ ∀ j, j < k → d.getD j false = true
  | 0, h => by simp [cntU] at h
  | n + 1, h => by
    by_cases h0 : 0 < cntU d n
    · obtain ⟨k, h1, h2⟩ := cntU_some h0
      exact ⟨k, by omega, h2⟩
    · simp only [cntU] at h
      split at h
      · omega
      · rename_i h1
        exact ⟨n, by omega, by simpa using h1, fun j hj => cntU_zero (by omega) j hj⟩
theorem cntU_set {d : Array Bool} {i : Nat} (hi : i < d.size) (h : d.getD i false = false) : ∀ {n : Nat}, cntU (d.setIfInBounds i true) n = cntU d n - (if i < n then 1 else 0) ∧ (i < n → 0 < cntU d n)
  | 0 => by simp [cntU]
  | n + 1 => by
    obtain ⟨h1, h2⟩ := cntU_set hi h (n := n)
    simp only [cntU]
    by_cases hin : i = n
    · subst hin
      have e1 : (if i < i then 1 else 0 : Nat) = 0 := if_neg (Nat.lt_irrefl i)
      have e2 : (if i < i + 1 then 1 else 0 : Nat) = 1 := if_pos (Nat.lt_succ_self i)
      have e3 : (d.setIfInBounds i true).getD i false = true := by simp [hi]
      rw [h1, e1, e2, e3, h]
      simp
    · rw [h1, getD_set_ne false hin]
      by_cases hl : i < n
      · have e1 : (if i < n then 1 else 0 : Nat) = 1 := if_pos hl
        have e2 : (if i < n + 1 then 1 else 0 : Nat) = 1 := if_pos (by omega)
        have := h2 hl
        rw [e1, e2]
        exact ⟨by omega, fun _ => by omega⟩
      · have e1 : (if i < n then 1 else 0 : Nat) = 0 := if_neg hl
        have e2 : (if i < n + 1 then 1 else 0 : Nat) = 0 := if_neg (by omega)
        rw [e1, e2]
        exact ⟨by omega, fun h => by omega⟩
theorem putL_get : ∀ (os : List Oper) (vs : List Value) (a : Act) (t : Tmp), (∀ o ∈ os, o.dst ≠ some t) → (putL a os vs).tmps[t]? = a.tmps[t]?
  | [], _, a, t, _ => rfl
  | _ :: _, [], a, t, _ => rfl
  | o :: os, v :: vs, a, t, h => by
    rw [putL, putL_get os vs _ t (fun p hp => h p (List.mem_cons_of_mem _ hp))]
    have h0 := h o List.mem_cons_self
    unfold Act.put
    split
    · rename_i d hd
      rw [hd] at h0
      simp only
      rw [Array.getElem?_setIfInBounds_ne (fun e => h0 (by rw [e]))]
    · rfl
theorem put_size (a : Act) (d : Option Tmp) (v : Value) : (a.put d v).tmps.size = a.tmps.size ∧ (a.put d v).defers = a.defers := by
  unfold Act.put
  split
  · simp
  · exact ⟨rfl, rfl⟩
theorem putL_size : ∀ (os : List Oper) (vs : List Value) (a : Act), (putL a os vs).tmps.size = a.tmps.size ∧ (putL a os vs).defers = a.defers
  | [], _, a => ⟨rfl, rfl⟩
  | _ :: _, [], a => ⟨rfl, rfl⟩
  | o :: os, v :: vs, a => by
    obtain ⟨h1, h2⟩ := putL_size os vs (a.put o.dst v)
    obtain ⟨g1, g2⟩ := put_size a o.dst v
    exact ⟨h1.trans g1, h2.trans g2⟩
theorem putL_at : ∀ (os : List Oper) (vs : List Value) (a : Act) (k : Nat) (o : Oper) (v : Value) (t : Tmp), os[k]? = some o → vs[k]? = some v → o.dst = some t → t < a.tmps.size → (∀ j p, os[j]? = some p → j ≠ k → p.dst ≠ some t) → (putL a os vs).tmps[t]? = some v
  | [], _, a, k, o, v, t, h1, _, _, _, _ => by simp at h1
  | _ :: _, [], a, k, o, v, t, _, h2, _, _, _ => by simp at h2
  | p :: os, u :: vs, a, 0, o, v, t, h1, h2, h3, h4, h5 => by
    cases h1; cases h2
    rw [putL, putL_get os vs _ t (fun q hq => by
      obtain ⟨j, hj⟩ := List.getElem?_of_mem hq
      exact h5 (j + 1) q (by simpa using hj) (by omega))]
    unfold Act.put
    rw [h3]
    simp [h4]
  | p :: os, u :: vs, a, k + 1, o, v, t, h1, h2, h3, h4, h5 => by
    rw [putL]
    refine putL_at os vs _ k o v t (by simpa using h1) (by simpa using h2) h3 ?_ (fun j q hj hne => h5 (j + 1) q (by simpa using hj) (by omega))
    rw [(put_size _ _ _).1]; exact h4
structure PInv (W : World) (ops : Array Oper) (n : Nat) (ms : List (Option Obj)) (A : Act) (G : Nat → Nat) (d : Array Bool) (a : Act) (w : World) : Prop where
  head : HeadInv .any ops n d
  bel : Below W.heap.size W w
  defers : a.defers = A.defers
  size : a.tmps.size = A.tmps.size
  slot : ∀ t, (∀ k o, k < n → ops[k]? = some o → o.dst = some t → d.getD k false = true ∧ ms[k]? = some none) → a.tmps[t]? = A.tmps[t]?
  al : ∀ k o t ob, k < n → ops[k]? = some o → o.dst = some t → ms[k]? = some (some ob) → d.getD k false = true → a.tmps[t]? = some (.pointer (some ⟨G k, 0, none⟩)) ∧ W.heap.size ≤ G k ∧ w.heap[G k]? = some ob
  ne : ∀ k j ob ob', k < n → j < n → ms[k]? = some (some ob) → ms[j]? = some (some ob') → d.getD k false = true → d.getD j false = true → k ≠ j → G k ≠ G j
section
variable {P : Program} {W : World} {ops : Array Oper} {n : Nat} {vs : List Value} {ms : List (Option Obj)} {A : Act}
theorem eval_agree {a a' : Act} {x : Operand} (h : ∀ t, x = .tmp t → a.tmps[t]? = a'.tmps[t]?) : a.eval x = a'.eval x := by
  cases x with
  | tmp t =>
    have := h t rfl
    simp only [Act.eval, Array.getD_eq_getD_getElem?, this]
  | const v => rfl
  | global g => rfl
  | func f => rfl
theorem heap_keep {w w' : World} {g : Nat} {ob : Obj} (h : w.heap[g]? = some ob) (hb : Below w.heap.size w w') : w'.heap[g]? = some ob :=
  (hb.block g (Array.getElem?_eq_some_iff.1 h).1).trans h
theorem region_pt {R : Exit → Act → World → Prop} (hB : ptB ops n ms = true) (hq : QOps P W A (ops.toList.take n) vs ms) (hvs : vs.length = n) (hms : ms.length = n)
    (hA : ∀ k o v t, k < n → ops[k]? = some o → vs[k]? = some v → o.dst = some t → t < A.tmps.size ∧ (ms[k]? = some none → A.tmps[t]? = some v))
    (hend : ∀ a w G, PInv W ops n ms A G (allB ops.size n) a w → wpList P ops R (ops.toList.drop n) a w) :
    ∀ (f : Nat) (d : Array Bool) (a : Act) (w : World) (G : Nat → Nat), PInv W ops n ms A G d a w → cntU d n = f → wpAny P .any ops R (f + (ops.size - n)) d a w := by
  unfold ptB at hB
  simp only [Bool.and_eq_true, decide_eq_true_eq] at hB
  obtain ⟨⟨⟨⟨⟨hsel, hn⟩, hs⟩, hc⟩, hseq⟩, hops⟩ := hB
  have hok : ∀ i, i < n → ∃ o t, ops[i]? = some o ∧ OpOk ops n ms i o t := fun i hi => opB_spec (List.all_eq_true.1 hops i (List.mem_range.2 hi))
  have hdl : (ops.toList.drop n).length = ops.size - n := by simp
  intro f
  induction f with
  | zero =>
    intro d a w G inv hcn
    have hall := cntU_zero hcn
    have hd : d = allB ops.size n := by
      refine Array.ext (by unfold allB; rw [inv.head.size]; simp; omega) (fun i h1 h2 => ?_)
      rw [inv.head.size] at h1
      have hg : d.getD i false = (allB ops.size n).getD i false := by
        by_cases hin : i < n
        · rw [hall i hin]
          unfold allB
          simp [Array.getElem?_append, hin]
        · have h3 := getD_both (inv.head.tail i (by omega) h1)
          rw [h3]
          unfold allB
          simp only [Array.getD_eq_getD_getElem?, Array.getElem?_append, Array.size_replicate, hin, if_false, Array.getElem?_replicate]
          split <;> rfl
      have e1 : d.getD i false = d[i] := by simp [inv.head.size, h1]
      have e2 : (allB ops.size n).getD i false = (allB ops.size n)[i] := by
        rw [Array.getD_eq_getD_getElem?, Array.getElem?_eq_getElem h2]; rfl
      rw [e1, e2] at hg
      exact hg
    rw [Nat.zero_add]
    have := wpAny_of_seq (P := P) (md := .any) (Q' := R) (ops.toList.drop n) n d a w (fun j => by simp [List.getElem?_drop]) (by rw [hdl, hd]; exact hseq) (hend a w G (hd ▸ inv))
    rwa [hdl] at this
  | succ f ih =>
    intro d a w G inv hcn
    obtain ⟨k0, hk0, hk1, hk2⟩ := cntU_some (d := d) (n := n) (by omega)
    have hr0 : k0 ∈ Region.ready .any ops d := by
      obtain ⟨o, t, ho, hO⟩ := hok k0 hk0
      exact mem_ready.2 ⟨getD_in (by rw [inv.head.size]; omega) hk1, o, ho, fun e he hb => hk2 _ (hO.back e he hb)⟩
    have hlow : ∀ j ∈ Region.ready .any ops d, j < n := fun j hj => by
      rcases Nat.lt_or_ge j n with h | h
      · exact h
      · exact absurd hj (tail_waits hs hc hn inv.head _ k0 rfl hk0 (mem_ready.1 hr0).1 j h)
    rw [Nat.succ_add]
    refine ⟨fun h => (by rw [h] at hr0; cases hr0), fun i hi => ?_⟩
    have hin := hlow i hi
    obtain ⟨hiu, oi, hoi, hiall⟩ := mem_ready.1 hi
    obtain ⟨o, t, ho, hO⟩ := hok i hin
    obtain rfl : o = oi := Option.some.inj (ho.symm.trans hoi)
    have hid : d.getD i false = false := getD_both hiu
    have hisz : i < d.size := by rw [inv.head.size]; omega
    obtain ⟨v, hv⟩ : ∃ v, vs[i]? = some v := ⟨_, List.getElem?_eq_getElem (by omega)⟩
    obtain ⟨m, hm⟩ : ∃ m, ms[i]? = some m := ⟨_, List.getElem?_eq_getElem (by omega)⟩
    obtain ⟨htA, hvA⟩ := hA i o v t hin ho hv hO.dst
    have hQ := hq.get (k := i) (by rw [List.getElem?_take_of_lt hin]; simpa using ho) hv hm
    have hexec : execOp a.eval o = execOp A.eval o := by
      refine execOp_congr o (fun cs b => Region.noSelect_spec hsel i o cs b ho) (fun x hx => eval_agree (fun u hu => inv.slot u (fun k p hk hp hpu => ?_)))
      have hlook : u ∈ o.looksAt ops := by
        subst hu
        exact List.mem_append_left _ (List.mem_filterMap.2 ⟨.tmp u, by simpa using hx, rfl⟩)
      obtain ⟨g1, e, he, hb, hon⟩ := hO.looks k p u hk hp hpu hlook
      exact ⟨hon ▸ hiall e he hb, g1⟩
    have hcnt : cntU (d.setIfInBounds i true) n = f := by
      obtain ⟨h1, h2⟩ := cntU_set hisz hid (n := n)
      rw [h1, if_pos hin]; omega
    have hdset : ∀ k, (d.setIfInBounds i true).getD k false = true → k = i ∨ d.getD k false = true := fun k hk => by
      by_cases hki : i = k
      · exact .inl hki.symm
      · rw [getD_set_ne false hki] at hk; exact .inr hk
    -- the frame behind it
    have hput : ∀ (u : Value) (s : Tmp), (a.put o.dst u).tmps[s]? = if s = t then some u else a.tmps[s]? := by
      intro u s
      rw [hO.dst]
      unfold Act.put
      simp only
      by_cases hst : s = t
      · subst hst
        rw [if_pos rfl]
        simp [inv.size, htA]
      · rw [if_neg hst, Array.getElem?_setIfInBounds_ne (fun e => hst e.symm)]
    have hnew : ∀ (u : Value) (w' : World) (G' : Nat → Nat), Below w.heap.size w w' → (m = none → u = v) → (∀ ob, m = some ob → u = .pointer (some ⟨w.heap.size, 0, none⟩) ∧ w'.heap[w.heap.size]? = some ob ∧ G' i = w.heap.size) → (∀ k, k ≠ i → G' k = G k) →
        PInv W ops n ms A G' (d.setIfInBounds i true) (a.put o.dst u) w' := by
      intro u w' G' hb hu hal hGk
      refine ⟨inv.head.set hi hin, inv.bel.trans (hb.mono inv.bel.size), by rw [(put_size _ _ _).2]; exact inv.defers, by rw [(put_size _ _ _).1]; exact inv.size, ?_, ?_, ?_⟩
      · intro s hs'
        rw [hput]
        by_cases hst : s = t
        · rw [if_pos hst]
          obtain ⟨_, g2⟩ := hs' i o hin ho (by rw [hst]; exact hO.dst)
          have hmn : m = none := by rw [hm] at g2; exact Option.some.inj g2
          rw [hu hmn, hst, hvA g2]
        · rw [if_neg hst]
          refine inv.slot s (fun k p hk hp hps => ?_)
          obtain ⟨g1, g2⟩ := hs' k p hk hp hps
          rcases hdset k g1 with e | e
          · exfalso
            subst e
            have : p = o := Option.some.inj (hp.symm.trans ho)
            rw [this, hO.dst] at hps
            exact hst (Option.some.inj hps).symm
          · exact ⟨e, g2⟩
      · intro k p s ob hk hp hps hmk hdk
        by_cases hki : k = i
        · subst hki
          have hpo : p = o := Option.some.inj (hp.symm.trans ho)
          rw [hm] at hmk
          obtain ⟨g1, g2, g3⟩ := hal ob (Option.some.inj hmk)
          rw [hpo, hO.dst] at hps
          have hst : s = t := (Option.some.inj hps).symm
          rw [hput, if_pos hst, g1, g3]
          exact ⟨rfl, inv.bel.size, g2⟩
        · have hdk' : d.getD k false = true := (hdset k hdk).resolve_left hki
          obtain ⟨g1, g2, g3⟩ := inv.al k p s ob hk hp hps hmk hdk'
          have hne := hO.apart k p s hk hp hps hki
          rw [hput, if_neg hne, hGk k hki]
          exact ⟨g1, g2, heap_keep g3 hb⟩
      · intro k j ob ob' hk hj hmk hmj hdk hdj hkj
        have low : ∀ q obq, q < n → ms[q]? = some (some obq) → d.getD q false = true → G q < w.heap.size := fun q obq hqn hmq hdq => by
          obtain ⟨p, s, hp, hP⟩ := hok q hqn
          obtain ⟨_, _, g3⟩ := inv.al q p s obq hqn hp hP.dst hmq hdq
          exact (Array.getElem?_eq_some_iff.1 g3).1
        by_cases hki : k = i
        · have hji : j ≠ i := fun e => hkj (hki.trans e.symm)
          have hdj' := (hdset j hdj).resolve_left hji
          have h1 := low j ob' hj hmj hdj'
          rw [hki] at hmk
          rw [hm] at hmk
          obtain ⟨_, _, g3⟩ := hal ob (Option.some.inj hmk)
          rw [hki, g3, hGk j hji]
          omega
        · have hdk' := (hdset k hdk).resolve_left hki
          by_cases hji : j = i
          · have h1 := low k ob hk hmk hdk'
            rw [hji] at hmj
            rw [hm] at hmj
            obtain ⟨_, _, g3⟩ := hal ob' (Option.some.inj hmj)
            rw [hji, g3, hGk k hki]
            omega
          · rw [hGk k hki, hGk j hji]
            exact inv.ne k j ob ob' hk hj hmk hmj hdk' ((hdset j hdj).resolve_left hji) hkj
    unfold wpOp
    rw [ho]
    simp only
    have hw : Region.wanted o (yielded ops a.tmps) = true := by unfold Region.wanted; rw [hO.guard]
    rw [if_pos hw]
    refine .inl ?_
    unfold Oper.wp
    rw [hexec]
    cases m with
    | none =>
      have h1 := hQ w inv.bel
      rcases h1 with h1 | ⟨fn, args, h1, h2⟩
      · rw [h1]
        exact ih _ _ _ G (hnew v w G (Below.refl _ _) (fun _ => rfl) (fun ob h => by cases h) (fun _ _ => rfl)) hcnt
      · rw [h1]
        refine h2.mono (fun e w' h => ?_)
        obtain ⟨rfl, hb⟩ := h
        exact ih _ _ _ G (hnew v w' G hb (fun _ => rfl) (fun ob h => by cases h) (fun _ _ => rfl)) hcnt
    | some ob =>
      rw [hQ w]
      refine ih _ _ _ (fun k => if k = i then w.heap.size else G k) (hnew _ _ _ ((Below.refl _ _).alloc (Nat.le_refl _) _) (fun h => by cases h) (fun ob' h => ?_) (fun k hk => if_neg hk)) hcnt
      cases h
      exact ⟨rfl, heap_new w ob, if_pos rfl⟩
theorem putG_size (G : Nat → Nat) : ∀ (os : List Oper) (ms : List (Option Obj)) (a : Act) (k : Nat), (putG G a os ms k).tmps.size = a.tmps.size ∧ (putG G a os ms k).defers = a.defers
  | [], _, a, k => ⟨rfl, rfl⟩
  | _ :: _, [], a, k => ⟨rfl, rfl⟩
  | o :: os, none :: ms, a, k => putG_size G os ms a (k + 1)
  | o :: os, some ob :: ms, a, k => by
    obtain ⟨h1, h2⟩ := putG_size G os ms (a.put o.dst (.pointer (some ⟨G k, 0, none⟩))) (k + 1)
    obtain ⟨g1, g2⟩ := put_size a o.dst (.pointer (some ⟨G k, 0, none⟩))
    exact ⟨h1.trans g1, h2.trans g2⟩
theorem put_get (a : Act) (o : Oper) (v : Value) (t : Tmp) (h : o.dst ≠ some t) : (a.put o.dst v).tmps[t]? = a.tmps[t]? := by
  unfold Act.put
  split
  · rename_i d hd
    rw [hd] at h
    simp only
    rw [Array.getElem?_setIfInBounds_ne (fun e => h (by rw [e]))]
  · rfl
theorem putG_get (G : Nat → Nat) : ∀ (os : List Oper) (ms : List (Option Obj)) (a : Act) (k : Nat) (t : Tmp), (∀ (j : Nat) (o : Oper) (ob : Obj), os[j]? = some o → ms[j]? = some (some ob) → o.dst ≠ some t) → (putG G a os ms k).tmps[t]? = a.tmps[t]?
  | [], _, a, k, t, _ => rfl
  | _ :: _, [], a, k, t, _ => rfl
  | o :: os, none :: ms, a, k, t, h => putG_get G os ms a (k + 1) t (fun j p ob hp hm => h (j + 1) p ob (by simpa using hp) (by simpa using hm))
  | o :: os, some ob :: ms, a, k, t, h => by
    refine (putG_get G os ms _ (k + 1) t (fun j p ob' hp hm => h (j + 1) p ob' (by simpa using hp) (by simpa using hm))).trans ?_
    exact put_get _ _ _ _ (h 0 o ob rfl rfl)
theorem putG_at (G : Nat → Nat) : ∀ (os : List Oper) (ms : List (Option Obj)) (a : Act) (k j : Nat) (o : Oper) (ob : Obj) (t : Tmp), os[j]? = some o → ms[j]? = some (some ob) → o.dst = some t → t < a.tmps.size → (∀ i p, os[i]? = some p → i ≠ j → p.dst ≠ some t) → (putG G a os ms k).tmps[t]? = some (.pointer (some ⟨G (k + j), 0, none⟩))
  | [], _, a, k, j, o, ob, t, h, _, _, _, _ => by simp at h
  | _ :: _, [], a, k, j, o, ob, t, _, h, _, _, _ => by simp at h
  | o :: os, none :: ms, a, k, 0, _, _, t, h1, h2, _, _, _ => by simp at h2
  | o :: os, some ob :: ms, a, k, 0, _, _, t, h1, h2, h3, h4, h5 => by
    cases h1
    refine (putG_get G os ms _ (k + 1) t (fun j p ob' hp hm => h5 (j + 1) p (by simpa using hp) (by omega))).trans ?_
    unfold Act.put
    rw [h3]
    simp [h4]
  | o :: os, none :: ms, a, k, j + 1, p, ob, t, h1, h2, h3, h4, h5 => by
    have := putG_at G os ms a (k + 1) j p ob t (by simpa using h1) (by simpa using h2) h3 h4 (fun i q hq hne => h5 (i + 1) q (by simpa using hq) (by omega))
    rw [show k + (j + 1) = k + 1 + j by omega]
    exact this
  | o :: os, some ob' :: ms, a, k, j + 1, p, ob, t, h1, h2, h3, h4, h5 => by
    have := putG_at G os ms (a.put o.dst (.pointer (some ⟨G k, 0, none⟩))) (k + 1) j p ob t (by simpa using h1) (by simpa using h2) h3 (by rw [(put_size _ _ _).1]; exact h4) (fun i q hq hne => h5 (i + 1) q (by simpa using hq) (by omega))
    rw [show k + (j + 1) = k + 1 + j by omega]
    exact this
theorem cntU_le (d : Array Bool) : ∀ n, cntU d n ≤ n
  | 0 => Nat.le_refl _
  | n + 1 => by
    have := cntU_le d n
    simp only [cntU]
    split <;> omega
theorem act_ext {a b : Act} (h1 : a.defers = b.defers) (h2 : a.tmps.size = b.tmps.size) (h3 : ∀ t : Nat, a.tmps[t]? = b.tmps[t]?) : a = b := by
  cases a; cases b
  simp only at h1 h2 h3
  subst h1
  congr 1
  exact Array.ext_getElem? h3
/-- What is so of the new blocks. -/
def GOk (W : World) (ms : List (Option Obj)) (G : Nat → Nat) (w : World) : Prop :=
  (∀ k ob, ms[k]? = some (some ob) → W.heap.size ≤ G k ∧ w.heap[G k]? = some ob) ∧ (∀ k j ob ob', ms[k]? = some (some ob) → ms[j]? = some (some ob') → k ≠ j → G k ≠ G j)
/-- The first n operations in whatever order; what comes last has one order only. -/
theorem qRegionPt {id : Nat} {R : Exit → Act → World → Prop} {a : Act} {w : World} {l : List Oper} (n : Nat) (vs : List Value) (ms : List (Option Obj)) (hm : P.follows .mixedOrders = true) (hB : ptB l.toArray n ms = true)
    (hvs : vs.length = n) (hms : ms.length = n) (hsz : (l.take n).all (fun o => match o.dst with | some t => decide (t < a.tmps.size) | none => true) = true)
    (hq : QOps P w (putL a (l.take n) vs) (l.take n) vs ms)
    (h : ∀ (G : Nat → Nat) w', Below w.heap.size w w' → GOk w ms G w' → wpList P l.toArray R (l.drop n) (putG G (putL a (l.take n) vs) (l.take n) ms 0) w') : (Code.region id l.toArray true).wp P R a w := by
  refine wp_region_any hm ?_
  have hB' := hB
  unfold ptB at hB'
  simp only [Bool.and_eq_true, decide_eq_true_eq] at hB'
  obtain ⟨⟨⟨⟨⟨hsel, hn⟩, hs⟩, hc⟩, hseq⟩, hops⟩ := hB'
  have hok : ∀ i, i < n → ∃ o t, l.toArray[i]? = some o ∧ OpOk l.toArray n ms i o t := fun i hi => opB_spec (List.all_eq_true.1 hops i (List.mem_range.2 hi))
  have htk : ∀ i o, i < n → l.toArray[i]? = some o → (l.take n)[i]? = some o := fun i o hi ho => by
    rw [List.getElem?_take_of_lt hi]; simpa using ho
  have htk2 : ∀ i o, (l.take n)[i]? = some o → i < n ∧ l.toArray[i]? = some o := fun i o ho => by
    have hi : i < n := by
      have := (List.getElem?_eq_some_iff.1 ho).1
      rw [List.length_take] at this; omega
    rw [List.getElem?_take_of_lt hi] at ho
    exact ⟨hi, by simpa using ho⟩
  have hbd : ∀ k o t, k < n → l.toArray[k]? = some o → o.dst = some t → t < a.tmps.size := fun k o t hk ho ht => by
    have := List.all_eq_true.1 hsz o (List.mem_of_getElem? (htk k o hk ho))
    rw [ht] at this
    simpa using this
  have hsize := putL_size (l.take n) vs a
  have hA : ∀ k o v t, k < n → l.toArray[k]? = some o → vs[k]? = some v → o.dst = some t → t < (putL a (l.take n) vs).tmps.size ∧ (ms[k]? = some none → (putL a (l.take n) vs).tmps[t]? = some v) := fun k o v t hk ho hv ht => by
    refine ⟨by rw [hsize.1]; exact hbd k o t hk ho ht, fun _ => putL_at _ _ a k o v t (htk k o hk ho) hv ht (hbd k o t hk ho ht) (fun j p hp hne e => ?_)⟩
    obtain ⟨hj, hp'⟩ := htk2 j p hp
    obtain ⟨o', t', ho', hO⟩ := hok k hk
    have e1 : o' = o := Option.some.inj (ho'.symm.trans ho)
    have e2 : t' = t := by have := hO.dst; rw [e1, ht] at this; exact (Option.some.inj this).symm
    exact hO.apart j p t hj hp' e hne e2.symm
  have hmain := region_pt (W := w) (R := R) (vs := vs) hB (by simpa using hq) hvs hms hA (fun a' w' G inv => by
    have hend := h G w' inv.bel
    have hall : ∀ k, k < n → (allB l.toArray.size n).getD k false = true := fun k hk => by
      unfold allB
      simp [Array.getElem?_append, hk]
    have hg : GOk w ms G w' := by
      refine ⟨fun k ob hk => ?_, fun k j ob ob' hk hj hne => ?_⟩
      · have hkn : k < n := by have := (List.getElem?_eq_some_iff.1 hk).1; omega
        obtain ⟨o, t, ho, hO⟩ := hok k hkn
        exact (inv.al k o t ob hkn ho hO.dst hk (hall k hkn)).2
      · have hkn : k < n := by have := (List.getElem?_eq_some_iff.1 hk).1; omega
        have hjn : j < n := by have := (List.getElem?_eq_some_iff.1 hj).1; omega
        exact inv.ne k j ob ob' hkn hjn hk hj (hall k hkn) (hall j hjn) hne
    have e : a' = putG G (putL a (l.take n) vs) (l.take n) ms 0 := by
      have hgs := putG_size G (l.take n) ms (putL a (l.take n) vs) 0
      refine act_ext (inv.defers.trans hgs.2.symm) (inv.size.trans hgs.1.symm) (fun t => ?_)
      by_cases hx : ∃ (j : Nat) (o : Oper) (ob : Obj), (l.take n)[j]? = some o ∧ ms[j]? = some (some ob) ∧ o.dst = some t
      · obtain ⟨j, o, ob, hj, hmj, hot⟩ := hx
        obtain ⟨hjn, hj'⟩ := htk2 j o hj
        rw [(inv.al j o t ob hjn hj' hot hmj (hall j hjn)).1]
        have := putG_at G (l.take n) ms (putL a (l.take n) vs) 0 j o ob t hj hmj hot (by rw [hsize.1]; exact hbd j o t hjn hj' hot) (fun i p hp hne e => by
          obtain ⟨hi, hp'⟩ := htk2 i p hp
          obtain ⟨o', t', ho', hO⟩ := hok j hjn
          have e1 : o' = o := Option.some.inj (ho'.symm.trans hj')
          have e2 : t' = t := by have := hO.dst; rw [e1, hot] at this; exact (Option.some.inj this).symm
          exact hO.apart i p t hi hp' e hne e2.symm)
        rw [this, Nat.zero_add]
      · rw [putG_get G (l.take n) ms _ 0 t (fun j o ob hj hmj hot => hx ⟨j, o, ob, hj, hmj, hot⟩)]
        refine inv.slot t (fun k o hk ho hot => ⟨hall k hk, ?_⟩)
        cases hmk : ms[k]? with
        | none =>
          rw [List.getElem?_eq_none_iff] at hmk
          omega
        | some m =>
          cases m with
          | none => rfl
          | some ob => exact absurd ⟨k, o, ob, htk k o hk ho, hmk, hot⟩ hx
    rw [e]
    simpa using hend hg)
  have inv0 : PInv w l.toArray n ms (putL a (l.take n) vs) (fun _ => 0) (Array.replicate l.toArray.size false) a { w with drawn := w.drawn + 1 } := by
    refine ⟨⟨by simp, fun j oj _ hj => (by rw [getD_replicate_false] at hj; cases hj), fun t _ ht => getD_in (by simpa using ht) (getD_replicate_false _ _)⟩, (Below.refl _ _).drew, hsize.2.symm, hsize.1.symm, ?_, ?_, ?_⟩
    · intro t ht
      refine (putL_get _ _ a t (fun o ho e => ?_)).symm
      obtain ⟨j, hj⟩ := List.getElem?_of_mem ho
      obtain ⟨hjn, hj'⟩ := htk2 j o hj
      have := (ht j o hjn hj' e).1
      rw [getD_replicate_false] at this
      cases this
    · intro k o t ob _ _ _ _ hd
      rw [getD_replicate_false] at hd; cases hd
    · intro k j ob ob' _ _ _ _ hd
      rw [getD_replicate_false] at hd; cases hd
  have := hmain _ _ a _ _ inv0 rfl
  refine wpAny_le ?_ this
  have := cntU_le (Array.replicate l.toArray.size false) n
  omega
end
end Go.Proofs.YtjjfhblaefbpgaaGreatDoor

/- command.readNote of a right note's line by its contract. -/
namespace Go.Proofs.YtjjfhblaefbpgaaGreatDoor
open Go.RowKit Go.Shelf

theorem numW_dg (n : Int) (h0 : 0 ≤ n) (h9 : n ≤ 9) : NumW ⟨(dgL n).toArray⟩ ⟨(dgL n).toArray⟩ n := by
  have : n = 0 ∨ n = 1 ∨ n = 2 ∨ n = 3 ∨ n = 4 ∨ n = 5 ∨ n = 6 ∨ n = 7 ∨ n = 8 ∨ n = 9 := by omega
  have hd : ∀ (j : Nat) (k : Nat), k ≤ 9 → j < 1 → j = 0 := fun j k _ h => by omega
  rcases this with h | h | h | h | h | h | h | h | h | h <;> subst h <;> exact ⟨by decide, by decide, by decide, by decide, fun j h => by
    have hj : j < 1 := h
    obtain rfl : j = 0 := by omega
    constructor <;> decide +revert, fun h e => by decide, by decide⟩
theorem numW_100 : NumW ⟨#[49, 48, 48]⟩ ⟨#[49, 48, 48]⟩ 100 := ⟨by decide, by decide, by decide, by decide, fun j h => by
    have hj : j < 3 := h
    have : j = 0 ∨ j = 1 ∨ j = 2 := by omega
    rcases this with rfl | rfl | rfl <;> constructor <;> decide +revert, fun h e => absurd e (by decide +revert), by decide⟩
theorem lt_set {V : World} {p : Nat} {t : TypeId} {v0 v1 v2 v3 v4 v5 : Value} (a : ByteArray) (h : V.heap[p]? = some (.cells #[v0, v1, v2, v3, v4, v5] t (0, 0))) :
    (((((((V.setCell ⟨p, 0, none⟩ (.string a)).setCell ⟨p, 1, none⟩ (.string ⟨#[45]⟩)).setCell ⟨p, 2, none⟩ (.string ⟨#[100, 111]⟩)).setCell ⟨p, 3, none⟩ (.int .i64 0)).setCell ⟨p, 4, none⟩ (.int .i64 0)).setCell ⟨p, 5, none⟩ (.int .i64 100)).setCell ⟨p, 1, none⟩ (.string ⟨#[]⟩)).heap[p]? = some (.cells #[.string a, .string ⟨#[]⟩, .string ⟨#[100, 111]⟩, .int .i64 0, .int .i64 0, .int .i64 100] t (0, 0)) ∧ ∀ B, B ≤ p → Below B V (((((((V.setCell ⟨p, 0, none⟩ (.string a)).setCell ⟨p, 1, none⟩ (.string ⟨#[45]⟩)).setCell ⟨p, 2, none⟩ (.string ⟨#[100, 111]⟩)).setCell ⟨p, 3, none⟩ (.int .i64 0)).setCell ⟨p, 4, none⟩ (.int .i64 0)).setCell ⟨p, 5, none⟩ (.int .i64 100)).setCell ⟨p, 1, none⟩ (.string ⟨#[]⟩)) := by
  refine ⟨by simp [World.setCell, Array.getElem?_modify, h], fun B hB => ?_⟩
  exact (((((((Below.refl B V).setCell hB _).setCell hB _).setCell hB _).setCell hB _).setCell hB _).setCell hB _).setCell hB _
theorem no_set0 {V : World} {p : Nat} {t : TypeId} {v0 v1 v2 v3 v4 v5 v6 v7 v8 : Value} (x : No) (h : V.heap[p]? = some (.cells #[v0, v1, v2, v3, v4, v5, v6, v7, v8] t (0, 0))) :
    (((((((((V.setCell ⟨p, 0, none⟩ (.string (idT x.1))).setCell ⟨p, 1, none⟩ (.string ⟨#[]⟩)).setCell ⟨p, 2, none⟩ (.string ⟨#[100, 111]⟩)).setCell ⟨p, 3, none⟩ (.int .i64 0)).setCell ⟨p, 4, none⟩ (.int .i64 0)).setCell ⟨p, 5, none⟩ (.int .i64 100)).setCell ⟨p, 6, none⟩ (.int .i64 x.2.s)).setCell ⟨p, 7, none⟩ (.int .i64 x.2.t)).setCell ⟨p, 8, none⟩ (.int .i64 x.2.c)).heap[p]? = some (.cells #[.string (idT x.1), .string ⟨#[]⟩, .string ⟨#[100, 111]⟩, .int .i64 0, .int .i64 0, .int .i64 100, .int .i64 x.2.s, .int .i64 x.2.t, .int .i64 x.2.c] t (0, 0)) ∧ ∀ B, B ≤ p → Below B V (((((((((V.setCell ⟨p, 0, none⟩ (.string (idT x.1))).setCell ⟨p, 1, none⟩ (.string ⟨#[]⟩)).setCell ⟨p, 2, none⟩ (.string ⟨#[100, 111]⟩)).setCell ⟨p, 3, none⟩ (.int .i64 0)).setCell ⟨p, 4, none⟩ (.int .i64 0)).setCell ⟨p, 5, none⟩ (.int .i64 100)).setCell ⟨p, 6, none⟩ (.int .i64 x.2.s)).setCell ⟨p, 7, none⟩ (.int .i64 x.2.t)).setCell ⟨p, 8, none⟩ (.int .i64 x.2.c)) := by
  refine ⟨by simp [World.setCell, Array.getElem?_modify, h], fun B hB => ?_⟩
  exact (((((((((Below.refl B V).setCell hB _).setCell hB _).setCell hB _).setCell hB _).setCell hB _).setCell hB _).setCell hB _).setCell hB _).setCell hB _
def RnPost (x : No) (w : World) (e : Ending) (w' : World) : Prop :=
  e = .returned (.tuple #[.agg #[.string (idT x.1), .string ⟨#[]⟩, .string ⟨#[100, 111]⟩, .int .i64 0, .int .i64 0, .int .i64 100, .int .i64 x.2.s, .int .i64 x.2.t, .int .i64 x.2.c], .bool true]) ∧ Below w.heap.size w w'
theorem idT_eq' (i : Nat) : idT i = ⟨(idL i).toArray⟩ := by
  match i with
  | 0 => rfl
  | 1 => rfl
  | _ + 2 => rfl
set_option maxRecDepth 100000 in
set_option maxHeartbeats 8000000 in
theorem readNote_any (x : No) (w : World) (hx : NtOk x.2) (hT : MlW w) :
    Calls Tryz.prog 42 #[.string ⟨(lnL x).toArray⟩] w fun e w' => RnPost x w e w' := by
  obtain ⟨k1, k2, k3, k4, k5, k6⟩ := hx
  have hx : NtOk x.2 := ⟨k1, k2, k3, k4, k5, k6⟩
  obtain ⟨ws, hws⟩ : ∃ ws : List ByteArray, ws = [idT x.1, ⟨#[45]⟩, ⟨#[48]⟩, ⟨#[48]⟩, ⟨#[49, 48, 48]⟩, ⟨(dgL x.2.s).toArray⟩, ⟨(dgL x.2.t).toArray⟩, ⟨(dgL x.2.c).toArray⟩, ⟨#[34, 100, 111, 34]⟩] := ⟨_, rfl⟩
  have HSP := Lib.hid (fun V (hV : Below w.heap.size w V) => show Calls Tryz.prog 89 #[.string ⟨(lnL x).toArray⟩, .string ⟨#[32]⟩, .int .i64 9] V fun e w' => e = .returned (.slice (some ⟨V.heap.size, 0, none⟩) 9 9) ∧ w' = V.alloc (.cells (ws.map .string).toArray 9) from by
    obtain ⟨m, hm⟩ := hT.below hV
    have hsz : (⟨(lnL x).toArray⟩ : ByteArray).size = 23 := by
      have := ln_len x
      simpa [ByteArray.size] using this
    have hsp := ln_split hx 8 (by omega)
    have he : (wdL x).map (fun p => (⟨p.toArray⟩ : ByteArray)) = ws := by rw [hws, idT_eq']; rfl
    rw [he] at hsp
    refine (Any.strings_SplitN lay147 (by kernel_rfl) ⟨(lnL x).toArray⟩ ⟨#[32]⟩ 9 m V (by omega) hm (by decide) (by omega) (by omega)).mono ?_
    rintro e w' ⟨h1, h2⟩
    rw [hsz] at h1 h2
    simp only [show min 9 (23 + 1) = 9 from rfl] at h1 h2
    rw [hsp] at h1 h2
    have h9 : ws.length = 9 := by rw [hws]; rfl
    rw [h9] at h1
    refine ⟨h1, ?_⟩
    rw [h2]
    congr 2
    have := Lib.cellsOf_full ws
    rw [h9] at this
    exact this)
  have HW := Lib.hid hws
  have HW9 := Lib.hid (fun (V : World) (g : Nat) (h : V.heap[g]? = some (.cells (ws.map .string).toArray 9 (0, 0))) => show V.cell? ⟨g, 0, none⟩ = some (.string (idT x.1)) ∧ V.cell? ⟨g, 1, none⟩ = some (.string ⟨#[45]⟩) ∧ V.cell? ⟨g, 8, none⟩ = some (.string ⟨#[34, 100, 111, 34]⟩) from
    ⟨cell_of_blk h (by rw [hws]; rfl), cell_of_blk h (by rw [hws]; rfl), cell_of_blk h (by rw [hws]; rfl)⟩)
  have HNM := Lib.hid (fun (V : World) (g : Nat) (h : V.heap[g]? = some (.cells (ws.map .string).toArray 9 (0, 0))) =>
    numbers_any ((ws.drop 2).take 6) [0, 0, 100, x.2.s, x.2.t, x.2.c] 6 7 g 2 V (by rw [hws]; rfl) rfl (by omega) (Array.getElem?_eq_some_iff.1 h).1 (by
      intro j v hv
      rw [hws] at hv
      have h' := h
      rw [hws] at h'
      match j, hv with
      | 0, hv => cases hv; exact cell_of_blk h' rfl
      | 1, hv => cases hv; exact cell_of_blk h' rfl
      | 2, hv => cases hv; exact cell_of_blk h' rfl
      | 3, hv => cases hv; exact cell_of_blk h' rfl
      | 4, hv => cases hv; exact cell_of_blk h' rfl
      | 5, hv => cases hv; exact cell_of_blk h' rfl) (by
      intro j s hs
      rw [hws] at hs
      match j, hs with
      | 0, hs => cases hs; exact ⟨⟨#[48]⟩, 0, rfl, numW_dg 0 (by omega) (by omega)⟩
      | 1, hs => cases hs; exact ⟨⟨#[48]⟩, 0, rfl, numW_dg 0 (by omega) (by omega)⟩
      | 2, hs => cases hs; exact ⟨⟨#[49, 48, 48]⟩, 100, rfl, numW_100⟩
      | 3, hs => cases hs; exact ⟨_, x.2.s, rfl, numW_dg _ (by omega) (by omega)⟩
      | 4, hs => cases hs; exact ⟨_, x.2.t, rfl, numW_dg _ (by omega) (by omega)⟩
      | 5, hs => cases hs; exact ⟨_, x.2.c, rfl, numW_dg _ (by omega) (by omega)⟩))
  generalize hS : (⟨(lnL x).toArray⟩ : ByteArray) = S at HSP ⊢
  clear hS hws k1 k2 k3 k4 k5 k6 hT
  have hid : (idT x.1).toList.isEmpty = false := empty_of (by rw [idT_eq']; have := id_len x.1; simp [ByteArray.size]; omega)
  have hid2 : ((idT x.1).toList == (⟨#[]⟩ : ByteArray).toList) = false := by rw [idT_eq']; exact byte_eqF (fun h => by have := id_len x.1; rw [h] at this; cases this)
  have hB0 : Below w.heap.size w (w.alloc (.cells #[.string ⟨#[]⟩, .string ⟨#[]⟩, .string ⟨#[]⟩, .int .i64 0, .int .i64 0, .int .i64 0, .int .i64 0, .int .i64 0, .int .i64 0] 34)) := (Below.refl _ _).alloc (Nat.le_refl _) _
  have hG0 := heap_new w (.cells #[.string ⟨#[]⟩, .string ⟨#[]⟩, .string ⟨#[]⟩, .int .i64 0, .int .i64 0, .int .i64 0, .int .i64 0, .int .i64 0, .int .i64 0] 34)
  go_enter Tryz.func42, Tryz.ntmps42
  go_upto_region 1 with (fail)
  have hr : w.heap.size < (w.alloc (.cells #[.string ⟨#[]⟩, .string ⟨#[]⟩, .string ⟨#[]⟩, .int .i64 0, .int .i64 0, .int .i64 0, .int .i64 0, .int .i64 0, .int .i64 0] 34)).heap.size := by simp
  generalize w.alloc (.cells #[.string ⟨#[]⟩, .string ⟨#[]⟩, .string ⟨#[]⟩, .int .i64 0, .int .i64 0, .int .i64 0, .int .i64 0, .int .i64 0, .int .i64 0] 34) = w0 at hB0 hG0 hr ⊢
  have HB0 := Lib.hid hB0
  have HG0 := Lib.hid hG0
  clear hB0 hG0
  go_wp2_with (fail)
  refine (HSP.out w0 HB0.out).mono ?_
  rintro e w1 ⟨rfl, hw1⟩
  have hs1 : w0.heap.size < w1.heap.size := by rw [hw1]; simp
  have hb1 : Below w0.heap.size w0 w1 := by rw [hw1]; exact (Below.refl _ _).alloc (Nat.le_refl _) _
  have HK1 := Lib.hid (show w1.heap[w0.heap.size]? = some (.cells (ws.map .string).toArray 9 (0, 0)) from by rw [hw1]; exact heap_new _ _)
  have HB1 := Lib.hid (HB0.out.trans (hb1.mono (by omega)))
  have HG1 := Lib.hid ((hb1.block w.heap.size hr).trans HG0.out)
  clear hw1 hb1 HB0 HG0
  generalize w0.heap.size = g at HK1 hs1 hr ⊢
  obtain ⟨c0, c1, c8⟩ := HW9.out w1 g HK1.out
  go_upto_region 5 with (first | (go_at_call 63; refine (HNM.out w1 g HK1.out).mono ?_; rintro e w2 ⟨A, c, n, hn6, rfl, ho2, hb2⟩; obtain rfl : n = 6 := hn6))
  obtain ⟨q, rfl⟩ : ∃ q, A = some ⟨q, 0, none⟩ := by
    rcases own_two ho2 with ⟨_, h, _⟩ | ⟨q, h, _⟩
    · omega
    · exact ⟨q, h⟩
  have hc6 : 6 ≤ c := own_cap ho2
  have HCQ := Lib.hid (own_cells0 ho2)
  have HQL := Lib.hid (ho2.lt q rfl)
  have HB2 := Lib.hid (HB1.out.trans (hb2.mono (by omega)))
  have HG2 := Lib.hid ((hb2.block w.heap.size (by omega)).trans HG1.out)
  have HK2 := Lib.hid ((hb2.block g hs1).trans HK1.out)
  have hs2 := hb2.size
  clear ho2 hb2 c0 c1 c8 HB1 HG1
  obtain ⟨c0, c1, c8⟩ := HW9.out w2 g HK2.out
  go_upto_region 8 with (first | (go_at_call 90; refine (unquote_do w2).mono ?_; rintro e w3 ⟨rfl, hb3⟩))
  have HB3 := Lib.hid (HB2.out.trans (hb3.mono (by omega)))
  have HG3 := Lib.hid ((hb3.block w.heap.size (by omega)).trans HG2.out)
  have HK3 := Lib.hid ((hb3.block g (by omega)).trans HK2.out)
  have HC3 := Lib.hid (HCQ.out.keep (hb3.block q HQL.out.2))
  have hs3 := hb3.size
  have hq3 : q < w3.heap.size := by have := HQL.out.2; omega
  clear hb3 HB2 HG2 HK2 HCQ c0 c1 c8
  have HQ := Lib.hid (fun (V : World) (hV : Below w3.heap.size w3 V) => show (V.cell? ⟨g, 0, none⟩ = some (.string (idT x.1)) ∧ V.cell? ⟨g, 1, none⟩ = some (.string ⟨#[45]⟩) ∧ V.cell? ⟨g, 8, none⟩ = some (.string ⟨#[34, 100, 111, 34]⟩)) ∧ V.cell? ⟨q, 0, none⟩ = some (.int .i64 0) ∧ V.cell? ⟨q, 1, none⟩ = some (.int .i64 0) ∧ V.cell? ⟨q, 2, none⟩ = some (.int .i64 100) ∧ V.cell? ⟨q, 3, none⟩ = some (.int .i64 x.2.s) ∧ V.cell? ⟨q, 4, none⟩ = some (.int .i64 x.2.t) ∧ V.cell? ⟨q, 5, none⟩ = some (.int .i64 x.2.c) from by
    have hk := HC3.out.keep (hV.block q hq3)
    exact ⟨HW9.out V g ((hV.block g (by omega)).trans HK3.out), by simpa using hk 0 _ rfl, by simpa using hk 1 _ rfl, by simpa using hk 2 _ rfl, by simpa using hk 3 _ rfl, by simpa using hk 4 _ rfl, by simpa using hk 5 _ rfl⟩)
  obtain ⟨⟨c0, c1, c8⟩, d0, d1, d2, d3, d4, d5⟩ := HQ.out w3 (Below.refl _ _)
  have hg3 : g < w3.heap.size := by omega
  refine qRegionPt 18 [.slice (some ⟨g, 0, none⟩) 9 9, .pointer (some ⟨g, 0, none⟩), .string (idT x.1), .slice (some ⟨g, 0, none⟩) 9 9, .pointer (some ⟨g, 1, none⟩), .string ⟨#[45]⟩, .string ⟨#[100, 111]⟩, .slice (some ⟨q, 0, none⟩) 6 c, .pointer (some ⟨q, 0, none⟩), .int .i64 0, .slice (some ⟨q, 0, none⟩) 6 c, .pointer (some ⟨q, 1, none⟩), .int .i64 0, .slice (some ⟨q, 0, none⟩) 6 c, .pointer (some ⟨q, 2, none⟩), .int .i64 100, .agg #[.string (idT x.1), .string ⟨#[45]⟩, .string ⟨#[100, 111]⟩, .int .i64 0, .int .i64 0, .int .i64 100], undef] [none, none, none, none, none, none, none, none, none, none, none, none, none, none, none, none, none, some (.cells #[.string ⟨#[]⟩, .string ⟨#[]⟩, .string ⟨#[]⟩, .int .i64 0, .int .i64 0, .int .i64 0] 31)] (by kernel_rfl) (by kernel_rfl) rfl rfl (by rfl) ?_ ?_
  · simp only [List.take_succ_cons, List.take_zero, putL, Act.put, List.setIfInBounds_toArray, List.set_cons_zero, List.set_cons_succ]
    refine ⟨?_, ?_, ?_, ?_, ?_, ?_, ?_, ?_, ?_, ?_, ?_, ?_, ?_, ?_, ?_, ?_, ?_, ?_, trivial⟩
    · exact fun V hV => .inl (by obtain ⟨⟨c0, c1, c8⟩, d0, d1, d2, d3, d4, d5⟩ := HQ.out V hV; go_simp)
    · exact fun V hV => .inl (by obtain ⟨⟨c0, c1, c8⟩, d0, d1, d2, d3, d4, d5⟩ := HQ.out V hV; go_simp)
    · exact fun V hV => .inl (by obtain ⟨⟨c0, c1, c8⟩, d0, d1, d2, d3, d4, d5⟩ := HQ.out V hV; go_simp)
    · exact fun V hV => .inl (by obtain ⟨⟨c0, c1, c8⟩, d0, d1, d2, d3, d4, d5⟩ := HQ.out V hV; go_simp)
    · exact fun V hV => .inl (by obtain ⟨⟨c0, c1, c8⟩, d0, d1, d2, d3, d4, d5⟩ := HQ.out V hV; go_simp)
    · exact fun V hV => .inl (by obtain ⟨⟨c0, c1, c8⟩, d0, d1, d2, d3, d4, d5⟩ := HQ.out V hV; go_simp)
    · exact fun V hV => .inl (by obtain ⟨⟨c0, c1, c8⟩, d0, d1, d2, d3, d4, d5⟩ := HQ.out V hV; go_simp)
    · exact fun V hV => .inl (by obtain ⟨⟨c0, c1, c8⟩, d0, d1, d2, d3, d4, d5⟩ := HQ.out V hV; go_simp)
    · exact fun V hV => .inl (by obtain ⟨⟨c0, c1, c8⟩, d0, d1, d2, d3, d4, d5⟩ := HQ.out V hV; go_simp)
    · exact fun V hV => .inl (by obtain ⟨⟨c0, c1, c8⟩, d0, d1, d2, d3, d4, d5⟩ := HQ.out V hV; go_simp)
    · exact fun V hV => .inl (by obtain ⟨⟨c0, c1, c8⟩, d0, d1, d2, d3, d4, d5⟩ := HQ.out V hV; go_simp)
    · exact fun V hV => .inl (by obtain ⟨⟨c0, c1, c8⟩, d0, d1, d2, d3, d4, d5⟩ := HQ.out V hV; go_simp)
    · exact fun V hV => .inl (by obtain ⟨⟨c0, c1, c8⟩, d0, d1, d2, d3, d4, d5⟩ := HQ.out V hV; go_simp)
    · exact fun V hV => .inl (by obtain ⟨⟨c0, c1, c8⟩, d0, d1, d2, d3, d4, d5⟩ := HQ.out V hV; go_simp)
    · exact fun V hV => .inl (by obtain ⟨⟨c0, c1, c8⟩, d0, d1, d2, d3, d4, d5⟩ := HQ.out V hV; go_simp)
    · exact fun V hV => .inl (by obtain ⟨⟨c0, c1, c8⟩, d0, d1, d2, d3, d4, d5⟩ := HQ.out V hV; go_simp)
    · exact fun V hV => .inl (by obtain ⟨⟨c0, c1, c8⟩, d0, d1, d2, d3, d4, d5⟩ := HQ.out V hV; go_simp)
    · exact fun V => by go_simp
  · intro G W5 hb5 hG
    obtain ⟨h1a, h1b⟩ := hG.1 17 _ rfl
    simp only [List.take_succ_cons, List.take_zero, List.drop_succ_cons, List.drop_zero, putL, putG, Act.put, List.setIfInBounds_toArray, List.set_cons_zero, List.set_cons_succ, Nat.zero_add, Nat.reduceAdd]
    generalize G 17 = p at h1a h1b ⊢
    have HB5 := Lib.hid (HB3.out.trans (hb5.mono (by omega)))
    have HG5 := Lib.hid ((hb5.block w.heap.size (by omega)).trans HG3.out)
    have HQ5 := Lib.hid (fun V (hV : Below W5.heap.size W5 V) => HQ.out V (hb5.trans (hV.mono hb5.size)))
    have hs5 := hb5.size
    have hp5 : p < W5.heap.size := (Array.getElem?_eq_some_iff.1 h1b).1
    have z0 := cell_of_blk (j := 0) h1b rfl
    have z1 := cell_of_blk (j := 1) h1b rfl
    have z2 := cell_of_blk (j := 2) h1b rfl
    have z3 := cell_of_blk (j := 3) h1b rfl
    have z4 := cell_of_blk (j := 4) h1b rfl
    have z5 := cell_of_blk (j := 5) h1b rfl
    have fr : ∀ j, W5.frozen? ⟨p, j, none⟩ = false := fun j => Lib.frozen_of_heap h1b j
    have HB53 := Lib.hid hb5
    have HP5 := Lib.hid h1b
    clear hb5 hG c0 c1 c8 d0 d1 d2 d3 d4 d5
    go_wp2_with (fail)
    obtain ⟨hL1, hL2⟩ := lt_set (idT x.1) HP5.out
    have HP6 := Lib.hid hL1
    have HB63 := Lib.hid (HB53.out.trans (hL2 w3.heap.size h1a))
    have HB6 := Lib.hid (HB5.out.trans (hL2 w.heap.size (by omega)))
    have HG6 := Lib.hid (((hL2 p (Nat.le_refl _)).block w.heap.size (by omega)).trans HG5.out)
    clear hL1 hL2 z0 z1 z2 z3 z4 z5 fr HP5 h1b HQ5 HB5 HG5 HB53
    generalize (((((((W5.setCell ⟨p, 0, none⟩ (.string (idT x.1))).setCell ⟨p, 1, none⟩ (.string ⟨#[45]⟩)).setCell ⟨p, 2, none⟩ (.string ⟨#[100, 111]⟩)).setCell ⟨p, 3, none⟩ (.int .i64 0)).setCell ⟨p, 4, none⟩ (.int .i64 0)).setCell ⟨p, 5, none⟩ (.int .i64 100)).setCell ⟨p, 1, none⟩ (.string ⟨#[]⟩)) = W6 at HP6 HB63 HB6 HG6 ⊢
    have hs6 := HB63.out.size
    have hp6 : p < W6.heap.size := (Array.getElem?_eq_some_iff.1 HP6.out).1
    have HQ6 := Lib.hid (fun V (hV : Below W6.heap.size W6 V) => show (V.cell? ⟨p, 0, none⟩ = some (.string (idT x.1)) ∧ V.cell? ⟨p, 1, none⟩ = some (.string ⟨#[]⟩) ∧ V.cell? ⟨p, 2, none⟩ = some (.string ⟨#[100, 111]⟩) ∧ V.cell? ⟨p, 3, none⟩ = some (.int .i64 0) ∧ V.cell? ⟨p, 4, none⟩ = some (.int .i64 0) ∧ V.cell? ⟨p, 5, none⟩ = some (.int .i64 100)) ∧ V.cell? ⟨q, 3, none⟩ = some (.int .i64 x.2.s) ∧ V.cell? ⟨q, 4, none⟩ = some (.int .i64 x.2.t) ∧ V.cell? ⟨q, 5, none⟩ = some (.int .i64 x.2.c) from by
      obtain ⟨_, _, _, _, e3, e4, e5⟩ := HQ.out V (HB63.out.trans (hV.mono hs6))
      have hk := (hV.block p hp6).trans HP6.out
      exact ⟨⟨cell_of_blk (j := 0) hk rfl, cell_of_blk (j := 1) hk rfl, cell_of_blk (j := 2) hk rfl, cell_of_blk (j := 3) hk rfl, cell_of_blk (j := 4) hk rfl, cell_of_blk (j := 5) hk rfl⟩, e3, e4, e5⟩)
    refine qRegionTail 11 (by kernel_rfl) (by kernel_rfl) ?_
    simp only [List.take_succ_cons, List.take_zero, List.drop_succ_cons, List.drop_zero]
    repeat (first
      | (go_big_quiet_want; refine qVal (fun V hV => (by (obtain ⟨⟨p0, p1, p2, p3, p4, p5⟩, e3, e4, e5⟩ := HQ6.out V hV; go_simp; try rfl))) ?_; simp only [Act.put, List.setIfInBounds_toArray, List.set_cons_zero, List.set_cons_succ]; go_big_quiet_on)
      | go_big_quiet_skip)
    refine wpQuiet_nil ?_
    intro w7 hb7
    have HB7 := Lib.hid (HB6.out.trans (hb7.mono (by omega)))
    have hg7 := (hb7.block w.heap.size (by omega)).trans HG6.out
    obtain ⟨hN1, hN2⟩ := no_set0 x hg7
    have HN1 := Lib.hid hN1
    have HN2 := Lib.hid (HB7.out.trans (hN2 w.heap.size (Nat.le_refl _)))
    have fr : ∀ j, w7.frozen? ⟨w.heap.size, j, none⟩ = false := fun j => Lib.frozen_of_heap hg7 j
    have r0 := cell_of_blk (j := 0) hg7 rfl
    have r1 := cell_of_blk (j := 1) hg7 rfl
    have r2 := cell_of_blk (j := 2) hg7 rfl
    have r3 := cell_of_blk (j := 3) hg7 rfl
    have r4 := cell_of_blk (j := 4) hg7 rfl
    have r5 := cell_of_blk (j := 5) hg7 rfl
    have r6 := cell_of_blk (j := 6) hg7 rfl
    have r7 := cell_of_blk (j := 7) hg7 rfl
    have r8 := cell_of_blk (j := 8) hg7 rfl
    clear hb7 hN1 hN2 hg7
    go_wp2_with (fail)
    clear r0 r1 r2 r3 r4 r5 r6 r7 r8 fr
    generalize (((((((((w7.setCell ⟨w.heap.size, 0, none⟩ (.string (idT x.1))).setCell ⟨w.heap.size, 1, none⟩ (.string ⟨#[]⟩)).setCell ⟨w.heap.size, 2, none⟩ (.string ⟨#[100, 111]⟩)).setCell ⟨w.heap.size, 3, none⟩ (.int .i64 0)).setCell ⟨w.heap.size, 4, none⟩ (.int .i64 0)).setCell ⟨w.heap.size, 5, none⟩ (.int .i64 100)).setCell ⟨w.heap.size, 6, none⟩ (.int .i64 x.2.s)).setCell ⟨w.heap.size, 7, none⟩ (.int .i64 x.2.t)).setCell ⟨w.heap.size, 8, none⟩ (.int .i64 x.2.c)) = W8 at HN1 HN2 ⊢
    have r0 := cell_of_blk (j := 0) HN1.out rfl
    have r1 := cell_of_blk (j := 1) HN1.out rfl
    have r2 := cell_of_blk (j := 2) HN1.out rfl
    have r3 := cell_of_blk (j := 3) HN1.out rfl
    have r4 := cell_of_blk (j := 4) HN1.out rfl
    have r5 := cell_of_blk (j := 5) HN1.out rfl
    have r6 := cell_of_blk (j := 6) HN1.out rfl
    have r7 := cell_of_blk (j := 7) HN1.out rfl
    have r8 := cell_of_blk (j := 8) HN1.out rfl
    refine bodyPost_ret (v := .tuple #[.agg #[.string (idT x.1), .string ⟨#[]⟩, .string ⟨#[100, 111]⟩, .int .i64 0, .int .i64 0, .int .i64 100, .int .i64 x.2.s, .int .i64 x.2.t, .int .i64 x.2.c], .bool true]) (by simp [results, Tryz.results42, go_sem, r0, r1, r2, r3, r4, r5, r6, r7, r8]) rfl ⟨rfl, HN2.out⟩
end Go.Proofs.YtjjfhblaefbpgaaGreatDoor
