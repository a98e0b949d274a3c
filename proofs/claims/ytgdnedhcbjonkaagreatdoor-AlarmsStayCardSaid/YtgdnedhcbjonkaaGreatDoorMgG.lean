/- Several texts in one: LdD, ShD, LaySh, ShS, ShW, ShX. -/
import Derived.Test.YtgdnedhcbjonkaaGreatDoorMgB
import Derived.Test.YtgdnedhcbjonkaaGreatDoorMgA
import Derived.Test.YtgdnedhcbjonkaaGreatDoorMgE
import Derived.Test.YtgdnedhcbjonkaaGreatDoorProg
import Derived.Shelf.SlSortCmp.SmallK
import Derived.Test.YtgdnedhcbjonkaaGreatDoorMgD
import Derived.Shelf.SlSortCmp.Xorshift
import Derived.Shelf.SlSortCmp.WholeK
import Derived.Test.YtgdnedhcbjonkaaGreatDoorMgF
import Derived.Deep.RegionLawGrows

/- Ladders, shifts and notices as data; no program in sight. -/
namespace Go.Proofs.YtgdnedhcbjonkaaGreatDoor
open Go.RowKit

def ruT : Nat → ByteArray
  | 0 => ⟨#[114, 97]⟩
  | 1 => ⟨#[114, 98]⟩
  | _ => ⟨#[]⟩
def tmT : Nat → ByteArray
  | 0 => ⟨#[98, 111, 115, 115]⟩
  | 1 => ⟨#[111, 112, 115]⟩
  | 2 => ⟨#[]⟩
  | _ => ⟨#[122, 122]⟩
/-- A ladder: its rule, where its rungs lie, the rungs, and how often. -/
structure Ld where
  r : Nat
  A : Option Addr
  c : Nat
  g : List (Int × Nat)
  ev : Int
instance : Inhabited Ld := ⟨⟨0, none, 0, [], 0⟩⟩
def rgC (y : Int × Nat) : List Value := [.int .i64 y.1, .string (tmT y.2)]
theorem rgC_len (y : Int × Nat) : (rgC y).length = 2 := rfl
theorem rgC_one (y : Int × Nat) : ∀ u ∈ rgC y, u.oneCell' = true := by
  intro u hu; simp [rgC] at hu; rcases hu with rfl | rfl <;> rfl
def ldC (x : Ld) : List Value := [.string (ruT x.r), .slice x.A x.g.length x.c, .int .i64 x.ev]
theorem ldC_len (x : Ld) : (ldC x).length = 3 := rfl
theorem ldC_one (x : Ld) : ∀ u ∈ ldC x, u.oneCell' = true := by
  intro u hu; simp [ldC] at hu; rcases hu with rfl | rfl | rfl <;> rfl
/-- A shift: the team, the person, and when. -/
structure Sf where
  t : Nat
  b : Nat
  f : Int
  u : Int
instance : Inhabited Sf := ⟨⟨0, 0, 0, 0⟩⟩
def sfC (x : Sf) : List Value := [.string (tmT x.t), .string (alwT x.b), .int .i64 x.f, .int .i64 x.u]
theorem sfC_len (x : Sf) : (sfC x).length = 4 := rfl
theorem sfC_one (x : Sf) : ∀ u ∈ sfC x, u.oneCell' = true := by
  intro u hu; simp [sfC] at hu; rcases hu with rfl | rfl | rfl | rfl <;> rfl
/-- A notice. -/
structure Nt where
  at_ : Int
  d : Nat
  r : Nat
  t : Nat
  b : Nat
  k : Int
instance : Inhabited Nt := ⟨⟨0, 0, 0, 0, 0, 0⟩⟩
def ntC (x : Nt) : List Value := [.int .i64 x.at_, .string (aldT x.d), .string (alrT x.r), .string (tmT x.t), .string (alwT x.b), .int .i64 x.k]
theorem ntC_len (x : Nt) : (ntC x).length = 6 := rfl
theorem ntC_one (x : Nt) : ∀ u ∈ ntC x, u.oneCell' = true := by
  intro u hu; simp [ntC] at hu; rcases hu with rfl | rfl | rfl | rfl | rfl | rfl <;> rfl
/-- What is drawn. -/
structure LdG (x : Ld) : Prop where
  n : x.g.length ≤ 4
  g : ∀ y ∈ x.g, -1099511627776 ≤ y.1 ∧ y.1 ≤ 1099511627776
  ev : -1 ≤ x.ev ∧ x.ev ≤ 1000
structure SfG (x : Sf) : Prop where
  f : 0 ≤ x.f ∧ x.f ≤ 1000
  u : 0 ≤ x.u ∧ x.u ≤ 1000
/-- What holds of the first ones of a row, each by itself and with the one ahead of it. -/
def UpTo {α : Type} (Q : α → Prop) (R : α → α → Prop) (L : List α) (i : Nat) : Prop := (∀ k x, k < i → L[k]? = some x → Q x) ∧ ∀ k a b, k + 1 < i → L[k]? = some a → L[k + 1]? = some b → R a b
theorem UpTo.nil {α : Type} {Q : α → Prop} {R : α → α → Prop} {L : List α} : UpTo Q R L 0 := ⟨fun k x h => by omega, fun k a b h => by omega⟩
theorem UpTo.step {α : Type} {Q : α → Prop} {R : α → α → Prop} {L : List α} {i : Nat} {x : α} (h : UpTo Q R L i) (hx : L[i]? = some x) (hq : Q x) (hr : ∀ a, 0 < i → L[i - 1]? = some a → R a x) : UpTo Q R L (i + 1) := by
  refine ⟨fun k y hk hy => ?_, fun k a b hk ha hb => ?_⟩
  · rcases Nat.lt_or_eq_of_le (Nat.le_of_lt_succ hk) with h1 | h1
    · exact h.1 k y h1 hy
    · subst h1
      rw [hx] at hy
      cases hy
      exact hq
  · rcases Nat.lt_or_eq_of_le (Nat.le_of_lt_succ hk) with h1 | h1
    · exact h.2 k a b h1 ha hb
    · subst h1
      rw [hx] at hb
      cases hb
      exact hr a (by omega) (by simpa using ha)
theorem UpTo.mem {α : Type} {Q : α → Prop} {R : α → α → Prop} {L : List α} (h : UpTo Q R L L.length) {x : α} (hx : x ∈ L) : Q x := by
  obtain ⟨k, hk, rfl⟩ := List.getElem_of_mem hx
  exact h.1 k _ hk (List.getElem?_eq_getElem hk)
/-- What is right. -/
structure RgR (y : Int × Nat) : Prop where
  a : 0 ≤ y.1 ∧ y.1 ≤ 2592000000
  t : y.2 ≠ 2
def RgL (a b : Int × Nat) : Prop := a.1 < b.1
structure LdR (x : Ld) : Prop where
  r : x.r < 2
  n : 1 ≤ x.g.length ∧ x.g.length ≤ 10
  g : UpTo RgR RgL x.g x.g.length
  ev : x.ev = 0 ∨ (1000 ≤ x.ev ∧ x.ev ≤ 2592000000)
def LdL (a b : Ld) : Prop := a.r < b.r
def LdsOk (L : List Ld) : Prop := UpTo LdR LdL L L.length
structure SfR (x : Sf) : Prop where
  t : x.t ≠ 2
  b : x.b = 1 ∨ x.b = 2
  f : 0 ≤ x.f ∧ x.f < x.u
  u : x.u ≤ 345686400000
/-- Teams in order: boss, ops, zz. -/
def tmO (t : Nat) : Nat := min t 3
def SfL (a b : Sf) : Prop := tmO a.t < tmO b.t ∨ (tmO a.t = tmO b.t ∧ a.f < b.f ∧ a.u ≤ b.f)
def SfsOk (L : List Sf) : Prop := UpTo SfR SfL L L.length
/-- Who is on call: 0 nobody. -/
def ocP : List Sf → Nat → Int → Nat
  | [], _, _ => 0
  | x :: L, t, m => if tmO x.t = tmO t ∧ x.f ≤ m ∧ m < x.u then x.b else ocP L t m
end Go.Proofs.YtgdnedhcbjonkaaGreatDoor

/- What is shown, as data. -/
namespace Go.Proofs.YtgdnedhcbjonkaaGreatDoor
open Go.RowKit

structure Sh where
  a : Am
  lv : Int
  be : Int
instance : Inhabited Sh := ⟨⟨⟨0, 0, 0, 0, 0, 0⟩, 0, 0⟩⟩
def shC (x : Sh) : List Value := [.string (aldT x.a.d), .string (alrT x.a.r), .int .i64 x.a.st, .int .i64 x.a.si, .int .i64 x.a.n, .int .i64 x.a.sh, .int .i64 x.lv, .int .i64 x.be]
theorem shC_len (x : Sh) : (shC x).length = 8 := rfl
theorem shC_one (x : Sh) : ∀ u ∈ shC x, u.oneCell' = true := by
  intro u hu; simp [shC] at hu; rcases hu with rfl | rfl | rfl | rfl | rfl | rfl | rfl | rfl <;> rfl
end Go.Proofs.YtgdnedhcbjonkaaGreatDoor

/- The shelf's SlLaysF0.n6 at this program. -/
namespace Go.Proofs.YtgdnedhcbjonkaaGreatDoor
open Go.RowKit Go.Shelf

def laySh_ren : Go.Shelf.Ren := ⟨fun | 6 => 54 | 15 => 91 | 14 => 99 | 28 => 146 | 29 => 147 | 20 => 149 | 21 => 150 | 22 => 151 | 23 => 152 | 24 => 153 | 25 => 154 | 26 => 155 | 27 => 156 | 46 => 195 | 47 => 191 | 48 => 192 | 49 => 196 | 50 => 197 | 57 => 218 | n => n, fun | 22 => 48 | 24 => 124 | 25 => 128 | 3 => 3 | 39 => 176 | 0 => 0 | 53 => 235 | 55 => 237 | 4 => 4 | 46 => 229 | 45 => 228 | 50 => 223 | 5 => 5 | 9 => 9 | 66 => 273 | 70 => 277 | 76 => 294 | 77 => 295 | n => n, fun  | n => n⟩
theorem laySh : SlLaysF0.n6 Tryz.prog laySh_ren := {
  mixed := by kernel_rfl,
  f6 := ⟨Tryz.f54.name, by kernel_rfl, Tryz.func54.trans (congrArg some (by kernel_rfl))⟩,
  f14 := ⟨Tryz.f99.name, by kernel_rfl, Tryz.func99.trans (congrArg some (by kernel_rfl))⟩,
  f15 := Tryz.func91.trans (congrArg some (by kernel_rfl)),
  f20 := ⟨Tryz.f149.name, by kernel_rfl, Tryz.func149.trans (congrArg some (by kernel_rfl))⟩,
  f21 := ⟨Tryz.f150.name, by kernel_rfl, Tryz.func150.trans (congrArg some (by kernel_rfl))⟩,
  f22 := ⟨Tryz.f151.name, by kernel_rfl, Tryz.func151.trans (congrArg some (by kernel_rfl))⟩,
  f23 := ⟨Tryz.f152.name, by kernel_rfl, Tryz.func152.trans (congrArg some (by kernel_rfl))⟩,
  f24 := ⟨Tryz.f153.name, by kernel_rfl, Tryz.func153.trans (congrArg some (by kernel_rfl))⟩,
  f25 := ⟨Tryz.f154.name, by kernel_rfl, Tryz.func154.trans (congrArg some (by kernel_rfl))⟩,
  f26 := ⟨Tryz.f155.name, by kernel_rfl, Tryz.func155.trans (congrArg some (by kernel_rfl))⟩,
  f27 := ⟨Tryz.f156.name, by kernel_rfl, Tryz.func156.trans (congrArg some (by kernel_rfl))⟩,
  f28 := Tryz.func146.trans (congrArg some (by kernel_rfl)),
  f29 := Tryz.func147.trans (congrArg some (by kernel_rfl)),
  f46 := ⟨Tryz.f195.name, by kernel_rfl, Tryz.func195.trans (congrArg some (by kernel_rfl))⟩,
  f47 := Tryz.func191.trans (congrArg some (by kernel_rfl)),
  f48 := Tryz.func192.trans (congrArg some (by kernel_rfl)),
  f49 := ⟨Tryz.f196.name, by kernel_rfl, Tryz.func196.trans (congrArg some (by kernel_rfl))⟩,
  f50 := ⟨Tryz.f197.name, by kernel_rfl, Tryz.func197.trans (congrArg some (by kernel_rfl))⟩,
  f57 := ⟨Tryz.f218.name, by kernel_rfl, Tryz.func218.trans (congrArg some (by kernel_rfl))⟩,
  t0 := Tryz.underlying0,
  a0 := Tryz.isAgg0,
  z0 := Tryz.sizeOf0,
  v0 := Tryz.zeroValue0,
  t3 := Tryz.underlying3,
  a3 := Tryz.isAgg3,
  z3 := Tryz.sizeOf3,
  v3 := Tryz.zeroValue3,
  t4 := Tryz.underlying4,
  a4 := Tryz.isAgg4,
  z4 := Tryz.sizeOf4,
  v4 := Tryz.zeroValue4,
  t5 := Tryz.underlying5,
  a5 := Tryz.isAgg5,
  z5 := Tryz.sizeOf5,
  v5 := Tryz.zeroValue5,
  t9 := Tryz.underlying9,
  a9 := Tryz.isAgg9,
  z9 := Tryz.sizeOf9,
  v9 := Tryz.zeroValue9,
  t22 := Tryz.underlying48,
  a22 := Tryz.isAgg48,
  z22 := Tryz.sizeOf48,
  v22 := Tryz.zeroValue48,
  t25 := Tryz.underlying128,
  a25 := Tryz.isAgg128,
  z25 := Tryz.sizeOf128,
  v25 := Tryz.zeroValue128,
  t39 := Tryz.underlying176,
  a39 := Tryz.isAgg176,
  z39 := Tryz.sizeOf176,
  v39 := Tryz.zeroValue176,
  t45 := Tryz.underlying228,
  a45 := Tryz.isAgg228,
  z45 := Tryz.sizeOf228,
  v45 := Tryz.zeroValue228,
  t46 := Tryz.underlying229,
  a46 := Tryz.isAgg229,
  z46 := Tryz.sizeOf229,
  v46 := Tryz.zeroValue229,
  t50 := Tryz.underlying223,
  a50 := Tryz.isAgg223,
  z50 := Tryz.sizeOf223,
  v50 := Tryz.zeroValue223,
  t53 := Tryz.underlying235,
  a53 := Tryz.isAgg235,
  z53 := Tryz.sizeOf235,
  v53 := Tryz.zeroValue235,
  t55 := Tryz.underlying237,
  a55 := Tryz.isAgg237,
  z55 := Tryz.sizeOf237,
  v55 := Tryz.zeroValue237,
  t66 := Tryz.underlying273,
  a66 := Tryz.isAgg273,
  z66 := Tryz.sizeOf273,
  v66 := Tryz.zeroValue273,
  t70 := Tryz.underlying277,
  a70 := Tryz.isAgg277,
  z70 := Tryz.sizeOf277,
  v70 := Tryz.zeroValue277,
  t76 := Tryz.underlying294,
  a76 := Tryz.isAgg294,
  z76 := Tryz.sizeOf294,
  v76 := Tryz.zeroValue294,
  t77 := Tryz.underlying295,
  a77 := Tryz.isAgg295,
  z77 := Tryz.sizeOf295,
  v77 := Tryz.zeroValue295 }
end Go.Proofs.YtgdnedhcbjonkaaGreatDoor

/- slices.SortFunc of what is shown, however many: what the row holds is the same in another order. -/
namespace Go.Proofs.YtgdnedhcbjonkaaGreatDoor
open Go.RowKit Go.Shelf Go.Sort

def cfH (x y : Sh) : Int := orI [cmpI y.lv x.lv, cmpI x.a.si y.a.si, cbT (aldT x.a.d) (aldT y.a.d), cbT (alrT x.a.r) (alrT y.a.r)]
def ShL (x y : Sh) : Prop := y.lv < x.lv ∨ y.lv = x.lv ∧ (x.a.si < y.a.si ∨ x.a.si = y.a.si ∧ (min x.a.d 2 < min y.a.d 2 ∨ min x.a.d 2 = min y.a.d 2 ∧ min x.a.r 1 < min y.a.r 1))
theorem cfH_lt (x y : Sh) : cfH x y < 0 ↔ ShL x y := by
  unfold cfH ShL
  rw [ald_cmpM, alr_cmpM]
  simp only [orI, cmpI]
  repeat' split
  all_goals omega
theorem swoH : SWO (ltOf cfH) where
  irrefl x := by
    unfold ltOf
    have := cfH_lt x x
    unfold ShL at this
    simp
    omega
  trans x y z h1 h2 := by
    unfold ltOf at *
    have e1 := cfH_lt x y
    have e2 := cfH_lt y z
    have e3 := cfH_lt x z
    unfold ShL at *
    simp at *
    omega
  ntrans x y z h1 h2 := by
    unfold ltOf at *
    have e1 := cfH_lt x y
    have e2 := cfH_lt y z
    have e3 := cfH_lt x z
    unfold ShL at *
    simp at *
    omega
set_option maxRecDepth 100000 in
set_option maxHeartbeats 2000000 in
theorem orderH_grow (x y : Sh) (w : World) : Calls Tryz.prog 55 #[.agg (shC x).toArray, .agg (shC y).toArray] w fun e w' => e = .returned (.int .i64 (cfH x y)) ∧ ∃ q os', w' = grow (w.drewN q) os' := by
  have HL := Lib.hid (fun V => compare_any y.lv x.lv V)
  have HC := Lib.hid (fun V => compare_any x.a.si y.a.si V)
  have HD := Lib.hid (fun V => scompare_any (aldT x.a.d) (aldT y.a.d) V)
  have HR := Lib.hid (fun V => scompare_any (alrT x.a.r) (alrT y.a.r) V)
  show Calls Tryz.prog 55 #[.agg #[.string (aldT x.a.d), .string (alrT x.a.r), .int .i64 x.a.st, .int .i64 x.a.si, .int .i64 x.a.n, .int .i64 x.a.sh, .int .i64 x.lv, .int .i64 x.be], .agg #[.string (aldT y.a.d), .string (alrT y.a.r), .int .i64 y.a.st, .int .i64 y.a.si, .int .i64 y.a.n, .int .i64 y.a.sh, .int .i64 y.lv, .int .i64 y.be]] w _
  unfold cfH cbT
  generalize Lib.compareBytes (aldT x.a.d).data.toList (aldT y.a.d).data.toList = r2 at HD ⊢
  generalize Lib.compareBytes (alrT x.a.r).data.toList (alrT y.a.r).data.toList = r3 at HR ⊢
  generalize cmpI y.lv x.lv = r0 at HL ⊢
  generalize cmpI x.a.si y.a.si = r1 at HC ⊢
  obtain ⟨⟨xd, xr, x2, x3, x4, x5⟩, x6, x7⟩ := x
  obtain ⟨⟨yd, yr, y2, y3, y4, y5⟩, y6, y7⟩ := y
  simp only at HL HC HD HR ⊢
  generalize aldT xd = x0 at HD ⊢
  generalize aldT yd = y0 at HD ⊢
  generalize alrT xr = x1 at HR ⊢
  generalize alrT yr = y1 at HR ⊢
  go_enter Tryz.func55, Tryz.ntmps55
  go_wp2_with (fail)
  generalize hW : ((w.alloc (.cells #[.string x0, .string x1, .int .i64 x2, .int .i64 x3, .int .i64 x4, .int .i64 x5, .int .i64 x6, .int .i64 x7] 124)).alloc (.cells #[.string y0, .string y1, .int .i64 y2, .int .i64 y3, .int .i64 y4, .int .i64 y5, .int .i64 y6, .int .i64 y7] 124)) = W
  have hG : W = grow (w.drewN 0) #[.cells #[.string x0, .string x1, .int .i64 x2, .int .i64 x3, .int .i64 x4, .int .i64 x5, .int .i64 x6, .int .i64 x7] 124, .cells #[.string y0, .string y1, .int .i64 y2, .int .i64 y3, .int .i64 y4, .int .i64 y5, .int .i64 y6, .int .i64 y7] 124] := by rw [← hW, alloc_eq_grow, alloc_eq_grow, grow_grow]; rfl
  have hx : W.heap[w.heap.size]? = some (.cells #[.string x0, .string x1, .int .i64 x2, .int .i64 x3, .int .i64 x4, .int .i64 x5, .int .i64 x6, .int .i64 x7] 124) := by
    rw [← hW, Below.heap_alloc _ _ _ (by simp)]; exact heap_new w _
  have hy : W.heap[w.heap.size + 1]? = some (.cells #[.string y0, .string y1, .int .i64 y2, .int .i64 y3, .int .i64 y4, .int .i64 y5, .int .i64 y6, .int .i64 y7] 124) := by
    rw [← hW]; have := heap_new (w.alloc (.cells #[.string x0, .string x1, .int .i64 x2, .int .i64 x3, .int .i64 x4, .int .i64 x5, .int .i64 x6, .int .i64 x7] 124)) (.cells #[.string y0, .string y1, .int .i64 y2, .int .i64 y3, .int .i64 y4, .int .i64 y5, .int .i64 y6, .int .i64 y7] 124); simpa using this
  have p0 : W.cell? ⟨w.heap.size, 0, none⟩ = some (.string x0) := cell_of_blk hx rfl
  have p1 : W.cell? ⟨w.heap.size, 1, none⟩ = some (.string x1) := cell_of_blk hx rfl
  have p3 : W.cell? ⟨w.heap.size, 3, none⟩ = some (.int .i64 x3) := cell_of_blk hx rfl
  have p6 : W.cell? ⟨w.heap.size, 6, none⟩ = some (.int .i64 x6) := cell_of_blk hx rfl
  have q0 : W.cell? ⟨w.heap.size + 1, 0, none⟩ = some (.string y0) := cell_of_blk hy rfl
  have q1 : W.cell? ⟨w.heap.size + 1, 1, none⟩ = some (.string y1) := cell_of_blk hy rfl
  have q3 : W.cell? ⟨w.heap.size + 1, 3, none⟩ = some (.int .i64 y3) := cell_of_blk hy rfl
  have q6 : W.cell? ⟨w.heap.size + 1, 6, none⟩ = some (.int .i64 y6) := cell_of_blk hy rfl
  have HG := Lib.hid hG
  clear hW hx hy hG
  refine wp_region_still_tail 26 (by kernel_rfl) (by kernel_rfl) ?_
  simp only [List.take_succ_cons, List.take_zero, List.drop_succ_cons, List.drop_zero]
  change wpStill _ _ W.drew _ _ _
  repeat still_step
  still_call (flip_ (HL.out _))
  repeat still_step
  still_call (flip_ (HC.out _))
  repeat still_step
  still_call (flip_ (HD.out _))
  repeat still_step
  still_call (flip_ (HR.out _))
  try refine wpStill_nil ?_
  have hsz' : W.drew.heap.size = W.heap.size := rfl
  go_wp2_with (fail)
  have hcs : Cells (W.alloc (.cells #[.int .i64 r0, .int .i64 r1, .int .i64 r2, .int .i64 r3] 3)).drew W.heap.size 0 ([r0, r1, r2, r3].map (Value.int .i64)) := Cells.new W #[.int .i64 r0, .int .i64 r1, .int .i64 r2, .int .i64 r3] 3 (0, 0) _ rfl
  refine (or_any [r0, r1, r2, r3] 4 4 W.heap.size _ rfl (by omega) hcs).mono ?_
  rintro e w' ⟨rfl, rfl⟩
  go_wp2_with (fail)
  go_ret
  refine ⟨rfl, 1, #[.cells #[.string x0, .string x1, .int .i64 x2, .int .i64 x3, .int .i64 x4, .int .i64 x5, .int .i64 x6, .int .i64 x7] 124, .cells #[.string y0, .string y1, .int .i64 y2, .int .i64 y3, .int .i64 y4, .int .i64 y5, .int .i64 y6, .int .i64 y7] 124] ++ #[.cells #[.int .i64 r0, .int .i64 r1, .int .i64 r2, .int .i64 r3] 3], ?_⟩
  rw [HG.out, alloc_eq_grow, grow_grow]
  rfl
theorem bitsLenH (n : Nat) (W : World) (h : n ≤ 12) : Calls Tryz.prog (laySh_ren.f 15) #[.int .u64 n] W fun e w' => (∃ l : Int, e = .returned (.int .i64 l)) ∧ w' = W :=
  (Any.bits_Len (SlLaysF0.n15.bits (P := Tryz.prog) (ρ := laySh_ren) { laySh with }) n W (by omega) (by omega)).mono fun _ _ ⟨he, hw⟩ => ⟨⟨_, he⟩, hw⟩
theorem insH_none (p : Option Addr) (cap : Nat) (fv : Value) (w : World) : Calls Tryz.prog 149 #[.slice p 0 cap, .int .i64 0, .int .i64 0, fv] w fun e w' => e = .returned (.tuple #[]) ∧ w' = w := by
  go_enter Tryz.func149, Tryz.ntmps149
  go_wp2_with (fail)
  refine wp_loop_rounds 1 ?_
  rw [rounds_succ]
  go_wp2_with (fail)
  go_end0
  exact ⟨rfl, rfl⟩
theorem pdqH_none (p : Option Addr) (cap : Nat) (lim : Int) (fv : Value) (w : World) : Calls Tryz.prog 99 #[.slice p 0 cap, .int .i64 0, .int .i64 0, .int .i64 lim, fv] w fun e w' => e = .returned (.tuple #[]) ∧ w' = w := by
  go_enter Tryz.func99, Tryz.ntmps99
  go_wp2_with (fail)
  refine wp_loop_rounds 1 ?_
  rw [rounds_succ]
  go_wp2_with (go_at_call 149; refine (insH_none _ _ _ _).mono ?_; rintro e w' ⟨rfl, rfl⟩)
  (try simp only [Exit.inBlock, Exit.then]); refine bodyPost_ret (results_none rfl _ _ _) rfl ?_
  exact ⟨rfl, rfl⟩
theorem sortH_none (p : Option Addr) (cap : Nat) (fv : Value) (w : World) : Calls Tryz.prog 54 #[.slice p 0 cap, fv] w fun e w' => e = .returned (.tuple #[]) ∧ w' = w := by
  have hl := fun W => bitsLenH 0 W (by omega)
  change ∀ W, Calls Tryz.prog 91 _ W _ at hl
  go_enter Tryz.func54, Tryz.ntmps54
  go_wp2_with (first | (go_at_call 91; refine (hl _).mono ?_; rintro e w' ⟨⟨l, rfl⟩, rfl⟩) | (go_at_call 99; refine (pdqH_none _ _ _ _ _).mono ?_; rintro e w' ⟨rfl, rfl⟩))
  go_end0
  exact ⟨rfl, rfl⟩
def SortHPost (l : List Sh) (n base : Nat) (v : Value) (w : World) (e : Ending) (w' : World) : Prop :=
  e = .returned (.tuple #[]) ∧ ∃ m : List Sh, m.Perm l ∧ m.length = n ∧ w'.ownsRow base 124 8 v n (recs shC m) ∧ w.grownBy w' v.ownBlock
theorem sortH_any (l : List Sh) (n c base : Nat) (A : Option Addr) (w : World) (hn : l.length = n) (h12 : n ≤ 100000) (ho : w.ownsRow base 124 8 (.slice A n c) n (recs shC l)) :
    Calls Tryz.prog 54 #[.slice A n c, .func (.func 55) #[] #[]] w fun e w' => SortHPost l n base (.slice A n c) w e w' := by
  rcases own_two ho with ⟨rfl, rfl, rfl⟩ | ⟨b, rfl, hb, hlt⟩
  · refine (sortH_none none 0 _ w).mono ?_
    rintro e w' ⟨rfl, rfl⟩
    have hl := List.eq_nil_of_length_eq_zero hn
    subst hl
    exact ⟨rfl, [], List.Perm.refl _, rfl, ho, grown_refl _ _⟩
  · have eg : ∀ args w, (callFunc 55 args).run Tryz.prog w = .ok (.enter 55 args) w := enters_of Tryz.func55 (by kernel_rfl) rfl
    have hcmp : CmpLays Tryz.prog 55 #[] shC 8 cfH b 0 l.toArray.size w := fun m os dk _ x y => orderH_grow x y _
    have h := AnyQ.slices_SortFunc laySh 8 Tryz.isAgg124 Tryz.sizeOf124 shC shC_len shC_one cfH swoH 55 #[] b 0 c l.toArray w eg hcmp (holdsK_of_own shC_len ho hn) hlt (by simp [hn]; omega)
    have hsz : l.toArray.size = n := by simpa using hn
    rw [hsz] at h
    refine h.mono ?_
    rintro e w' ⟨rfl, d', q, os, hp, hs, rfl⟩
    rw [← hsz] at hp hs
    obtain ⟨h1, h2, h3⟩ := sorted_list hp hs
    obtain ⟨m, rfl⟩ : ∃ m : List Sh, d' = m.toArray := ⟨d'.toList, by simp⟩
    exact ⟨rfl, m, by simpa using h1, by simpa [hn] using h2, own_sortedK shC_len ho (by simpa [hn] using h2) q os, grown_sortedK _⟩
end Go.Proofs.YtgdnedhcbjonkaaGreatDoor

/- alarm.CauseOf and Show by their contracts. -/
namespace Go.Proofs.YtgdnedhcbjonkaaGreatDoor
open Go.RowKit Go.Maps Go.WideMaps

theorem cuR_some {L : List Lk} (hL : LksOk L) {cs : Nat → Bool} {d q : Nat} (h : cuR L cs d = some q) : q = 2 ∨ q = 4 := by
  unfold cuR at h
  cases hp : prD L d with
  | none => rw [hp] at h; cases h
  | some p =>
    rw [hp] at h
    have h1 := (prD_some hL hp).2.1
    simp only at h
    split at h
    · cases h; exact h1
    · cases hq : prD L p with
      | none => rw [hq] at h; cases h
      | some r =>
        rw [hq] at h
        have h2 := (prD_some hL hq).2.1
        simp only at h
        split at h
        · cases h; exact h2
        · cases h
theorem opT_empty {o : Option Nat} (h : ∀ q, o = some q → q = 2 ∨ q = 4) : (opT o).toList.isEmpty = o.isNone := by
  cases o with
  | none =>
    show (⟨#[]⟩ : ByteArray).toList.isEmpty = true
    decide +kernel
  | some q =>
    rcases h q rfl with rfl | rfl
    · show (⟨#[100, 103]⟩ : ByteArray).toList.isEmpty = false
      decide +kernel
    · show (⟨#[100, 104]⟩ : ByteArray).toList.isEmpty = false
      decide +kernel
structure BoArg (fm fw fc : Int) (L : List Lk) (G : List Gr) (LA GA : Option Addr) (ln gn : Nat) (w : World) : Prop where
  okF : FlOk fm fw fc
  okL : LksOk L
  okG : GrsOk G
  hl : L.length = ln
  hg : G.length = gn
  l4 : ln ≤ 4
  g2 : gn ≤ 2
  lr : Row w w.heap.size LA (recs lkC L)
  gr : Row w w.heap.size GA (recs grC G)
theorem BoArg.below {fm fw fc : Int} {L : List Lk} {G : List Gr} {LA GA : Option Addr} {ln gn : Nat} {w V : World} (h : BoArg fm fw fc L G LA GA ln gn w) (hV : Below w.heap.size w V) : BoArg fm fw fc L G LA GA ln gn V :=
  ⟨h.okF, h.okL, h.okG, h.hl, h.hg, h.l4, h.g2, (h.lr.below hV).mono hV.size, (h.gr.below hV).mono hV.size⟩
structure SgArg (l : List Sg) (n : Nat) (A : Option Addr) (w : World) : Prop where
  ok : SgsOk l
  hn : l.length = n
  n2 : n ≤ 1000
  r : Row w w.heap.size A (recs sgC l)
theorem SgArg.below {l : List Sg} {n : Nat} {A : Option Addr} {w V : World} (h : SgArg l n A w) (hV : Below w.heap.size w V) : SgArg l n A V := ⟨h.ok, h.hn, h.n2, (h.r.below hV).mono hV.size⟩
/-- The nearest device above one that causes its alarms. -/
def cauO (fm fw fc : Int) (L : List Lk) (G : List Gr) (l : List Sg) (t : Int) (d : Nat) : Option Nat := cuR L (csL G (liveL fm fw fc l t)) d
def CauP (R : Option Nat) (w : World) (e : Ending) (w' : World) : Prop := e = .returned (.tuple #[.string (opT R), .bool R.isSome, .int .i64 0]) ∧ Below w.heap.size w w'
end Go.Proofs.YtgdnedhcbjonkaaGreatDoor

/- alarm.Show by its contract. -/
namespace Go.Proofs.YtgdnedhcbjonkaaGreatDoor
open Go.RowKit Go.Maps Go.WideMaps

theorem Tryz.infoSh : (Tryz.prog.info? 124).map (fun i => (i.zero, i.size, i.bytes)) = some (some (.agg #[.string ⟨#[]⟩, .string ⟨#[]⟩, .int .i64 0, .int .i64 0, .int .i64 0, .int .i64 0, .int .i64 0, .int .i64 0]), 8, 80) := by kernel_rfl
def shwL (fm fw fc : Int) (L : List Lk) (G : List Gr) (l : List Sg) (t : Int) : List Am := (liveL fm fw fc l t).filter fun a => (cauO fm fw fc L G l t a.d).isNone
def ShowP (R : List Am) (w : World) (e : Ending) (w' : World) : Prop := ∃ A c n Q, e = .returned (.tuple #[.slice A n c, .int .i64 0]) ∧ Q.length = n ∧ n ≤ 6 ∧ w'.ownsRow w.heap.size 124 8 (.slice A n c) n (recs shC Q) ∧ (Q.map (·.a)).Perm R ∧ Below w.heap.size w w'
theorem ams_nm {l : List Sg} {t : Int} {a : Am} (h : a ∈ amsL l t) : a.d < 3 ∧ a.r < 2 := by
  unfold amsL at h
  obtain ⟨n, hn, rfl⟩ := List.mem_map.1 (List.mem_filter.1 h).1
  have h1 := lifeAt_name l t n
  show (lifeAt l t n).d < 3 ∧ (lifeAt l t n).r < 2
  rw [h1.1, h1.2]
  have : ∀ n ∈ al6, n.1 < 3 ∧ n.2 < 2 := by decide
  exact this n hn
theorem live_len (fm fw fc : Int) (l : List Sg) (t : Int) : (liveL fm fw fc l t).length ≤ 6 := by
  unfold liveL amsL
  refine Nat.le_trans (List.length_filter_le _ _) (Nat.le_trans (List.length_filter_le _ _) ?_)
  rw [List.length_map]
  decide
/-- A map of numbers. -/
def NuV (K : SmL) : Prop := ∀ k v, smG k K = some v → ∃ z : Int, v = .int .i64 z
theorem NuV.nil : NuV [] := fun k v h => by cases h
theorem NuV.upd {K : SmL} (h : NuV K) (k : ByteArray) (z : Int) : NuV (smU k (.int .i64 z) K) := fun q v hv => by
  rw [smG_U] at hv
  split at hv
  · cases hv; exact ⟨z, rfl⟩
  · exact h q v hv
theorem nu_look {K : SmL} (h : NuV K) {m : Nat} {w : World} (hm : SmI w m K) (k : ByteArray) (hk : k.size ≤ maxLen) :
    ∃ z : Int, (Instr.lookup 115 (.map (some m)) (.string k) false).run Tryz.prog w = .ok (.int .i64 z) w := by
  have hl := look_sm (P := Tryz.prog) (z := .int .i64 0) Tryz.underlying115 Tryz.underlying9 (by kernel_rfl) hk hm
  cases hg : smG k K with
  | none => rw [hg] at hl; exact ⟨0, hl⟩
  | some v =>
    obtain ⟨z, rfl⟩ := h k v hg
    rw [hg] at hl
    exact ⟨z, hl⟩
/-- Between two rounds. -/
structure ShR (w7 w : World) (mb : Nat) (v : Value) (n : Nat) (Q : List Sh) (K : SmL) : Prop where
  m : SmI w mb K
  nu : NuV K
  row : w.ownsRow w7.heap.size 124 8 v n (recs shC Q)
  gr : GrF w7 w (fun b => b = mb)
theorem ShR.below {w7 w w' : World} {mb : Nat} {v : Value} {n : Nat} {Q : List Sh} {K : SmL} (h : ShR w7 w mb v n Q K) (hb : Below w.heap.size w w') : ShR w7 w' mb v n Q K :=
  ⟨h.m.below hb, h.nu, own_belowP h.row hb, h.gr.trans ⟨hb.os, hb.tape, hb.output, hb.size, fun b hb' _ => hb.block b hb'⟩⟩
theorem filter_snocQ {α : Type} (E : List α) (P : α → Bool) {i : Nat} {p : α} (h : E[i]? = some p) : (E.take (i + 1)).filter P = (E.take i).filter P ++ (if P p then [p] else []) := by
  have := filter_snocL E id P h
  simpa using this
set_option maxRecDepth 100000 in
set_option maxHeartbeats 8000000 in
theorem show_any (fm fw fc : Int) (L : List Lk) (G : List Gr) (LA GA : Option Addr) (ln lc gn gc : Nat) (l : List Sg) (n c : Nat) (A : Option Addr) (t : Int) (w : World)
    (hB : BoArg fm fw fc L G LA GA ln gn w) (hS : SgArg l n A w) (ht0 : 0 ≤ t) (ht1 : t < 345686400000) :
    Calls Tryz.prog 13 #[.agg #[.int .i64 fm, .int .i64 fw, .int .i64 fc, .slice LA ln lc, .slice GA gn gc], .slice A n c, .int .i64 t] w fun e w' => ShowP (shwL fm fw fc L G l t) w e w' := by
  obtain ⟨i0, hi0, hz0, hz1, hz2⟩ := info_parts Tryz.infoSh
  have hmm := @run_makeMap Tryz.prog
  obtain ⟨g0, eg0⟩ : ∃ g, g = w.heap.size := ⟨_, rfl⟩
  obtain ⟨w0, e0⟩ : ∃ V : World, V = w.alloc (.cells #[.int .i64 fm, .int .i64 fw, .int .i64 fc, .slice LA ln lc, .slice GA gn gc] 33) := ⟨_, rfl⟩
  have hb0 : Below w.heap.size w w0 := by rw [e0]; exact (Below.refl _ _).alloc (Nat.le_refl _) _
  have hg0 : w0.heap[g0]? = some (.cells #[.int .i64 fm, .int .i64 fw, .int .i64 fc, .slice LA ln lc, .slice GA gn gc] 33 (0, 0)) := by rw [e0, eg0]; exact heap_new w _
  have hlt0 := (Array.getElem?_eq_some_iff.1 hg0).1
  have HKB := Lib.hid (fun (V : World) (hV : Below w0.heap.size w0 V) => And.intro (box5 ((hV.block g0 hlt0).trans hg0)) (Nat.lt_of_lt_of_le hlt0 hV.size))
  have HB0 := Lib.hid hb0
  have HCB := Lib.hid (fun (V : World) (hV : Below w.heap.size w V) => have h := hB.below hV; checkBoard_any fm fw fc L G LA GA ln lc gn gc V h.okF h.okL h.okG h.hl h.hg h.l4 h.g2 h.lr h.gr)
  have HCS := Lib.hid (fun (V : World) (hV : Below w.heap.size w V) => have h := hS.below hV; checkSignals_any l n c A V h.ok h.hn h.n2 h.r)
  have HNS := Lib.hid (fun (V : World) (hV : Below w.heap.size w V) => have h := hB.below hV; have k := hS.below hV; newScene_any fm fw fc L G LA GA ln lc gn gc l n c A t V h.okF h.okL h.okG h.hl h.hg h.l4 h.g2 h.lr h.gr k.ok k.hn k.n2 k.r ht0 ht1)
  have HFI := Lib.hid (fun (V : World) => first_ok 2 2 V.heap.size (V.alloc (.cells #[.int .i64 0, .int .i64 0] 39)) (by omega) (Cells.new V _ _ _ _ rfl))
  have HL := Lib.hid (And.intro hB.okL hB.okG)
  have HT := Lib.hid (And.intro ht0 ht1)
  have hm6 := live_len fm fw fc l t
  have HNM := Lib.hid (fun (a : Am) (ha : a ∈ liveL fm fw fc l t) => ams_nm (t := t) (l := l) (List.mem_filter.1 ha).1)
  obtain ⟨V, eV⟩ : ∃ V, V = liveL fm fw fc l t := ⟨_, rfl⟩
  obtain ⟨P, eP⟩ : ∃ P : Am → Bool, P = fun a => (cauO fm fw fc L G l t a.d).isNone := ⟨_, rfl⟩
  obtain ⟨R, eR⟩ : ∃ R, R = shwL fm fw fc L G l t := ⟨_, rfl⟩
  have HR := Lib.hid (show R = V.filter P from by rw [eR, eV, eP]; rfl)
  rw [← eR]
  rw [← eV] at hm6 HNM
  have HV := Lib.hid eV
  have HP := Lib.hid (show ∀ a, P a = (cuR L (csL G V) a.d).isNone from fun a => by rw [eP, eV]; rfl)
  obtain ⟨vn, evn⟩ : ∃ m, m = V.length := ⟨_, rfl⟩
  rw [← evn] at hm6
  have HVN := Lib.hid evn.symm
  clear hB hS hb0 hg0 ht0 ht1 eR eP eV evn
  go_enter Tryz.func13, Tryz.ntmps13
  go_upto_region 1 with (fail)
  rw [← eg0, ← e0]
  have hwg0 : w.heap.size ≤ g0 := by omega
  clear eg0 e0
  obtain ⟨⟨k0, k1, k2, k3, k4⟩, kl⟩ := HKB.out w0 (Below.refl _ _)
  go_wp2_with (fail)
  refine (HCB.out w0 HB0.out).mono ?_
  rintro e w1 ⟨rfl, hb1⟩
  have HB1 := Lib.hid (And.intro hb1 (HB0.out.trans (hb1.mono HB0.out.size)))
  clear hb1 k0 k1 k2 k3 k4 kl
  go_wp2_with (fail)
  refine (HCS.out w1 HB1.out.2).mono ?_
  rintro e w2 ⟨rfl, hb2⟩
  have HB2 := Lib.hid (And.intro (HB1.out.1.trans (hb2.mono HB1.out.1.size)) (HB1.out.2.trans (hb2.mono HB1.out.2.size)))
  clear hb2
  go_wp2_with (fail)
  refine (HFI.out w2).mono ?_
  rintro e w3 ⟨rfl, hw3⟩
  have hb3 : Below w2.heap.size w2 w3 := by rw [← hw3]; exact (Below.refl _ _).alloc (Nat.le_refl _) _
  have HB3 := Lib.hid (And.intro (HB2.out.1.trans (hb3.mono HB2.out.1.size)) (HB2.out.2.trans (hb3.mono HB2.out.2.size)))
  clear hb3 hw3
  go_wp2_with (fail)
  refine (moment_yes _ _ HT.out.1 HT.out.2).mono ?_
  rintro e w4 ⟨rfl, hw4⟩
  rw [← hw4]
  clear hw4 w4
  obtain ⟨⟨k0, k1, k2, k3, k4⟩, kl⟩ := HKB.out w3 HB3.out.1
  go_wp2_with (fail)
  refine (HNS.out w3 HB3.out.2).mono ?_
  rintro e w5 ⟨sb, mg, ma, mc, vl, Kc, rfl, hI, hb5⟩
  rw [← HV.out] at hI
  have HB5 := Lib.hid (HB3.out.2.trans (hb5.mono HB3.out.2.size))
  have hs35 := hb5.size
  obtain ⟨XV, vc, rfl⟩ := own_slice hI.row
  have HI := Lib.hid (show ScI w5 w3.heap.size sb mg ma mc (.slice XV vn vc) L G V Kc from by rw [← HVN.out]; exact hI)
  have hsbl : sb < w5.heap.size := (Array.getElem?_eq_some_iff.1 hI.blk).1
  clear hI hb5 k0 k1 k2 k3 k4 kl
  go_upto_region 8 with (fail)
  obtain ⟨mb, emb⟩ : ∃ g, g = w5.heap.size := ⟨_, rfl⟩
  obtain ⟨w7, e7⟩ : ∃ V : World, V = w5.alloc (.map #[] 0) := ⟨_, rfl⟩
  rw [← emb, ← e7]
  have hb7 : Below w5.heap.size w5 w7 := by rw [e7]; exact (Below.refl _ _).alloc (Nat.le_refl _) _
  have hm7 : SmI w7 mb [] := by rw [e7, emb]; exact heap_new w5 _
  have HB7 := Lib.hid (HB5.out.trans (hb7.mono HB5.out.size))
  have HK7 := Lib.hid (fun (T : World) (hT : GrF w7 T (fun b => b = mb)) (b : Nat) (hb : b < w5.heap.size) => show T.heap[b]? = w5.heap[b]? from (hT.block b (Nat.lt_of_lt_of_le hb hb7.size) (by omega)).trans (hb7.block b hb))
  have hs7 := hb7.size
  have hmb7 := hm7.lt
  have hmb5 : w5.heap.size ≤ mb := by omega
  have HM7 := Lib.hid hm7
  -- the scene stays
  have HSC := Lib.hid (fun (T : World) (hT : GrF w7 T (fun b => b = mb)) => show T.heap[sb]? = some (scBk mg ma mc (.slice XV vn vc)) ∧ SmI T mg (G.map grP) ∧ SmI T ma (L.map lkP) ∧ SmI T mc Kc ∧ T.ownsRow w3.heap.size 99 6 (.slice XV vn vc) vn (recs amC V) from
    ⟨(HK7.out T hT sb hsbl).trans HI.out.blk, HI.out.g.keep (HK7.out T hT mg HI.out.g.lt), HI.out.a.keep (HK7.out T hT ma HI.out.a.lt), HI.out.c.keep (HK7.out T hT mc HI.out.c.lt), by
      have h := HI.out.row
      rw [HVN.out] at h
      exact own_keptB h (fun b hb => HK7.out T hT b (h.lt b hb).2)⟩)
  clear emb e7 hb7 hm7
  have hc2 := cell_of_blk (j := 2) (HSC.out w7 (GrF.refl _ _)).1 rfl
  have hsb7 : sb < w7.heap.size := by omega
  go_wp2_with (fail)
  clear hc2
  go_loopw [11, 39] (fun v s wr => ∃ (i : Nat) (Q : List Sh) (K : SmL), i ≤ vn ∧ s = .int .i64 (i : Int) ∧ Q.map (·.a) = (V.take i).filter P ∧ ShR w7 wr mb v Q.length Q K) (fun _ s _ => vn - (intOf s).toNat)
  case atStart => exact ⟨0, [], [], by omega, rfl, rfl, ⟨HM7.out, NuV.nil, World.ownsRow_nil _ _ _ _, GrF.refl _ _⟩⟩
  case round =>
    obtain ⟨i, Q, K, hin, rfl, hQ, hR⟩ := hrel
    obtain ⟨XQ, qc, rfl⟩ := own_slice hR.row
    obtain ⟨qn, eqn⟩ : ∃ m, m = Q.length := ⟨_, rfl⟩
    rw [← eqn] at hR ⊢
    have hqn : qn ≤ i := by
      have h1 := congrArg List.length hQ
      rw [List.length_map, ← eqn] at h1
      have h2 := List.length_filter_le P (V.take i)
      rw [List.length_take] at h2
      omega
    have HRR := Lib.hid hR
    have HQ := Lib.hid (And.intro hQ eqn)
    have hbs := hR.gr.size
    obtain ⟨hsb, hmg, hma, hmc, hrow⟩ := HSC.out wr hR.gr
    clear hR hQ eqn
    by_cases hlt : i < vn
    · have hltI : (i : Int) < vn := by omega
      obtain ⟨a, ha⟩ : ∃ a, V[i]? = some a := ⟨_, List.getElem?_eq_getElem (by have := HVN.out; omega)⟩
      obtain ⟨had, har⟩ := HNM.out a (List.mem_of_getElem? ha)
      obtain ⟨g, rfl, hgl⟩ : ∃ g, XV = some ⟨g, 0, none⟩ ∧ g < wr.heap.size := by
        rcases own_two hrow with ⟨_, h0, _⟩ | ⟨g, h1, _, h3⟩
        · omega
        · exact ⟨g, h1, h3⟩
      have hcu := own_cells0 hrow
      obtain ⟨c0, c1, c2, c3, c4, c5⟩ := am_cells hcu i a ha
      simp only [Nat.zero_add] at c0 c1 c2 c3 c4 c5
      have HSN := Lib.hid (filter_snocQ V P ha)
      clear ha hcu hrow
      go_upto_region 12 with (fail)
      obtain ⟨ga, ega⟩ : ∃ g, g = wr.heap.size := ⟨_, rfl⟩
      obtain ⟨w8, e8⟩ : ∃ T : World, T = wr.alloc (.cells #[.string (aldT a.d), .string (alrT a.r), .int .i64 a.st, .int .i64 a.si, .int .i64 a.n, .int .i64 a.sh] 99) := ⟨_, rfl⟩
      rw [← ega, ← e8]
      have hb8 : Below wr.heap.size wr w8 := by rw [e8]; exact (Below.refl _ _).alloc (Nat.le_refl _) _
      have hg8 : w8.heap[ga]? = some (.cells #[.string (aldT a.d), .string (alrT a.r), .int .i64 a.st, .int .i64 a.si, .int .i64 a.n, .int .i64 a.sh] 99 (0, 0)) := by rw [e8, ega]; exact heap_new wr _
      have hlt8 := (Array.getElem?_eq_some_iff.1 hg8).1
      have hs8 := hb8.size
      have HR8 := Lib.hid (HRR.out.below hb8)
      obtain ⟨q0, q1, q2, q3, q4, q5⟩ := box6 hg8
      clear ega e8 hb8 hg8 c0 c1 c2 c3 c4 c5 hsb hmg hma hmc
      obtain ⟨hsb, hmg, hma, hmc, _⟩ := HSC.out w8 HR8.out.gr
      have hbd := bd_ald a.d had
      have hsb8 : sb < w8.heap.size := by omega
      have HCA := Lib.hid (cause_any L Kc (csL G V) a.d sb ma mc w8 HL.out.1 (by omega) (cell_of_blk (j := 1) hsb rfl) (cell_of_blk (j := 3) hsb rfl) hma hmc HI.out.k hsb8)
      rw [← hbd] at HCA
      obtain ⟨O, eO⟩ : ∃ O, O = cuR L (csL G V) a.d := ⟨_, rfl⟩
      rw [← eO] at HCA
      have HO := Lib.hid (show (∀ q, O = some q → q = 2 ∨ q = 4) ∧ P a = O.isNone from ⟨fun q hq => cuR_some HL.out.1 (eO.symm.trans hq), by rw [HP.out a, eO]⟩)
      have h80 := cell_of_blk (j := 0) hsb rfl
      have HMG8 := Lib.hid hmg
      clear eO hsb hmg hma hmc hbd
      go_wp2_with (fail)
      refine HCA.out.mono ?_
      rintro e w9 ⟨rfl, hw9⟩
      rw [← hw9]
      clear hw9 w9
      obtain ⟨T, eT⟩ : ∃ T, T = opT O := ⟨_, rfl⟩
      have hem := opT_empty HO.out.1
      rw [← eT] at hem ⊢
      cases O with
      | some q =>
        have hT : T.toList.isEmpty = false := hem
        have hTs : T.size ≤ maxLen := by rw [eT]; exact bd_le q
        have HPA := Lib.hid (show (V.take (i + 1)).filter P = (V.take i).filter P from by rw [HSN.out, HO.out.2]; simp)
        obtain ⟨z, hlk⟩ := nu_look HR8.out.nu HR8.out.m T hTs
        have hup := upd_sm (P := Tryz.prog) (v := .int .i64 (IntKind.i64.wrap (z + 1))) Tryz.underlying115 Tryz.underlying9 hTs HR8.out.m
        obtain ⟨K2, eK2⟩ : ∃ k, k = smU T (.int .i64 (IntKind.i64.wrap (z + 1))) K := ⟨_, rfl⟩
        rw [← eK2] at hup
        obtain ⟨w9, e9⟩ : ∃ X : World, X = { w8 with heap := w8.heap.setIfInBounds mb (.map (smE 0 K2).toArray K2.length) } := ⟨_, rfl⟩
        rw [← e9] at hup
        obtain ⟨zz, ezz⟩ : ∃ zz, zz = IntKind.i64.wrap (z + 1) := ⟨_, rfl⟩
        have hzz : IntKind.i64.wrap (z + 1) = zz := ezz.symm
        rw [hzz] at hup
        have HRn := Lib.hid (show ShR w7 w9 mb (.slice XQ qn qc) qn Q K2 from by
          rw [e9]
          refine ⟨by rw [eK2]; exact HR8.out.m.upd, by rw [eK2]; exact HR8.out.nu.upd _ _, own_keptB HR8.out.row (fun b hb => map_other _ (fun e => by have := (HR8.out.row.lt b hb).1; omega)), grF_map HR8.out.gr rfl _⟩)
        clear hem eT eK2 e9 ezz
        go_wp2_with (fail)
        go_roundw
        case rel => exact ⟨i + 1, Q, K2, by omega, by go_num, by rw [HPA.out]; exact HQ.out.1, by rw [← HQ.out.2]; exact HRn.out⟩
        case measure => simp [intOf]; omega
      | none =>
        have hT : T.toList.isEmpty = true := hem
        have HPA := Lib.hid (show (V.take (i + 1)).filter P = (V.take i).filter P ++ [a] from by rw [HSN.out, HO.out.2]; simp)
        obtain ⟨lv, elv⟩ : ∃ r, r = lvG G a.r := ⟨_, rfl⟩
        obtain ⟨ca, eca⟩ : ∃ r, r = caG G a.r := ⟨_, rfl⟩
        obtain ⟨nm, enm⟩ : ∃ r, r = nmG G a.r := ⟨_, rfl⟩
        have hlk : (Instr.lookup 116 (.map (some mg)) (.string (alrT a.r)) false).run Tryz.prog w8.drew = .ok (.agg #[.string nm, .int .i64 lv, .bool ca]) w8.drew := by
          rw [elv, eca, enm]
          exact gr_look (fun x hx => (HL.out.2.each x hx).1) (w := w8.drew) HMG8.out a.r har
        have hfld : (Instr.field 70 (.agg #[.string nm, .int .i64 lv, .bool ca]) 1).run Tryz.prog w8.drew = .ok (.int .i64 lv) w8.drew := by rfl
        clear hem eT elv eca enm
        go_upto_region 15 with (fail)
        go_region_law (first | (refine step_append_row rfl (.tmp 53) (.tmp 65) 48 rfl w7.heap.size 124 i0 _ 8 80 Tryz.underlying48 hi0 hz0 hz1 hz2 rfl (by decide) (.slice XQ qn qc) qn (recs shC Q) (by first | rfl | simp [Act.eval]) (HR8.out.row.alloc _) ⟨w8.heap.size, 0, none⟩ 1 1 (shC ⟨a, max 1 lv, 0⟩) (by first | rfl | simp [Act.eval]) rfl (cells_add (Cells.new _ _ _ _ _ rfl)) (shC_one _) (by unfold maxLen; omega) (by omega) (by simp; omega) ?_; intro v9 w9 ho9 hg9))
        all_goals
          have hlo : ∀ b, (Value.slice XQ qn qc).ownBlock = some b → w7.heap.size ≤ b := fun b hb => (HR8.out.row.lt b hb).1
          rw [← recs_snoc] at ho9
          have hne9 := (Lib.hid hg9).out
          have HRn := Lib.hid (show ShR w7 w9 mb v9 (qn + 1) (Q ++ [⟨a, max 1 lv, 0⟩]) K from by
            have hga : w8.grownBy w9 (Value.slice XQ qn qc).ownBlock := grown_of_alloc (o := .cells #[.string (aldT a.d), .string (alrT a.r), .int .i64 a.st, .int .i64 a.si, .int .i64 a.n, .int .i64 a.sh, .int .i64 (max 1 lv), .int .i64 0] 124) ⟨hg9.os, hg9.tape, hg9.output, hg9.size, hg9.block⟩
            refine ⟨HR8.out.m.keep ((hga.block mb HR8.out.m.lt (fun e => by have := hlo mb e.symm; omega))), HR8.out.nu, ho9, (HR8.out.gr.mono (q := fun b => b = mb ∨ w7.heap.size ≤ b) (fun b _ h => .inl h)).trans (GrF.of_grown hga _ (fun b e => .inr (hlo b e))) |>.mono (fun b hb h => by rcases h with h | h; exact h; omega)⟩)
          clear ho9 hg9 hlo hne9
          go_wp2_with (fail)
          try simp only [Act.put, List.getElem_toArray, List.getElem_cons_zero, List.getElem_cons_succ, List.setIfInBounds_toArray, List.set_cons_zero, List.set_cons_succ]
          go_roundw
          case rel => exact ⟨i + 1, Q ++ [⟨a, max 1 lv, 0⟩], K, by omega, by go_num, by rw [List.map_append, HQ.out.1, HPA.out]; rfl, by rw [List.length_append, ← HQ.out.2]; exact HRn.out⟩
          case measure => simp [intOf]; omega
    · have hltI : ¬ (i : Int) < vn := by omega
      have hin' : i = vn := by omega
      have HQF := Lib.hid (show Q.map (·.a) = R from by rw [HQ.out.1, hin', ← HVN.out, List.take_length, HR.out])
      obtain ⟨w8, ew8⟩ : ∃ T : World, T = wr := ⟨_, rfl⟩
      rw [← ew8] at HRR hbs ⊢
      clear ew8 hsb hmg hma hmc hrow hin
      go_wp2_with (fail)
      go_loopw [70] (fun s wx => ∃ (j : Nat) (Q' : List Sh), j ≤ qn ∧ s = .int .i64 (j : Int) ∧ Q'.map (·.a) = Q.map (·.a) ∧ ShR w7 wx mb (.slice XQ qn qc) qn Q' K) (fun s _ => qn - (intOf s).toNat)
      case atStart => exact ⟨0, Q, by omega, rfl, rfl, HRR.out⟩
      case round =>
        obtain ⟨j, Q', hj, rfl, hQ', hR⟩ := hrel
        have HRx := Lib.hid hR
        have HQ' := Lib.hid hQ'
        have hbs := hR.gr.size
        clear hR hQ'
        have hQl : Q'.length = qn := by
          have h1 := congrArg List.length HQ'.out
          rw [List.length_map, List.length_map, ← HQ.out.2] at h1
          exact h1
        by_cases hjl : j < qn
        · have hjI : (j : Int) < qn := by omega
          obtain ⟨y, hy⟩ : ∃ y, Q'[j]? = some y := ⟨_, List.getElem?_eq_getElem (by omega)⟩
          obtain ⟨hyd, hyr⟩ : y.a.d < 3 ∧ y.a.r < 2 := by
            refine HNM.out y.a ?_
            have h1 : y.a ∈ Q.map (·.a) := by rw [← HQ'.out]; exact List.mem_map.2 ⟨y, List.mem_of_getElem? hy, rfl⟩
            rw [HQF.out, HR.out] at h1
            exact (List.mem_filter.1 h1).1
          obtain ⟨g, rfl, hgB, hgl⟩ : ∃ g, XQ = some ⟨g, 0, none⟩ ∧ w7.heap.size ≤ g ∧ g < wr.heap.size := by
            rcases own_two HRx.out.row with ⟨_, h0, _⟩ | ⟨g, h1, h2, h3⟩
            · omega
            · exact ⟨g, h1, h2, h3⟩
          have hcu := own_cells0 HRx.out.row
          have c0 := rec_cell shC_len hcu j y hy 0 _ rfl
          have c1 := rec_cell shC_len hcu j y hy 1 _ rfl
          have c2 := rec_cell shC_len hcu j y hy 2 _ rfl
          have c3 := rec_cell shC_len hcu j y hy 3 _ rfl
          have c4 := rec_cell shC_len hcu j y hy 4 _ rfl
          have c5 := rec_cell shC_len hcu j y hy 5 _ rfl
          simp only [Nat.zero_add, Nat.add_zero] at c0 c1 c2 c3 c4 c5
          obtain ⟨hsb, hmg, _, _, _⟩ := HSC.out wr HRx.out.gr
          have hsbr : sb < wr.heap.size := by omega
          have HLD := Lib.hid (leads_any G y.a sb mg wr (fun x hx => (HL.out.2.each x hx).1) hyr (cell_of_blk (j := 0) hsb rfl) hmg hsbr)
          obtain ⟨ld, eld⟩ : ∃ b, b = leadP G y.a := ⟨_, rfl⟩
          rw [← eld] at HLD
          have HY := Lib.hid hy
          clear hsb hmg eld hcu hy
          go_wp2_with (fail)
          refine HLD.out.mono ?_
          rintro e w9 ⟨rfl, hb9⟩
          have hs9 := hb9.size
          have HR9 := Lib.hid (HRx.out.below hb9)
          have c0' := (hb9.cell (p := ⟨g, j * 8, none⟩) hgl).trans c0
          have hgl9 : g < w9.heap.size := by omega
          clear hb9 c0 c1 c2 c3 c4 c5
          cases ld with
          | false =>
            go_wp2_with (fail)
            go_roundw
            case rel => exact ⟨j + 1, Q', by omega, by go_num, HQ'.out, HR9.out⟩
            case measure => simp [intOf]; omega
          | true =>
            have hTs : (aldT y.a.d).size ≤ maxLen := by rw [bd_ald _ hyd]; exact bd_le _
            obtain ⟨z, hlk⟩ := nu_look HR9.out.nu HR9.out.m (aldT y.a.d) hTs
            have fr : w9.frozen? ⟨g, j * 8 + 7, none⟩ = false := by
              obtain ⟨cs, hcs⟩ := own_blk HR9.out.row
              simp [World.frozen?, hcs]
            have c7' : w9.cell? ⟨g, j * 8 + 7, none⟩ = some (.int .i64 y.be) := by
              have := rec_cell shC_len (own_cells0 HR9.out.row) j y HY.out 7 _ rfl
              simpa using this
            have HRn := Lib.hid (show ShR w7 (w9.setCell ⟨g, j * 8 + 7, none⟩ (.int .i64 z)) mb (.slice (some ⟨g, 0, none⟩) qn qc) qn (Q'.set j { y with be := z }) K from by
              have hset : ∀ b, b ≠ g → (w9.setCell ⟨g, j * 8 + 7, none⟩ (.int .i64 z)).heap[b]? = w9.heap[b]? := fun b hb => Below.heap_setCell _ _ _ _ hb
              have hst := (HR9.out.row.stored (j * 8 + 7) (.int .i64 z)).1
              have e : Q'.set j y = Q' := by
                apply List.ext_getElem?
                intro k
                by_cases hk : j = k
                · subst hk
                  rw [List.getElem?_set_self (by omega), HY.out]
                · rw [List.getElem?_set_ne hk]
              have h2 := recs_cell shC_len Q' j 7 y { y with be := z } (.int .i64 z) (by omega) (by decide) rfl
              rw [e] at h2
              rw [h2] at hst
              exact ⟨HR9.out.m.keep (hset mb (by omega)), HR9.out.nu, hst, (HR9.out.gr.mono (q := fun b => b = mb ∨ w7.heap.size ≤ b) (fun b _ h => .inl h)).set (.inr hgB) _ |>.mono (fun b hb h => by rcases h with h | h; exact h; omega)⟩)
            have HMM := Lib.hid (show (Q'.set j { y with be := z }).map (·.a) = Q.map (·.a) from by
              rw [← HQ'.out]
              apply List.ext_getElem?
              intro k
              rw [List.getElem?_map, List.getElem?_map]
              by_cases hk : j = k
              · subst hk
                rw [List.getElem?_set_self (by omega), HY.out]
                rfl
              · rw [List.getElem?_set_ne hk])
            go_wp2_with (fail)
            go_roundw
            case rel => exact ⟨j + 1, _, by omega, by go_num, HMM.out, HRn.out⟩
            case measure => simp [intOf]; omega
        · have hjI : ¬ (j : Int) < qn := by omega
          have HSO := Lib.hid (sortH_any Q' qn qc w7.heap.size XQ wr hQl (by omega) HRx.out.row)
          go_wp2_with (fail)
          refine HSO.out.mono ?_
          rintro e w9 ⟨rfl, Q2, hp, hl2, ho, hg⟩
          have HFI2 := Lib.hid (show ShowP R w (.returned (.tuple #[.slice XQ qn qc, .int .i64 0])) w9 from by
            refine ⟨XQ, qc, qn, Q2, rfl, hl2, by omega, own_mono ho (by have := HB7.out.size; omega), ?_, ?_⟩
            · have h1 := hp.map (·.a)
              rw [HQ'.out, HQF.out] at h1
              exact h1
            · have h1 : GrF w w7 (fun b => w.heap.size ≤ b) := GrF.of_below HB7.out _ (fun b h _ => h)
              have h2 : GrF w7 wr (fun b => w.heap.size ≤ b) := HRx.out.gr.mono (fun b _ h => by have := HB5.out.size; omega)
              have h3 : GrF wr w9 (fun b => w.heap.size ≤ b) := GrF.of_grown hg _ (fun b e => by have := (HRx.out.row.lt b e).1; have := HB7.out.size; omega)
              exact ((h1.trans h2).trans h3).below (fun b _ h => h) (Nat.le_refl _))
          clear hp hl2 ho hg
          go_wp2_with (fail)
          exact bodyPost_ret (v := .tuple #[.slice XQ qn qc, .int .i64 0]) (by simp [results, Tryz.results13, go_sem]) rfl HFI2.out
end Go.Proofs.YtgdnedhcbjonkaaGreatDoor
