/- series.Thin where measurements are left out. -/
import Derived.Test.YtaglkaphlekmoaaGreatDoorThinP
import Derived.Test.YtaglkaphlekmoaaGreatDoorThinD
import Derived.Test.YtaglkaphlekmoaaGreatDoorAppend
import Derived.Deep.RegionHeld3
namespace Go.Proofs.YtaglkaphlekmoaaGreatDoor
open Go.RowKit

/-- What so many rounds of Thin have picked: numbers that rise, from 0 on, below B. -/
structure Picked (is : List Nat) (len B : Nat) : Prop where
  len : is.length = len
  head : is.head? = some 0
  rise : is.Pairwise (· < ·)
  lt : ∀ i ∈ is, i < B
theorem Picked.start : Picked [0] 1 1 := ⟨rfl, rfl, by simp, by simp⟩
theorem Picked.snoc {is : List Nat} {len B i B' : Nat} (h : Picked is len B) (h1 : B ≤ i) (h2 : i < B') : Picked (is ++ [i]) (len + 1) B' := by
  refine ⟨by simp [h.len], ?_, ?_, ?_⟩
  · have := h.head; cases is <;> simp_all
  · rw [List.pairwise_append]
    refine ⟨h.rise, by simp, ?_⟩
    intro a ha b hb
    rw [List.mem_singleton] at hb
    have := h.lt a ha
    omega
  · intro j hj
    rcases List.mem_append.1 hj with hj | hj
    · have := h.lt j hj; omega
    · rw [List.mem_singleton] at hj; omega

theorem cells_mid {w : World} {b o : Nat} {l : List Smp} (h : Cells w b o (cellsOf l)) (lo hi : Nat) : Cells w b (o + lo * 4) (cellsOf ((l.take hi).drop lo)) := by
  intro j v hv
  rw [cellsOf_drop, cellsOf_take, List.getElem?_drop, List.getElem?_take] at hv
  split at hv
  · have := h (lo * 4 + j) v hv
    rw [show o + lo * 4 + j = o + (lo * 4 + j) by omega]
    exact this
  · cases hv

theorem cell_set_far {V : World} {q j g o : Nat} {x v : Value} (h : V.cell? ⟨g, o, none⟩ = some v) (hne : ¬ g = q) : (V.setCell ⟨q, j, none⟩ x).cell? ⟨g, o, none⟩ = some v := by
  have := Below.heap_setCell V ⟨q, j, none⟩ x g hne
  simp only [World.cell?, this] at h ⊢
  exact h
theorem cell_drew_far {V : World} {a : Addr} {v : Value} (h : V.cell? a = some v) : V.drew.cell? a = some v := h
/-- Block q is a variable that was just made. -/
def ZB (V : World) (q : Nat) : Prop := V.heap[q]? = some (.cells #[.string ⟨#[]⟩, .string ⟨#[]⟩, .int .i64 0, .int .i64 0] 53)
theorem ZB.facts {V : World} {q : Nat} (h : ZB V q) : V.cell? ⟨q, 0, none⟩ = some (.string ⟨#[]⟩) ∧ V.cell? ⟨q, 1, none⟩ = some (.string ⟨#[]⟩) ∧ V.cell? ⟨q, 2, none⟩ = some (.int .i64 0) ∧ V.cell? ⟨q, 3, none⟩ = some (.int .i64 0) ∧
    V.frozen? ⟨q, 0, none⟩ = false ∧ V.frozen? ⟨q, 1, none⟩ = false ∧ V.frozen? ⟨q, 2, none⟩ = false ∧ V.frozen? ⟨q, 3, none⟩ = false ∧ q < V.heap.size := by
  have hz : ∀ j, V.frozen? ⟨q, j, none⟩ = false := by intro j; unfold ZB at h; simp [World.frozen?, h]
  exact ⟨cell_of_blk h rfl, cell_of_blk h rfl, cell_of_blk h rfl, cell_of_blk h rfl, hz 0, hz 1, hz 2, hz 3, (Array.getElem?_eq_some_iff.1 h).1⟩
theorem ZB.keep {V V' : World} {B q : Nat} (h : ZB V q) (hb : Below B V V') (hq : q < B) : ZB V' q := (hb.block q hq).trans h
theorem ZB.new (V : World) : ZB (V.alloc (.cells #[.string ⟨#[]⟩, .string ⟨#[]⟩, .int .i64 0, .int .i64 0] 53)) V.heap.size := heap_new V _
theorem ZB.alloc {V : World} {q : Nat} (h : ZB V q) (o : Obj) : ZB (V.alloc o) q := (Below.heap_alloc _ _ q (Array.getElem?_eq_some_iff.1 h).1).trans h
theorem ZB.new2 (V : World) : ZB ((V.alloc (.cells #[.string ⟨#[]⟩, .string ⟨#[]⟩, .int .i64 0, .int .i64 0] 53)).alloc (.cells #[.string ⟨#[]⟩, .string ⟨#[]⟩, .int .i64 0, .int .i64 0] 53)) (V.heap.size + 1) := by have := ZB.new (V.alloc (.cells #[.string ⟨#[]⟩, .string ⟨#[]⟩, .int .i64 0, .int .i64 0] 53)); simpa using this
theorem ZB.newD (V : World) : ZB (V.alloc (.cells #[.string ⟨#[]⟩, .string ⟨#[]⟩, .int .i64 0, .int .i64 0] 53)).drew V.heap.size := ZB.new V
theorem ZB.newDa (V : World) : ZB ((V.alloc (.cells #[.string ⟨#[]⟩, .string ⟨#[]⟩, .int .i64 0, .int .i64 0] 53)).alloc (.cells #[.string ⟨#[]⟩, .string ⟨#[]⟩, .int .i64 0, .int .i64 0] 53)).drew V.heap.size := (ZB.new V).alloc _
theorem ZB.newDb (V : World) : ZB ((V.alloc (.cells #[.string ⟨#[]⟩, .string ⟨#[]⟩, .int .i64 0, .int .i64 0] 53)).alloc (.cells #[.string ⟨#[]⟩, .string ⟨#[]⟩, .int .i64 0, .int .i64 0] 53)).drew (V.heap.size + 1) := ZB.new2 V
/-- Block q holds the best of the first j measurements from number lo on. -/
def Best (V : World) (q : Nat) (l : List Smp) (lo j : Nat) (mo : Int) : Prop :=
  (j = 0 ∧ mo = -1 ∧ ZB V q) ∨ ∃ (i : Nat) (x : Smp), (lo ≤ i ∧ i < lo + j) ∧ l[i]? = some x ∧ V.heap[q]? = some (.cells #[.string ⟨#[100]⟩, .string ⟨#[109]⟩, .int .i64 x.1, .int .i64 x.2] 53) ∧ 0 ≤ mo
/-- What is stored into it fits. -/
theorem Best.facts {V : World} {q : Nat} {l : List Smp} {lo j : Nat} {mo : Int} (h : Best V q l lo j mo) : ∃ (a b : Value) (c d : Int), V.heap[q]? = some (.cells #[a, b, .int .i64 c, .int .i64 d] 53) ∧ (∃ s t : ByteArray, a = .string s ∧ b = .string t) ∧ -1 ≤ mo := by
  rcases h with ⟨_, h1, h2⟩ | ⟨i, x, _, _, h3, h4⟩
  · exact ⟨_, _, _, _, h2, ⟨_, _, rfl, rfl⟩, by omega⟩
  · exact ⟨_, _, _, _, h3, ⟨_, _, rfl, rfl⟩, by omega⟩
theorem Best.keep {V V' : World} {B q : Nat} {l : List Smp} {lo j : Nat} {mo : Int} (h : Best V q l lo j mo) (hb : Below B V V') (hq : q < B) (hj : j ≠ 0) : Best V' q l lo (j + 1) mo := by
  rcases h with ⟨h1, _, _⟩ | ⟨i, x, h1, h2, h3, h4⟩
  · exact absurd h1 hj
  · exact .inr ⟨i, x, by omega, h2, (hb.block q hq).trans h3, h4⟩
/-- Four values stored into a variable. -/
theorem ZB.set4 {V : World} {q : Nat} (h : ZB V q) (a b c d : Value) : ((((V.setCell ⟨q, 0, none⟩ a).setCell ⟨q, 1, none⟩ b).setCell ⟨q, 2, none⟩ c).setCell ⟨q, 3, none⟩ d).heap[q]? = some (.cells #[a, b, c, d] 53) := by
  unfold ZB at h
  simp [World.setCell, Array.getElem?_modify, h]
theorem far4 {V : World} {q g : Nat} (hne : g ≠ q) (a b c d : Value) : ((((V.setCell ⟨q, 0, none⟩ a).setCell ⟨q, 1, none⟩ b).setCell ⟨q, 2, none⟩ c).setCell ⟨q, 3, none⟩ d).heap[g]? = V.heap[g]? := by
  rw [Below.heap_setCell _ ⟨q, 3, none⟩ _ g hne, Below.heap_setCell _ ⟨q, 2, none⟩ _ g hne, Below.heap_setCell _ ⟨q, 1, none⟩ _ g hne, Below.heap_setCell _ ⟨q, 0, none⟩ _ g hne]
theorem size4 (V : World) (q : Nat) (a b c d : Value) : ((((V.setCell ⟨q, 0, none⟩ a).setCell ⟨q, 1, none⟩ b).setCell ⟨q, 2, none⟩ c).setCell ⟨q, 3, none⟩ d).heap.size = V.heap.size := by simp [World.setCell]
theorem Below.set4 {B : Nat} {U V : World} {q : Nat} (h : Below B U V) (hq : B ≤ q) (a b c d : Value) : Below B U ((((V.setCell ⟨q, 0, none⟩ a).setCell ⟨q, 1, none⟩ b).setCell ⟨q, 2, none⟩ c).setCell ⟨q, 3, none⟩ d) :=
  (((h.setCell (p := ⟨q, 0, none⟩) hq _).setCell (p := ⟨q, 1, none⟩) hq _).setCell (p := ⟨q, 2, none⟩) hq _).setCell (p := ⟨q, 3, none⟩) hq _
/-- The three ways in which two variables come to their values: both made last, one made before, both made before. -/
theorem fin_aa (V : World) (x y : Obj) : ((V.alloc x).alloc y).heap[V.heap.size]? = some x ∧ ((V.alloc x).alloc y).heap[V.heap.size + 1]? = some y := by
  refine ⟨(Below.heap_alloc _ _ _ (by simp)).trans (heap_new V x), ?_⟩
  have := heap_new (V.alloc x) y
  simpa using this
theorem fin_sa {V : World} {q : Nat} (h : ZB V q) (a b c d : Value) (x : Obj) : (((((V.setCell ⟨q, 0, none⟩ a).setCell ⟨q, 1, none⟩ b).setCell ⟨q, 2, none⟩ c).setCell ⟨q, 3, none⟩ d).alloc x).heap[q]? = some (.cells #[a, b, c, d] 53) ∧
    (((((V.setCell ⟨q, 0, none⟩ a).setCell ⟨q, 1, none⟩ b).setCell ⟨q, 2, none⟩ c).setCell ⟨q, 3, none⟩ d).alloc x).heap[V.heap.size]? = some x := by
  have hq := h.facts.2.2.2.2.2.2.2.2
  refine ⟨(Below.heap_alloc _ _ _ (by rw [size4]; exact hq)).trans (h.set4 a b c d), ?_⟩
  have := heap_new ((((V.setCell ⟨q, 0, none⟩ a).setCell ⟨q, 1, none⟩ b).setCell ⟨q, 2, none⟩ c).setCell ⟨q, 3, none⟩ d) x
  rw [size4] at this
  exact this
theorem fin_ss {V : World} {p q : Nat} (h : ZB V p) (h' : ZB V q) (hne : p ≠ q) (a b c d a' b' c' d' : Value) :
    ((((((((V.setCell ⟨p, 0, none⟩ a).setCell ⟨p, 1, none⟩ b).setCell ⟨p, 2, none⟩ c).setCell ⟨p, 3, none⟩ d).setCell ⟨q, 0, none⟩ a').setCell ⟨q, 1, none⟩ b').setCell ⟨q, 2, none⟩ c').setCell ⟨q, 3, none⟩ d').heap[p]? = some (.cells #[a, b, c, d] 53) ∧
    ((((((((V.setCell ⟨p, 0, none⟩ a).setCell ⟨p, 1, none⟩ b).setCell ⟨p, 2, none⟩ c).setCell ⟨p, 3, none⟩ d).setCell ⟨q, 0, none⟩ a').setCell ⟨q, 1, none⟩ b').setCell ⟨q, 2, none⟩ c').setCell ⟨q, 3, none⟩ d').heap[q]? = some (.cells #[a', b', c', d'] 53) :=
  ⟨(far4 hne a' b' c' d').trans (h.set4 a b c d), ZB.set4 ((far4 (fun e => hne e.symm) a b c d).trans h') a' b' c' d'⟩
theorem fin_below_aa {B : Nat} {U V : World} (h : Below B U V) (hs : B ≤ V.heap.size) (x y : Obj) : Below B U ((V.alloc x).alloc y) := (h.alloc hs _).alloc (by simp; omega) _
theorem fin_below_sa {B : Nat} {U V : World} {q : Nat} (h : Below B U V) (hs : B ≤ V.heap.size) (hq : B ≤ q) (a b c d : Value) (x : Obj) : Below B U (((((V.setCell ⟨q, 0, none⟩ a).setCell ⟨q, 1, none⟩ b).setCell ⟨q, 2, none⟩ c).setCell ⟨q, 3, none⟩ d).alloc x) :=
  (Below.set4 h hq a b c d).alloc (by rw [size4]; exact hs) _
theorem fin_below_ss {B : Nat} {U V : World} {p q : Nat} (h : Below B U V) (hp : B ≤ p) (hq : B ≤ q) (a b c d a' b' c' d' : Value) :
    Below B U ((((((((V.setCell ⟨p, 0, none⟩ a).setCell ⟨p, 1, none⟩ b).setCell ⟨p, 2, none⟩ c).setCell ⟨p, 3, none⟩ d).setCell ⟨q, 0, none⟩ a').setCell ⟨q, 1, none⟩ b').setCell ⟨q, 2, none⟩ c').setCell ⟨q, 3, none⟩ d') :=
  Below.set4 (Below.set4 h hp a b c d) hq a' b' c' d'
/-- The boxes of Thin: the series, how many are to be left, how many there are. -/
def ThinBox (V : World) (q2 q3 q7 b o n c m : Nat) : Prop := V.heap[q2]? = some (.cells #[.slice (some ⟨b, o, none⟩) n c] 42) ∧ V.heap[q3]? = some (.cells #[.int .i64 (m : Int)] 3) ∧ V.heap[q7]? = some (.cells #[.int .i64 (n : Int)] 3)
theorem ThinBox.keep {V V' : World} {B q2 q3 q7 b o n c m : Nat} (h : ThinBox V q2 q3 q7 b o n c m) (hb : Below B V V') (h2 : q2 < B) (h3 : q3 < B) (h7 : q7 < B) : ThinBox V' q2 q3 q7 b o n c m :=
  ⟨(hb.block _ h2).trans h.1, (hb.block _ h3).trans h.2.1, (hb.block _ h7).trans h.2.2⟩

set_option maxRecDepth 100000 in
set_option maxHeartbeats 40000000 in
theorem thin_some (l : List Smp) (n m c b o : Nat) (w : World) (hn : l.length = n) (hm : 3 ≤ m) (hmn : m < n) (hn2 : n ≤ 50) (hnc : n ≤ c) (hg : GoodS l) (hb : b < w.heap.size) (hc : Cells w b o (cellsOf l)) (hv : ∀ s ∈ l, (0 ≤ s.1 ∧ s.1 ≤ 20000) ∧ -1000 ≤ s.2 ∧ s.2 ≤ 1000) :
    Calls Tryz.prog 24 #[.slice (some ⟨b, o, none⟩) n c, .int .i64 (m : Int)] w fun e w' => (∃ v is, e = .returned (.tuple #[v, .int .i64 0]) ∧ Picked is m n ∧ is.getLast? = some (n - 1) ∧ w'.ownsRow w.heap.size 53 4 v m (cellsOf (atI l is))) ∧ Below w.heap.size w w' := by
  obtain ⟨i0, hi, hz0, hz1, hz2⟩ := info_parts Tryz.infoS
  have HC := Lib.hid hc
  have HV := Lib.hid hv
  have HG := Lib.hid hg
  have HN := Lib.hid hn
  clear hc hv hg hn
  go_enter Tryz.func24, Tryz.ntmps24
  go_wp2_with (fail)
  generalize hX : (w.alloc (.cells #[.slice (some ⟨b, o, none⟩) n c] 42)).alloc (.cells #[.int .i64 (m : Int)] 3) = X
  have hXs : X.heap.size = w.heap.size + 1 + 1 := by rw [← hX]; simp
  have hBX : Below w.heap.size w X := by rw [← hX]; exact ((Below.refl _ _).alloc (Nat.le_refl _) _).alloc (by simp) _
  have hx0 : X.heap[w.heap.size]? = some (.cells #[.slice (some ⟨b, o, none⟩) n c] 42) := by rw [← hX, Below.heap_alloc _ _ _ (by simp)]; exact heap_new w _
  have hx1 : X.heap[w.heap.size + 1]? = some (.cells #[.int .i64 (m : Int)] 3) := by rw [← hX]; have := heap_new (w.alloc (.cells #[.slice (some ⟨b, o, none⟩) n c] 42)) (.cells #[.int .i64 (m : Int)] 3); simpa using this
  have HX := Lib.hid (And.intro hx0 hx1)
  have HBX := Lib.hid hBX
  clear hX hx0 hx1 hBX
  refine (checkSeries_any l n c (some ⟨b, o, none⟩) X HN.out HG.out (.inr ⟨b, o, rfl, by omega, HC.out.keep (HBX.out.block b hb)⟩)).mono ?_
  rintro e w1 ⟨rfl, hb1⟩
  have hs1 := hb1.size
  have hy0 := (hb1.block w.heap.size (by omega)).trans HX.out.1
  have hy1 := (hb1.block (w.heap.size + 1) (by omega)).trans HX.out.2
  have HB1 := Lib.hid (HBX.out.trans (hb1.mono (by omega)))
  have y0 := cell_of_blk (j := 0) hy0 rfl
  have y1 := cell_of_blk (j := 0) hy1 rfl
  have HY := Lib.hid (And.intro hy0 hy1)
  have hww : w.heap.size < w1.heap.size := by omega
  have hww1 : w.heap.size + 1 < w1.heap.size := by omega
  have hle : ¬ (n : Int) ≤ (m : Int) := by omega
  obtain ⟨x, hx⟩ : ∃ x, l[0]? = some x := ⟨_, List.getElem?_eq_getElem (by have := HN.out; omega)⟩
  obtain ⟨z, hz⟩ : ∃ z, l[n - 1]? = some z := ⟨_, List.getElem?_eq_getElem (by have := HN.out; omega)⟩
  have HXZ := Lib.hid (And.intro hx hz)
  have hxv := HV.out x (List.mem_of_getElem? hx)
  have hzv := HV.out z (List.mem_of_getElem? hz)
  obtain ⟨_, _, p2, _⟩ := smp_cells (HC.out.keep (HB1.out.block b hb)) 0 x hx
  obtain ⟨_, _, r2, _⟩ := smp_cells (HC.out.keep (HB1.out.block b hb)) (n - 1) z hz
  simp only [Nat.zero_mul, Nat.add_zero] at p2
  have hbw1 : b < w1.heap.size := by omega
  clear hb1 hy0 hy1 hx hz
  go_wp2_with (go_at_call 39; refine (out_no _ _ _ _ (by omega) (by omega)).mono ?_; rintro e w' ⟨rfl, rfl⟩)
  generalize hV : w1.alloc (.cells #[.int .i64 (n : Int)] 3) = V
  have hVs : V.heap.size = w1.heap.size + 1 := by rw [← hV]; simp
  have hBV : Below w1.heap.size w1 V := hV ▸ (Below.refl _ _).alloc (Nat.le_refl _) _
  have hv7 : V.heap[w1.heap.size]? = some (.cells #[.int .i64 (n : Int)] 3) := by rw [← hV]; exact heap_new w1 _
  have hv2 := (hBV.block w.heap.size hww).trans HY.out.1
  have hv3 := (hBV.block (w.heap.size + 1) hww1).trans HY.out.2
  have HV237 := Lib.hid (And.intro hv2 (And.intro hv3 hv7))
  have q2 := cell_of_blk (j := 0) hv2 rfl
  have q3 := cell_of_blk (j := 0) hv3 rfl
  have q7 := cell_of_blk (j := 0) hv7 rfl
  have HBV := Lib.hid (HB1.out.trans (hBV.mono (by omega)))
  have k2 := (hBV.cell (p := ⟨b, o + 2, none⟩) hbw1).trans p2
  have n2 := (hBV.cell (p := ⟨b, o + (n - 1) * 4 + 2, none⟩) hbw1).trans r2
  have hbV : b < V.heap.size := by omega
  have hwn : IntKind.i64.wrap ((n : Int) - 1) = ((n - 1 : Nat) : Int) := by rw [IntKind.wrap_i64]; omega
  have hn1 : ((n - 1 : Nat) : Int) < (n : Int) := by omega
  have hn1' : n - 1 < n := by omega
  have hn0 : (0 : Int) < (n : Int) := by omega
  have hwz : IntKind.i64.wrap (z.1 - x.1) = z.1 - x.1 := by rw [IntKind.wrap_i64]; omega
  have hdz : decide (864000000 < z.1 - x.1) = false := by simp; omega
  clear hV hBV hv2 hv3 hv7 y0 y1 p2 r2 HY HX HBX HB1
  go_quiet (fail)
  generalize hU : V.drewN nq = U
  have HVU := Lib.hid (show Below V.heap.size V U by rw [← hU]; exact below_drewN (Below.refl _ _) _)
  have hUs : U.heap.size = V.heap.size := by rw [← hU]; rfl
  have hu2 := (HVU.out.block w.heap.size (by omega)).trans HV237.out.1
  have hu3 := (HVU.out.block (w.heap.size + 1) (by omega)).trans HV237.out.2.1
  have hu7 := (HVU.out.block w1.heap.size (by omega)).trans HV237.out.2.2
  have HU237 := Lib.hid (And.intro hu2 (And.intro hu3 hu7))
  have HBU := Lib.hid (HBV.out.trans (HVU.out.mono (by omega)))
  clear hU q2 q3 q7 k2 n2 HV237 HBV HVU
  have q2 := cell_of_blk (j := 0) hu2 rfl
  have q3 := cell_of_blk (j := 0) hu3 rfl
  have q7 := cell_of_blk (j := 0) hu7 rfl
  obtain ⟨p0, p1, p2, p3⟩ := smp_cells (HC.out.keep (HBU.out.block b hb)) 0 x HXZ.out.1
  simp only [Nat.zero_mul, Nat.add_zero] at p0 p1 p2 p3
  have hbU : b < U.heap.size := by omega
  have hwU : w.heap.size < U.heap.size := by omega
  have hwU1 : w.heap.size + 1 < U.heap.size := by omega
  have hwU7 : w1.heap.size < U.heap.size := by omega
  clear hu2 hu3 hu7
  go_wp2_with (fail)
  have hstart : (U.alloc (.cells #[.string ⟨#[100]⟩, .string ⟨#[109]⟩, .int .i64 x.1, .int .i64 x.2] 53)).ownsRow U.heap.size 53 4 (.slice (some ⟨U.heap.size, 0, none⟩) 1 1) 1 (cellsOf (atI l [0])) := by
    have hx0 : atI l [0] = [x] := by simp [atI, List.getD, HXZ.out.1]
    rw [hx0]
    exact ⟨by simp [cellsOf, smpC], .inr ⟨U.heap.size, 1, _, rfl, Nat.le_refl _, heap_alloc_new U _, Nat.le_refl _, by unfold maxLen; omega, rfl, rfl⟩⟩
  have HSTART := Lib.hid hstart
  have HBS := Lib.hid (HBU.out.alloc (by omega) (.cells #[.string ⟨#[100]⟩, .string ⟨#[109]⟩, .int .i64 x.1, .int .i64 x.2] 53))
  have HTB := Lib.hid (show ThinBox (U.alloc (.cells #[.string ⟨#[100]⟩, .string ⟨#[109]⟩, .int .i64 x.1, .int .i64 x.2] 53)) w.heap.size (w.heap.size + 1) w1.heap.size b o n c m from
    ThinBox.keep (B := U.heap.size) HU237.out ((Below.refl _ _).alloc (Nat.le_refl _) _) (by omega) (by omega) (by omega))
  clear hstart q2 q3 q7 p0 p1 p2 p3
  have hnm : (n ≤ m) = False := by simp; omega
  simp only [hnm, decide_false]
  clear hnm
  go_loopw [9, 54] (fun v i wr => ∃ (k : Nat) (is : List Nat), k + 2 ≤ m ∧ i = .int .i64 k ∧ Picked is (k + 1) (pLo n m k) ∧ wr.ownsRow U.heap.size 53 4 v (k + 1) (cellsOf (atI l is)) ∧ ThinBox wr w.heap.size (w.heap.size + 1) w1.heap.size b o n c m ∧ U.heap.size < wr.heap.size ∧ Below w.heap.size w wr) (fun _ i _ => m - (intOf i).toNat)
  case atStart => exact ⟨0, [0], by omega, rfl, by rw [pLo_zero n m hm]; exact Picked.start, by rw [← hVs, ← hUs]; exact HSTART.out, HTB.out, by simp, HBS.out⟩
  case round =>
    obtain ⟨k, is, hk, rfl, hpk, hown, htb, hsz, hbl⟩ := hrel
    obtain ⟨wo, rfl⟩ : ∃ wo : World, wo = wr := ⟨_, rfl⟩
    have HPK := Lib.hid hpk
    have HTBr := Lib.hid htb
    have HBL := Lib.hid hbl
    have HOWN := Lib.hid hown
    obtain ⟨g, cap, rfl⟩ : ∃ g cap, u9 = .slice (some ⟨g, 0, none⟩) (k + 1) cap := by
      rcases hown.2 with ⟨_, h⟩ | ⟨g, cap, cur, hv, _⟩
      · omega
      · exact ⟨g, cap, hv⟩
    have hgl := hown.lt g rfl
    by_cases hlt : k + 2 < m
    · obtain ⟨g1, g2, g3, g4⟩ := part_step n m k hm hmn (by omega)
      have hiL : (atI l is).length = k + 1 := by rw [atI_length]; exact hpk.len
      obtain ⟨y, hy⟩ : ∃ y, (atI l is)[k]? = some y := ⟨_, List.getElem?_eq_getElem (by omega)⟩
      have hyl : y ∈ l := by
        have := List.mem_of_getElem? hy
        simp only [atI, List.mem_map] at this
        obtain ⟨i, hi, rfl⟩ := this
        have h1 := hpk.lt i hi
        have h2 := HN.out
        simp [List.getD, List.getElem?_eq_getElem (show i < l.length by omega)]
      have hyv := HV.out y hyl
      have hcs : Cells wo g 0 (cellsOf (atI l is)) := by
        rcases own_row hown with h | ⟨b', o', he, _, h⟩
        · exfalso
          have := cellsOf_length (atI l is)
          rw [h] at this; simp at this; omega
        · injection he with he; injection he with e1 e2; subst e1 e2; exact h
      obtain ⟨c0, c1, c2, c3⟩ := smp_cells hcs k y hy
      simp only [Nat.zero_add] at c0 c1 c2 c3
      have hBL2 := fun (V : World) (hV : Below wo.heap.size wo V) => HBL.out.trans (hV.mono (by omega : w.heap.size ≤ wo.heap.size))
      have hpart := fun (V : World) (hV : Below wo.heap.size wo V) => (part_any (k + 1) n m c b o (w.heap.size + 1) w.heap.size w1.heap.size V hm hmn (by omega) hnc (by omega)
        (cell_of_blk (j := 0) ((hV.block _ (by omega)).trans htb.2.1) rfl) (cell_of_blk (j := 0) ((hV.block _ (by omega)).trans htb.1) rfl) (cell_of_blk (j := 0) ((hV.block _ (by omega)).trans htb.2.2) rfl)).mono
        (R' := fun e w' => (∃ cc, e = .returned (.slice (some ⟨b, o + pLo n m (k + 1) * 4, none⟩) (pHi n m (k + 1) - pLo n m (k + 1)) cc)) ∧ Below wo.heap.size wo w' ∧ ∀ q, ZB V q → ZB w' q)
        (fun e w' h => ⟨h.1, hV.trans (h.2.mono hV.size), fun q hq => hq.keep h.2 hq.facts.2.2.2.2.2.2.2.2⟩)
      rw [show ((k + 1 : Nat) : Int) = (k : Int) + 1 from rfl] at hpart
      have HPART := Lib.hid hpart
      clear hpart
      have hlo : pLo n m (k + 1) < pHi n m (k + 1) ∧ pHi n m (k + 1) ≤ n := by
        by_cases h : k + 1 + 3 ≤ m
        · have := part_step n m (k + 1) hm hmn h; omega
        · have := part_last n m (k + 1) (by omega); omega
      have hmid := (fun (V : World) (cc : Nat) (hV : Below wo.heap.size wo V) => (middle_any ((l.take (pHi n m (k + 1))).drop (pLo n m (k + 1))) (pHi n m (k + 1) - pLo n m (k + 1)) cc b (o + pLo n m (k + 1) * 4) V
        (by simp only [List.length_drop, List.length_take, HN.out]; omega) (by omega) (by omega) (by have := hV.size; omega) (cells_mid (HC.out.keep ((hBL2 V hV).block b hb)) _ _)
        (fun s hs => HV.out s (List.mem_of_mem_take (List.mem_of_mem_drop hs)))).mono
        (R' := fun e w' => (∃ ma mv : Int, e = .returned (.agg #[.string ⟨#[]⟩, .string ⟨#[]⟩, .int .i64 ma, .int .i64 mv]) ∧ (0 ≤ ma ∧ ma ≤ 20000) ∧ -1000 ≤ mv ∧ mv ≤ 1000) ∧ Below wo.heap.size wo w' ∧ ∀ q, ZB V q → ZB w' q)
        (fun e w' h => ⟨h.1, hV.trans (h.2.mono hV.size), fun q hq => hq.keep h.2 hq.facts.2.2.2.2.2.2.2.2⟩))
      have HMID := Lib.hid hmid
      clear hmid
      obtain ⟨ya, yv⟩ := y
      simp only at c2 c3 hyv
      have hgw : g < wo.heap.size := hgl.2
      have hwk : IntKind.i64.wrap (k : Int) = (k : Int) := by rw [IntKind.wrap_i64]; omega
      have hwk1 : IntKind.i64.wrap ((k : Int) + 1) = (k : Int) + 1 := by rw [IntKind.wrap_i64]; omega
      have hkk : (k : Int) < ((k + 1 : Nat) : Int) := by omega
      have hkk1 : (k : Int) < (k : Int) + 1 := by omega
      have hk0 : (0 : Int) ≤ (k : Int) := by omega
      have hlt' : (k : Int) < (m : Int) - 2 := by omega
      have HCL := Lib.hid (fun (V : World) (hV : Below wo.heap.size wo V) => And.intro ((hV.cell (p := ⟨g, k * 4, none⟩) hgw).trans c0) (And.intro ((hV.cell (p := ⟨g, k * 4 + 1, none⟩) hgw).trans c1) (And.intro ((hV.cell (p := ⟨g, k * 4 + 2, none⟩) hgw).trans c2) ((hV.cell (p := ⟨g, k * 4 + 3, none⟩) hgw).trans c3))))
      have n00 : ¬ g = wo.heap.size := by omega
      have n01 : ¬ g = wo.heap.size + 1 := by omega
      clear hpk htb hbl hown hcs hy hyl
      go_upto_region 16 with (fail)
      go_cut [11, 12] (fun s11 s12 wx => ∃ (ga gb : Nat) (ma mv : Int), s11 = .pointer (some ⟨ga, 0, none⟩) ∧ s12 = .pointer (some ⟨gb, 0, none⟩) ∧ wx.heap[ga]? = some (.cells #[.string ⟨#[100]⟩, .string ⟨#[109]⟩, .int .i64 ya, .int .i64 yv] 53) ∧
        wx.heap[gb]? = some (.cells #[.string ⟨#[]⟩, .string ⟨#[]⟩, .int .i64 ma, .int .i64 mv] 53) ∧ ((0 ≤ ma ∧ ma ≤ 20000) ∧ -1000 ≤ mv ∧ mv ≤ 1000) ∧ Below wo.heap.size wo wx)
      case first =>
        go_region_held3 (fun w' => w'.cell? ⟨g, k * 4, none⟩ = some (.string ⟨#[100]⟩) ∧ w'.cell? ⟨g, k * 4 + 1, none⟩ = some (.string ⟨#[109]⟩) ∧ w'.cell? ⟨g, k * 4 + 2, none⟩ = some (.int .i64 ya) ∧ w'.cell? ⟨g, k * 4 + 3, none⟩ = some (.int .i64 yv))
          (first | (with_reducible exact hS) | (with_reducible refine ⟨?_, ?_, ?_, ?_⟩ <;> (repeat (first | with_reducible assumption | with_reducible exact hS.1 | with_reducible exact hS.2.1 | with_reducible exact hS.2.2.1 | with_reducible exact hS.2.2.2 | with_reducible refine Lib.cell?_alloc_some _ ?_ | with_reducible refine cell_set_far ?_ (by with_reducible assumption) | with_reducible refine cell_drew_far ?_)) <;> done) | go_keep)
          (first
            | (go_at_call 62
               refine (HPART.out _ (by first | with_reducible exact (Below.refl _ _).drew | with_reducible exact ((Below.refl _ _).alloc (Nat.le_refl _) _).drew | with_reducible exact (((Below.refl _ _).alloc (Nat.le_refl _) _).alloc (by simp) _).drew)).mono ?_
               rintro e w3 ⟨⟨cc, rfl⟩, hB3, hZ3⟩
               have hS := HCL.out w3 hB3
               have n30 : ¬ g = w3.heap.size := by have := hB3.size; omega
               have n31 : ¬ g = w3.heap.size + 1 := by have := hB3.size; omega
               have n32 : g < w3.heap.size := by have := hB3.size; omega
               try (with_reducible have zb0 := hZ3 _ (ZB.newD wo))
               try (with_reducible have zb0 := hZ3 _ (ZB.newDa wo))
               try (with_reducible have zb1 := hZ3 _ (ZB.newDb wo))
               have HZ3 := Lib.hid hZ3
               clear hZ3)
            | (go_at_call 63
               refine (HMID.out _ _ (by first | with_reducible exact hB3 | with_reducible exact hB3.alloc hB3.size _ | with_reducible exact (hB3.alloc hB3.size _).alloc (by have := hB3.size; simp; omega) _)).mono ?_
               rintro e w4 ⟨⟨ma, mv, rfl, hma, hmv1, hmv2⟩, hB4, hZ4⟩
               have hS := HCL.out w4 hB4
               have n40 : ¬ g = w4.heap.size := by have := hB4.size; omega
               have n41 : ¬ g = w4.heap.size + 1 := by have := hB4.size; omega
               have n42 : g < w4.heap.size := by have := hB4.size; omega
               try (with_reducible have zc0 := hZ4 _ zb0)
               try (with_reducible have zc0 := hZ4 _ (zb0.alloc _))
               try (with_reducible have zc0 := hZ4 _ ((zb0.alloc _).alloc _))
               try (with_reducible have zc1 := hZ4 _ zb1)
               try (with_reducible have zd0 := hZ4 _ (ZB.new w3))
               try (with_reducible have zd0 := hZ4 _ ((ZB.new w3).alloc _))
               try (with_reducible have zd1 := hZ4 _ (ZB.new2 w3))
               try (have n34 := Nat.ne_of_gt (ZB.facts zb0).2.2.2.2.2.2.2.2)
               try (have n35 := Nat.ne_of_lt (ZB.facts zb0).2.2.2.2.2.2.2.2)
               try (have n36 := Nat.ne_of_gt (ZB.facts zb1).2.2.2.2.2.2.2.2)
               try (have n37 := Nat.ne_of_lt (ZB.facts zb1).2.2.2.2.2.2.2.2)
               have HZ4 := Lib.hid hZ4
               clear hZ4
               try (obtain ⟨a0, a1, a2, a3, a4, a5, a6, a7, a8⟩ := zc0.facts)
               try (obtain ⟨b0, b1, b2, b3, b4, b5, b6, b7, b8⟩ := zc1.facts)
               try (obtain ⟨d0, d1, d2, d3, d4, d5, d6, d7, d8⟩ := zd0.facts)
               try (obtain ⟨e0, e1, e2, e3, e4, e5, e6, e7, e8⟩ := zd1.facts)))
        all_goals
          go_wp2_with (fail)
          go_meet
          have s3 := Below.size hB3
          have s4 := Below.size hB4
          refine ⟨_, _, ma, mv, rfl, rfl, ?_, ?_, ⟨hma, hmv1, hmv2⟩, ?_⟩
          all_goals
            first
              | with_reducible exact (fin_aa _ _ _).1
              | with_reducible exact (fin_aa _ _ _).2
              | (with_reducible refine (fin_sa ?_ _ _ _ _ _).1) <;> first | with_reducible assumption | omega
              | (with_reducible refine (fin_sa ?_ _ _ _ _ _).2) <;> first | with_reducible assumption | omega
              | (with_reducible refine (fin_ss ?_ ?_ ?_ _ _ _ _ _ _ _ _).1) <;> first | with_reducible assumption | omega
              | (with_reducible refine (fin_ss ?_ ?_ ?_ _ _ _ _ _ _ _ _).2) <;> first | with_reducible assumption | omega
              | (with_reducible refine fin_below_aa ?_ ?_ _ _) <;> first | with_reducible assumption | omega
              | (with_reducible refine fin_below_sa ?_ ?_ ?_ _ _ _ _ _) <;> first | with_reducible assumption | omega
              | (with_reducible refine fin_below_ss ?_ ?_ ?_ _ _ _ _ _ _ _ _) <;> first | with_reducible assumption | omega
      case rest =>
        obtain ⟨ga, gb, ma, mv, rfl, rfl, hga, hgb, hmm, hbw⟩ := hcut
        obtain ⟨Y, rfl⟩ : ∃ Y : World, Y = wc := ⟨_, rfl⟩
        have hsY := hbw.size
        have HGAB := Lib.hid (And.intro hga hgb)
        have HWY := Lib.hid hbw
        have hgaY := (Array.getElem?_eq_some_iff.1 hga).1
        have hgbY := (Array.getElem?_eq_some_iff.1 hgb).1
        clear hga hgb hbw HCL HMID HPART c0 c1 c2 c3
        have HTY := Lib.hid (HTBr.out.keep (B := wo.heap.size) HWY.out (by omega) (by omega) (by omega))
        have HPK2 := Lib.hid (fun (V : World) (hV : Below wo.heap.size wo V) => part_any k n m c b o (w.heap.size + 1) w.heap.size w1.heap.size V hm hmn (by omega) hnc (by omega)
          (cell_of_blk (j := 0) ((hV.block _ (by omega)).trans HTBr.out.2.1) rfl) (cell_of_blk (j := 0) ((hV.block _ (by omega)).trans HTBr.out.1) rfl) (cell_of_blk (j := 0) ((hV.block _ (by omega)).trans HTBr.out.2.2) rfl))
        go_wp2_with (fail)
        have hBZ : Below wo.heap.size wo (Y.alloc (.cells #[.string ⟨#[]⟩, .string ⟨#[]⟩, .int .i64 0, .int .i64 0] 53)) := HWY.out.alloc hsY _
        refine (HPK2.out _ hBZ).mono ?_
        rintro e w5 ⟨⟨cc, rfl⟩, hb5⟩
        have hs5 := hb5.size
        simp only [World.size_alloc] at hs5
        have HB5 := Lib.hid (show Below Y.heap.size Y w5 from ((Below.refl _ _).alloc (Nat.le_refl _) _).trans (hb5.mono (by simp)))
        have HZB5 := Lib.hid ((ZB.new Y).keep hb5 (by simp))
        obtain ⟨lo, elo⟩ : ∃ lo, lo = pLo n m k := ⟨_, rfl⟩
        obtain ⟨hi, ehi⟩ : ∃ hi, hi = pHi n m k := ⟨_, rfl⟩
        rw [← elo, ← ehi]
        rw [← elo] at g1 g4
        rw [← ehi] at g1 g2 g3
        have HELO := Lib.hid (And.intro elo ehi)
        obtain ⟨len, elen⟩ : ∃ len, len = hi - lo := ⟨_, rfl⟩
        rw [← elen]
        have hlen : lo + len = hi ∧ 0 < len := by omega
        clear hb5 hBZ elo ehi elen
        go_wp2_with (fail)
        go_loopw [14, 73] (fun t i wr2 => ∃ (j : Nat) (mo : Int), j ≤ len ∧ i = .int .i64 j ∧ t = .int .i64 mo ∧ Best wr2 Y.heap.size l lo j mo ∧ Y.heap.size < wr2.heap.size ∧ Below Y.heap.size Y wr2) (fun _ i _ => len - (intOf i).toNat)
        case atStart => exact ⟨0, -1, Nat.zero_le _, rfl, rfl, .inl ⟨rfl, rfl, HZB5.out⟩, by omega, HB5.out⟩
        case round =>
          obtain ⟨j, mo, hj, rfl, rfl, hbest, hsz2, hbl2⟩ := hrel
          have HBEST := Lib.hid hbest
          have HBL2 := Lib.hid hbl2
          have a0 := cell_of_blk (j := 0) ((hbl2.block ga hgaY).trans HGAB.out.1) rfl
          have a1 := cell_of_blk (j := 1) ((hbl2.block ga hgaY).trans HGAB.out.1) rfl
          have a2 := cell_of_blk (j := 2) ((hbl2.block ga hgaY).trans HGAB.out.1) rfl
          have a3 := cell_of_blk (j := 3) ((hbl2.block ga hgaY).trans HGAB.out.1) rfl
          have d0 := cell_of_blk (j := 0) ((hbl2.block gb hgbY).trans HGAB.out.2) rfl
          have d1 := cell_of_blk (j := 1) ((hbl2.block gb hgbY).trans HGAB.out.2) rfl
          have d2 := cell_of_blk (j := 2) ((hbl2.block gb hgbY).trans HGAB.out.2) rfl
          have d3 := cell_of_blk (j := 3) ((hbl2.block gb hgbY).trans HGAB.out.2) rfl
          have hga2 : ga < wr.heap.size := by omega
          have hgb2 : gb < wr.heap.size := by omega
          by_cases hjlt : j < len
          · obtain ⟨s, hs⟩ : ∃ s, l[lo + j]? = some s := ⟨_, List.getElem?_eq_getElem (by have := HN.out; omega)⟩
            have hsv := HV.out s (List.mem_of_getElem? hs)
            have hmid : ((l.take hi).drop lo)[j]? = some s := by rw [List.getElem?_drop, List.getElem?_take, if_pos (by omega)]; exact hs
            obtain ⟨s0, s1, s2, s3⟩ := smp_cells (cells_mid (HC.out.keep ((HBL.out.trans (HWY.out.mono (by omega))).trans (hbl2.mono (by omega)) |>.block b hb)) lo hi) j s hmid
            have HS := Lib.hid hs
            obtain ⟨sa, sv⟩ := s
            simp only at s2 s3 hsv
            have hjlt' : (j : Int) < (len : Int) := by omega
            have hb2 : b < wr.heap.size := by omega
            have HAREA := Lib.hid (fun (V : World) => area_any ⟨#[100]⟩ ⟨#[109]⟩ ⟨#[100]⟩ ⟨#[109]⟩ ⟨#[]⟩ ⟨#[]⟩ ya yv sa sv ma mv V hyv.1.1 hyv.1.2 hyv.2.1 hyv.2.2 hsv.1.1 hsv.1.2 hsv.2.1 hsv.2.2 hmm.1.1 hmm.1.2 hmm.2.1 hmm.2.2)
            clear hbest hbl2 hs hmid
            go_wp2_with (fail)
            refine (HAREA.out _).mono ?_
            rintro e w6 ⟨⟨r, hr0, rfl⟩, hb6⟩
            have hs6 := hb6.size
            simp only [World.size_alloc] at hs6
            have HA6 := Lib.hid (show Below wr.heap.size wr w6 from ((Below.refl _ _).alloc (Nat.le_refl _) _).trans (hb6.mono (by simp)))
            have hnew := (hb6.block wr.heap.size (by simp)).trans (heap_new wr (.cells #[.string ⟨#[100]⟩, .string ⟨#[109]⟩, .int .i64 sa, .int .i64 sv] 53))
            have n0 := cell_of_blk (j := 0) hnew rfl
            have n1 := cell_of_blk (j := 1) hnew rfl
            have n2 := cell_of_blk (j := 2) hnew rfl
            have n3 := cell_of_blk (j := 3) hnew rfl
            obtain ⟨va, vb, vc, vd, hq, ⟨sx, sy, rfl, rfl⟩, hmo⟩ := HBEST.out.facts
            have hq6 := (HA6.out.block Y.heap.size hsz2).trans hq
            have p0 := cell_of_blk (j := 0) hq6 rfl
            have p1 := cell_of_blk (j := 1) hq6 rfl
            have p2 := cell_of_blk (j := 2) hq6 rfl
            have p3 := cell_of_blk (j := 3) hq6 rfl
            have fq : ∀ j, w6.frozen? ⟨Y.heap.size, j, none⟩ = false := by intro j; simp [World.frozen?, hq6]
            have f0 := fq 0
            have f1 := fq 1
            have f2 := fq 2
            have f3 := fq 3
            have HQ6 := Lib.hid hq6
            have HB6 := Lib.hid (HBL2.out.trans (HA6.out.mono (by omega)))
            clear hb6 hnew hq hq6 fq a0 a1 a2 a3 d0 d1 d2 d3 s0 s1 s2 s3
            by_cases hmr : mo < r
            · have hmr2 : ¬ r ≤ mo := by omega
              go_wp2_with (fail)
              go_roundw
              case rel =>
                refine ⟨j + 1, r, by omega, by go_num, rfl, .inr ⟨lo + j, (sa, sv), by omega, HS.out, ?_, hr0⟩, by simp [World.setCell]; omega, ?_⟩
                · simp [World.setCell, Array.getElem?_modify, HQ6.out]
                · exact (((HB6.out.setCell (p := ⟨Y.heap.size, 0, none⟩) (Nat.le_refl _) _).setCell (p := ⟨Y.heap.size, 1, none⟩) (Nat.le_refl _) _).setCell (p := ⟨Y.heap.size, 2, none⟩) (Nat.le_refl _) _).setCell (p := ⟨Y.heap.size, 3, none⟩) (Nat.le_refl _) _
              case measure => simp [intOf]; omega
            · have hj0 : j ≠ 0 := by
                rintro rfl
                rcases HBEST.out with ⟨_, h, _⟩ | ⟨i, x, h, _⟩
                · omega
                · omega
              have HBK := Lib.hid (HBEST.out.keep HA6.out hsz2 hj0)
              go_wp2_with (fail)
              go_roundw
              case rel => exact ⟨j + 1, mo, by omega, by go_num, rfl, HBK.out, by omega, HB6.out⟩
              case measure => simp [intOf]; omega
          · have hjl : j = len := by omega
            subst hjl
            obtain ⟨i, t, hi1, hi2, hi3, _⟩ : ∃ (i : Nat) (x : Smp), (lo ≤ i ∧ i < lo + j) ∧ l[i]? = some x ∧ wr.heap[Y.heap.size]? = some (.cells #[.string ⟨#[100]⟩, .string ⟨#[109]⟩, .int .i64 x.1, .int .i64 x.2] 53) ∧ 0 ≤ mo := by
              rcases hbest with ⟨h, _⟩ | h
              · omega
              · exact h
            have p0 := cell_of_blk (j := 0) hi3 rfl
            have p1 := cell_of_blk (j := 1) hi3 rfl
            have p2 := cell_of_blk (j := 2) hi3 rfl
            have p3 := cell_of_blk (j := 3) hi3 rfl
            have HOW := Lib.hid (own_below (own_below HOWN.out HWY.out) hbl2)
            have HTBw := Lib.hid (HTY.out.keep (B := Y.heap.size) hbl2 (by omega) (by omega) (by omega))
            have HBw := Lib.hid ((HBL.out.trans (HWY.out.mono (by omega))).trans (hbl2.mono (by omega)))
            have HPKn := Lib.hid (show Picked (is ++ [i]) (k + 1 + 1) (pLo n m (k + 1)) from HPK.out.snoc (by rw [← HELO.out.1]; omega) (by rw [← g2]; omega))
            have HAT := Lib.hid (show cellsOf (atI l (is ++ [i])) = cellsOf (atI l is) ++ smpC t by rw [atI_snoc, cellsOf_snoc, show l.getD i (0, 0) = t by simp [List.getD, hi2]])
            clear hbest hbl2 hi2 hi3 a0 a1 a2 a3 d0 d1 d2 d3
            go_wp2_with (at_builtin; refine wpList_append_own _ rfl _ _ 42 rfl U.heap.size 53 i0 _ 4 48 Tryz.underlying42 (by assumption) hz0 hz1 hz2 rfl (by decide) _ _ _ rfl (HOW.out.alloc _) ⟨wr.heap.size, 0, none⟩ 1 1 (smpC t) rfl rfl ?c1 ?c2 ?c3 ?c4 ?c5 ?_)
            case c1 => first | (intro j u h; simpa [smpC] using h) | exact cells_add (Cells.new _ _ _ _ _ rfl)
            case c2 => exact smpC_one _
            case c3 => unfold maxLen; omega
            case c4 => omega
            case c5 => first | omega | (simp; omega)
            intro v' w7 hown7 hgr7 _
            have hg7 := grown_of_alloc hgr7
            have hs7 := hg7.size
            have HB7 := Lib.hid (HBw.out.grown hg7 (by omega) (fun g hg => by have := (HOW.out.lt g hg).1; omega))
            have HT7 := Lib.hid (show ThinBox w7 w.heap.size (w.heap.size + 1) w1.heap.size b o n c m from
              ⟨(hg7.block _ (by omega) (fun e => by have := (HOW.out.lt _ e.symm).1; omega)).trans HTBw.out.1, (hg7.block _ (by omega) (fun e => by have := (HOW.out.lt _ e.symm).1; omega)).trans HTBw.out.2.1, (hg7.block _ (by omega) (fun e => by have := (HOW.out.lt _ e.symm).1; omega)).trans HTBw.out.2.2⟩)
            have HO7 := Lib.hid hown7
            clear hown7 hgr7 hg7 p0 p1 p2 p3
            go_wp2_with (fail)
            go_roundw
            case rel => exact ⟨k + 1, is ++ [i], by omega, by go_num, HPKn.out, by rw [HAT.out, hUs, hVs]; exact HO7.out, HT7.out, by omega, HB7.out⟩
            case measure => simp [intOf]; omega
    · have hkm : k + 2 = m := by omega
      obtain ⟨s0, s1, s2, s3⟩ := smp_cells (HC.out.keep (hbl.block b hb)) (n - 1) z HXZ.out.2
      have q2 := cell_of_blk (j := 0) htb.1 rfl
      have q7 := cell_of_blk (j := 0) htb.2.2 rfl
      have hw2 : w.heap.size < wo.heap.size := by omega
      have hw7 : w1.heap.size < wo.heap.size := by omega
      have hbo : b < wo.heap.size := by omega
      have hlt' : ¬ (k : Int) < (m : Int) - 2 := by omega
      have hfin : w.heap.size ≤ w1.heap.size + 1 ∧ w.heap.size ≤ U.heap.size := by omega
      have HPKn := Lib.hid (show Picked (is ++ [n - 1]) (k + 1 + 1) n from hpk.snoc (by
        rw [show pLo n m k = n - 1 from (part_last n m k (by omega)).1]; exact Nat.le_refl _) (by omega))
      have HAT := Lib.hid (show cellsOf (atI l (is ++ [n - 1])) = cellsOf (atI l is) ++ smpC z by rw [atI_snoc, cellsOf_snoc, show l.getD (n - 1) (0, 0) = z by simp [List.getD, HXZ.out.2]])
      obtain ⟨za, zv⟩ := z
      simp only at s2 s3
      clear hpk htb hbl hown
      go_wp2_with (at_builtin; refine wpList_append_own _ rfl _ _ 42 rfl U.heap.size 53 i0 _ 4 48 Tryz.underlying42 (by assumption) hz0 hz1 hz2 rfl (by decide) _ _ _ rfl (HOWN.out.alloc _) ⟨wo.heap.size, 0, none⟩ 1 1 (smpC (za, zv)) rfl rfl ?c1 ?c2 ?c3 ?c4 ?c5 ?_)
      case c1 => first | (intro j u h; simpa [smpC] using h) | exact cells_add (Cells.new _ _ _ _ _ rfl)
      case c2 => exact smpC_one _
      case c3 => unfold maxLen; omega
      case c4 => omega
      case c5 => first | omega | (simp; omega)
      intro v' w7 hown7 hgr7 _
      have hg7 := grown_of_alloc hgr7
      have HB7 := Lib.hid (HBL.out.grown hg7 (by omega) (fun g hg => by have := (HOWN.out.lt g hg).1; omega))
      have HO7 := Lib.hid hown7
      obtain ⟨A7, c7, rfl⟩ := own_slice hown7
      clear hown7 hgr7 hg7 s0 s1 s2 s3 q2 q7
      go_wp2_with (fail)
      go_ret2
      refine ⟨⟨_, is ++ [n - 1], rfl, ?_, by simp, ?_⟩, HB7.out⟩
      · rw [← hkm]; exact HPKn.out
      · rw [HAT.out]
        first | exact own_mono HO7.out hfin.1 | exact own_mono HO7.out hfin.2
end Go.Proofs.YtaglkaphlekmoaaGreatDoor
