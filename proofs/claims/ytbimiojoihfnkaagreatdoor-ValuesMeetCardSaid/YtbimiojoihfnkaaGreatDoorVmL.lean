/- ValuesMeet: the law function. -/
import Derived.Test.YtbimiojoihfnkaaGreatDoorVmE
import Derived.Test.YtbimiojoihfnkaaGreatDoorCatW
import Derived.Test.YtbimiojoihfnkaaGreatDoorRec
import Derived.Test.YtbimiojoihfnkaaGreatDoorSer1
import Derived.Test.YtbimiojoihfnkaaGreatDoorReady
import Derived.Deep.RegionHeld3
namespace Go.Proofs.YtbimiojoihfnkaaGreatDoor
open Go.RowKit

theorem own_cells0V {w : World} {base : Nat} {e : TypeId} {size g n cap : Nat} {xs : List Value} (h : w.ownsRow base e size (.slice (some ⟨g, 0, none⟩) n cap) n xs) : Cells w g 0 xs := by
  intro j v hv
  rw [Nat.zero_add]
  exact (h.cellAt j (by rw [← h.1]; exact (List.getElem?_eq_some_iff.1 hv).1)).trans hv
set_option maxHeartbeats 2000000 in
theorem eqW_any (l : List (Int × Int)) (n c c' : Nat) (A A' : Option Addr) (w : World) (hn : l.length = n) (hn2 : n ≤ 1000000) (hr : Row w w.heap.size A (wCells l)) (hr' : Row w w.heap.size A' (wCells l)) :
    Calls Tryz.prog 25 #[.slice A n c, .slice A' n c'] w fun e w' => e = .returned (.bool true) ∧ Below w.heap.size w w' := by
  have HR := Lib.hid hr
  have HR' := Lib.hid hr'
  have HN := Lib.hid hn
  clear hr hr' hn
  go_enter Tryz.func25, Tryz.ntmps25
  go_wp2_with (fail)
  go_loopw [13] (fun i wr => ∃ k : Nat, k ≤ n ∧ i = .int .i64 k ∧ Below w.heap.size w wr) (fun i _ => n - (intOf i).toNat)
  case atStart => exact ⟨0, Nat.zero_le _, rfl, Below.refl _ _⟩
  case round =>
    obtain ⟨k, hk, rfl, hbl⟩ := hrel
    by_cases hlt : k < n
    · have hkl : k < l.length := by have := HN.out; omega
      obtain ⟨b, o, rfl, hb, hc⟩ := Row.posW HR.out (by omega)
      obtain ⟨b', o', rfl, hb', hc'⟩ := Row.posW HR'.out (by omega)
      obtain ⟨x, hx⟩ : ∃ x, l[k]? = some x := ⟨_, List.getElem?_eq_getElem hkl⟩
      obtain ⟨c0, c1⟩ := win_cells (hc.keep (hbl.block b hb)) k x hx
      obtain ⟨d0, d1⟩ := win_cells (hc'.keep (hbl.block b' hb')) k x hx
      obtain ⟨xa, xb⟩ := x
      simp only at c0 c1 d0 d1
      have HBL := Lib.hid hbl
      have hlt' : (k : Int) < (n : Int) := by omega
      clear hbl hx hkl hc hc'
      go_wp2_with (fail)
      go_quiet (fail)
      go_wp2_with (fail)
      go_roundw
      case rel => exact ⟨k + 1, by omega, by go_num, below_drewN HBL.out _⟩
      case measure => simp [intOf]; omega
    · have HBL := Lib.hid hbl
      clear hbl
      go_wp2_with (fail)
      go_ret
      exact ⟨rfl, HBL.out⟩

/-- All that the law needs to know of its series. -/
structure Vmt (l : List Smp) : Prop where
  good : GoodS l
  ats : ∀ s ∈ l, 1 ≤ s.1 ∧ s.1 ≤ 10000
  val : ∀ s ∈ l, -100 ≤ s.2 ∧ s.2 ≤ 1000
  le : l.Pairwise (fun s t => s.1 < t.1)
theorem serL_vmt (xs : List Int) (k n : Nat) (hn : n ≤ 10) : Vmt (serL xs k (-100) n) := by
  have hall : ∀ s ∈ serL xs k (-100) n, ∃ j, j < n ∧ s = (serAt xs k (j + 1), serV xs k (-100) j) := by
    intro s hs
    simp only [serL, List.mem_map, List.mem_range] at hs
    obtain ⟨j, hj, rfl⟩ := hs
    exact ⟨j, hj, rfl⟩
  have hmono : ∀ (i d : Nat), serAt xs k i + (d : Int) ≤ serAt xs k (i + d) := by
    intro i d
    induction d with
    | zero => simp
    | succ d ih => have := serAt_step xs k (i + d); rw [← Nat.add_assoc]; omega
  have hpair : (serL xs k (-100) n).Pairwise (fun s t => s.1 < t.1) := by
    unfold serL
    rw [List.pairwise_map]
    refine List.pairwise_lt_range.imp ?_
    intro i j h
    have := hmono (i + 1) (j - i)
    rw [show i + 1 + (j - i) = j + 1 by omega] at this
    simp only
    omega
  have hat : ∀ s ∈ serL xs k (-100) n, 1 ≤ s.1 ∧ s.1 ≤ 10000 := by
    intro s hs
    obtain ⟨j, hj, rfl⟩ := hall s hs
    have := serAt_range xs k (j + 1)
    simp only
    omega
  have hva : ∀ s ∈ serL xs k (-100) n, -100 ≤ s.2 ∧ s.2 ≤ 1000 := by
    intro s hs
    obtain ⟨j, hj, rfl⟩ := hall s hs
    have := serV_range xs k (-100) j
    simp only
    omega
  refine ⟨⟨by rw [serL_length]; omega, ?_, ?_, ?_⟩, hat, hva, hpair⟩
  · intro i x hx
    have := hat x (List.mem_of_getElem? hx)
    omega
  · intro i x hx
    have := hva x (List.mem_of_getElem? hx)
    omega
  · intro i x y hx hy
    rw [List.pairwise_iff_getElem] at hpair
    obtain ⟨a1, a2⟩ := List.getElem?_eq_some_iff.1 hx
    obtain ⟨b1, b2⟩ := List.getElem?_eq_some_iff.1 hy
    have := hpair i (i + 1) a1 b1 (by omega)
    rw [a2, b2] at this
    exact this
theorem Vmt.between {l : List Smp} (h : Vmt l) {n : Nat} (hn : l.length = n) {x y : Smp} (hx : l[0]? = some x) (hy : l[n - 1]? = some y) : ∀ s ∈ l, x.1 ≤ s.1 ∧ s.1 ≤ y.1 := by
  intro s hs
  obtain ⟨i, hi⟩ := List.getElem?_of_mem hs
  have hil := (List.getElem?_eq_some_iff.1 hi).1
  have hlt : ∀ {i j : Nat} {u v : Smp}, i < j → l[i]? = some u → l[j]? = some v → u.1 < v.1 := by
    intro i j u v hij hu hv
    have hr := h.le
    rw [List.pairwise_iff_getElem] at hr
    obtain ⟨a1, a2⟩ := List.getElem?_eq_some_iff.1 hu
    obtain ⟨b1, b2⟩ := List.getElem?_eq_some_iff.1 hv
    have := hr i j a1 b1 hij
    rw [a2, b2] at this
    exact this
  constructor
  · rcases Nat.eq_zero_or_pos i with h0 | h0
    · subst h0; rw [hx] at hi; injection hi with hi; rw [hi]; exact Int.le_refl _
    · have := hlt h0 hx hi; omega
  · rcases Nat.lt_or_ge i (n - 1) with h0 | h0
    · have := hlt h0 hi hy; omega
    · obtain rfl : i = n - 1 := by omega
      rw [hy] at hi; injection hi with hi; rw [hi]; exact Int.le_refl _

theorem bl_grown {w w' : World} {B : Nat} (h : Below B w w') (hB : w.heap.size ≤ B) (g : Option Nat) : w.grownBy w' g := ⟨h.os, h.tape, h.output, h.size, fun i hi _ => h.block i (by omega)⟩
theorem gr_below {a b c : World} {g : Option Nat} (h : a.grownBy b g) (k : Below b.heap.size b c) : a.grownBy c g :=
  ⟨k.os.trans h.os, k.tape.trans h.tape, k.output.trans h.output, Nat.le_trans h.size k.size, fun i hi hn => (k.block i (Nat.lt_of_lt_of_le hi h.size)).trans (h.block i hi hn)⟩
theorem wT_take (ws : List (Int × Int)) (k : Nat) (p : Int × Int) (h : ws[k]? = some p) : wT (ws.take (k + 1)) = wT (ws.take k) + (p.2 - p.1) := by
  rw [List.take_add_one, h, wT_append]; simp [wT]
theorem bey_in (lo hi : Int) (S : List Spn) (a : Int) : ∀ b, Jnd S a b → ∀ p ∈ bey lo hi S, a ≤ p.1 ∧ p.1 ≤ p.2 ∧ p.2 ≤ b := by
  refine snocS (P := fun S => ∀ b, Jnd S a b → ∀ p ∈ bey lo hi S, a ≤ p.1 ∧ p.1 ≤ p.2 ∧ p.2 ≤ b) (by intro b _ p hp; simp [bey] at hp) ?_ S
  intro S s ih b h p hp
  obtain ⟨h1, h2, h3⟩ := h.unsnoc
  have has := h1.time.2
  have ih := ih s.1 h1
  rw [bey_snoc] at hp
  by_cases hin : lo ≤ s.2.2 ∧ s.2.2 ≤ hi
  · rw [bStep_in hin] at hp
    have := ih p hp; omega
  · rcases List.eq_nil_or_concat (bey lo hi S) with e | ⟨ws, q, e⟩
    · rw [e, bStep_nil hin] at hp
      simp only [List.mem_singleton] at hp; subst hp; simp only; omega
    · rw [List.concat_eq_append] at e
      rw [e] at hp ih
      by_cases hq : q.2 = s.1
      · rw [bStep_join hin hq] at hp
        rcases List.mem_append.1 hp with hp | hp
        · have := ih p (List.mem_append_left _ hp); omega
        · simp only [List.mem_singleton] at hp; subst hp
          have := ih q (by simp); simp only; omega
      · rw [bStep_add hin hq] at hp
        rcases List.mem_append.1 hp with hp | hp
        · have := ih p hp; omega
        · simp only [List.mem_singleton] at hp; subst hp; simp only; omega
theorem wT_bound {D : Int} : ∀ ws : List (Int × Int), (∀ p ∈ ws, 0 ≤ p.2 - p.1 ∧ p.2 - p.1 ≤ D) → 0 ≤ wT ws ∧ wT ws ≤ ws.length * D
  | [], _ => by simp [wT]
  | p :: r, h => by
    have h1 := h p (by simp)
    have h2 := wT_bound r (fun q hq => h q (by simp [hq]))
    simp only [wT, List.length_cons]
    have : ((r.length + 1 : Nat) : Int) * D = r.length * D + D := by rw [Int.natCast_add, Int.add_mul]; simp
    omega
theorem le_of_mul_g {a b g : Int} (hg : 1 ≤ g) (h : a * g ≤ b * g) : a ≤ b := Int.le_of_mul_le_mul_right h (by omega)

set_option maxRecDepth 100000 in
set_option maxHeartbeats 8000000 in
theorem vmL_yes (w : World) (xs : List Int) (n c : Nat) (A : Option Addr) (hs : ∀ (W : World), Below w.heap.size w W → W.heap[w.heap.size]? = some (.cells #[.slice A n c, .int .i64 0] 25) → Strm W w.heap.size xs 0) :
    Calls Tryz.prog 5 #[.slice A n c] w fun e w' => e = .returned (.bool true) ∧ Below w.heap.size w w' := by
  have HS := Lib.hid hs
  clear hs
  go_enter Tryz.func5, Tryz.ntmps5
  go_wp2_with (fail)
  generalize hW : w.alloc (.cells #[.slice A n c, .int .i64 0] 25) = W
  have hWs : W.heap.size = w.heap.size + 1 := by rw [← hW]; simp
  have hB0 : Below w.heap.size w W := hW ▸ (Below.refl _ _).alloc (Nat.le_refl _) _
  have HS0 := Lib.hid (HS.out W hB0 (by rw [← hW]; exact heap_new w _))
  have HB0 := Lib.hid hB0
  clear hW hB0 HS
  have hN := nextN_lt xs 0 11 (by omega)
  obtain ⟨N, eN⟩ : ∃ N, N = nextN xs 0 11 := ⟨_, rfl⟩
  obtain ⟨l, el⟩ : ∃ l, l = serL xs 1 (-100) N := ⟨_, rfl⟩
  have HF := Lib.hid (show Vmt l from el ▸ serL_vmt xs 1 N (by rw [eN]; omega))
  have HN := Lib.hid (show l.length = N from el ▸ serL_length xs 1 (-100) N)
  refine (rightSeries_any W w.heap.size 0 10 (-100) xs (by omega) (by omega) HS0.out).mono ?_
  simp only [Nat.zero_add, Nat.reduceAdd]
  rw [← eN, ← el]
  rw [← eN] at hN
  clear el eN
  rintro e w1 ⟨v1, rfl, hown1, hst1, hg1⟩
  have hs1 := hg1.size
  obtain ⟨A1, c1, rfl⟩ := own_slice hown1
  have HO1 := Lib.hid hown1
  have HST1 := Lib.hid hst1
  have HB1 := Lib.hid (HB0.out.grown hg1 (by omega) (fun g hg => by injection hg with hg; omega))
  clear hg1 hst1 HS0
  rcases Nat.eq_zero_or_pos N with h0 | h0
  · subst h0
    clear hown1
    go_wp2_with (fail)
    refine (ready_yes w1).mono ?_
    rintro e w2 ⟨rfl, hb2⟩
    have HB2 := Lib.hid (HB1.out.trans (hb2.mono (by omega)))
    clear hb2
    go_wp2_with (fail)
    go_ret
    exact ⟨rfl, HB2.out⟩
  · obtain ⟨b1, rfl, hb1lo, hb1⟩ : ∃ g, A1 = some ⟨g, 0, none⟩ ∧ W.heap.size ≤ g ∧ g < w1.heap.size := by
      rcases own_two hown1 with ⟨_, h, _⟩ | h
      · omega
      · exact h
    obtain ⟨x, hx⟩ : ∃ x, l[0]? = some x := ⟨_, List.getElem?_eq_getElem (by have := HN.out; omega)⟩
    obtain ⟨y, hy⟩ : ∃ y, l[N - 1]? = some y := ⟨_, List.getElem?_eq_getElem (by have := HN.out; omega)⟩
    have hcs1 := own_cells0V hown1
    obtain ⟨_, _, s2, s3⟩ := smp_cells hcs1 0 x hx
    obtain ⟨_, _, z2, z3⟩ := smp_cells hcs1 (N - 1) y hy
    simp only [Nat.zero_mul, Nat.zero_add, Nat.add_zero] at s2 s3 z2 z3
    have HBT := Lib.hid (HF.out.between HN.out hx hy)
    have hxb := HF.out.ats x (List.mem_of_getElem? hx)
    have hyb := HF.out.ats y (List.mem_of_getElem? hy)
    have hxy := (HBT.out x (List.mem_of_getElem? hx)).2
    have hxv := HF.out.val x (List.mem_of_getElem? hx)
    have HX := Lib.hid hx
    obtain ⟨xa, xv⟩ := x
    obtain ⟨ya, yv⟩ := y
    simp only at s2 s3 z2 hxb hyb hxy hxv HBT
    have hN0 : (0 : Int) < (N : Int) := by omega
    have hNne : ¬ (N : Int) = 0 := by omega
    have hwN : IntKind.i64.wrap ((N : Int) - 1) = ((N - 1 : Nat) : Int) := by rw [IntKind.wrap_i64]; omega
    have hN1 : ((N - 1 : Nat) : Int) < (N : Int) := by omega
    have hN2 : N - 1 < N := by omega
    have hN3 : (0 : Int) ≤ ((N - 1 : Nat) : Int) := by omega
    clear hown1 hx hy hcs1 z3
    go_upto_region 5 with (fail)
    have HS1 := Lib.hid (And.intro s2 (And.intro z2 s3))
    go_cut [5] (fun s5 wx => ∃ (gw : Nat) (T : Int), s5 = .pointer (some ⟨gw, 0, none⟩) ∧ wx.heap[gw]? = some (.cells #[.int .i64 xa, .int .i64 T] 58) ∧ ya < T ∧ T ≤ ya + 100 ∧ Strm wx w.heap.size xs (1 + 2 * N + 1) ∧ w1.heap.size ≤ gw ∧ w1.grownBy wx (some w.heap.size))
    case first =>
      have HRNG := Lib.hid (fun (V : World) (hV : w1.grownBy V (some w.heap.size)) (hst : Strm V w.heap.size xs (1 + 2 * N)) => show Calls Tryz.prog 12 #[.pointer (some ⟨w.heap.size, 0, none⟩), .int .i64 1, .int .i64 100] V fun e w' => ∃ r : Int, e = .returned (.int .i64 r) ∧ (1 ≤ r ∧ r ≤ 100) ∧ Strm w' w.heap.size xs (1 + 2 * N + 1) ∧ w1.grownBy w' (some w.heap.size) ∧ V.grownBy w' (some w.heap.size) from
        (range_any V w.heap.size (1 + 2 * N) xs 1 100 (by omega) (by omega) (by omega) (by omega) (by omega) hst).mono fun e w' ⟨h1, h2, h3⟩ => ⟨_, h1, by have := nextV_range xs (1 + 2 * N) (100 - 1 + 1) (by omega); omega, h2, grown_trans hV h3, h3⟩)
      have HKC := Lib.hid (fun (V : World) (hV : w1.grownBy V (some w.heap.size)) => show V.cell? ⟨b1, 2, none⟩ = some (.int .i64 xa) ∧ V.cell? ⟨b1, (N - 1) * 4 + 2, none⟩ = some (.int .i64 ya) from
        ⟨hV.cell s2 (by simp; omega), hV.cell z2 (by simp; omega)⟩)
      have HRD := Lib.hid (HRNG.out w1.drew ⟨rfl, rfl, rfl, Nat.le_refl _, fun _ _ _ => rfl⟩ (HST1.out.keep fun b hb => rfl))
      have HRD2 := Lib.hid (HRNG.out (w1.alloc (.cells #[.int .i64 0, .int .i64 0] 58)).drew (grown_drewN (grown_alloc (grown_refl w1 (some w.heap.size)) _) 1) ((HST1.out.alloc (.cells #[.int .i64 0, .int .i64 0] 58)).keep fun b hb => rfl))
      have HNB := Lib.hid (fun (w3 : World) (hk : (w1.alloc (.cells #[.int .i64 0, .int .i64 0] 58)).drew.grownBy w3 (some w.heap.size)) => show w3.heap[w1.heap.size]? = some (.cells #[.int .i64 0, .int .i64 0] 58) from
        (hk.block w1.heap.size (by show w1.heap.size < (w1.alloc (.cells #[.int .i64 0, .int .i64 0] 58)).heap.size; simp) (by intro e; injection e with e; omega)).trans (heap_new w1 _))
      have HFZ := Lib.hid (fun (w3 : World) (h : w3.heap[w1.heap.size]? = some (.cells #[.int .i64 0, .int .i64 0] 58)) (j : Nat) => show w3.frozen? ⟨w1.heap.size, j, none⟩ = false by simp [World.frozen?, h])
      have hnb1 : ¬ b1 = w1.heap.size := by omega
      have hnb2 : ¬ w1.heap.size = b1 := by omega
      go_region_held3 (fun w' => w'.cell? ⟨b1, 2, none⟩ = some (.int .i64 xa) ∧ w'.cell? ⟨b1, (N - 1) * 4 + 2, none⟩ = some (.int .i64 ya))
        (first | go_keep | (exact hS))
        (first
          | (go_at_call 12; refine HRD.out.mono ?_; rintro e w3 ⟨r, rfl, hr, hst3, hg3, hk3⟩; have hS := HKC.out w3 hg3; have hwr : IntKind.i64.wrap (ya + r) = ya + r := (by rw [IntKind.wrap_i64]; omega))
          | (go_at_call 12; refine HRD2.out.mono ?_; rintro e w3 ⟨r, rfl, hr, hst3, hg3, hk3⟩; have hS := HKC.out w3 hg3; have hwr : IntKind.i64.wrap (ya + r) = ya + r := (by rw [IntKind.wrap_i64]; omega); have hnb := HNB.out w3 hk3; have n0 := cell_of_blk (j := 0) hnb rfl; have n1 := cell_of_blk (j := 1) hnb rfl; have nf0 := HFZ.out w3 hnb 0; have nf1 := HFZ.out w3 hnb 1))
      all_goals
        go_wp2_with (fail)
        go_meet
        first
          | exact ⟨_, _, rfl, heap_new w3 _, by omega, by omega, hst3.alloc _, hg3.size, grown_alloc hg3 _⟩
          | exact ⟨w1.heap.size, ya + r, rfl, by have h := heap_setCell_same _ _ 1 _ _ (.int .i64 (ya + r)) (heap_setCell_same _ _ 0 _ _ (.int .i64 xa) hnb); simpa using h, by omega, by omega,
              hst3.row (grown_set (grown_set (grown_refl w3 (some w1.heap.size)) (q := ⟨w1.heap.size, 0, none⟩) (.inl rfl) _) (q := ⟨w1.heap.size, 1, none⟩) (.inl rfl) _) (fun g e => by injection e with e; omega), Nat.le_refl _,
              grown_set (grown_set hg3 (q := ⟨w1.heap.size, 0, none⟩) (.inr (Nat.le_refl _)) _) (q := ⟨w1.heap.size, 1, none⟩) (.inr (Nat.le_refl _)) _⟩
    case rest =>
      obtain ⟨gw, T, rfl, hgw, hT1, hT2, hst2, hgwlo, hg2⟩ := hcut
      obtain ⟨w2, rfl⟩ : ∃ w2 : World, w2 = wc := ⟨_, rfl⟩
      have hs2 := hg2.size
      have hgwlt := (Array.getElem?_eq_some_iff.1 hgw).1
      have HO2 := Lib.hid (own_kept HO1.out hg2 (by omega))
      have HST2 := Lib.hid hst2
      have HGW := Lib.hid hgw
      have HB2 := Lib.hid (HB1.out.grown hg2 (by omega) (fun g hg => by injection hg with hg; omega))
      have t0 := cell_of_blk (j := 0) hgw rfl
      have t1 := cell_of_blk (j := 1) hgw rfl
      -- what the contracts ask of the series
      have HAL := Lib.hid (show ∀ s ∈ l, xa ≤ s.1 ∧ s.1 < T from fun s hs => ⟨(HBT.out s hs).1, by have := (HBT.out s hs).2; omega⟩)
      have HA0 := Lib.hid (show (l.getD 0 (0, 0)).1 = xa by simp [List.getD, HX.out])
      clear hst2 hg2 hgw HO1 HST1 HB1 s2 z2 s3
      go_wp2_with (fail)
      refine (held_any l N c1 (some ⟨b1, 0, none⟩) xa T w2 HN.out h0 (by omega) HF.out.good (own_row HO2.out) HA0.out HAL.out (by omega) (by omega) (by omega) (fun s hs => by have := HF.out.val s hs; omega)).mono ?_
      rintro e w3 ⟨⟨p, q, g, rfl, hp, hq, hg1, hq1⟩, hb3⟩
      have hs3 := hb3.size
      have HO3 := Lib.hid (own_below HO2.out hb3)
      have HST3 := Lib.hid (HST2.out.below hb3)
      have HGW3 := Lib.hid ((hb3.block gw hgwlt).trans HGW.out)
      have HB3 := Lib.hid (HB2.out.trans (hb3.mono (by omega)))
      have HPQ := Lib.hid (And.intro hp hq)
      have HJ := Lib.hid (spL_full l T N HN.out h0 HF.out.good (fun s hs => (HAL.out s hs).2))
      rw [HA0.out] at HJ
      have hqb : q ≤ 20000 := by
        have h1 := HJ.out.time.1
        rw [← hq] at h1
        have h2 : q * 1 ≤ q * g := Int.mul_le_mul_of_nonneg_left hg1 (by omega)
        omega
      have hcs3 := own_cells0V HO3.out
      obtain ⟨_, _, _, s3⟩ := smp_cells hcs3 0 _ HX.out
      simp only [Nat.zero_mul, Nat.zero_add] at s3
      have hb1w3 : b1 < w3.heap.size := by omega
      clear hb3 hp hq HO2 HST2 HB2 hcs3 t0 t1
      have hgwlt3 : gw < w3.heap.size := by omega
      have HK := Lib.hid (fun (V : World) (hV : w3.grownBy V (some w.heap.size)) => show Row V V.heap.size (some ⟨b1, 0, none⟩) (cellsOf l) ∧ V.heap[gw]? = some (.cells #[.int .i64 xa, .int .i64 T] 58) ∧ Below w.heap.size w V from
        ⟨own_row (own_kept HO3.out hV (by omega)), (hV.block gw hgwlt3 (by intro e; injection e with e; omega)).trans HGW3.out, HB3.out.grown hV (by omega) (fun g hg => by injection hg with hg; omega)⟩)
      have HKS := Lib.hid (fun (V : World) (hV : Below w3.heap.size w3 V) => HST3.out.below hV)
      have HCS := Lib.hid (own_cells0V HO3.out)
      go_wp2_with (fail)
      go_quiet (fail)
      go_wp2_with (fail)
      go_loopw [8, 9, 63] (fun lo hi i wr => ∃ (k : Nat) (a b : Int), k ≤ N ∧ i = .int .i64 k ∧ lo = .int .i64 a ∧ hi = .int .i64 b ∧ a ≤ b ∧ -100 ≤ a ∧ b ≤ 1000 ∧ (∀ s ∈ l.take k, a ≤ s.2 ∧ s.2 ≤ b) ∧ wr.heap[w3.heap.size]? = some (.cells #[.int .i64 p, .int .i64 q] 60) ∧ Below w3.heap.size w3 wr) (fun _ _ i _ => N - (intOf i).toNat)
      case atStart => exact ⟨0, xv, xv, Nat.zero_le _, rfl, rfl, rfl, Int.le_refl _, hxv.1, hxv.2, by simp, heap_new w3 _, below_drewN ((Below.refl _ _).alloc (Nat.le_refl _) _) _⟩
      case round =>
        obtain ⟨k, a, b, hk, rfl, rfl, rfl, hab, ha, hb, hall, hfr, hbl⟩ := hrel
        have hsz := hbl.size
        have HBL := Lib.hid hbl
        have HALL := Lib.hid hall
        have HFR := Lib.hid hfr
        by_cases hlt : k < N
        · obtain ⟨x, hx⟩ : ∃ x, l[k]? = some x := ⟨_, List.getElem?_eq_getElem (by have := HN.out; omega)⟩
          obtain ⟨r0, r1, r2, r3⟩ := smp_cells (HCS.out.keep (hbl.block b1 hb1w3)) k x hx
          simp only [Nat.zero_add] at r0 r1 r2 r3
          have hxv' := HF.out.val x (List.mem_of_getElem? hx)
          have HTK := Lib.hid (show l.take (k + 1) = l.take k ++ [x] by rw [List.take_add_one, hx]; rfl)
          obtain ⟨xk, xw⟩ := x
          simp only at r2 r3 hxv'
          obtain ⟨a', ea⟩ : ∃ a', a' = min a xw := ⟨_, rfl⟩
          obtain ⟨b', eb⟩ : ∃ b', b' = max b xw := ⟨_, rfl⟩
          have hmn : (if xw < a then xw else a) = a' := by rw [ea]; split <;> omega
          have hmx : (if b < xw then xw else b) = b' := by rw [eb]; split <;> omega
          have hmn2 : min a xw = a' := ea.symm
          have hmx2 : max b xw = b' := eb.symm
          have hab' : a' ≤ a ∧ b ≤ b' ∧ a' ≤ xw ∧ xw ≤ b' ∧ -100 ≤ a' ∧ b' ≤ 1000 := by rw [ea, eb]; omega
          have hlt' : (k : Int) < (N : Int) := by omega
          have hb1r : b1 < wr.heap.size := by omega
          clear hbl hall hfr hx ea eb
          go_wp2_with (fail)
          go_quiet (fail)
          go_wp2_with (fail)
          go_roundw
          case rel =>
            refine ⟨k + 1, a', b', by omega, by go_num, rfl, rfl, by omega, by omega, by omega, ?_, ?_, below_drewN (HBL.out.alloc hsz _) _⟩
            · rw [HTK.out]
              intro s hs
              rcases List.mem_append.1 hs with hs | hs
              · have := HALL.out s hs; omega
              · simp only [List.mem_singleton] at hs; subst hs; simp only; omega
            · exact (Below.heap_alloc _ _ _ (Array.getElem?_eq_some_iff.1 HFR.out).1).trans HFR.out
          case measure => simp [intOf]; omega
        · have hkN : k = N := by omega
          subst hkN
          rw [List.take_of_length_le (by have := HN.out; omega)] at HALL
          have f0 := cell_of_blk (j := 0) hfr rfl
          have f1 := cell_of_blk (j := 1) hfr rfl
          have hg3 := bl_grown hbl (Nat.le_refl _) (some w.heap.size)
          have hk3 := HK.out wr hg3
          have t0 := cell_of_blk (j := 0) hk3.2.1 rfl
          have t1 := cell_of_blk (j := 1) hk3.2.1 rfl
          have HG3 := Lib.hid hg3
          obtain ⟨S, eS⟩ : ∃ S, S = spL l T k := ⟨_, rfl⟩
          rw [← eS] at HJ HPQ
          have HSV := Lib.hid (show ∀ s ∈ S, a ≤ s.2.2 ∧ s.2.2 ≤ b from fun s hs => by
            rw [eS] at hs
            obtain ⟨x, hx, e⟩ := spL_val l T k (by have := HN.out; omega) s hs
            rw [e]; exact HALL.out x hx)
          have hSl : 0 < S.length := by rw [eS, spL_length]; exact h0
          have hbet := hS_between HJ.out HSV.out
          rw [← HPQ.out.1, ← HPQ.out.2, ← Int.mul_assoc, ← Int.mul_assoc] at hbet
          have hlq := le_of_mul_g hg1 hbet.1
          have hhq := le_of_mul_g hg1 hbet.2
          have hmb1 := mul_between ha (show a ≤ 1000 by omega) (show 0 ≤ q by omega)
          have hmb2 := mul_between (show -100 ≤ b by omega) hb (show 0 ≤ q by omega)
          obtain ⟨m1, em1⟩ : ∃ m1, m1 = a * q := ⟨_, rfl⟩
          obtain ⟨m2, em2⟩ : ∃ m2, m2 = b * q := ⟨_, rfl⟩
          rw [← em1] at hlq hmb1
          rw [← em2] at hhq hmb2
          have hw1 : IntKind.i64.wrap (a * q) = m1 := by rw [← em1, IntKind.wrap_i64]; omega
          have hw2 : IntKind.i64.wrap (b * q) = m2 := by rw [← em2, IntKind.wrap_i64]; omega
          have hq0 : ¬ q < 1 := by omega
          have hn1 : ¬ p < m1 := by omega
          have hn2 : ¬ m2 < p := by omega
          have HEQ := Lib.hid eS
          have HTT := Lib.hid HJ.out.time.1
          have BY := Lib.hid (fun (V : World) (lo hi : Int) (hV : w3.grownBy V (some w.heap.size)) (h : lo ≤ hi) => beyond_any l k c1 (some ⟨b1, 0, none⟩) xa T lo hi V HN.out (by omega) HF.out.good (HK.out V hV).1 HAL.out (by omega) (by omega) (by omega) h)
          rw [← eS] at BY
          have hgwr : gw < wr.heap.size := by omega
          have hfwr : w3.heap.size < wr.heap.size := (Array.getElem?_eq_some_iff.1 hfr).1
          clear hbl hall hfr hg3 hk3 hbet em1 em2 eS
          go_wp2_with (fail)
          refine (BY.out wr a b HG3.out hab).mono ?_
          rintro e w5 ⟨v5, rfl, ho5, hb5⟩
          rw [bey_none a b S HSV.out] at ho5
          simp only [List.length_nil] at ho5
          obtain ⟨A5, c5, rfl⟩ := own_slice ho5
          have hg5 := gr_below HG3.out hb5
          have HG5 := Lib.hid hg5
          have t0 := cell_of_blk (j := 0) (HK.out w5 hg5).2.1 rfl
          have t1 := cell_of_blk (j := 1) (HK.out w5 hg5).2.1 rfl
          have hs5 := hg5.size
          have hgw5 : gw < w5.heap.size := by omega
          have hwb : IntKind.i64.wrap (b + 1) = b + 1 := by rw [IntKind.wrap_i64]; omega
          have HB5 := Lib.hid (HBL.out.trans (hb5.mono hsz))
          clear hb5 ho5 hg5 f0 f1
          go_wp2_with (fail)
          refine (BY.out w5 (b + 1) (b + 1) HG5.out (Int.le_refl _)).mono ?_
          rintro e w6 ⟨v6, rfl, ho6, hb6⟩
          rw [bey_all (b + 1) (b + 1) S (fun s hs h => by have := HSV.out s hs; omega) xa T HJ.out hSl] at ho6
          simp only [List.length_cons, List.length_nil] at ho6
          obtain ⟨A6, c6, rfl⟩ := own_slice ho6
          have hg6 := gr_below HG5.out hb6
          have HO6 := Lib.hid ho6
          have HG6 := Lib.hid hg6
          have HB6 := Lib.hid (HB5.out.trans (hb6.mono hs5))
          have hs6 := hg6.size
          have HST6 := Lib.hid (HKS.out w6 HB6.out)
          clear hb6 ho6 hg6 hwb
          go_wp2_with (fail)
          refine (range_any w6 w.heap.size (1 + 2 * k + 1) xs a b (by omega) (by omega) hab (by omega) (by omega) HST6.out).mono ?_
          rintro e w7 ⟨rfl, _, hg7'⟩
          have hcut := nextV_range xs (1 + 2 * k + 1) (b - a + 1) (by omega)
          obtain ⟨cut, ecut⟩ : ∃ cut, cut = a + nextV xs (1 + 2 * k + 1) (b - a + 1) := ⟨_, rfl⟩
          rw [← ecut]
          have hcut2 : a ≤ cut ∧ cut ≤ b := by omega
          have hg7 := grown_trans HG6.out hg7'
          have HG7 := Lib.hid hg7
          have hs7 := hg7.size
          have ho7 := own_kept HO6.out hg7' (by have := HG5.out.size; omega)
          have HO7 := Lib.hid ho7
          have t0 := cell_of_blk (j := 0) (HK.out w7 hg7).2.1 rfl
          have t1 := cell_of_blk (j := 1) (HK.out w7 hg7).2.1 rfl
          have hgw7 : gw < w7.heap.size := by omega
          have hs67 := hg7'.size
          clear hg7 hg7' hcut ecut ho7 HO6 HST6
          go_wp2_with (fail)
          refine (BY.out w7 a cut HG7.out hcut2.1).mono ?_
          rintro e w8 ⟨v8, rfl, ho8, hb8⟩
          obtain ⟨over, eov⟩ : ∃ over, over = bey a cut S := ⟨_, rfl⟩
          obtain ⟨no, eno⟩ : ∃ no, no = over.length := ⟨_, rfl⟩
          rw [← eov, ← eno] at ho8
          have HOV := Lib.hid (And.intro eov eno)
          clear eov eno
          obtain ⟨A8, c8, rfl⟩ := own_slice ho8
          have hg8 := gr_below HG7.out hb8
          have HG8 := Lib.hid hg8
          have HO8 := Lib.hid ho8
          have HO78 := Lib.hid (own_below HO7.out hb8)
          have t0 := cell_of_blk (j := 0) (HK.out w8 hg8).2.1 rfl
          have t1 := cell_of_blk (j := 1) (HK.out w8 hg8).2.1 rfl
          have hs8 := hg8.size
          have hgw8 : gw < w8.heap.size := by omega
          have hwc : IntKind.i64.wrap (cut + 1) = cut + 1 := by rw [IntKind.wrap_i64]; omega
          obtain ⟨mx, emx⟩ : ∃ mx, mx = max b (cut + 1) := ⟨_, rfl⟩
          have hmx : (if b < cut + 1 then cut + 1 else b) = mx := by rw [emx]; split <;> omega
          have hmx2 : max b (cut + 1) = mx := emx.symm
          have hmxc : cut + 1 ≤ mx := by omega
          have HMX := Lib.hid emx
          clear hb8 ho8 hg8 emx HO7
          go_wp2_with (fail)
          refine (BY.out w8 (cut + 1) mx HG8.out hmxc).mono ?_
          rintro e w9 ⟨v9, rfl, ho9, hb9⟩
          obtain ⟨under, eun⟩ : ∃ under, under = bey (cut + 1) mx S := ⟨_, rfl⟩
          obtain ⟨nu, enu⟩ : ∃ nu, nu = under.length := ⟨_, rfl⟩
          rw [← eun, ← enu] at ho9
          obtain ⟨A9, c9, rfl⟩ := own_slice ho9
          have hg9 := gr_below HG8.out hb9
          have HG9 := Lib.hid hg9
          have HOU := Lib.hid (And.intro HOV.out.1 eun)
          have HTOT := Lib.hid (show wT over + wT under = T - xa by
            rw [HOV.out.1, eun, HMX.out, bey_both a cut b S HSV.out, HTT.out])
          have hlo : no ≤ 10 := by
            have h1 := bey_length a cut S k
            have h2 := HEQ.out
            rw [List.take_of_length_le (by rw [h2, spL_length]; exact Nat.le_refl _)] at h1
            rw [HOV.out.2, HOV.out.1]; omega
          have hlu : nu ≤ 10 := by
            have h1 := bey_length (cut + 1) mx S k
            have h2 := HEQ.out
            rw [List.take_of_length_le (by rw [h2, spL_length]; exact Nat.le_refl _)] at h1
            rw [enu, eun]; omega
          have HO89 := Lib.hid (own_below HO8.out hb9)
          have HO79 := Lib.hid (own_below HO78.out hb9)
          have HO9 := Lib.hid ho9
          have hs9 := hg9.size
          have HNL := Lib.hid (And.intro HOV.out.2.symm enu.symm)
          clear hb9 ho9 hg9 eun enu HO8 HO78 hwc hmx hmx2
          have HBI := Lib.hid (show ∀ p ∈ over ++ under, 0 ≤ p.2 - p.1 ∧ p.2 - p.1 ≤ 20000 from fun p hp => by
            rw [HOU.out.1, HOU.out.2] at hp
            rcases List.mem_append.1 hp with hp | hp
            · have := bey_in a cut S xa T HJ.out p hp; omega
            · have := bey_in (cut + 1) mx S xa T HJ.out p hp; omega)
          go_wp2_with (fail)
          refine (catW_any over under no nu c8 c9 w9.heap.size A8 A9 _ HNL.out.1 HNL.out.2 (by omega) (by omega) (cell_of_blk (heap_new w9 _) rfl) (cell_of_blk (heap_new w9 _) rfl) ((own_ly HO89.out).below ((Below.refl _ _).alloc (Nat.le_refl _) _)) ((own_ly HO9.out).below ((Below.refl _ _).alloc (Nat.le_refl _) _))).mono ?_
          rintro e w10 ⟨v10, rfl, ho10, hb10⟩
          simp only [World.size_alloc] at hb10
          have hs10 : w9.heap.size + 1 ≤ w10.heap.size := by have := hb10.size; simpa using this
          have hb910 : Below w9.heap.size w9 w10 := ⟨hb10.os, hb10.tape, hb10.output, by omega, fun i hi => (hb10.block i (by omega)).trans (Below.heap_alloc _ _ i hi)⟩
          obtain ⟨A10, c10, rfl⟩ := own_slice ho10
          have HR10 := Lib.hid (own_row ho10)
          have HB10 := Lib.hid hb910
          obtain ⟨ws, ews⟩ : ∃ ws, ws = over ++ under := ⟨_, rfl⟩
          rw [← ews] at HBI HR10
          obtain ⟨m, em⟩ : ∃ m, m = no + nu := ⟨_, rfl⟩
          rw [← em]
          have HM := Lib.hid (show ws.length = m by rw [ews, List.length_append, HNL.out.1, HNL.out.2, em])
          have HWT := Lib.hid (show wT ws = T - xa by rw [ews, wT_append, HTOT.out])
          have hm20 : m ≤ 20 := by omega
          clear ho10 hb10 hb910 ews em
          go_wp2_with (fail)
          go_loopw [20, 148] (fun s i wr => ∃ j : Nat, j ≤ m ∧ i = .int .i64 j ∧ s = .int .i64 (wT (ws.take j)) ∧ Below w10.heap.size w10 wr) (fun _ i _ => m - (intOf i).toNat)
          case atStart => exact ⟨0, Nat.zero_le _, rfl, by simp [wT], Below.refl _ _⟩
          case round =>
            obtain ⟨j, hj, rfl, rfl, hbl⟩ := hrel
            have hsz := hbl.size
            have HBL2 := Lib.hid hbl
            by_cases hlt : j < m
            · obtain ⟨bb, o, rfl, hbb, hcs⟩ := Row.posW HR10.out (by have := HM.out; omega)
              obtain ⟨p', hp'⟩ : ∃ p', ws[j]? = some p' := ⟨_, List.getElem?_eq_getElem (by have := HM.out; omega)⟩
              obtain ⟨e0, e1⟩ := win_cells (hcs.keep (hbl.block bb hbb)) j p' hp'
              have hpb := HBI.out p' (List.mem_of_getElem? hp')
              have HT1 := Lib.hid (wT_take ws j p' hp')
              have hsum := wT_bound (D := 20000) (ws.take j) (fun q hq => HBI.out q (List.mem_of_mem_take hq))
              have hlen : ((ws.take j).length : Int) ≤ 20 := by simp only [List.length_take]; omega
              obtain ⟨sm, esm⟩ : ∃ sm, sm = wT (ws.take j) := ⟨_, rfl⟩
              rw [← esm] at hsum HT1 ⊢
              obtain ⟨pf, pt⟩ := p'
              simp only at e0 e1 hpb HT1
              have hsm : 0 ≤ sm ∧ sm ≤ 400000 := by
                have : ((ws.take j).length : Int) * 20000 ≤ 20 * 20000 := Int.mul_le_mul_of_nonneg_right hlen (by omega)
                omega
              obtain ⟨dd, edd⟩ : ∃ dd, dd = pt - pf := ⟨_, rfl⟩
              have HDD := Lib.hid edd
              have hwd2 : IntKind.i64.wrap (pt - pf) = dd := by rw [IntKind.wrap_i64]; omega
              have hdd : 0 ≤ dd ∧ dd ≤ 20000 := by omega
              have hws : IntKind.i64.wrap (sm + dd) = sm + dd := by rw [IntKind.wrap_i64]; omega
              have hlt' : (j : Int) < (m : Int) := by omega
              have hbbw : bb < wr.heap.size := by omega
              clear hbl hcs hp' hsum hlen esm hpb edd
              go_wp2_with (fail)
              go_roundw
              case rel => exact ⟨j + 1, by omega, by go_num, by rw [HT1.out, HDD.out], HBL2.out.alloc hsz _⟩
              case measure => simp [intOf]; omega
            · have hjm : j = m := by omega
              subst hjm
              rw [List.take_of_length_le (by have := HM.out; omega), HWT.out]
              have hg11 := gr_below (gr_below HG9.out HB10.out) hbl
              have hk11 := HK.out wr hg11
              have t0 := cell_of_blk (j := 0) hk11.2.1 rfl
              have t1 := cell_of_blk (j := 1) hk11.2.1 rfl
              have HBW := Lib.hid hk11.2.2
              have hgw11 : gw < wr.heap.size := by have := hg11.size; omega
              have hb911 : Below w9.heap.size w9 wr := HB10.out.trans (hbl.mono (by have := HB10.out.size; omega))
              have HB11 := Lib.hid hb911
              have HK11 := Lib.hid hk11.2.1
              have HR6 := Lib.hid (own_row (own_below HO79.out hb911))
              have HF4 := Lib.hid (Cells.new wr #[.int .i64 0, .int .i64 0, .int .i64 0, .int .i64 0] 31 (0, 0) (List.replicate 4 (.int .i64 0)) rfl)
              have hwTx : IntKind.i64.wrap (T - xa) = T - xa := by rw [IntKind.wrap_i64]; omega
              clear hbl hg11 hk11 hb911
              go_wp2_with (go_at_call 24; refine (errs_ok 4 4 _ _ (by omega) HF4.out).mono ?_; rintro e w' ⟨rfl, rfl⟩)
              have hw1r : w9.heap.size ≤ wr.heap.size := HB11.out.size
              have HB12 := Lib.hid (HB11.out.alloc hw1r (.cells #[.int .i64 0, .int .i64 0, .int .i64 0, .int .i64 0] 31))
              have HEQW := Lib.hid (fun (V : World) (c' : Nat) (A' : Option Addr) (hV : Below w9.heap.size w9 V) (hr : Row V V.heap.size A' (wCells [(xa, T)])) => eqW_any [(xa, T)] 1 c6 c' A6 A' V rfl (by omega) (own_row (own_below HO79.out hV)) hr)
              refine (HEQW.out _ 1 (some ⟨wr.heap.size + 1, 0, none⟩) ?_ ?_).mono ?_
              · exact HB12.out.alloc (by simp; omega) _
              · exact .inr ⟨wr.heap.size + 1, 0, rfl, by simp, cells_newE rfl (by simp)⟩
              rintro e w12 ⟨rfl, hb12⟩
              simp only [World.size_alloc] at hb12
              have hs12 : wr.heap.size + 1 + 1 ≤ w12.heap.size := by have := hb12.size; simpa using this
              have hbr : Below wr.heap.size wr w12 := ⟨hb12.os, hb12.tape, hb12.output, by omega, fun i hi => (hb12.block i (by omega)).trans ((Below.heap_alloc _ _ i (by simp; omega)).trans (Below.heap_alloc _ _ i hi))⟩
              have HBX := Lib.hid (HBW.out.trans (hbr.mono (by have := HBW.out.size; omega)))
              have t0 := cell_of_blk (j := 0) ((hbr.block gw hgw11).trans HK11.out) rfl
              have t1 := cell_of_blk (j := 1) ((hbr.block gw hgw11).trans HK11.out) rfl
              have hgw12 : gw < w12.heap.size := by omega
              clear hb12 hbr
              go_wp2_with (fail)
              refine (ready_yes w12).mono ?_
              rintro e w13 ⟨rfl, hb13⟩
              have HB13 := Lib.hid (HBX.out.trans (hb13.mono (by have := HBX.out.size; omega)))
              clear hb13
              go_wp2_with (fail)
              go_ret
              exact ⟨rfl, HB13.out⟩
end Go.Proofs.YtbimiojoihfnkaaGreatDoor
