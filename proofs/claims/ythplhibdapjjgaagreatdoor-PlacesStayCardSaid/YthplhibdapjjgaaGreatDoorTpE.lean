/- place.Plain's function, which calls itself, by its contract. -/
import Derived.Test.YthplhibdapjjgaaGreatDoorTpDa
import Derived.BigRegion
import Derived.Test.YthplhibdapjjgaaGreatDoorFxB
namespace Go.Proofs.YthplhibdapjjgaaGreatDoor
open Go.RowKit

/-- Where Plain's function stands: its four variables and the marks. -/
structure PSt (w : World) (gk gm gl gb kb n c : Nat) (A : Option Addr) (most : Int) (l : List Fx) (B : List Bool) : Prop where
  vk : w.heap[gk]? = some (.cells #[.slice (some ⟨kb, 0, none⟩) n n] 75 (0, 0))
  vm : w.heap[gm]? = some (.cells #[.int .i64 most] 3 (0, 0))
  vl : w.heap[gl]? = some (.cells #[.slice A n c] 30 (0, 0))
  vb : w.heap[gb]? = some (.cells #[.func (.func 42) #[] #[.pointer (some ⟨gk, 0, none⟩), .pointer (some ⟨gm, 0, none⟩), .pointer (some ⟨gl, 0, none⟩), .pointer (some ⟨gb, 0, none⟩)]] 76 (0, 0))
  row : ∃ b o, A = some ⟨b, o, none⟩ ∧ b < w.heap.size ∧ b ≠ kb ∧ Cells w b o (recs fxC l)
  kbl : w.heap[kb]? = some (.cells (B.map Value.bool).toArray 4 (0, 0))
  len : B.length = n
  ne : gk ≠ kb ∧ gm ≠ kb ∧ gl ≠ kb ∧ gb ≠ kb
theorem PSt.step {w w' : World} {gk gm gl gb kb n c : Nat} {A : Option Addr} {most : Int} {l : List Fx} {B B' : List Bool} (h : PSt w gk gm gl gb kb n c A most l B) (hg : w.grownBy w' (some kb)) (hb : w'.heap[kb]? = some (.cells (B'.map Value.bool).toArray 4 (0, 0))) (hl : B'.length = n) :
    PSt w' gk gm gl gb kb n c A most l B' := by
  have kp : ∀ {g : Nat} {o : Obj}, w.heap[g]? = some o → g ≠ kb → w'.heap[g]? = some o := fun h1 h2 =>
    (hg.block _ (Array.getElem?_eq_some_iff.1 h1).1 (fun e => h2 (Option.some.inj e))).trans h1
  obtain ⟨b, o, e, hlt, hne, hc⟩ := h.row
  exact ⟨kp h.vk h.ne.1, kp h.vm h.ne.2.1, kp h.vl h.ne.2.2.1, kp h.vb h.ne.2.2.2, ⟨b, o, e, by have := hg.size; omega, hne, hc.keep (hg.block b hlt (fun e => hne (Option.some.inj e)))⟩, hb, hl, h.ne⟩
theorem bools_set (B : List Bool) (j : Nat) (v : Bool) : ((B.map Value.bool).toArray.setIfInBounds j (.bool v)) = ((B.set j v).map Value.bool).toArray := by simp [List.map_set]
theorem PSt.mark {w : World} {gk gm gl gb kb n c : Nat} {A : Option Addr} {most : Int} {l : List Fx} {B : List Bool} (h : PSt w gk gm gl gb kb n c A most l B) (j : Nat) (v : Bool) :
    PSt (w.setCell ⟨kb, j, none⟩ (.bool v)) gk gm gl gb kb n c A most l (B.set j v) ∧ w.grownBy (w.setCell ⟨kb, j, none⟩ (.bool v)) (some kb) := by
  have hg := grown_set (grown_refl w (some kb)) (q := ⟨kb, j, none⟩) (.inl rfl) (.bool v)
  refine ⟨h.step hg ?_ (by simp [h.len]), hg⟩
  have := heap_setCell_same _ _ j _ _ (.bool v) h.kbl
  rw [bools_set] at this
  exact this

theorem PSt.cell {w : World} {gk gm gl gb kb n c : Nat} {A : Option Addr} {most : Int} {l : List Fx} {B : List Bool} (h : PSt w gk gm gl gb kb n c A most l B) {j : Nat} (hj : j < n) :
    w.cell? ⟨kb, j, none⟩ = some (.bool (B.getD j false)) := by
  have hl := h.len
  refine cell_of_blk h.kbl ?_
  simp only [List.getElem?_toArray, List.getElem?_map, List.getD]
  rw [List.getElem?_eq_getElem (show j < B.length by omega)]
  rfl
theorem PSt.froz {w : World} {gk gm gl gb kb n c : Nat} {A : Option Addr} {most : Int} {l : List Fx} {B : List Bool} (h : PSt w gk gm gl gb kb n c A most l B) (j : Nat) :
    w.frozen? ⟨kb, j, none⟩ = false := by simp [World.frozen?, h.kbl]
theorem PSt.drew {w : World} {gk gm gl gb kb n c : Nat} {A : Option Addr} {most : Int} {l : List Fx} {B : List Bool} (h : PSt w gk gm gl gb kb n c A most l B) : PSt w.drew gk gm gl gb kb n c A most l B := by
  obtain ⟨b, o, e, hlt, hne, hc⟩ := h.row
  exact ⟨h.vk, h.vm, h.vl, h.vb, ⟨b, o, e, hlt, hne, hc.keep rfl⟩, h.kbl, h.len, h.ne⟩
theorem PSt.two {w : World} {gk gm gl gb kb n c : Nat} {A : Option Addr} {most : Int} {l : List Fx} {B : List Bool} (h : PSt w gk gm gl gb kb n c A most l B) (i k : Nat) :
    PSt ((w.setCell ⟨kb, i, none⟩ (.bool true)).setCell ⟨kb, k, none⟩ (.bool true)).drew gk gm gl gb kb n c A most l ((B.set i true).set k true) ∧ w.grownBy ((w.setCell ⟨kb, i, none⟩ (.bool true)).setCell ⟨kb, k, none⟩ (.bool true)).drew (some kb) := by
  have h1 := h.mark i true
  have h2 := h1.1.mark k true
  exact ⟨h2.1.drew, grown_drew1 (grown_set h1.2 (q := ⟨kb, k, none⟩) (.inl rfl) (.bool true))⟩

theorem PSt.below {w w' : World} {gk gm gl gb kb n c : Nat} {A : Option Addr} {most : Int} {l : List Fx} {B : List Bool} (h : PSt w gk gm gl gb kb n c A most l B) (hb : Below w.heap.size w w') : PSt w' gk gm gl gb kb n c A most l B :=
  h.step ⟨hb.os, hb.tape, hb.output, hb.size, fun k hk _ => hb.block k hk⟩ ((hb.block _ (Array.getElem?_eq_some_iff.1 h.kbl).1).trans h.kbl) h.len
theorem grown_bel {a b c : World} {p : Nat} (h : a.grownBy b (some p)) (k : Below b.heap.size b c) : a.grownBy c (some p) :=
  ⟨k.os.trans h.os, k.tape.trans h.tape, k.output.trans h.output, Nat.le_trans h.size k.size, fun i hi hne => (k.block i (Nat.lt_of_lt_of_le hi h.size)).trans (h.block i hi hne)⟩
theorem heap_newD (w : World) (o : Obj) : (w.alloc o).heap[w.heap.size]? = some o := by
  show (w.heap.push o)[w.heap.size]? = some o
  rw [Array.getElem?_push_size]
theorem z_bel {B : Nat} {a w w' : World} {o : Obj} (h : Below B a w) (hs : B ≤ w.heap.size) (k : Below (w.alloc o).heap.size (w.alloc o) w') : Below B a w' :=
  (h.alloc hs o).trans (k.mono (Nat.le_trans hs (by simp)))
theorem z_new {w w' : World} {o : Obj} (k : Below (w.alloc o).heap.size (w.alloc o) w') : w'.heap[w.heap.size]? = some o :=
  (k.block _ (by simp)).trans (heap_newD w o)
theorem z_bel0 {w w' : World} {o : Obj} (k : Below (w.alloc o).drew.heap.size (w.alloc o).drew w') : Below w.heap.size w w' :=
  (((Below.refl w.heap.size w).alloc (Nat.le_refl _) o).drew).trans (k.mono (by show w.heap.size ≤ (w.alloc o).heap.size; simp))
theorem z_new0 {w w' : World} {o : Obj} (k : Below (w.alloc o).drew.heap.size (w.alloc o).drew w') : w'.heap[w.heap.size]? = some o :=
  (k.block _ (by show w.heap.size < (w.alloc o).heap.size; simp)).trans (heap_newD w o)
theorem z_carry {w w' : World} {g : Nat} {o : Obj} (k : Below w.heap.size w w') (h : w.heap[g]? = some o) : w'.heap[g]? = some o :=
  (k.block _ (Array.getElem?_eq_some_iff.1 h).1).trans h
theorem z_froz {w : World} {g : Nat} {cs : Array Value} {t : TypeId} (h : w.heap[g]? = some (.cells cs t (0, 0))) (j : Nat) : w.frozen? ⟨g, j, none⟩ = false := by simp [World.frozen?, h]
theorem z_set {w : World} {g : Nat} {x y u v : Value} {t : TypeId} (h : w.heap[g]? = some (.cells #[x, y] t (0, 0))) : ((w.setCell ⟨g, 0, none⟩ u).setCell ⟨g, 1, none⟩ v).heap[g]? = some (.cells #[u, v] t (0, 0)) := by
  have h1 := heap_setCell_same w g 0 _ _ u h
  have h2 := heap_setCell_same _ g 1 _ _ v h1
  exact h2
theorem gr_tr {a b c : World} {p : Nat} (h : a.grownBy b (some p)) (k : b.grownBy c (some p)) : a.grownBy c (some p) :=
  ⟨k.os.trans h.os, k.tape.trans h.tape, k.output.trans h.output, Nat.le_trans h.size k.size, fun i hi hne => (k.block i (Nat.lt_of_lt_of_le hi h.size) hne).trans (h.block i hi hne)⟩
/-- What a call leaves. -/
def P1 (far : Int) (gk gm gl gb kb n c : Nat) (A : Option Addr) (l : List Fx) (i k : Nat) (B : List Bool) (w w' : World) : Prop :=
  ∃ B', Btw far l B B' i k ∧ PSt w' gk gm gl gb kb n c A far l B' ∧ w.grownBy w' (some kb)
/-- What the search for the farthest keeps. -/
def Far1 (mo : Nat) (l : List Fx) (i k j : Nat) (a : Int) (P Q : Nat) : Prop :=
  (a = -1 ∧ P = mo * mo ∧ Q = 1 ∧ ∀ m, i < m → m < j → nearW mo (getF l i) (getF l k) (getF l m)) ∨ ∃ b : Nat, a = (b : Int) ∧ i < b ∧ b < k
theorem Far1.no {mo : Nat} {l : List Fx} {i k j : Nat} {a : Int} {P Q p q : Nat} (h : Far1 mo l i k j a P Q) (hf : farIs (getF l i) (getF l k) (getF l j) p q) (hn : ¬ P * q < p * Q) : Far1 mo l i k (j + 1) a P Q := by
  rcases h with ⟨h1, h2, h3, h4⟩ | h
  · refine Or.inl ⟨h1, h2, h3, fun m h5 h6 => ?_⟩
    rcases Nat.lt_or_ge m j with h7 | h7
    · exact h4 m h5 h7
    · obtain rfl : m = j := by omega
      refine nearW_of hf ?_
      rw [h2, h3, Nat.mul_one] at hn
      have := Int.ofNat_le.2 (Nat.le_of_not_lt hn)
      rw [Int.natCast_mul, Int.natCast_mul] at this
      exact this
  · exact Or.inr h

set_option maxRecDepth 100000 in
set_option maxHeartbeats 8000000 in
theorem plain1_step (i k gk gm gl gb kb n c : Nat) (A : Option Addr) (mo : Nat) (l : List Fx) (B : List Bool) (w : World) (hik : i ≤ k) (hk : k < n) (hn : n ≤ 100) (hmo : mo ≤ 1000) (hln : l.length = n) (hnar : ∀ x ∈ l, NarF x) (hp : PSt w gk gm gl gb kb n c A (mo : Int) l B)
    (hbf : ∀ m, i < m → m < k → B[m]? = some false)
    (HIH : Hid (∀ (i' k' : Nat) (B' : List Bool) (w' : World), i ≤ i' → i' < k' → k' ≤ k → k' - i' < k - i → PSt w' gk gm gl gb kb n c A (mo : Int) l B' → (∀ m, i' < m → m < k' → B'[m]? = some false) → Calls Tryz.prog 42 #[.int .i64 (i' : Int), .int .i64 (k' : Int), .pointer (some ⟨gk, 0, none⟩), .pointer (some ⟨gm, 0, none⟩), .pointer (some ⟨gl, 0, none⟩), .pointer (some ⟨gb, 0, none⟩)] w' fun e w'' => e = .returned (.tuple #[]) ∧ P1 mo gk gm gl gb kb n c A l i' k' B' w' w'')) :
    Calls Tryz.prog 42 #[.int .i64 (i : Int), .int .i64 (k : Int), .pointer (some ⟨gk, 0, none⟩), .pointer (some ⟨gm, 0, none⟩), .pointer (some ⟨gl, 0, none⟩), .pointer (some ⟨gb, 0, none⟩)] w fun e w' => e = .returned (.tuple #[]) ∧ P1 mo gk gm gl gb kb n c A l i k B w w' := by
  have HNAR := Lib.hid hnar
  have HBF := Lib.hid hbf
  have HLN := Lib.hid hln
  have HBL := Lib.hid hp.len
  clear hnar hbf hln
  have HP := Lib.hid hp
  have k0 := cell_of_blk (j := 0) hp.vk rfl
  have m0 := cell_of_blk (j := 0) hp.vm rfl
  have hgk := (Array.getElem?_eq_some_iff.1 hp.vk).1
  have hgm := (Array.getElem?_eq_some_iff.1 hp.vm).1
  have hkb := (Array.getElem?_eq_some_iff.1 hp.kbl).1
  have hi2 : i < n := by omega
  have bi := hp.cell hi2
  have bk := hp.cell hk
  have fi := hp.froz i
  have fk := hp.froz k
  have hi1 : (i : Int) < (n : Int) := by omega
  have hk1 : (k : Int) < (n : Int) := by omega
  have hne1 := hp.ne.1
  have hne2 := hp.ne.2.1
  have mi := hp.mark i true
  have mk := hp.mark k true
  have bik := mi.1.cell hk
  have bki := mk.1.cell hi2
  have fik := mi.1.froz k
  have fki := mk.1.froz i
  have HT1 := Lib.hid (hp.two i k)
  have HT2 := Lib.hid (hp.two k i)
  clear hp mi mk
  go_enter Tryz.func42, Tryz.ntmps42
  go_wp2_with (fail)
  go_cut [] (fun wx => PSt wx gk gm gl gb kb n c A (mo : Int) l ((B.set i true).set k true) ∧ w.grownBy wx (some kb))
  case first =>
    go_region
    all_goals
      go_wp2_with (fail)
      go_meet
      first
        | with_reducible exact HT1.out
        | with_reducible exact HT2.out
  case rest =>
    obtain ⟨hPx, hGx⟩ := hcut
    obtain ⟨V, rfl⟩ : ∃ V : World, V = wc := ⟨_, rfl⟩
    have HP1 := Lib.hid hPx
    have HG1 := Lib.hid hGx
    have m0 := cell_of_blk (j := 0) hPx.vm rfl
    have hgm1 := (Array.getElem?_eq_some_iff.1 hPx.vm).1
    have wmo : IntKind.i64.wrap ((mo : Int) * (mo : Int)) = (mo : Int) * (mo : Int) := by
      have := Nat.mul_le_mul hmo hmo
      rw [IntKind.wrap_i64]
      omega
    clear hPx hGx bi bk fi fk bik bki fik fki HT1 HT2
    go_upto_region 1 with (fail)
    go_cut [9, 8] (fun s9 s8 wx => s9 = .pointer (some ⟨V.heap.size, 0, none⟩) ∧ s8 = .int .i64 (-1) ∧ PSt wx gk gm gl gb kb n c A (mo : Int) l ((B.set i true).set k true) ∧ wx.heap[V.heap.size]? = some (.cells #[.int .i64 ((mo : Int) * (mo : Int)), .int .i64 1] 78 (0, 0)) ∧ Below V.heap.size V wx)
    case first =>
      go_region
      all_goals
        go_wp2_with (fail)
        go_meet
        have HB2 := (((Below.refl V.heap.size V).alloc (Nat.le_refl _) (.cells #[.int .i64 ((mo : Int) * (mo : Int)), .int .i64 1] 78)).drew)
        exact ⟨rfl, rfl, HP1.out.below HB2, heap_newD _ _, HB2⟩
    case rest =>
      obtain ⟨rfl, rfl, hpx, hqx, hbx⟩ := hcut
      obtain ⟨W, rfl⟩ : ∃ W : World, W = wc := ⟨_, rfl⟩
      obtain ⟨Q0, eQ0⟩ : ∃ Q0, Q0 = V.heap.size := ⟨_, rfl⟩
      rw [← eQ0] at hqx hbx ⊢
      have HV0 := Lib.hid eQ0
      have HPW := Lib.hid hpx
      have HBW := Lib.hid hbx
      have HQW := Lib.hid hqx
      have hQ0W : Q0 < W.heap.size := (Array.getElem?_eq_some_iff.1 hqx).1
      have wi1 : IntKind.i64.wrap ((i : Int) + 1) = ((i + 1 : Nat) : Int) := by rw [IntKind.wrap_i64]; omega
      clear hpx hqx hbx HP eQ0 m0 hgm1 k0
      go_upto_region 2 with (fail)
      go_wp2_with (fail)
      go_loopw [10, 8] (fun s10 s8 wr => ∃ (j : Nat) (a : Int) (P Q : Nat), s10 = .int .i64 (j : Int) ∧ s8 = .int .i64 a ∧ (i < j ∧ (j ≤ k ∨ j = i + 1)) ∧ Far1 mo l i k j a P Q ∧ (1 ≤ Q ∧ P ≤ 100000000000000 ∧ Q ≤ 1000000000) ∧ (a = -1 ∨ 0 ≤ a ∧ a ≤ 100) ∧ wr.heap[Q0]? = some (.cells #[.int .i64 (P : Int), .int .i64 (Q : Int)] 78 (0, 0)) ∧ W.heap.size ≤ wr.heap.size ∧ Below Q0 W wr) (fun s10 _ _ => (k : Int).toNat - (intOf s10).toNat)
      case atStart =>
        exact ⟨i + 1, -1, mo * mo, 1, rfl, rfl, ⟨by omega, .inr rfl⟩, .inl ⟨rfl, rfl, rfl, fun m h1 h2 => absurd h2 (by omega)⟩, ⟨Nat.le_refl _, Nat.le_trans (Nat.mul_le_mul hmo hmo) (by decide), by decide⟩, .inl rfl, by rw [HQW.out]; simp, Nat.le_refl _, Below.refl _ _⟩
      case round =>
        obtain ⟨j, a, P, Q, rfl, rfl, hj, hfar, hPQ, ha, hq, hsz, hbl⟩ := hrel
        have HF1 := Lib.hid hfar
        have HBR := Lib.hid hbl
        have HQR := Lib.hid hq
        have hQ0r : Q0 < wr.heap.size := by omega
        have HPR := Lib.hid (show PSt wr gk gm gl gb kb n c A (mo : Int) l ((B.set i true).set k true) ∧ w.grownBy wr (some kb) from by
          have hVQ : V.heap.size = Q0 := HV0.out.symm
          have h1 : Below V.heap.size V wr := by rw [hVQ]; exact HBW.out.trans hbl
          exact ⟨HP1.out.below h1, grown_bel HG1.out h1⟩)
        clear hfar hbl hq
        by_cases hlt : j < k
        · have hltI : (j : Int) < (k : Int) := by omega
          have hji : (j : Int) < (n : Int) := by omega
          obtain ⟨b, o, rfl, hbw, hnekb, hcs⟩ := HPR.out.1.row
          obtain ⟨x, hx⟩ : ∃ x, l[i]? = some x := ⟨_, List.getElem?_eq_getElem (by have := HLN.out; omega)⟩
          obtain ⟨z, hz⟩ : ∃ z, l[k]? = some z := ⟨_, List.getElem?_eq_getElem (by have := HLN.out; omega)⟩
          obtain ⟨y, hy⟩ : ∃ y, l[j]? = some y := ⟨_, List.getElem?_eq_getElem (by have := HLN.out; omega)⟩
          obtain ⟨s0, s1, s2, s3, s4⟩ := fix_cells hcs i x hx
          obtain ⟨u0, u1, u2, u3, u4⟩ := fix_cells hcs k z hz
          obtain ⟨v0, v1, v2, v3, v4⟩ := fix_cells hcs j y hy
          have l0 := cell_of_blk (j := 0) HPR.out.1.vl rfl
          have hgw := (Array.getElem?_eq_some_iff.1 HPR.out.1.vl).1
          have HSI := Lib.hid (fun V => spot_any x V)
          have HSK := Lib.hid (fun V => spot_any z V)
          have HSJ := Lib.hid (fun V => spot_any y V)
          have HFA := Lib.hid (fun V => far_any x z y V (HNAR.out x (List.mem_of_getElem? hx)) (HNAR.out z (List.mem_of_getElem? hz)) (HNAR.out y (List.mem_of_getElem? hy)))
          have HGX := Lib.hid (show getF l i = x ∧ getF l k = z ∧ getF l j = y from ⟨getF_some hx, getF_some hz, getF_some hy⟩)
          clear hx hy hz hcs
          obtain ⟨xa, xx, xy, xe⟩ := x
          obtain ⟨za, zx, zy, ze⟩ := z
          obtain ⟨ya, yx, yy, ye⟩ := y
          unfold fxV at HSI HSK HSJ
          simp only at s1 s2 s3 s4 u1 u2 u3 u4 v1 v2 v3 v4 HSI HSK HSJ HFA
          have hjn : j < n := by omega
          have HKEEP := Lib.hid (fun (V : World) (hV : Below wr.heap.size wr V) => show V.cell? ⟨gl, 0, none⟩ = some (.slice (some ⟨b, o, none⟩) n c) ∧ V.cell? ⟨b, o + i * 5, none⟩ = some (.string ⟨#[100]⟩) ∧ V.cell? ⟨b, o + i * 5 + 1, none⟩ = some (.int .i64 xa) ∧ V.cell? ⟨b, o + i * 5 + 2, none⟩ = some (.int .i64 xx) ∧ V.cell? ⟨b, o + i * 5 + 3, none⟩ = some (.int .i64 xy) ∧ V.cell? ⟨b, o + i * 5 + 4, none⟩ = some (.int .i64 xe) ∧ V.cell? ⟨b, o + k * 5, none⟩ = some (.string ⟨#[100]⟩) ∧ V.cell? ⟨b, o + k * 5 + 1, none⟩ = some (.int .i64 za) ∧ V.cell? ⟨b, o + k * 5 + 2, none⟩ = some (.int .i64 zx) ∧ V.cell? ⟨b, o + k * 5 + 3, none⟩ = some (.int .i64 zy) ∧ V.cell? ⟨b, o + k * 5 + 4, none⟩ = some (.int .i64 ze) ∧ V.cell? ⟨b, o + j * 5, none⟩ = some (.string ⟨#[100]⟩) ∧ V.cell? ⟨b, o + j * 5 + 1, none⟩ = some (.int .i64 ya) ∧ V.cell? ⟨b, o + j * 5 + 2, none⟩ = some (.int .i64 yx) ∧ V.cell? ⟨b, o + j * 5 + 3, none⟩ = some (.int .i64 yy) ∧ V.cell? ⟨b, o + j * 5 + 4, none⟩ = some (.int .i64 ye) from
            ⟨(hV.cell (p := ⟨gl, 0, none⟩) hgw).trans l0, (hV.cell (p := ⟨b, o + i * 5, none⟩) hbw).trans s0, (hV.cell (p := ⟨b, o + i * 5 + 1, none⟩) hbw).trans s1, (hV.cell (p := ⟨b, o + i * 5 + 2, none⟩) hbw).trans s2, (hV.cell (p := ⟨b, o + i * 5 + 3, none⟩) hbw).trans s3, (hV.cell (p := ⟨b, o + i * 5 + 4, none⟩) hbw).trans s4, (hV.cell (p := ⟨b, o + k * 5, none⟩) hbw).trans u0, (hV.cell (p := ⟨b, o + k * 5 + 1, none⟩) hbw).trans u1, (hV.cell (p := ⟨b, o + k * 5 + 2, none⟩) hbw).trans u2, (hV.cell (p := ⟨b, o + k * 5 + 3, none⟩) hbw).trans u3, (hV.cell (p := ⟨b, o + k * 5 + 4, none⟩) hbw).trans u4, (hV.cell (p := ⟨b, o + j * 5, none⟩) hbw).trans v0, (hV.cell (p := ⟨b, o + j * 5 + 1, none⟩) hbw).trans v1, (hV.cell (p := ⟨b, o + j * 5 + 2, none⟩) hbw).trans v2, (hV.cell (p := ⟨b, o + j * 5 + 3, none⟩) hbw).trans v3, (hV.cell (p := ⟨b, o + j * 5 + 4, none⟩) hbw).trans v4⟩)
          go_upto_region 5 with (fail)
          go_cut [11] (fun s11 wx => ∃ (g p q : Nat), s11 = .pointer (some ⟨g, 0, none⟩) ∧ wx.heap[g]? = some (.cells #[.int .i64 (p : Int), .int .i64 (q : Int)] 78 (0, 0)) ∧ farIs (xa, xx, xy, xe) (za, zx, zy, ze) (ya, yx, yy, ye) p q ∧ (1 ≤ q ∧ p ≤ 100000000000000 ∧ q ≤ 1000000000) ∧ wr.heap.size ≤ g ∧ Below wr.heap.size wr wx)
          case first =>
            have hB0 := (Below.refl wr.heap.size wr).drew
            go_region_held3 (fun V => V.cell? ⟨gl, 0, none⟩ = some (.slice (some ⟨b, o, none⟩) n c) ∧ V.cell? ⟨b, o + i * 5, none⟩ = some (.string ⟨#[100]⟩) ∧ V.cell? ⟨b, o + i * 5 + 1, none⟩ = some (.int .i64 xa) ∧ V.cell? ⟨b, o + i * 5 + 2, none⟩ = some (.int .i64 xx) ∧ V.cell? ⟨b, o + i * 5 + 3, none⟩ = some (.int .i64 xy) ∧ V.cell? ⟨b, o + i * 5 + 4, none⟩ = some (.int .i64 xe) ∧ V.cell? ⟨b, o + k * 5, none⟩ = some (.string ⟨#[100]⟩) ∧ V.cell? ⟨b, o + k * 5 + 1, none⟩ = some (.int .i64 za) ∧ V.cell? ⟨b, o + k * 5 + 2, none⟩ = some (.int .i64 zx) ∧ V.cell? ⟨b, o + k * 5 + 3, none⟩ = some (.int .i64 zy) ∧ V.cell? ⟨b, o + k * 5 + 4, none⟩ = some (.int .i64 ze) ∧ V.cell? ⟨b, o + j * 5, none⟩ = some (.string ⟨#[100]⟩) ∧ V.cell? ⟨b, o + j * 5 + 1, none⟩ = some (.int .i64 ya) ∧ V.cell? ⟨b, o + j * 5 + 2, none⟩ = some (.int .i64 yx) ∧ V.cell? ⟨b, o + j * 5 + 3, none⟩ = some (.int .i64 yy) ∧ V.cell? ⟨b, o + j * 5 + 4, none⟩ = some (.int .i64 ye))
              (first | (exact hS) | (with_reducible exact HKEEP.out _ ((hB4.setCell hg4 _).setCell hg4 _)) | go_keep)
              (first
                | (go_at_call 43; refine (HFA.out _).mono ?_; rintro e wD ⟨⟨p, q, rfl, hfi, hq1, hp2, hq2⟩, hbD⟩; (first | (have hB4 := hB3.trans (hbD.mono hB3.size); (first | (have hZ4 := z_carry hbD hZ3; have hg4 := hg3; have z0 := cell_of_blk (j := 0) hZ4 rfl; have z1 := cell_of_blk (j := 1) hZ4 rfl; have f0 := z_froz hZ4 0; have f1 := z_froz hZ4 1) | skip); have hS := HKEEP.out wD hB4) | (have hB4 := z_bel hB3 hB3.size hbD; have hZ4 := z_new hbD; have hg4 := hB3.size; have z0 := cell_of_blk (j := 0) hZ4 rfl; have z1 := cell_of_blk (j := 1) hZ4 rfl; have f0 := z_froz hZ4 0; have f1 := z_froz hZ4 1; have hS := HKEEP.out wD hB4)))
                | (go_at_call 44; refine (HSJ.out _).mono ?_; rintro e wC ⟨rfl, hbC⟩; (first | (have hB3 := hB2.trans (hbC.mono hB2.size); (first | (have hZ3 := z_carry hbC hZ2; have hg3 := hg2; have z0 := cell_of_blk (j := 0) hZ3 rfl; have z1 := cell_of_blk (j := 1) hZ3 rfl; have f0 := z_froz hZ3 0; have f1 := z_froz hZ3 1) | skip); have hS := HKEEP.out wC hB3) | (have hB3 := z_bel hB2 hB2.size hbC; have hZ3 := z_new hbC; have hg3 := hB2.size; have z0 := cell_of_blk (j := 0) hZ3 rfl; have z1 := cell_of_blk (j := 1) hZ3 rfl; have f0 := z_froz hZ3 0; have f1 := z_froz hZ3 1; have hS := HKEEP.out wC hB3)))
                | (go_at_call 44; refine (HSK.out _).mono ?_; rintro e wB ⟨rfl, hbB⟩; (first | (have hB2 := hB1.trans (hbB.mono hB1.size); (first | (have hZ2 := z_carry hbB hZ1; have hg2 := hg1; have z0 := cell_of_blk (j := 0) hZ2 rfl; have z1 := cell_of_blk (j := 1) hZ2 rfl; have f0 := z_froz hZ2 0; have f1 := z_froz hZ2 1) | skip); have hS := HKEEP.out wB hB2) | (have hB2 := z_bel hB1 hB1.size hbB; have hZ2 := z_new hbB; have hg2 := hB1.size; have z0 := cell_of_blk (j := 0) hZ2 rfl; have z1 := cell_of_blk (j := 1) hZ2 rfl; have f0 := z_froz hZ2 0; have f1 := z_froz hZ2 1; have hS := HKEEP.out wB hB2)))
                | (go_at_call 44; refine (HSI.out _).mono ?_; rintro e wA ⟨rfl, hbA⟩; (first | (have hB1 := hB0.trans hbA; have hS := HKEEP.out wA hB1) | (have hZ1 := z_new0 hbA; have hB1 := z_bel0 hbA; have hg1 := Nat.le_refl wr.heap.size; have z0 := cell_of_blk (j := 0) hZ1 rfl; have z1 := cell_of_blk (j := 1) hZ1 rfl; have f0 := z_froz hZ1 0; have f1 := z_froz hZ1 1; have hS := HKEEP.out wA hB1) | (have hB1 := z_bel hB0 hB0.size hbA; have hZ1 := z_new hbA; have hg1 := hB0.size; have z0 := cell_of_blk (j := 0) hZ1 rfl; have z1 := cell_of_blk (j := 1) hZ1 rfl; have f0 := z_froz hZ1 0; have f1 := z_froz hZ1 1; have hS := HKEEP.out wA hB1))))
            all_goals
              go_wp2_with (fail)
              go_meet
              first
                | exact ⟨_, p, q, rfl, heap_newD _ _, hfi, ⟨hq1, hp2, hq2⟩, hB4.size, hB4.alloc hB4.size _⟩
                | exact ⟨_, p, q, rfl, z_set hZ4, hfi, ⟨hq1, hp2, hq2⟩, hg4, (hB4.setCell hg4 _).setCell hg4 _⟩
          case rest =>
            obtain ⟨g, p, q, rfl, hgx, hfi, hpq, hgs, hbx⟩ := hcut
            obtain ⟨wx, rfl⟩ : ∃ wx : World, wx = wc := ⟨_, rfl⟩
            have hQx : wx.heap[Q0]? = some (.cells #[.int .i64 (P : Int), .int .i64 (Q : Int)] 78 (0, 0)) := (hbx.block Q0 hQ0r).trans HQR.out
            have q0 := cell_of_blk (j := 0) hQx rfl
            have q1 := cell_of_blk (j := 1) hQx rfl
            have g0 := cell_of_blk (j := 0) hgx rfl
            have g1 := cell_of_blk (j := 1) hgx rfl
            have HGX2 := Lib.hid hgx
            have HQX2 := Lib.hid hQx
            have HBX2 := Lib.hid hbx
            have HFI := Lib.hid hfi
            have wj1 : IntKind.i64.wrap ((j : Int) + 1) = ((j + 1 : Nat) : Int) := by rw [IntKind.wrap_i64]; omega
            clear hgx hbx hfi hQx s0 s1 s2 s3 s4 u0 u1 u2 u3 u4 v0 v1 v2 v3 v4
            by_cases hless : P * q < p * Q
            · have HLS := Lib.hid (fun V => (less_any P Q p q V (by omega) (by omega) (by omega) (by omega)).mono (fun e w' h => by rw [decide_eq_true hless] at h; exact h))
              go_wp2_with (go_at_call 45; refine (HLS.out _).mono ?_; rintro e wE ⟨rfl, hbE⟩)
              have hQE := z_carry hbE HQX2.out
              have hGE := z_carry hbE HGX2.out
              have e0 := cell_of_blk (j := 0) hQE rfl
              have e1 := cell_of_blk (j := 1) hQE rfl
              have e2 := cell_of_blk (j := 0) hGE rfl
              have e3 := cell_of_blk (j := 1) hGE rfl
              have e4 := z_froz hQE 0
              have e5 := z_froz hQE 1
              have HBE := Lib.hid ((HBX2.out.trans (hbE.mono HBX2.out.size)).mono (Nat.le_of_lt hQ0r))
              have HZS := Lib.hid (z_set (u := .int .i64 (p : Int)) (v := .int .i64 (q : Int)) hQE)
              clear hbE hQE hGE
              go_upto_region 7 with (fail)
              go_region
              all_goals
                have hBy := (HBE.out.setCell (p := ⟨Q0, 0, none⟩) (Nat.le_refl Q0) (.int .i64 (p : Int))).setCell (p := ⟨Q0, 1, none⟩) (Nat.le_refl Q0) (.int .i64 (q : Int))
                have HBY := Lib.hid hBy
                clear hBy
                go_wp2_with (fail)
                go_roundw
                case rel => exact ⟨j + 1, j, p, q, by go_num, rfl, ⟨by omega, by omega⟩, .inr ⟨j, rfl, hj.1, hlt⟩, hpq, .inr ⟨by omega, by omega⟩, HZS.out, Nat.le_trans hsz HBY.out.size, HBR.out.trans (by first | exact HBY.out | exact HBY.out.drew)⟩
                case measure => simp [intOf]; omega
            · have HLS := Lib.hid (fun V => (less_any P Q p q V (by omega) (by omega) (by omega) (by omega)).mono (fun e w' h => by rw [decide_eq_false hless] at h; exact h))
              go_wp2_with (go_at_call 45; refine (HLS.out _).mono ?_; rintro e wE ⟨rfl, hbE⟩)
              have hQE := z_carry hbE HQX2.out
              have hBE := (HBX2.out.trans (hbE.mono HBX2.out.size))
              go_roundw
              case rel => exact ⟨j + 1, a, P, Q, by go_num, rfl, ⟨by omega, by omega⟩, HF1.out.no (by rw [HGX.out.1, HGX.out.2.1, HGX.out.2.2]; exact HFI.out) hless, hPQ, ha, hQE, Nat.le_trans hsz hBE.size, HBR.out.trans (hBE.mono (Nat.le_of_lt hQ0r))⟩
              case measure => simp [intOf]; omega
        · have hltI : ¬ (j : Int) < (k : Int) := by omega
          rcases HF1.out with ⟨rfl, rfl, rfl, hnear⟩ | ⟨b, rfl, hb1, hb2⟩
          · have HP9 := Lib.hid (show P1 mo gk gm gl gb kb n c A l i k B w wr from ⟨_, Btw.base hik (by have := HBL.out; omega) (fun m h1 h2 => hnear m h1 (by omega)) HBF.out, HPR.out⟩)
            clear hnear
            go_wp2_with (fail)
            first
              | (refine bodyPost_end (results_none rfl _ _ _) rfl ⟨rfl, HP9.out⟩)
              | (refine bodyPost_end0 rfl rfl ⟨rfl, HP9.out⟩)
              | (refine bodyPost_end (v := .tuple #[]) (by simp [results, go_sem]) rfl ⟨rfl, HP9.out⟩)
              | (go_returns; exact ⟨rfl, HP9.out⟩)
              | (go_ret; exact ⟨rfl, HP9.out⟩)
              | (refine bodyPost_normal (by rfl) (by rfl) ⟨rfl, HP9.out⟩)
              | exact ⟨rfl, HP9.out⟩
          · have b0 := cell_of_blk (j := 0) HPR.out.1.vb rfl
            have hgb := (Array.getElem?_eq_some_iff.1 HPR.out.1.vb).1
            have hbI : (0 : Int) ≤ (b : Int) := by omega
            have HS1 := Lib.hid (fun m => set2_get B i k m (by have := HBL.out; omega) (by have := HBL.out; omega))
            have HC1 := Lib.hid (HIH.out i b _ wr (Nat.le_refl _) hb1 (by omega) (by omega) HPR.out.1 (fun m h1 h2 => by rw [HS1.out, if_neg (by omega)]; exact HBF.out m h1 (by omega)))
            go_wp2_with (fail)
            refine HC1.out.mono ?_
            rintro e w1 ⟨rfl, B1, hb1B, hp1B, hg1B⟩
            have HC2 := Lib.hid (HIH.out b k B1 w1 (by omega) hb2 (Nat.le_refl _) (by omega) hp1B (fun m h1 h2 => by rw [hb1B.out m (by omega), HS1.out, if_neg (by omega)]; exact HBF.out m (by omega) h2))
            have b1 := cell_of_blk (j := 0) hp1B.vb rfl
            have hgb1 := (Array.getElem?_eq_some_iff.1 hp1B.vb).1
            have HJ1 := Lib.hid hb1B
            have HG1B := Lib.hid hg1B
            clear hb1B hp1B hg1B
            go_wp2_with (fail)
            refine HC2.out.mono ?_
            rintro e w2 ⟨rfl, B2, hb2B, hp2B, hg2B⟩
            have HP9 := Lib.hid (show P1 mo gk gm gl gb kb n c A l i k B w w2 from ⟨B2, Btw.join hb1 hb2 (by have := HBL.out; omega) HJ1.out hb2B, hp2B, (gr_tr (gr_tr HPR.out.2 HG1B.out) hg2B)⟩)
            clear hb2B hp2B hg2B
            go_wp2_with (fail)
            first
              | (refine bodyPost_end (results_none rfl _ _ _) rfl ⟨rfl, HP9.out⟩)
              | (refine bodyPost_end0 rfl rfl ⟨rfl, HP9.out⟩)
              | (refine bodyPost_end (v := .tuple #[]) (by simp [results, go_sem]) rfl ⟨rfl, HP9.out⟩)
              | (go_returns; exact ⟨rfl, HP9.out⟩)
              | (go_ret; exact ⟨rfl, HP9.out⟩)
              | (refine bodyPost_normal (by rfl) (by rfl) ⟨rfl, HP9.out⟩)
              | exact ⟨rfl, HP9.out⟩

theorem plain1_any (gk gm gl gb kb n c : Nat) (A : Option Addr) (mo : Nat) (l : List Fx) (hn : n ≤ 100) (hmo : mo ≤ 1000) (hln : l.length = n) (hnar : ∀ x ∈ l, NarF x) : ∀ (d i k : Nat) (B : List Bool) (w : World), k - i ≤ d → i ≤ k → k < n → PSt w gk gm gl gb kb n c A (mo : Int) l B → (∀ m, i < m → m < k → B[m]? = some false) →
    Calls Tryz.prog 42 #[.int .i64 (i : Int), .int .i64 (k : Int), .pointer (some ⟨gk, 0, none⟩), .pointer (some ⟨gm, 0, none⟩), .pointer (some ⟨gl, 0, none⟩), .pointer (some ⟨gb, 0, none⟩)] w fun e w' => e = .returned (.tuple #[]) ∧ P1 mo gk gm gl gb kb n c A l i k B w w' := by
  intro d
  induction d with
  | zero =>
    intro i k B w hd hik hk hp hbf
    exact plain1_step i k gk gm gl gb kb n c A mo l B w hik hk hn hmo hln hnar hp hbf (Lib.hid (fun i' k' B' w' _ _ _ h _ _ => absurd h (by omega)))
  | succ d ih =>
    intro i k B w hd hik hk hp hbf
    exact plain1_step i k gk gm gl gb kb n c A mo l B w hik hk hn hmo hln hnar hp hbf (Lib.hid (fun i' k' B' w' h1 h2 h3 h4 h5 h6 => ih i' k' B' w' (by omega) (by omega) (by omega) h5 h6))
end Go.Proofs.YthplhibdapjjgaaGreatDoor
