/- slices.Clone and DeleteFunc of marks, by the device. Printed by gen_PlG.py out of XLcD. -/
import Derived.Test.YtidgicbhgnbidaaGreatDoorPlC
import Derived.Test.YtidgicbhgnbidaaGreatDoorCmY
namespace Go.Proofs.YtidgicbhgnbidaaGreatDoor
open Go.RowKit

/-- A mark of a device. -/
def kpM (d : Dv) (x : Mk) : Bool := decide (x.d = d.k)
theorem plCl_any (x : Mk) (gt : Nat) (d : Dv) (w : World) (hx : x.d < 6) (hd : d.k < 6) (hgt : w.cell? ⟨gt, 0, none⟩ = some (.string (dvT d.k))) : Calls Tryz.prog 25 #[.agg #[.int .i64 x.at_, .string (dvT x.d), .int .i64 x.kd, .int .i64 x.v.a, .int .i64 x.v.b, .int .i64 x.v.c], .pointer (some ⟨gt, 0, none⟩)] w fun e w' => e = .returned (.bool (!kpM d x)) ∧ Below w.heap.size w w' := by
  have hgl := World.block_lt_of_cell? w _ hgt
  simp only at hgl
  obtain ⟨w1, e1⟩ : ∃ V : World, V = w.alloc (.cells #[.int .i64 x.at_, .string (dvT x.d), .int .i64 x.kd, .int .i64 x.v.a, .int .i64 x.v.b, .int .i64 x.v.c] 64) := ⟨_, rfl⟩
  have hb5 : Below w.heap.size w w1 := by rw [e1]; exact (Below.refl _ _).alloc (Nat.le_refl _) _
  have hn1 : w1.heap[w.heap.size]? = some (mkB x) := by rw [e1]; exact heap_new w _
  have h1 := (hb5.cell (p := ⟨gt, 0, none⟩) hgl).trans hgt
  have hgl5 : gt < w1.heap.size := Nat.lt_of_lt_of_le hgl hb5.size
  have k1 := cell_of_blk (j := 1) hn1 rfl
  have hl1 := (Array.getElem?_eq_some_iff.1 hn1).1
  have HB := Lib.hid hb5
  obtain ⟨d1, d2⟩ := dvT_beq hx hd
  unfold kpM
  obtain ⟨b, eb⟩ : ∃ b, b = decide (x.d = d.k) := ⟨_, rfl⟩
  rw [← eb] at d1 d2 ⊢
  clear hgt hb5 hn1 eb hx hd
  go_enter Tryz.func25, Tryz.ntmps25
  go_upto_region 1 with (fail)
  rw [← e1]
  clear e1
  cases b with
  | true =>
    have d3 : (dvT x.d != dvT d.k) = false := by rw [bne, d1]; rfl
    go_wp2_with (fail)
    go_ret
    exact ⟨rfl, HB.out⟩
  | false =>
    have d3 : (dvT x.d != dvT d.k) = true := by rw [bne, d1]; rfl
    go_wp2_with (fail)
    go_ret
    exact ⟨rfl, HB.out⟩
section
variable {α : Type}
def csP (l P : List α) : List α := P ++ l.drop P.length
theorem csP_len {l P : List α} (h : P.length ≤ l.length) : (csP l P).length = l.length := by
  unfold csP
  rw [List.length_append, List.length_drop]; omega
theorem csP_get {l P : List α} {j : Nat} (h : P.length ≤ j) : (csP l P)[j]? = l[j]? := by
  unfold csP
  rw [List.getElem?_append_right h, List.getElem?_drop]
  congr 1; omega
theorem csP_take (l : List α) (k : Nat) (h : k ≤ l.length) : csP l (l.take k) = l := by
  unfold csP
  rw [List.length_take, Nat.min_eq_left h, List.take_append_drop]
theorem csP_set {l P : List α} {x : α} (h : P.length < l.length) : (csP l P).set P.length x = csP l (P ++ [x]) := by
  unfold csP
  rw [List.set_append_right _ _ (Nat.le_refl _), Nat.sub_self, List.length_append, List.length_singleton, List.append_assoc]
  congr 1
  rw [List.drop_eq_getElem_cons h, List.set_cons_zero]
  rfl
end
def IdxP (tq : Dv) (L : List Mk) (z : Int) : Prop := (z = -1 ∧ ∀ x ∈ L, kpM tq x = true) ∨ ∃ k : Nat, k < L.length ∧ z = (k : Int) ∧ (∀ x ∈ L.take k, kpM tq x = true) ∧ ∀ x, L[k]? = some x → kpM tq x = false
set_option maxRecDepth 100000 in
set_option maxHeartbeats 1000000 in
theorem indexP_any (tq : Dv) (gt : Nat) (L : List Mk) (h6 : tq.k < 6) (hL6 : ∀ x ∈ L, x.d < 6) (n c : Nat) (A : Option Addr) (w : World) (hgt : w.cell? ⟨gt, 0, none⟩ = some (.string (dvT tq.k))) (hn : L.length = n) (hn2 : n ≤ 100000) (hr : Row w w.heap.size A (recs mkC L)) :
    Calls Tryz.prog 72 #[.slice A n c, .func (.func 25) #[] #[.pointer (some ⟨gt, 0, none⟩)]] w fun e w' => ∃ z : Int, e = .returned (.int .i64 z) ∧ IdxP tq L z ∧ Below w.heap.size w w' := by
  have HR := Lib.hid hr
  have HN := Lib.hid hn
  have hgl := World.block_lt_of_cell? w _ hgt
  simp only at hgl
  have HGT := Lib.hid (fun (V : World) (hV : Below w.heap.size w V) => (hV.cell (p := ⟨gt, 0, none⟩) hgl).trans hgt)
  clear hr hn hgt
  go_enter Tryz.func72, Tryz.ntmps72
  go_wp2_with (fail)
  go_loopw [8] (fun s wr => ∃ (i : Nat), i ≤ n ∧ s = .int .i64 (i : Int) ∧ Below w.heap.size w wr ∧ Hid (∀ x ∈ L.take i, kpM tq x = true)) (fun s _ => n - (intOf s).toNat)
  case atStart => exact ⟨0, by omega, rfl, Below.refl _ _, Lib.hid (by simp)⟩
  case round =>
    obtain ⟨i, hin, rfl, hbr, HK⟩ := hrel
    have hbs := hbr.size
    have HB := Lib.hid hbr
    clear hbr
    by_cases hlt : i < n
    · have hltI : (i : Int) < n := by omega
      obtain ⟨x, hx⟩ : ∃ x, L[i]? = some x := ⟨_, List.getElem?_eq_getElem (by have := HN.out; omega)⟩
      obtain ⟨b, o, rfl, hb, hC⟩ := (HR.out.below HB.out).posR mkC_len (by omega) (by have := HN.out; omega)
      obtain ⟨c0, c1, c2, c3, c4, c5⟩ := mk_cells hC i x hx
      have HX := Lib.hid hx
      have hb' : b < wr.heap.size := by omega
      clear hx hC
      go_wp2_with (fail)
      refine (plCl_any x gt tq wr (hL6 x (List.mem_of_getElem? HX.out)) h6 (HGT.out wr HB.out)).mono ?_
      obtain ⟨t, et⟩ : ∃ t, t = (kpM tq x) := ⟨_, rfl⟩
      rw [← et]
      have HE := Lib.hid et
      clear et
      rintro e w2 ⟨rfl, hb2⟩
      have HB2 := Lib.hid (HB.out.trans (hb2.mono hbs))
      clear hb2
      cases t
      case true =>
        have HK2 := Lib.hid (show ∀ y ∈ L.take (i + 1), kpM tq y = true from by
          rw [List.take_add_one, HX.out]
          intro y hy
          rw [List.mem_append] at hy
          rcases hy with hy | hy
          · exact HK.out y hy
          · simp at hy; rw [hy]; exact HE.out.symm)
        go_wp2_with (fail)
        go_roundw
        case rel => exact ⟨i + 1, by omega, by simp, HB2.out, HK2⟩
        case measure => simp [intOf]; omega
      case false =>
        go_wp2_with (fail)
        go_ret
        exact ⟨(i : Int), rfl, .inr ⟨i, by rw [HN.out]; exact hlt, rfl, HK.out, fun y hy => by rw [HX.out] at hy; cases hy; exact HE.out.symm⟩, HB2.out⟩
    · have hltI : ¬ (i : Int) < n := by omega
      have hin' : i = n := by omega
      subst hin'
      go_wp2_with (fail)
      go_ret
      exact ⟨-1, rfl, .inl ⟨rfl, by have := HK.out; rwa [← HN.out, List.take_length] at this⟩, HB.out⟩
theorem mk_storeP {W : World} {base g n cap : Nat} {L : List Mk} (h : W.ownsRow base 64 6 (.slice (some ⟨g, 0, none⟩) n cap) n (recs mkC L)) (hL : L.length = n) (i : Nat) (hi : i < n) (x : Mk) :
    ((((((W.setCell ⟨g, i * 6, none⟩ (.int .i64 x.at_)).setCell ⟨g, i * 6 + 1, none⟩ (.string (dvT x.d))).setCell ⟨g, i * 6 + 2, none⟩ (.int .i64 x.kd)).setCell ⟨g, i * 6 + 3, none⟩ (.int .i64 x.v.a)).setCell ⟨g, i * 6 + 4, none⟩ (.int .i64 x.v.b)).setCell ⟨g, i * 6 + 5, none⟩ (.int .i64 x.v.c)).ownsRow base 64 6 (.slice (some ⟨g, 0, none⟩) n cap) n (recs mkC (L.set i x)) ∧
    W.grownBy ((((((W.setCell ⟨g, i * 6, none⟩ (.int .i64 x.at_)).setCell ⟨g, i * 6 + 1, none⟩ (.string (dvT x.d))).setCell ⟨g, i * 6 + 2, none⟩ (.int .i64 x.kd)).setCell ⟨g, i * 6 + 3, none⟩ (.int .i64 x.v.a)).setCell ⟨g, i * 6 + 4, none⟩ (.int .i64 x.v.b)).setCell ⟨g, i * 6 + 5, none⟩ (.int .i64 x.v.c)) (some g) := by
  have h2 := own_setCells (mkC x) (i * 6) W (recs mkC L) h (by rw [recs_length mkC_len, mkC_len, hL]; omega)
  rw [recs_set mkC_len L i x (by omega)] at h2
  exact h2
theorem filter_take_snocP {α : Type} {p : α → Bool} {L : List α} {j : Nat} {x : α} (hx : L[j]? = some x) : (L.take (j + 1)).filter p = (L.take j).filter p ++ (if p x then [x] else []) := by
  rw [List.take_add_one, hx, List.filter_append]
  cases h : p x <;> simp [h]
def DelP (tq : Dv) (L : List Mk) (base c : Nat) (A : Option Addr) (w : World) (e : Ending) (w' : World) : Prop :=
  e = .returned (.slice A (L.filter (kpM tq)).length c) ∧ w'.ownsRow base 64 6 (.slice A (L.filter (kpM tq)).length c) (L.filter (kpM tq)).length (recs mkC (L.filter (kpM tq))) ∧ w.grownBy w' (Value.slice A L.length c).ownBlock
set_option maxRecDepth 100000 in
set_option maxHeartbeats 4000000 in
theorem deleteM_any (tq : Dv) (gt : Nat) (L : List Mk) (h6 : tq.k < 6) (hL6 : ∀ x ∈ L, x.d < 6) (n c base : Nat) (A : Option Addr) (w : World) (hgt : w.heap[gt]? = some (dvB tq)) (hn : L.length = n) (hn2 : n ≤ 100000) (ho : w.ownsRow base 64 6 (.slice A n c) n (recs mkC L)) :
    Calls Tryz.prog 23 #[.slice A n c, .func (.func 25) #[] #[.pointer (some ⟨gt, 0, none⟩)]] w fun e w' => DelP tq L base c A w e w' := by
  have hcap := own_cap ho
  have hgl : gt < w.heap.size := (Array.getElem?_eq_some_iff.1 hgt).1
  have hgne : some gt ≠ (Value.slice A n c).ownBlock := own_ne ho hgt (by decide)
  have HGT := Lib.hid hgt
  have HL := Lib.hid hn
  have HO := Lib.hid ho
  have HI := Lib.hid (indexP_any tq gt L h6 hL6 n c A w (cell_of_blk (j := 0) hgt rfl) hn hn2 (by
    rcases own_two ho with ⟨rfl, h0, _⟩ | ⟨g, rfl, _, hlt⟩
    · have : L = [] := List.eq_nil_of_length_eq_zero (by omega)
      subst this
      exact .inl rfl
    · exact .inr ⟨g, 0, rfl, hlt, own_cells0 ho⟩))
  clear ho hn hgt
  go_enter Tryz.func23, Tryz.ntmps23
  go_wp2_with (fail)
  refine HI.out.mono ?_
  rintro e w1 ⟨z, rfl, hz, hb1⟩
  have hs1 := hb1.size
  have HB1 := Lib.hid hb1
  have HO1 := Lib.hid (own_below HO.out hb1)
  clear hb1
  rcases hz with ⟨rfl, hall⟩ | ⟨k, hk, rfl, hpre, hkx⟩
  · have hf : L.filter (kpM tq) = L := List.filter_eq_self.2 hall
    have HF := Lib.hid (show DelP tq L base c A w (.returned (.slice A n c)) w1 from by
      unfold DelP
      rw [hf, HL.out]
      exact ⟨rfl, HO1.out, grown_belowP HB1.out⟩)
    clear hf hall
    go_wp2_with (fail)
    go_ret
    exact HF.out
  · have hkn : k < n := by rw [← HL.out]; exact hk
    obtain ⟨g, rfl, hbg, hlt⟩ : ∃ g, A = some ⟨g, 0, none⟩ ∧ base ≤ g ∧ g < w1.heap.size := by
      rcases own_two HO1.out with ⟨_, h0, _⟩ | ⟨g, h1, h2, h3⟩
      · omega
      · exact ⟨g, h1, h2, h3⟩
    have HPK := Lib.hid (show (L.take (k + 1)).filter (kpM tq) = L.take k from by
      obtain ⟨x, hx⟩ : ∃ x, L[k]? = some x := ⟨_, List.getElem?_eq_getElem hk⟩
      rw [filter_take_snocP hx, hkx x hx]
      simp only [Bool.false_eq_true, if_false, List.append_nil]
      exact List.filter_eq_self.2 hpre)
    have hgtg : gt ≠ g := fun e => hgne (by rw [e]; rfl)
    clear hgne
    have hkne : ¬ (k : Int) = -1 := by omega
    have hkb : ((k : Int) == -1) = false := by simp
    have hkw : IntKind.i64.wrap ((k : Int) + 1) = (k : Int) + 1 := by rw [IntKind.wrap_i64]; omega
    clear hpre hkx hk
    go_wp2_with (fail)
    go_loopw [5, 6] (fun s t wx => ∃ (j : Nat), j ≤ n ∧ k < j ∧ t = .int .i64 (j : Int) ∧ s = .int .i64 (((L.take j).filter (kpM tq)).length : Int) ∧ ((L.take j).filter (kpM tq)).length < j ∧ wx.ownsRow base 64 6 (.slice (some ⟨g, 0, none⟩) n c) n (recs mkC (csP L ((L.take j).filter (kpM tq)))) ∧ w.grownBy wx (some g)) (fun _ t _ => n - (intOf t).toNat)
    case atStart =>
      have htk : (L.take k).length = k := by rw [List.length_take]; have := HL.out; omega
      refine ⟨k + 1, by omega, by omega, by simp, by rw [HPK.out, htk], by rw [HPK.out, htk]; omega, ?_, grown_belowP HB1.out⟩
      rw [HPK.out, csP_take L k (by have := HL.out; omega)]
      exact HO1.out
    case round =>
      obtain ⟨j, hjn, hkj, rfl, rfl, hpl, hown, hgr⟩ := hrel
      have HOW := Lib.hid hown
      have HGR := Lib.hid hgr
      have hgs := hgr.size
      obtain ⟨P, eP⟩ : ∃ P, P = (L.take j).filter (kpM tq) := ⟨_, rfl⟩
      rw [← eP] at hpl HOW ⊢
      obtain ⟨pl, epl⟩ : ∃ pl, pl = P.length := ⟨_, rfl⟩
      rw [← epl] at hpl ⊢
      have HPL := Lib.hid epl.symm
      have HEP := Lib.hid eP
      clear hown hgr epl eP
      have hlg : g < wr.heap.size := by obtain ⟨cs, hcs⟩ := own_blk HOW.out; exact (Array.getElem?_eq_some_iff.1 hcs).1
      by_cases hltj : j < n
      · have hltI : (j : Int) < (n : Int) := by omega
        obtain ⟨x, hx⟩ : ∃ x, L[j]? = some x := ⟨_, List.getElem?_eq_getElem (by have := HL.out; omega)⟩
        have hcc := mk_cells (own_cells0 HOW.out) j x (by rw [csP_get (by have := HPL.out; omega)]; exact hx)
        rw [Nat.zero_add] at hcc
        obtain ⟨c0, c1, c2, c3, c4, c5⟩ := hcc
        have HX := Lib.hid hx
        clear hx
        go_upto_region 8 with (fail)
        obtain ⟨g7, eg⟩ : ∃ g, g = wr.heap.size := ⟨_, rfl⟩
        obtain ⟨w2, e2⟩ : ∃ w2, w2 = wr.alloc (.cells #[.int .i64 x.at_, .string (dvT x.d), .int .i64 x.kd, .int .i64 x.v.a, .int .i64 x.v.b, .int .i64 x.v.c] 64) := ⟨_, rfl⟩
        rw [← eg, ← e2]
        have hg2 : w2.heap[g7]? = some (.cells #[.int .i64 x.at_, .string (dvT x.d), .int .i64 x.kd, .int .i64 x.v.a, .int .i64 x.v.b, .int .i64 x.v.c] 64 (0, 0)) := by rw [e2, eg]; exact heap_new wr _
        have hB2 : Below wr.heap.size wr w2 := by rw [e2]; exact (Below.refl _ _).alloc (Nat.le_refl _) _
        have hlt2 : g7 < w2.heap.size := by rw [e2, eg]; simp
        have hs2 := hB2.size
        have HB2 := Lib.hid hB2
        have HG2 := Lib.hid hg2
        have q0 : w2.cell? ⟨g7, 0, none⟩ = some (.int .i64 x.at_) := cell_of_blk (j := 0) hg2 rfl
        have q1 : w2.cell? ⟨g7, 1, none⟩ = some (.string (dvT x.d)) := cell_of_blk (j := 1) hg2 rfl
        have q2 : w2.cell? ⟨g7, 2, none⟩ = some (.int .i64 x.kd) := cell_of_blk (j := 2) hg2 rfl
        have q3 : w2.cell? ⟨g7, 3, none⟩ = some (.int .i64 x.v.a) := cell_of_blk (j := 3) hg2 rfl
        have q4 : w2.cell? ⟨g7, 4, none⟩ = some (.int .i64 x.v.b) := cell_of_blk (j := 4) hg2 rfl
        have q5 : w2.cell? ⟨g7, 5, none⟩ = some (.int .i64 x.v.c) := cell_of_blk (j := 5) hg2 rfl
        have hgt2 : w2.cell? ⟨gt, 0, none⟩ = some (.string (dvT tq.k)) := cell_of_blk (j := 0) ((hB2.block gt (Nat.lt_of_lt_of_le hgl hgs)).trans ((HGR.out.block gt hgl (by intro e; injection e with e; exact hgtg e)).trans HGT.out)) rfl
        have HGT2 := Lib.hid hgt2
        clear eg e2 hg2 hB2 c0 c1 c2 c3 c4 c5
        go_wp2_with (fail)
        refine (plCl_any x gt tq w2 (hL6 x (List.mem_of_getElem? HX.out)) h6 HGT2.out).mono ?_
        obtain ⟨t, et⟩ : ∃ t, t = (kpM tq x) := ⟨_, rfl⟩
        rw [← et]
        have HE := Lib.hid et
        rintro e w3 ⟨rfl, hb3⟩
        have hs3 := hb3.size
        have HB3 := Lib.hid (HB2.out.trans (hb3.mono hs2))
        have hg3 := (hb3.block g7 hlt2).trans HG2.out
        have hlt3 : g7 < w3.heap.size := by omega
        have HO3 := Lib.hid (own_below HOW.out HB3.out)
        have HG3 := Lib.hid (grown_trans HGR.out (grown_belowP (r := some g) HB3.out))
        have HSN := Lib.hid (filter_take_snocP (p := kpM tq) HX.out)
        clear hb3 et q0 q1 q2 q3 q4 q5
        have q0 : w3.cell? ⟨g7, 0, none⟩ = some (.int .i64 x.at_) := cell_of_blk (j := 0) hg3 rfl
        have q1 : w3.cell? ⟨g7, 1, none⟩ = some (.string (dvT x.d)) := cell_of_blk (j := 1) hg3 rfl
        have q2 : w3.cell? ⟨g7, 2, none⟩ = some (.int .i64 x.kd) := cell_of_blk (j := 2) hg3 rfl
        have q3 : w3.cell? ⟨g7, 3, none⟩ = some (.int .i64 x.v.a) := cell_of_blk (j := 3) hg3 rfl
        have q4 : w3.cell? ⟨g7, 4, none⟩ = some (.int .i64 x.v.b) := cell_of_blk (j := 4) hg3 rfl
        have q5 : w3.cell? ⟨g7, 5, none⟩ = some (.int .i64 x.v.c) := cell_of_blk (j := 5) hg3 rfl
        clear hg3
        cases t
        case false =>
          have HN2 := Lib.hid (show (L.take (j + 1)).filter (kpM tq) = P from by rw [HSN.out, ← HE.out, ← HEP.out]; simp)
          go_wp2_with (fail)
          go_roundw
          case rel => exact ⟨j + 1, by omega, by omega, by go_num, by rw [HN2.out, HPL.out], by rw [HN2.out, HPL.out]; omega, by rw [HN2.out]; exact HO3.out, HG3.out⟩
          case measure => simp [intOf]; omega
        case true =>
          have HN2 := Lib.hid (show (L.take (j + 1)).filter (kpM tq) = P ++ [x] from by rw [HSN.out, ← HE.out, ← HEP.out]; simp)
          have hpn : pl < n := by omega
          have hpI : (pl : Int) < (n : Int) := by omega
          obtain ⟨zz, hz⟩ : ∃ z, (csP L P)[pl]? = some z := ⟨_, List.getElem?_eq_getElem (by rw [csP_len (by have := HPL.out; have := HL.out; omega)]; have := HL.out; omega)⟩
          have hzc := mk_cells (own_cells0 HO3.out) pl zz hz
          rw [Nat.zero_add] at hzc
          obtain ⟨z0, z1, z2, z3, z4, z5⟩ := hzc
          obtain ⟨cs, hcs⟩ := own_blk HO3.out
          have fr0 : w3.frozen? ⟨g, pl * 6, none⟩ = false := by simp [World.frozen?, hcs]
          have fr1 : w3.frozen? ⟨g, pl * 6 + 1, none⟩ = false := by simp [World.frozen?, hcs]
          have fr2 : w3.frozen? ⟨g, pl * 6 + 2, none⟩ = false := by simp [World.frozen?, hcs]
          have fr3 : w3.frozen? ⟨g, pl * 6 + 3, none⟩ = false := by simp [World.frozen?, hcs]
          have fr4 : w3.frozen? ⟨g, pl * 6 + 4, none⟩ = false := by simp [World.frozen?, hcs]
          have fr5 : w3.frozen? ⟨g, pl * 6 + 5, none⟩ = false := by simp [World.frozen?, hcs]
          have hlg3 : g < w3.heap.size := by omega
          have HSET := Lib.hid (mk_storeP HO3.out (by rw [csP_len (by have := HPL.out; have := HL.out; omega)]; exact HL.out) pl hpn x)
          clear hcs hz
          go_upto_region 10 with (fail)
          generalize hW5 : (((((w3.setCell ⟨g, pl * 6, none⟩ (.int .i64 x.at_)).setCell ⟨g, pl * 6 + 1, none⟩ (.string (dvT x.d))).setCell ⟨g, pl * 6 + 2, none⟩ (.int .i64 x.kd)).setCell ⟨g, pl * 6 + 3, none⟩ (.int .i64 x.v.a)).setCell ⟨g, pl * 6 + 4, none⟩ (.int .i64 x.v.b)).setCell ⟨g, pl * 6 + 5, none⟩ (.int .i64 x.v.c) = w5 at HSET ⊢
          have HO5 := Lib.hid (show w5.ownsRow base 64 6 (.slice (some ⟨g, 0, none⟩) n c) n (recs mkC (csP L (P ++ [x]))) from by
            have h := HSET.out.1
            rw [← HPL.out, csP_set (by have := HPL.out; have := HL.out; omega)] at h
            exact h)
          have HG5 := Lib.hid (grown_trans HG3.out HSET.out.2)
          have HPL5 := Lib.hid (show (P ++ [x]).length = pl + 1 from by rw [List.length_append, HPL.out]; rfl)
          clear hW5 HSET z0 z1 z2 z3 z4 z5 q0 q1 q2 q3 q4 q5 fr0 fr1 fr2 fr3 fr4 fr5
          go_wp2_with (fail)
          go_roundw
          case rel => exact ⟨j + 1, by omega, by omega, by go_num, by rw [HN2.out, HPL5.out]; go_num, by rw [HN2.out, HPL5.out]; omega, by rw [HN2.out]; exact HO5.out, HG5.out⟩
          case measure => simp [intOf]; omega
      · have hltI : ¬ (j : Int) < (n : Int) := by omega
        have hjn2 : j = n := by omega
        subst hjn2
        have hPL : P = L.filter (kpM tq) := by rw [HEP.out, ← HL.out, List.take_length]
        have hcp : ¬ c = pl := by omega
        have hpn : pl ≤ j := by omega
        have hpI : (pl : Int) ≤ (j : Int) := by omega
        obtain ⟨cs, hcs⟩ := own_blk HOW.out
        obtain ⟨vs, hvl, hcl⟩ := run_clear_n (P := Tryz.prog) wr 57 64 _ [.int .i64 0, .string ⟨#[]⟩, .int .i64 0, .int .i64 0, .int .i64 0, .int .i64 0] (j - pl) Tryz.underlying57 Tryz.zeroValue64 rfl (by simp) (by intro u hu; simp only [List.mem_cons, List.mem_nil_iff, or_false] at hu; rcases hu with h | h | h | h | h | h <;> subst h <;> rfl) g (pl * 6)
          (fun i hi => by
            simp at hi
            rw [HOW.out.cellAt _ (by omega), List.getElem?_eq_getElem (by rw [recs_length mkC_len, csP_len (by have := HPL.out; have := HL.out; omega), HL.out]; omega)]
            rfl)
          (fun i _ => HOW.out.frozenAt _)
        have hvl8 : vs.length = (j - pl) * 6 := by rw [hvl]; rfl
        have HSET := Lib.hid (own_setCells vs (pl * 6) wr (recs mkC (csP L P)) HOW.out (by rw [recs_length mkC_len, csP_len (by have := HPL.out; have := HL.out; omega), hvl8, HL.out]; omega))
        have HF := Lib.hid (show DelP tq L base c (some ⟨g, 0, none⟩) w (.returned (.slice (some ⟨g, 0, none⟩) pl c)) (wr.setCells g (pl * 6) vs) from by
          unfold DelP
          rw [← hPL, HPL.out]
          refine ⟨rfl, ?_, grown_trans HGR.out HSET.out.2⟩
          have h := own_shrink HSET.out.1 pl hpn
          rw [List.append_assoc, List.take_append_of_le_length (by rw [List.length_take, recs_length mkC_len, csP_len (by have := HPL.out; have := HL.out; omega), HL.out]; omega), List.take_take, Nat.min_self] at h
          have h3 : (recs mkC (csP L P)).take (pl * 6) = recs mkC P := by
            have h4 := recs_append mkC P (L.drop P.length)
            unfold csP
            rw [h4, List.take_append_of_le_length (by rw [recs_length mkC_len, HPL.out]; exact Nat.le_refl _), List.take_of_length_le (by rw [recs_length mkC_len, HPL.out]; exact Nat.le_refl _)]
          rw [h3] at h
          exact h)
        have hsl : ∀ ty, (Builtin.clear_ #[57] ty #[.slice (some ⟨g, pl * 6, none⟩) (j - pl) (c - pl)]).run Tryz.prog wr = .ok (.tuple #[]) (wr.setCells g (pl * 6) vs) := fun ty => hcl ty (c - pl)
        clear hcl HSET hcs hvl hvl8 hPL
        obtain ⟨W6, e6⟩ : ∃ W6, W6 = wr.setCells g (pl * 6) vs := ⟨_, rfl⟩
        rw [← e6] at hsl HF
        clear e6
        go_wp2_with (fail)
        go_ret
        exact HF.out
set_option maxRecDepth 100000 in
set_option maxHeartbeats 1000000 in
theorem cloneM_some (b off n c : Nat) (xs : List Value) (w : World) (hl : xs.length = n * 6) (h1 : ∀ u ∈ xs, u.oneCell' = true) (hn : n ≤ 1000000) (hc : Cells w b off xs) :
    Calls Tryz.prog 24 #[.slice (some ⟨b, off, none⟩) n c] w fun e w' => ∃ v', e = .returned v' ∧ w'.ownsRow w.heap.size 64 6 v' n xs ∧ Below w.heap.size w w' := by
  obtain ⟨i0, hi, hz0, hz1, hz2⟩ := info_parts Tryz.infoMp
  have q22 : ∀ (w : World) (a : Option Addr) (n c n' c' : Nat), (binOp .eql 57 (.slice a n c) (.slice none n' c')).run Tryz.prog w = .ok (.bool a.isNone) w := fun w a n c n' c' => Lib.run_eql_slice_nil w _ _ a n c n' c' Tryz.underlying57
  have HC := Lib.hid hc
  have H1 := Lib.hid h1
  have HL := Lib.hid hl
  clear hc h1 hl
  go_enter Tryz.func24, Tryz.ntmps24
  go_wp2_with (at_builtin; refine wpList_append_own _ rfl _ _ 57 rfl w.heap.size 64 i0 _ 6 56 Tryz.underlying57 hi hz0 hz1 hz2 rfl (by decide) _ _ _ rfl (World.ownsRow_made w #[] 0 (Nat.le_refl _) (Nat.zero_le _) rfl) ⟨b, off, none⟩ n c xs rfl ?qc1 ?qc2 ?qc3 ?qc4 ?qc5 ?qc6 ?_)
  case qc1 => exact HL.out
  case qc2 =>
    intro j u hj
    rw [Addr.add_lit]
    exact Lib.cell?_alloc_some _ (HC.out j u hj)
  case qc3 => exact H1.out
  case qc4 => unfold maxLen; omega
  case qc5 => omega
  case qc6 => simp
  intro v' w1 hown hgrow hnil
  go_wp2
  go_ret
  refine ⟨v', rfl, by simpa using hown, ?_⟩
  exact ((Below.refl _ w).alloc (Nat.le_refl _) _).grown hgrow (by simp) (by intro k hk; simp [Value.ownBlock] at hk; omega)
theorem cloneM_nil (n c : Nat) (w : World) : Calls Tryz.prog 24 #[.slice none n c] w fun e w' => e = .returned (.slice none 0 0) ∧ w = w' := by
  have q22 : ∀ (w : World) (a : Option Addr) (n c n' c' : Nat), (binOp .eql 57 (.slice a n c) (.slice none n' c')).run Tryz.prog w = .ok (.bool a.isNone) w := fun w a n c n' c' => Lib.run_eql_slice_nil w _ _ a n c n' c' Tryz.underlying57
  go_enter Tryz.func24, Tryz.ntmps24
  go_wp2
  go_ret
  exact ⟨rfl, rfl⟩
theorem recsP_one (L : List Mk) : ∀ u ∈ recs mkC L, u.oneCell' = true := by
  intro u hu
  simp only [recs, List.mem_flatMap] at hu
  obtain ⟨x, _, hx⟩ := hu
  exact mkC_one x u hx
theorem cloneM_any (L : List Mk) (n base : Nat) (v : Value) (w : World) (hn : L.length = n) (hn2 : n ≤ 100000) (ho : w.ownsRow base 64 6 v n (recs mkC L)) :
    Calls Tryz.prog 24 #[v] w fun e w' => ∃ v', e = .returned v' ∧ w'.ownsRow w.heap.size 64 6 v' n (recs mkC L) ∧ Below w.heap.size w w' := by
  obtain ⟨A, c, rfl⟩ := own_slice ho
  rcases own_two ho with ⟨rfl, h0, rfl⟩ | ⟨g, rfl, _, hlt⟩
  · subst h0
    have : L = [] := List.eq_nil_of_length_eq_zero hn
    subst this
    refine (cloneM_nil 0 0 w).mono ?_
    rintro e w' ⟨rfl, rfl⟩
    exact ⟨_, rfl, World.ownsRow_nil _ _ _ _, Below.refl _ _⟩
  · exact cloneM_some g 0 n c (recs mkC L) w (by rw [recs_length mkC_len, hn]) (recsP_one L) (by omega) (own_cells0 ho)
end Go.Proofs.YtidgicbhgnbidaaGreatDoor
