/- fleetref2.PropsFault at properties with right values: it lets pass just what is good. -/
import Derived.Test.YtkcpfppjdjkjeaaGreatDoorPrV
import Derived.Test.YtkcpfppjdjkjeaaGreatDoorPrJ
import Derived.Test.YtkcpfppjdjkjeaaGreatDoorPrM
import Derived.Test.YtkcpfppjdjkjeaaGreatDoorLay99
import Derived.Laws.Concat
namespace Go.Proofs.YtkcpfppjdjkjeaaGreatDoor
open Go.RowKit Go.Shelf

def upB (i j : Nat) : Bool := Lib.hasPrefix (nm j).data.toList (nm i ++ ⟨#[46]⟩).data.toList
theorem ups_upB (j : Nat) : ∀ i ∈ ups j, upB i j = true := by
  intro i hi
  match j, hi with
  | 0, hi => simp [ups] at hi
  | 1, hi => simp [ups] at hi; subst hi; decide
  | 2, hi =>
    simp [ups] at hi
    rcases hi with rfl | rfl <;> decide
  | 3, hi => simp [ups] at hi; subst hi; decide
  | 4, hi => simp [ups] at hi
  | 5, hi => simp [ups] at hi
  | 6, hi => simp [ups] at hi; subst hi; decide
  | _ + 7, hi => simp [ups] at hi
theorem cpF_upB {l : List Pr} (h : ∀ p ∈ l, ∀ q ∈ l, upB q.1 p.1 = false) : cpF l = 0 := by
  refine cpF_no (fun k p hp => ?_)
  unfold abvF
  rw [List.any_eq_false]
  intro i hi hin
  unfold inF at hin
  rw [List.any_eq_true] at hin
  obtain ⟨q, hq, e⟩ := hin
  have e' : q.1 = i := by simpa using e
  have h1 := h p (List.mem_of_getElem? hp) q hq
  rw [e', ups_upB p.1 i hi] at h1
  cases h1
theorem nm_size (i : Nat) : (nm i).size ≤ 5 := by
  match i with
  | 0 => exact (by decide : (nm 0).size ≤ 5)
  | 1 => exact (by decide : (nm 1).size ≤ 5)
  | 2 => exact (by decide : (nm 2).size ≤ 5)
  | 3 => exact (by decide : (nm 3).size ≤ 5)
  | 4 => exact (by decide : (nm 4).size ≤ 5)
  | 5 => exact (by decide : (nm 5).size ≤ 5)
  | _ + 6 => exact (by decide : (nm 6).size ≤ 5)
theorem aboveR_any (i j : Nat) (w : World) : Calls Tryz.prog 66 #[.string (nm i), .string (nm j)] w fun e w' => e = .returned (.bool (upB i j)) ∧ w = w' := by
  have hs := nm_size i
  have hsum : ∀ W, (Op.stringOp .add (nm i) ⟨#[46]⟩).run Tryz.prog W = .ok (.string (nm i ++ ⟨#[46]⟩)) W := fun W => run_string_add_sum W _ _ (by have : (⟨#[46]⟩ : ByteArray).size = 1 := rfl; omega)
  have hp := fun W => Any.strings_HasPrefix lay99 (nm j) (nm i ++ ⟨#[46]⟩) W
  change ∀ W, Calls Tryz.prog 113 _ W _ at hp
  unfold upB
  obtain ⟨r, er⟩ : ∃ r, r = Lib.hasPrefix (nm j).data.toList (nm i ++ ⟨#[46]⟩).data.toList := ⟨_, rfl⟩
  rw [← er] at hp ⊢
  obtain ⟨c, ec⟩ : ∃ c, c = nm i ++ (⟨#[46]⟩ : ByteArray) := ⟨_, rfl⟩
  rw [← ec] at hsum hp
  clear er ec hs
  go_enter Tryz.func66, Tryz.ntmps66
  go_wp2_with (go_at_call 113; refine (hp _).mono ?_; rintro e w' ⟨rfl, rfl⟩)
  go_ret
  exact ⟨rfl, rfl⟩
theorem pf1_any (q p : Pr) (gp : Nat) (w : World) (hp : w.cell? ⟨gp, 0, none⟩ = some (.string (nm p.1))) (hlt : gp < w.heap.size) :
    Calls Tryz.prog 65 #[.agg #[.string (nm q.1), .int .i64 q.2.k, .bool q.2.f, .int .i64 q.2.n, .string q.2.s], .pointer (some ⟨gp, 0, none⟩)] w fun e w' => e = .returned (.bool (upB q.1 p.1)) ∧ Below w.heap.size w w' := by
  go_enter Tryz.func65, Tryz.ntmps65
  go_wp2_with (go_at_call 66; refine (aboveR_any _ _ _).mono ?_; rintro e w' ⟨rfl, rfl⟩)
  go_ret
  exact ⟨rfl, (Below.refl _ _).alloc (Nat.le_refl _) _⟩
def IxPost (l : List Pr) (p : Pr) (e : Ending) : Prop := ∃ z : Int, e = .returned (.int .i64 z) ∧ (z < 0 ↔ ∀ q ∈ l, upB q.1 p.1 = false)
set_option maxRecDepth 100000 in
set_option maxHeartbeats 1000000 in
theorem indexP_any (l : List Pr) (p : Pr) (n c gp : Nat) (A : Option Addr) (w : World) (hn : l.length = n) (hn7 : n ≤ 1000) (hr : Row w w.heap.size A (recs prC l)) (hp : w.cell? ⟨gp, 0, none⟩ = some (.string (nm p.1))) (hlt : gp < w.heap.size) :
    Calls Tryz.prog 112 #[.slice A n c, .func (.func 65) #[] #[.pointer (some ⟨gp, 0, none⟩)]] w fun e w' => IxPost l p e ∧ Below w.heap.size w w' := by
  have HR := Lib.hid hr
  have HN := Lib.hid hn
  have HP := Lib.hid hp
  clear hr hn hp
  go_enter Tryz.func112, Tryz.ntmps112
  go_wp2_with (fail)
  go_loopw [8] (fun i wr => ∃ k : Nat, k ≤ n ∧ i = .int .i64 k ∧ Below w.heap.size w wr ∧ Hid (∀ m x, m < k → l[m]? = some x → upB x.1 p.1 = false)) (fun i _ => n - (intOf i).toNat)
  case atStart => exact ⟨0, Nat.zero_le _, rfl, Below.refl _ _, Lib.hid (fun m x hm _ => by omega)⟩
  case round =>
    obtain ⟨k, hk, rfl, hb, HK⟩ := hrel
    have hbs := hb.size
    have HB := Lib.hid hb
    by_cases hl : k < n
    · have hltI : (k : Int) < (n : Int) := by omega
      obtain ⟨x, hx⟩ : ∃ x, l[k]? = some x := ⟨_, List.getElem?_eq_getElem (by have := HN.out; omega)⟩
      obtain ⟨b, o, rfl, hbw, hC⟩ := (HR.out.below hb).posR prC_len (by omega) (by have := HN.out; omega)
      obtain ⟨c0, c1, c2, c3, c4⟩ := pr_cells hC k x hx
      have HX := Lib.hid hx
      have hpw := Lib.hid ((hb.cell (p := ⟨gp, 0, none⟩) hlt).trans HP.out)
      clear hC hx hb
      go_wp2_with (fail)
      refine (pf1_any x p gp wr hpw.out (by omega)).mono ?_
      rintro e w1 ⟨rfl, hb1⟩
      have HB1 := Lib.hid (HB.out.trans (hb1.mono hbs))
      clear hb1
      cases hu : upB x.1 p.1
      · have HU := Lib.hid hu
        clear hu
        go_wp2_with (fail)
        go_roundw
        case rel =>
          refine ⟨k + 1, by omega, by simp, HB1.out, Lib.hid (fun m y hm hy => ?_)⟩
          by_cases hmk : m = k
          · subst hmk
            have := HX.out
            rw [hy] at this
            cases this
            exact HU.out
          · exact HK.out m y (by omega) hy
        case measure => simp [intOf]; omega
      · have HNO := Lib.hid (show ¬ ∀ q ∈ l, upB q.1 p.1 = false from fun hall => by
          have := hall x (List.mem_of_getElem? HX.out)
          rw [hu] at this
          cases this)
        clear hu
        go_wp2_with (fail)
        go_ret
        exact ⟨⟨_, rfl, fun h => absurd h (by omega), fun h => absurd h HNO.out⟩, HB1.out⟩
    · have hltI : ¬ (k : Int) < (n : Int) := by omega
      have hall := Lib.hid (show ∀ q ∈ l, upB q.1 p.1 = false from fun q hq => by
        obtain ⟨m, hm⟩ := List.getElem?_of_mem hq
        exact HK.out m q (by have := (List.getElem?_eq_some_iff.1 hm).1; have := HN.out; omega) hm)
      clear hb
      go_wp2_with (fail)
      go_ret
      exact ⟨⟨_, rfl, fun _ => hall.out, fun _ => by decide⟩, HB.out⟩
def CtPost (l : List Pr) (p : Pr) (e : Ending) : Prop := ∃ t : Bool, e = .returned (.bool t) ∧ (t = false ↔ ∀ q ∈ l, upB q.1 p.1 = false)
theorem containsP_any (l : List Pr) (p : Pr) (n c gp : Nat) (A : Option Addr) (w : World) (hn : l.length = n) (hn7 : n ≤ 1000) (hr : Row w w.heap.size A (recs prC l)) (hp : w.cell? ⟨gp, 0, none⟩ = some (.string (nm p.1))) (hlt : gp < w.heap.size) :
    Calls Tryz.prog 64 #[.slice A n c, .func (.func 65) #[] #[.pointer (some ⟨gp, 0, none⟩)]] w fun e w' => CtPost l p e ∧ Below w.heap.size w w' := by
  have H := Lib.hid (indexP_any l p n c gp A w hn hn7 hr hp hlt)
  clear hr hp
  go_enter Tryz.func64, Tryz.ntmps64
  go_wp2_with (fail)
  refine H.out.mono ?_
  rintro e w1 ⟨⟨z, rfl, hz⟩, hb⟩
  have HZ := Lib.hid hz
  have HB := Lib.hid hb
  clear hz hb
  go_wp2_with (fail)
  go_ret
  exact ⟨⟨decide (0 ≤ z), rfl, fun h => HZ.out.1 (by simpa using h), fun h => by simpa using HZ.out.2 h⟩, HB.out⟩
/-- What it lets pass. -/
def PfOk (l : List Pr) : Prop := l.Pairwise (fun x y => x.1 < y.1) ∧ (∀ p ∈ l, ∀ q ∈ l, upB q.1 p.1 = false) ∧ ∀ p ∈ l, ctR p.2.s = false
def PfPost (l : List Pr) (e : Ending) : Prop := ∃ z : Int, e = .returned (.int .i64 z) ∧ (z = 0 ↔ PfOk l)
theorem PfPost.no {l : List Pr} {z : Int} (hz : z ≠ 0) (h : ¬ PfOk l) : PfPost l (.returned (.int .i64 z)) := ⟨z, rfl, fun e => absurd e hz, fun e => absurd e h⟩
theorem rising_adj {l : List Pr} (h : ∀ m x y, l[m]? = some x → l[m + 1]? = some y → x.1 < y.1) : l.Pairwise (fun x y => x.1 < y.1) := by
  rw [List.pairwise_iff_getElem]
  intro i j hi hj hij
  obtain ⟨d, rfl⟩ : ∃ d, j = i + 1 + d := ⟨j - i - 1, by omega⟩
  induction d with
  | zero => exact h i _ _ (List.getElem?_eq_getElem hi) (List.getElem?_eq_getElem hj)
  | succ d ih =>
    have h1 := ih (by omega) (by omega)
    have h2 := h (i + 1 + d) _ _ (List.getElem?_eq_getElem (by omega)) (List.getElem?_eq_getElem (show i + 1 + d + 1 < l.length by omega))
    exact Nat.lt_trans h1 h2
set_option maxRecDepth 100000 in
set_option maxHeartbeats 4000000 in
theorem propsFault_any (l : List Pr) (n c : Nat) (A : Option Addr) (w : World) (hl : ∀ x ∈ l, x.1 < 7 ∧ PvOk x.2) (hn : l.length = n) (hn7 : n ≤ 100) (hr : Row w w.heap.size A (recs prC l)) (hT : U8T w) :
    Calls Tryz.prog 29 #[.slice A n c] w fun e w' => PfPost l e ∧ Below w.heap.size w w' := by
  have HR := Lib.hid hr
  have HL := Lib.hid hl
  have HN := Lib.hid hn
  have HT := Lib.hid (fun V (hV : Below w.heap.size w V) => hT.below hV)
  have hnI : ¬ (n : Int) > 500 := by omega
  have hnI2 : ¬ (500 : Int) < n := by omega
  clear hr hl hn hT
  go_enter Tryz.func29, Tryz.ntmps29
  go_wp2_with (fail)
  go_loopw [13] (fun s wr => ∃ (i : Nat), i ≤ n ∧ s = .int .i64 (i : Int) ∧ Below w.heap.size w wr ∧ Hid (∀ m x y, m + 1 < i → l[m]? = some x → l[m + 1]? = some y → x.1 < y.1) ∧ Hid (∀ m x, m < i → l[m]? = some x → ctR x.2.s = false)) (fun s _ => n - (intOf s).toNat)
  case atStart => exact ⟨0, by omega, rfl, Below.refl _ _, Lib.hid (fun m x y hm _ _ => by omega), Lib.hid (fun m x hm _ => by omega)⟩
  case round =>
    obtain ⟨i, hin, rfl, hbr, HK, HCT⟩ := hrel
    have hbs := hbr.size
    have HB := Lib.hid hbr
    clear hbr
    by_cases hlt : i < n
    · have hltI : (i : Int) < n := by omega
      obtain ⟨p, hp⟩ : ∃ p, l[i]? = some p := ⟨_, List.getElem?_eq_getElem (by have := HN.out; omega)⟩
      obtain ⟨b, o, rfl, hb, hC⟩ := (HR.out.below HB.out).posR prC_len (by omega) (by have := HN.out; omega)
      have hp7 := (HL.out p (List.mem_of_getElem? hp)).1
      have hpk := (HL.out p (List.mem_of_getElem? hp)).2.kne
      have HPv := Lib.hid (HL.out p (List.mem_of_getElem? hp)).2
      obtain ⟨c0, c1, c2, c3, c4⟩ := pr_cells hC i p hp
      have HP := Lib.hid hp
      clear hp hC
      go_wp2_with (fail)
      refine (propName_any p.1 _).mono ?_
      rintro e w1 ⟨rfl, hb1⟩
      have hg := (hb1.block wr.heap.size (by simp)).trans (heap_new wr (.cells #[.string (nm p.1), .int .i64 p.2.k, .bool p.2.f, .int .i64 p.2.n, .string p.2.s] 37))
      have hz1 := hb1.size
      simp only [World.size_alloc] at hz1
      have HB1 := Lib.hid ((HB.out.alloc hbs (.cells #[.string (nm p.1), .int .i64 p.2.k, .bool p.2.f, .int .i64 p.2.n, .string p.2.s] 37)).trans (hb1.mono (by simp; omega)))
      have g0 := cell_of_blk (j := 0) hg rfl
      have g1 := cell_of_blk (j := 1) hg rfl
      have g2 := cell_of_blk (j := 2) hg rfl
      have g3 := cell_of_blk (j := 3) hg rfl
      have g4 := cell_of_blk (j := 4) hg rfl
      have HG1 := Lib.hid hg
      have hlt1 : wr.heap.size < w1.heap.size := by omega
      clear hb1 hg c0 c1 c2 c3 c4
      · go_wp2_with (fail)
        refine (vf2_any p.2 w1 HPv.out (HT.out _ HB1.out)).mono ?_
        rintro e w2 ⟨⟨z, rfl, hvz⟩, hb2⟩
        have HVZ := Lib.hid hvz
        clear hvz
        have hz2 := hb2.size
        have hg := (hb2.block wr.heap.size hlt1).trans HG1.out
        have HB2 := Lib.hid (HB1.out.trans (hb2.mono (by omega)))
        clear g0 g1 g2 g3 g4
        have g0 := cell_of_blk (j := 0) hg rfl
        have g1 := cell_of_blk (j := 1) hg rfl
        clear hb2 hg
        by_cases hz0 : z = 0
        · have HCT2 := Lib.hid (show ∀ m x, m < i + 1 → l[m]? = some x → ctR x.2.s = false from fun m x hm hx => by
            by_cases hmi : m = i
            · subst hmi
              have h1 := HP.out
              rw [hx] at h1
              cases h1
              exact HVZ.out.1 hz0
            · exact HCT.out m x (by omega) hx)
          subst hz0
          by_cases hi0 : i = 0
          · subst hi0
            have hd : decide ((0 : Int) < 0) = false := by decide
            go_wp2_with (fail)
            go_quiet (fail)
            go_wp2_with (fail)
            go_roundw
            case rel => exact ⟨1, by omega, by simp, below_drewN HB2.out _, Lib.hid (fun m x y hm _ _ => by omega), HCT2⟩
            case measure => simp [intOf]; omega
          · have hi1 : 1 ≤ i := by omega
            have hi1I : (0 : Int) < i := by omega
            have hd : decide ((0 : Int) < i) = true := by simpa using hi1I
            have hd2 : decide (0 < i) = true := by simp; omega
            have hd3 : 0 < i := hi1
            obtain ⟨q, hq⟩ : ∃ q, l[i - 1]? = some q := ⟨_, List.getElem?_eq_getElem (by have := HN.out; omega)⟩
            obtain ⟨b', o', e', hb', hC⟩ := (HR.out.below HB2.out).posR prC_len (by omega) (by have := HN.out; omega)
            cases e'
            have hq7 := (HL.out q (List.mem_of_getElem? hq)).1
            obtain ⟨d0, _⟩ := pr_cells hC (i - 1) q hq
            have HQ := Lib.hid hq
            have hwrap : (i : Int) - 1 = ((i - 1 : Nat) : Int) := by omega
            clear hC hq
            go_wp2_with (fail)
            go_quiet (fail)
            rw [show (Op.bytesLess (nm p.1).toList (nm q.1).toList || (nm p.1).toList == (nm q.1).toList) = decide (p.1 ≤ q.1) from nm_le _ _ hp7 hq7]
            by_cases hle : p.1 ≤ q.1
            · rw [decide_eq_true hle]
              have HNO := Lib.hid (show ¬ PfOk l from fun hh => by
                have h1 := List.getElem?_eq_some_iff.1 HQ.out
                have h2 := List.getElem?_eq_some_iff.1 HP.out
                obtain ⟨h1a, h1b⟩ := h1
                obtain ⟨h2a, h2b⟩ := h2
                have := (List.pairwise_iff_getElem.1 hh.1) (i - 1) i h1a h2a (by omega)
                rw [h1b, h2b] at this
                omega)
              clear hle
              go_wp2_with (fail)
              go_ret
              exact ⟨PfPost.no (by decide) HNO.out, below_drewN HB2.out _⟩
            · have HLE := Lib.hid hle
              rw [decide_eq_false hle]
              clear hle
              go_wp2_with (fail)
              go_roundw
              case rel =>
                refine ⟨i + 1, by omega, by simp, below_drewN HB2.out _, Lib.hid (fun m x y hm hx hy => ?_), HCT2⟩
                by_cases hmi : m + 1 = i
                · have hm1 : m = i - 1 := by omega
                  have h1 := HP.out
                  have h2 := HQ.out
                  rw [← hmi, hy] at h1
                  rw [← hm1, hx] at h2
                  cases h1
                  cases h2
                  have := HLE.out
                  omega
                · exact HK.out m x y (by omega) hx hy
              case measure => simp [intOf]; omega
        · have HNO := Lib.hid (show ¬ PfOk l from fun hh => hz0 (HVZ.out.2 (hh.2.2 p (List.mem_of_getElem? HP.out))))
          go_wp2_with (fail)
          go_ret
          exact ⟨PfPost.no hz0 HNO.out, HB2.out⟩
    · have hltI : ¬ (i : Int) < n := by omega
      have hin' : i = n := by omega
      subst hin'
      have HRS := Lib.hid (rising_adj (l := l) (fun m x y hx hy => HK.out m x y (by have := (List.getElem?_eq_some_iff.1 hy).1; have := HN.out; omega) hx hy))
      have HCA := Lib.hid (show ∀ p ∈ l, ctR p.2.s = false from fun p hp => by
        obtain ⟨m, hm⟩ := List.getElem?_of_mem hp
        exact HCT.out m p (by have := (List.getElem?_eq_some_iff.1 hm).1; have := HN.out; omega) hm)
      go_wp2_with (fail)
      go_loopw [50] (fun s wr => ∃ (k : Nat), k ≤ i ∧ s = .int .i64 (k : Int) ∧ Below w.heap.size w wr ∧ Hid (∀ m x, m < k → l[m]? = some x → ∀ q ∈ l, upB q.1 x.1 = false)) (fun s _ => i - (intOf s).toNat)
      case atStart => exact ⟨0, by omega, rfl, HB.out, Lib.hid (fun m x hm _ => by omega)⟩
      case round =>
        obtain ⟨k, hki, rfl, hbq, HK2⟩ := hrel
        have hbs2 := hbq.size
        have HBq := Lib.hid hbq
        clear hbq
        by_cases hlt2 : k < i
        · have hltI2 : (k : Int) < i := by omega
          obtain ⟨p, hp⟩ : ∃ p, l[k]? = some p := ⟨_, List.getElem?_eq_getElem (by have := HN.out; omega)⟩
          obtain ⟨b, o, rfl, hb, hC⟩ := (HR.out.below HBq.out).posR prC_len (by omega) (by have := HN.out; omega)
          obtain ⟨c0, c1, c2, c3, c4⟩ := pr_cells hC k p hp
          have HP := Lib.hid hp
          clear hp hC
          have HBa := Lib.hid (HBq.out.alloc hbs2 (.cells #[.string (nm p.1), .int .i64 p.2.k, .bool p.2.f, .int .i64 p.2.n, .string p.2.s] 37))
          have HCt := Lib.hid (containsP_any l p i c wr.heap.size (some ⟨b, o, none⟩) (wr.alloc (.cells #[.string (nm p.1), .int .i64 p.2.k, .bool p.2.f, .int .i64 p.2.n, .string p.2.s] 37)) HN.out (by omega) ((HR.out.below HBa.out).mono HBa.out.size) (cell_of_blk (j := 0) (heap_new wr (.cells #[.string (nm p.1), .int .i64 p.2.k, .bool p.2.f, .int .i64 p.2.n, .string p.2.s] 37)) rfl) (by simp))
          go_wp2_with (fail)
          refine HCt.out.mono ?_
          rintro e w1 ⟨⟨t, rfl, ht⟩, hb1⟩
          have HB1 := Lib.hid (HBa.out.trans (hb1.mono HBa.out.size))
          have HTT := Lib.hid ht
          clear ht hb1 HCt
          cases t
          · go_wp2_with (fail)
            go_roundw
            case rel =>
              refine ⟨k + 1, by omega, by simp, HB1.out, Lib.hid (fun m x hm hx => ?_)⟩
              by_cases hmk : m = k
              · subst hmk
                have := HP.out
                rw [hx] at this
                cases this
                exact HTT.out.1 (by first | rfl | trivial)
              · exact HK2.out m x (by omega) hx
            case measure => simp [intOf]; omega
          · have HNO := Lib.hid (show ¬ PfOk l from fun hh => by
              have := HTT.out.2 (hh.2.1 p (List.mem_of_getElem? HP.out))
              cases this)
            go_wp2_with (fail)
            go_ret
            exact ⟨PfPost.no (by decide) HNO.out, HB1.out⟩
        · have hltI2 : ¬ (k : Int) < i := by omega
          have HF := Lib.hid (show ∀ p ∈ l, ∀ q ∈ l, upB q.1 p.1 = false from fun p hp => by
            obtain ⟨m, hm⟩ := List.getElem?_of_mem hp
            exact HK2.out m p (by have := (List.getElem?_eq_some_iff.1 hm).1; have := HN.out; omega) hm)
          go_wp2_with (fail)
          go_ret
          exact ⟨⟨0, rfl, fun _ => ⟨HRS.out, HF.out, HCA.out⟩, fun _ => rfl⟩, HBq.out⟩
end Go.Proofs.YtkcpfppjdjkjeaaGreatDoor
