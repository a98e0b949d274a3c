/- command.Text of right notes by its contract. Printed by gen_NoX.py. -/
import Derived.Test.YtjjfhblaefbpgaaGreatDoorNoM
import Derived.Test.YtjjfhblaefbpgaaGreatDoorTxS
import Derived.Test.YtjjfhblaefbpgaaGreatDoorMgB
import Derived.Deep.RegionHeld3
namespace Go.Proofs.YtjjfhblaefbpgaaGreatDoor
open Go.RowKit

theorem idT_eq (i : Nat) : idT i = ⟨(idL i).toArray⟩ := by
  match i with
  | 0 => rfl
  | 1 => rfl
  | _ + 2 => rfl
theorem or_dash (b : Nat) (w : World) (h0 : w.cell? ⟨b, 0, none⟩ = some (.string ⟨#[]⟩)) (h1 : w.cell? ⟨b, 1, none⟩ = some (.string ⟨#[45]⟩)) :
    Calls Tryz.prog 35 #[.slice (some ⟨b, 0, none⟩) 2 2] w fun e w' => e = .returned (.string ⟨#[45]⟩) ∧ Below w.heap.size w w' := by
  go_enter Tryz.func35, Tryz.ntmps35
  go_wp2_with (fail)
  refine wp_loop_rounds 2 ?_
  rw [rounds_succ]
  go_wp2_with (fail)
  rw [rounds_succ]
  go_wp2_with (fail)
  go_ret
  exact ⟨rfl, Below.refl _ _⟩
def numL (n : Int) : List UInt8 := if n = 100 then [49, 48, 48] else dgL n
theorem itoa_num (n : Int) (w : World) (h : 0 ≤ n ∧ n ≤ 9 ∨ n = 100) (hT : TxW w) :
    Calls Tryz.prog 36 #[.int .i64 n] w fun e w' => e = .returned (.string ⟨(numL n).toArray⟩) ∧ Below w.heap.size w w' := by
  refine (itoa_any n w (by omega) (by omega) hT).mono ?_
  rintro e w' ⟨h1, h2⟩
  refine ⟨?_, h2⟩
  rw [h1]
  unfold numL
  split
  · rename_i e; rw [e, itoa_100]
  · rw [itoa_dg n (by omega) (by omega)]
theorem num_len (n : Int) : (numL n).length ≤ 3 := by unfold numL; split <;> simp [dgL]
theorem bld_writeL (B b : Nat) (l m : List UInt8) (s : ByteArray) (w : World) (h : Bld B b l w) (hs : s = ⟨m.toArray⟩) (hl : l.length ≤ 1000000) (hm : m.length ≤ 1000000) (hB : B ≤ w.heap.size) :
    Calls Tryz.prog 34 #[.pointer (some ⟨b, 0, none⟩), .string s] w fun e w' => (∃ z, e = .returned (.tuple #[.int .i64 z, .nilIface])) ∧ Bld B b (l ++ m) w' ∧ Kp B b w w' := by
  subst hs
  refine (bld_write B b l ⟨m.toArray⟩ w h hl (by simp [ByteArray.size]; omega) hB).mono ?_
  rintro e w' ⟨h1, h2, h3⟩
  exact ⟨⟨_, h1⟩, by simpa using h2, h3⟩
theorem str_addS {P : Program} (a b c : ByteArray) (l m : List UInt8) (ha : a = ⟨l.toArray⟩) (hb : b = ⟨m.toArray⟩) (hc : c = ⟨(l ++ m).toArray⟩) (h : l.length + m.length ≤ 1000000) (W : World) : (Op.stringOp .add a b).run P W = .ok (.string c) W := by
  subst ha; subst hb; subst hc; exact str_add l m h W
theorem tx_snoc {l : List No} {i : Nat} {x : No} (h : l[i]? = some x) : txL (l.take (i + 1)) = txL (l.take i) ++ (idL x.1 ++ [32, 45]) ++ ([32] ++ numL 0) ++ ([32] ++ numL 0) ++ ([32] ++ numL 100) ++ ([32] ++ numL x.2.s) ++ ([32] ++ numL x.2.t) ++ ([32] ++ numL x.2.c) ++ [32, 34, 100, 111, 34, 10] ∨ ¬ (x.2.s ≤ 9 ∧ x.2.t ≤ 9 ∧ x.2.c ≤ 9) := by
  by_cases h9 : x.2.s ≤ 9 ∧ x.2.t ≤ 9 ∧ x.2.c ≤ 9
  · left
    have e : l.take (i + 1) = l.take i ++ [x] := by
      rw [List.take_add_one, h]; rfl
    have n0 : numL 0 = [48] := by rfl
    have n1 : numL 100 = [49, 48, 48] := by rfl
    have ns : numL x.2.s = dgL x.2.s := if_neg (by omega)
    have nt : numL x.2.t = dgL x.2.t := if_neg (by omega)
    have nc : numL x.2.c = dgL x.2.c := if_neg (by omega)
    rw [e]
    unfold txL
    rw [List.map_append, List.map_cons, List.map_nil, linesC_snoc, ln_eq, n0, n1, ns, nt, nc]
    simp
  · exact .inr h9
def TxPost (l : List No) (w : World) (e : Ending) (w' : World) : Prop :=
  e = .returned (.tuple #[.string ⟨(txL l).toArray⟩, .int .i64 0]) ∧ Below w.heap.size w w'
set_option maxRecDepth 100000 in
set_option maxHeartbeats 8000000 in
theorem textN_any (l : List No) (n c : Nat) (A : Option Addr) (w : World) (hl : NsOk l) (hn : l.length = n) (hr : Ly w A n c (recs noC l)) (hT : TxW w) :
    Calls Tryz.prog 9 #[.slice A n c] w fun e w' => TxPost l w e w' := by
  have hn3 : n ≤ 3 := by rw [← hn]; exact hl.len
  have HR := Lib.hid (fun V (hV : Below w.heap.size w V) => hr.below hV)
  have HT := Lib.hid (fun V (hV : Below w.heap.size w V) => hT.below hV)
  have HL := Lib.hid hl
  have HN := Lib.hid hn
  clear hr hT hl hn
  go_enter Tryz.func9, Tryz.ntmps9
  go_wp2_with (fail)
  refine (checkNotes_any l n c A w HL.out HN.out (HR.out _ (Below.refl _ _)).rowN (HT.out _ (Below.refl _ _)).u8).mono ?_
  rintro e w1 ⟨rfl, hb1⟩
  have HB1 := Lib.hid hb1
  have hs1 := hb1.size
  clear hb1
  go_upto_region 5 with (fail)
  have HD2 := Lib.hid (bld_new w1)
  have HB2 := Lib.hid (HB1.out.alloc hs1 (.cells #[.pointer none, .slice none 0 0] 84))
  have hs2 : w1.heap.size < (w1.alloc (.cells #[.pointer none, .slice none 0 0] 84)).heap.size := by simp
  generalize w1.alloc (.cells #[.pointer none, .slice none 0 0] 84) = w2 at HD2 HB2 hs2 ⊢
  generalize w1.heap.size = B at HD2 hs2 hs1 ⊢
  clear HB1
  go_wp2_with (fail)
  go_loopw [17] (fun s wr => ∃ (i : Nat), i ≤ n ∧ s = .int .i64 (i : Int) ∧ Hid (Bld B B (txL (l.take i)) wr) ∧ Hid (Kp B B w2 wr)) (fun s _ => n - (intOf s).toNat)
  case atStart => exact ⟨0, by omega, rfl, HD2, Lib.hid (Kp.refl _ _ _)⟩
  case round =>
    obtain ⟨i, hin, rfl, HD, HK⟩ := hrel
    have hsr := HK.out.low.size
    have HB := Lib.hid (HB2.out.trans (HK.out.low.mono hs1))
    have hbs := HB.out.size
    by_cases hlt : i < n
    · have hltI : (i : Int) < n := by omega
      obtain ⟨x, hx⟩ : ∃ x, l[i]? = some x := ⟨_, List.getElem?_eq_getElem (by have := HN.out; omega)⟩
      obtain ⟨b, o, rfl, hb, hC⟩ := (HR.out _ HB.out).rowN.posR noC_len (by omega) (by have := HN.out; omega)
      obtain ⟨hx7, hxv⟩ := HL.out.2 x (List.mem_of_getElem? hx)
      obtain ⟨k1, k2, k3, k4, k5, k6⟩ := hxv
      have HSN := Lib.hid ((tx_snoc hx).resolve_right (fun h => h ⟨by omega, by omega, by omega⟩))
      have h72 := tx_len (l.take i)
      rw [List.length_take] at h72
      have hl72 : (txL (l.take i)).length ≤ 72 := by omega
      clear h72
      generalize txL (l.take i) = T at HD HSN hl72
      obtain ⟨c0, c1, c2, c3, c4, c5, c6, c7, c8⟩ := no_cells hC i x hx
      clear hC hx
      have H1s := Lib.hid (And.intro k1 k2)
      have H1t := Lib.hid (And.intro k3 k4)
      have H1c := Lib.hid (And.intro k5 k6)
      clear k1 k2 k3 k4 k5 k6
      have HBn := Lib.hid (HB.out.alloc hbs (.cells #[.string (idT x.1), .string ⟨#[]⟩, .string ⟨#[100, 111]⟩, .int .i64 0, .int .i64 0, .int .i64 100, .int .i64 x.2.s, .int .i64 x.2.t, .int .i64 x.2.c] 34))
      have HGn := Lib.hid (heap_new wr (.cells #[.string (idT x.1), .string ⟨#[]⟩, .string ⟨#[100, 111]⟩, .int .i64 0, .int .i64 0, .int .i64 100, .int .i64 x.2.s, .int .i64 x.2.t, .int .i64 x.2.c] 34))
      have HDn := Lib.hid (HD.out.below ((Below.refl _ _).alloc (Nat.le_refl _) (.cells #[.string (idT x.1), .string ⟨#[]⟩, .string ⟨#[100, 111]⟩, .int .i64 0, .int .i64 0, .int .i64 100, .int .i64 x.2.s, .int .i64 x.2.t, .int .i64 x.2.c] 34)))
      have HKn := Lib.hid (HK.out.below (by omega) ((Below.refl _ _).alloc (Nat.le_refl _) (.cells #[.string (idT x.1), .string ⟨#[]⟩, .string ⟨#[100, 111]⟩, .int .i64 0, .int .i64 0, .int .i64 100, .int .i64 x.2.s, .int .i64 x.2.t, .int .i64 x.2.c] 34)))
      have hsn : wr.heap.size < (wr.alloc (.cells #[.string (idT x.1), .string ⟨#[]⟩, .string ⟨#[100, 111]⟩, .int .i64 0, .int .i64 0, .int .i64 100, .int .i64 x.2.s, .int .i64 x.2.t, .int .i64 x.2.c] 34)).heap.size := by simp
      go_wp2_with (fail)
      go_upto_region 8 with (fail)
      generalize wr.alloc (.cells #[.string (idT x.1), .string ⟨#[]⟩, .string ⟨#[100, 111]⟩, .int .i64 0, .int .i64 0, .int .i64 100, .int .i64 x.2.s, .int .i64 x.2.t, .int .i64 x.2.c] 34) = wn at HBn HGn HDn HKn hsn ⊢
      generalize wr.heap.size = g at HGn hsn hsr hbs ⊢
      have hgB : g ≠ B := by omega
      clear c0 c1 c2 c3 c4 c5 c6 c7 c8 HD HK HB hb
      have hsw : w.heap.size ≤ wn.heap.size := by omega
      have HQ := Lib.hid (fun (V : World) (hV : Below wn.heap.size wn V) => show NoB V g x from no_blk ((hV.block g hsn).trans HGn.out))
      obtain ⟨S1, hS1⟩ : ∃ S : ByteArray, S = ⟨(idL x.1 ++ [32]).toArray⟩ := ⟨_, rfl⟩
      obtain ⟨S2, hS2⟩ : ∃ S : ByteArray, S = ⟨((idL x.1 ++ [32]) ++ [45]).toArray⟩ := ⟨_, rfl⟩
      have hA1 : ∀ W, (Op.stringOp .add (idT x.1) ⟨#[32]⟩).run Tryz.prog W = .ok (.string S1) W := fun W => str_addS _ _ _ (idL x.1) [32] (idT_eq _) rfl hS1 (by rw [id_len]; decide) W
      have hA2 : ∀ W, (Op.stringOp .add S1 ⟨#[45]⟩).run Tryz.prog W = .ok (.string S2) W := fun W => str_addS _ _ _ (idL x.1 ++ [32]) [45] hS1 rfl hS2 (by rw [List.length_append, id_len]; decide) W
      have HS2 := Lib.hid hS2
      clear hS1 hS2
      have HS := Lib.hid (fun (V : World) (hV : Below wn.heap.size wn V) => show V.cell? ⟨g, 0, none⟩ = some (.string (idT x.1)) ∧ V.cell? ⟨g, 1, none⟩ = some (.string ⟨#[]⟩) from ⟨(HQ.out V hV).1, (HQ.out V hV).2.1⟩)
      obtain ⟨e0, e1⟩ := HS.out wn (Below.refl _ _)
      have hgw : g < wn.heap.size := hsn
      go_region_held3 (fun V => V.cell? ⟨g, 0, none⟩ = some (.string (idT x.1)) ∧ V.cell? ⟨g, 1, none⟩ = some (.string ⟨#[]⟩))
        (first | go_keep | (exact hS))
        (first
          | (go_at_call 34
             have hz := HB4
             refine (bld_writeL B B T ((idL x.1 ++ [32]) ++ [45]) S2 w4 HD4.out HS2.out (by omega) (by rw [List.length_append, List.length_append, id_len]; decide) (by omega)).mono ?_
             rintro e w5 ⟨⟨z, rfl⟩, h1, h2⟩
             have HD5 := Lib.hid h1
             have HK5 := Lib.hid h2
             have HG5 := Lib.hid (h2.at HG4.out hgB (by decide))
             have hs5 := h2.low.size
             have hS : w5.cell? ⟨g, 0, none⟩ = some (.string (idT x.1)) ∧ w5.cell? ⟨g, 1, none⟩ = some (.string ⟨#[]⟩) := ⟨(no_blk HG5.out).1, (no_blk HG5.out).2.1⟩)
          | (go_at_call 35
             refine (or_dash _ _ (by simp) (by simp)).mono ?_
             rintro e w4 ⟨rfl, hb4⟩
             have HB4 := Lib.hid (show Below wn.heap.size wn w4 from (((Below.refl wn.heap.size wn).drew).alloc (Nat.le_refl _) _).trans (hb4.mono (by simp)))
             have HG4 := Lib.hid ((HB4.out.block g hgw).trans HGn.out)
             have HD4 := Lib.hid (HDn.out.below HB4.out)
             have HK4 := Lib.hid (HKn.out.below (by omega) HB4.out)
             have hs4 := HB4.out.size
             have hS := HS.out w4 HB4.out))
      clear hS e0 e1
      obtain ⟨T0, hT0⟩ : ∃ T0, T0 = T ++ ((idL x.1 ++ [32]) ++ [45]) := ⟨_, rfl⟩
      rw [← hT0] at HD5
      have hl0 : T0.length ≤ 76 := by rw [hT0, List.length_append, List.length_append, List.length_append, id_len]; simp; omega
      have HT0 := Lib.hid hT0
      have HKa := Lib.hid (HK4.out.trans HK5.out)
      clear hT0 HD4 HK4 HG4 HB4 HK5 HS HQ
      obtain ⟨q0, q1, q2, q3, q4, q5, q6, q7, q8⟩ := no_blk HG5.out
      go_upto_region 10 with (fail)
      have HDb := Lib.hid (HD5.out.below ((Below.refl _ _).alloc (Nat.le_refl _) (.cells #[.int .i64 0, .int .i64 0, .int .i64 100, .int .i64 x.2.s, .int .i64 x.2.t, .int .i64 x.2.c] 3)))
      have HKb := Lib.hid (HKa.out.below (by omega) ((Below.refl _ _).alloc (Nat.le_refl _) (.cells #[.int .i64 0, .int .i64 0, .int .i64 100, .int .i64 x.2.s, .int .i64 x.2.t, .int .i64 x.2.c] 3)))
      have HGb := Lib.hid ((((Below.refl _ _).alloc (Nat.le_refl _) (.cells #[.int .i64 0, .int .i64 0, .int .i64 100, .int .i64 x.2.s, .int .i64 x.2.t, .int .i64 x.2.c] 3)).block g (by omega)).trans HG5.out)
      have HIb := Lib.hid (heap_new w5 (.cells #[.int .i64 0, .int .i64 0, .int .i64 100, .int .i64 x.2.s, .int .i64 x.2.t, .int .i64 x.2.c] 3))
      have hsb : w5.heap.size < (w5.alloc (.cells #[.int .i64 0, .int .i64 0, .int .i64 100, .int .i64 x.2.s, .int .i64 x.2.t, .int .i64 x.2.c] 3)).heap.size := by simp
      clear q0 q1 q2 q3 q4 q5 q6 q7 q8 HD5 HKa HG5
      generalize w5.alloc (.cells #[.int .i64 0, .int .i64 0, .int .i64 100, .int .i64 x.2.s, .int .i64 x.2.t, .int .i64 x.2.c] 3) = v0 at HDb HKb HGb HIb hsb ⊢
      have hgq : w5.heap.size ≠ B := by omega
      have hgv : B < v0.heap.size := by omega
      generalize w5.heap.size = q at HIb hsb hgq ⊢
      clear hs4 hs5 hsn hgw hsr hbs
      refine wp_loop_rounds 7 ?_
      have ci0 := cell_of_blk (j := 0) HIb.out rfl
      rw [rounds_succ]
      go_wp2_with (fail)
      refine (itoa_num (0) v0 (.inl (by omega)) (HT.out _ (HB2.out.trans (HKb.out.low.mono hs1)))).mono ?_
      rintro e wa0 ⟨rfl, hba⟩
      have HDa0 := Lib.hid (HDb.out.below hba)
      have HKa0 := Lib.hid (HKb.out.below (by omega) hba)
      have HGa0 := Lib.hid ((hba.block g (Array.getElem?_eq_some_iff.1 HGb.out).1).trans HGb.out)
      have HIa0 := Lib.hid ((hba.block q (Array.getElem?_eq_some_iff.1 HIb.out).1).trans HIb.out)
      have hsa0 := hba.size
      clear hba ci0 HDb HKb HGb HIb
      obtain ⟨N0, hN0⟩ : ∃ N : ByteArray, N = ⟨(numL (0)).toArray⟩ := ⟨_, rfl⟩
      rw [← hN0]
      obtain ⟨P0, hP0⟩ : ∃ N : ByteArray, N = ⟨([32] ++ numL (0)).toArray⟩ := ⟨_, rfl⟩
      have hA3 : ∀ W, (Op.stringOp .add ⟨#[32]⟩ N0).run Tryz.prog W = .ok (.string P0) W := fun W => str_addS _ _ _ [32] (numL (0)) rfl hN0 hP0 (by have := num_len (0); simp only [List.length_cons, List.length_nil]; omega) W
      have HP0 := Lib.hid hP0
      clear hN0 hP0
      go_wp2_with (fail)
      refine (bld_writeL B B T0 ([32] ++ numL (0)) P0 wa0 HDa0.out HP0.out (by omega) (by have := num_len (0); rw [List.length_append]; simp only [List.length_cons, List.length_nil]; omega) (by omega)).mono ?_
      rintro e wb0 ⟨⟨z0, rfl⟩, h1, h2⟩
      obtain ⟨T1, hT⟩ : ∃ t, t = T0 ++ ([32] ++ numL (0)) := ⟨_, rfl⟩
      rw [← hT] at h1
      have hl1 : T1.length ≤ 80 := by have := num_len (0); rw [hT, List.length_append, List.length_append]; simp only [List.length_cons, List.length_nil]; omega
      have HT1 := Lib.hid hT
      have HDb0 := Lib.hid h1
      have HKb0 := Lib.hid (HKa0.out.trans h2)
      have HGb0 := Lib.hid (h2.at HGa0.out hgB (by decide))
      have HIb0 := Lib.hid (h2.at HIa0.out hgq (by decide))
      have hsb0 := h2.low.size
      clear h1 h2 hT hA3 HDa0 HKa0 HGa0 HIa0
      go_wp2_with (fail)
      have ci1 := cell_of_blk (j := 1) HIb0.out rfl
      rw [rounds_succ]
      go_wp2_with (fail)
      refine (itoa_num (0) wb0 (.inl (by omega)) (HT.out _ (HB2.out.trans (HKb0.out.low.mono hs1)))).mono ?_
      rintro e wa1 ⟨rfl, hba⟩
      have HDa1 := Lib.hid (HDb0.out.below hba)
      have HKa1 := Lib.hid (HKb0.out.below (by omega) hba)
      have HGa1 := Lib.hid ((hba.block g (Array.getElem?_eq_some_iff.1 HGb0.out).1).trans HGb0.out)
      have HIa1 := Lib.hid ((hba.block q (Array.getElem?_eq_some_iff.1 HIb0.out).1).trans HIb0.out)
      have hsa1 := hba.size
      clear hba ci1 HDb0 HKb0 HGb0 HIb0
      obtain ⟨N1, hN1⟩ : ∃ N : ByteArray, N = ⟨(numL (0)).toArray⟩ := ⟨_, rfl⟩
      rw [← hN1]
      obtain ⟨P1, hP1⟩ : ∃ N : ByteArray, N = ⟨([32] ++ numL (0)).toArray⟩ := ⟨_, rfl⟩
      have hA4 : ∀ W, (Op.stringOp .add ⟨#[32]⟩ N1).run Tryz.prog W = .ok (.string P1) W := fun W => str_addS _ _ _ [32] (numL (0)) rfl hN1 hP1 (by have := num_len (0); simp only [List.length_cons, List.length_nil]; omega) W
      have HP1 := Lib.hid hP1
      clear hN1 hP1
      go_wp2_with (fail)
      refine (bld_writeL B B T1 ([32] ++ numL (0)) P1 wa1 HDa1.out HP1.out (by omega) (by have := num_len (0); rw [List.length_append]; simp only [List.length_cons, List.length_nil]; omega) (by omega)).mono ?_
      rintro e wb1 ⟨⟨z1, rfl⟩, h1, h2⟩
      obtain ⟨T2, hT⟩ : ∃ t, t = T1 ++ ([32] ++ numL (0)) := ⟨_, rfl⟩
      rw [← hT] at h1
      have hl2 : T2.length ≤ 84 := by have := num_len (0); rw [hT, List.length_append, List.length_append]; simp only [List.length_cons, List.length_nil]; omega
      have HT2 := Lib.hid hT
      have HDb1 := Lib.hid h1
      have HKb1 := Lib.hid (HKa1.out.trans h2)
      have HGb1 := Lib.hid (h2.at HGa1.out hgB (by decide))
      have HIb1 := Lib.hid (h2.at HIa1.out hgq (by decide))
      have hsb1 := h2.low.size
      clear h1 h2 hT hA4 HDa1 HKa1 HGa1 HIa1
      go_wp2_with (fail)
      have ci2 := cell_of_blk (j := 2) HIb1.out rfl
      rw [rounds_succ]
      go_wp2_with (fail)
      refine (itoa_num (100) wb1 (.inr rfl) (HT.out _ (HB2.out.trans (HKb1.out.low.mono hs1)))).mono ?_
      rintro e wa2 ⟨rfl, hba⟩
      have HDa2 := Lib.hid (HDb1.out.below hba)
      have HKa2 := Lib.hid (HKb1.out.below (by omega) hba)
      have HGa2 := Lib.hid ((hba.block g (Array.getElem?_eq_some_iff.1 HGb1.out).1).trans HGb1.out)
      have HIa2 := Lib.hid ((hba.block q (Array.getElem?_eq_some_iff.1 HIb1.out).1).trans HIb1.out)
      have hsa2 := hba.size
      clear hba ci2 HDb1 HKb1 HGb1 HIb1
      obtain ⟨N2, hN2⟩ : ∃ N : ByteArray, N = ⟨(numL (100)).toArray⟩ := ⟨_, rfl⟩
      rw [← hN2]
      obtain ⟨P2, hP2⟩ : ∃ N : ByteArray, N = ⟨([32] ++ numL (100)).toArray⟩ := ⟨_, rfl⟩
      have hA5 : ∀ W, (Op.stringOp .add ⟨#[32]⟩ N2).run Tryz.prog W = .ok (.string P2) W := fun W => str_addS _ _ _ [32] (numL (100)) rfl hN2 hP2 (by have := num_len (100); simp only [List.length_cons, List.length_nil]; omega) W
      have HP2 := Lib.hid hP2
      clear hN2 hP2
      go_wp2_with (fail)
      refine (bld_writeL B B T2 ([32] ++ numL (100)) P2 wa2 HDa2.out HP2.out (by omega) (by have := num_len (100); rw [List.length_append]; simp only [List.length_cons, List.length_nil]; omega) (by omega)).mono ?_
      rintro e wb2 ⟨⟨z2, rfl⟩, h1, h2⟩
      obtain ⟨T3, hT⟩ : ∃ t, t = T2 ++ ([32] ++ numL (100)) := ⟨_, rfl⟩
      rw [← hT] at h1
      have hl3 : T3.length ≤ 88 := by have := num_len (100); rw [hT, List.length_append, List.length_append]; simp only [List.length_cons, List.length_nil]; omega
      have HT3 := Lib.hid hT
      have HDb2 := Lib.hid h1
      have HKb2 := Lib.hid (HKa2.out.trans h2)
      have HGb2 := Lib.hid (h2.at HGa2.out hgB (by decide))
      have HIb2 := Lib.hid (h2.at HIa2.out hgq (by decide))
      have hsb2 := h2.low.size
      clear h1 h2 hT hA5 HDa2 HKa2 HGa2 HIa2
      go_wp2_with (fail)
      have ci3 := cell_of_blk (j := 3) HIb2.out rfl
      rw [rounds_succ]
      go_wp2_with (fail)
      refine (itoa_num (x.2.s) wb2 (.inl (by have := H1s.out; omega)) (HT.out _ (HB2.out.trans (HKb2.out.low.mono hs1)))).mono ?_
      rintro e wa3 ⟨rfl, hba⟩
      have HDa3 := Lib.hid (HDb2.out.below hba)
      have HKa3 := Lib.hid (HKb2.out.below (by omega) hba)
      have HGa3 := Lib.hid ((hba.block g (Array.getElem?_eq_some_iff.1 HGb2.out).1).trans HGb2.out)
      have HIa3 := Lib.hid ((hba.block q (Array.getElem?_eq_some_iff.1 HIb2.out).1).trans HIb2.out)
      have hsa3 := hba.size
      clear hba ci3 HDb2 HKb2 HGb2 HIb2
      obtain ⟨N3, hN3⟩ : ∃ N : ByteArray, N = ⟨(numL (x.2.s)).toArray⟩ := ⟨_, rfl⟩
      rw [← hN3]
      obtain ⟨P3, hP3⟩ : ∃ N : ByteArray, N = ⟨([32] ++ numL (x.2.s)).toArray⟩ := ⟨_, rfl⟩
      have hA6 : ∀ W, (Op.stringOp .add ⟨#[32]⟩ N3).run Tryz.prog W = .ok (.string P3) W := fun W => str_addS _ _ _ [32] (numL (x.2.s)) rfl hN3 hP3 (by have := num_len (x.2.s); simp only [List.length_cons, List.length_nil]; omega) W
      have HP3 := Lib.hid hP3
      clear hN3 hP3
      go_wp2_with (fail)
      refine (bld_writeL B B T3 ([32] ++ numL (x.2.s)) P3 wa3 HDa3.out HP3.out (by omega) (by have := num_len (x.2.s); rw [List.length_append]; simp only [List.length_cons, List.length_nil]; omega) (by omega)).mono ?_
      rintro e wb3 ⟨⟨z3, rfl⟩, h1, h2⟩
      obtain ⟨T4, hT⟩ : ∃ t, t = T3 ++ ([32] ++ numL (x.2.s)) := ⟨_, rfl⟩
      rw [← hT] at h1
      have hl4 : T4.length ≤ 92 := by have := num_len (x.2.s); rw [hT, List.length_append, List.length_append]; simp only [List.length_cons, List.length_nil]; omega
      have HT4 := Lib.hid hT
      have HDb3 := Lib.hid h1
      have HKb3 := Lib.hid (HKa3.out.trans h2)
      have HGb3 := Lib.hid (h2.at HGa3.out hgB (by decide))
      have HIb3 := Lib.hid (h2.at HIa3.out hgq (by decide))
      have hsb3 := h2.low.size
      clear h1 h2 hT hA6 HDa3 HKa3 HGa3 HIa3
      go_wp2_with (fail)
      have ci4 := cell_of_blk (j := 4) HIb3.out rfl
      rw [rounds_succ]
      go_wp2_with (fail)
      refine (itoa_num (x.2.t) wb3 (.inl (by have := H1t.out; omega)) (HT.out _ (HB2.out.trans (HKb3.out.low.mono hs1)))).mono ?_
      rintro e wa4 ⟨rfl, hba⟩
      have HDa4 := Lib.hid (HDb3.out.below hba)
      have HKa4 := Lib.hid (HKb3.out.below (by omega) hba)
      have HGa4 := Lib.hid ((hba.block g (Array.getElem?_eq_some_iff.1 HGb3.out).1).trans HGb3.out)
      have HIa4 := Lib.hid ((hba.block q (Array.getElem?_eq_some_iff.1 HIb3.out).1).trans HIb3.out)
      have hsa4 := hba.size
      clear hba ci4 HDb3 HKb3 HGb3 HIb3
      obtain ⟨N4, hN4⟩ : ∃ N : ByteArray, N = ⟨(numL (x.2.t)).toArray⟩ := ⟨_, rfl⟩
      rw [← hN4]
      obtain ⟨P4, hP4⟩ : ∃ N : ByteArray, N = ⟨([32] ++ numL (x.2.t)).toArray⟩ := ⟨_, rfl⟩
      have hA7 : ∀ W, (Op.stringOp .add ⟨#[32]⟩ N4).run Tryz.prog W = .ok (.string P4) W := fun W => str_addS _ _ _ [32] (numL (x.2.t)) rfl hN4 hP4 (by have := num_len (x.2.t); simp only [List.length_cons, List.length_nil]; omega) W
      have HP4 := Lib.hid hP4
      clear hN4 hP4
      go_wp2_with (fail)
      refine (bld_writeL B B T4 ([32] ++ numL (x.2.t)) P4 wa4 HDa4.out HP4.out (by omega) (by have := num_len (x.2.t); rw [List.length_append]; simp only [List.length_cons, List.length_nil]; omega) (by omega)).mono ?_
      rintro e wb4 ⟨⟨z4, rfl⟩, h1, h2⟩
      obtain ⟨T5, hT⟩ : ∃ t, t = T4 ++ ([32] ++ numL (x.2.t)) := ⟨_, rfl⟩
      rw [← hT] at h1
      have hl5 : T5.length ≤ 96 := by have := num_len (x.2.t); rw [hT, List.length_append, List.length_append]; simp only [List.length_cons, List.length_nil]; omega
      have HT5 := Lib.hid hT
      have HDb4 := Lib.hid h1
      have HKb4 := Lib.hid (HKa4.out.trans h2)
      have HGb4 := Lib.hid (h2.at HGa4.out hgB (by decide))
      have HIb4 := Lib.hid (h2.at HIa4.out hgq (by decide))
      have hsb4 := h2.low.size
      clear h1 h2 hT hA7 HDa4 HKa4 HGa4 HIa4
      go_wp2_with (fail)
      have ci5 := cell_of_blk (j := 5) HIb4.out rfl
      rw [rounds_succ]
      go_wp2_with (fail)
      refine (itoa_num (x.2.c) wb4 (.inl (by have := H1c.out; omega)) (HT.out _ (HB2.out.trans (HKb4.out.low.mono hs1)))).mono ?_
      rintro e wa5 ⟨rfl, hba⟩
      have HDa5 := Lib.hid (HDb4.out.below hba)
      have HKa5 := Lib.hid (HKb4.out.below (by omega) hba)
      have HGa5 := Lib.hid ((hba.block g (Array.getElem?_eq_some_iff.1 HGb4.out).1).trans HGb4.out)
      have HIa5 := Lib.hid ((hba.block q (Array.getElem?_eq_some_iff.1 HIb4.out).1).trans HIb4.out)
      have hsa5 := hba.size
      clear hba ci5 HDb4 HKb4 HGb4 HIb4
      obtain ⟨N5, hN5⟩ : ∃ N : ByteArray, N = ⟨(numL (x.2.c)).toArray⟩ := ⟨_, rfl⟩
      rw [← hN5]
      obtain ⟨P5, hP5⟩ : ∃ N : ByteArray, N = ⟨([32] ++ numL (x.2.c)).toArray⟩ := ⟨_, rfl⟩
      have hA8 : ∀ W, (Op.stringOp .add ⟨#[32]⟩ N5).run Tryz.prog W = .ok (.string P5) W := fun W => str_addS _ _ _ [32] (numL (x.2.c)) rfl hN5 hP5 (by have := num_len (x.2.c); simp only [List.length_cons, List.length_nil]; omega) W
      have HP5 := Lib.hid hP5
      clear hN5 hP5
      go_wp2_with (fail)
      refine (bld_writeL B B T5 ([32] ++ numL (x.2.c)) P5 wa5 HDa5.out HP5.out (by omega) (by have := num_len (x.2.c); rw [List.length_append]; simp only [List.length_cons, List.length_nil]; omega) (by omega)).mono ?_
      rintro e wb5 ⟨⟨z5, rfl⟩, h1, h2⟩
      obtain ⟨T6, hT⟩ : ∃ t, t = T5 ++ ([32] ++ numL (x.2.c)) := ⟨_, rfl⟩
      rw [← hT] at h1
      have hl6 : T6.length ≤ 100 := by have := num_len (x.2.c); rw [hT, List.length_append, List.length_append]; simp only [List.length_cons, List.length_nil]; omega
      have HT6 := Lib.hid hT
      have HDb5 := Lib.hid h1
      have HKb5 := Lib.hid (HKa5.out.trans h2)
      have HGb5 := Lib.hid (h2.at HGa5.out hgB (by decide))
      have HIb5 := Lib.hid (h2.at HIa5.out hgq (by decide))
      have hsb5 := h2.low.size
      clear h1 h2 hT hA8 HDa5 HKa5 HGa5 HIa5
      go_wp2_with (fail)
      obtain ⟨q0, q1, q2, q3, q4, q5, q6, q7, q8⟩ := no_blk HGb5.out
      rw [rounds_succ]
      go_wp2_with (fail)
      refine (quote_do wb5 (HT.out _ (HB2.out.trans (HKb5.out.low.mono hs1)))).mono ?_
      rintro e wc1 ⟨rfl, hba⟩
      have HDc := Lib.hid (HDb5.out.below hba)
      have HKc := Lib.hid (HKb5.out.below (by omega) hba)
      have hsc := hba.size
      clear hba q0 q1 q2 q3 q4 q5 q6 q7 q8 HDb5 HKb5 HGb5 HIb5
      have hA9 : ∀ W, (Op.stringOp .add ⟨#[32]⟩ ⟨#[34, 100, 111, 34]⟩).run Tryz.prog W = .ok (.string ⟨#[32, 34, 100, 111, 34]⟩) W := fun W => str_add [32] [34, 100, 111, 34] (by decide) W
      have hA10 : ∀ W, (Op.stringOp .add ⟨#[32, 34, 100, 111, 34]⟩ ⟨#[10]⟩).run Tryz.prog W = .ok (.string ⟨#[32, 34, 100, 111, 34, 10]⟩) W := fun W => str_add [32, 34, 100, 111, 34] [10] (by decide) W
      go_wp2_with (fail)
      refine (bld_writeL B B T6 [32, 34, 100, 111, 34, 10] ⟨#[32, 34, 100, 111, 34, 10]⟩ wc1 HDc.out rfl (by omega) (by decide) (by omega)).mono ?_
      rintro e wd ⟨⟨z9, rfl⟩, h1, h2⟩
      have HDd := Lib.hid (show Bld B B (txL (l.take (i + 1))) wd from by
        rw [HSN.out]
        rw [HT6.out, HT5.out, HT4.out, HT3.out, HT2.out, HT1.out, HT0.out] at h1
        simpa using h1)
      have HKd := Lib.hid (HKc.out.trans h2)
      clear h1 h2 hA9 hA10 HDc HKc
      go_wp2_with (fail)
      go_roundw
      case rel => exact ⟨i + 1, by omega, by simp, HDd, HKd⟩
      case measure => simp [intOf]; omega
    · have hltI : ¬ (i : Int) < n := by omega
      obtain rfl : i = n := by omega
      have hTn : txL (l.take i) = txL l := by rw [List.take_of_length_le (by rw [HN.out]; omega)]
      rw [hTn] at HD
      have h72 := tx_len l
      have hl72 : (txL l).length ≤ 72 := by rw [HN.out] at h72; omega
      clear h72 hTn
      generalize hTX : txL l = T at HD hl72
      have HTX := Lib.hid hTX
      clear hTX
      have hgt : ¬ (200000 : Int) < (T.length : Int) := by omega
      go_wp2_with (fail)
      refine (bld_len B B T wr HD.out).mono ?_
      rintro e w9 ⟨rfl, rfl⟩
      go_wp2_with (fail)
      refine (bld_string B B T w9 HD.out (by omega)).mono ?_
      rintro e w8 ⟨rfl, hb8⟩
      have HF := Lib.hid (show TxPost l w (.returned (.tuple #[.string ⟨T.toArray⟩, .int .i64 0])) w8 from ⟨by rw [HTX.out], HB.out.trans (hb8.mono hs1)⟩)
      clear hb8
      go_wp2_with (fail)
      refine bodyPost_ret (v := .tuple #[.string ⟨T.toArray⟩, .int .i64 0]) (by simp [results, Tryz.results9, go_sem]) rfl HF.out
end Go.Proofs.YtjjfhblaefbpgaaGreatDoor
