/- (*rule.track).put by its contract. Printed by gen_TkD.py. -/
import Derived.Test.YtlfphndnkgoinaaGreatDoorTkC
import Derived.Test.YtlfphndnkgoinaaGreatDoorQtk
namespace Go.Proofs.YtlfphndnkgoinaaGreatDoor
open Go.RowKit

theorem slice_to {P : Program} {T e : TypeId} (ht : P.underlying T = some (.slice e)) {i : TypeInfo} (g o n c k : Nat) (hk : k ≤ c) (Z : World) (hi : P.info? e = some i) :
    (Instr.slice T (.slice (some ⟨g, o, none⟩) n c) none (some (.int .i64 (k : Int))) none).run P Z = .ok (.slice (some ⟨g, o, none⟩) k c) Z := by
  have he : P.elem T = e := by simp [Program.elem, ht]
  rw [run_slice_h (P := P) (w := Z) T (some ⟨g, o, none⟩) n c (by rw [he]; exact ht) .i64 (k : Int) (by omega) (by omega), he]
  have h0 : ∀ z, (⟨g, o, none⟩ : Addr).add (0 * z) = ⟨g, o, none⟩ := fun z => by rw [Nat.zero_mul]; unfold Addr.add; split <;> simp_all
  have hs : ∀ z, sliced (some ⟨g, o, none⟩) 0 k c z = .slice (some ⟨g, o, none⟩) k c := fun z => by
    unfold sliced
    rw [Option.map_some, h0]
    simp
  have hk2 : ((k : Int)).toNat = k := by simp
  simp [sizeOf, typeInfo, hi, Result.andThen, hs]
theorem snoc_of {l : List (Int × Int)} (h : 0 < l.length) : ∃ l' z, l = l' ++ [z] := ⟨l.dropLast, l.getLast (List.length_pos_iff.1 h), (List.dropLast_concat_getLast _).symm⟩
theorem recs_takeS (l : List (Int × Int)) (z : Int × Int) : (recs sqC (l ++ [z])).take (l.length * 2) = recs sqC l := by
  rw [recs_append]
  exact List.take_left' (recs_length sqC_len l)
theorem cells_blkT {V : World} {b : Nat} {cs : Array Value} {t : TypeId} {f : Nat × Nat} {l : List Value} (h : V.heap[b]? = some (.cells cs t f)) (hl : cs.toList = l) : Cells V b 0 l := by
  intro j u hj
  rw [Nat.zero_add]
  exact cell_of_blk h (by rw [← hl] at hj; simpa using hj)
structure PutB (w1 : World) (sb : Nat) (s : Int × Int) (x : Nat) (v0 : Nat → Value) : Prop where
  blk : w1.heap[sb]? = some (.cells #[.int .i64 s.1, .int .i64 s.2] 142 (0, 0))
  out : ¬ tkF x v0 sb
theorem PutB.at {w1 W : World} {sb : Nat} {s : Int × Int} {x : Nat} {v0 v : Nat → Value} (h : PutB w1 sb s x v0) (hg : TkGo w1 W x v0 v) : W.heap[sb]? = some (.cells #[.int .i64 s.1, .int .i64 s.2] 142 (0, 0)) :=
  (hg.gr.block sb (Array.getElem?_eq_some_iff.1 h.blk).1 h.out).trans h.blk
set_option maxRecDepth 100000 in
set_option maxHeartbeats 4000000 in
theorem put_any {B x rb n : Nat} {a : Int} {t : Tk} {r : Ru} {fv : Value} {v : Nat → Value} {w : World} (s : Int × Int) (h : TkI B w x t (rpV rb) fv v) (hm : RuM w rb r) (hR : RuR r) (hk : TkOk t n a) (hn : n + 1 ≤ 5000) (ha : a < s.1) (hs0 : 0 ≤ s.1) (hs1 : s.1 ≤ tEnd) (hv : -1000000000 ≤ s.2 ∧ s.2 ≤ 1000000000) (hrb : rb < B) :
    Calls Tryz.prog 84 #[.pointer (some ⟨x, 0, none⟩), .agg #[.int .i64 s.1, .int .i64 s.2]] w fun e w' => e = .returned (.tuple #[]) ∧ ∃ v', TkI B w' x (tkPut r s t) (rpV rb) fv v' ∧ TkGo w w' x v v' := by
  obtain ⟨i0, hi0, hz0, hz1, hz2⟩ := info_parts Tryz.infoSq
  obtain ⟨D, eD⟩ : ∃ z, z = tkPut r s t := ⟨_, rfl⟩
  rw [← eD]
  have hrl := hm.lt
  have HI := Lib.hid h
  have HM := Lib.hid hm
  have HK := Lib.hid hk
  have HR := Lib.hid hR
  obtain ⟨td, etd⟩ : ∃ z, z = tkDrop r s.1 t := ⟨_, rfl⟩
  have HKD := Lib.hid (show TkOk td n a from by rw [etd]; exact hk.drop s.1)
  have HD := Lib.hid (show D = tkUpd r s.1 { td with win := td.win ++ [s], sum := td.sum + s.2, lea := popB (fun v => decide (s.2 ≤ v)) td.lea ++ [s], mos := popB (fun v => decide (v ≤ s.2)) td.mos ++ [s] } from by rw [eD, etd]; rfl)
  have HKP := Lib.hid (HKD.out.add s (fun v => decide (s.2 ≤ v)) (fun v => decide (v ≤ s.2)) hs0 ha hv)
  have HTD := Lib.hid etd
  clear eD h hm hk hR etd
  obtain ⟨sa, sv⟩ := s
  simp only at HD HKP hs0 hs1 hv ha HTD ⊢
  go_enter Tryz.func84, Tryz.ntmps84
  go_upto_region 1 with (fail)
  generalize hw1 : w.alloc (.cells #[.int .i64 sa, .int .i64 sv] 142) = w1
  obtain ⟨sb, esb⟩ : ∃ z, z = w.heap.size := ⟨_, rfl⟩
  have hb1 : Below w.heap.size w w1 := hw1 ▸ (Below.refl _ _).alloc (Nat.le_refl _) _
  have HI1 := Lib.hid (HI.out.below hb1)
  have HM1 := Lib.hid (HM.out.below hb1 hrl)
  have HP := Lib.hid (show PutB w1 sb (sa, sv) x v from ⟨by rw [← hw1, esb]; exact heap_new w _, fun hf => by have := (HI.out.foot_lt hf).2; omega⟩)
  have HBW := Lib.hid hb1
  have c0 := cell_of_blk (j := 0) HP.out.blk rfl
  have hsb1 : sb < w1.heap.size := (Array.getElem?_eq_some_iff.1 HP.out.blk).1
  have hrl1 := HM1.out.lt
  rw [← esb]
  clear hw1 hb1 esb
  have HDR := Lib.hid (drop_any sa HI1.out HM1.out HR.out HK.out (by omega) (by unfold tEnd at *; omega) hrb)
  rw [← HTD.out] at HDR
  go_wp2_with (fail)
  refine HDR.out.mono ?_
  rintro e w2 ⟨rfl, v2, hI2, hG2⟩
  have HI2 := Lib.hid hI2
  have HG2 := Lib.hid hG2
  clear hI2 hG2 HDR c0

  have HAP0 := Lib.hid (show td.win ++ [(sa, sv)] = tkRow td 0 ++ [(sa, sv)] from rfl)
  have HLN0 := Lib.hid (show (tkRow td 0).length ≤ 5000 from by have := HKD.out.le; show td.win.length ≤ 5000; omega)
  -- append to row 0
  obtain ⟨t3, et3⟩ : ∃ z, z = ({ td with win := td.win ++ [(sa, sv)] } : Tk) := ⟨_, rfl⟩
  have HEt3 := Lib.hid et3
  have HRW0 := Lib.hid (show TkRow td t3 0 from ⟨by rw [et3], by rw [et3], by rw [et3], by rw [et3], by rw [et3], fun k hk hne => by rw [et3]; match k, hk, hne with | 1, _, _ => rfl | 2, _, _ => rfl | 0, _, h => exact absurd rfl h | _ + 3, h, _ => exact absurd h (by omega)⟩)
  have HRN0 := Lib.hid (show tkRow t3 0 = tkRow td 0 ++ [(sa, sv)] from by rw [et3, HAP0.out]; rfl)
  obtain ⟨A0, c0, ev0, _⟩ := (HI2.out.row 0 (by omega)).form
  have HV0 := Lib.hid ev0
  have hln0 := HLN0.out
  have hltx := HI2.out.lt
  have HS0 := Lib.hid (HP.out.at HG2.out)
  have hsbl := (Array.getElem?_eq_some_iff.1 HS0.out).1
  have HN0 := Lib.hid (show ¬ tkF x v2 sb from fun hf => by
    rcases HG2.out.sub sb hf with h | h
    · exact HP.out.out h
    · omega)
  have HQ0 := Lib.hid (fun (V : World) (hV : Below w2.heap.size w2 V) => show V.cell? ⟨x, 1, none⟩ = some (.slice A0 (tkRow td 0).length c0) ∧ V.cell? ⟨sb, 0, none⟩ = some (.int .i64 sa) ∧ V.cell? ⟨sb, 1, none⟩ = some (.int .i64 sv) from
    ⟨HV0.out ▸ (HI2.out.below hV).cell 1 _ rfl, cell_of_blk (j := 0) ((hV.block sb hsbl).trans HS0.out) rfl, cell_of_blk (j := 1) ((hV.block sb hsbl).trans HS0.out) rfl⟩)
  clear et3 ev0
  go_upto_region 2 with (fail)
  go_cut [] (fun wx => ∃ u, TkI B wx x t3 (rpV rb) fv (updV v2 0 u) ∧ TkGo w2 wx x v2 (updV v2 0 u))
  case first =>
    refine qRegionSa (KTk B w2 x t3 (rpV rb) fv v2 0) 7 0 17 _
      [.pointer (some ⟨x, 0, none⟩), .pointer (some ⟨x, 0, none⟩), .pointer (some ⟨x, 0, none⟩), .pointer (some ⟨x, 1, none⟩), .slice A0 (tkRow td 0).length c0, .agg #[.int .i64 sa, .int .i64 sv], undef, undef, .pointer (some ⟨x, 0, none⟩), .pointer (some ⟨x, 1, none⟩), .tuple #[]]
      [none, none, none, none, none, none, some (.cells #[.int .i64 sa, .int .i64 sv] 142, fun b => .slice (some ⟨b, 0, none⟩) 1 1), none, none, none, none]
      [0, 0, 0, 0, 0, 0, 0, 1, 0, 0, 2]
      [2, 2, 2, 2, 0, 2, 2, 2, 2, 2, 2] 2 (by kernel_rfl) (by kernel_rfl) rfl rfl (by rfl) rfl rfl rfl rfl (show Below _ _ _ from ⟨rfl, rfl, rfl, Nat.le_refl _, fun _ _ => rfl⟩) (fun u s w o h => KTk.alloc h o) ?_ ?_ ?_
    · intro u; simp only [putL, Act.put, List.setIfInBounds_toArray, List.set_cons_zero, List.set_cons_succ]
      refine ⟨?_, ?_, ?_, ?_, ?_, ?_, ?_, ?_, ?_, ?_, ?_, trivial⟩
      · exact fun _ => OneSt.pure (fun G V => by simp only [putH, Act.put, List.setIfInBounds_toArray, List.set_cons_zero, List.set_cons_succ]; go_simp)
      · exact fun _ => OneSt.pure (fun G V => by simp only [putH, Act.put, List.setIfInBounds_toArray, List.set_cons_zero, List.set_cons_succ]; go_simp)
      · exact fun _ => OneSt.pure (fun G V => by simp only [putH, Act.put, List.setIfInBounds_toArray, List.set_cons_zero, List.set_cons_succ]; go_simp)
      · exact fun _ => OneSt.pure (fun G V => by simp only [putH, Act.put, List.setIfInBounds_toArray, List.set_cons_zero, List.set_cons_succ]; go_simp)
      · exact fun _ => OneSt.load (fun G s V hK hs => by obtain ⟨q0, q1, q2⟩ := HQ0.out V (KTk.low hK hs); simp only [putH, Act.put, List.setIfInBounds_toArray, List.set_cons_zero, List.set_cons_succ]; go_simp)
      · exact fun _ => OneSt.load (fun G s V hK hs => by have hsv := (KTk.old (by omega) hK hsbl HN0.out).trans HS0.out; have q1 := cell_of_blk (j := 0) hsv rfl; have q2 := cell_of_blk (j := 1) hsv rfl; simp only [putH, Act.put, List.setIfInBounds_toArray, List.set_cons_zero, List.set_cons_succ]; go_simp)
      · exact fun _ => OneSt.lay (fun G V => by simp only [putH, Act.put, List.setIfInBounds_toArray, List.set_cons_zero, List.set_cons_succ]; go_simp)
      · exact fun h => absurd rfl h
      · exact fun _ => OneSt.pure (fun G V => by simp only [putH, Act.put, List.setIfInBounds_toArray, List.set_cons_zero, List.set_cons_succ]; go_simp)
      · exact fun _ => OneSt.pure (fun G V => by simp only [putH, Act.put, List.setIfInBounds_toArray, List.set_cons_zero, List.set_cons_succ]; go_simp)
      · exact fun _ => OneSt.store (fun G V hK hL => by obtain ⟨UA, uc, hu, _⟩ := hK.choose_spec.2.2.2.form; subst hu; have hbx := KTk.blk HI2.out (by omega) hK; have c0 := cell_of_blk (j := 1) hbx rfl; have f0 : V.frozen? ⟨x, 1, none⟩ = false := by simp [World.frozen?, hbx]
                                                        have hs := KTk.store HI2.out (by omega) HRW0.out hK; refine ⟨_, ?_, rfl, hs.1, hs.2⟩; simp only [putH, Act.put, List.setIfInBounds_toArray, List.set_cons_zero, List.set_cons_succ]; go_simp)
    · intro u G V hK hL
      obtain ⟨hg1, hg2⟩ := hL 6 _ _ rfl (by kernel_rfl)
      refine app_stF (.tmp 14) (.tmp 16) 90 rfl B 142 i0 _ 2 16 Tryz.underlying90 hi0 hz0 hz1 hz2 rfl (by decide) (.slice A0 (tkRow td 0).length c0) (tkRow td 0).length (recs sqC (tkRow td 0)) ?_ (by have := (HI2.out.below hK).row 0 (by omega); rw [HV0.out] at this; exact this) ⟨G 6, 0, none⟩ 1 1 (sqC (sa, sv)) ?_ rfl (cells_add (cells_blkT hg2 rfl)) (sqC_one _) (by unfold maxLen; omega) (by omega) (by have := (HI2.out.below hK).lt; have := HI2.out.hx; omega) ?_
      · simp only [putL, putH, Act.put, List.setIfInBounds_toArray, List.set_cons_zero, List.set_cons_succ]; rfl
      · simp only [putL, putH, Act.put, List.setIfInBounds_toArray, List.set_cons_zero, List.set_cons_succ]; rfl
      · intro v' w2 ho hg hs
        rw [← recs_snoc, show (tkRow td 0).length + 1 = (tkRow td 0 ++ [(sa, sv)]).length by simp, ← HRN0.out] at ho
        exact KTk.app HI2.out (by omega) hK ho (by rw [HV0.out]; exact hg) (by rw [HV0.out]; exact hs)
    · intro u G W7 hK hsz hG
      clear hG
      have HK7 := Lib.hid hK
      clear hK
      simp only [putL, putH, Act.put, List.setIfInBounds_toArray, List.set_cons_zero, List.set_cons_succ]
      go_wp2_with (fail)
      go_meet
      exact ⟨u, HK7.out⟩
  case rest =>
  obtain ⟨u0, hI, hG⟩ := hcut
  obtain ⟨v3, ev3⟩ : ∃ z, z = updV v2 0 u0 := ⟨_, rfl⟩
  obtain ⟨w3, ew3⟩ : ∃ z, z = wc := ⟨_, rfl⟩
  rw [← ew3] at hI hG ⊢
  rw [← ev3] at hI hG
  have HI3 := Lib.hid hI
  have HG3 := Lib.hid (HG2.out.trans hG)
  clear ew3 hI hG ev3 hltx hsbl hln0
  obtain ⟨sm, esm⟩ : ∃ z, z = td.sum := ⟨_, rfl⟩
  have hsm3 : t3.sum = sm := by rw [HEt3.out, esm]
  have hsmb := HKD.out.sum
  rw [← esm] at hsmb
  have hwsm : IntKind.i64.wrap (sm + sv) = sm + sv := by rw [IntKind.wrap_i64]; omega
  have hlt3 := HI3.out.lt
  have HS3 := Lib.hid (HP.out.at HG3.out)
  have hsbl := (Array.getElem?_eq_some_iff.1 HS3.out).1
  have HQ3 := Lib.hid (fun (V : World) (hV : Below w3.heap.size w3 V) => show V.cell? ⟨x, 4, none⟩ = some (.int .i64 sm) ∧ V.cell? ⟨sb, 1, none⟩ = some (.int .i64 sv) from
    ⟨by rw [← hsm3]; exact (HI3.out.below hV).cell 4 _ rfl, cell_of_blk (j := 1) ((hV.block sb hsbl).trans HS3.out) rfl⟩)
  have HZ3 := Lib.hid (fun (V : World) (hV : Below w3.heap.size w3 V) => show V.frozen? ⟨x, 4, none⟩ = false from by simp [World.frozen?, (HI3.out.below hV).blk])
  have HSM := Lib.hid (And.intro esm hsm3)
  clear esm hsm3 hsmb
  go_upto_region 3 with (fail)
  go_cut [] (fun wx => Below w3.heap.size (w3.setCell ⟨x, 4, none⟩ (.int .i64 (sm + sv))) wx)
  case first =>
    refine qRegionSt (KS1 w3 ⟨x, 4, none⟩ (.int .i64 (sm + sv)))
      [.pointer (some ⟨x, 0, none⟩), .pointer (some ⟨x, 0, none⟩), .pointer (some ⟨x, 4, none⟩), .int .i64 sm, .pointer (some ⟨sb, 1, none⟩), .int .i64 sv, .int .i64 (sm + sv), .pointer (some ⟨x, 0, none⟩), .pointer (some ⟨x, 4, none⟩), .tuple #[]]
      [none, none, none, none, none, none, none, none, none, none]
      [0, 0, 0, 0, 0, 0, 0, 0, 0, 1]
      [1, 1, 1, 0, 1, 0, 1, 1, 1, 1] 1 (by kernel_rfl) (by kernel_rfl) rfl rfl (by rfl) (KS1.zero _ _ _) (fun s w o h => KS1.alloc h o) ?_ ?_
    · simp only [putL, Act.put, List.setIfInBounds_toArray, List.set_cons_zero, List.set_cons_succ]
      refine ⟨?_, ?_, ?_, ?_, ?_, ?_, ?_, ?_, ?_, ?_, trivial⟩
      · exact OneSt.pure (fun G V => by simp only [putH]; go_simp)
      · exact OneSt.pure (fun G V => by simp only [putH]; go_simp)
      · exact OneSt.pure (fun G V => by simp only [putH]; go_simp)
      · exact OneSt.load (fun G s V hK hs => by obtain ⟨c0, c1⟩ := HQ3.out V (KS1.low hK hs); simp only [putH]; go_simp)
      · exact OneSt.pure (fun G V => by simp only [putH]; go_simp)
      · exact OneSt.load (fun G s V hK hs => by obtain ⟨c0, c1⟩ := HQ3.out V (KS1.low hK hs); simp only [putH]; go_simp)
      · exact OneSt.pure (fun G V => by simp only [putH]; go_simp)
      · exact OneSt.pure (fun G V => by simp only [putH]; go_simp)
      · exact OneSt.pure (fun G V => by simp only [putH]; go_simp)
      · exact OneSt.store (fun G V hK hL => by have hs := KS1.store hK hlt3; obtain ⟨c0, c1⟩ := HQ3.out V (KS1.low hK (Nat.le_refl _)); have z4 := HZ3.out V (KS1.low hK (Nat.le_refl _)); refine ⟨_, ?_, rfl, hs.1, hs.2⟩; simp only [putH]; go_simp)
    · intro G W7 hK hsz hG
      have HK7 := Lib.hid hK
      clear hK hG
      simp only [putL, putH, Act.put, List.setIfInBounds_toArray, List.set_cons_zero, List.set_cons_succ]
      go_wp2_with (fail)
      go_meet
      exact HK7.out
  case rest =>
  obtain ⟨w4, ew4⟩ : ∃ z, z = wc := ⟨_, rfl⟩
  rw [← ew4] at hcut ⊢
  clear ew4
  obtain ⟨t4, et4⟩ : ∃ z, z = ({ t3 with sum := sm + sv } : Tk) := ⟨_, rfl⟩
  have hnum := HI3.out.num (j := 4) (u := .int .i64 (sm + sv)) (t' := t4) (by rw [et4]; rfl) (fun k _ => by rw [et4]; match k with | 0 => rfl | 1 => rfl | _ + 2 => rfl)
  have hsz4 : (w3.setCell ⟨x, 4, none⟩ (.int .i64 (sm + sv))).heap.size = w3.heap.size := by simp [World.setCell]
  have hcut' : Below (w3.setCell ⟨x, 4, none⟩ (.int .i64 (sm + sv))).heap.size (w3.setCell ⟨x, 4, none⟩ (.int .i64 (sm + sv))) w4 := by rw [hsz4]; exact hcut
  have HI4 := Lib.hid (hnum.1.below hcut')
  have HG4 := Lib.hid (HG3.out.trans (hnum.2.below hcut'))
  have HT4 := Lib.hid (show t4 = { td with win := td.win ++ [(sa, sv)], sum := td.sum + sv } from by rw [et4, HEt3.out, HSM.out.1])
  clear hcut hcut' hnum et4 hsz4 HQ3 HZ3 hwsm HSM hlt3 hsbl
  have HB1 := Lib.hid (show (tkRow t4 1).length ≤ 5000 from by
    have h1 : tkRow t4 1 = td.lea := by rw [HT4.out]; rfl
    have := HKD.out.w3.ls.length_le
    have := HKD.out.le
    rw [h1]; omega)
  -- what does not count is taken from row 1
  obtain ⟨AL1, cL1, evL1, _⟩ := (HI4.out.row 1 (by omega)).form
  have p1 : w4.cell? ⟨x, 2, none⟩ = some (.slice AL1 (tkRow t4 1).length cL1) := evL1 ▸ HI4.out.cell 2 _ rfl
  have hltx := HI4.out.lt
  have HLL1 := Lib.hid (show (tkRow t4 1).length ≤ 5000 from HB1.out)
  clear evL1
  go_upto_region 4 with (fail)
  go_wp2_with (fail)
  clear p1 hltx
  go_loopw [4] (fun s wr => ∃ (l : List (Int × Int)) (vk : Nat → Value), s = .int .i64 (l.length : Int) ∧ Hid (TkI B wr x { t4 with lea := l } (rpV rb) fv vk) ∧ Hid (TkGo w1 wr x v vk) ∧ Hid (popB (fun v => decide (sv ≤ v)) l = popB (fun v => decide (sv ≤ v)) t4.lea ∧ l.length ≤ 5000)) (fun s _ => (intOf s).toNat)
  case atStart => exact ⟨t4.lea, v3, rfl, HI4, HG4, Lib.hid ⟨rfl, HLL1.out⟩⟩
  obtain ⟨l, vk, rfl, HIk, HGk, HPk⟩ := hrel
  have hltk := HIk.out.lt
  have HSk := Lib.hid (HP.out.at HGk.out)
  have hsbk := (Array.getElem?_eq_some_iff.1 HSk.out).1
  go_upto_region 5 with (fail)
  go_cut [49] (fun s wx => ∃ bb : Bool, s = .bool bb ∧ Below wr.heap.size wr wx ∧ Hid ((bb = true → ∃ l' z, l = l' ++ [z] ∧ sv ≤ z.2) ∧ (bb = false → l = popB (fun v => decide (sv ≤ v)) t4.lea)))
  case first =>
    rcases Nat.eq_zero_or_pos l.length with hz | hz
    · have hl : l = [] := List.length_eq_zero_iff.1 hz
      subst hl
      refine qRegion (by kernel_rfl) (by kernel_rfl) ?_
      repeat (first
        | (go_big_quiet_want; refine qVal (fun V hV => (by (go_simp; try rfl))) ?_; simp only [Act.put, List.setIfInBounds_toArray, List.set_cons_zero, List.set_cons_succ]; go_big_quiet_on)
        | go_big_quiet_skip)
      refine wpQuiet_nil ?_
      intro V hV
      have HF := Lib.hid hV
      clear hV
      go_wp2_with (fail)
      go_meet
      exact ⟨false, rfl, HF.out, Lib.hid ⟨fun h => absurd h (by decide), fun _ => HPk.out.1⟩⟩
    · obtain ⟨l', z, hl⟩ := snoc_of hz
      obtain ⟨gk, ok, ck, evk, _, hgk, hCk⟩ := HIk.out.rowPos (m := 1) (by omega) hz
      replace evk : vk 1 = .slice (some ⟨gk, ok, none⟩) l.length ck := evk
      have HVk := Lib.hid evk
      obtain ⟨m, em⟩ : ∃ m, m = l'.length := ⟨_, rfl⟩
      have hlm : l.length = m + 1 := by rw [hl]; simp [em]
      have hm5 : m + 1 ≤ 5000 := by have := HPk.out.2; omega
      have hzm : l[m]? = some z := by rw [hl, em]; simp
      have HQk := Lib.hid (fun (V : World) (hV : Below wr.heap.size wr V) => show V.cell? ⟨x, 2, none⟩ = some (.slice (some ⟨gk, ok, none⟩) l.length ck) ∧ V.cell? ⟨gk, ok + m * 2 + 1, none⟩ = some (.int .i64 z.2) ∧ V.cell? ⟨sb, 1, none⟩ = some (.int .i64 sv) from
        ⟨by have h1 := (HIk.out.below hV).cell 2 (vk 1) rfl; rw [HVk.out] at h1; exact h1, (sq_at hCk hV hgk m z hzm).2, cell_of_blk (j := 1) ((hV.block sb hsbk).trans HSk.out) rfl⟩)
      have hi1 : IntKind.i64.wrap ((l.length : Int) - 1) = (m : Int) := by rw [hlm, show (((m + 1 : Nat) : Int) - 1) = (m : Int) by omega, IntKind.wrap_i64]; omega
      have hi2 : (m : Int) < (l.length : Int) := by omega
      have hi3 : m < l.length := by omega
      have hi4 : decide ((0 : Int) < (l.length : Int)) = true := decide_eq_true (by omega)
      have HL := Lib.hid hl
      clear hCk evk hzm hl em hlm
      by_cases hc : sv ≤ z.2
      · have hc2 : decide (sv ≤ z.2) = true := decide_eq_true hc
        have HC := Lib.hid hc
        refine qRegion (by kernel_rfl) (by kernel_rfl) ?_
        repeat (first
          | (go_big_quiet_want; refine qVal (fun V hV => (by (obtain ⟨q0, q1, q2⟩ := HQk.out V hV; go_simp; try rfl))) ?_; simp only [Act.put, List.setIfInBounds_toArray, List.set_cons_zero, List.set_cons_succ]; go_big_quiet_on)
          | go_big_quiet_skip)
        refine wpQuiet_nil ?_
        intro V hV
        have HF := Lib.hid hV
        clear hV
        go_wp2_with (fail)
        go_meet
        exact ⟨true, rfl, HF.out, Lib.hid ⟨fun _ => ⟨l', z, HL.out, HC.out⟩, fun h => absurd h (by decide)⟩⟩
      · have hc2 : decide (sv ≤ z.2) = false := decide_eq_false hc
        have HPN := Lib.hid (show l = popB (fun v => decide (sv ≤ v)) t4.lea from by
          rw [← HPk.out.1, HL.out, popB_snoc]
          rw [if_neg (by rw [hc2]; decide)])
        refine qRegion (by kernel_rfl) (by kernel_rfl) ?_
        repeat (first
          | (go_big_quiet_want; refine qVal (fun V hV => (by (obtain ⟨q0, q1, q2⟩ := HQk.out V hV; go_simp; try rfl))) ?_; simp only [Act.put, List.setIfInBounds_toArray, List.set_cons_zero, List.set_cons_succ]; go_big_quiet_on)
          | go_big_quiet_skip)
        refine wpQuiet_nil ?_
        intro V hV
        have HF := Lib.hid hV
        clear hV
        go_wp2_with (fail)
        go_meet
        exact ⟨false, rfl, HF.out, Lib.hid ⟨fun h => absurd h (by decide), fun _ => HPN.out⟩⟩
  case rest =>
  obtain ⟨bb, rfl, hb, HBB⟩ := hcut
  obtain ⟨wV, ewV⟩ : ∃ z, z = wc := ⟨_, rfl⟩
  rw [← ewV] at hb ⊢
  clear ewV
  have HIV := Lib.hid (HIk.out.below hb)
  have HGV := Lib.hid (HGk.out.below hb)
  clear hb hltk hsbk HSk
  cases bb
  case true =>
    obtain ⟨l', z, hl, hc⟩ := HBB.out.1 rfl
    subst hl
    obtain ⟨gk, ok, ck, evk, hck, hgk, hCk⟩ := HIV.out.rowPos (m := 1) (by omega) (by simp [tkRow])
    replace evk : vk 1 = .slice (some ⟨gk, ok, none⟩) (l' ++ [z]).length ck := evk
    replace hck : (l' ++ [z]).length ≤ ck := hck
    have HVk := Lib.hid evk
    obtain ⟨m, em⟩ : ∃ m, m = l'.length := ⟨_, rfl⟩
    have hlm : (l' ++ [z]).length = m + 1 := by simp [em]
    have hm5 : m + 1 ≤ 5000 := by have := HPk.out.2; omega
    have p1 : wV.cell? ⟨x, 2, none⟩ = some (.slice (some ⟨gk, ok, none⟩) (m + 1) ck) := by have h1 := HIV.out.cell 2 (vk 1) rfl; rw [HVk.out, hlm] at h1; exact h1
    have hi1 : IntKind.i64.wrap (((m + 1 : Nat) : Int) - 1) = (m : Int) := by rw [show (((m + 1 : Nat) : Int) - 1) = (m : Int) by omega, IntKind.wrap_i64]; omega
    have hi1' : IntKind.i64.wrap ((m : Int) + 1 - 1) = (m : Int) := by rw [show ((m : Int) + 1 - 1) = (m : Int) by omega, IntKind.wrap_i64]; omega
    have hi6 : IntKind.i64.wrap (m : Int) = (m : Int) := by rw [IntKind.wrap_i64]; omega
    have hmc : m + 1 ≤ ck := by omega
    have HPN := Lib.hid (show popB (fun v => decide (sv ≤ v)) l' = popB (fun v => decide (sv ≤ v)) t4.lea from by
      rw [← HPk.out.1, popB_snoc]
      rw [if_pos (decide_eq_true hc)])
    have HEM := Lib.hid (And.intro em hlm)
    have hcast : ((l' ++ [z]).length : Int) = ((m + 1 : Nat) : Int) := by omega
    rw [hcast]
    clear hCk evk hlm em hcast hck hc hgk
    have zV : wV.frozen? ⟨x, 2, none⟩ = false := by simp [World.frozen?, HIV.out.blk]
    have hltV := HIV.out.lt
    have hrun : ∀ Z : World, (Instr.slice 90 (.slice (some ⟨gk, ok, none⟩) (m + 1) ck) none (some (.int .i64 (m : Int))) none).run Tryz.prog Z = .ok (.slice (some ⟨gk, ok, none⟩) m ck) Z := fun Z => slice_to Tryz.underlying90 _ _ _ _ _ (by omega) Z hi0
    have hfi := OwF.first (show OwF wV B 142 2 (.slice (some ⟨gk, ok, none⟩) (m + 1) ck) (m + 1) (recs sqC (l' ++ [z])) from by have := HIV.out.row 1 (by omega); rw [HVk.out] at this; rw [← HEM.out.2]; exact this) (k := m) (by omega)
    have HAk := HIV.out.app (w1 := wV) (t' := { t4 with lea := l' }) (m := 1) (u := .slice (some ⟨gk, ok, none⟩) m ck) (by omega) ⟨rfl, rfl, rfl, rfl, rfl, fun k hk hne => by match k, hk, hne with | 0, _, _ => rfl | 2, _, _ => rfl | 1, _, h => exact absurd rfl h | _ + 3, h, _ => exact absurd h (by omega)⟩ (grown_refl _ _) (fun b hb => .inl (by rw [HVk.out]; exact hb)) (by
      rw [HEM.out.1, recs_takeS] at hfi
      rw [HEM.out.1]
      exact hfi)
    have HA3 := Lib.hid (show TkI B (wV.setCell ⟨x, 2, none⟩ (.slice (some ⟨gk, ok, none⟩) m ck)) x { t4 with lea := l' } (rpV rb) fv (updV vk 1 (.slice (some ⟨gk, ok, none⟩) m ck)) ∧ TkGo wV (wV.setCell ⟨x, 2, none⟩ (.slice (some ⟨gk, ok, none⟩) m ck)) x vk (updV vk 1 (.slice (some ⟨gk, ok, none⟩) m ck)) from HAk)
    clear HAk hfi hmc
    go_wp2_with (fail)
    go_roundw
    case rel => exact ⟨l', _, by rw [HEM.out.1], Lib.hid HA3.out.1, Lib.hid (HGV.out.trans HA3.out.2), Lib.hid ⟨HPN.out, by have := HEM.out.1; omega⟩⟩
    case measure =>
      have := HEM.out.1
      simp [intOf]
      try omega
  have HLP1 := Lib.hid (HBB.out.2 rfl)
  obtain ⟨t5, et5⟩ : ∃ z, z = ({ t4 with lea := l } : Tk) := ⟨_, rfl⟩
  obtain ⟨w5, ew5⟩ : ∃ z, z = wV := ⟨_, rfl⟩
  obtain ⟨v5, ev5⟩ : ∃ z, z = vk := ⟨_, rfl⟩
  rw [← ew5, ← et5, ← ev5] at HIV
  rw [← ew5, ← ev5] at HGV
  rw [← ew5]
  have HI5 := Lib.hid HIV.out
  have HG5 := Lib.hid HGV.out
  have HTt5 := Lib.hid (show t5 = { t4 with lea := popB (fun v => decide (sv ≤ v)) t4.lea } from by rw [et5, HLP1.out])
  clear HIV HGV ew5 et5 ev5 HIk HGk HPk HBB HLP1
  clear wV vk

  have HAP1 := Lib.hid (show t5.lea ++ [(sa, sv)] = tkRow t5 1 ++ [(sa, sv)] from rfl)
  have HLN1 := Lib.hid (show (tkRow t5 1).length ≤ 5000 from by
    have h1 : tkRow t5 1 = popB (fun v => decide (sv ≤ v)) td.lea := by rw [HTt5.out, HT4.out]; rfl
    have := (popB_sub (fun v => decide (sv ≤ v)) td.lea).length_le
    have := HKD.out.w3.ls.length_le
    have := HKD.out.le
    rw [h1]; omega)
  -- append to row 1
  obtain ⟨t6, et6⟩ : ∃ z, z = ({ t5 with lea := t5.lea ++ [(sa, sv)] } : Tk) := ⟨_, rfl⟩
  have HEt6 := Lib.hid et6
  have HRW1 := Lib.hid (show TkRow t5 t6 1 from ⟨by rw [et6], by rw [et6], by rw [et6], by rw [et6], by rw [et6], fun k hk hne => by rw [et6]; match k, hk, hne with | 0, _, _ => rfl | 2, _, _ => rfl | 1, _, h => exact absurd rfl h | _ + 3, h, _ => exact absurd h (by omega)⟩)
  have HRN1 := Lib.hid (show tkRow t6 1 = tkRow t5 1 ++ [(sa, sv)] from by rw [et6, HAP1.out]; rfl)
  obtain ⟨A1, c1, ev1, _⟩ := (HI5.out.row 1 (by omega)).form
  have HV1 := Lib.hid ev1
  have hln1 := HLN1.out
  have hltx := HI5.out.lt
  have HS1 := Lib.hid (HP.out.at HG5.out)
  have hsbl := (Array.getElem?_eq_some_iff.1 HS1.out).1
  have HN1 := Lib.hid (show ¬ tkF x v5 sb from fun hf => by
    rcases HG5.out.sub sb hf with h | h
    · exact HP.out.out h
    · omega)
  have HQ1 := Lib.hid (fun (V : World) (hV : Below w5.heap.size w5 V) => show V.cell? ⟨x, 2, none⟩ = some (.slice A1 (tkRow t5 1).length c1) ∧ V.cell? ⟨sb, 0, none⟩ = some (.int .i64 sa) ∧ V.cell? ⟨sb, 1, none⟩ = some (.int .i64 sv) from
    ⟨HV1.out ▸ (HI5.out.below hV).cell 2 _ rfl, cell_of_blk (j := 0) ((hV.block sb hsbl).trans HS1.out) rfl, cell_of_blk (j := 1) ((hV.block sb hsbl).trans HS1.out) rfl⟩)
  clear et6 ev1
  go_upto_region 8 with (fail)
  go_cut [] (fun wx => ∃ u, TkI B wx x t6 (rpV rb) fv (updV v5 1 u) ∧ TkGo w5 wx x v5 (updV v5 1 u))
  case first =>
    refine qRegionSa (KTk B w5 x t6 (rpV rb) fv v5 1) 7 0 69 _
      [.pointer (some ⟨x, 0, none⟩), .pointer (some ⟨x, 0, none⟩), .pointer (some ⟨x, 0, none⟩), .pointer (some ⟨x, 2, none⟩), .slice A1 (tkRow t5 1).length c1, .agg #[.int .i64 sa, .int .i64 sv], undef, undef, .pointer (some ⟨x, 0, none⟩), .pointer (some ⟨x, 2, none⟩), .tuple #[]]
      [none, none, none, none, none, none, some (.cells #[.int .i64 sa, .int .i64 sv] 142, fun b => .slice (some ⟨b, 0, none⟩) 1 1), none, none, none, none]
      [0, 0, 0, 0, 0, 0, 0, 1, 0, 0, 2]
      [2, 2, 2, 2, 0, 2, 2, 2, 2, 2, 2] 2 (by kernel_rfl) (by kernel_rfl) rfl rfl (by rfl) rfl rfl rfl rfl (show Below _ _ _ from ⟨rfl, rfl, rfl, Nat.le_refl _, fun _ _ => rfl⟩) (fun u s w o h => KTk.alloc h o) ?_ ?_ ?_
    · intro u; simp only [putL, Act.put, List.setIfInBounds_toArray, List.set_cons_zero, List.set_cons_succ]
      refine ⟨?_, ?_, ?_, ?_, ?_, ?_, ?_, ?_, ?_, ?_, ?_, trivial⟩
      · exact fun _ => OneSt.pure (fun G V => by simp only [putH, Act.put, List.setIfInBounds_toArray, List.set_cons_zero, List.set_cons_succ]; go_simp)
      · exact fun _ => OneSt.pure (fun G V => by simp only [putH, Act.put, List.setIfInBounds_toArray, List.set_cons_zero, List.set_cons_succ]; go_simp)
      · exact fun _ => OneSt.pure (fun G V => by simp only [putH, Act.put, List.setIfInBounds_toArray, List.set_cons_zero, List.set_cons_succ]; go_simp)
      · exact fun _ => OneSt.pure (fun G V => by simp only [putH, Act.put, List.setIfInBounds_toArray, List.set_cons_zero, List.set_cons_succ]; go_simp)
      · exact fun _ => OneSt.load (fun G s V hK hs => by obtain ⟨q0, q1, q2⟩ := HQ1.out V (KTk.low hK hs); simp only [putH, Act.put, List.setIfInBounds_toArray, List.set_cons_zero, List.set_cons_succ]; go_simp)
      · exact fun _ => OneSt.load (fun G s V hK hs => by have hsv := (KTk.old (by omega) hK hsbl HN1.out).trans HS1.out; have q1 := cell_of_blk (j := 0) hsv rfl; have q2 := cell_of_blk (j := 1) hsv rfl; simp only [putH, Act.put, List.setIfInBounds_toArray, List.set_cons_zero, List.set_cons_succ]; go_simp)
      · exact fun _ => OneSt.lay (fun G V => by simp only [putH, Act.put, List.setIfInBounds_toArray, List.set_cons_zero, List.set_cons_succ]; go_simp)
      · exact fun h => absurd rfl h
      · exact fun _ => OneSt.pure (fun G V => by simp only [putH, Act.put, List.setIfInBounds_toArray, List.set_cons_zero, List.set_cons_succ]; go_simp)
      · exact fun _ => OneSt.pure (fun G V => by simp only [putH, Act.put, List.setIfInBounds_toArray, List.set_cons_zero, List.set_cons_succ]; go_simp)
      · exact fun _ => OneSt.store (fun G V hK hL => by obtain ⟨UA, uc, hu, _⟩ := hK.choose_spec.2.2.2.form; subst hu; have hbx := KTk.blk HI5.out (by omega) hK; have c0 := cell_of_blk (j := 2) hbx rfl; have f0 : V.frozen? ⟨x, 2, none⟩ = false := by simp [World.frozen?, hbx]
                                                        have hs := KTk.store HI5.out (by omega) HRW1.out hK; refine ⟨_, ?_, rfl, hs.1, hs.2⟩; simp only [putH, Act.put, List.setIfInBounds_toArray, List.set_cons_zero, List.set_cons_succ]; go_simp)
    · intro u G V hK hL
      obtain ⟨hg1, hg2⟩ := hL 6 _ _ rfl (by kernel_rfl)
      refine app_stF (.tmp 66) (.tmp 68) 90 rfl B 142 i0 _ 2 16 Tryz.underlying90 hi0 hz0 hz1 hz2 rfl (by decide) (.slice A1 (tkRow t5 1).length c1) (tkRow t5 1).length (recs sqC (tkRow t5 1)) ?_ (by have := (HI5.out.below hK).row 1 (by omega); rw [HV1.out] at this; exact this) ⟨G 6, 0, none⟩ 1 1 (sqC (sa, sv)) ?_ rfl (cells_add (cells_blkT hg2 rfl)) (sqC_one _) (by unfold maxLen; omega) (by omega) (by have := (HI5.out.below hK).lt; have := HI5.out.hx; omega) ?_
      · simp only [putL, putH, Act.put, List.setIfInBounds_toArray, List.set_cons_zero, List.set_cons_succ]; rfl
      · simp only [putL, putH, Act.put, List.setIfInBounds_toArray, List.set_cons_zero, List.set_cons_succ]; rfl
      · intro v' w2 ho hg hs
        rw [← recs_snoc, show (tkRow t5 1).length + 1 = (tkRow t5 1 ++ [(sa, sv)]).length by simp, ← HRN1.out] at ho
        exact KTk.app HI5.out (by omega) hK ho (by rw [HV1.out]; exact hg) (by rw [HV1.out]; exact hs)
    · intro u G W7 hK hsz hG
      clear hG
      have HK7 := Lib.hid hK
      clear hK
      simp only [putL, putH, Act.put, List.setIfInBounds_toArray, List.set_cons_zero, List.set_cons_succ]
      go_wp2_with (fail)
      go_meet
      exact ⟨u, HK7.out⟩
  case rest =>
  obtain ⟨u1, hI, hG⟩ := hcut
  obtain ⟨v6, ev6⟩ : ∃ z, z = updV v5 1 u1 := ⟨_, rfl⟩
  obtain ⟨w6, ew6⟩ : ∃ z, z = wc := ⟨_, rfl⟩
  rw [← ew6] at hI hG ⊢
  rw [← ev6] at hI hG
  have HI6 := Lib.hid hI
  have HG6 := Lib.hid (HG5.out.trans hG)
  clear ew6 hI hG ev6 hltx hsbl hln1
  have HB2 := Lib.hid (show (tkRow t6 2).length ≤ 5000 from by
    have h1 : tkRow t6 2 = td.mos := by rw [HEt6.out, HTt5.out, HT4.out]; rfl
    have := HKD.out.w3.ms.length_le
    have := HKD.out.le
    rw [h1]; omega)
  -- what does not count is taken from row 2
  obtain ⟨AL2, cL2, evL2, _⟩ := (HI6.out.row 2 (by omega)).form
  have p2 : w6.cell? ⟨x, 3, none⟩ = some (.slice AL2 (tkRow t6 2).length cL2) := evL2 ▸ HI6.out.cell 3 _ rfl
  have hltx := HI6.out.lt
  have HLL2 := Lib.hid (show (tkRow t6 2).length ≤ 5000 from HB2.out)
  clear evL2
  go_upto_region 9 with (fail)
  go_wp2_with (fail)
  clear p2 hltx
  go_loopw [5] (fun s wr => ∃ (l : List (Int × Int)) (vk : Nat → Value), s = .int .i64 (l.length : Int) ∧ Hid (TkI B wr x { t6 with mos := l } (rpV rb) fv vk) ∧ Hid (TkGo w1 wr x v vk) ∧ Hid (popB (fun v => decide (v ≤ sv)) l = popB (fun v => decide (v ≤ sv)) t6.mos ∧ l.length ≤ 5000)) (fun s _ => (intOf s).toNat)
  case atStart => exact ⟨t6.mos, v6, rfl, HI6, HG6, Lib.hid ⟨rfl, HLL2.out⟩⟩
  obtain ⟨l, vk, rfl, HIk, HGk, HPk⟩ := hrel
  have hltk := HIk.out.lt
  have HSk := Lib.hid (HP.out.at HGk.out)
  have hsbk := (Array.getElem?_eq_some_iff.1 HSk.out).1
  go_upto_region 10 with (fail)
  go_cut [92] (fun s wx => ∃ bb : Bool, s = .bool bb ∧ Below wr.heap.size wr wx ∧ Hid ((bb = true → ∃ l' z, l = l' ++ [z] ∧ z.2 ≤ sv) ∧ (bb = false → l = popB (fun v => decide (v ≤ sv)) t6.mos)))
  case first =>
    rcases Nat.eq_zero_or_pos l.length with hz | hz
    · have hl : l = [] := List.length_eq_zero_iff.1 hz
      subst hl
      refine qRegion (by kernel_rfl) (by kernel_rfl) ?_
      repeat (first
        | (go_big_quiet_want; refine qVal (fun V hV => (by (go_simp; try rfl))) ?_; simp only [Act.put, List.setIfInBounds_toArray, List.set_cons_zero, List.set_cons_succ]; go_big_quiet_on)
        | go_big_quiet_skip)
      refine wpQuiet_nil ?_
      intro V hV
      have HF := Lib.hid hV
      clear hV
      go_wp2_with (fail)
      go_meet
      exact ⟨false, rfl, HF.out, Lib.hid ⟨fun h => absurd h (by decide), fun _ => HPk.out.1⟩⟩
    · obtain ⟨l', z, hl⟩ := snoc_of hz
      obtain ⟨gk, ok, ck, evk, _, hgk, hCk⟩ := HIk.out.rowPos (m := 2) (by omega) hz
      replace evk : vk 2 = .slice (some ⟨gk, ok, none⟩) l.length ck := evk
      have HVk := Lib.hid evk
      obtain ⟨m, em⟩ : ∃ m, m = l'.length := ⟨_, rfl⟩
      have hlm : l.length = m + 1 := by rw [hl]; simp [em]
      have hm5 : m + 1 ≤ 5000 := by have := HPk.out.2; omega
      have hzm : l[m]? = some z := by rw [hl, em]; simp
      have HQk := Lib.hid (fun (V : World) (hV : Below wr.heap.size wr V) => show V.cell? ⟨x, 3, none⟩ = some (.slice (some ⟨gk, ok, none⟩) l.length ck) ∧ V.cell? ⟨gk, ok + m * 2 + 1, none⟩ = some (.int .i64 z.2) ∧ V.cell? ⟨sb, 1, none⟩ = some (.int .i64 sv) from
        ⟨by have h1 := (HIk.out.below hV).cell 3 (vk 2) rfl; rw [HVk.out] at h1; exact h1, (sq_at hCk hV hgk m z hzm).2, cell_of_blk (j := 1) ((hV.block sb hsbk).trans HSk.out) rfl⟩)
      have hi1 : IntKind.i64.wrap ((l.length : Int) - 1) = (m : Int) := by rw [hlm, show (((m + 1 : Nat) : Int) - 1) = (m : Int) by omega, IntKind.wrap_i64]; omega
      have hi2 : (m : Int) < (l.length : Int) := by omega
      have hi3 : m < l.length := by omega
      have hi4 : decide ((0 : Int) < (l.length : Int)) = true := decide_eq_true (by omega)
      have HL := Lib.hid hl
      clear hCk evk hzm hl em hlm
      by_cases hc : z.2 ≤ sv
      · have hc2 : decide (z.2 ≤ sv) = true := decide_eq_true hc
        have HC := Lib.hid hc
        refine qRegion (by kernel_rfl) (by kernel_rfl) ?_
        repeat (first
          | (go_big_quiet_want; refine qVal (fun V hV => (by (obtain ⟨q0, q1, q2⟩ := HQk.out V hV; go_simp; try rfl))) ?_; simp only [Act.put, List.setIfInBounds_toArray, List.set_cons_zero, List.set_cons_succ]; go_big_quiet_on)
          | go_big_quiet_skip)
        refine wpQuiet_nil ?_
        intro V hV
        have HF := Lib.hid hV
        clear hV
        go_wp2_with (fail)
        go_meet
        exact ⟨true, rfl, HF.out, Lib.hid ⟨fun _ => ⟨l', z, HL.out, HC.out⟩, fun h => absurd h (by decide)⟩⟩
      · have hc2 : decide (z.2 ≤ sv) = false := decide_eq_false hc
        have HPN := Lib.hid (show l = popB (fun v => decide (v ≤ sv)) t6.mos from by
          rw [← HPk.out.1, HL.out, popB_snoc]
          rw [if_neg (by rw [hc2]; decide)])
        refine qRegion (by kernel_rfl) (by kernel_rfl) ?_
        repeat (first
          | (go_big_quiet_want; refine qVal (fun V hV => (by (obtain ⟨q0, q1, q2⟩ := HQk.out V hV; go_simp; try rfl))) ?_; simp only [Act.put, List.setIfInBounds_toArray, List.set_cons_zero, List.set_cons_succ]; go_big_quiet_on)
          | go_big_quiet_skip)
        refine wpQuiet_nil ?_
        intro V hV
        have HF := Lib.hid hV
        clear hV
        go_wp2_with (fail)
        go_meet
        exact ⟨false, rfl, HF.out, Lib.hid ⟨fun h => absurd h (by decide), fun _ => HPN.out⟩⟩
  case rest =>
  obtain ⟨bb, rfl, hb, HBB⟩ := hcut
  obtain ⟨wV, ewV⟩ : ∃ z, z = wc := ⟨_, rfl⟩
  rw [← ewV] at hb ⊢
  clear ewV
  have HIV := Lib.hid (HIk.out.below hb)
  have HGV := Lib.hid (HGk.out.below hb)
  clear hb hltk hsbk HSk
  cases bb
  case true =>
    obtain ⟨l', z, hl, hc⟩ := HBB.out.1 rfl
    subst hl
    obtain ⟨gk, ok, ck, evk, hck, hgk, hCk⟩ := HIV.out.rowPos (m := 2) (by omega) (by simp [tkRow])
    replace evk : vk 2 = .slice (some ⟨gk, ok, none⟩) (l' ++ [z]).length ck := evk
    replace hck : (l' ++ [z]).length ≤ ck := hck
    have HVk := Lib.hid evk
    obtain ⟨m, em⟩ : ∃ m, m = l'.length := ⟨_, rfl⟩
    have hlm : (l' ++ [z]).length = m + 1 := by simp [em]
    have hm5 : m + 1 ≤ 5000 := by have := HPk.out.2; omega
    have p1 : wV.cell? ⟨x, 3, none⟩ = some (.slice (some ⟨gk, ok, none⟩) (m + 1) ck) := by have h1 := HIV.out.cell 3 (vk 2) rfl; rw [HVk.out, hlm] at h1; exact h1
    have hi1 : IntKind.i64.wrap (((m + 1 : Nat) : Int) - 1) = (m : Int) := by rw [show (((m + 1 : Nat) : Int) - 1) = (m : Int) by omega, IntKind.wrap_i64]; omega
    have hi1' : IntKind.i64.wrap ((m : Int) + 1 - 1) = (m : Int) := by rw [show ((m : Int) + 1 - 1) = (m : Int) by omega, IntKind.wrap_i64]; omega
    have hi6 : IntKind.i64.wrap (m : Int) = (m : Int) := by rw [IntKind.wrap_i64]; omega
    have hmc : m + 1 ≤ ck := by omega
    have HPN := Lib.hid (show popB (fun v => decide (v ≤ sv)) l' = popB (fun v => decide (v ≤ sv)) t6.mos from by
      rw [← HPk.out.1, popB_snoc]
      rw [if_pos (decide_eq_true hc)])
    have HEM := Lib.hid (And.intro em hlm)
    have hcast : ((l' ++ [z]).length : Int) = ((m + 1 : Nat) : Int) := by omega
    rw [hcast]
    clear hCk evk hlm em hcast hck hc hgk
    have zV : wV.frozen? ⟨x, 3, none⟩ = false := by simp [World.frozen?, HIV.out.blk]
    have hltV := HIV.out.lt
    have hrun : ∀ Z : World, (Instr.slice 90 (.slice (some ⟨gk, ok, none⟩) (m + 1) ck) none (some (.int .i64 (m : Int))) none).run Tryz.prog Z = .ok (.slice (some ⟨gk, ok, none⟩) m ck) Z := fun Z => slice_to Tryz.underlying90 _ _ _ _ _ (by omega) Z hi0
    have hfi := OwF.first (show OwF wV B 142 2 (.slice (some ⟨gk, ok, none⟩) (m + 1) ck) (m + 1) (recs sqC (l' ++ [z])) from by have := HIV.out.row 2 (by omega); rw [HVk.out] at this; rw [← HEM.out.2]; exact this) (k := m) (by omega)
    have HAk := HIV.out.app (w1 := wV) (t' := { t6 with mos := l' }) (m := 2) (u := .slice (some ⟨gk, ok, none⟩) m ck) (by omega) ⟨rfl, rfl, rfl, rfl, rfl, fun k hk hne => by match k, hk, hne with | 0, _, _ => rfl | 1, _, _ => rfl | 2, _, h => exact absurd rfl h | _ + 3, h, _ => exact absurd h (by omega)⟩ (grown_refl _ _) (fun b hb => .inl (by rw [HVk.out]; exact hb)) (by
      rw [HEM.out.1, recs_takeS] at hfi
      rw [HEM.out.1]
      exact hfi)
    have HA3 := Lib.hid (show TkI B (wV.setCell ⟨x, 3, none⟩ (.slice (some ⟨gk, ok, none⟩) m ck)) x { t6 with mos := l' } (rpV rb) fv (updV vk 2 (.slice (some ⟨gk, ok, none⟩) m ck)) ∧ TkGo wV (wV.setCell ⟨x, 3, none⟩ (.slice (some ⟨gk, ok, none⟩) m ck)) x vk (updV vk 2 (.slice (some ⟨gk, ok, none⟩) m ck)) from HAk)
    clear HAk hfi hmc
    go_wp2_with (fail)
    go_roundw
    case rel => exact ⟨l', _, by rw [HEM.out.1], Lib.hid HA3.out.1, Lib.hid (HGV.out.trans HA3.out.2), Lib.hid ⟨HPN.out, by have := HEM.out.1; omega⟩⟩
    case measure =>
      have := HEM.out.1
      simp [intOf]
      try omega
  have HLP2 := Lib.hid (HBB.out.2 rfl)
  obtain ⟨t7, et7⟩ : ∃ z, z = ({ t6 with mos := l } : Tk) := ⟨_, rfl⟩
  obtain ⟨w7, ew7⟩ : ∃ z, z = wV := ⟨_, rfl⟩
  obtain ⟨v7, ev7⟩ : ∃ z, z = vk := ⟨_, rfl⟩
  rw [← ew7, ← et7, ← ev7] at HIV
  rw [← ew7, ← ev7] at HGV
  rw [← ew7]
  have HI7 := Lib.hid HIV.out
  have HG7 := Lib.hid HGV.out
  have HTt7 := Lib.hid (show t7 = { t6 with mos := popB (fun v => decide (v ≤ sv)) t6.mos } from by rw [et7, HLP2.out])
  clear HIV HGV ew7 et7 ev7 HIk HGk HPk HBB HLP2
  clear wV vk

  have HAP2 := Lib.hid (show t7.mos ++ [(sa, sv)] = tkRow t7 2 ++ [(sa, sv)] from rfl)
  have HLN2 := Lib.hid (show (tkRow t7 2).length ≤ 5000 from by
    have h1 : tkRow t7 2 = popB (fun v => decide (v ≤ sv)) td.mos := by rw [HTt7.out, HEt6.out, HTt5.out, HT4.out]; rfl
    have := (popB_sub (fun v => decide (v ≤ sv)) td.mos).length_le
    have := HKD.out.w3.ms.length_le
    have := HKD.out.le
    rw [h1]; omega)
  -- append to row 2
  obtain ⟨t8, et8⟩ : ∃ z, z = ({ t7 with mos := t7.mos ++ [(sa, sv)] } : Tk) := ⟨_, rfl⟩
  have HEt8 := Lib.hid et8
  have HRW2 := Lib.hid (show TkRow t7 t8 2 from ⟨by rw [et8], by rw [et8], by rw [et8], by rw [et8], by rw [et8], fun k hk hne => by rw [et8]; match k, hk, hne with | 0, _, _ => rfl | 1, _, _ => rfl | 2, _, h => exact absurd rfl h | _ + 3, h, _ => exact absurd h (by omega)⟩)
  have HRN2 := Lib.hid (show tkRow t8 2 = tkRow t7 2 ++ [(sa, sv)] from by rw [et8, HAP2.out]; rfl)
  obtain ⟨A2, c2, ev2, _⟩ := (HI7.out.row 2 (by omega)).form
  have HV2 := Lib.hid ev2
  have hln2 := HLN2.out
  have hltx := HI7.out.lt
  have HS2 := Lib.hid (HP.out.at HG7.out)
  have hsbl := (Array.getElem?_eq_some_iff.1 HS2.out).1
  have HN2 := Lib.hid (show ¬ tkF x v7 sb from fun hf => by
    rcases HG7.out.sub sb hf with h | h
    · exact HP.out.out h
    · omega)
  have HQ2 := Lib.hid (fun (V : World) (hV : Below w7.heap.size w7 V) => show V.cell? ⟨x, 3, none⟩ = some (.slice A2 (tkRow t7 2).length c2) ∧ V.cell? ⟨sb, 0, none⟩ = some (.int .i64 sa) ∧ V.cell? ⟨sb, 1, none⟩ = some (.int .i64 sv) from
    ⟨HV2.out ▸ (HI7.out.below hV).cell 3 _ rfl, cell_of_blk (j := 0) ((hV.block sb hsbl).trans HS2.out) rfl, cell_of_blk (j := 1) ((hV.block sb hsbl).trans HS2.out) rfl⟩)
  clear et8 ev2
  go_upto_region 13 with (fail)
  go_cut [] (fun wx => ∃ u, TkI B wx x t8 (rpV rb) fv (updV v7 2 u) ∧ TkGo w7 wx x v7 (updV v7 2 u))
  case first =>
    refine qRegionSa (KTk B w7 x t8 (rpV rb) fv v7 2) 7 0 112 _
      [.pointer (some ⟨x, 0, none⟩), .pointer (some ⟨x, 0, none⟩), .pointer (some ⟨x, 0, none⟩), .pointer (some ⟨x, 3, none⟩), .slice A2 (tkRow t7 2).length c2, .agg #[.int .i64 sa, .int .i64 sv], undef, undef, .pointer (some ⟨x, 0, none⟩), .pointer (some ⟨x, 3, none⟩), .tuple #[]]
      [none, none, none, none, none, none, some (.cells #[.int .i64 sa, .int .i64 sv] 142, fun b => .slice (some ⟨b, 0, none⟩) 1 1), none, none, none, none]
      [0, 0, 0, 0, 0, 0, 0, 1, 0, 0, 2]
      [2, 2, 2, 2, 0, 2, 2, 2, 2, 2, 2] 2 (by kernel_rfl) (by kernel_rfl) rfl rfl (by rfl) rfl rfl rfl rfl (show Below _ _ _ from ⟨rfl, rfl, rfl, Nat.le_refl _, fun _ _ => rfl⟩) (fun u s w o h => KTk.alloc h o) ?_ ?_ ?_
    · intro u; simp only [putL, Act.put, List.setIfInBounds_toArray, List.set_cons_zero, List.set_cons_succ]
      refine ⟨?_, ?_, ?_, ?_, ?_, ?_, ?_, ?_, ?_, ?_, ?_, trivial⟩
      · exact fun _ => OneSt.pure (fun G V => by simp only [putH, Act.put, List.setIfInBounds_toArray, List.set_cons_zero, List.set_cons_succ]; go_simp)
      · exact fun _ => OneSt.pure (fun G V => by simp only [putH, Act.put, List.setIfInBounds_toArray, List.set_cons_zero, List.set_cons_succ]; go_simp)
      · exact fun _ => OneSt.pure (fun G V => by simp only [putH, Act.put, List.setIfInBounds_toArray, List.set_cons_zero, List.set_cons_succ]; go_simp)
      · exact fun _ => OneSt.pure (fun G V => by simp only [putH, Act.put, List.setIfInBounds_toArray, List.set_cons_zero, List.set_cons_succ]; go_simp)
      · exact fun _ => OneSt.load (fun G s V hK hs => by obtain ⟨q0, q1, q2⟩ := HQ2.out V (KTk.low hK hs); simp only [putH, Act.put, List.setIfInBounds_toArray, List.set_cons_zero, List.set_cons_succ]; go_simp)
      · exact fun _ => OneSt.load (fun G s V hK hs => by have hsv := (KTk.old (by omega) hK hsbl HN2.out).trans HS2.out; have q1 := cell_of_blk (j := 0) hsv rfl; have q2 := cell_of_blk (j := 1) hsv rfl; simp only [putH, Act.put, List.setIfInBounds_toArray, List.set_cons_zero, List.set_cons_succ]; go_simp)
      · exact fun _ => OneSt.lay (fun G V => by simp only [putH, Act.put, List.setIfInBounds_toArray, List.set_cons_zero, List.set_cons_succ]; go_simp)
      · exact fun h => absurd rfl h
      · exact fun _ => OneSt.pure (fun G V => by simp only [putH, Act.put, List.setIfInBounds_toArray, List.set_cons_zero, List.set_cons_succ]; go_simp)
      · exact fun _ => OneSt.pure (fun G V => by simp only [putH, Act.put, List.setIfInBounds_toArray, List.set_cons_zero, List.set_cons_succ]; go_simp)
      · exact fun _ => OneSt.store (fun G V hK hL => by obtain ⟨UA, uc, hu, _⟩ := hK.choose_spec.2.2.2.form; subst hu; have hbx := KTk.blk HI7.out (by omega) hK; have c0 := cell_of_blk (j := 3) hbx rfl; have f0 : V.frozen? ⟨x, 3, none⟩ = false := by simp [World.frozen?, hbx]
                                                        have hs := KTk.store HI7.out (by omega) HRW2.out hK; refine ⟨_, ?_, rfl, hs.1, hs.2⟩; simp only [putH, Act.put, List.setIfInBounds_toArray, List.set_cons_zero, List.set_cons_succ]; go_simp)
    · intro u G V hK hL
      obtain ⟨hg1, hg2⟩ := hL 6 _ _ rfl (by kernel_rfl)
      refine app_stF (.tmp 109) (.tmp 111) 90 rfl B 142 i0 _ 2 16 Tryz.underlying90 hi0 hz0 hz1 hz2 rfl (by decide) (.slice A2 (tkRow t7 2).length c2) (tkRow t7 2).length (recs sqC (tkRow t7 2)) ?_ (by have := (HI7.out.below hK).row 2 (by omega); rw [HV2.out] at this; exact this) ⟨G 6, 0, none⟩ 1 1 (sqC (sa, sv)) ?_ rfl (cells_add (cells_blkT hg2 rfl)) (sqC_one _) (by unfold maxLen; omega) (by omega) (by have := (HI7.out.below hK).lt; have := HI7.out.hx; omega) ?_
      · simp only [putL, putH, Act.put, List.setIfInBounds_toArray, List.set_cons_zero, List.set_cons_succ]; rfl
      · simp only [putL, putH, Act.put, List.setIfInBounds_toArray, List.set_cons_zero, List.set_cons_succ]; rfl
      · intro v' w2 ho hg hs
        rw [← recs_snoc, show (tkRow t7 2).length + 1 = (tkRow t7 2 ++ [(sa, sv)]).length by simp, ← HRN2.out] at ho
        exact KTk.app HI7.out (by omega) hK ho (by rw [HV2.out]; exact hg) (by rw [HV2.out]; exact hs)
    · intro u G W7 hK hsz hG
      clear hG
      have HK7 := Lib.hid hK
      clear hK
      simp only [putL, putH, Act.put, List.setIfInBounds_toArray, List.set_cons_zero, List.set_cons_succ]
      go_wp2_with (fail)
      go_meet
      exact ⟨u, HK7.out⟩
  case rest =>
  obtain ⟨u2, hI, hG⟩ := hcut
  obtain ⟨v8, ev8⟩ : ∃ z, z = updV v7 2 u2 := ⟨_, rfl⟩
  obtain ⟨w8, ew8⟩ : ∃ z, z = wc := ⟨_, rfl⟩
  rw [← ew8] at hI hG ⊢
  rw [← ev8] at hI hG
  have HI8 := Lib.hid hI
  have HG8 := Lib.hid (HG7.out.trans hG)
  clear ew8 hI hG ev8 hltx hsbl hln2
  have HT8 := Lib.hid (show t8 = { td with win := td.win ++ [(sa, sv)], sum := td.sum + sv, lea := popB (fun v => decide (sv ≤ v)) td.lea ++ [(sa, sv)], mos := popB (fun v => decide (v ≤ sv)) td.mos ++ [(sa, sv)] } from by rw [HEt8.out, HTt7.out, HEt6.out, HTt5.out, HT4.out])
  have HM8 := Lib.hid (show RuM w8 rb r from fun j u hu => by
    have e : w8.cell? ⟨rb, 0 + j, none⟩ = w1.cell? ⟨rb, 0 + j, none⟩ := by
      simp only [World.cell?]
      rw [HG8.out.gr.block rb hrl1 (fun hf => by have := (HI1.out.foot_lt hf).1; omega)]
    rw [e]; exact HM1.out j u hu)
  have HUP := Lib.hid (update_any sa HI8.out HM8.out HR.out (by rw [HT8.out]; exact HKP.out) (by omega))
  have HS8 := Lib.hid (HP.out.at HG8.out)
  have c0 := cell_of_blk (j := 0) HS8.out rfl
  have hsb8 := (Array.getElem?_eq_some_iff.1 HS8.out).1
  go_wp2_with (fail)
  refine HUP.out.mono ?_
  rintro e w9 ⟨rfl, hI9, hG9⟩
  have HI9 := Lib.hid hI9
  have HG9 := Lib.hid hG9
  clear hI9 hG9 HUP
  go_wp2_with (fail)
  go_end0
  exact ⟨rfl, v8, by rw [HD.out, ← HT8.out]; exact HI9.out, TkGo.of_below HBW.out (HG8.out.trans HG9.out)⟩
end Go.Proofs.YtlfphndnkgoinaaGreatDoor
