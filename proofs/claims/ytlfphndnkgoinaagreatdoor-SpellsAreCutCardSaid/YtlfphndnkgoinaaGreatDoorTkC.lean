/- (*rule.track).drop by its contract. -/
import Derived.Test.YtlfphndnkgoinaaGreatDoorTkB
import Derived.Test.YtlfphndnkgoinaaGreatDoorQs1
import Derived.Laws.StructEq
namespace Go.Proofs.YtlfphndnkgoinaaGreatDoor
open Go.RowKit

theorem Tryz.infoSq : (Tryz.prog.info? 142).map (fun i => (i.zero, i.size, i.bytes)) = some (some (.agg #[.int .i64 0, .int .i64 0]), 2, 16) := by kernel_rfl
def tkLen (w : World) (x : Nat) : Nat := match w.cell? ⟨x, 1, none⟩ with | some (.slice _ n _) => n | _ => 0
theorem tkLen_eq {B : Nat} {w : World} {x : Nat} {t : Tk} {rp fv : Value} {v : Nat → Value} (h : TkI B w x t rp fv v) : tkLen w x = t.win.length := by
  obtain ⟨A, c, hv, _⟩ := tkWin_head h
  have : w.cell? ⟨x, 1, none⟩ = some (.slice A t.win.length c) := hv ▸ h.cell 1 _ rfl
  unfold tkLen
  rw [this]
theorem drop_go {r : Ru} {at_ : Int} {t : Tk} {s : Int × Int} {W : List (Int × Int)} (h : t.win = s :: W) (hl : s.1 + r.long ≤ at_) : tkDrop r at_ t = tkDrop r at_ { t with win := W, sum := t.sum - s.2, lea := tkPop s t.lea, mos := tkPop s t.mos } := by
  unfold tkDrop
  dsimp only
  rw [h, dropL, if_pos hl]
theorem drop_stop {r : Ru} {at_ : Int} {t : Tk} (h : ∀ s W, t.win = s :: W → at_ < s.1 + r.long) : tkDrop r at_ t = t := by
  unfold tkDrop
  rw [dropL_none _ _ _ _ _ _ h]
theorem eqFields_2 {P : Program} {d : Nat} {xs ys : Array Value} {F1 F2 : Field} {a b a' b' : Value} {x y : Bool} (w : World) (n1 : (F1.name == "_") = false) (n2 : (F2.name == "_") = false)
    (p1 : (part F1.type xs F1.offset).run P w = .ok a w) (p2 : (part F2.type xs F2.offset).run P w = .ok b w) (q1 : (part F1.type ys F1.offset).run P w = .ok a' w) (q2 : (part F2.type ys F2.offset).run P w = .ok b' w)
    (e1 : (Op.equalIn d F1.type a a').run P w = .ok x w) (e2 : (Op.equalIn d F2.type b b').run P w = .ok y w) : (Op.eqFields d xs ys [F1, F2]).run P w = .ok (x && y) w := by
  have m1 : F1.name ≠ "_" := by simpa using n1
  have m2 : F2.name ≠ "_" := by simpa using n2
  simp only [Op.eqFields, m1, m2, ne_eq, not_false_eq_true, if_true, Sem.run_bind, p1, q1, e1, Result.andThen_ok]
  cases x with
  | false => simp
  | true =>
    simp only [Bool.not_true, Bool.false_eq_true, if_false, Sem.run_bind, p2, q2, e2, Result.andThen_ok]
    cases y <;> simp
/-- Two samples in a track: are they equal? -/
theorem sq_eql (a b c d : Int) (w : World) : (binOp .eql 142 (.agg #[.int .i64 a, .int .i64 b]) (.agg #[.int .i64 c, .int .i64 d])).run Tryz.prog w = .ok (.bool (a == c && b == d)) w := by
  have h := run_equalIn_agg (P := Tryz.prog) (w := w) 9999 142 #[.int .i64 a, .int .i64 b] #[.int .i64 c, .int .i64 d] (by kernel_rfl) (by kernel_rfl)
  rw [run_eql_struct]
  have e : (Op.equalIn 10000 142 (.agg #[.int .i64 a, .int .i64 b]) (.agg #[.int .i64 c, .int .i64 d])).run Tryz.prog w = (Op.equalIn (9999 + 1) 142 (.agg #[.int .i64 a, .int .i64 b]) (.agg #[.int .i64 c, .int .i64 d])).run Tryz.prog w := rfl
  rw [e, h]
  have h1 := run_equalIn_int (P := Tryz.prog) (w := w) 9998 3 .i64 .i64 a c Tryz.underlying3
  have h2 := run_equalIn_int (P := Tryz.prog) (w := w) 9998 3 .i64 .i64 b d Tryz.underlying3
  have f : (Tryz.prog.fieldsOf 142).toList = [(Tryz.prog.fieldsOf 142)[0]!, (Tryz.prog.fieldsOf 142)[1]!] := by kernel_rfl
  have t1 : ((Tryz.prog.fieldsOf 142)[0]!).type = 3 := by kernel_rfl
  have t2 : ((Tryz.prog.fieldsOf 142)[1]!).type = 3 := by kernel_rfl
  rw [f, eqFields_2 w (by kernel_rfl) (by kernel_rfl) (a := .int .i64 a) (b := .int .i64 b) (a' := .int .i64 c) (b' := .int .i64 d) (by kernel_rfl) (by kernel_rfl) (by kernel_rfl) (by kernel_rfl) (by rw [t1]; exact h1) (by rw [t2]; exact h2)]
  rfl
theorem pop_yes {l : List (Int × Int)} {a b c d : Int} (hl : 0 < l.length) (hh : (a, b) = l.headD (0, 0)) (he : (a == c && b == d) = true) : tkPop (c, d) l = l.tail := by
  cases l with
  | nil => simp at hl
  | cons y l =>
    simp only [Bool.and_eq_true, beq_iff_eq] at he
    obtain ⟨rfl, rfl⟩ := he
    unfold tkPop
    rw [if_pos (by rw [hh]; rfl)]
theorem pop_no {l : List (Int × Int)} {a b c d : Int} (hl : 0 < l.length) (hh : (a, b) = l.headD (0, 0)) (he : (a == c && b == d) = false) : tkPop (c, d) l = l := by
  cases l with
  | nil => simp at hl
  | cons y l =>
    unfold tkPop
    rw [if_neg]
    intro e
    have e2 : y = (c, d) := by simpa using e
    rw [e2] at hh
    have e3 : (a, b) = (c, d) := hh
    injection e3 with e4 e5
    rw [e4, e5] at he
    simp at he
theorem recs_tail (l : List (Int × Int)) : (recs sqC l).drop 2 = recs sqC l.tail := by
  cases l with
  | nil => rfl
  | cons y l => rfl
theorem slice_one {P : Program} {T e : TypeId} (ht : P.underlying T = some (.slice e)) {i : TypeInfo} (A : Option Addr) (n c : Nat) (hn : 0 < n) (Z : World) (hi : P.info? e = some i) (hsz : i.size = 2) :
    (Instr.slice T (.slice A n c) (some (.int .i64 1)) none none).run P Z = .ok (sliced A 1 n c 2) Z := by
  have he : P.elem T = e := by simp [Program.elem, ht]
  rw [run_slice_l (P := P) (w := Z) T A n c (by rw [he]; exact ht) .i64 1 (by omega) (by omega), he]
  simp [sizeOf, typeInfo, hi, hsz, Result.andThen]
theorem len_cons {s : Int × Int} {W l : List (Int × Int)} (h : l = s :: W) : 0 < l.length := by rw [h]; simp
theorem TkOk.popped {t : Tk} {n : Nat} {a : Int} (h : TkOk t n a) {s : Int × Int} {W : List (Int × Int)} (hw : t.win = s :: W) : TkOk { t with win := W, sum := t.sum - s.2, lea := tkPop s t.lea, mos := tkPop s t.mos } n a := by
  have h3 := h.w3
  rw [hw] at h3
  have hl := h.le
  rw [hw] at hl
  simp only [List.length_cons] at hl
  exact ⟨h3.pop, by show W.length ≤ n; omega, fun x hx => h.ti x (by rw [hw]; exact List.mem_cons_of_mem _ hx), fun x hx => h.va x (by rw [hw]; exact List.mem_cons_of_mem _ hx), h.si0, h.si1⟩
set_option maxRecDepth 100000 in
set_option maxHeartbeats 4000000 in
theorem drop_any {B x rb n : Nat} {a : Int} {t : Tk} {r : Ru} {fv : Value} {v : Nat → Value} {w : World} (at_ : Int) (h : TkI B w x t (rpV rb) fv v) (hm : RuM w rb r) (hR : RuR r) (hk : TkOk t n a) (hn : n ≤ 5000) (ha : a ≤ tEnd) (hrb : rb < B) :
    Calls Tryz.prog 86 #[.pointer (some ⟨x, 0, none⟩), .int .i64 at_] w fun e w' => e = .returned (.tuple #[]) ∧ ∃ v', TkI B w' x (tkDrop r at_ t) (rpV rb) fv v' ∧ TkGo w w' x v v' := by
  obtain ⟨i0, hi0, hz0, hz1, hz2⟩ := info_parts Tryz.infoSq
  have hrl := hm.lt
  have hBw : rb < w.heap.size := hrl
  have HM := Lib.hid hm
  have b1 := hR.long
  have HI := Lib.hid h
  have HK := Lib.hid hk
  obtain ⟨D, eD⟩ : ∃ z, z = tkDrop r at_ t := ⟨_, rfl⟩
  rw [← eD]
  have HD := Lib.hid eD
  clear eD h hm hR hk
  go_enter Tryz.func86, Tryz.ntmps86
  go_wp2_with (fail)
  go_loopw [] (fun wr => ∃ (t' : Tk) (v' : Nat → Value), Hid (TkI B wr x t' (rpV rb) fv v') ∧ Hid (TkGo w wr x v v') ∧ Hid (TkOk t' n a) ∧ Hid (D = tkDrop r at_ t')) (fun wr => tkLen wr x)
  case atStart => exact ⟨t, v, HI, Lib.hid (.refl _ _ _), HK, HD⟩
  case round =>
    obtain ⟨t', v', HI', HG', HK', HD'⟩ := hrel
    have HM' := Lib.hid (show RuM wr rb r from fun j u hu => by
      have e : wr.cell? ⟨rb, 0 + j, none⟩ = w.cell? ⟨rb, 0 + j, none⟩ := by
        simp only [World.cell?]
        rw [HG'.out.gr.block rb hrl (fun hf => by have := (HI.out.foot_lt hf).1; omega)]
      rw [e]; exact HM.out j u hu)
    have hlt := HI'.out.lt
    have hrl' : rb < wr.heap.size := Nat.lt_of_lt_of_le hrl HG'.out.gr.size
    have HLN := Lib.hid (tkLen_eq HI'.out)
    obtain ⟨A, c, hv, hc, hA⟩ := tkWin_head HI'.out
    have HV := Lib.hid hv
    have HA := Lib.hid hA
    have HQ := Lib.hid (fun (V : World) (hV : Below wr.heap.size wr V) => show V.cell? ⟨x, 0, none⟩ = some (.pointer (some ⟨rb, 0, none⟩)) ∧ V.cell? ⟨x, 1, none⟩ = some (.slice A t'.win.length c) ∧ V.cell? ⟨rb, 3, none⟩ = some (.int .i64 r.long) from
      ⟨(HI'.out.below hV).cell 0 _ rfl, HV.out ▸ (HI'.out.below hV).cell 1 _ rfl, (HM'.out.below hV hrl').cell 3 _ rfl⟩)
    clear hv hA
    by_cases hgo : ∃ s W, t'.win = s :: W ∧ s.1 + r.long ≤ at_
    · obtain ⟨s, W, hw, hle⟩ := hgo
      have HW := Lib.hid hw
      have hti := HK'.out.ti s (by rw [hw]; simp)
      have hva := HK'.out.va s (by rw [hw]; simp)
      have hsm := HK'.out.sum
      obtain ⟨g, o, eA, hg, hC⟩ := HA.out s W hw
      subst eA
      have HC := Lib.hid (fun (V : World) (hV : Below wr.heap.size wr V) => sq_at hC hV hg 0 s (by rw [hw]; rfl))
      simp only [Nat.zero_mul, Nat.add_zero] at HC
      have hlen := len_cons hw
      have hpos : (0 : Int) < (t'.win.length : Int) := by omega
      have hpos2 : decide ((0 : Int) < (t'.win.length : Int)) = true := decide_eq_true hpos
      have hw1 : IntKind.i64.wrap (s.1 + r.long) = s.1 + r.long := by unfold tEnd at ha; rw [IntKind.wrap_i64]; omega
      have hle2 : decide (s.1 + r.long ≤ at_) = true := decide_eq_true hle
      have HQ2 := Lib.hid (fun (V : World) (hV : Below wr.heap.size wr V) => show V.cell? ⟨x, 0, none⟩ = some (.pointer (some ⟨rb, 0, none⟩)) ∧ V.cell? ⟨x, 1, none⟩ = some (.slice (some ⟨g, o, none⟩) t'.win.length c) ∧ V.cell? ⟨rb, 3, none⟩ = some (.int .i64 r.long) ∧ V.cell? ⟨g, o, none⟩ = some (.int .i64 s.1) ∧ V.cell? ⟨g, o + 1, none⟩ = some (.int .i64 s.2) from
        ⟨(HQ.out V hV).1, (HQ.out V hV).2.1, (HQ.out V hV).2.2, (HC.out V hV).1, (HC.out V hV).2⟩)
      have HDN := Lib.hid (show D = tkDrop r at_ { t' with win := W, sum := t'.sum - s.2, lea := tkPop s t'.lea, mos := tkPop s t'.mos } from by rw [HD'.out]; exact drop_go hw hle)
      have HKN := Lib.hid (HK'.out.popped hw)
      have HNE := Lib.hid (HK'.out.w3.ne hlen)
      have HLW := Lib.hid (show W.length < t'.win.length from by rw [hw]; simp)
      clear hw hC hle HQ HC HA
      obtain ⟨sa, sv⟩ := s
      simp only at HQ2 hle2 hw1 hti hva HDN HKN HW
      have HLE := Lib.hid hle2
      generalize r.long = long at HQ2 hle2 hw1
      go_upto_region 0 with (fail)
      refine qRegion (by kernel_rfl) (by kernel_rfl) ?_
      repeat (first
        | (go_big_quiet_want; refine qVal (fun V hV => (by (obtain ⟨q0, q1, q2, q3, q4⟩ := HQ2.out V hV; go_simp; try rfl))) ?_; simp only [Act.put, List.setIfInBounds_toArray, List.set_cons_zero, List.set_cons_succ]; go_big_quiet_on)
        | go_big_quiet_skip)
      refine wpQuiet_nil ?_
      intro V hV
      obtain ⟨w1, ew1⟩ : ∃ z, z = V := ⟨_, rfl⟩
      rw [← ew1] at hV ⊢
      clear ew1
      have HI1 := Lib.hid (HI'.out.below hV)
      have HG1 := Lib.hid (HG'.out.below hV)
      have hs1 := hV.size
      obtain ⟨q0, q1, q2, q3, q4⟩ := HQ2.out w1 hV
      have hlt1 : x < w1.heap.size := by omega
      have hg1 : g < w1.heap.size := by omega
      clear hV HQ2 HI' HG'
      go_upto_region 1 with (fail)
      go_cut [4] (fun p wx => ∃ ob, p = .pointer (some ⟨ob, 0, none⟩) ∧ wx.heap[ob]? = some (.cells #[.int .i64 sa, .int .i64 sv] 142 (0, 0)) ∧ w1.heap.size ≤ ob ∧ Below w1.heap.size w1 wx)
      case first =>
        clear HLN HLE hpos2 hw1 hle2
        go_wp2_with (fail)
        go_meet
        exact ⟨_, rfl, heap_new w1 _, Nat.le_refl _, (Below.refl _ _).alloc (Nat.le_refl _) _⟩
      case rest =>
      obtain ⟨ob, rfl, hob, hobl, hb2⟩ := hcut
      obtain ⟨w2, ew2⟩ : ∃ z, z = wc := ⟨_, rfl⟩
      rw [← ew2] at hob hb2 ⊢
      clear ew2
      have HI2 := Lib.hid (HI1.out.below hb2)
      have HG2 := Lib.hid (HG1.out.below hb2)
      have HO2 := Lib.hid hob
      have hobx : ob ≠ x := by omega
      have HOT := Lib.hid (fun b (hf : tkF x v' b) => show b ≠ ob from by have := (HI1.out.foot_lt hf).2; omega)
      have hs2 := hb2.size
      have p0 : w2.cell? ⟨x, 0, none⟩ = some (.pointer (some ⟨rb, 0, none⟩)) := HI2.out.cell 0 _ rfl
      have p1 : w2.cell? ⟨x, 1, none⟩ = some (.slice (some ⟨g, o, none⟩) t'.win.length c) := HV.out ▸ HI2.out.cell 1 _ rfl
      have z1 : w2.frozen? ⟨x, 1, none⟩ = false := by simp [World.frozen?, HI2.out.blk]
      have hlt2 := HI2.out.lt
      clear hob hb2 q0 q1 q2 q3 q4 hg1
      -- the window is one shorter
      go_upto_region 2 with (fail)
      obtain ⟨A1, c1, eu0⟩ : ∃ A1 c1, Value.slice A1 W.length c1 = sliced (some ⟨g, o, none⟩) 1 t'.win.length c 2 := ⟨_, _, by unfold sliced; rw [HW.out, List.length_cons, Nat.add_sub_cancel]⟩
      have hrun : ∀ Z : World, (Instr.slice 90 (.slice (some ⟨g, o, none⟩) t'.win.length c) (some (.int .i64 1)) none none).run Tryz.prog Z = .ok (.slice A1 W.length c1) Z := fun Z => by rw [eu0]; exact slice_one Tryz.underlying90 _ _ _ hlen Z hi0 hz1
      have HU0 := Lib.hid eu0
      have HLEN := Lib.hid hlen
      have HPOS := Lib.hid (And.intro hpos hpos2)
      clear eu0 hlen hpos hpos2
      go_cut [] (fun wx => wx = w2.setCell ⟨x, 1, none⟩ (.slice A1 W.length c1))
      case first =>
        go_wp2_with (fail)
        go_meet
        rfl
      case rest =>
      obtain ⟨w3, ew3⟩ : ∃ z, z = wc := ⟨_, rfl⟩
      rw [← ew3] at hcut ⊢
      clear ew3 hrun p0 p1 z1
      have hba := OwF.behind (show OwF w2 B 142 2 (.slice (some ⟨g, o, none⟩) t'.win.length c) t'.win.length (recs sqC t'.win) from HV.out ▸ HI2.out.row 0 (by omega)) HLEN.out
      rw [← HU0.out] at hba
      have HA3 := Lib.hid (HI2.out.app (w1 := w2) (t' := { t' with win := W }) (m := 0) (u := .slice A1 W.length c1) (by omega) ⟨rfl, rfl, rfl, rfl, rfl, fun k hk hne => by match k, hne with | 1, _ => rfl | _ + 2, _ => rfl⟩ (grown_refl _ _) (fun b hb => .inl (by rw [HV.out]; exact hba.2 b hb)) (by
        have h1 := hba.1
        rw [show t'.win.length - 1 = W.length by rw [HW.out]; simp, show (recs sqC t'.win).drop 2 = recs sqC W by rw [HW.out]; rfl] at h1
        exact h1))
      replace HA3 := Lib.hid (show TkI B (w2.setCell ⟨x, 1, none⟩ (.slice A1 W.length c1)) x { t' with win := W } (rpV rb) fv (updV v' 0 (.slice A1 W.length c1)) ∧ TkGo w2 (w2.setCell ⟨x, 1, none⟩ (.slice A1 W.length c1)) x v' (updV v' 0 (.slice A1 W.length c1)) from HA3.out)
      rw [← hcut] at HA3
      have HO3 := Lib.hid (show w3.heap[ob]? = some (.cells #[.int .i64 sa, .int .i64 sv] 142 (0, 0)) from by rw [hcut]; exact (Below.heap_setCell _ _ _ _ hobx).trans HO2.out)
      clear hcut hba
      obtain ⟨t1, et1⟩ : ∃ z, z = ({ t' with win := W } : Tk) := ⟨_, rfl⟩
      obtain ⟨v1, ev1⟩ : ∃ z, z = updV v' 0 (.slice A1 W.length c1) := ⟨_, rfl⟩
      rw [← et1, ← ev1] at HA3
      have HT1 := Lib.hid et1
      clear et1 ev1
      have HI3 := Lib.hid HA3.out.1
      have HG3 := Lib.hid (HG2.out.trans HA3.out.2)
      have hlt3 := HI3.out.lt
      have hobl3 : ob < w3.heap.size := (Array.getElem?_eq_some_iff.1 HO3.out).1
      have HOT3 := Lib.hid (fun b (hf : tkF x v1 b) => show b ≠ ob from by
        rcases HA3.out.2.sub b hf with h | h
        · exact HOT.out b h
        · have := (Array.getElem?_eq_some_iff.1 HO2.out).1; omega)
      clear HA3 HU0

      -- the sum
      obtain ⟨sm, esm⟩ : ∃ z, z = t'.sum := ⟨_, rfl⟩
      have hsm3 : t1.sum = sm := by rw [HT1.out, esm]
      have hwsm : IntKind.i64.wrap (sm - sv) = sm - sv := by rw [IntKind.wrap_i64]; omega
      have HQ3 := Lib.hid (fun (V : World) (hV : Below w3.heap.size w3 V) => show V.cell? ⟨x, 4, none⟩ = some (.int .i64 sm) ∧ V.cell? ⟨ob, 1, none⟩ = some (.int .i64 sv) from
        ⟨by rw [← hsm3]; exact (HI3.out.below hV).cell 4 _ rfl, (hV.cell (p := ⟨ob, 1, none⟩) hobl3).trans (cell_of_blk HO3.out rfl)⟩)
      have HZ3 := Lib.hid (fun (V : World) (hV : Below w3.heap.size w3 V) => show V.frozen? ⟨x, 4, none⟩ = false from by simp [World.frozen?, (HI3.out.below hV).blk])
      have HSM := Lib.hid (And.intro esm hsm3)
      clear esm hsm3
      go_upto_region 3 with (fail)
      go_cut [] (fun wx => Below w3.heap.size (w3.setCell ⟨x, 4, none⟩ (.int .i64 (sm - sv))) wx)
      case first =>

        refine qRegionSt (KS1 w3 ⟨x, 4, none⟩ (.int .i64 (sm - sv)))
          [.pointer (some ⟨x, 0, none⟩), .pointer (some ⟨x, 0, none⟩), .pointer (some ⟨x, 4, none⟩), .int .i64 sm, .pointer (some ⟨ob, 1, none⟩), .int .i64 sv, .int .i64 (sm - sv), .pointer (some ⟨x, 0, none⟩), .pointer (some ⟨x, 4, none⟩), .tuple #[]]
          [none, none, none, none, none, none, none, none, none, none]
          [0, 0, 0, 0, 0, 0, 0, 0, 0, 1]
          [1, 1, 1, 0, 1, 0, 1, 1, 1, 1] 1 (by kernel_rfl) (by kernel_rfl) rfl rfl (by rfl) (KS1.zero _ _ _) (fun s w o h => KS1.alloc h o) ?_ ?_
        · simp only [putL, Act.put, List.setIfInBounds_toArray, List.set_cons_zero, List.set_cons_succ]
          refine ⟨?_, ?_, ?_, ?_, ?_, ?_, ?_, ?_, ?_, ?_, trivial⟩
          · exact OneSt.pure (fun G V => by simp only [putH]; go_simp)
          · exact OneSt.pure (fun G V => by simp only [putH]; go_simp)
          · exact OneSt.pure (fun G V => by simp only [putH]; go_simp)
          · exact OneSt.load (fun G s V hK hs => by obtain ⟨c0, c1⟩ := HQ3.out V (KS1.low hK hs); simp only [putH]; go_simp)
          · exact OneSt.pure (fun G V => by simp only [putH]; go_simp)
          · exact OneSt.load (fun G s V hK hs => by obtain ⟨c0, c1⟩ := HQ3.out V (KS1.low hK hs); simp only [putH]; go_simp)
          · exact OneSt.pure (fun G V => by simp only [putH]; go_simp)
          · exact OneSt.pure (fun G V => by simp only [putH]; go_simp)
          · exact OneSt.pure (fun G V => by simp only [putH]; go_simp)
          · exact OneSt.store (fun G V hK hL => by have hs := KS1.store hK hlt3; obtain ⟨c0, c1⟩ := HQ3.out V (KS1.low hK (Nat.le_refl _)); have z4 := HZ3.out V (KS1.low hK (Nat.le_refl _)); have hl := Nat.lt_of_lt_of_le hlt3 (Below.size (KS1.low hK (Nat.le_refl _))); refine ⟨_, ?_, rfl, hs.1, hs.2⟩; simp only [putH]; go_simp)
        · intro G W7 hK hsz hG
          have HK7 := Lib.hid hK
          clear hK hG
          simp only [putL, putH, Act.put, List.setIfInBounds_toArray, List.set_cons_zero, List.set_cons_succ]
          go_wp2_with (fail)
          go_meet
          exact HK7.out
      case rest =>
      obtain ⟨w4, ew4⟩ : ∃ z, z = wc := ⟨_, rfl⟩
      rw [← ew4] at hcut ⊢
      clear ew4
      obtain ⟨t2, et2⟩ : ∃ z, z = ({ t1 with sum := sm - sv } : Tk) := ⟨_, rfl⟩
      have hnum := HI3.out.num (j := 4) (u := .int .i64 (sm - sv)) (t' := t2) (by rw [et2]; rfl) (fun k _ => by rw [et2]; match k with | 0 => rfl | 1 => rfl | _ + 2 => rfl)
      have hsz4 : (w3.setCell ⟨x, 4, none⟩ (.int .i64 (sm - sv))).heap.size = w3.heap.size := by simp [World.setCell]
      have hcut' : Below (w3.setCell ⟨x, 4, none⟩ (.int .i64 (sm - sv))).heap.size (w3.setCell ⟨x, 4, none⟩ (.int .i64 (sm - sv))) w4 := by rw [hsz4]; exact hcut
      have HI4 := Lib.hid (hnum.1.below hcut')
      have HG4 := Lib.hid (HG3.out.trans (hnum.2.below hcut'))
      have HO4 := Lib.hid (show w4.heap[ob]? = some (.cells #[.int .i64 sa, .int .i64 sv] 142 (0, 0)) from (hcut.block ob hobl3).trans ((Below.heap_setCell _ _ _ _ hobx).trans HO3.out))
      have HT2 := Lib.hid (show t2 = { t' with win := W, sum := t'.sum - sv } from by rw [et2, HT1.out, HSM.out.1])
      clear hcut hcut' hnum et2 hsz4 HQ3 HZ3 hwsm HSM HT1

      -- row 1
      have hlt1x := HI4.out.lt
      have hob1l : ob < w4.heap.size := (Array.getElem?_eq_some_iff.1 HO4.out).1
      have HTL1 := Lib.hid (show (tkRow t2 1) = t'.lea from by rw [HT2.out]; rfl)
      have hlen1 : 0 < (tkRow t2 1).length := by rw [HTL1.out]; exact HNE.out.1
      obtain ⟨g1, o1, c1, e1, _, hg1, hC1⟩ := HI4.out.rowPos (m := 1) (by omega) hlen1
      have HE1 := Lib.hid e1
      have hhd1 : (tkRow t2 1)[0]? = some (t'.lea.headD (0, 0)) := by rw [HTL1.out]; exact get_head HNE.out.1
      obtain ⟨y1, ey1⟩ : ∃ z, z = t'.lea.headD (0, 0) := ⟨_, rfl⟩
      rw [← ey1] at hhd1
      have HY1 := Lib.hid ey1
      obtain ⟨ya1, yv1⟩ := y1
      have HQ4 := Lib.hid (fun (V : World) (hV : Below w4.heap.size w4 V) => show V.cell? ⟨x, 2, none⟩ = some (.slice (some ⟨g1, o1, none⟩) (tkRow t2 1).length c1) ∧ V.cell? ⟨g1, o1, none⟩ = some (.int .i64 ya1) ∧ V.cell? ⟨g1, o1 + 1, none⟩ = some (.int .i64 yv1) ∧ V.cell? ⟨ob, 0, none⟩ = some (.int .i64 sa) ∧ V.cell? ⟨ob, 1, none⟩ = some (.int .i64 sv) from
        ⟨HE1.out ▸ (HI4.out.below hV).cell 2 _ rfl, by have := (sq_at hC1 hV hg1 0 _ hhd1).1; simpa using this, by have := (sq_at hC1 hV hg1 0 _ hhd1).2; simpa using this, (hV.cell (p := ⟨ob, 0, none⟩) hob1l).trans (cell_of_blk HO4.out rfl), (hV.cell (p := ⟨ob, 1, none⟩) hob1l).trans (cell_of_blk HO4.out rfl)⟩)
      clear e1 hC1 hhd1 ey1
      have hpos1 : (0 : Int) < ((tkRow t2 1).length : Int) := by omega
      generalize hln1 : (tkRow t2 1).length = ln1 at HQ4 hlen1 hpos1 HE1
      have HLN1 := Lib.hid hln1
      clear hln1
      have heq1 := fun Z : World => sq_eql ya1 yv1 sa sv Z
      obtain ⟨bb1, ebb1⟩ : ∃ z, z = (ya1 == sa && yv1 == sv) := ⟨_, rfl⟩
      simp only [← ebb1] at heq1
      have HBB1 := Lib.hid ebb1
      clear ebb1
      go_upto_region 4 with (fail)
      refine qRegion (by kernel_rfl) (by kernel_rfl) ?_
      repeat (first
        | (go_big_quiet_want; refine qVal (fun V hV => (by (obtain ⟨q0, q1, q2, q3, q4⟩ := HQ4.out V hV; go_simp; try rfl))) ?_; simp only [Act.put, List.setIfInBounds_toArray, List.set_cons_zero, List.set_cons_succ]; go_big_quiet_on)
        | go_big_quiet_skip)
      refine wpQuiet_nil ?_
      intro V hV
      obtain ⟨w5, ew5⟩ : ∃ z, z = V := ⟨_, rfl⟩
      rw [← ew5] at hV ⊢
      clear ew5 heq1
      have HI5 := Lib.hid (HI4.out.below hV)
      have HG5 := Lib.hid (HG4.out.below hV)
      have HO5 := Lib.hid ((hV.block ob hob1l).trans HO4.out)
      obtain ⟨q0, q1, q2, q3, q4⟩ := HQ4.out w5 hV
      have p0 : w5.cell? ⟨x, 0, none⟩ = some (.pointer (some ⟨rb, 0, none⟩)) := HI5.out.cell 0 _ rfl
      have z1 : w5.frozen? ⟨x, 2, none⟩ = false := by simp [World.frozen?, HI5.out.blk]
      have hlv1 := HI5.out.lt
      clear hV HQ4 q1 q2 q3 q4
      obtain ⟨t3, et3⟩ : ∃ z, z = ({ t2 with lea := tkPop (sa, sv) t'.lea } : Tk) := ⟨_, rfl⟩
      have HTO1 := Lib.hid et3
      clear et3
      go_upto_if 60 with (fail)
      go_cut [] (fun wx => ∃ vo, TkI B wx x t3 (rpV rb) fv vo ∧ TkGo w wx x v vo ∧ wx.heap[ob]? = some (.cells #[.int .i64 sa, .int .i64 sv] 142 (0, 0)))
      case first =>
        have HNE1 := Lib.hid HNE.out.1
        cases bb1 with
        | false =>
          have HP := Lib.hid (pop_no HNE1.out HY1.out HBB1.out.symm)
          have HTE := Lib.hid (show t3 = t2 from by rw [HTO1.out, HP.out, ← HTL1.out]; rfl)
          go_wp2_with (fail)
          go_meet
          exact ⟨_, by rw [HTE.out]; exact HI5.out, HG5.out, HO5.out⟩
        | true =>
          have HP := Lib.hid (pop_yes HNE1.out HY1.out HBB1.out.symm)
          obtain ⟨ln, hln⟩ : ∃ z, z = t'.lea.tail.length := ⟨_, rfl⟩
          have hl1 : ln1 - 1 = ln := by rw [hln, List.length_tail, ← HTL1.out, HLN1.out]
          obtain ⟨AA, ca, eu2⟩ : ∃ AA ca, Value.slice AA ln ca = sliced (some ⟨g1, o1, none⟩) 1 ln1 c1 2 := ⟨_, _, by unfold sliced; rw [hl1]⟩
          have hrun : ∀ Z : World, (Instr.slice 90 (.slice (some ⟨g1, o1, none⟩) ln1 c1) (some (.int .i64 1)) none none).run Tryz.prog Z = .ok (.slice AA ln ca) Z := fun Z => by rw [eu2]; exact slice_one Tryz.underlying90 _ _ _ hlen1 Z hi0 hz1
          have hba := OwF.behind (show OwF w5 B 142 2 (.slice (some ⟨g1, o1, none⟩) ln1 c1) ln1 (recs sqC (tkRow t2 1)) from by have := HI5.out.row 1 (by omega); rw [HE1.out, HLN1.out] at this; exact this) hlen1
          rw [← eu2] at hba
          have HA2 := HI5.out.app (w1 := w5) (t' := t3) (m := 1) (u := .slice AA ln ca) (by omega) ⟨by rw [HTO1.out], by rw [HTO1.out], by rw [HTO1.out], by rw [HTO1.out], by rw [HTO1.out], fun k hk hne => by rw [HTO1.out]; match k, hk, hne with | 0, _, _ => rfl | _ + 2, _, _ => rfl⟩ (grown_refl _ _) (fun b hb => .inl (by rw [HE1.out]; exact hba.2 b hb)) (by
            have h1 := hba.1
            have e1 : tkRow t3 1 = t'.lea.tail := by rw [HTO1.out, HP.out]; rfl
            rw [hl1, recs_tail, HTL1.out, hln] at h1
            rw [e1]
            rw [hln]
            exact h1)
          have HA3 := Lib.hid (show TkI B (w5.setCell ⟨x, 2, none⟩ (.slice AA ln ca)) x t3 (rpV rb) fv (updV v1 1 (.slice AA ln ca)) ∧ TkGo w5 (w5.setCell ⟨x, 2, none⟩ (.slice AA ln ca)) x v1 (updV v1 1 (.slice AA ln ca)) from HA2)
          clear HA2 hba eu2 hln hl1 hlen1 hpos1
          go_wp2_with (fail)
          go_meet
          exact ⟨_, HA3.out.1, HG5.out.trans HA3.out.2, (Below.heap_setCell _ _ _ _ hobx).trans HO5.out⟩
      case rest =>
      obtain ⟨v2, hI, hG, hO⟩ := hcut
      obtain ⟨w6, ew6⟩ : ∃ z, z = wc := ⟨_, rfl⟩
      rw [← ew6] at hI hG hO ⊢
      have HI6 := Lib.hid hI
      have HG6 := Lib.hid hG
      have HO6 := Lib.hid hO
      clear ew6 hI hG hO p0 z1 hlv1 hlen1 hpos1 hob1l hg1 q0

      -- row 2
      have hlt2x := HI6.out.lt
      have hob2l : ob < w6.heap.size := (Array.getElem?_eq_some_iff.1 HO6.out).1
      have HTL2 := Lib.hid (show (tkRow t3 2) = t'.mos from by rw [HTO1.out, HT2.out]; rfl)
      have hlen2 : 0 < (tkRow t3 2).length := by rw [HTL2.out]; exact HNE.out.2
      obtain ⟨g2, o2, c2, e2, _, hg2, hC2⟩ := HI6.out.rowPos (m := 2) (by omega) hlen2
      have HE2 := Lib.hid e2
      have hhd2 : (tkRow t3 2)[0]? = some (t'.mos.headD (0, 0)) := by rw [HTL2.out]; exact get_head HNE.out.2
      obtain ⟨y2, ey2⟩ : ∃ z, z = t'.mos.headD (0, 0) := ⟨_, rfl⟩
      rw [← ey2] at hhd2
      have HY2 := Lib.hid ey2
      obtain ⟨ya2, yv2⟩ := y2
      have HQ6 := Lib.hid (fun (V : World) (hV : Below w6.heap.size w6 V) => show V.cell? ⟨x, 3, none⟩ = some (.slice (some ⟨g2, o2, none⟩) (tkRow t3 2).length c2) ∧ V.cell? ⟨g2, o2, none⟩ = some (.int .i64 ya2) ∧ V.cell? ⟨g2, o2 + 1, none⟩ = some (.int .i64 yv2) ∧ V.cell? ⟨ob, 0, none⟩ = some (.int .i64 sa) ∧ V.cell? ⟨ob, 1, none⟩ = some (.int .i64 sv) from
        ⟨HE2.out ▸ (HI6.out.below hV).cell 3 _ rfl, by have := (sq_at hC2 hV hg2 0 _ hhd2).1; simpa using this, by have := (sq_at hC2 hV hg2 0 _ hhd2).2; simpa using this, (hV.cell (p := ⟨ob, 0, none⟩) hob2l).trans (cell_of_blk HO6.out rfl), (hV.cell (p := ⟨ob, 1, none⟩) hob2l).trans (cell_of_blk HO6.out rfl)⟩)
      clear e2 hC2 hhd2 ey2
      have hpos2 : (0 : Int) < ((tkRow t3 2).length : Int) := by omega
      generalize hln2 : (tkRow t3 2).length = ln2 at HQ6 hlen2 hpos2 HE2
      have HLN2 := Lib.hid hln2
      clear hln2
      have heq2 := fun Z : World => sq_eql ya2 yv2 sa sv Z
      obtain ⟨bb2, ebb2⟩ : ∃ z, z = (ya2 == sa && yv2 == sv) := ⟨_, rfl⟩
      simp only [← ebb2] at heq2
      have HBB2 := Lib.hid ebb2
      clear ebb2
      go_upto_region 6 with (fail)
      refine qRegion (by kernel_rfl) (by kernel_rfl) ?_
      repeat (first
        | (go_big_quiet_want; refine qVal (fun V hV => (by (obtain ⟨q0, q1, q2, q3, q4⟩ := HQ6.out V hV; go_simp; try rfl))) ?_; simp only [Act.put, List.setIfInBounds_toArray, List.set_cons_zero, List.set_cons_succ]; go_big_quiet_on)
        | go_big_quiet_skip)
      refine wpQuiet_nil ?_
      intro V hV
      obtain ⟨w7, ew7⟩ : ∃ z, z = V := ⟨_, rfl⟩
      rw [← ew7] at hV ⊢
      clear ew7 heq2
      have HI7 := Lib.hid (HI6.out.below hV)
      have HG7 := Lib.hid (HG6.out.below hV)
      have HO7 := Lib.hid ((hV.block ob hob2l).trans HO6.out)
      obtain ⟨q0, q1, q2, q3, q4⟩ := HQ6.out w7 hV
      have p0 : w7.cell? ⟨x, 0, none⟩ = some (.pointer (some ⟨rb, 0, none⟩)) := HI7.out.cell 0 _ rfl
      have z2 : w7.frozen? ⟨x, 3, none⟩ = false := by simp [World.frozen?, HI7.out.blk]
      have hlv2 := HI7.out.lt
      clear hV HQ6 q1 q2 q3 q4
      obtain ⟨t4, et4⟩ : ∃ z, z = ({ t3 with mos := tkPop (sa, sv) t'.mos } : Tk) := ⟨_, rfl⟩
      have HTO2 := Lib.hid et4
      clear et4
      have HT4 := Lib.hid (show t4 = { t' with win := W, sum := t'.sum - sv, lea := tkPop (sa, sv) t'.lea, mos := tkPop (sa, sv) t'.mos } from by rw [HTO2.out, HTO1.out, HT2.out])
      have HNE2 := Lib.hid HNE.out.2
      cases bb2 with
      | false =>
        have HP := Lib.hid (pop_no HNE2.out HY2.out HBB2.out.symm)
        have HTE := Lib.hid (show t4 = t3 from by rw [HTO2.out, HP.out, ← HTL2.out]; rfl)
        have HIE := Lib.hid (show TkI B w7 x t4 (rpV rb) fv v2 from by rw [HTE.out]; exact HI7.out)
        go_wp2_with (fail)
        go_roundw
        case rel => exact ⟨t4, _, HIE, HG7, Lib.hid (by rw [HT4.out]; exact HKN.out), Lib.hid (by rw [HT4.out]; exact HDN.out)⟩
        case measure =>
          rw [tkLen_eq HIE.out, HLN.out, HT4.out]
          exact HLW.out
      | true =>
        have HP := Lib.hid (pop_yes HNE2.out HY2.out HBB2.out.symm)
        obtain ⟨ln, hln⟩ : ∃ z, z = t'.mos.tail.length := ⟨_, rfl⟩
        have hl1 : ln2 - 1 = ln := by rw [hln, List.length_tail, ← HTL2.out, HLN2.out]
        obtain ⟨AA, ca, eu2⟩ : ∃ AA ca, Value.slice AA ln ca = sliced (some ⟨g2, o2, none⟩) 1 ln2 c2 2 := ⟨_, _, by unfold sliced; rw [hl1]⟩
        have hrun : ∀ Z : World, (Instr.slice 90 (.slice (some ⟨g2, o2, none⟩) ln2 c2) (some (.int .i64 1)) none none).run Tryz.prog Z = .ok (.slice AA ln ca) Z := fun Z => by rw [eu2]; exact slice_one Tryz.underlying90 _ _ _ hlen2 Z hi0 hz1
        have hba := OwF.behind (show OwF w7 B 142 2 (.slice (some ⟨g2, o2, none⟩) ln2 c2) ln2 (recs sqC (tkRow t3 2)) from by have := HI7.out.row 2 (by omega); rw [HE2.out, HLN2.out] at this; exact this) hlen2
        rw [← eu2] at hba
        have HA2 := HI7.out.app (w1 := w7) (t' := t4) (m := 2) (u := .slice AA ln ca) (by omega) ⟨by rw [HTO2.out], by rw [HTO2.out], by rw [HTO2.out], by rw [HTO2.out], by rw [HTO2.out], fun k hk hne => by rw [HTO2.out]; match k, hk, hne with | 0, _, _ => rfl | 1, _, _ => rfl | 2, _, h => exact absurd rfl h | _ + 3, h, _ => exact absurd h (by omega)⟩ (grown_refl _ _) (fun b hb => .inl (by rw [HE2.out]; exact hba.2 b hb)) (by
          have h1 := hba.1
          have e1 : tkRow t4 2 = t'.mos.tail := by rw [HTO2.out, HP.out]; rfl
          rw [hl1, recs_tail, HTL2.out, hln] at h1
          rw [e1]
          rw [hln]
          exact h1)
        have HA3 := Lib.hid (show TkI B (w7.setCell ⟨x, 3, none⟩ (.slice AA ln ca)) x t4 (rpV rb) fv (updV v2 2 (.slice AA ln ca)) ∧ TkGo w7 (w7.setCell ⟨x, 3, none⟩ (.slice AA ln ca)) x v2 (updV v2 2 (.slice AA ln ca)) from HA2)
        clear HA2 hba eu2 hln hl1 hlen2 hpos2
        go_wp2_with (fail)
        go_roundw
        case rel => exact ⟨t4, _, Lib.hid HA3.out.1, Lib.hid (HG7.out.trans HA3.out.2), Lib.hid (by rw [HT4.out]; exact HKN.out), Lib.hid (by rw [HT4.out]; exact HDN.out)⟩
        case measure =>
          rw [tkLen_eq HA3.out.1, HLN.out, HT4.out]
          exact HLW.out

    · have HDS := Lib.hid (show D = t' from by rw [HD'.out]; exact drop_stop (fun s W e => by
        rcases Int.lt_or_le at_ (s.1 + r.long) with h1 | h1
        · exact h1
        · exact absurd ⟨s, W, e, h1⟩ hgo))
      cases hw : t'.win with
      | nil =>
        have hz : t'.win.length = 0 := by rw [hw]; rfl
        rw [hz] at HQ
        clear hz hw
        go_upto_region 0 with (fail)
        refine qRegion (by kernel_rfl) (by kernel_rfl) ?_
        repeat (first
          | (go_big_quiet_want; refine qVal (fun V hV => (by (obtain ⟨q0, q1, q2⟩ := HQ.out V hV; go_simp; try rfl))) ?_; simp only [Act.put, List.setIfInBounds_toArray, List.set_cons_zero, List.set_cons_succ]; go_big_quiet_on)
          | go_big_quiet_skip)
        refine wpQuiet_nil ?_
        intro V hV
        have HF := Lib.hid hV
        clear hV
        go_wp2_with (fail)
        go_end0
        exact ⟨rfl, v', by rw [HDS.out]; exact HI'.out.below HF.out, HG'.out.below HF.out⟩
      | cons s W =>
        have hgt : at_ < s.1 + r.long := by
          rcases Int.lt_or_le at_ (s.1 + r.long) with h1 | h1
          · exact h1
          · exact absurd ⟨s, W, hw, h1⟩ hgo
        have hti := HK'.out.ti s (by rw [hw]; simp)
        obtain ⟨g, o, eA, hg, hC⟩ := HA.out s W hw
        subst eA
        have HC := Lib.hid (fun (V : World) (hV : Below wr.heap.size wr V) => (sq_at hC hV hg 0 s (by rw [hw]; rfl)).1)
        simp only [Nat.zero_mul, Nat.add_zero] at HC
        have hlen := len_cons hw
        have hpos : (0 : Int) < (t'.win.length : Int) := by omega
        have hpos2 : decide ((0 : Int) < (t'.win.length : Int)) = true := decide_eq_true hpos
        have hw1 : IntKind.i64.wrap (s.1 + r.long) = s.1 + r.long := by unfold tEnd at ha; rw [IntKind.wrap_i64]; omega
        have hle : decide (s.1 + r.long ≤ at_) = false := decide_eq_false (by omega)
        have HQ2 := Lib.hid (fun (V : World) (hV : Below wr.heap.size wr V) => show V.cell? ⟨x, 0, none⟩ = some (.pointer (some ⟨rb, 0, none⟩)) ∧ V.cell? ⟨x, 1, none⟩ = some (.slice (some ⟨g, o, none⟩) t'.win.length c) ∧ V.cell? ⟨rb, 3, none⟩ = some (.int .i64 r.long) ∧ V.cell? ⟨g, o, none⟩ = some (.int .i64 s.1) from
          ⟨(HQ.out V hV).1, (HQ.out V hV).2.1, (HQ.out V hV).2.2, HC.out V hV⟩)
        clear hw hC hti
        clear hgt
        generalize s.1 = s1 at HQ2 hle hw1 HC
        generalize r.long = long at HQ2 hle hw1
        generalize t'.win.length = ln at HQ2 hpos hpos2 hlen
        go_upto_region 0 with (fail)
        refine qRegion (by kernel_rfl) (by kernel_rfl) ?_
        repeat (first
          | (go_big_quiet_want; refine qVal (fun V hV => (by (obtain ⟨q0, q1, q2, q3⟩ := HQ2.out V hV; go_simp; try rfl))) ?_; simp only [Act.put, List.setIfInBounds_toArray, List.set_cons_zero, List.set_cons_succ]; go_big_quiet_on)
          | go_big_quiet_skip)
        refine wpQuiet_nil ?_
        intro V hV
        have HF := Lib.hid hV
        clear hV
        go_wp2_with (fail)
        go_end0
        exact ⟨rfl, v', by rw [HDS.out]; exact HI'.out.below HF.out, HG'.out.below HF.out⟩
end Go.Proofs.YtlfphndnkgoinaaGreatDoor
