/- rule.newTrack, spansOf by their contracts. -/
import Derived.Test.YtlfphndnkgoinaaGreatDoorTkE
import Derived.Laws.EntriesVeiled
namespace Go.Proofs.YtlfphndnkgoinaaGreatDoor
open Go.RowKit

theorem call_enter {P : Program} {f : FuncId} {fn : Func} (h1 : P.funcs[f]? = some fn) (h2 : (fn.name == "runtime.NumGoroutine") = false) (h3 : fn.body.isSome = true) (args : Array Value) (w : World) : (callFunc f args).run P w = .ok (.enter f args) w := by
  have h4 : fn.name ≠ "runtime.NumGoroutine" := by simpa using h2
  obtain ⟨k, h5⟩ := Option.isSome_iff_exists.1 h3
  simp [callFunc, h1, h4, h5]
theorem cells_atS {w : World} {cs : Array Value} {t : TypeId} {f : Nat × Nat} {xs : List Value} {n : Nat} (h : cs.toList = xs) (hn : n = w.heap.size) : Cells (w.alloc (.cells cs t f)) n 0 xs := by
  subst hn; exact Cells.new _ _ _ _ _ h
theorem tk00_ok : TkOk tk00 0 (-1) :=
  ⟨⟨by simp [tk00], by simp [tk00], by simp [tk00], rfl, rfl, by simp [tk00, sumV]⟩, by simp [tk00], by simp [tk00], by simp [tk00], by simp [tk00], by simp [tk00, tEnd]⟩
set_option maxRecDepth 100000 in
set_option maxHeartbeats 2000000 in
theorem newTrack_any {rb F B : Nat} {r : Ru} {caps : Array Value} {w : World} (hm : RuM w rb r) (hR : RuR r) (hB : B ≤ w.heap.size) :
    Calls Tryz.prog 81 #[rpV rb, fnV F caps] w fun e w' => ∃ x v, e = .returned (.pointer (some ⟨x, 0, none⟩)) ∧ TkI B w' x (tk0 r) (rpV rb) (fnV F caps) v ∧ Below w.heap.size w w' ∧ ∀ b, tkF x v b → w.heap.size ≤ b := by
  have hrl := hm.lt
  have HM := Lib.hid hm
  have HR := Lib.hid hR
  clear hm hR
  show Calls Tryz.prog 81 #[.pointer (some ⟨rb, 0, none⟩), .func (.func F) #[] caps] w _
  go_enter Tryz.func81, Tryz.ntmps81
  go_upto_region 2 with (fail)
  generalize hw1 : w.alloc (.cells #[.pointer (some ⟨rb, 0, none⟩), .slice none 0 0, .slice none 0 0, .slice none 0 0, .int .i64 0, .int .i64 0, .int .i64 0, .bool false, .int .i64 0, .func (.func F) #[] caps] 94) = w1
  obtain ⟨x, ex⟩ : ∃ z, z = w.heap.size := ⟨_, rfl⟩
  have hb1 : Below w.heap.size w w1 := hw1 ▸ (Below.refl _ _).alloc (Nat.le_refl _) _
  have HB1 := Lib.hid hb1
  have HM1 := Lib.hid (HM.out.below hb1 hrl)
  have HI1 := Lib.hid (show TkI B w1 x tk00 (rpV rb) (fnV F caps) (fun _ => .slice none 0 0) from
    ⟨by rw [← hw1, ex]; exact heap_new w _, by omega, fun m hm => by match m, hm with
      | 0, _ => exact OwF.nil _ _ _ _
      | 1, _ => exact OwF.nil _ _ _ _
      | 2, _ => exact OwF.nil _ _ _ _, fun m m' _ _ _ q h => by cases h⟩)
  have hEx := Lib.hid ex
  rw [← ex]
  clear hw1 hb1 ex
  have HN := Lib.hid (now_any HI1.out HM1.out HR.out tk00_ok (by omega))
  obtain ⟨N, eN⟩ : ∃ z, z = tkNow r tk00 := ⟨_, rfl⟩
  rw [← eN] at HN
  have HEN := Lib.hid eN
  clear eN
  go_wp2_with (fail)
  refine HN.out.mono ?_
  rintro e w2 ⟨rfl, hb2⟩
  have HI2 := Lib.hid (HI1.out.below hb2)
  have HB2 := Lib.hid (below_step HB1.out hb2)
  clear hb2 HN
  have hlt2 := HI2.out.lt
  have c5 : w2.cell? ⟨x, 5, none⟩ = some (.int .i64 0) := HI2.out.cell 5 _ rfl
  have z5 : w2.frozen? ⟨x, 5, none⟩ = false := by simp [World.frozen?, HI2.out.blk]
  obtain ⟨q1, q2⟩ := HI2.out.num (j := 5) (u := .int .i64 N) (t' := tk0 r) (by rw [HEN.out]; rfl) (fun k _ => by match k with | 0 => rfl | 1 => rfl | _ + 2 => rfl)
  have HQ := Lib.hid (And.intro q1 q2)
  clear q1 q2
  go_wp2_with (fail)
  go_ret
  refine ⟨x, _, rfl, HQ.out.1, ?_, fun b hb => ?_⟩
  · refine ⟨HQ.out.2.gr.os.trans HB2.out.os, HQ.out.2.gr.tape.trans HB2.out.tape, HQ.out.2.gr.output.trans HB2.out.output, Nat.le_trans HB2.out.size HQ.out.2.gr.size, fun b hb => (HQ.out.2.gr.block b (Nat.lt_of_lt_of_le hb HB2.out.size) (fun hf => ?_)).trans (HB2.out.block b hb)⟩
    rcases hf with rfl | ⟨m, _, h⟩
    · have := hEx.out; omega
    · cases h
  · rcases hb with rfl | ⟨m, _, h⟩
    · have := hEx.out; omega
    · cases h
/-- What the changes have told: the spans, in a box and a row of one's own. -/
def JS (B bx : Nat) (cs : List (Int × Bool)) (Q : Nat → Prop) (w : World) : Prop :=
  ∃ S, w.heap[bx]? = some (.cells #[S] 87 (0, 0)) ∧ w.ownsRow B 138 2 S (spL cs).length (recs sqC (spL cs)) ∧ B ≤ bx ∧ ∀ b, Q b ↔ (b = bx ∨ S.ownBlock = some b)
theorem spL_snoc (cs : List (Int × Bool)) (c : Int × Bool) : spL (cs ++ [c]) = spStep (spL cs) c := by unfold spL; rw [List.foldl_append]; rfl
theorem spStep_len (l : List (Int × Int)) (c : Int × Bool) : (spStep l c).length ≤ l.length + 1 := by
  unfold spStep
  split
  · simp
  · cases h : l.getLast? with
    | none => simp
    | some x => simp
theorem spL_len (cs : List (Int × Bool)) : (spL cs).length ≤ cs.length := by
  have : ∀ (cs : List (Int × Bool)) (l : List (Int × Int)), (cs.foldl spStep l).length ≤ l.length + cs.length := by
    intro cs
    induction cs with
    | nil => intro l; simp
    | cons c cs ih =>
      intro l
      have h1 := ih (spStep l c)
      have h2 := spStep_len l c
      simp only [List.foldl_cons, List.length_cons]
      omega
  have := this cs []
  simpa [spL] using this
theorem spFold_ne : ∀ (cs : List (Int × Bool)) (l : List (Int × Int)) (f : Bool), (f = true → 0 < l.length) → Turns f cs true → 0 < (cs.foldl spStep l).length
  | [], l, f, h, ht => h ht
  | c :: cs, l, f, h, ht => by
    refine spFold_ne cs (spStep l c) (!f) (fun _ => ?_) ht.2
    have hc := ht.1
    unfold spStep
    cases f with
    | false =>
      rw [if_pos (by simpa using hc)]
      simp
    | true =>
      rw [if_neg (by rw [hc]; simp)]
      have h1 := h rfl
      cases hl : l.getLast? with
      | none => have := List.getLast?_eq_none_iff.1 hl; subst this; simp at h1
      | some x => simp
theorem spL_ne {cs : List (Int × Bool)} (h : Turns false cs true) : 0 < (spL cs).length := spFold_ne cs [] false (fun h => absurd h (by decide)) h
theorem recs_setLastT {l : List (Int × Int)} {m : Nat} (hl : l.length = m + 1) (t : Int) : (recs sqC l).set (m * 2 + 1) (.int .i64 t) = recs sqC (spStep l (t, false)) := by
  obtain ⟨l', z, rfl⟩ := snoc_of (l := l) (by omega)
  have hm : l'.length = m := by simpa using hl
  have hs : spStep (l' ++ [z]) (t, false) = l' ++ [(z.1, t)] := by
    unfold spStep
    rw [if_neg (by simp), (getLast_snoc l' z).1]
    dsimp only
    rw [(getLast_snoc l' z).2]
  rw [hs, recs_append, recs_append, List.set_append_right _ _ (by rw [recs_length sqC_len, hm]; omega), recs_length sqC_len, hm, Nat.add_sub_cancel_left]
  rfl
theorem Tryz.infoSn : (Tryz.prog.info? 138).map (fun i => (i.zero, i.size, i.bytes)) = some (some (.agg #[.int .i64 0, .int .i64 0]), 2, 16) := by kernel_rfl
set_option maxRecDepth 100000 in
set_option maxHeartbeats 2000000 in
theorem told_any {B bx : Nat} {cs : List (Int × Bool)} {Q : Nat → Prop} {w : World} (at_ : Int) (up : Bool) (h : JS B bx cs Q w) (ht : Turns false cs (!up)) (hn : cs.length ≤ 345686400000) :
    Calls Tryz.prog 82 (#[.int .i64 at_, .bool up] ++ #[.pointer (some ⟨bx, 0, none⟩)]) w fun e w' => e = .returned (.tuple #[]) ∧ ∃ Q', JS B bx (cs ++ [(at_, up)]) Q' w' ∧ GrF w w' Q ∧ ∀ b, Q' b → Q b ∨ w.heap.size ≤ b := by
  obtain ⟨i0, hi0, hz0, hz1, hz2⟩ := info_parts Tryz.infoSn
  obtain ⟨S, hbx, hS, hB, hQ⟩ := h
  have HLEN := Lib.hid (show (spL cs).length ≤ 345686400000 from Nat.le_trans (spL_len cs) hn)
  have HBX := Lib.hid hbx
  have HQ := Lib.hid hQ
  have HT := Lib.hid ht
  have hltx : bx < w.heap.size := (Array.getElem?_eq_some_iff.1 hbx).1
  clear hQ ht hn
  obtain ⟨A, c, rfl⟩ := own_slice hS
  have HS := Lib.hid hS
  have c0 := cell_of_blk (j := 0) hbx rfl
  have f0 : w.frozen? ⟨bx, 0, none⟩ = false := by simp [World.frozen?, hbx]
  clear hS hbx
  show Calls Tryz.prog 82 #[.int .i64 at_, .bool up, .pointer (some ⟨bx, 0, none⟩)] w _
  go_enter Tryz.func82, Tryz.ntmps82
  cases up with
  | true =>
    obtain ⟨ln, eln⟩ : ∃ z, z = (spL cs).length := ⟨_, rfl⟩
    rw [← eln] at c0 HS HLEN HQ
    have HE := Lib.hid eln
    clear eln
    have hln := HLEN.out
    go_wp2_with (at_builtin; go_loud (refine wpList_append_own2 _ rfl _ _ 87 rfl B 138 i0 _ 2 16 Tryz.underlying87 hi0 hz0 hz1 hz2 rfl (by decide) _ ln (recs sqC (spL cs)) rfl (HS.out.alloc _) ⟨_, 0, none⟩ 1 1 (sqC (at_, tEnd)) rfl rfl ?c1 ?c2 ?c3 ?c4 ?c5 ?_))
    case c1 => exact cells_add (cells_atS (by rfl) (by first | rfl | simp))
    case c2 => exact sqC_one _
    case c3 => unfold maxLen; omega
    case c4 => omega
    case c5 => have := HLEN.out; simp; omega
    intro v1 w1 ho hg hm
    obtain ⟨B1, s1, rfl⟩ := own_slice ho
    replace hg := grown_of_alloc hg
    replace hm := moved_of_alloc hm
    have hbx1 := (hg.block bx hltx (own_ne HS.out HBX.out (by decide))).trans HBX.out
    have c1 := cell_of_blk (j := 0) hbx1 rfl
    have z1 : w1.frozen? ⟨bx, 0, none⟩ = false := by simp [World.frozen?, hbx1]
    have hl1 : bx < w1.heap.size := (Array.getElem?_eq_some_iff.1 hbx1).1
    have HO := Lib.hid ho
    have HG := Lib.hid hg
    have HMV := Lib.hid hm
    have HX1 := Lib.hid hbx1
    clear ho hg hm hbx1
    go_wp2_with (fail)
    go_end0
    have hrow : w1.ownsRow B 138 2 (.slice B1 (ln + 1) s1) (spL (cs ++ [(at_, true)])).length (recs sqC (spL (cs ++ [(at_, true)]))) := by
      rw [spL_snoc]
      have e : spStep (spL cs) (at_, true) = spL cs ++ [(at_, tEnd)] := rfl
      rw [e, recs_snoc, List.length_append, ← HE.out]
      exact HO.out
    have hset : ∀ b, b ≠ bx → (w1.setCell ⟨bx, 0, none⟩ (.slice B1 (ln + 1) s1)).heap[b]? = w1.heap[b]? := fun b hb => Below.heap_setCell _ _ _ _ hb
    refine ⟨rfl, fun b => b = bx ∨ (Value.slice B1 (ln + 1) s1).ownBlock = some b, ⟨_, by rw [heap_setCell_blk _ HX1.out]; rfl, own_keptB hrow fun b hb => hset b (fun e => own_ne hrow HX1.out (by decide) (by rw [hb, e])), hB, fun b => Iff.rfl⟩, ?_, fun b hb => ?_⟩
    · exact (GrF.of_grown HG.out _ (fun b hb => (HQ.out b).2 (Or.inr hb))).set ((HQ.out bx).2 (.inl rfl)) _
    · rcases hb with rfl | hb
      · exact .inl ((HQ.out _).2 (.inl rfl))
      · rcases HMV.out with e | ⟨g, h1, h2⟩
        · exact .inl ((HQ.out b).2 (.inr (e ▸ hb)))
        · rw [h1] at hb
          injection hb with hb
          exact .inr (hb ▸ h2)
  | false =>
    have hpos := spL_ne HT.out
    obtain ⟨m, em⟩ : ∃ m, (spL cs).length = m + 1 := ⟨(spL cs).length - 1, by omega⟩
    have hr := HS.out
    rw [em] at hr c0
    have hm5 : m + 1 ≤ 345686400000 := by have := HLEN.out; omega
    obtain ⟨g, hA, hg0, hgl⟩ := (own_two hr).resolve_left (fun h => by omega)
    subst hA
    have hgx : g ≠ bx := fun e => own_ne hr HBX.out (by decide) (by rw [e]; rfl)
    obtain ⟨cu, hcu⟩ := own_blk hr
    have HR := Lib.hid hr
    have hu : ∃ u, w.cell? ⟨g, m * 2 + 1, none⟩ = some u := by
      obtain ⟨u, hu⟩ : ∃ u, (recs sqC (spL cs))[m * 2 + 1]? = some u := ⟨_, List.getElem?_eq_getElem (by rw [recs_length sqC_len, em]; omega)⟩
      exact ⟨u, (HR.out.cellAt _ (by omega)).trans hu⟩
    obtain ⟨u, hu⟩ := hu
    have fg : w.frozen? ⟨g, m * 2 + 1, none⟩ = false := by simp [World.frozen?, hcu]
    have hi1 : IntKind.i64.wrap ((m : Int) + 1 - 1) = (m : Int) := by rw [show ((m : Int) + 1 - 1) = (m : Int) by omega, IntKind.wrap_i64]; omega
    have hi2 : IntKind.i64.wrap (((m + 1 : Nat) : Int) - 1) = (m : Int) := by rw [show (((m + 1 : Nat) : Int) - 1) = (m : Int) by omega, IntKind.wrap_i64]; omega
    have hi6 : IntKind.i64.wrap (m : Int) = (m : Int) := by rw [IntKind.wrap_i64]; omega
    have hi3 : (m : Int) < ((m + 1 : Nat) : Int) := by omega
    have hi4 : m < m + 1 := by omega
    have HEM := Lib.hid em
    have hst := HR.out.stored (m * 2 + 1) (.int .i64 at_)
    rw [recs_setLastT HEM.out at_] at hst
    have HST := Lib.hid hst
    clear hst hcu em hr HS hpos
    go_wp2_with (fail)
    go_end0
    have hset : ∀ b, b ≠ g → (w.setCell ⟨g, m * 2 + 1, none⟩ (.int .i64 at_)).heap[b]? = w.heap[b]? := fun b hb => Below.heap_setCell _ _ _ _ hb
    have hlen : (spStep (spL cs) (at_, false)).length = m + 1 := by
      obtain ⟨l', z, e⟩ := snoc_of (l := spL cs) (by rw [HEM.out]; omega)
      have := HEM.out
      rw [e] at this ⊢
      unfold spStep
      rw [if_neg (by simp), (getLast_snoc l' z).1]
      dsimp only
      rw [(getLast_snoc l' z).2]
      simpa using this
    refine ⟨rfl, Q, ⟨_, (hset bx (Ne.symm hgx)).trans HBX.out, ?_, hB, HQ.out⟩, ?_, fun b hb => .inl hb⟩
    · rw [spL_snoc, hlen, HEM.out]
      exact HST.out.1
    · exact (GrF.refl _ _).set ((HQ.out g).2 (.inr rfl)) _
end Go.Proofs.YtlfphndnkgoinaaGreatDoor
