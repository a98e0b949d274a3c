/- rule.seen by its contract. -/
import Derived.Test.YtlfphndnkgoinaaGreatDoorTkH
import Derived.Test.YtlfphndnkgoinaaGreatDoorTeC
namespace Go.Proofs.YtlfphndnkgoinaaGreatDoor
open Go.RowKit

theorem me_eqL (i j : Nat) (hi : i < 2) (hj : j < 2) : ((meT i).toList == (meT j).toList) = decide (i = j) := by
  have h1 : i = 0 ∨ i = 1 := by omega
  have h2 : j = 0 ∨ j = 1 := by omega
  rcases h1 with rfl | rfl <;> rcases h2 with rfl | rfl <;> decide +kernel
def SeenPost (w : World) (l : List Te) (m d : Nat) (e : Ending) (w' : World) : Prop :=
  ∃ A n c, e = .returned (.slice A n c) ∧ n = (seenL l m d).length ∧ w'.ownsRow w.heap.size 142 2 (.slice A n c) n (recs sqC (seenL l m d)) ∧ Below w.heap.size w w'
set_option maxRecDepth 100000 in
set_option maxHeartbeats 4000000 in
theorem seen_any (l : List Te) (m d n c : Nat) (A : Option Addr) (w : World) (hok : TesOk l) (hm : m < 2) (hd : d < 2) (hn : l.length = n) (hn2 : n ≤ 1000) (hr : Row w w.heap.size A (recs teC l)) :
    Calls Tryz.prog 40 #[.slice A n c, .string (meT m), .string (teT d)] w fun e w' => SeenPost w l m d e w' := by
  obtain ⟨i0, hi0, hz0, hz1, hz2⟩ := info_parts Tryz.infoSq
  have HR := Lib.hid hr
  have HN := Lib.hid hn
  have HOK := Lib.hid hok
  clear hr hn hok
  go_enter Tryz.func40, Tryz.ntmps40
  go_wp2_with (fail)
  go_loopw [7, 12] (fun out s wr => ∃ (i : Nat) (A1 : Option Addr) (n1 c1 : Nat), i ≤ n ∧ n1 ≤ i ∧ out = .slice A1 n1 c1 ∧ s = .int .i64 (i : Int) ∧ Hid (Below w.heap.size w wr) ∧ Hid (n1 = (seenL (l.take i) m d).length) ∧ Hid (wr.ownsRow w.heap.size 142 2 (.slice A1 n1 c1) n1 (recs sqC (seenL (l.take i) m d)))) (fun _ s _ => n - (intOf s).toNat)
  case atStart => exact ⟨0, none, 0, 0, by omega, by omega, rfl, rfl, Lib.hid (Below.refl _ _), Lib.hid rfl, Lib.hid (World.ownsRow_nil _ _ _ _)⟩
  case round =>
    obtain ⟨i, A1, n1, c1, hin, hn1, rfl, rfl, HB, HN1, HO⟩ := hrel
    have hbs := HB.out.size
    by_cases hlt : i < n
    · have hltI : (i : Int) < n := by omega
      obtain ⟨x, hx⟩ : ∃ x, l[i]? = some x := ⟨_, List.getElem?_eq_getElem (by have := HN.out; omega)⟩
      obtain ⟨b, o, rfl, hb, hC⟩ := (HR.out.below HB.out).posR teC_len (by omega) (by have := HN.out; omega)
      have hxr := HOK.out.1 x (List.mem_of_getElem? hx)
      obtain ⟨c0, c1', c2, c3⟩ := te_cells hC i x hx
      have HTK := Lib.hid (show seenL (l.take (i + 1)) m d = if x.m = m ∧ x.d = d then seenL (l.take i) m d ++ [(x.at_, x.v)] else seenL (l.take i) m d from by rw [te_take_snoc hx, seenL_snoc])
      have hb' : b < wr.heap.size := by omega
      have h1 := me_eq x.m m hxr.m hm
      have h2 := me_eqL x.m m hxr.m hm
      have h3 := (te_eq x.d d hxr.d hd).1
      have h4 := (te_eq x.d d hxr.d hd).2
      clear hx hC hxr
      go_upto_region 5 with (fail)
      obtain ⟨g, eg⟩ : ∃ g, g = wr.heap.size := ⟨_, rfl⟩
      obtain ⟨w5, e5⟩ : ∃ w5, w5 = wr.alloc (.cells #[.string (teT x.d), .string (meT x.m), .int .i64 x.at_, .int .i64 x.v] 43) := ⟨_, rfl⟩
      rw [← eg, ← e5]
      have hg5 : w5.heap[g]? = some (teBk x) := by rw [e5, eg]; exact heap_new wr _
      have hbb5 : Below wr.heap.size wr w5 := by rw [e5]; exact (Below.refl _ _).alloc (Nat.le_refl _) _
      have HB5 := Lib.hid (show Below w.heap.size w w5 from HB.out.trans (hbb5.mono hbs))
      have HO5 := Lib.hid (own_keptB HO.out fun b hb => hbb5.block b (HO.out.lt b hb).2)
      have hlt5 : g < w5.heap.size := (Array.getElem?_eq_some_iff.1 hg5).1
      have hbs5 := HB5.out.size
      obtain ⟨q0, q1, q2, q3⟩ := te_blk hg5
      simp only [Nat.zero_add] at q0 q1 q2 q3
      clear eg e5 hg5 c0 c1' c2 c3 HO hbb5
      have hwk : IntKind.i64.wrap ((i : Int) + 1) = ((i + 1 : Nat) : Int) := by rw [IntKind.wrap_i64]; omega
      by_cases hmm : x.m = m
      case neg =>
        rw [decide_eq_false hmm] at h1 h2
        have HTN := Lib.hid (show seenL (l.take (i + 1)) m d = seenL (l.take i) m d from by rw [HTK.out, if_neg (fun h => hmm h.1)])
        clear hmm
        go_wp2_with (fail)
        go_roundw
        case rel => exact ⟨i + 1, A1, n1, c1, by omega, by omega, rfl, by simp, HB5, Lib.hid (by rw [HTN.out]; exact HN1.out), Lib.hid (by rw [HTN.out]; exact HO5.out)⟩
        case measure => simp [intOf]; omega
      rw [decide_eq_true hmm] at h1 h2
      by_cases hdd : x.d = d
      case neg =>
        rw [decide_eq_false hdd] at h3 h4
        have HTN := Lib.hid (show seenL (l.take (i + 1)) m d = seenL (l.take i) m d from by rw [HTK.out, if_neg (fun h => hdd h.2)])
        clear hmm hdd
        go_wp2_with (fail)
        go_roundw
        case rel => exact ⟨i + 1, A1, n1, c1, by omega, by omega, rfl, by simp, HB5, Lib.hid (by rw [HTN.out]; exact HN1.out), Lib.hid (by rw [HTN.out]; exact HO5.out)⟩
        case measure => simp [intOf]; omega
      rw [decide_eq_true hdd] at h3 h4
      have HTN := Lib.hid (show seenL (l.take (i + 1)) m d = seenL (l.take i) m d ++ [(x.at_, x.v)] from by rw [HTK.out, if_pos ⟨hmm, hdd⟩])
      clear hmm hdd
      go_wp2_with (at_builtin; go_loud (refine wpList_append_own2 _ rfl _ _ 90 rfl w.heap.size 142 i0 _ 2 16 Tryz.underlying90 hi0 hz0 hz1 hz2 rfl (by decide) _ n1 (recs sqC (seenL (l.take i) m d)) rfl (HO5.out.alloc _) ⟨_, 0, none⟩ 1 1 (sqC (x.at_, x.v)) rfl rfl ?c1 ?c2 ?c3 ?c4 ?c5 ?_))
      case c1 => exact cells_add (cells_atS (by rfl) (by first | rfl | simp))
      case c2 => exact sqC_one _
      case c3 => unfold maxLen; omega
      case c4 => omega
      case c5 => simp; omega
      intro v1 w6 ho hg hmv
      obtain ⟨B1, s1, rfl⟩ := own_slice ho
      replace hg := grown_of_alloc hg
      have HO6 := Lib.hid ho
      have HB6 := Lib.hid (show Below w.heap.size w w6 from ⟨hg.os.trans HB5.out.os, hg.tape.trans HB5.out.tape, hg.output.trans HB5.out.output, Nat.le_trans HB5.out.size hg.size, fun k hk => (hg.block k (by omega) (fun e => by have := (HO5.out.lt k e.symm).1; omega)).trans (HB5.out.block k hk)⟩)
      clear ho hg hmv
      go_wp2_with (fail)
      go_roundw
      case rel => exact ⟨i + 1, B1, n1 + 1, s1, by omega, by omega, rfl, by simp, HB6, Lib.hid (by rw [HTN.out, List.length_append, ← HN1.out]; rfl), Lib.hid (by rw [HTN.out, recs_snoc]; exact HO6.out)⟩
      case measure => simp [intOf]; omega
    · have hltI : ¬ (i : Int) < n := by omega
      have HTN := Lib.hid (show l.take i = l from List.take_of_length_le (by have := HN.out; omega))
      have HE := Lib.hid (show n1 = (seenL l m d).length ∧ wr.ownsRow w.heap.size 142 2 (.slice A1 n1 c1) n1 (recs sqC (seenL l m d)) from by
        have h1 := HN1.out
        have h2 := HO.out
        rw [HTN.out] at h1 h2
        exact ⟨h1, h2⟩)
      go_wp2_with (fail)
      go_ret
      exact ⟨A1, n1, c1, rfl, HE.out.1, HE.out.2, HB.out⟩
end Go.Proofs.YtlfphndnkgoinaaGreatDoor
