/- Offices in memory: their small functions by their contracts: timeFault, ended, turn, grown, keep. -/
import Derived.Test.YtnnncddjcdjhoaaGreatDoorOfI
import Derived.Test.YtnnncddjcdjhoaaGreatDoorMgA
import Derived.BigRegion
namespace Go.Proofs.YtnnncddjcdjhoaaGreatDoor
open Go.RowKit

def onB (n : On) : Obj := .cells #[.string (idL n.l.id), .string (slL n.l.sl), .string (boL n.l.bo), .int .i64 n.l.pr, .int .i64 n.l.at_, .int .i64 n.l.un, .int .i64 n.s, .int .i64 n.t, .int .i64 n.c] 40 (0, 0)
def ofB (p : Po) (m : Nat) (tm : Int) : Obj := .cells #[.int .i64 p.room, .int .i64 p.tmo, .int .i64 p.tri, .int .i64 p.kept, .map (some m), .int .i64 tm] 82 (0, 0)
/-- An office in memory: its block, its map. -/
structure OfI (w : World) (o m ck : Nat) (M : Mp) (p : Po) (tm : Int) : Prop where
  blk : w.heap[o]? = some (ofB p m tm)
  map : MpI w m M ck
  ok : MpOk M ck
theorem OfI.keep {w w' : World} {o m ck : Nat} {M : Mp} {p : Po} {tm : Int} (h : OfI w o m ck M p tm) (h1 : w'.heap[o]? = w.heap[o]?) (h2 : w'.heap[m]? = w.heap[m]?) : OfI w' o m ck M p tm := ⟨h1.trans h.blk, h2.trans h.map, h.ok⟩
theorem OfI.lt {w : World} {o m ck : Nat} {M : Mp} {p : Po} {tm : Int} (h : OfI w o m ck M p tm) : o < w.heap.size := (Array.getElem?_eq_some_iff.1 h.blk).1
theorem OfI.ne {w : World} {o m ck : Nat} {M : Mp} {p : Po} {tm : Int} (h : OfI w o m ck M p tm) : o ≠ m := by
  intro e
  have h1 := h.blk
  have h2 := h.map
  unfold MpI at h2
  rw [e, h2] at h1
  cases h1
theorem OfI.below {w w' : World} {o m ck : Nat} {M : Mp} {p : Po} {tm : Int} (h : OfI w o m ck M p tm) (hb : Below w.heap.size w w') : OfI w' o m ck M p tm :=
  h.keep (hb.block o h.lt) (hb.block m h.map.lt)
set_option maxRecDepth 100000 in
theorem timeFault_no (w : World) (o m ck : Nat) (M : Mp) (p : Po) (tm a : Int) (h : OfI w o m ck M p tm) (h1 : tm ≤ a) (h0 : 0 ≤ a) (h2 : a < 345686400000) :
    Calls Tryz.prog 45 #[.pointer (some ⟨o, 0, none⟩), .int .i64 a] w fun e w' => e = .returned (.int .i64 0) ∧ w = w' := by
  have c5 := cell_of_blk (j := 5) h.blk rfl
  have hlt : ¬ a < tm := by omega
  clear h
  go_enter Tryz.func45, Tryz.ntmps45
  go_wp2_with (go_at_call 51; refine (moment_yes _ _ h0 h2).mono ?_; rintro e w' ⟨rfl, rfl⟩)
  go_ret
  exact ⟨rfl, rfl⟩
theorem ended_any (s : Int) (w : World) : Calls Tryz.prog 77 #[.int .i64 s] w fun e w' => e = .returned (.bool (enB s)) ∧ w = w' := by
  unfold enB
  by_cases h : 3 ≤ s
  · rw [decide_eq_true h]
    go_enter Tryz.func77, Tryz.ntmps77
    go_wp2_with (fail)
    go_ret
    exact ⟨rfl, rfl⟩
  · rw [decide_eq_false h]
    go_enter Tryz.func77, Tryz.ntmps77
    go_wp2_with (fail)
    go_ret
    exact ⟨rfl, rfl⟩
set_option maxRecDepth 100000 in
theorem turn_any (w : World) (o m ck : Nat) (M : Mp) (p : Po) (tm : Int) (n : On) (h : OfI w o m ck M p tm) (hp : PoOk p) (hc : 0 ≤ n.c ∧ n.c ≤ 100000000) :
    Calls Tryz.prog 112 #[.pointer (some ⟨o, 0, none⟩), onV n] w fun e w' => e = .returned (.int .i64 (tuN p n)) ∧ Below w.heap.size w w' := by
  have ht := hp.tmo
  have hb1 : Below w.heap.size w (w.alloc (onB n)) := (Below.refl _ _).alloc (Nat.le_refl _) _
  have hg1 := heap_new w (onB n)
  have HO := Lib.hid (h.below hb1)
  have HB := Lib.hid hb1
  have hlo : o < (w.alloc (onB n)).heap.size := HO.out.lt
  unfold onB at hg1 HO HB hlo
  obtain ⟨g, eg⟩ : ∃ g, g = w.heap.size := ⟨_, rfl⟩
  have hn2 : IntKind.i64.wrap (n.c + p.tmo) = n.c + p.tmo := by rw [IntKind.wrap_i64]; omega
  rw [← eg] at hg1
  have c5 := cell_of_blk (j := 5) hg1 rfl
  have c6 := cell_of_blk (j := 6) hg1 rfl
  have c8 := cell_of_blk (j := 8) hg1 rfl
  have o1 := cell_of_blk (j := 1) HO.out.blk rfl
  clear h hb1 hg1 ht hc
  unfold onV
  go_enter Tryz.func112, Tryz.ntmps112
  go_upto_region 1 with (fail)
  rw [← eg]
  clear eg
  generalize w.alloc (.cells #[.string (idL n.l.id), .string (slL n.l.sl), .string (boL n.l.bo), .int .i64 n.l.pr, .int .i64 n.l.at_, .int .i64 n.l.un, .int .i64 n.s, .int .i64 n.t, .int .i64 n.c] 40) = w1 at *
  by_cases hs : n.s = 2
  · have hs2 : (n.s == 2) = true := by simpa using hs
    by_cases hm : n.l.un ≤ n.c + p.tmo
    · have HT := Lib.hid (show tuN p n = n.l.un from by unfold tuN; rw [if_pos hs]; omega)
      have hm2 : ¬ n.c + p.tmo < n.l.un := by omega
      clear hs
      go_wp2_with (fail)
      go_upto_region 2 with (fail)
      go_region
      all_goals
        go_wp2_with (fail)
        go_ret
        first
          | exact ⟨by rw [HT.out]; rfl, below_drewN HB.out 1⟩
          | (exfalso; omega)
    · have HT := Lib.hid (show tuN p n = n.c + p.tmo from by unfold tuN; rw [if_pos hs]; omega)
      have hm2 : n.c + p.tmo < n.l.un := by omega
      clear hs
      go_wp2_with (fail)
      go_upto_region 2 with (fail)
      go_region
      all_goals
        go_wp2_with (fail)
        go_ret
        first
          | exact ⟨by rw [HT.out]; rfl, below_drewN HB.out 1⟩
          | (exfalso; omega)
  · have hs2 : (n.s == 2) = false := by simpa using hs
    have HT := Lib.hid (show tuN p n = n.l.un from by unfold tuN; rw [if_neg hs])
    clear hs
    go_wp2_with (fail)
    go_ret
    exact ⟨by rw [HT.out]; rfl, HB.out⟩
theorem keep_any (w : World) (o m m' ck ck' : Nat) (M M' : Mp) (p : Po) (tm a : Int) (h : OfI w o m ck M p tm) (hm : MpI w m' M' ck') (hM : MpOk M' ck') :
    Calls Tryz.prog 48 #[.pointer (some ⟨o, 0, none⟩), .map (some m'), .int .i64 a] w fun e w' => e = .returned (.tuple #[]) ∧ OfI w' o m' ck' M' p a ∧ Oth w w' o := by
  have hb := h.blk
  unfold ofB at hb
  have hne : m' ≠ o := by
    intro e
    unfold MpI at hm
    rw [e, hb] at hm
    cases hm
  have hlt := h.lt
  have c4 := cell_of_blk (j := 4) hb rfl
  have c5 := cell_of_blk (j := 5) hb rfl
  have f4 : w.frozen? ⟨o, 4, none⟩ = false := by simp [World.frozen?, hb]
  have f5 : w.frozen? ⟨o, 5, none⟩ = false := by simp [World.frozen?, hb]
  have s1 := setblkO (j := 4) (.map (some m')) hb
  have s2 := setblkO (j := 5) (.int .i64 a) s1
  have HX := Lib.hid (show OfI ((w.setCell ⟨o, 4, none⟩ (.map (some m'))).setCell ⟨o, 5, none⟩ (.int .i64 a)) o m' ck' M' p a ∧ Oth w ((w.setCell ⟨o, 4, none⟩ (.map (some m'))).setCell ⟨o, 5, none⟩ (.int .i64 a)) o from
    ⟨⟨s2, (by unfold MpI at hm ⊢; rw [setcO _ _ _ _ _ hne, setcO _ _ _ _ _ hne]; exact hm), hM⟩, ⟨by simp [World.setCell], fun b hb' => by rw [setcO _ _ _ _ _ hb', setcO _ _ _ _ _ hb'], rfl, rfl, rfl⟩⟩)
  clear h hm hM hb s1 s2
  go_enter Tryz.func48, Tryz.ntmps48
  go_wp2_with (fail)
  go_end0
  exact ⟨rfl, HX.out⟩
end Go.Proofs.YtnnncddjcdjhoaaGreatDoor
