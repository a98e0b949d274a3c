/- rule.devices by its contract. -/
import Derived.Test.YtlfphndnkgoinaaGreatDoorDvH
import Derived.Test.YtlfphndnkgoinaaGreatDoorTkS
import Derived.Shelf.Slices.In.SortNone
namespace Go.Proofs.YtlfphndnkgoinaaGreatDoor
open Go.RowKit Go.Shelf

theorem sortD_any (w : World) (base n cap : Nat) (A : Option Addr) (r : List Nat) (h2d : ∀ i ∈ r, i < 2) (hn8 : n ≤ 1000) (ho : w.ownsRow base 9 1 (.slice A n cap) n (recs dvC r)) :
    Calls Tryz.prog 128 #[.slice A n cap] w fun e w' => e = .returned (.tuple #[]) ∧ w'.ownsRow base 9 1 (.slice A n cap) n (recs dvC (srtD r)) ∧ w.grownBy w' (Value.slice A n cap).ownBlock := by
  rcases own_two ho with ⟨rfl, rfl, rfl⟩ | ⟨g, rfl, _, _⟩
  · refine (Any.slices_Sort_string_none lay190 none 0 w).mono ?_
    rintro e w' ⟨h, rfl⟩
    have hr : r = [] := by
      have := ho.1
      rw [recs_length dvC_len] at this
      exact List.eq_nil_of_length_eq_zero (by omega)
    subst hr
    exact ⟨h, by simpa [srtD] using ho, grown_refl _ _⟩
  · exact sort_devs w base g cap n r h2d hn8 ho
theorem compactD_any (w : World) (base n cap : Nat) (A : Option Addr) (r : List Nat) (hs : r.Pairwise (· ≤ ·)) (h2d : ∀ i ∈ r, i < 2) (hn8 : n ≤ 1000) (ho : w.ownsRow base 9 1 (.slice A n cap) n (recs dvC r)) :
    Calls Tryz.prog 129 #[.slice A n cap] w fun e w' => e = .returned (.slice A (dvF r).length cap) ∧ w'.ownsRow base 9 1 (.slice A (dvF r).length cap) (dvF r).length (recs dvC (dvF r)) ∧ w.grownBy w' (Value.slice A n cap).ownBlock := by
  rcases own_two ho with ⟨rfl, rfl, rfl⟩ | ⟨g, rfl, _, _⟩
  · refine (Any.slices_Compact_string_empty lay194 none 0 w).mono ?_
    rintro e w' ⟨h, rfl⟩
    have hr : r = [] := by
      have := ho.1
      rw [recs_length dvC_len] at this
      exact List.eq_nil_of_length_eq_zero (by omega)
    subst hr
    have he : dvF [] = [] := by simp [dvF]
    rw [he]
    exact ⟨h, ho, grown_refl _ _⟩
  · exact compact_devs w base g cap n r hs h2d hn8 ho
/-- The devices of a metric's samples, as they come. -/
def dvR (l : List Te) (m : Nat) : List Nat := (l.filter fun x => decide (x.m = m)).map (·.d)
theorem dvR_snoc (l : List Te) (x : Te) (m : Nat) : dvR (l ++ [x]) m = if x.m = m then dvR l m ++ [x.d] else dvR l m := by
  unfold dvR
  rw [List.filter_append, List.map_append]
  split <;> rename_i h <;> simp [h]
theorem dvR_len (l : List Te) (m : Nat) : (dvR l m).length ≤ l.length := by
  unfold dvR
  rw [List.length_map]
  exact List.length_filter_le _ _
theorem dvR_two {l : List Te} (h : TesOk l) (m : Nat) : ∀ i ∈ dvR l m, i < 2 := by
  intro i hi
  obtain ⟨x, hx, rfl⟩ := List.mem_map.1 hi
  exact (h.1 x (List.mem_filter.1 hx).1).d
/-- The devices of a metric. -/
def dvs (l : List Te) (m : Nat) : List Nat := dvF (dvR l m)
theorem dvF_srt (r : List Nat) : dvF (srtD r) = dvF r := by
  unfold dvF
  refine List.filter_congr (fun i _ => ?_)
  have := (srtD_perm r).mem_iff (a := i)
  simp only [List.contains_eq_mem, this]
theorem Tryz.infoStrD : (Tryz.prog.info? 9).map (fun i => (i.zero, i.size, i.bytes)) = some (some (.string ⟨#[]⟩), 1, 16) := by kernel_rfl
def DvPost (w : World) (l : List Te) (m : Nat) (e : Ending) (w' : World) : Prop :=
  ∃ A c, e = .returned (.slice A (dvs l m).length c) ∧ w'.ownsRow w.heap.size 9 1 (.slice A (dvs l m).length c) (dvs l m).length (recs dvC (dvs l m)) ∧ Below w.heap.size w w'
set_option maxRecDepth 100000 in
set_option maxHeartbeats 4000000 in
theorem devices_any (l : List Te) (m n c : Nat) (A : Option Addr) (w : World) (hok : TesOk l) (hm : m < 2) (hn : l.length = n) (hn2 : n ≤ 1000) (hr : Row w w.heap.size A (recs teC l)) :
    Calls Tryz.prog 91 #[.slice A n c, .string (meT m)] w fun e w' => DvPost w l m e w' := by
  obtain ⟨i0, hi0, hz0, hz1, hz2⟩ := info_parts Tryz.infoStrD
  have HR := Lib.hid hr
  have HN := Lib.hid hn
  have HOK := Lib.hid hok
  clear hr hn hok
  go_enter Tryz.func91, Tryz.ntmps91
  go_wp2_with (fail)
  go_loopw [5, 10] (fun out s wr => ∃ (i : Nat) (A1 : Option Addr) (n1 c1 : Nat), i ≤ n ∧ n1 ≤ i ∧ out = .slice A1 n1 c1 ∧ s = .int .i64 (i : Int) ∧ Hid (Below w.heap.size w wr) ∧ Hid (n1 = (dvR (l.take i) m).length) ∧ Hid (wr.ownsRow w.heap.size 9 1 (.slice A1 n1 c1) n1 (recs dvC (dvR (l.take i) m)))) (fun _ s _ => n - (intOf s).toNat)
  case atStart => exact ⟨0, none, 0, 0, by omega, by omega, rfl, rfl, Lib.hid (Below.refl _ _), Lib.hid rfl, Lib.hid (World.ownsRow_nil _ _ _ _)⟩
  case round =>
    obtain ⟨i, A1, n1, c1, hin, hn1, rfl, rfl, HB, HN1, HO⟩ := hrel
    have hbs := HB.out.size
    by_cases hlt : i < n
    · have hltI : (i : Int) < n := by omega
      obtain ⟨x, hx⟩ : ∃ x, l[i]? = some x := ⟨_, List.getElem?_eq_getElem (by have := HN.out; omega)⟩
      obtain ⟨b, o, rfl, hb, hC⟩ := (HR.out.below HB.out).posR teC_len (by omega) (by have := HN.out; omega)
      have hxr := HOK.out.1 x (List.mem_of_getElem? hx)
      obtain ⟨c0, c1', c2, c3⟩ := te_cells hC i x hx
      have HTK := Lib.hid (show dvR (l.take (i + 1)) m = if x.m = m then dvR (l.take i) m ++ [x.d] else dvR (l.take i) m from by rw [te_take_snoc hx, dvR_snoc])
      have hb' : b < wr.heap.size := by omega
      have h1 := me_eq x.m m hxr.m hm
      have h2 := me_eqL x.m m hxr.m hm
      clear hx hC hxr
      go_upto_region 5 with (fail)
      obtain ⟨g, eg⟩ : ∃ g, g = wr.heap.size := ⟨_, rfl⟩
      obtain ⟨w5, e5⟩ : ∃ w5, w5 = wr.alloc (.cells #[.string (teT x.d), .string (meT x.m), .int .i64 x.at_, .int .i64 x.v] 43) := ⟨_, rfl⟩
      rw [← eg, ← e5]
      have hg5 : w5.heap[g]? = some (teBk x) := by rw [e5, eg]; exact heap_new wr _
      have hbb5 : Below wr.heap.size wr w5 := by rw [e5]; exact (Below.refl _ _).alloc (Nat.le_refl _) _
      have HB5 := Lib.hid (show Below w.heap.size w w5 from HB.out.trans (hbb5.mono hbs))
      have HO5 := Lib.hid (own_keptB HO.out fun b hb => hbb5.block b (HO.out.lt b hb).2)
      have hlt5 : g < w5.heap.size := (Array.getElem?_eq_some_iff.1 hg5).1
      have hbs5 := HB5.out.size
      obtain ⟨q0, q1, q2, q3⟩ := te_blk hg5
      simp only [Nat.zero_add] at q0 q1 q2 q3
      clear eg e5 hg5 c0 c1' c2 c3 HO hbb5
      have hwk : IntKind.i64.wrap ((i : Int) + 1) = ((i + 1 : Nat) : Int) := by rw [IntKind.wrap_i64]; omega
      by_cases hmm : x.m = m
      case neg =>
        rw [decide_eq_false hmm] at h1 h2
        have HTN := Lib.hid (show dvR (l.take (i + 1)) m = dvR (l.take i) m from by rw [HTK.out, if_neg hmm])
        clear hmm
        go_wp2_with (fail)
        go_roundw
        case rel => exact ⟨i + 1, A1, n1, c1, by omega, by omega, rfl, by simp, HB5, Lib.hid (by rw [HTN.out]; exact HN1.out), Lib.hid (by rw [HTN.out]; exact HO5.out)⟩
        case measure => simp [intOf]; omega
      rw [decide_eq_true hmm] at h1 h2
      have HTN := Lib.hid (show dvR (l.take (i + 1)) m = dvR (l.take i) m ++ [x.d] from by rw [HTK.out, if_pos hmm])
      clear hmm
      go_wp2_with (at_builtin; go_loud (refine wpList_append_own2 _ rfl _ _ 58 rfl w.heap.size 9 i0 _ 1 16 Tryz.underlying58 hi0 hz0 hz1 hz2 rfl (by decide) _ n1 (recs dvC (dvR (l.take i) m)) rfl (HO5.out.alloc _) ⟨_, 0, none⟩ 1 1 (dvC x.d) rfl rfl ?c1 ?c2 ?c3 ?c4 ?c5 ?_))
      case c1 => exact cells_add (cells_atS (by rfl) (by first | rfl | simp))
      case c2 => exact dvC_one _
      case c3 => unfold maxLen; omega
      case c4 => omega
      case c5 => simp; omega
      intro v1 w6 ho hg hmv
      obtain ⟨B1, s1, rfl⟩ := own_slice ho
      replace hg := grown_of_alloc hg
      have HO6 := Lib.hid ho
      have HB6 := Lib.hid (show Below w.heap.size w w6 from ⟨hg.os.trans HB5.out.os, hg.tape.trans HB5.out.tape, hg.output.trans HB5.out.output, Nat.le_trans HB5.out.size hg.size, fun k hk => (hg.block k (by omega) (fun e => by have := (HO5.out.lt k e.symm).1; omega)).trans (HB5.out.block k hk)⟩)
      clear ho hg hmv
      go_wp2_with (fail)
      go_roundw
      case rel => exact ⟨i + 1, B1, n1 + 1, s1, by omega, by omega, rfl, by simp, HB6, Lib.hid (by rw [HTN.out, List.length_append, ← HN1.out]; rfl), Lib.hid (by rw [HTN.out, recs_snoc]; exact HO6.out)⟩
      case measure => simp [intOf]; omega
    · have hltI : ¬ (i : Int) < n := by omega
      have HTN := Lib.hid (show l.take i = l from List.take_of_length_le (by have := HN.out; omega))
      have HE := Lib.hid (show n1 = (dvR l m).length ∧ wr.ownsRow w.heap.size 9 1 (.slice A1 n1 c1) n1 (recs dvC (dvR l m)) from by
        have h1 := HN1.out
        have h2 := HO.out
        rw [HTN.out] at h1 h2
        exact ⟨h1, h2⟩)
      have hn18 : n1 ≤ 1000 := by omega
      have HSO := Lib.hid (sortD_any wr w.heap.size n1 c1 A1 (dvR l m) (dvR_two HOK.out m) hn18 HE.out.2)
      go_wp2_with (fail)
      refine HSO.out.mono ?_
      rintro e w1 ⟨rfl, ho1, hg1⟩
      have hlo1 : ∀ q, (Value.slice A1 n1 c1).ownBlock = some q → w.heap.size ≤ q := fun q hq => (HE.out.2.lt q hq).1
      have HB1 := Lib.hid (HB.out.grown hg1 hbs hlo1)
      have HO1 := Lib.hid ho1
      have hs1 := hg1.size
      clear ho1 hg1 hlo1 HSO
      have HCO := Lib.hid (compactD_any w1 w.heap.size n1 c1 A1 (srtD (dvR l m)) (srtD_sorted _) (fun i hi => dvR_two HOK.out m i ((srtD_perm _).mem_iff.1 hi)) hn18 HO1.out)
      go_wp2_with (fail)
      refine HCO.out.mono ?_
      rintro e w2 ⟨rfl, ho2, hg2⟩
      have hlo2 : ∀ q, (Value.slice A1 n1 c1).ownBlock = some q → w.heap.size ≤ q := fun q hq => (HO1.out.lt q hq).1
      have HB2 := Lib.hid (HB1.out.grown hg2 (by omega) hlo2)
      rw [dvF_srt] at ho2 ⊢
      have HF := Lib.hid (show DvPost w l m (.returned (.slice A1 (dvF (dvR l m)).length c1)) w2 from ⟨A1, c1, rfl, ho2, HB2.out⟩)
      clear ho2 hg2 hlo2 HCO
      go_wp2_with (fail)
      go_ret
      exact HF.out
end Go.Proofs.YtlfphndnkgoinaaGreatDoor
