/- Notes of the stream: what they are. Printed by gen_LrN.py. -/
import Derived.Test.YtnnncddjcdjhoaaGreatDoorLrE
namespace Go.Proofs.YtnnncddjcdjhoaaGreatDoor
open Go.RowKit Go.Shelf

theorem Tryz.infoNr : (Tryz.prog.info? 40).map (fun i => (i.zero, i.size, i.bytes)) = some (some (.agg #[.string ⟨#[]⟩, .string ⟨#[]⟩, .string ⟨#[]⟩, .int .i64 0, .int .i64 0, .int .i64 0, .int .i64 0, .int .i64 0, .int .i64 0]), 9, 96) := by kernel_rfl
def nNm : List ByteArray := [⟨#[108, 97]⟩, ⟨#[108, 98]⟩, ⟨#[108, 99]⟩, ⟨#[108, 100]⟩]
def nSl : List ByteArray := [⟨#[]⟩, ⟨#[115, 97]⟩]
def nBo : List ByteArray := [⟨#[100, 111]⟩, ⟨#[100, 111]⟩, ⟨#[120, 32, 34, 121, 34]⟩]
def nPr : List Int := [0, 0, 0, 5]
def nTr : List Int := [0, 1, 1, 2]
def nrF (xs : LiA) (k : Nat) (id : ByteArray) : Nr :=
  ⟨⟨id, nSl.getD (nextN xs k 2) ⟨#[]⟩, nBo.getD (nextN xs (k + 1) 3) ⟨#[]⟩, nPr.getD (nextN xs (k + 2) 4) 0, 0, 100⟩, 1 + nextV xs (k + 3) 7, nTr.getD (nextN xs (k + 4) 4) 0, cAt.getD (nextN xs (k + 5) 4) 0⟩
def noF (xs : LiA) (k : Nat) (id : ByteArray) : Nr × Nat :=
  if nextV xs (k + 6) 40 = 0 then (⟨{ (nrF xs k id).l with id := [id, ⟨#[]⟩, ⟨#[108, 97]⟩].getD (nextN xs (k + 7) 3) ⟨#[]⟩ }, odR 1 7 xs (k + 8), odR 0 20 xs (k + 10), odR 0 50 xs (k + 12)⟩, k + 14)
  else (nrF xs k id, k + 7)
theorem noF_pos (xs : LiA) (k : Nat) (id : ByteArray) : (noF xs k id).2 ≤ k + 14 := by
  unfold noF
  split <;> simp
theorem noF_k (xs : LiA) (k : Nat) (id : ByteArray) (h : id.size ≤ 2000) : NrK (noF xs k id).1 := by
  have h1 : (nSl.getD (nextN xs k 2) ⟨#[]⟩).size ≤ 2000 := getD_all (fun b : ByteArray => b.size ≤ 2000) _ nSl (by decide) _ (nextN_lt _ _ _ (by omega))
  have h2 : (nBo.getD (nextN xs (k + 1) 3) ⟨#[]⟩).size ≤ 2000 := getD_all (fun b : ByteArray => b.size ≤ 2000) _ nBo (by decide) _ (nextN_lt _ _ _ (by omega))
  unfold noF
  split
  · refine ⟨getD_all (fun b : ByteArray => b.size ≤ 2000) _ [id, ⟨#[]⟩, ⟨#[108, 97]⟩] ?_ _ (nextN_lt _ _ _ (by omega)), h1, h2⟩
    intro v hv
    simp only [List.mem_cons, List.not_mem_nil, or_false] at hv
    rcases hv with rfl | rfl | rfl
    · exact h
    · decide
    · decide
  · exact ⟨h, h1, h2⟩
def nsF (xs : LiA) (k : Nat) : Nat → List Nr × Nat
  | 0 => ([], k)
  | j + 1 => if nextV xs (nsF xs k j).2 3 = 0 then ((nsF xs k j).1, (nsF xs k j).2 + 1)
    else ((nsF xs k j).1 ++ [(noF xs ((nsF xs k j).2 + 1) (nNm.getD j ⟨#[]⟩)).1], (noF xs ((nsF xs k j).2 + 1) (nNm.getD j ⟨#[]⟩)).2)
theorem nsF_no {xs : LiA} {k j k' : Nat} {L : List Nr} (h : nsF xs k j = (L, k')) (hb : true = decide (nextV xs k' 3 = 0)) : nsF xs k (j + 1) = (L, k' + 1) := by
  rw [nsF, h, if_pos (by simpa using hb.symm)]
theorem nsF_yes {xs : LiA} {k j k' k2 : Nat} {L : List Nr} {n : Nr} {id : ByteArray} (h : nsF xs k j = (L, k')) (hb : false = decide (nextV xs k' 3 = 0)) (hi : id = nNm.getD j ⟨#[]⟩) (hn : noF xs (k' + 1) id = (n, k2)) : nsF xs k (j + 1) = (L ++ [n], k2) := by
  rw [nsF, h, if_neg (by simpa using hb.symm), ← hi, hn]
def nrBk (n : Nr) : Obj := .cells #[.string n.l.id, .string n.l.sl, .string n.l.bo, .int .i64 n.l.pr, .int .i64 n.l.at_, .int .i64 n.l.un, .int .i64 n.s, .int .i64 n.t, .int .i64 n.c] 40 (0, 0)
/-- A stream and a note in the making. -/
structure Nb (w : World) (p k h : Nat) (xs : LiA) (n : Nr) (V : World) : Prop where
  st : Strm V p xs k
  gr : w.grownBy V (some p)
  b1 : V.heap[h]? = some (nrBk n)
theorem Nb.go {w V V2 : World} {p k k' h : Nat} {xs : LiA} {n : Nr} (H : Nb w p k h xs n V) (hhp : h ≠ p) (hs : Strm V2 p xs k') (hg : V.grownBy V2 (some p)) : Nb w p k' h xs n V2 := by
  have hl2 := (Array.getElem?_eq_some_iff.1 H.b1).1
  exact ⟨hs, grown_trans H.gr hg, (hg.block h hl2 (by intro e; injection e with e; exact hhp e)).trans H.b1⟩
theorem Nb.put {w V : World} {p k h j : Nat} {xs : LiA} {n n' : Nr} {u : Value} (H : Nb w p k h xs n V) (hph : p < h) (hwh : w.heap.size ≤ h) (hc : (nrC n).set j u = nrC n') : Nb w p k h xs n' (V.setCell ⟨h, j, none⟩ u) := by
  have ho : ∀ x, x ≠ h → (V.setCell ⟨h, j, none⟩ u).heap[x]? = V.heap[x]? := fun x hx => Below.heap_setCell V ⟨h, j, none⟩ u x hx
  have hz : (V.setCell ⟨h, j, none⟩ u).heap.size = V.heap.size := by simp [World.setCell]
  refine ⟨H.st.keep (fun b hb => ho b (by omega)), ⟨H.gr.os, H.gr.tape, H.gr.output, by rw [hz]; exact H.gr.size, fun b hb hne => (ho b (by omega)).trans (H.gr.block b hb hne)⟩, ?_⟩
  refine (heap_setCell_same V h j _ 40 u H.b1).trans ?_
  have e : (#[.string n.l.id, .string n.l.sl, .string n.l.bo, .int .i64 n.l.pr, .int .i64 n.l.at_, .int .i64 n.l.un, .int .i64 n.s, .int .i64 n.t, .int .i64 n.c] : Array Value) = (nrC n).toArray := rfl
  have e2 : (#[.string n'.l.id, .string n'.l.sl, .string n'.l.bo, .int .i64 n'.l.pr, .int .i64 n'.l.at_, .int .i64 n'.l.un, .int .i64 n'.s, .int .i64 n'.t, .int .i64 n'.c] : Array Value) = (nrC n').toArray := rfl
  unfold nrBk
  rw [e, e2, List.setIfInBounds_toArray, hc]
theorem cells_blkN {V : World} {b : Nat} {cs : Array Value} {t : TypeId} {f : Nat × Nat} {l : List Value} (h : V.heap[b]? = some (.cells cs t f)) (hl : cs.toList = l) : Cells V b 0 l := by
  subst hl
  intro j u hu
  rw [Nat.zero_add]
  exact cell_of_blk h (by simpa using hu)
def NsPost (w : World) (p k : Nat) (xs : LiA) (e : Ending) (w' : World) : Prop :=
  ∃ (L : List Nr) (A : Option Addr) (c k' m : Nat), nsF xs k 4 = (L, k') ∧ e = .returned (.slice A m c) ∧ (∀ x ∈ L, NrK x) ∧ L.length = m ∧ m ≤ 4 ∧ w'.ownsRow w.heap.size 40 9 (.slice A m c) m (recs nrC L) ∧ Strm w' p xs k' ∧ k' ≤ k + 60 ∧ w.grownBy w' (some p)
set_option maxRecDepth 100000 in
set_option maxHeartbeats 4000000 in
theorem notesS_any (w : World) (p k : Nat) (xs : LiA) (hk : k < 100000) (hs : Strm w p xs k) :
    Calls Tryz.prog 5 #[.pointer (some ⟨p, 0, none⟩)] w fun e w' => NsPost w p k xs e w' := by
  obtain ⟨i0, hi0, hz0, hz1, hz2⟩ := info_parts Tryz.infoNr
  have hplt := hs.lt
  have HS := Lib.hid hs
  clear hs
  go_enter Tryz.func5, Tryz.ntmps5
  go_upto_region 3 with (fail)
  obtain ⟨gn, egn⟩ : ∃ g, g = w.heap.size := ⟨_, rfl⟩
  obtain ⟨w1, e1⟩ : ∃ V, V = w.alloc (.cells #[.string ⟨#[108, 97]⟩, .string ⟨#[108, 98]⟩, .string ⟨#[108, 99]⟩, .string ⟨#[108, 100]⟩] 9) := ⟨_, rfl⟩
  have hn1 : w1.heap[gn]? = some (.cells #[.string ⟨#[108, 97]⟩, .string ⟨#[108, 98]⟩, .string ⟨#[108, 99]⟩, .string ⟨#[108, 100]⟩] 9 (0, 0)) := by rw [e1, egn]; exact heap_new w _
  have HG01 := Lib.hid (show w.grownBy w1 (some p) from by rw [e1]; exact World.grownBy_alloc _ _ (some p))
  have HS1 := Lib.hid (show Strm w1 p xs k from by rw [e1]; exact HS.out.alloc _)
  have hgn1 : gn < w1.heap.size := by rw [e1, egn]; simp
  have hpg : p < gn := by omega
  have HGN := Lib.hid (fun (V : World) (hV : w1.grownBy V (some p)) => show Cells V gn 0 (nNm.map Value.string) from
    cells_blkN ((hV.block gn hgn1 (by intro e; injection e with e; omega)).trans hn1) rfl)
  rw [← egn, ← e1]
  have hgw : w.heap.size ≤ gn := by omega
  clear egn e1 hn1
  go_wp2_with (fail)
  go_loopw [3, 9] (fun v s wr => ∃ (j k' m : Nat) (L : List Nr), j ≤ 4 ∧ s = .int .i64 (j : Int) ∧ (∀ x ∈ L, NrK x) ∧ L.length = m ∧ m ≤ j ∧ wr.ownsRow w1.heap.size 40 9 v m (recs nrC L) ∧ Strm wr p xs k' ∧ k' ≤ k + 15 * j ∧ w1.grownBy wr (some p) ∧ Hid (nsF xs k j = (L, k'))) (fun _ s _ => 4 - (intOf s).toNat)
  case atStart => exact ⟨0, k, 0, [], by omega, rfl, by simp, rfl, by omega, World.ownsRow_nil _ _ _ _, HS1.out, by omega, grown_refl _ _, Lib.hid rfl⟩
  case round =>
    obtain ⟨j, k', m, L, hj, rfl, hok, hln, hmj, hown, hst, hk', hgr, HSO⟩ := hrel
    have HOK := Lib.hid hok
    have HLN := Lib.hid hln
    have HO := Lib.hid hown
    have HST := Lib.hid hst
    have HGR := Lib.hid hgr
    have hrs := hgr.size
    have hplt2 := hst.lt
    clear hok hln hown hst
    by_cases hlt : j < 4
    · have hltI : (j : Int) < 4 := by omega
      have hgnr : gn < wr.heap.size := by omega
      have nj : wr.cell? ⟨gn, j, none⟩ = some (.string (nNm.getD j ⟨#[]⟩)) := by
        have := HGN.out wr hgr j (.string (nNm.getD j ⟨#[]⟩)) (by rw [List.getElem?_map, List.getElem?_eq_getElem (show j < nNm.length from hlt), List.getD_eq_getElem?_getD, List.getElem?_eq_getElem (show j < nNm.length from hlt)]; rfl)
        simpa using this
      have hidk : (nNm.getD j ⟨#[]⟩).size ≤ 2000 := getD_all (fun b : ByteArray => b.size ≤ 2000) _ nNm (by decide) _ hlt
      obtain ⟨id, eid⟩ : ∃ id, id = nNm.getD j ⟨#[]⟩ := ⟨_, rfl⟩
      rw [← eid] at nj hidk
      have HID := Lib.hid eid
      clear eid hgr
      go_wp2_with (fail)
      refine (flipD_any wr p k' xs 3 (by omega) (by omega) (by omega) HST.out).mono ?_
      obtain ⟨b, eb⟩ : ∃ b : Bool, b = decide (nextV xs k' 3 = 0) := ⟨_, rfl⟩
      rw [← eb]
      have HBB := Lib.hid eb
      clear eb
      rintro e w3 ⟨rfl, hst3, hg3⟩
      have hs3 := hg3.size
      have HO3 := Lib.hid (own_kept HO.out hg3 (by omega))
      have HST3 := Lib.hid hst3
      have HG3 := Lib.hid (grown_trans HGR.out hg3)
      have HR3 := Lib.hid hg3
      clear hst3 hg3 nj
      cases b with
      | true =>
        have HN2 := Lib.hid (nsF_no HSO.out HBB.out)
        go_wp2_with (fail)
        go_roundw
        case rel => exact ⟨j + 1, k' + 1, m, L, by omega, by go_num, HOK.out, HLN.out, by omega, HO3.out, HST3.out, by omega, HG3.out, HN2⟩
        case measure => simp [intOf]; omega
      | false =>
        go_wp2_with (fail)
        refine (some_any _ p (k' + 1) w3.heap.size 2 2 xs nSl (by omega) rfl (by omega) (by omega) (HST3.out.alloc _) (by have := HST3.out.lt; omega) (Cells.new _ _ _ _ _ rfl)).mono ?_
        obtain ⟨sl, ev⟩ : ∃ v, v = nSl.getD (nextN xs (k' + 1) 2) ⟨#[]⟩ := ⟨_, rfl⟩
        rw [← ev]
        have HVsl := Lib.hid ev
        clear ev
        rintro e w4 ⟨rfl, hst, hg⟩
        have hg' := grown_of_alloc hg
        have hs4 := hg'.size
        have HO4 := Lib.hid (own_kept HO3.out hg' (by omega))
        have HST4 := Lib.hid hst
        have HG4 := Lib.hid (grown_trans HG3.out hg')
        have HR4 := Lib.hid (grown_trans HR3.out hg')
        clear hst hg hg'
        go_wp2_with (fail)
        refine (some_any _ p (k' + 1 + 1) w4.heap.size 3 3 xs nBo (by omega) rfl (by omega) (by omega) (HST4.out.alloc _) (by have := HST4.out.lt; omega) (Cells.new _ _ _ _ _ rfl)).mono ?_
        obtain ⟨bo, ev⟩ : ∃ v, v = nBo.getD (nextN xs (k' + 1 + 1) 3) ⟨#[]⟩ := ⟨_, rfl⟩
        rw [← ev]
        have HVbo := Lib.hid ev
        clear ev
        rintro e w5 ⟨rfl, hst, hg⟩
        have hg' := grown_of_alloc hg
        have hs5 := hg'.size
        have HO5 := Lib.hid (own_kept HO4.out hg' (by omega))
        have HST5 := Lib.hid hst
        have HG5 := Lib.hid (grown_trans HG4.out hg')
        have HR5 := Lib.hid (grown_trans HR4.out hg')
        clear hst hg hg'
        go_wp2_with (fail)
        refine (pick_any _ p (k' + 1 + 2) w5.heap.size 4 4 xs nPr (by omega) rfl (by omega) (by omega) (HST5.out.alloc _) (by have := HST5.out.lt; omega) (Cells.new _ _ _ _ _ rfl)).mono ?_
        obtain ⟨pr, ev⟩ : ∃ v, v = nPr.getD (nextN xs (k' + 1 + 2) 4) 0 := ⟨_, rfl⟩
        rw [← ev]
        have HVpr := Lib.hid ev
        clear ev
        rintro e w6 ⟨rfl, hst, hg⟩
        have hg' := grown_of_alloc hg
        have hs6 := hg'.size
        have HO6 := Lib.hid (own_kept HO5.out hg' (by omega))
        have HST6 := Lib.hid hst
        have HG6 := Lib.hid (grown_trans HG5.out hg')
        have HR6 := Lib.hid (grown_trans HR5.out hg')
        clear hst hg hg'
        go_wp2_with (fail)
        refine (range_any w6 p (k' + 1 + 3) xs 1 7 (by omega) (by omega) (by omega) (by omega) (by omega) HST6.out).mono ?_
        obtain ⟨s, ev⟩ : ∃ v, v = 1 + nextV xs (k' + 1 + 3) (7 - 1 + 1) := ⟨_, rfl⟩
        rw [← ev]
        have HVs := Lib.hid (show s = 1 + nextV xs (k' + 1 + 3) 7 from ev)
        clear ev
        rintro e w7 ⟨rfl, hst, hg⟩
        have hg' := hg
        have hs7 := hg'.size
        have HO7 := Lib.hid (own_kept HO6.out hg' (by omega))
        have HST7 := Lib.hid hst
        have HG7 := Lib.hid (grown_trans HG6.out hg')
        have HR7 := Lib.hid (grown_trans HR6.out hg')
        clear hst hg hg'
        go_wp2_with (fail)
        refine (pick_any _ p (k' + 1 + 4) w7.heap.size 4 4 xs nTr (by omega) rfl (by omega) (by omega) (HST7.out.alloc _) (by have := HST7.out.lt; omega) (Cells.new _ _ _ _ _ rfl)).mono ?_
        obtain ⟨t, ev⟩ : ∃ v, v = nTr.getD (nextN xs (k' + 1 + 4) 4) 0 := ⟨_, rfl⟩
        rw [← ev]
        have HVt := Lib.hid ev
        clear ev
        rintro e w8 ⟨rfl, hst, hg⟩
        have hg' := grown_of_alloc hg
        have hs8 := hg'.size
        have HO8 := Lib.hid (own_kept HO7.out hg' (by omega))
        have HST8 := Lib.hid hst
        have HG8 := Lib.hid (grown_trans HG7.out hg')
        have HR8 := Lib.hid (grown_trans HR7.out hg')
        clear hst hg hg'
        go_wp2_with (fail)
        refine (pick_any _ p (k' + 1 + 5) w8.heap.size 4 4 xs cAt (by omega) rfl (by omega) (by omega) (HST8.out.alloc _) (by have := HST8.out.lt; omega) (Cells.new _ _ _ _ _ rfl)).mono ?_
        obtain ⟨c, ev⟩ : ∃ v, v = cAt.getD (nextN xs (k' + 1 + 5) 4) 0 := ⟨_, rfl⟩
        rw [← ev]
        have HVc := Lib.hid ev
        clear ev
        rintro e w9 ⟨rfl, hst, hg⟩
        have hg' := grown_of_alloc hg
        have hs9 := hg'.size
        have HO9 := Lib.hid (own_kept HO8.out hg' (by omega))
        have HST9 := Lib.hid hst
        have HG9 := Lib.hid (grown_trans HG8.out hg')
        have HR9 := Lib.hid (grown_trans HR8.out hg')
        clear hst hg hg'
        have HE := Lib.hid (show nrF xs (k' + 1) id = ⟨⟨id, sl, bo, pr, 0, 100⟩, s, t, c⟩ from by unfold nrF; rw [← HVsl.out, ← HVbo.out, ← HVpr.out, ← HVs.out, ← HVt.out, ← HVc.out])
        obtain ⟨h, eh⟩ : ∃ h, h = w9.heap.size := ⟨_, rfl⟩
        have hwr9 : w1.heap.size ≤ w9.heap.size := HG9.out.size
        have hph : p < h := by omega
        have hhp : h ≠ p := by omega
        have hwh : wr.heap.size ≤ h := by omega
        have HB0 := Lib.hid (show Nb wr p (k' + 1 + 6) h xs ⟨⟨id, sl, bo, pr, 0, 100⟩, s, t, c⟩ (w9.alloc (.cells #[.string id, .string sl, .string bo, .int .i64 pr, .int .i64 0, .int .i64 100, .int .i64 s, .int .i64 t, .int .i64 c] 40)) from
          ⟨HST9.out.alloc _, (grown_trans HR9.out (World.grownBy_alloc _ _ (some p))), by rw [eh]; exact heap_new w9 _⟩)
        go_upto_region 7 with (fail)
        rw [← eh]
        clear eh
        generalize w9.alloc (.cells #[.string id, .string sl, .string bo, .int .i64 pr, .int .i64 0, .int .i64 100, .int .i64 s, .int .i64 t, .int .i64 c] 40) = w10 at HB0 ⊢
        go_wp2_with (fail)
        refine (flipD_any w10 p (k' + 1 + 6) xs 40 (by omega) (by omega) (by omega) HB0.out.st).mono ?_
        obtain ⟨b, eb⟩ : ∃ b : Bool, b = decide (nextV xs (k' + 1 + 6) 40 = 0) := ⟨_, rfl⟩
        rw [← eb]
        have HB40 := Lib.hid eb
        clear eb
        rintro e w11 ⟨rfl, hs3', hg3'⟩
        have HB3 := Lib.hid (HB0.out.go hhp hs3' hg3')
        clear hs3' hg3' HB0
        go_upto_if 36 with (fail)
        go_cut [] (fun wx => ∃ (n : Nr) (k2 : Nat), Hid (noF xs (k' + 1) id = (n, k2)) ∧ Hid (Nb wr p k2 h xs n wx))
        case first =>
          cases b with
          | false =>
            have HL := Lib.hid (show noF xs (k' + 1) id = (⟨⟨id, sl, bo, pr, 0, 100⟩, s, t, c⟩, k' + 1 + 7) from by unfold noF; rw [if_neg (by simpa using HB40.out.symm), HE.out])
            go_wp2_with (fail)
            go_meet
            exact ⟨_, _, HL, HB3⟩
          | true =>
            have h40 : nextV xs (k' + 1 + 6) 40 = 0 := by simpa using HB40.out.symm
            have HF := Lib.hid (show noF xs (k' + 1) id = _ from by unfold noF; rw [if_pos h40, HE.out])
            clear h40
            go_wp2_with (fail)
            refine (some_any _ p (k' + 1 + 7) w11.heap.size 3 3 xs [id, ⟨#[]⟩, ⟨#[108, 97]⟩] (by omega) rfl (by omega) (by omega) (HB3.out.st.alloc _) (by have := HB3.out.st.lt; omega) (Cells.new _ _ _ _ _ rfl)).mono ?_
            obtain ⟨v, ev⟩ : ∃ v, v = [id, ⟨#[]⟩, ⟨#[108, 97]⟩].getD (nextN xs (k' + 1 + 7) 3) ⟨#[]⟩ := ⟨_, rfl⟩
            rw [← ev]
            have HV := Lib.hid ev
            clear ev
            rintro e w12 ⟨rfl, hs5, hg5⟩
            have HB4 := Lib.hid (HB3.out.go hhp hs5 (grown_of_alloc hg5))
            clear hs5 hg5 HB3
            go_wp2_with (fail)
            refine (odR_any 1 7 (by omega) (by omega) (by omega) w12 p (k' + 1 + 8) xs (by omega) HB4.out.st).mono ?_
            obtain ⟨z1, ev⟩ : ∃ v, v = odR 1 7 xs (k' + 1 + 8) := ⟨_, rfl⟩
            rw [← ev]
            have HZ1 := Lib.hid ev
            clear ev
            rintro e w13 ⟨rfl, hs5, hg5⟩
            have HB5 := Lib.hid (HB4.out.go hhp hs5 hg5)
            clear hs5 hg5 HB4
            go_wp2_with (fail)
            refine (odR_any 0 20 (by omega) (by omega) (by omega) w13 p (k' + 1 + 10) xs (by omega) HB5.out.st).mono ?_
            obtain ⟨z2, ev⟩ : ∃ v, v = odR 0 20 xs (k' + 1 + 10) := ⟨_, rfl⟩
            rw [← ev]
            have HZ2 := Lib.hid ev
            clear ev
            rintro e w14 ⟨rfl, hs5, hg5⟩
            have HB6 := Lib.hid (HB5.out.go hhp hs5 hg5)
            clear hs5 hg5 HB5
            go_wp2_with (fail)
            refine (odR_any 0 50 (by omega) (by omega) (by omega) w14 p (k' + 1 + 12) xs (by omega) HB6.out.st).mono ?_
            obtain ⟨z3, ev⟩ : ∃ v, v = odR 0 50 xs (k' + 1 + 12) := ⟨_, rfl⟩
            rw [← ev]
            have HZ3 := Lib.hid ev
            clear ev
            rintro e w15 ⟨rfl, hs5, hg5⟩
            have HB7 := Lib.hid (HB6.out.go hhp hs5 hg5)
            clear hs5 hg5 HB6
            have hp1 := HB7.out.put (j := 0) (u := .string v) (n' := ⟨⟨v, sl, bo, pr, 0, 100⟩, s, t, c⟩) hph hwh rfl
            have hp2 := hp1.put (j := 6) (u := .int .i64 z1) (n' := ⟨⟨v, sl, bo, pr, 0, 100⟩, z1, t, c⟩) hph hwh rfl
            have hp3 := hp2.put (j := 7) (u := .int .i64 z2) (n' := ⟨⟨v, sl, bo, pr, 0, 100⟩, z1, z2, c⟩) hph hwh rfl
            have HP := Lib.hid (hp3.put (j := 8) (u := .int .i64 z3) (n' := ⟨⟨v, sl, bo, pr, 0, 100⟩, z1, z2, z3⟩) hph hwh rfl)
            have HL := Lib.hid (show noF xs (k' + 1) id = (⟨⟨v, sl, bo, pr, 0, 100⟩, z1, z2, z3⟩, k' + 1 + 14) from by rw [HF.out, HV.out, HZ1.out, HZ2.out, HZ3.out])
            have hb := HB7.out.b1
            have n0 := cell_of_blk (j := 0) hb rfl
            have n6 := cell_of_blk (j := 6) hb rfl
            have n7 := cell_of_blk (j := 7) hb rfl
            have n8 := cell_of_blk (j := 8) hb rfl
            have f0 : w15.frozen? ⟨h, 0, none⟩ = false := by simp [World.frozen?, hb, nrBk]
            have f6 : w15.frozen? ⟨h, 6, none⟩ = false := by simp [World.frozen?, hb, nrBk]
            have f7 : w15.frozen? ⟨h, 7, none⟩ = false := by simp [World.frozen?, hb, nrBk]
            have f8 : w15.frozen? ⟨h, 8, none⟩ = false := by simp [World.frozen?, hb, nrBk]
            clear hb hp1 hp2 hp3
            go_wp2_with (fail)
            go_meet
            exact ⟨_, _, HL, HP⟩
        case rest =>
          obtain ⟨n, k2, HNO, HB⟩ := hcut
          obtain ⟨V, eV⟩ : ∃ V : World, V = wc := ⟨_, rfl⟩
          rw [← eV] at HB ⊢
          clear eV
          have hk2 : k2 ≤ k' + 1 + 14 := by have := noF_pos xs (k' + 1) id; rw [HNO.out] at this; exact this
          have HNK := Lib.hid (show NrK n from by have := noF_k xs (k' + 1) id hidk; rw [HNO.out] at this; exact this)
          have HN2 := Lib.hid (nsF_yes HSO.out HBB.out HID.out HNO.out)
          have hsV := HB.out.gr.size
          have HOV := Lib.hid (own_kept HO.out HB.out.gr (by omega))
          have HGV := Lib.hid (grown_trans HGR.out HB.out.gr)
          have HSV := Lib.hid HB.out.st
          have hb := HB.out.b1
          have hlt1 := (Array.getElem?_eq_some_iff.1 hb).1
          clear HB HO3 HO4 HO5 HO6 HO7 HO8 HO9
          obtain ⟨⟨id2, sl2, bo2, pr2, at2, un2⟩, s2, t2, c2⟩ := n
          have d0 := cell_of_blk (j := 0) hb rfl
          have d1 := cell_of_blk (j := 1) hb rfl
          have d2 := cell_of_blk (j := 2) hb rfl
          have d3 := cell_of_blk (j := 3) hb rfl
          have d4 := cell_of_blk (j := 4) hb rfl
          have d5 := cell_of_blk (j := 5) hb rfl
          have d6 := cell_of_blk (j := 6) hb rfl
          have d7 := cell_of_blk (j := 7) hb rfl
          have d8 := cell_of_blk (j := 8) hb rfl
          simp only at d0 d1 d2 d3 d4 d5 d6 d7 d8
          clear hb
          go_wp2_with (at_builtin; refine wpList_append_own2 _ rfl _ _ 28 rfl w1.heap.size 40 i0 _ 9 96 Tryz.underlying28 hi0 hz0 hz1 hz2 rfl (by decide) _ _ _ rfl (HOV.out.alloc _) ⟨_, 0, none⟩ 1 1 (nrC ⟨⟨id2, sl2, bo2, pr2, at2, un2⟩, s2, t2, c2⟩) rfl rfl ?c1 ?c2 ?c3 ?c4 ?c5 ?_)
          case c1 => exact cells_add (Cells.new _ _ _ _ _ rfl)
          case c2 => exact nrC_one _
          case c3 => unfold maxLen; omega
          case c4 => omega
          case c5 => first | omega | (simp; omega)
          intro v9 w16 ho9 hg9 hm9
          have hlo : ∀ q, u3.ownBlock = some q → w1.heap.size ≤ q := fun q hq => (HOV.out.lt q hq).1
          have hlo2 : ∀ q, u3.ownBlock = some q → p < q := fun q hq => by have := hlo q hq; omega
          have HST16 := Lib.hid ((HSV.out.alloc _).row hg9 hlo2)
          have HG16 := Lib.hid (grown_more (grown_trans HGV.out (World.grownBy_alloc _ _ (some p))) hg9 hlo)
          have HO16 := Lib.hid ho9
          have HOK9 := Lib.hid (show ∀ y ∈ L ++ [⟨⟨id2, sl2, bo2, pr2, at2, un2⟩, s2, t2, c2⟩], NrK y from fun y hy => by
            rw [List.mem_append, List.mem_singleton] at hy
            rcases hy with hy | rfl
            · exact HOK.out y hy
            · exact HNK.out)
          clear ho9 hg9 hm9 hlo hlo2
          go_wp2_with (fail)
          go_roundw
          case rel => exact ⟨j + 1, k2, m + 1, L ++ [⟨⟨id2, sl2, bo2, pr2, at2, un2⟩, s2, t2, c2⟩], by omega, by go_num, HOK9.out, by rw [List.length_append, HLN.out]; rfl, by omega, by rw [recs_snoc]; exact HO16.out, HST16.out, by omega, HG16.out, HN2⟩
          case measure => simp [intOf]; omega
    · obtain rfl : j = 4 := by omega
      obtain ⟨A, c, rfl⟩ := own_slice HO.out
      have HF := Lib.hid (show NsPost w p k xs (.returned (.slice A m c)) wr from ⟨L, A, c, k', m, HSO.out, rfl, HOK.out, HLN.out, by omega, own_mono HO.out (by omega), HST.out, by omega, grown_trans HG01.out HGR.out⟩)
      go_wp2_with (fail)
      go_ret
      exact HF.out
end Go.Proofs.YtnnncddjcdjhoaaGreatDoor
