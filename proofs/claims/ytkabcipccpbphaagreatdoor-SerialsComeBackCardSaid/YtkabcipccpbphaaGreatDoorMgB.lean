/- Several texts in one: SlL. -/
import Derived.Test.YtkabcipccpbphaaGreatDoorMgA
import Derived.Deep.RegionHeld3

/- SerialsComeBack: the law function. -/
namespace Go.Proofs.YtkabcipccpbphaaGreatDoor
open Go.RowKit

theorem Row.grownS {w w' : World} {A : Option Addr} {xs : List Value} {p : Nat} (h : Row w w.heap.size A xs) (hg : w.grownBy w' (some p)) (hne : ∀ b o, A = some ⟨b, o, none⟩ → b ≠ p) : Row w' w'.heap.size A xs := by
  rcases h with h | ⟨b, o, e, hb, hc⟩
  · exact .inl h
  · exact .inr ⟨b, o, e, Nat.lt_of_lt_of_le hb hg.size, hc.keep (hg.block b hb (by intro h; injection h with h; exact hne b o e h))⟩
theorem MdsOk.grownS {w w' : World} {l : List Md} {p : Nat} (h : MdsOk w l) (hg : w.grownBy w' (some p)) (hne : ∀ x ∈ l, ∀ b o, x.A = some ⟨b, o, none⟩ → b ≠ p) : MdsOk w' l :=
  ⟨fun x hx => by
    obtain ⟨t, h1, h2, h3, h4⟩ := (h.each x hx).ty
    exact ⟨(h.each x hx).key, (h.each x hx).p2, (h.each x hx).p4, (h.each x hx).pc, t, h1, h2, h3, h4.grownS hg (hne x hx)⟩, h.order, h.apart⟩
theorem MdsOk.belowS {w w' : World} {l : List Md} (h : MdsOk w l) (hb : Below w.heap.size w w') : MdsOk w' l :=
  ⟨fun x hx => by
    obtain ⟨t, h1, h2, h3, h4⟩ := (h.each x hx).ty
    exact ⟨(h.each x hx).key, (h.each x hx).p2, (h.each x hx).p4, (h.each x hx).pc, t, h1, h2, h3, rowWide (h4.below hb) hb.size⟩, h.order, h.apart⟩
/-- The two models of the law at a world. -/
structure TwoM (w : World) (p g a b c1 c2 j : Nat) : Prop where
  ok : MdsOk w [⟨⟨#[109, 97]⟩, ⟨#[65, 66]⟩, some ⟨a, 0, none⟩, 3, c1⟩, ⟨⟨#[109, 98]⟩, prfT j, some ⟨b, 0, none⟩, 1, c2⟩]
  row : Row w w.heap.size (some ⟨g, 0, none⟩) (recs mdC [⟨⟨#[109, 97]⟩, ⟨#[65, 66]⟩, some ⟨a, 0, none⟩, 3, c1⟩, ⟨⟨#[109, 98]⟩, prfT j, some ⟨b, 0, none⟩, 1, c2⟩])
  pa : p < a
  pb : p < b
  pg : p < g
theorem TwoM.grown {w w' : World} {p g a b c1 c2 j : Nat} (h : TwoM w p g a b c1 c2 j) (hg : w.grownBy w' (some p)) : TwoM w' p g a b c1 c2 j := by
  have h1 := h.pa
  have h2 := h.pb
  have h3 := h.pg
  refine ⟨h.ok.grownS hg ?_, h.row.grownS hg (fun q o e => by injection e with e; injection e with e1 _ _; omega), h1, h2, h3⟩
  intro x hx q o e
  simp only [List.mem_cons, List.not_mem_nil, or_false] at hx
  rcases hx with rfl | rfl
  · injection e with e; injection e with e1 _ _; omega
  · injection e with e; injection e with e1 _ _; omega
theorem TwoM.below {w w' : World} {p g a b c1 c2 j : Nat} (h : TwoM w p g a b c1 c2 j) (hb : Below w.heap.size w w') : TwoM w' p g a b c1 c2 j :=
  ⟨h.ok.belowS hb, rowWide (h.row.below hb) hb.size, h.pa, h.pb, h.pg⟩
theorem twoM_at (a b c1 c2 j K : Nat) (hK : K < 2) : ∃ x : Md, ([⟨⟨#[109, 97]⟩, ⟨#[65, 66]⟩, some ⟨a, 0, none⟩, 3, c1⟩, ⟨⟨#[109, 98]⟩, prfT j, some ⟨b, 0, none⟩, 1, c2⟩] : List Md)[K]? = some x ∧ x.k = ([⟨#[109, 97]⟩, ⟨#[109, 98]⟩] : List ByteArray).getD K ⟨#[]⟩ ∧
    fstM (fun y => y.k.toList == (([⟨#[109, 97]⟩, ⟨#[109, 98]⟩] : List ByteArray).getD K ⟨#[]⟩).toList) [⟨⟨#[109, 97]⟩, ⟨#[65, 66]⟩, some ⟨a, 0, none⟩, 3, c1⟩, ⟨⟨#[109, 98]⟩, prfT j, some ⟨b, 0, none⟩, 1, c2⟩] = (K : Int) := by
  have : K = 0 ∨ K = 1 := by omega
  rcases this with rfl | rfl
  · exact ⟨_, rfl, rfl, fstM_at (k := 0) rfl (by simp) (fun j y hj => by omega)⟩
  · refine ⟨_, rfl, rfl, fstM_at (k := 1) rfl (by simp) (fun j y hj hy => ?_)⟩
    obtain rfl : j = 0 := by omega
    cases hy
    show ((⟨#[109, 97]⟩ : ByteArray).toList == (⟨#[109, 98]⟩ : ByteArray).toList) = false
    rw [Lib.toList_data, Lib.toList_data]
    decide
theorem five_al (i : Nat) (h : i < 5) : ∃ d ∈ alL, ([⟨#[48]⟩, ⟨#[55]⟩, ⟨#[65]⟩, ⟨#[77]⟩, ⟨#[90]⟩] : List ByteArray).getD i ⟨#[]⟩ = ⟨#[d]⟩ := by
  have : i = 0 ∨ i = 1 ∨ i = 2 ∨ i = 3 ∨ i = 4 := by omega
  rcases this with h | h | h | h | h <;> subst h <;> exact ⟨_, by decide, rfl⟩
theorem extract_left (l : List UInt8) (c : UInt8) (m : Nat) (h : m = l.length) : (⟨(l ++ [c]).toArray⟩ : ByteArray).extract 0 m = ⟨l.toArray⟩ := by
  subst h
  apply bytes_ext
  simp [ByteArray.data_extract]
def keyT (i : Nat) : ByteArray := if i = 0 then ⟨#[109, 97]⟩ else ⟨#[109, 98]⟩
set_option maxRecDepth 100000 in
set_option maxHeartbeats 8000000 in
theorem slL_yes (w : World) (xs : List Int) (n c : Nat) (A0 : Option Addr) (hs : ∀ (W : World), Below w.heap.size w W → W.heap[w.heap.size]? = some (.cells #[.slice A0 n c, .int .i64 0] 25) → Strm W w.heap.size xs 0) (hT : RkW w) :
    Calls Tryz.prog 3 #[.slice A0 n c] w fun e w' => e = .returned (.bool true) ∧ Below w.heap.size w w' := by
  have HS := Lib.hid hs
  have HT := Lib.hid (fun V (hV : Below w.heap.size w V) => hT.below hV)
  clear hs hT
  go_enter Tryz.func3, Tryz.ntmps3
  go_upto_region 2 with (fail)
  generalize hW : w.alloc (.cells #[.slice A0 n c, .int .i64 0] 25) = w0
  have hsz0 : w.heap.size < w0.heap.size := by rw [← hW]; simp
  have hB0 : Below w.heap.size w w0 := hW ▸ (Below.refl _ _).alloc (Nat.le_refl _) _
  have HST0 := Lib.hid (HS.out w0 hB0 (by rw [← hW]; exact heap_new w _))
  have HB0 := Lib.hid hB0
  clear hW hB0 HS
  obtain ⟨p, ep⟩ : ∃ p, p = w.heap.size := ⟨_, rfl⟩
  have hpw : w.heap.size ≤ p := by omega
  rw [← ep] at HST0 hsz0 ⊢
  clear ep
  go_wp2_with (fail)
  refine (rightKinds_any w0 p 0 xs (by omega) HST0.out).mono ?_
  rintro e w1 ⟨g, a, b, c1, c2, cM, j, rfl, hcM, hj, ⟨pa, pb, pg⟩, _, hgw, hok, hC, hst, hg⟩
  have HM1 := Lib.hid (show TwoM w1 p g a b c1 c2 j from ⟨hok, .inr ⟨g, 0, rfl, hgw, hC⟩, pa, pb, pg⟩)
  have HST1 := Lib.hid hst
  have HB1 := Lib.hid (HB0.out.grown hg HB0.out.size (fun q hq => by cases hq; exact hpw))
  have hsz1 : p < w1.heap.size := Nat.lt_of_lt_of_le hsz0 hg.size
  clear hok hC hst hg pa pb pg hgw
  have hb2 : Below w1.heap.size w1 (w1.alloc (.cells #[.string ⟨#[109, 97]⟩, .string ⟨#[109, 98]⟩] 9)) := (Below.refl _ _).alloc (Nat.le_refl _) _
  have HM2 := Lib.hid (HM1.out.below hb2)
  have HSO := Lib.hid (some_any (w1.alloc (.cells #[.string ⟨#[109, 97]⟩, .string ⟨#[109, 98]⟩] 9)) p 1 w1.heap.size 2 2 xs [⟨#[109, 97]⟩, ⟨#[109, 98]⟩] (by omega) rfl (by omega) (by omega) (HST1.out.alloc _) (by omega) (Cells.new _ _ _ _ _ rfl))
  have HB2 := Lib.hid (HB1.out.alloc HB1.out.size (.cells #[.string ⟨#[109, 97]⟩, .string ⟨#[109, 98]⟩] 9))
  have hs2 : w1.heap.size < (w1.alloc (.cells #[.string ⟨#[109, 97]⟩, .string ⟨#[109, 98]⟩] 9)).heap.size := by simp
  have hK2 := nextN_lt xs 1 2 (by omega)
  obtain ⟨K, eK⟩ : ∃ K, K = nextN xs 1 2 := ⟨_, rfl⟩
  rw [← eK] at HSO hK2
  obtain ⟨x, hx, hxk, hxf⟩ := twoM_at a b c1 c2 j K hK2
  have HX := Lib.hid (And.intro hx hxf)
  obtain ⟨key, ekey⟩ : ∃ key, key = ([⟨#[109, 97]⟩, ⟨#[109, 98]⟩] : List ByteArray).getD K ⟨#[]⟩ := ⟨_, rfl⟩
  rw [← ekey] at HSO hxk HX
  have HXK := Lib.hid hxk
  clear hb2 eK hx hxf ekey hxk
  go_wp2_with (fail)
  refine HSO.out.mono ?_
  rintro e w3 ⟨rfl, hst, hg⟩
  have HM3 := Lib.hid (HM2.out.grown hg)
  have HB3 := Lib.hid (HB2.out.grown hg HB2.out.size (fun q hq => by cases hq; exact hpw))
  have hsz3 : p < w3.heap.size := by have := hg.size; omega
  have HRA := Lib.hid (range_any w3 p 2 xs 1 99999999 (by omega) (by omega) (by omega) (by omega) (by omega) hst)
  have hv := nextV_range xs 2 (99999999 - 1 + 1) (by omega)
  obtain ⟨k, hk⟩ : ∃ k : Nat, (1 : Int) + nextV xs 2 (99999999 - 1 + 1) = (k : Int) := ⟨((1 : Int) + nextV xs 2 (99999999 - 1 + 1)).toNat, by omega⟩
  have hk1 : 1 ≤ k := by omega
  have hk2 : k ≤ 99999999 := by omega
  rw [hk] at HRA
  clear hst hg hk hv
  go_wp2_with (fail)
  refine HRA.out.mono ?_
  rintro e w4 ⟨rfl, hst, hg⟩
  have HST4 := Lib.hid hst
  have HM4 := Lib.hid (HM3.out.grown hg)
  have HB4 := Lib.hid (HB3.out.grown hg HB3.out.size (fun q hq => by cases hq; exact hpw))
  have hsz4 : p < w4.heap.size := by have := hg.size; omega
  clear hst hg
  go_wp2_with (fail)
  refine (serial_any _ key x K k 2 cM (some ⟨g, 0, none⟩) w4 HM4.out.ok rfl (by omega) hcM HM4.out.row HX.out.2 HX.out.1 hk1 hk2 (HT.out _ HB4.out).p10).mono ?_
  rintro e w5 ⟨rfl, hb⟩
  have HM5 := Lib.hid (HM4.out.below hb)
  have HST5 := Lib.hid (HST4.out.below hb)
  have HB5 := Lib.hid (HB4.out.trans (hb.mono HB4.out.size))
  have hsz5 : p < w5.heap.size := by have := hb.size; omega
  clear hb
  have hO := HM5.out.ok.each x (List.mem_of_getElem? HX.out.1)
  have hp2 : 2 ≤ x.p.data.toList.length := by rw [← size_list]; exact hO.p2
  have hp4 : x.p.data.toList.length ≤ 4 := by rw [← size_list]; exact hO.p4
  have hpc : ∀ b ∈ x.p.data.toList, b ∈ alL := fun b hb => mem_drop_al (hO.pc b hb)
  obtain ⟨pl, epl⟩ : ∃ pl, pl = x.p.data.toList := ⟨_, rfl⟩
  rw [← epl] at hp2 hp4 hpc ⊢
  have HPL := Lib.hid epl
  obtain ⟨ck, eck⟩ : ∃ ck, ck = ckC (pl ++ padL k) := ⟨_, rfl⟩
  have hckm : ck ∈ alL := by rw [eck]; exact ckC_mem _
  rw [← eck]
  have HCK := Lib.hid eck
  obtain ⟨S, eS⟩ : ∃ S : ByteArray, S = ⟨(serT pl k ck).toArray⟩ := ⟨_, rfl⟩
  have hSz : S.size = pl.length + 11 := by rw [eS, ← serT_len pl k ck (by omega)]; simp [ByteArray.size]
  rw [← eS]
  have HES := Lib.hid eS
  have hS13 : ¬ (S.size : Int) < 13 := by omega
  clear hO epl eck eS
  go_wp2_with (fail)
  have HRS := Lib.hid (fun (V : World) (d : UInt8) (hd : d ∈ alL) (hM : TwoM V p g a b c1 c2 j) (hB : Below w.heap.size w V) => readSerial_any _ x d K k 2 cM (some ⟨g, 0, none⟩) V hM.ok rfl (by omega) hcM hM.row HX.out.1 hk1 hk2 hd (HT.out V hB).ml)
  have hr1 := HRS.out w5 ck hckm HM5.out HB5.out
  rw [← HPL.out, ← HES.out] at hr1
  refine hr1.mono ?_
  rintro e w6 ⟨h, hb⟩
  obtain ⟨_, rfl⟩ := h.resolve_right (fun q => q.1 (by rw [HCK.out, HPL.out]))
  rw [HXK.out]
  have HM6 := Lib.hid (HM5.out.below hb)
  have HST6 := Lib.hid (HST5.out.below hb)
  have HB6 := Lib.hid (HB5.out.trans (hb.mono HB5.out.size))
  have hsz6 : p < w6.heap.size := by have := hb.size; omega
  have hkk : (key.toList != key.toList) = false := by simp
  clear hb hr1 h
  go_upto_region 10 with (fail)
  have hj5 := nextN_lt xs 3 5 (by omega)
  obtain ⟨d, hd, hde⟩ := five_al (nextN xs 3 5) hj5
  have HSO2 := Lib.hid (fun (V : World) (q : Nat) (hst : Strm V p xs 3) (hq : q ≠ p) (hc : Cells V q 0 [.string ⟨#[48]⟩, .string ⟨#[55]⟩, .string ⟨#[65]⟩, .string ⟨#[77]⟩, .string ⟨#[90]⟩]) =>
    show Calls Tryz.prog 8 #[.pointer (some ⟨p, 0, none⟩), .slice (some ⟨q, 0, none⟩) 5 5] V fun e w' => e = .returned (.string ⟨#[d]⟩) ∧ Strm w' p xs 4 ∧ V.grownBy w' (some p) from by
      have := some_any V p 3 q 5 5 xs [⟨#[48]⟩, ⟨#[55]⟩, ⟨#[65]⟩, ⟨#[77]⟩, ⟨#[90]⟩] (by omega) rfl (by omega) (by omega) hst hq hc
      rwa [hde] at this)
  have HD := Lib.hid hd
  obtain ⟨m, em⟩ : ∃ m, m = pl.length + 10 := ⟨_, rfl⟩
  have hsI : (S.size : Int) - 1 = (m : Int) := by omega
  have hm1 : m ≤ S.size := by omega
  have hm2 : (m : Int) ≤ (S.size : Int) := by omega
  have hm3 : (0 : Int) ≤ (m : Int) := by omega
  have hwr : IntKind.i64.wrap (m : Int) = (m : Int) := by rw [IntKind.wrap_i64]; omega
  have hm4 : ¬ ((S.size : Int) < (m : Int)) := by omega
  have hm5 : ¬ ((m : Int) < 0) := by omega
  have hm6 : ¬ (S.size < m) := by omega
  have HSZ := Lib.hid hSz
  have HEM := Lib.hid em
  clear hSz hS13
  obtain ⟨O, eO⟩ : ∃ O : ByteArray, O = ⟨(serT pl k d).toArray⟩ := ⟨_, rfl⟩
  have hadd : ∀ W, (Op.stringOp .add (S.extract 0 m) ⟨#[d]⟩).run Tryz.prog W = .ok (.string O) W := fun W => str_addL _ _ _ (pl ++ [45] ++ padL k ++ [45]) [d] (by
    rw [HES.out, serT_eq]
    exact extract_left _ ck m (by rw [HEM.out]; have := pad_len k (by omega); simp only [List.length_append, List.length_cons, List.length_nil]; omega)) rfl (by rw [eO, serT_eq]) (by have := pad_len k (by omega); simp only [List.length_append, List.length_cons, List.length_nil]; omega) W
  have HEO := Lib.hid eO
  clear hj5 hde hd eO em
  have HST6d := Lib.hid (show Strm w6.drew p xs 3 from HST6.out.below ((Below.refl _ _).drew))
  go_region_held3 (fun _ => True) (exact trivial)
    ((go_at_call 8
      refine (HSO2.out _ w6.heap.size ((HST6d.out.alloc _)) (by omega) (Cells.new w6.drew _ _ _ _ rfl)).mono ?_
      rintro e w7 ⟨rfl, hst7, hg7⟩
      have hS := True.intro))
  have hb7 : Below w6.heap.size w6 (w6.drew.alloc (.cells #[.string ⟨#[48]⟩, .string ⟨#[55]⟩, .string ⟨#[65]⟩, .string ⟨#[77]⟩, .string ⟨#[90]⟩] 9)) := ((Below.refl _ _).drew).alloc (Nat.le_refl _) _
  have HM7 := Lib.hid ((HM6.out.below hb7).grown hg7)
  have HB7 := Lib.hid ((HB6.out.trans (hb7.mono HB6.out.size)).grown hg7 (by have := HB6.out.size; have := hb7.size; omega) (fun q hq => by cases hq; exact hpw))
  have hr2 := HRS.out w7 d HD.out HM7.out HB7.out
  rw [← HPL.out, ← HEO.out] at hr2
  have HOS := Lib.hid (show d = ckC (pl ++ padL k) → O = S from fun h => by rw [HEO.out, HES.out, h, HCK.out])
  clear hb7 hst7 hg7 hS hadd
  go_wp2_with (fail)
  refine hr2.mono ?_
  rintro e w8 ⟨h, hb⟩
  have HB8 := Lib.hid (HB7.out.trans (hb.mono HB7.out.size))
  clear hb
  rw [← HPL.out] at h
  rcases h with ⟨h1, rfl⟩ | ⟨h1, rfl⟩
  · have hOS := HOS.out h1
    subst hOS
    clear h1
    go_wp2_with (fail)
    refine (ready1_yes w8 (HT.out _ HB8.out)).mono ?_
    rintro e w9 ⟨rfl, hb⟩
    have HBF := Lib.hid (HB8.out.trans (hb.mono HB8.out.size))
    clear hb
    go_wp2_with (fail)
    go_ret
    exact ⟨rfl, HBF.out⟩
  · clear h1
    go_wp2_with (fail)
    refine (ready1_yes w8 (HT.out _ HB8.out)).mono ?_
    rintro e w9 ⟨rfl, hb⟩
    have HBF := Lib.hid (HB8.out.trans (hb.mono HB8.out.size))
    clear hb
    go_wp2_with (fail)
    go_ret
    exact ⟨rfl, HBF.out⟩
end Go.Proofs.YtkabcipccpbphaaGreatDoor
