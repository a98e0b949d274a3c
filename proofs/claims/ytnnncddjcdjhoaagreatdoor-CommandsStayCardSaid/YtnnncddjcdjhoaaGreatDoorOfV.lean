/- Fetch of offices: the letters that wait, in their order. Printed by gen_OfV.py. -/
import Derived.Test.YtnnncddjcdjhoaaGreatDoorOfU
import Derived.Lib.SliceRun
namespace Go.Proofs.YtnnncddjcdjhoaaGreatDoor
open Go.RowKit

theorem Tryz.infoOl : (Tryz.prog.info? 35).map (fun i => (i.zero, i.size, i.bytes)) = some (some (.agg #[.string ⟨#[]⟩, .string ⟨#[]⟩, .string ⟨#[]⟩, .int .i64 0, .int .i64 0, .int .i64 0]), 6, 72) := by kernel_rfl
set_option maxRecDepth 100000 in
set_option maxHeartbeats 1000000 in
theorem cloneO_some (b off n c : Nat) (xs : List Value) (w : World) (hl : xs.length = n * 6) (h1 : ∀ u ∈ xs, u.oneCell' = true) (hn : n ≤ 1000000) (hc : Cells w b off xs) :
    Calls Tryz.prog 36 #[.slice (some ⟨b, off, none⟩) n c] w fun e w' => ∃ v', e = .returned v' ∧ w'.ownsRow w.heap.size 35 6 v' n xs ∧ Below w.heap.size w w' := by
  obtain ⟨i0, hi, hz0, hz1, hz2⟩ := info_parts Tryz.infoOl
  have q22 : ∀ (w : World) (a : Option Addr) (n c n' c' : Nat), (binOp .eql 26 (.slice a n c) (.slice none n' c')).run Tryz.prog w = .ok (.bool a.isNone) w := fun w a n c n' c' => Lib.run_eql_slice_nil w _ _ a n c n' c' Tryz.underlying26
  have HC := Lib.hid hc
  have H1 := Lib.hid h1
  have HL := Lib.hid hl
  clear hc h1 hl
  go_enter Tryz.func36, Tryz.ntmps36
  go_wp2_with (at_builtin; refine wpList_append_own _ rfl _ _ 26 rfl w.heap.size 35 i0 _ 6 72 Tryz.underlying26 hi hz0 hz1 hz2 rfl (by decide) _ _ _ rfl (World.ownsRow_made w #[] 0 (Nat.le_refl _) (Nat.zero_le _) rfl) ⟨b, off, none⟩ n c xs rfl ?qc1 ?qc2 ?qc3 ?qc4 ?qc5 ?qc6 ?_)
  case qc1 => exact HL.out
  case qc2 =>
    intro j u hj
    rw [Addr.add_lit]
    exact Lib.cell?_alloc_some _ (HC.out j u hj)
  case qc3 => exact H1.out
  case qc4 => unfold maxLen; omega
  case qc5 => omega
  case qc6 => simp
  intro v' w1 hown hgrow hnil
  go_wp2
  go_ret
  refine ⟨v', rfl, by simpa using hown, ?_⟩
  exact ((Below.refl _ w).alloc (Nat.le_refl _) _).grown hgrow (by simp) (by intro k hk; simp [Value.ownBlock] at hk; omega)
theorem cloneO_nil (n c : Nat) (w : World) : Calls Tryz.prog 36 #[.slice none n c] w fun e w' => e = .returned (.slice none 0 0) ∧ w = w' := by
  have q22 : ∀ (w : World) (a : Option Addr) (n c n' c' : Nat), (binOp .eql 26 (.slice a n c) (.slice none n' c')).run Tryz.prog w = .ok (.bool a.isNone) w := fun w a n c n' c' => Lib.run_eql_slice_nil w _ _ a n c n' c' Tryz.underlying26
  go_enter Tryz.func36, Tryz.ntmps36
  go_wp2
  go_ret
  exact ⟨rfl, rfl⟩
theorem recs_takeO (L : List Ol) (i : Nat) : (recs olC L).take (i * 6) = recs olC (L.take i) := by
  induction L generalizing i with
  | nil => simp [recs]
  | cons x L ih =>
    cases i with
    | zero => simp [recs]
    | succ i =>
      have e : recs olC (x :: L) = olC x ++ recs olC L := by simp [recs]
      have e2 : recs olC ((x :: L).take (i + 1)) = olC x ++ recs olC (L.take i) := by simp [recs]
      rw [e, e2, ← ih i, show (i + 1) * 6 = (olC x).length + i * 6 by rw [olC_len]; omega, List.take_length_add_append]
theorem cloneO_any (L : List Ol) (N n c base : Nat) (A : Option Addr) (w : World) (hN : L.length = N) (hn : n ≤ N) (hn2 : N ≤ 1000) (ho : w.ownsRow base 35 6 (.slice A N c) N (recs olC L)) :
    Calls Tryz.prog 36 #[.slice A n c] w fun e w' => ∃ v', e = .returned v' ∧ w'.ownsRow w.heap.size 35 6 v' n (recs olC (L.take n)) ∧ Below w.heap.size w w' := by
  rcases own_two ho with ⟨rfl, h0, rfl⟩ | ⟨g, rfl, _, hlt⟩
  · subst h0
    have : L = [] := List.eq_nil_of_length_eq_zero hN
    subst this
    have hn0 : n = 0 := by omega
    subst hn0
    refine (cloneO_nil 0 0 w).mono ?_
    rintro e w' ⟨rfl, rfl⟩
    exact ⟨_, rfl, World.ownsRow_nil _ _ _ _, Below.refl _ _⟩
  · have hc : Cells w g 0 (recs olC L) := by
      rcases own_row ho with h | ⟨b, o, e, _, h⟩
      · rw [h]; intro j u hj; simp at hj
      · cases e; exact h
    refine cloneO_some g 0 n c (recs olC (L.take n)) w (by rw [recs_length olC_len, List.length_take]; congr 1; omega) (recs_one olC_one _) (by omega) ?_
    intro j u hj
    rw [← recs_takeO] at hj
    refine hc j u ?_
    rw [List.getElem?_take] at hj
    split at hj
    · exact hj
    · cases hj
def keyO (l : Ol) : Int := ((9 - l.pr) * 1000000000 + l.at_) * 6 + l.id
/-- The letters that wait, in the order in which they are fetched. -/
def WaitL (h : Of) (W : List Ol) : Prop := W.Pairwise (fun x y => keyO x < keyO y) ∧ ∀ l, l ∈ W ↔ ∃ i n, h i = some n ∧ n.s = 1 ∧ n.l = l
def fetH (h : Of) (a : Int) (ls : List Ol) : Of := fun i => (h i).map fun n => if n.l ∈ ls then { n with s := 2, t := n.t + 1, c := a } else n
def waB (n : On) : Bool := decide (n.s = 1)
def waD (D : Mp) : List Ol := (D.filter fun q => waB q.2).map fun q => q.2.l
theorem waD_snoc (D : Mp) (q : Nat × On) : waD (D ++ [q]) = if waB q.2 = true then waD D ++ [q.2.l] else waD D := by
  unfold waD
  rw [List.filter_append, List.map_append]
  by_cases h : waB q.2 = true
  · rw [if_pos h]; simp [h]
  · rw [if_neg h]; simp [h]
theorem waD_len (D : Mp) : (waD D).length ≤ D.length := by
  unfold waD
  rw [List.length_map]
  exact List.length_filter_le _ _
theorem wait_of {p : Po} {tm : Int} {M D : Mp} {ck : Nat} {W : List Ol} (hM : MpOk M ck) (hp : D.Perm M) (hf : OfOk p (fM M) tm) (hW : W.Perm (waD D)) (hs : W.Pairwise (fun x y => y.pr < x.pr ∨ x.pr = y.pr ∧ (x.at_ < y.at_ ∨ x.at_ = y.at_ ∧ min x.id 5 ≤ min y.id 5))) : WaitL (fM M) W := by
  have hD : NdM D := nd_of_sub hM (fun x hx => hp.mem_iff.1 hx) (hp.nodup_iff.2 hM.nodup)
  have hmem : ∀ l, l ∈ W ↔ ∃ q ∈ D, q.2.s = 1 ∧ q.2.l = l := by
    intro l
    rw [hW.mem_iff]
    unfold waD
    rw [List.mem_map]
    constructor
    · rintro ⟨q, hq, e⟩
      obtain ⟨h1, h2⟩ := List.mem_filter.1 hq
      exact ⟨q, h1, by simpa [waB] using h2, e⟩
    · rintro ⟨q, hq, h, e⟩
      exact ⟨q, List.mem_filter.2 ⟨hq, by simpa [waB] using h⟩, e⟩
  have hok : ∀ l ∈ W, OlOk l := by
    intro l hl
    obtain ⟨q, hq, _, rfl⟩ := (hmem l).1 hl
    exact hf.ol _ _ ((fM_mem hM.nd).2 ⟨rfl, q.1, hp.mem_iff.1 hq⟩)
  have hne : W.Pairwise (fun x y => x.id ≠ y.id) := by
    have h1 : (waD D).Pairwise (fun x y => x.id ≠ y.id) := by
      unfold waD
      rw [List.pairwise_map]
      exact List.Pairwise.filter _ hD
    exact (hW.pairwise_iff (fun h => Ne.symm h)).2 h1
  refine ⟨?_, ?_⟩
  · refine List.Pairwise.imp_of_mem ?_ (hs.and hne)
    intro x y hx hy ⟨h1, h2⟩
    have ox := hok x hx
    have oy := hok y hy
    have := ox.id; have := oy.id; have := ox.at0; have := oy.at0; have := ox.un; have := oy.un; have := ox.pr; have := oy.pr
    unfold keyO
    omega
  · intro l
    rw [hmem]
    constructor
    · rintro ⟨q, hq, h1, h2⟩
      exact ⟨q.2.l.id, q.2, (fM_mem hM.nd).2 ⟨rfl, q.1, hp.mem_iff.1 hq⟩, h1, h2⟩
    · rintro ⟨i, n, hn, h1, h2⟩
      obtain ⟨_, b, hb⟩ := (fM_mem hM.nd).1 hn
      exact ⟨(b, n), hp.mem_iff.2 hb, h1, h2⟩
theorem fet_step {h g : Of} {a : Int} {W : List Ol} {i : Nat} {y : Ol} {n : On} (hy : W[i]? = some y) (hn : h y.id = some n) (hl : n.l = y) (hid : ∀ j m, h j = some m → m.l.id = j) (hnd : y ∉ W.take i) (hg : g = fetH h a (W.take i)) : setO g { n with s := 2, t := n.t + 1, c := a } = fetH h a (W.take (i + 1)) := by
  subst hg
  subst hl
  funext k
  unfold setO fetH
  rw [List.take_add_one, hy]
  simp only [Option.toList_some, List.mem_append, List.mem_singleton]
  by_cases hk : k = n.l.id
  · rw [if_pos hk, hk, hn]
    simp only [Option.map_some]
    simp
  · rw [if_neg hk]
    cases hm : h k with
    | none => rfl
    | some m =>
      simp only [Option.map_some]
      have hne : ¬ m.l = n.l := fun e => hk (by rw [← hid k m hm, e])
      by_cases h2 : m.l ∈ W.take i
      · rw [if_pos h2, if_pos (.inl h2)]
      · rw [if_neg h2, if_neg (by rintro (q | q); exact h2 q; exact hne q)]
theorem fetH_nil (h : Of) (a : Int) : fetH h a [] = h := by
  funext i
  unfold fetH
  cases h i <;> simp
theorem own_baseO {w : World} {base base' : Nat} {e : TypeId} {size n : Nat} {v : Value} {xs : List Value} (h : w.ownsRow base e size v n xs) (hb : base' ≤ base) : w.ownsRow base' e size v n xs := by
  refine ⟨h.1, ?_⟩
  rcases h.2 with h | ⟨g, cap, cur, hv, hb', r⟩
  · exact .inl h
  · exact .inr ⟨g, cap, cur, hv, Nat.le_trans hb hb', r⟩
def FetPost (w : World) (o : Nat) (p : Po) (f : Of) (a : Int) (mn : Nat) (e : Ending) (w' : World) : Prop :=
  ∃ (h : Of) (W : List Ol) (v : Value) (m' ck' : Nat) (M' : Mp), Aged p f a h ∧ WaitL h W ∧ e = .returned (.tuple #[v, .int .i64 0]) ∧ w'.ownsRow w.heap.size 35 6 v (min mn W.length) (recs olC (W.take mn)) ∧ OfI w' o m' ck' M' p a ∧ w.grownBy w' (some o) ∧ fM M' = fetH h a (W.take mn)
set_option maxRecDepth 100000 in
set_option maxHeartbeats 8000000 in
theorem fetch_any (w : World) (o m ck : Nat) (M : Mp) (p : Po) (tm a : Int) (mn : Nat) (h : OfI w o m ck M p tm) (hp : PoOk p) (hf : OfOk p (fM M) tm) (ht : tm ≤ a) (ha : 0 ≤ a ∧ a ≤ 10000000) (hmn : mn ≤ 500) :
    Calls Tryz.prog 14 #[.pointer (some ⟨o, 0, none⟩), .int .i64 a, .int .i64 (mn : Int)] w fun e w' => FetPost w o p (fM M) a mn e w' := by
  obtain ⟨i0, hi0, hz0, hz1, hz2⟩ := info_parts Tryz.infoOl
  have HO := Lib.hid h
  have HP := Lib.hid hp
  have HF := Lib.hid hf
  have HTF := Lib.hid (timeFault_no w o m ck M p tm a h ht ha.1 (by omega))
  have HAG := Lib.hid (aged_any w o m ck M p tm a h hp hf ht)
  unfold AgPost at HAG
  clear h hp hf
  go_enter Tryz.func14, Tryz.ntmps14
  go_wp2_with (first | (go_at_call 45; refine HTF.out.mono ?_; rintro e w' ⟨rfl, rfl⟩) | (go_at_call 44; refine (out_no _ _ _ _ (by omega) (by omega)).mono ?_; rintro e w' ⟨rfl, rfl⟩))
  refine HAG.out.mono ?_
  rintro e w5 ⟨m1, ck1, M1, rfl, hm1, hM1, hag, hb5, hlm⟩
  have HK1 := Lib.hid hM1
  have HAD := Lib.hid hag
  have HOK := Lib.hid (hag.ok HP.out HF.out ht)
  have HB5 := Lib.hid hb5
  have HM5 := Lib.hid hm1
  have hlm5 := hm1.lt
  unfold MpI at hm1
  have hrg := run_range_map (P := Tryz.prog) w5 80 9 40 m1 _ _ Tryz.underlying80 hm1
  obtain ⟨ri, eri⟩ : ∃ g, g = w5.heap.size := ⟨_, rfl⟩
  obtain ⟨w6, e6⟩ : ∃ V : World, V = w5.alloc (.mapIter (some m1) ck1 #[] ck1) := ⟨_, rfl⟩
  have hb6 : Below w5.heap.size w5 w6 := by rw [e6]; exact (Below.refl _ _).alloc (Nat.le_refl _) _
  have HI6 := Lib.hid (show ItI w6 ri m1 M1 ck1 [] from ItI.new (by rw [e6, eri]; exact heap_new w5 _))
  have hrm : ri ≠ m1 := by omega
  have hwri : w.heap.size ≤ ri := by have := HB5.out.size; omega
  have hol : o < w.heap.size := HO.out.lt
  clear hM1 hag hb5 HTF HAG
  go_wp2_with (fail)
  rw [← eri, ← e6]
  have HB6 := Lib.hid (HB5.out.trans (hb6.mono HB5.out.size))
  have HM6 := Lib.hid (HM5.out.below hb6)
  have hs6 : ri < w6.heap.size := HI6.out.lt
  clear hrg hm1 eri e6 hb6 hlm5
  have hml := mp_len HK1.out
  have hm6 : m1 < w6.heap.size := HM6.out.lt
  obtain ⟨f1, ef1⟩ : ∃ f1, f1 = fM M1 := ⟨_, rfl⟩
  have HF1 := Lib.hid ef1
  rw [← ef1] at HAD HOK
  clear ef1
  go_loopw [10] (fun v wr => ∃ (D : Mp), Hid (ItI wr ri m1 M1 ck1 D) ∧ Hid (Below w.heap.size w wr ∧ wr.heap[m1]? = w6.heap[m1]?) ∧ Hid (wr.ownsRow w6.heap.size 35 6 v (waD D).length (recs olC (waD D))) ∧ Hid (w6.heap.size ≤ wr.heap.size)) (fun _ wr => M1.length - (wr.iterSeen ri).size)
  case atStart => exact ⟨[], HI6, Lib.hid ⟨HB6.out, rfl⟩, Lib.hid (World.ownsRow_nil _ _ _ _), Lib.hid (Nat.le_refl _)⟩
  case round =>
    obtain ⟨D, HI, HBM, HR, HS⟩ := hrel
    have HMr := Lib.hid (show MpI wr m1 M1 ck1 from HBM.out.2.trans HM6.out)
    rcases next_mp HK1.out HMr.out HI.out hrm Tryz.prog with ⟨hperm, hrun⟩ | ⟨q, hq, hqD, hlen, w7, hI7, ho7, hrun, hen⟩
    · obtain ⟨A, c, rfl⟩ := own_slice HR.out
      have HPM := Lib.hid hperm
      obtain ⟨nW, enW⟩ : ∃ z, z = (waD D).length := ⟨_, rfl⟩
      have hnW : nW ≤ 6 := by have := waD_len D; have := hperm.length_eq; omega
      have HSO := Lib.hid (sortO_any (waD D) nW c w6.heap.size A wr enW.symm (by omega) (by rw [enW]; exact HR.out))
      rw [← enW]
      clear hperm enW hml
      go_wp2_with (fail)
      refine HSO.out.mono ?_
      rintro e w8 ⟨rfl, W, hW, hWl, hWs, ho8, hg8⟩
      have HWT := Lib.hid (show WaitL f1 W from by rw [HF1.out]; exact wait_of HK1.out HPM.out (by rw [← HF1.out]; exact HOK.out) hW hWs)
      have HB8 := Lib.hid (HBM.out.1.grown hg8 HBM.out.1.size (fun k hk => by have := (ho8.lt k hk).1; have := HB6.out.size; omega))
      have HM8 := Lib.hid (show MpI w8 m1 M1 ck1 from (hg8.block m1 HMr.out.lt (fun e => by have := (ho8.lt m1 e.symm).1; omega)).trans HMr.out)
      have hs68 : w6.heap.size ≤ w8.heap.size := Nat.le_trans HS.out hg8.size
      obtain ⟨nn, hnn, hnm⟩ : ∃ nn : Nat, min (mn : Int) (nW : Int) = (nn : Int) ∧ nn = min mn nW := ⟨min mn nW, by omega, rfl⟩
      have HNM := Lib.hid (And.intro hnm hWl)
      have hnW2 : nn ≤ nW := by omega
      have HCL := Lib.hid (cloneO_any W nW nn c w6.heap.size A w8 hWl hnW2 (by omega) ho8)
      have hcap := own_cap ho8
      clear hW hWl hWs hg8 hnm HSO
      go_wp2_with (fail)
      refine HCL.out.mono ?_
      rintro e w9 ⟨v9, rfl, ho9, hb9⟩
      obtain ⟨A9, c9, rfl⟩ := own_slice ho9
      have HO9 := Lib.hid ho9
      have HB9 := Lib.hid (HB8.out.trans (hb9.mono HB8.out.size))
      have HM9 := Lib.hid (HM8.out.below hb9)
      have hm9 := HM9.out.lt
      have hs89 := hb9.size
      clear ho9 hb9 HCL hnn ho8
      go_wp2_with (fail)
      go_loopw [52] (fun s wx => ∃ (i : Nat) (Mi : Mp) (ci : Nat), i ≤ nn ∧ s = .int .i64 (i : Int) ∧ Hid (MpI wx m1 Mi ci ∧ MpOk Mi ci ∧ fM Mi = fetH f1 a (W.take i)) ∧ Hid (w9.grownBy wx (some m1))) (fun s _ => nn - (intOf s).toNat)
      case atStart => exact ⟨0, M1, ck1, by omega, rfl, Lib.hid ⟨HM9.out, HK1.out, by rw [← HF1.out, List.take_zero, fetH_nil]⟩, Lib.hid (grown_refl _ _)⟩
      case round =>
        obtain ⟨i, Mi, ci, hi, rfl, HMi, HGi⟩ := hrel
        have hsg := HGi.out.size
        have HRow := Lib.hid (own_kept HO9.out HGi.out (by omega))
        by_cases hlt : i < nn
        · have hltI : (i : Int) < nn := by omega
          obtain ⟨y, hy⟩ : ∃ y, (W.take nn)[i]? = some y := ⟨_, List.getElem?_eq_getElem (by have := HNM.out; rw [List.length_take]; omega)⟩
          obtain ⟨ab, o2, rfl, hab, hC⟩ := (own_row HRow.out).posR olC_len (by omega) (by have := HNM.out; rw [List.length_take]; omega)
          have hyW : W[i]? = some y := by
            have h2 := hy
            rw [List.getElem?_take, if_pos hlt] at h2
            exact h2
          obtain ⟨j, n, hfn, hns, rfl⟩ := (HWT.out.2 y).1 (List.mem_of_getElem? hyW)
          have hj : n.l.id = j := HOK.out.id j n hfn
          subst hj
          have hnt : n.l ∉ W.take i := by
            intro hc
            have hp := HWT.out.1
            rw [← List.take_append_drop i W, List.pairwise_append] at hp
            have hd : n.l ∈ W.drop i := List.mem_of_getElem? (i := 0) (by rw [List.getElem?_drop]; exact hyW)
            have := hp.2.2 _ hc _ hd
            omega
          have hfi : fM Mi n.l.id = some n := by
            rw [HMi.out.2.2]
            unfold fetH
            rw [hfn]
            simp only [Option.map_some]
            rw [if_neg hnt]
          have hid6 := (HOK.out.ol _ _ hfn).id
          have htt := HOK.out.t _ _ hfn
          have htr := HP.out.tri
          have hwt : IntKind.i64.wrap (n.t + 1) = n.t + 1 := by rw [IntKind.wrap_i64]; omega
          have HNX := Lib.hid (fun (g : Of) (hg : g = fetH f1 a (W.take i)) => show setO g { n with s := 2, t := n.t + 1, c := a } = fetH f1 a (W.take (i + 1)) from fet_step hyW hfn rfl (fun j m hm => HOK.out.id j m hm) hnt hg)
          have k0 : wr.cell? ⟨ab, o2 + i * 6, none⟩ = some (.string (idL n.l.id)) := rec_cell olC_len hC i n.l hy 0 _ rfl
          have k1 := rec_cell olC_len hC i n.l hy 1 _ rfl
          have k2 := rec_cell olC_len hC i n.l hy 2 _ rfl
          have k3 := rec_cell olC_len hC i n.l hy 3 _ rfl
          have k4 := rec_cell olC_len hC i n.l hy 4 _ rfl
          have k5 := rec_cell olC_len hC i n.l hy 5 _ rfl
          have hbl : ab < wr.heap.size := by omega
          clear hC hy hyW hfn hns hnt htt htr
          go_upto_region 18 with (fail)
          obtain ⟨gl, egl⟩ : ∃ z, z = wr.heap.size := ⟨_, rfl⟩
          obtain ⟨w10, e10⟩ : ∃ V : World, V = wr.alloc (.cells #[.string (idL n.l.id), .string (slL n.l.sl), .string (boL n.l.bo), .int .i64 n.l.pr, .int .i64 n.l.at_, .int .i64 n.l.un] 35) := ⟨_, rfl⟩
          have hb10 : Below wr.heap.size wr w10 := by rw [e10]; exact (Below.refl _ _).alloc (Nat.le_refl _) _
          have hg10 : w10.heap[gl]? = some (.cells #[.string (idL n.l.id), .string (slL n.l.sl), .string (boL n.l.bo), .int .i64 n.l.pr, .int .i64 n.l.at_, .int .i64 n.l.un] 35 (0, 0)) := by rw [e10, egl]; exact heap_new wr _
          rw [← egl, ← e10]
          clear egl e10 k0 k1 k2 k3 k4 k5
          have hlg10 : gl < w10.heap.size := (Array.getElem?_eq_some_iff.1 hg10).1
          have d0 := cell_of_blk (j := 0) hg10 rfl
          have hlk := look_mp (P := Tryz.prog) (w := w10) Tryz.underlying80 Tryz.underlying9 (zeroOn w10) hid6 HMi.out.2.1 (HMi.out.1.below hb10)
          rw [hfi] at hlk
          simp only [noD, onV] at hlk
          go_upto_region 19 with (fail)
          obtain ⟨g, eg⟩ : ∃ z, z = w10.heap.size := ⟨_, rfl⟩
          obtain ⟨w11, e11⟩ : ∃ V : World, V = w10.alloc (.cells #[.string (idL n.l.id), .string (slL n.l.sl), .string (boL n.l.bo), .int .i64 n.l.pr, .int .i64 n.l.at_, .int .i64 n.l.un, .int .i64 n.s, .int .i64 n.t, .int .i64 n.c] 40) := ⟨_, rfl⟩
          have hb11 : Below w10.heap.size w10 w11 := by rw [e11]; exact (Below.refl _ _).alloc (Nat.le_refl _) _
          have hg11 : w11.heap[g]? = some (.cells #[.string (idL n.l.id), .string (slL n.l.sl), .string (boL n.l.bo), .int .i64 n.l.pr, .int .i64 n.l.at_, .int .i64 n.l.un, .int .i64 n.s, .int .i64 n.t, .int .i64 n.c] 40 (0, 0)) := by rw [e11, eg]; exact heap_new w10 _
          have hgg : w10.heap.size ≤ g := by omega
          have hgw : wr.heap.size ≤ g := by have := hb10.size; omega
          rw [← eg, ← e11]
          clear eg e11 hlk d0
          have hlg11 : g < w11.heap.size := (Array.getElem?_eq_some_iff.1 hg11).1
          have hgl11 := (hb11.block gl hlg10).trans hg10
          have hll11 : gl < w11.heap.size := by have := hb11.size; omega
          have HB11 := Lib.hid (hb10.trans (hb11.mono hb10.size))
          have k6 := cell_of_blk (j := 6) hg11 rfl
          have k7 := cell_of_blk (j := 7) hg11 rfl
          have k8 := cell_of_blk (j := 8) hg11 rfl
          have g6 : w11.frozen? ⟨g, 6, none⟩ = false := by simp [World.frozen?, hg11]
          have g7 : w11.frozen? ⟨g, 7, none⟩ = false := by simp [World.frozen?, hg11]
          have g8 : w11.frozen? ⟨g, 8, none⟩ = false := by simp [World.frozen?, hg11]
          have x1 : (w11.setCell ⟨g, 6, none⟩ (.int .i64 2)).heap[g]? = some (.cells #[.string (idL n.l.id), .string (slL n.l.sl), .string (boL n.l.bo), .int .i64 n.l.pr, .int .i64 n.l.at_, .int .i64 n.l.un, .int .i64 2, .int .i64 n.t, .int .i64 n.c] 40 (0, 0)) := (setblkO (j := 6) (.int .i64 2) hg11).trans rfl
          have x2 : ((w11.setCell ⟨g, 6, none⟩ (.int .i64 2)).setCell ⟨g, 8, none⟩ (.int .i64 a)).heap[g]? = some (.cells #[.string (idL n.l.id), .string (slL n.l.sl), .string (boL n.l.bo), .int .i64 n.l.pr, .int .i64 n.l.at_, .int .i64 n.l.un, .int .i64 2, .int .i64 n.t, .int .i64 a] 40 (0, 0)) := (setblkO (j := 8) (.int .i64 a) x1).trans rfl
          have x3 : (((w11.setCell ⟨g, 6, none⟩ (.int .i64 2)).setCell ⟨g, 8, none⟩ (.int .i64 a)).setCell ⟨g, 7, none⟩ (.int .i64 (n.t + 1))).heap[g]? = some (.cells #[.string (idL n.l.id), .string (slL n.l.sl), .string (boL n.l.bo), .int .i64 n.l.pr, .int .i64 n.l.at_, .int .i64 n.l.un, .int .i64 2, .int .i64 (n.t + 1), .int .i64 a] 40 (0, 0)) := (setblkO (j := 7) (.int .i64 (n.t + 1)) x2).trans rfl
          have HX3 := Lib.hid x3
          clear x1 x2 x3 hb10 hb11 hg10
          go_upto_region 21 with (fail)
          obtain ⟨w12, e12⟩ : ∃ V : World, V = ((w11.setCell ⟨g, 6, none⟩ (.int .i64 2)).setCell ⟨g, 8, none⟩ (.int .i64 a)).setCell ⟨g, 7, none⟩ (.int .i64 (n.t + 1)) := ⟨_, rfl⟩
          have hg12 := HX3.out
          rw [← e12] at hg12 ⊢
          have ho12 : Oth w11 w12 g := by rw [e12]; exact ⟨by simp [World.setCell], fun b hb => by rw [setcO _ _ _ _ _ hb, setcO _ _ _ _ _ hb, setcO _ _ _ _ _ hb], by simp only [World.setCell], by simp only [World.setCell], by simp only [World.setCell]⟩
          clear e12 HX3 k6 k7 k8 g6 g7 g8
          have HB12 := Lib.hid (Oth.belowT HB11.out ho12 hgw)
          have HM12 := Lib.hid (HMi.out.1.below HB12.out)
          have hlg12 : g < w12.heap.size := (Array.getElem?_eq_some_iff.1 hg12).1
          have hgl12 := (ho12.blk gl (by omega)).trans hgl11
          have hll12 : gl < w12.heap.size := by rw [ho12.size]; exact hll11
          have d0 := cell_of_blk (j := 0) hgl12 rfl
          have k0 := cell_of_blk (j := 0) hg12 rfl
          have k1 := cell_of_blk (j := 1) hg12 rfl
          have k2 := cell_of_blk (j := 2) hg12 rfl
          have k3 := cell_of_blk (j := 3) hg12 rfl
          have k4 := cell_of_blk (j := 4) hg12 rfl
          have k5 := cell_of_blk (j := 5) hg12 rfl
          have k6 := cell_of_blk (j := 6) hg12 rfl
          have k7 := cell_of_blk (j := 7) hg12 rfl
          have k8 := cell_of_blk (j := 8) hg12 rfl
          obtain ⟨w13, Mj, cj, hup, hM13, hK13, ho13, hf13⟩ := upd_mp (P := Tryz.prog) (w := w12) Tryz.underlying80 Tryz.underlying9 (n := { n with s := 2, t := n.t + 1, c := a }) hid6 HMi.out.2.1 HM12.out
          unfold onV at hup
          dsimp only at hup
          have HM13 := Lib.hid (show MpI w13 m1 Mj cj ∧ MpOk Mj cj ∧ fM Mj = fetH f1 a (W.take (i + 1)) from ⟨hM13, hK13, by rw [hf13]; exact HNX.out _ HMi.out.2.2⟩)
          have HG13 := Lib.hid (show w9.grownBy w13 (some m1) from grown_trans (grown_below HGi.out HB12.out) ho13.grown)
          clear hM13 hK13 ho13 hf13 ho12 hg12 hgl12 hgl11 hg11
          go_wp2_with (fail)
          go_roundw
          case rel => exact ⟨i + 1, Mj, cj, by omega, by go_num, HM13, HG13⟩
          case measure => simp [intOf]; omega
        · have hltI : ¬ (i : Int) < nn := by omega
          have hin : i = nn := by omega
          have hw8 := HB8.out.size
          have HWr := Lib.hid (HB9.out.grown HGi.out HB9.out.size (fun k hk => by cases hk; exact hlm))
          have HTA := Lib.hid (show W.take nn = W.take mn from by rw [HNM.out.1, ← HNM.out.2]; exact (List.take_eq_take_min).symm)
          have HKE := Lib.hid (keep_any wr o m m1 ck ci M Mi p tm a (HO.out.below HWr.out) HMi.out.1 HMi.out.2.1)
          have HFE := Lib.hid (show fM Mi = fetH f1 a (W.take mn) from by rw [HMi.out.2.2, hin, HTA.out])
          clear hi hin
          go_wp2_with (fail)
          refine HKE.out.mono ?_
          rintro e wb ⟨rfl, hofb, hob⟩
          have HFB := Lib.hid (show FetPost w o p (fM M) a mn (.returned (.tuple #[.slice A9 nn c9, .int .i64 0])) wb from
            ⟨f1, W, .slice A9 nn c9, m1, ci, Mi, HAD.out, HWT.out, rfl, own_baseO (by rw [HNM.out.2, ← HNM.out.1, ← HTA.out]; exact own_oth HRow.out hob (fun b hb => by have := (HRow.out.lt b hb).1; omega)) (by omega), hofb, ⟨hob.os.trans HWr.out.os, hob.tape.trans HWr.out.tape, hob.output.trans HWr.out.output, by rw [hob.size]; exact HWr.out.size, fun b hb hne => (hob.blk b (fun e => hne (by rw [e]))).trans (HWr.out.block b hb)⟩, HFE.out⟩)
          clear hofb hob
          go_wp2_with (fail)
          exact bodyPost_ret (v := .tuple #[.slice A9 nn c9, .int .i64 0]) (by simp [results, Tryz.results14, go_sem]) rfl HFB.out
    · have HQ := Lib.hid hlen
      have HI7 := Lib.hid hI7
      have HO7 := Lib.hid ho7
      have HB7 := Lib.hid (Oth.belowT HBM.out.1 ho7 hwri)
      have HE7 := Lib.hid (show w7.heap[m1]? = w6.heap[m1]? from (ho7.blk m1 (Ne.symm hrm)).trans HBM.out.2)
      obtain ⟨n, en⟩ : ∃ z, z = q.2 := ⟨_, rfl⟩
      have HSN := Lib.hid (waD_snoc D q)
      rw [← en] at hrun hen HSN
      unfold onV at hrun hen
      clear hq hqD hlen hI7 en ho7
      go_upto_region 11 with (fail)
      obtain ⟨g, eg⟩ : ∃ z, z = w7.heap.size := ⟨_, rfl⟩
      obtain ⟨w8, e8⟩ : ∃ V : World, V = w7.alloc (.cells #[.string (idL n.l.id), .string (slL n.l.sl), .string (boL n.l.bo), .int .i64 n.l.pr, .int .i64 n.l.at_, .int .i64 n.l.un, .int .i64 n.s, .int .i64 n.t, .int .i64 n.c] 40) := ⟨_, rfl⟩
      have hb8 : Below w7.heap.size w7 w8 := by rw [e8]; exact (Below.refl _ _).alloc (Nat.le_refl _) _
      have hg8 : w8.heap[g]? = some (.cells #[.string (idL n.l.id), .string (slL n.l.sl), .string (boL n.l.bo), .int .i64 n.l.pr, .int .i64 n.l.at_, .int .i64 n.l.un, .int .i64 n.s, .int .i64 n.t, .int .i64 n.c] 40 (0, 0)) := by rw [e8, eg]; exact heap_new w7 _
      rw [← eg, ← e8]
      clear eg e8
      have hlg8 : g < w8.heap.size := (Array.getElem?_eq_some_iff.1 hg8).1
      have k0 := cell_of_blk (j := 0) hg8 rfl
      have k1 := cell_of_blk (j := 1) hg8 rfl
      have k2 := cell_of_blk (j := 2) hg8 rfl
      have k3 := cell_of_blk (j := 3) hg8 rfl
      have k4 := cell_of_blk (j := 4) hg8 rfl
      have k5 := cell_of_blk (j := 5) hg8 rfl
      have k6 := cell_of_blk (j := 6) hg8 rfl
      have k7 := cell_of_blk (j := 7) hg8 rfl
      have k8 := cell_of_blk (j := 8) hg8 rfl
      have HI8 := Lib.hid (HI7.out.keep (hb8.block ri HI7.out.lt))
      have HB8 := Lib.hid (show Below w.heap.size w w8 ∧ w8.heap[m1]? = w6.heap[m1]? from ⟨HB7.out.trans (hb8.mono HB7.out.size), (hb8.block m1 (by have := HMr.out.lt; have := HO7.out.size; omega)).trans HE7.out⟩)
      have HR8 := Lib.hid (own_below (own_oth HR.out HO7.out (fun b hb => by have := (HR.out.lt b hb).1; omega)) hb8)
      have HS8 := Lib.hid (show w6.heap.size ≤ w8.heap.size from by have := hb8.size; have := HO7.out.size; have := HS.out; omega)
      clear hb8 hg8
      by_cases hs1 : n.s = 1
      case neg =>
        have b1 : (n.s == 1) = false := by simpa using hs1
        have e := HSN.out
        rw [show waB n = false from decide_eq_false hs1] at e
        have HSE := Lib.hid (show waD (D ++ [q]) = waD D from e)
        clear e hs1
        go_wp2_with (fail)
        go_roundw
        case rel => exact ⟨D ++ [q], HI8, HB8, Lib.hid (by rw [HSE.out]; exact HR8.out), HS8⟩
        case measure => rw [HI8.out.len, HI.out.len]; have := HQ.out; simp; omega
      have b1 : (n.s == 1) = true := by simpa using hs1
      have e := HSN.out
      rw [show waB n = true from decide_eq_true hs1] at e
      have HSE := Lib.hid (show waD (D ++ [q]) = waD D ++ [n.l] from e)
      clear e hs1
      obtain ⟨tl, etl⟩ : ∃ z, z = (waD D).length := ⟨_, rfl⟩
      have htl : tl ≤ 6 := by have := waD_len D; have := HQ.out; omega
      rw [← etl] at HR8
      have HTL := Lib.hid etl
      clear etl hml
      go_wp2_with (at_builtin; refine wpList_append_own2 _ rfl _ _ 26 rfl w6.heap.size 35 i0 _ 6 72 Tryz.underlying26 hi0 hz0 hz1 hz2 rfl (by decide) _ _ _ rfl (HR8.out.alloc _) ⟨_, 0, none⟩ 1 1 (olC n.l) rfl rfl ?c1 ?c2 ?c3 ?c4 ?c5 ?_)
      case c1 => exact cells_add (cells_atO (by rfl) (by first | rfl | omega))
      case c2 => exact olC_one n.l
      case c3 => unfold maxLen; omega
      case c4 => omega
      case c5 => have := HS8.out; first | omega | (simp; omega)
      intro v9 w9 ho9 hg9 hm9
      have hlo : ∀ k, u10.ownBlock = some k → w6.heap.size ≤ k := fun k hk => (HR8.out.lt k hk).1
      have hb89 : Below w6.heap.size w8 w9 := ((Below.refl w6.heap.size w8).alloc HS8.out _).grown hg9 (by have := HS8.out; simp; omega) hlo
      have HI9 := Lib.hid (HI8.out.keep (hb89.block ri (by omega)))
      have HB9 := Lib.hid (show Below w.heap.size w w9 ∧ w9.heap[m1]? = w6.heap[m1]? from ⟨⟨hb89.os.trans HB8.out.1.os, hb89.tape.trans HB8.out.1.tape, hb89.output.trans HB8.out.1.output, Nat.le_trans HB8.out.1.size hb89.size, fun b hb => (hb89.block b (by have := HB6.out.size; omega)).trans (HB8.out.1.block b hb)⟩, (hb89.block m1 hm6).trans HB8.out.2⟩)
      have HR9 := Lib.hid (show w9.ownsRow w6.heap.size 35 6 v9 (waD (D ++ [q])).length (recs olC (waD (D ++ [q]))) from by
        rw [HSE.out, recs_snoc, List.length_append, ← HTL.out]
        exact ho9)
      have HS9 := Lib.hid (show w6.heap.size ≤ w9.heap.size from Nat.le_trans HS8.out hb89.size)
      clear ho9 hg9 hm9 hlo hb89
      go_wp2_with (fail)
      go_roundw
      case rel => exact ⟨D ++ [q], HI9, HB9, HR9, HS9⟩
      case measure => rw [HI9.out.len, HI.out.len]; have := HQ.out; simp; omega
end Go.Proofs.YtnnncddjcdjhoaaGreatDoor
