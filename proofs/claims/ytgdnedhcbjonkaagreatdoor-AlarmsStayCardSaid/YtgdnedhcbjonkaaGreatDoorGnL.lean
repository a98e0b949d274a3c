/- Ladders of the stream, as a function of the list but for where the rungs lie. Printed by gen_GnL.py out of XLdG. -/
import Derived.Test.YtgdnedhcbjonkaaGreatDoorLdS
namespace Go.Proofs.YtgdnedhcbjonkaaGreatDoor
open Go.RowKit

def lePk : List Int := [0, 0, 1000]
theorem lePk_range (j : Nat) (h : j < 3) : 0 ≤ lePk.getD j 0 ∧ lePk.getD j 0 ≤ 1000 := by
  have : j = 0 ∨ j = 1 ∨ j = 2 := by omega
  rcases this with h | h | h <;> subst h <;> decide
def lfPk : List Int := [0, 5]
theorem lfPk_range (j : Nat) (h : j < 2) : 0 ≤ lfPk.getD j 0 ∧ lfPk.getD j 0 ≤ 5 := by
  have : j = 0 ∨ j = 1 := by omega
  rcases this with h | h <;> subst h <;> decide
def lgPk : List Int := [1, 10, 30]
theorem lgPk_range (j : Nat) (h : j < 3) : 1 ≤ lgPk.getD j 0 ∧ lgPk.getD j 0 ≤ 30 := by
  have : j = 0 ∨ j = 1 ∨ j = 2 := by omega
  rcases this with h | h | h <;> subst h <;> decide
theorem tm2_pick (j : Nat) (h : j < 2) : ([1, 0].map tmT).getD j ⟨#[]⟩ = tmT ([1, 0].getD j 0) := by
  have : j = 0 ∨ j = 1 := by omega
  rcases this with h | h <;> subst h <;> rfl
theorem tm3_pick (j : Nat) (h : j < 2) : ([2, 1].map tmT).getD j ⟨#[]⟩ = tmT ([2, 1].getD j 0) := by
  have : j = 0 ∨ j = 1 := by omega
  rcases this with h | h <;> subst h <;> rfl
theorem ru_pick (b j : Nat) (h : j < 3) : ([b, 2, 0].map ruT).getD j ⟨#[]⟩ = ruT ([b, 2, 0].getD j 0) := by
  have : j = 0 ∨ j = 1 ∨ j = 2 := by omega
  rcases this with h | h | h <;> subst h <;> rfl
theorem ev4_range (e : Int) (j : Nat) (h : j < 4) (h1 : -1 ≤ e ∧ e ≤ 1000) : -1 ≤ [e, 999, 1, -1].getD j 0 ∧ [e, 999, 1, -1].getD j 0 ≤ 1000 := by
  have : j = 0 ∨ j = 1 ∨ j = 2 ∨ j = 3 := by omega
  rcases this with h | h | h | h <;> subst h <;> simp <;> omega
/-- The stages of the odd ladder. -/
def ldX (x : Ld) (r : Nat) (ev : Int) : Nat → Ld
  | 0 => x
  | 1 => x
  | 2 => x
  | 3 => { x with r := r }
  | _ => { x with r := r, ev := ev }
def ldO : Nat → Nat
  | 0 => 0
  | 1 => 1
  | _ => 2
theorem ldX_low (x : Ld) (r : Nat) (ev : Int) (s : Nat) (hs : s ≤ 2) : ldX x r ev s = x := by
  have : s = 0 ∨ s = 1 ∨ s = 2 := by omega
  rcases this with h | h | h <;> subst h <;> rfl
/-- A ladder without the place of its rungs. -/
abbrev Lp := Nat × List (Int × Nat) × Int
def ldP (x : Ld) : Lp := (x.r, x.g, x.ev)
def laR (xs : LiA) (kx : Nat) (a0 : Int) : Nat → Int × List (Int × Nat)
  | 0 => (a0, [])
  | q + 1 => ((laR xs kx a0 q).1 + lgPk.getD (nextN xs (kx + 2 * q + 1) 3) 0, (laR xs kx a0 q).2 ++ [((laR xs kx a0 q).1, [1, 0].getD (nextN xs (kx + 2 * q) 2) 0)])
theorem laR_step {xs : LiA} {kx q k2 tt : Nat} {a0 af da : Int} {g : List (Int × Nat)} (h : laR xs kx a0 q = (af, g)) (hk : k2 = kx + 2 * q) (htt : tt = [1, 0].getD (nextN xs k2 2) 0) (hda : da = lgPk.getD (nextN xs (k2 + 1) 3) 0) : laR xs kx a0 (q + 1) = (af + da, g ++ [(af, tt)]) := by
  subst hk
  rw [laR, h, htt, hda]
def laA (xs : LiA) (k : Nat) : Nat → Nat × List Lp
  | 0 => (k, [])
  | j + 1 => if nextV xs (laA xs k j).1 3 = 0 then ((laA xs k j).1 + 1, (laA xs k j).2)
    else ((laA xs k j).1 + 1 + 1 + 1 + 1 + 2 * (1 + nextV xs ((laA xs k j).1 + 1 + 1 + 1) 3).toNat, (laA xs k j).2 ++ [(j, (laR xs ((laA xs k j).1 + 1 + 1 + 1 + 1) (lfPk.getD (nextN xs ((laA xs k j).1 + 1 + 1) 2) 0) (1 + nextV xs ((laA xs k j).1 + 1 + 1 + 1) 3).toNat).2, lePk.getD (nextN xs ((laA xs k j).1 + 1) 3) 0)])
theorem laA_skip {xs : LiA} {k j k' : Nat} {P : List Lp} (h : laA xs k j = (k', P)) (hb : true = decide (nextV xs k' 3 = 0)) : laA xs k (j + 1) = (k' + 1, P) := by
  rw [laA, h, if_pos (by simpa using hb.symm)]
theorem laA_step {xs : LiA} {k j k' N kx : Nat} {af a0 ev : Int} {g : List (Int × Nat)} {L : List Ld} {z : Ld} (h : laA xs k j = (k', L.map ldP)) (hb : false = decide (nextV xs k' 3 = 0)) (hev : ev = lePk.getD (nextN xs (k' + 1) 3) 0) (ha : a0 = lfPk.getD (nextN xs (k' + 1 + 1) 2) 0)
    (hN : N = (1 + nextV xs (k' + 1 + 1 + 1) 3).toNat) (hkx : kx = k' + 1 + 1 + 1 + 1) (hR : laR xs kx a0 N = (af, g)) (hz : ldP z = (j, g, ev)) : laA xs k (j + 1) = (kx + 2 * N, (L ++ [z]).map ldP) := by
  rw [laA, h, if_neg (by simpa using hb.symm), ← hN, ← ha, ← hev, ← hkx, hR, List.map_append]
  simp only [List.map_cons, List.map_nil, hz]
def laF (xs : LiA) (k : Nat) : List Lp × Nat :=
  if (laA xs k 2).2.length = 0 then ((laA xs k 2).2, (laA xs k 2).1)
  else if nextV xs (laA xs k 2).1 12 = 0 then
    match (laA xs k 2).2[nextN xs ((laA xs k 2).1 + 1) (laA xs k 2).2.length]? with
    | some x =>
      if nextV xs ((laA xs k 2).1 + 1 + 1 + 2) 2 = 0 then
        ((laA xs k 2).2.set (nextN xs ((laA xs k 2).1 + 1) (laA xs k 2).2.length) ([x.1, 2, 0].getD (nextN xs ((laA xs k 2).1 + 1 + 1) 3) 0, x.2.1 ++ [(oddM xs ((laA xs k 2).1 + 1 + 1 + 2 + 1), [2, 1].getD (nextN xs ((laA xs k 2).1 + 1 + 1 + 2 + 1 + 2) 2) 0)], [x.2.2, 999, 1, -1].getD (nextN xs ((laA xs k 2).1 + 1 + 1 + 1) 4) 0), (laA xs k 2).1 + 1 + 1 + 2 + 1 + 3)
      else ((laA xs k 2).2.set (nextN xs ((laA xs k 2).1 + 1) (laA xs k 2).2.length) ([x.1, 2, 0].getD (nextN xs ((laA xs k 2).1 + 1 + 1) 3) 0, x.2.1, [x.2.2, 999, 1, -1].getD (nextN xs ((laA xs k 2).1 + 1 + 1 + 1) 4) 0), (laA xs k 2).1 + 1 + 1 + 2 + 1)
    | none => ([], 0)
  else ((laA xs k 2).2, (laA xs k 2).1 + 1)
theorem laF_nil {xs : LiA} {k k' : Nat} {L : List Ld} (h : laA xs k 2 = (k', L.map ldP)) (hn : L.length = 0) : laF xs k = (L.map ldP, k') := by
  unfold laF
  rw [h, if_pos (by rw [List.length_map]; exact hn)]
theorem laF_no {xs : LiA} {k k' n : Nat} {L : List Ld} (h : laA xs k 2 = (k', L.map ldP)) (hn : L.length = n) (h0 : ¬ n = 0) (hb : false = decide (nextV xs k' 12 = 0)) : laF xs k = (L.map ldP, k' + 1) := by
  unfold laF
  rw [h, if_neg (by rw [List.length_map, hn]; exact h0), if_neg (by simpa using hb.symm)]
theorem map_get {L : List Ld} {i : Nat} {x : Ld} (h : L[i]? = some x) : (L.map ldP)[i]? = some (ldP x) := by rw [List.getElem?_map, h]; rfl
theorem laF_one {xs : LiA} {k k' n i kk k8 vr : Nat} {ve : Int} {L M : List Ld} {x : Ld} (h : laA xs k 2 = (k', L.map ldP)) (hn : L.length = n) (h0 : ¬ n = 0) (hb : true = decide (nextV xs k' 12 = 0)) (hi : i = nextN xs (k' + 1) n) (hx : L[i]? = some x) (hkk : kk = k' + 1 + 1)
    (hv : [x.r, 2, 0].getD (nextN xs kk 3) 0 = vr ∧ [x.ev, 999, 1, -1].getD (nextN xs (kk + 1) 4) 0 = ve) (hM : M.map ldP = (L.map ldP).set i (vr, x.g, ve)) (h3 : false = decide (nextV xs (kk + 2) 2 = 0)) (hk8 : k8 = kk + 2 + 1) : laF xs k = (M.map ldP, k8) := by
  unfold laF
  subst hkk hk8
  rw [h, if_neg (by rw [List.length_map, hn]; exact h0), if_pos (by simpa using hb.symm), List.length_map, hn, ← hi, map_get hx]
  simp only
  rw [if_neg (by simpa using h3.symm), hM]
  simp only [ldP, hv.1, hv.2]
theorem laF_two {xs : LiA} {k k' n i kk k8 vr vt : Nat} {ve vo : Int} {L M : List Ld} {x y z : Ld} (h : laA xs k 2 = (k', L.map ldP)) (hn : L.length = n) (h0 : ¬ n = 0) (hb : true = decide (nextV xs k' 12 = 0)) (hi : i = nextN xs (k' + 1) n) (hx : L[i]? = some x) (hkk : kk = k' + 1 + 1)
    (hv : [x.r, 2, 0].getD (nextN xs kk 3) 0 = vr ∧ [x.ev, 999, 1, -1].getD (nextN xs (kk + 1) 4) 0 = ve) (hM : M.map ldP = (L.map ldP).set i (vr, x.g, ve)) (h3 : true = decide (nextV xs (kk + 2) 2 = 0)) (hk8 : k8 = kk + 2 + 1)
    (hy : M[i]? = some y) (hvo : oddM xs k8 = vo) (hvt : vt = [2, 1].getD (nextN xs (k8 + 2) 2) 0) (hz : ldP z = (y.r, y.g ++ [(vo, vt)], y.ev)) : laF xs k = ((M.set i z).map ldP, k8 + 3) := by
  have hil := (List.getElem?_eq_some_iff.1 hx).1
  have ey : ldP y = (vr, x.g, ve) := by
    have h1 := map_get hy
    rw [hM, List.getElem?_set_self (by rw [List.length_map]; exact hil)] at h1
    exact (Option.some.inj h1).symm
  have e1 : y.r = vr := congrArg Prod.fst ey
  have e2 : y.g = x.g := congrArg (fun p : Lp => p.2.1) ey
  have e3 : y.ev = ve := congrArg (fun p : Lp => p.2.2) ey
  unfold laF
  subst hkk hk8
  rw [h, if_neg (by rw [List.length_map, hn]; exact h0), if_pos (by simpa using hb.symm), List.length_map, hn, ← hi, map_get hx]
  simp only
  rw [if_pos (by simpa using h3.symm), List.map_set, hM, List.set_set, hz, e1, e2, e3]
  simp only [ldP, hv.1, hv.2, hvo, hvt]
def LdPost (w : World) (p k : Nat) (xs : LiA) (e : Ending) (w' : World) : Prop :=
  ∃ (L : List Ld) (A : Option Addr) (c k' n : Nat), laF xs k = (L.map ldP, k') ∧ e = .returned (.slice A n c) ∧ (∀ x ∈ L, LdG x) ∧ L.length = n ∧ n ≤ 2 ∧ w'.ownsRow w.heap.size 59 3 (.slice A n c) n (recs ldC L) ∧ LdI w' w.heap.size L ∧ Strm w' p xs k' ∧ k' ≤ k + 60 ∧ w.grownBy w' (some p)
theorem LdI.set_same {w : World} {B i : Nat} {L : List Ld} {x y : Ld} (h : LdI w B L) (hx : L[i]? = some x) (hv : ldV y = ldV x) (hg : y.g = x.g) : LdI w B (L.set i y) := by
  have hil := (List.getElem?_eq_some_iff.1 hx).1
  have cas : ∀ (k : Nat) (a : Ld), (L.set i y)[k]? = some a → ∃ b, L[k]? = some b ∧ ldV a = ldV b ∧ a.g = b.g := fun k a hk => by
    by_cases e : i = k
    · subst e
      rw [List.getElem?_set_self hil] at hk
      cases hk
      exact ⟨x, hx, hv, hg⟩
    · rw [List.getElem?_set_ne e] at hk
      exact ⟨a, hk, rfl, rfl⟩
  refine ⟨fun a ha => ?_, fun j k a b hne ha hb q hq => ?_⟩
  · obtain ⟨k, hk⟩ := List.getElem?_of_mem ha
    obtain ⟨b, hb, e1, e2⟩ := cas k a hk
    have := h.row b (List.mem_of_getElem? hb)
    rwa [← e1, ← e2] at this
  · obtain ⟨a', ha', e1, _⟩ := cas j a ha
    obtain ⟨b', hb', e2, _⟩ := cas k b hb
    rw [e1] at hq
    rw [e2]
    exact h.apart j k a' b' hne ha' hb' q hq
set_option maxRecDepth 100000 in
set_option maxHeartbeats 4000000 in
theorem ladders_any (w : World) (p k : Nat) (xs : LiA) (hk : k < 100000) (hs : Strm w p xs k) :
    Calls Tryz.prog 6 #[.pointer (some ⟨p, 0, none⟩)] w fun e w' => LdPost w p k xs e w' := by
  obtain ⟨i0, hi0, hz0, hz1, hz2⟩ := info_parts Tryz.infoLd
  obtain ⟨i1, hi1, hy0, hy1, hy2⟩ := info_parts Tryz.infoRg
  have hplt := hs.lt
  have HS := Lib.hid hs
  clear hs
  go_enter Tryz.func6, Tryz.ntmps6
  go_upto_region 3 with (fail)
  obtain ⟨gn, egn⟩ : ∃ g, g = w.heap.size := ⟨_, rfl⟩
  obtain ⟨w1, e1⟩ : ∃ V, V = w.alloc (.cells #[.string ⟨#[114, 97]⟩, .string ⟨#[114, 98]⟩] 9) := ⟨_, rfl⟩
  have hn1 : w1.heap[gn]? = some (.cells #[.string ⟨#[114, 97]⟩, .string ⟨#[114, 98]⟩] 9 (0, 0)) := by rw [e1, egn]; exact heap_new w _
  have HG01 := Lib.hid (show w.grownBy w1 (some p) from by rw [e1]; exact World.grownBy_alloc _ _ (some p))
  have HS1 := Lib.hid (show Strm w1 p xs k from by rw [e1]; exact HS.out.alloc _)
  have hgn1 : gn < w1.heap.size := by rw [e1, egn]; simp
  have hpg : p < gn := by omega
  have HGN := Lib.hid (fun (V : World) (hV : w1.grownBy V (some p)) => show V.cell? ⟨gn, 0, none⟩ = some (.string (ruT 0)) ∧ V.cell? ⟨gn, 1, none⟩ = some (.string (ruT 1)) from
    ⟨cell_of_blk (j := 0) ((hV.block gn hgn1 (by intro e; injection e with e; omega)).trans hn1) rfl, cell_of_blk (j := 1) ((hV.block gn hgn1 (by intro e; injection e with e; omega)).trans hn1) rfl⟩)
  rw [← egn, ← e1]
  have hgw : w.heap.size ≤ gn := by omega
  clear egn e1 hn1
  go_wp2_with (fail)
  go_loopw [3, 11] (fun v s wr => ∃ (j k' : Nat) (L : List Ld), j ≤ 2 ∧ s = .int .i64 (j : Int) ∧ (∀ x ∈ L, LdG x ∧ x.g.length ≤ 3) ∧ L.length ≤ j ∧ wr.ownsRow w1.heap.size 59 3 v L.length (recs ldC L) ∧ LdI wr w1.heap.size L ∧ Strm wr p xs k' ∧ k' ≤ k + 12 * j ∧ w1.grownBy wr (some p) ∧ Hid (laA xs k j = (k', L.map ldP))) (fun _ s _ => 2 - (intOf s).toNat)
  case atStart => exact ⟨0, k, [], by omega, rfl, by simp, by simp, World.ownsRow_nil _ _ _ _, LdI.nil _ _, HS1.out, by omega, grown_refl _ _, Lib.hid rfl⟩
  case round =>
    obtain ⟨j, k', L, hj, rfl, hok, hln, hown, hLI, hst, hk', hgr, HLA⟩ := hrel
    have HOK := Lib.hid hok
    have HO := Lib.hid hown
    have HLI := Lib.hid hLI
    have HST := Lib.hid hst
    have HGR := Lib.hid hgr
    have hrs := hgr.size
    have hplt2 := hst.lt
    by_cases hlt : j < 2
    · have hltI : (j : Int) < 2 := by omega
      obtain ⟨n0, n1⟩ := HGN.out wr hgr
      have hgnr : gn < wr.heap.size := by omega
      have nj : wr.cell? ⟨gn, j, none⟩ = some (.string (ruT j)) := by
        have : j = 0 ∨ j = 1 := by omega
        rcases this with rfl | rfl
        · exact n0
        · exact n1
      obtain ⟨ln, eln⟩ : ∃ n, n = L.length := ⟨_, rfl⟩
      rw [← eln] at HO hln
      have HLN := Lib.hid eln.symm
      clear hok hown hst hgr n0 n1 eln hLI
      go_wp2_with (fail)
      refine (flipD_any wr p k' xs 3 (by omega) (by omega) (by omega) HST.out).mono ?_
      obtain ⟨b1, eb1⟩ : ∃ b : Bool, b = decide (nextV xs k' 3 = 0) := ⟨_, rfl⟩
      rw [← eb1]
      have HB1F := Lib.hid eb1
      clear eb1
      rintro e w2 ⟨rfl, hst2, hg2⟩
      have hs2 := hg2.size
      have HO2 := Lib.hid (own_kept HO.out hg2 (by omega))
      have HLI2 := Lib.hid (HLI.out.kept hg2 (by omega))
      have HST2 := Lib.hid hst2
      have HG2 := Lib.hid (grown_trans HGR.out hg2)
      clear hst2 hg2
      cases b1 with
      | true =>
        go_wp2_with (fail)
        go_roundw
        case rel => exact ⟨j + 1, k' + 1, L, by omega, by go_num, HOK.out, by have := HLN.out; omega, by rw [HLN.out]; exact HO2.out, HLI2.out, HST2.out, by omega, HG2.out, Lib.hid (laA_skip HLA.out HB1F.out)⟩
        case measure => simp [intOf]; omega
      | false =>
      go_wp2_with (fail)
      refine (pick_any _ p (k' + 1) w2.heap.size 3 3 xs lePk (by omega) rfl (by omega) (by omega) (HST2.out.alloc _) (by omega) (Cells.new _ _ _ _ _ rfl)).mono ?_
      have hev := lePk_range (nextN xs (k' + 1) 3) (nextN_lt _ _ _ (by omega))
      obtain ⟨ev, eev⟩ : ∃ r, r = lePk.getD (nextN xs (k' + 1) 3) 0 := ⟨_, rfl⟩
      rw [← eev] at hev ⊢
      have HEV := Lib.hid eev
      clear eev nj
      rintro e w3 ⟨rfl, hst3, hg3⟩
      have hg3' := grown_of_alloc hg3
      have hs3 := hg3'.size
      have HO3 := Lib.hid (own_kept HO2.out hg3' (by omega))
      have HLI3 := Lib.hid (HLI2.out.kept hg3' (by omega))
      have HST3 := Lib.hid hst3
      have HG3 := Lib.hid (grown_trans HG2.out hg3')
      clear hst3 hg3 hg3'
      go_upto_region 7 with (fail)
      obtain ⟨gx, egx⟩ : ∃ g, g = w3.heap.size := ⟨_, rfl⟩
      obtain ⟨w4, e4⟩ : ∃ V, V = w3.alloc (.cells #[.string (ruT j), .slice none 0 0, .int .i64 ev] 59) := ⟨_, rfl⟩
      have hx4 : w4.heap[gx]? = some (.cells #[.string (ruT j), .slice none 0 0, .int .i64 ev] 59 (0, 0)) := by rw [e4, egx]; exact heap_new w3 _
      have hg34 : w3.grownBy w4 (some p) := by rw [e4]; exact World.grownBy_alloc _ _ (some p)
      have hs4 : gx + 1 ≤ w4.heap.size := by rw [e4, egx]; simp
      have HO4 := Lib.hid (own_kept HO3.out hg34 (by omega))
      have HLI4 := Lib.hid (HLI3.out.kept hg34 (by omega))
      have HST4 := Lib.hid (show Strm w4 p xs (k' + 1 + 1) from by rw [e4]; exact HST3.out.alloc _)
      have HG4 := Lib.hid (grown_trans HG3.out hg34)
      have HLT4 := Lib.hid (And.intro (fun b (hb : u3.ownBlock = some b) => show b < gx from by have := (HO3.out.lt b hb).2; omega) (fun y (hy : y ∈ L) b (hb : (ldV y).ownBlock = some b) => show b < gx from by have := ((HLI3.out.row y hy).lt b hb).2; omega))
      rw [← egx, ← e4]
      have HX4 := Lib.hid hx4
      have hgx1 : w1.heap.size ≤ gx := by omega
      clear egx e4 hx4 hg34
      have hgx4 : gx < w4.heap.size := by omega
      have hp4 : p < w4.heap.size := by omega
      go_wp2_with (fail)
      refine (pick_any _ p (k' + 1 + 1) w4.heap.size 2 2 xs lfPk (by omega) rfl (by omega) (by omega) (HST4.out.alloc _) (by omega) (Cells.new _ _ _ _ _ rfl)).mono ?_
      have haf := lfPk_range (nextN xs (k' + 1 + 1) 2) (nextN_lt _ _ _ (by omega))
      obtain ⟨af, eaf⟩ : ∃ r, r = lfPk.getD (nextN xs (k' + 1 + 1) 2) 0 := ⟨_, rfl⟩
      rw [← eaf] at haf ⊢
      have HAF := Lib.hid eaf
      obtain ⟨af0, eaf0⟩ : ∃ a, a = af := ⟨_, rfl⟩
      have HAF0 := Lib.hid eaf0
      clear eaf eaf0
      rintro e w5 ⟨rfl, hst5, hg5⟩
      have hg5' := grown_of_alloc hg5
      have hs5 := hg5'.size
      have HO5 := Lib.hid (own_kept HO4.out hg5' (by omega))
      have HLI5 := Lib.hid (HLI4.out.kept hg5' (by omega))
      have HST5 := Lib.hid hst5
      have HG5 := Lib.hid (grown_trans HG4.out hg5')
      have HX5 := Lib.hid ((hg5'.block gx hgx4 (by intro e; injection e with e; omega)).trans HX4.out)
      clear hst5 hg5 hg5'
      go_wp2_with (fail)
      refine (range_any w5 p (k' + 1 + 1 + 1) xs 1 3 (by omega) (by omega) (by omega) (by omega) (by omega) HST5.out).mono ?_
      have hNr := nextV_range xs (k' + 1 + 1 + 1) 3 (by omega)
      obtain ⟨N, eN⟩ : ∃ N : Nat, (N : Int) = 1 + nextV xs (k' + 1 + 1 + 1) 3 := ⟨(1 + nextV xs (k' + 1 + 1 + 1) 3).toNat, by omega⟩
      have hN : 1 ≤ N ∧ N ≤ 3 := by omega
      have eN' : 1 + nextV xs (k' + 1 + 1 + 1) (3 - 1 + 1) = (N : Int) := eN.symm
      rw [eN']
      have HNN := Lib.hid (show N = (1 + nextV xs (k' + 1 + 1 + 1) 3).toNat from by omega)
      clear eN eN' hNr
      rintro e w6 ⟨rfl, hst6, hg6⟩
      have hs6 := hg6.size
      have HO6 := Lib.hid (own_kept HO5.out hg6 (by omega))
      have HLI6 := Lib.hid (HLI5.out.kept hg6 (by omega))
      have HST6 := Lib.hid hst6
      have HG6 := Lib.hid (grown_trans HG5.out hg6)
      have HX6 := Lib.hid ((hg6.block gx (by omega) (by intro e; injection e with e; omega)).trans HX5.out)
      obtain ⟨kx, ekx⟩ : ∃ kx, kx = k' + 1 + 1 + 1 + 1 := ⟨_, rfl⟩
      rw [← ekx] at HST6
      have hkx : kx ≤ k + 12 * j + 4 := by omega
      obtain ⟨S0, eS0⟩ : ∃ S, S = w6.heap.size := ⟨_, rfl⟩
      have hxS : gx < S0 := by omega
      have hpx : p < gx := by omega
      have hpS : p < S0 := by omega
      clear hst6 hg6 HO2 HO3 HO4 HO5 HLI2 HLI3 HLI4 HLI5 HX4 HX5
      have HKX := Lib.hid ekx
      clear ekx
      go_wp2_with (fail)
      go_loopw [7, 27] (fun a s wx => ∃ (q : Nat) (af : Int) (v : Value) (g : List (Int × Nat)), q ≤ N ∧ s = .int .i64 (q : Int) ∧ a = .int .i64 af ∧ (0 ≤ af ∧ af ≤ 5 + 30 * (q : Int)) ∧ (∀ y ∈ g, 0 ≤ y.1 ∧ y.1 ≤ 1000) ∧ g.length = q ∧ KRm w6 p (kx + 2 * q) gx S0 xs j ev v v q g wx ∧ Hid (laR xs kx af0 q = (af, g))) (fun _ s _ => N - (intOf s).toNat)
      case atStart => exact ⟨0, af, .slice none 0 0, [], Nat.zero_le _, rfl, rfl, by omega, by simp, rfl, ⟨HX6.out, World.ownsRow_nil _ _ _ _, HST6.out, GrF.refl _ _⟩, Lib.hid (by rw [HAF0.out]; rfl)⟩
      case round =>
        obtain ⟨q, af, v, g, hq, rfl, rfl, hafr, hgok, hgl, hK, HLR⟩ := hrel
        have HGO := Lib.hid (And.intro hgok hgl)
        have HKR := Lib.hid hK
        have hks := hK.gr.size
        clear hgok hgl
        by_cases hql : q < N
        · have hqlI : (q : Int) < N := by omega
          obtain ⟨XA, xc, rfl⟩ := own_slice hK.row
          obtain ⟨k2, ek2⟩ : ∃ k2, k2 = kx + 2 * q := ⟨_, rfl⟩
          rw [← ek2] at HKR
          have hk2 : k2 < 100100 := by omega
          have hk2n : k2 = kx + 2 * q := ek2
          have hgxW := hK.lt
          have hpW : p < wr.heap.size := by omega
          have HVW := Lib.hid (fun b (hb : (Value.slice XA q xc).ownBlock = some b) => (hK.row.lt b hb).2)
          have hSW : S0 ≤ wr.heap.size := by omega
          clear hK ek2
          obtain ⟨tt, ett⟩ : ∃ v : Nat, v = [1, 0].getD (nextN xs k2 2) 0 := ⟨_, rfl⟩
          have HV := Lib.hid (show ([1, 0].map tmT).getD (nextN xs k2 2) ⟨#[]⟩ = tmT tt from by rw [ett]; exact tm2_pick _ (nextN_lt xs k2 2 (by omega)))
          have HTT := Lib.hid ett
          clear ett
          go_upto_region 10 with (fail)
          go_cut [] (fun wx => ∃ u, KRm wr p (k2 + 1) gx S0 xs j ev u u (q + 1) (g ++ [(af, tt)]) wx)
          case first =>
            have HK0 := Lib.hid (show KRm wr p k2 gx S0 xs j ev (.slice XA q xc) (.slice XA q xc) q g wr.drew from ⟨HKR.out.blk, HKR.out.row, HKR.out.strm, ⟨rfl, rfl, rfl, Nat.le_refl _, fun _ _ _ => rfl⟩⟩)
            refine qRegionSa (K10 wr p k2 gx S0 xs j ev (.slice XA q xc) q g (af, tt)) 8 1 37 _
              [.pointer (some ⟨gx, 1, none⟩), .slice XA q xc, .int .i64 af, .pointer (some ⟨p, 0, none⟩), undef, .string (tmT tt), .agg #[.int .i64 af, .string (tmT tt)], undef, undef, .pointer (some ⟨gx, 1, none⟩), .tuple #[]]
              [none, none, none, none, some (.cells #[.string ⟨#[111, 112, 115]⟩, .string ⟨#[98, 111, 115, 115]⟩] 9, fun b => .slice (some ⟨b, 0, none⟩) 2 2), none, none, some (.cells #[.int .i64 af, .string (tmT tt)] 62, fun b => .slice (some ⟨b, 0, none⟩) 1 1), none, none, none]
              [0, 0, 0, 0, 0, 1, 0, 0, 2, 0, 3]
              [3, 1, 3, 3, 3, 3, 3, 3, 3, 3, 3] 3 (by kernel_rfl) (by kernel_rfl) rfl rfl (by rfl) rfl rfl rfl rfl HK0.out (fun u s w o h => K10_alloc h o) ?_ ?_ ?_
            · intro u; simp only [putL, Act.put, List.setIfInBounds_toArray, List.set_cons_zero, List.set_cons_succ]
              refine ⟨?_, ?_, ?_, ?_, ?_, ?_, ?_, ?_, ?_, ?_, ?_, trivial⟩
              · exact fun _ => OneSt.pure (fun G V => by simp only [putH, Act.put, List.setIfInBounds_toArray, List.set_cons_zero, List.set_cons_succ]; go_simp)
              · exact fun _ => OneSt.load (fun G s V hK hs => by obtain ⟨kq, hq⟩ := K10_low hK hs; have c0 := hq.cell1; have hgl := hq.lt; simp only [putH, Act.put, List.setIfInBounds_toArray, List.set_cons_zero, List.set_cons_succ]; go_simp)
              · exact fun _ => OneSt.pure (fun G V => by simp only [putH, Act.put, List.setIfInBounds_toArray, List.set_cons_zero, List.set_cons_succ]; go_simp)
              · exact fun _ => OneSt.pure (fun G V => by simp only [putH, Act.put, List.setIfInBounds_toArray, List.set_cons_zero, List.set_cons_succ]; go_simp)
              · exact fun _ => OneSt.lay (fun G V => by simp only [putH, Act.put, List.setIfInBounds_toArray, List.set_cons_zero, List.set_cons_succ]; go_simp)
              · exact fun _ => OneSt.call (fun G V hK hL => ⟨_, _, by simp only [putH, Act.put, List.setIfInBounds_toArray, List.set_cons_zero, List.set_cons_succ]; go_simp <;> exact ⟨rfl, rfl⟩, by obtain ⟨hg1, hg2⟩ := hL 4 _ _ rfl (by kernel_rfl); exact (some_any V p k2 (G 4) 2 2 xs ([1, 0].map tmT) (by omega) rfl (by omega) (by omega) (KRm.strm hK) (by omega) (cells_blk hg2 rfl)).mono (fun e w' h => ⟨by rw [h.1, HV.out], KRm.call hK h.2.2 hpx hpS hpW h.2.1⟩)⟩)
              · exact fun _ => OneSt.pure (fun G V => by simp only [putH, Act.put, List.setIfInBounds_toArray, List.set_cons_zero, List.set_cons_succ]; go_simp)
              · exact fun _ => OneSt.lay (fun G V => by simp only [putH, Act.put, List.setIfInBounds_toArray, List.set_cons_zero, List.set_cons_succ]; go_simp)
              · exact fun h => absurd rfl h
              · exact fun _ => OneSt.pure (fun G V => by simp only [putH, Act.put, List.setIfInBounds_toArray, List.set_cons_zero, List.set_cons_succ]; go_simp)
              · exact fun _ => OneSt.store (fun G V hK hL => by obtain ⟨UA, uc, rfl⟩ := own_slice (KRm.row hK); have c0 := KRm.cell1 hK; have f0 := KRm.fro hK; have hgl := KRm.lt hK; have hs := KRm.store hK hpx hxS hgxW; refine ⟨_, ?_, rfl, hs.1, hs.2⟩; simp only [putH, Act.put, List.setIfInBounds_toArray, List.set_cons_zero, List.set_cons_succ]; go_simp)
            · intro u G V hK hL
              obtain ⟨hg1, hg2⟩ := hL 7 _ _ rfl (by kernel_rfl)
              refine app_st (.tmp 30) (.tmp 36) 57 rfl S0 62 i1 _ 2 24 Tryz.underlying57 hi1 hy0 hy1 hy2 rfl (by decide) (.slice XA q xc) q (recs rgC g) ?_ (KRm.row hK) ⟨G 7, 0, none⟩ 1 1 (rgC (af, tt)) ?_ rfl (cells_add (cells_blk hg2 rfl)) (rgC_one _) (by unfold maxLen; omega) (by omega) (by have := (KRm.gr hK).size; omega) ?_
              · simp only [putL, putH, Act.put, List.setIfInBounds_toArray, List.set_cons_zero, List.set_cons_succ]; rfl
              · simp only [putL, putH, Act.put, List.setIfInBounds_toArray, List.set_cons_zero, List.set_cons_succ]; rfl
              · intro v' w2 ho hg hm
                rw [← recs_snoc] at ho
                exact KRm.app hK ho hg hpx hxS HVW.out
            · intro u G W7 hK hsz hG
              clear hG
              have HK := Lib.hid hK
              clear hK
              simp only [putL, putH, Act.put, List.setIfInBounds_toArray, List.set_cons_zero, List.set_cons_succ]
              go_wp2_with (fail)
              go_meet
              exact ⟨u, HK.out⟩
          case rest =>
          obtain ⟨u, hKu⟩ := hcut
          obtain ⟨w7, ew7⟩ : ∃ w7 : World, w7 = wc := ⟨_, rfl⟩
          rw [← ew7] at hKu ⊢
          clear ew7
          have hs7 := hKu.gr.size
          have HK7 := Lib.hid (show KRm w6 p (k2 + 1) gx S0 xs j ev u u (q + 1) (g ++ [(af, tt)]) w7 from ⟨hKu.blk, hKu.row, hKu.strm, HKR.out.gr.trans hKu.gr⟩)
          clear hKu
          go_wp2_with (fail)
          refine (pick_any _ p (k2 + 1) w7.heap.size 3 3 xs lgPk (by omega) rfl (by omega) (by omega) (HK7.out.strm.alloc _) (by omega) (Cells.new _ _ _ _ _ rfl)).mono ?_
          have hda := lgPk_range (nextN xs (k2 + 1) 3) (nextN_lt _ _ _ (by omega))
          obtain ⟨da, eda⟩ : ∃ r, r = lgPk.getD (nextN xs (k2 + 1) 3) 0 := ⟨_, rfl⟩
          rw [← eda] at hda ⊢
          have HLR2 := Lib.hid (laR_step HLR.out hk2n HTT.out eda)
          clear eda
          rintro e w8 ⟨rfl, hst8, hg8⟩
          have HK8 := Lib.hid (HK7.out.call (grown_of_alloc hg8) hpx hpS (by omega) hst8).1
          have hwa : IntKind.i64.wrap (af + da) = af + da := by rw [IntKind.wrap_i64]; omega
          have HG8 := Lib.hid (show (∀ y ∈ g ++ [(af, tt)], 0 ≤ y.1 ∧ y.1 ≤ 1000) ∧ (g ++ [(af, tt)]).length = q + 1 from ⟨fun y hy => by
            rw [List.mem_append, List.mem_singleton] at hy
            rcases hy with hy | rfl
            · exact HGO.out.1 y hy
            · exact ⟨hafr.1, by show af ≤ 1000; omega⟩, by rw [List.length_append, HGO.out.2]; rfl⟩)
          clear hst8 hg8
          go_wp2_with (fail)
          go_roundw
          case rel => exact ⟨q + 1, af + da, u, g ++ [(af, tt)], by omega, by go_num, rfl, by omega, HG8.out.1, HG8.out.2, by rw [show kx + 2 * (q + 1) = k2 + 1 + 1 by omega]; exact HK8.out, HLR2⟩
          case measure => simp [intOf]; omega
        · have hqlI : ¬ (q : Int) < N := by omega
          obtain rfl : q = N := by omega
          obtain ⟨XA, xc, rfl⟩ := own_slice hK.row
          have hgxr := hK.lt
          have b0 : wr.cell? ⟨gx, 0, none⟩ = some (.string (ruT j)) := cell_of_blk (j := 0) hK.blk rfl
          have b1 : wr.cell? ⟨gx, 1, none⟩ = some (.slice XA q xc) := cell_of_blk (j := 1) hK.blk rfl
          have b2 : wr.cell? ⟨gx, 2, none⟩ = some (.int .i64 ev) := cell_of_blk (j := 2) hK.blk rfl
          obtain ⟨z, ez⟩ : ∃ z : Ld, z = ⟨j, XA, xc, g, ev⟩ := ⟨_, rfl⟩
          have HZ := Lib.hid (show ldV z = .slice XA q xc ∧ ldC z = [.string (ruT j), .slice XA q xc, .int .i64 ev] ∧ z.g = g ∧ LdG z ∧ z.g.length ≤ 3 from by
            rw [ez]
            refine ⟨by unfold ldV; simp only; rw [HGO.out.2], by unfold ldC; simp only; rw [HGO.out.2], rfl, ⟨by show g.length ≤ 4; rw [HGO.out.2]; omega, fun y hy => by have := HGO.out.1 y hy; omega, by show -1 ≤ ev ∧ ev ≤ 1000; omega⟩, by show g.length ≤ 3; rw [HGO.out.2]; omega⟩)
          have HZP := Lib.hid (show ldP z = (j, g, ev) from by rw [ez]; rfl)
          clear ez
          have hGB : ∀ b, b < gx → w1.heap.size ≤ b → wr.heap[b]? = w6.heap[b]? := fun b hb hb1 => hK.gr.block b (by omega) (by rintro (h | h | h) <;> omega)
          have HOR := Lib.hid (own_keptB HO6.out (fun b hb => hGB b (HLT4.out.1 b hb) (HO6.out.lt b hb).1))
          have HLIR := Lib.hid (HLI6.out.keep (fun x hx b hb => hGB b (HLT4.out.2 x hx b hb) ((HLI6.out.row x hx).lt b hb).1))
          have HGRR := Lib.hid (show w1.grownBy wr (some p) from ⟨hK.gr.os.trans HG6.out.os, hK.gr.tape.trans HG6.out.tape, hK.gr.output.trans HG6.out.output, by have := HG6.out.size; omega, fun b hb hne => (hK.gr.block b (by have := HG6.out.size; omega) (fun h => by rcases h with h | h | h; (exact hne (by rw [h])); omega; omega)).trans (HG6.out.block b hb hne)⟩)
          have HSTR := Lib.hid hK.strm
          have HROW := Lib.hid (show wr.ownsRow S0 62 2 (ldV z) z.g.length (recs rgC z.g) from by rw [HZ.out.1, HZ.out.2.2.1, HGO.out.2]; exact hK.row)
          clear hK hGB
          go_wp2_with (at_builtin; refine wpList_append_own2 _ rfl _ _ 35 rfl w1.heap.size 59 i0 _ 3 48 Tryz.underlying35 hi0 hz0 hz1 hz2 rfl (by decide) _ _ _ rfl (HOR.out.alloc _) ⟨_, 0, none⟩ 1 1 [.string (ruT j), .slice XA q xc, .int .i64 ev] rfl rfl ?c1 ?c2 ?c3 ?c4 ?c5 ?_)
          case c2 => exact ⟨rfl, rfl, rfl⟩
          case c3 => unfold maxLen; omega
          case c4 => omega
          case c5 => first | omega | (simp; omega)
          intro v9 w9 ho9 hg9 hm9
          have hlo : ∀ q, u3.ownBlock = some q → w1.heap.size ≤ q := fun q hq => (HOR.out.lt q hq).1
          have hlo2 : ∀ q, u3.ownBlock = some q → p < q := fun q hq => by have := hlo q hq; omega
          have HST9 := Lib.hid ((HSTR.out.alloc _).row hg9 hlo2)
          have HG9 := Lib.hid (grown_more (grown_trans HGRR.out (World.grownBy_alloc _ _ (some p))) hg9 hlo)
          have HO9 := Lib.hid ho9
          have hg9' := grown_of_alloc hg9
          have HLIz := Lib.hid (HLIR.out.snoc (x := z) (fun y hy b hb => by have := HLT4.out.2 y hy b hb; omega) HROW.out (by omega))
          have HLI9 := Lib.hid (HLIz.out.keep (w' := w9) (fun x hx b hb => hg9'.block b ((HLIz.out.row x hx).lt b hb).2 (fun e => by
            rcases HOR.out.2 with ⟨hv, _⟩ | ⟨g', cap', cur, hv, hb', hh, _⟩
            · rw [hv] at e; cases e
            · rw [hv] at e
              have e2 : b = g' := Option.some.inj e
              subst e2
              exact own_ne (HLIz.out.row x hx) hh (by decide) hb.symm)))
          have HOK9 := Lib.hid (show (∀ y ∈ L ++ [z], LdG y ∧ y.g.length ≤ 3) ∧ (L ++ [z]).length = ln + 1 from ⟨fun y hy => by
            rw [List.mem_append, List.mem_singleton] at hy
            rcases hy with hy | rfl
            · exact HOK.out y hy
            · exact HZ.out.2.2.2, by rw [List.length_append, HLN.out]; rfl⟩)
          clear ho9 hg9 hm9 hlo hlo2 hg9' b0 b1 b2
          go_wp2_with (fail)
          go_roundw
          case rel => exact ⟨j + 1, _, L ++ [z], by omega, by go_num, HOK9.out.1, by have := HOK9.out.2; omega, by rw [HOK9.out.2, recs_snoc, HZ.out.2.1]; exact HO9.out, HLI9.out, HST9.out, by omega, HG9.out, Lib.hid (laA_step HLA.out HB1F.out HEV.out (HAF0.out.trans HAF.out) HNN.out HKX.out HLR.out HZP.out)⟩
          case measure => simp [intOf]; omega
    · have hltI : ¬ (j : Int) < 2 := by omega
      obtain rfl : j = 2 := by omega
      obtain ⟨n, en⟩ : ∃ n, n = L.length := ⟨_, rfl⟩
      rw [← en] at hown hln HO
      obtain ⟨A, c, rfl⟩ := own_slice hown
      have HLN := Lib.hid en.symm
      clear hok hown hst hgr en hLI
      by_cases hn0 : n = 0
      case pos =>
        subst hn0
        have HF := Lib.hid (show LdPost w p k xs (.returned (.slice A 0 c)) wr from ⟨L, A, c, k', 0, laF_nil HLA.out HLN.out, rfl, fun x hx => (HOK.out x hx).1, HLN.out, by omega, own_mono HO.out (by omega), HLI.out.mono (by omega), HST.out, by omega, grown_trans HG01.out HGR.out⟩)
        go_wp2_with (fail)
        go_ret
        exact HF.out
      have hn0I : (0 : Int) < (n : Int) := by omega
      go_wp2_with (fail)
      refine (flipD_any wr p k' xs 12 (by omega) (by omega) (by omega) HST.out).mono ?_
      obtain ⟨b2, eb2⟩ : ∃ b : Bool, b = decide (nextV xs k' 12 = 0) := ⟨_, rfl⟩
      rw [← eb2]
      have HB2F := Lib.hid eb2
      clear eb2
      rintro e w5 ⟨rfl, hst5, hg5⟩
      have hs5 := hg5.size
      have HO5 := Lib.hid (own_kept HO.out hg5 (by omega))
      have HLI5 := Lib.hid (HLI.out.kept hg5 (by omega))
      have HST5 := Lib.hid hst5
      have HG5 := Lib.hid (grown_trans HGR.out hg5)
      clear hst5 hg5
      cases b2 with
      | false =>
        have HF := Lib.hid (show LdPost w p k xs (.returned (.slice A n c)) w5 from ⟨L, A, c, k' + 1, n, laF_no HLA.out HLN.out hn0 HB2F.out, rfl, fun x hx => (HOK.out x hx).1, HLN.out, by omega, own_mono HO5.out (by omega), HLI5.out.mono (by omega), HST5.out, by omega, grown_trans HG01.out HG5.out⟩)
        go_wp2_with (fail)
        go_ret
        exact HF.out
      | true =>
        go_wp2_with (fail)
        refine (next_any w5 p (k' + 1) xs (n : Int) (by omega) (by omega) HST5.out).mono ?_
        have hxl := nextN_lt xs (k' + 1) n (by omega)
        rw [nextN_eq xs (k' + 1) n (by omega)]
        obtain ⟨i, ei⟩ : ∃ i, i = nextN xs (k' + 1) n := ⟨_, rfl⟩
        rw [← ei] at hxl ⊢
        have HEI := Lib.hid ei
        clear ei
        rintro e w6 ⟨rfl, hst6, hg6⟩
        have hs6 := hg6.size
        have HO6 := Lib.hid (own_kept HO5.out hg6 (by omega))
        have HLI6 := Lib.hid (HLI5.out.kept hg6 (by omega))
        have HST6 := Lib.hid hst6
        have HG6 := Lib.hid (grown_trans HG5.out hg6)
        clear hst6 hg6
        obtain ⟨g, rfl, hwg, hg6lt⟩ : ∃ g, A = some ⟨g, 0, none⟩ ∧ w1.heap.size ≤ g ∧ g < w6.heap.size := by
          rcases own_two HO6.out with ⟨_, h0, _⟩ | ⟨g, hA', hb', hlt'⟩
          · omega
          · exact ⟨g, hA', hb', hlt'⟩
        have hiI : (i : Int) < (n : Int) := by omega
        go_upto_region 17 with (fail)
        obtain ⟨x, hx⟩ : ∃ x, L[i]? = some x := ⟨_, List.getElem?_eq_getElem (by have := HLN.out; omega)⟩
        have HXI := Lib.hid (HOK.out x (List.mem_of_getElem? hx))
        obtain ⟨kk, ekk⟩ : ∃ kk, kk = k' + 1 + 1 := ⟨_, rfl⟩
        rw [← ekk] at HST6
        have hkk : kk < 100200 ∧ kk ≤ k + 30 := by omega
        obtain ⟨vr, evr⟩ : ∃ v : Nat, v = [x.r, 2, 0].getD (nextN xs kk 3) 0 := ⟨_, rfl⟩
        obtain ⟨ve, eve⟩ : ∃ v : Int, v = [x.ev, 999, 1, -1].getD (nextN xs (kk + 1) 4) 0 := ⟨_, rfl⟩
        have HV := Lib.hid (And.intro evr.symm eve.symm)
        have hver : -1 ≤ ve ∧ ve ≤ 1000 := by rw [eve]; exact ev4_range x.ev _ (nextN_lt xs (kk + 1) 4 (by omega)) HXI.out.1.ev
        have HKK := Lib.hid ekk
        have HXX := Lib.hid hx
        have HVV := Lib.hid HV.out
        clear evr eve ekk
        have hiL : i < L.length := by have := HLN.out; omega
        have hgp : ¬ g = p := by omega
        have hpgl : p < g := by omega
        have HXL := Lib.hid hx
        have HK0 := Lib.hid (show KG ldC 3 59 w6 p kk w1.heap.size g c n i xs L (ldX x vr ve) ldO 0 w6.drew from KG.first x HO6.out hx rfl HST6.out rfl)
        clear hx
        go_cut [] (fun wx => KG ldC 3 59 w6 p kk w1.heap.size g c n i xs L (ldX x vr ve) ldO 4 wx)
        case first =>
          refine qRegionSt (KG ldC 3 59 w6 p kk w1.heap.size g c n i xs L (ldX x vr ve) ldO)
            [.pointer (some ⟨g, i * 3, none⟩), .pointer (some ⟨g, i * 3, none⟩), .pointer (some ⟨p, 0, none⟩), .pointer (some ⟨g, i * 3, none⟩), .pointer (some ⟨g, i * 3, none⟩), .pointer (some ⟨g, i * 3, none⟩), .string (ruT x.r), undef, .string (ruT vr), .pointer (some ⟨p, 0, none⟩), .pointer (some ⟨g, i * 3, none⟩), .pointer (some ⟨g, i * 3, none⟩), .pointer (some ⟨g, i * 3 + 2, none⟩), .int .i64 x.ev, undef, .int .i64 ve, .pointer (some ⟨g, i * 3, none⟩), .pointer (some ⟨g, i * 3, none⟩), .tuple #[], .pointer (some ⟨g, i * 3, none⟩), .pointer (some ⟨g, i * 3 + 2, none⟩), .tuple #[]]
            [none, none, none, none, none, none, none, some (.cells #[.string (ruT x.r), .string ⟨#[]⟩, .string ⟨#[114, 97]⟩] 9, fun b => .slice (some ⟨b, 0, none⟩) 3 3), none, none, none, none, none, none, some (.cells #[.int .i64 x.ev, .int .i64 999, .int .i64 1, .int .i64 (-1)] 3, fun b => .slice (some ⟨b, 0, none⟩) 4 4), none, none, none, none, none, none, none]
            [0, 0, 0, 0, 0, 0, 0, 0, 1, 0, 0, 0, 0, 0, 0, 2, 0, 0, 3, 0, 0, 4]
            [4, 4, 4, 4, 4, 4, 2, 4, 4, 4, 4, 4, 4, 2, 4, 4, 4, 4, 4, 4, 4, 4] 4 (by kernel_rfl) (by kernel_rfl) rfl rfl (by rfl) HK0.out (fun s w o h => h.alloc o) ?_ ?_
          · simp only [putL, Act.put, List.setIfInBounds_toArray, List.set_cons_zero, List.set_cons_succ]
            refine ⟨?_, ?_, ?_, ?_, ?_, ?_, ?_, ?_, ?_, ?_, ?_, ?_, ?_, ?_, ?_, ?_, ?_, ?_, ?_, ?_, ?_, ?_, trivial⟩
            · exact OneSt.pure (fun G V => by simp only [putH, Act.put, List.setIfInBounds_toArray, List.set_cons_zero, List.set_cons_succ]; go_simp)
            · exact OneSt.pure (fun G V => by simp only [putH, Act.put, List.setIfInBounds_toArray, List.set_cons_zero, List.set_cons_succ]; go_simp)
            · exact OneSt.pure (fun G V => by simp only [putH, Act.put, List.setIfInBounds_toArray, List.set_cons_zero, List.set_cons_succ]; go_simp)
            · exact OneSt.pure (fun G V => by simp only [putH, Act.put, List.setIfInBounds_toArray, List.set_cons_zero, List.set_cons_succ]; go_simp)
            · exact OneSt.pure (fun G V => by simp only [putH, Act.put, List.setIfInBounds_toArray, List.set_cons_zero, List.set_cons_succ]; go_simp)
            · exact OneSt.pure (fun G V => by simp only [putH, Act.put, List.setIfInBounds_toArray, List.set_cons_zero, List.set_cons_succ]; go_simp)
            · exact OneSt.load (fun G s V hK hs => by have c0 := hK.cells ldC_len hiL 0 (.string (ruT x.r)) (by rw [ldX_low x vr ve s hs]; rfl); have hgl := hK.lt; simp only [Nat.add_zero] at c0; simp only [putH, Act.put, List.setIfInBounds_toArray, List.set_cons_zero, List.set_cons_succ]; go_simp)
            · exact OneSt.lay (fun G V => by simp only [putH, Act.put, List.setIfInBounds_toArray, List.set_cons_zero, List.set_cons_succ]; go_simp)
            · exact OneSt.call (fun G V hK hL => ⟨_, _, by simp only [putH, Act.put, List.setIfInBounds_toArray, List.set_cons_zero, List.set_cons_succ]; go_simp <;> exact ⟨rfl, rfl⟩, by obtain ⟨hg1, hg2⟩ := hL 7 _ _ rfl (by kernel_rfl); exact (some_any V p kk (G 7) 3 3 xs ([x.r, 2, 0].map ruT) (by omega) rfl (by omega) (by omega) hK.strm (by omega) (cells_blk hg2 rfl)).mono (fun e w' h => ⟨by rw [h.1, ru_pick x.r _ (nextN_lt xs kk 3 (by omega)), HV.out.1], hK.call h.2.2 (by omega) (by omega) h.2.1 rfl⟩)⟩)
            · exact OneSt.pure (fun G V => by simp only [putH, Act.put, List.setIfInBounds_toArray, List.set_cons_zero, List.set_cons_succ]; go_simp)
            · exact OneSt.pure (fun G V => by simp only [putH, Act.put, List.setIfInBounds_toArray, List.set_cons_zero, List.set_cons_succ]; go_simp)
            · exact OneSt.pure (fun G V => by simp only [putH, Act.put, List.setIfInBounds_toArray, List.set_cons_zero, List.set_cons_succ]; go_simp)
            · exact OneSt.pure (fun G V => by simp only [putH, Act.put, List.setIfInBounds_toArray, List.set_cons_zero, List.set_cons_succ]; go_simp)
            · exact OneSt.load (fun G s V hK hs => by have c0 := hK.cells ldC_len hiL 2 (.int .i64 x.ev) (by rw [ldX_low x vr ve s hs]; rfl); have hgl := hK.lt; skip; simp only [putH, Act.put, List.setIfInBounds_toArray, List.set_cons_zero, List.set_cons_succ]; go_simp)
            · exact OneSt.lay (fun G V => by simp only [putH, Act.put, List.setIfInBounds_toArray, List.set_cons_zero, List.set_cons_succ]; go_simp)
            · exact OneSt.call (fun G V hK hL => ⟨_, _, by simp only [putH, Act.put, List.setIfInBounds_toArray, List.set_cons_zero, List.set_cons_succ]; go_simp <;> exact ⟨rfl, rfl⟩, by obtain ⟨hg1, hg2⟩ := hL 14 _ _ rfl (by kernel_rfl); exact (pick_any V p (kk + 1) (G 14) 4 4 xs [x.ev, 999, 1, -1] (by omega) rfl (by omega) (by omega) hK.strm (by omega) (cells_blk hg2 rfl)).mono (fun e w' h => ⟨by rw [h.1, HV.out.2], hK.call h.2.2 (by omega) (by omega) h.2.1 rfl⟩)⟩)
            · exact OneSt.pure (fun G V => by simp only [putH, Act.put, List.setIfInBounds_toArray, List.set_cons_zero, List.set_cons_succ]; go_simp)
            · exact OneSt.pure (fun G V => by simp only [putH, Act.put, List.setIfInBounds_toArray, List.set_cons_zero, List.set_cons_succ]; go_simp)
            · exact OneSt.store (fun G V hK hL => by have c0 := hK.cells ldC_len hiL 0 _ rfl; have f0 := hK.fro (i * 3 + 0); have hgl := hK.lt; have hs := hK.store ldC_len hiL (by omega) hpgl 0 (by omega) (.string (ruT vr)) rfl rfl; simp only [Nat.add_zero] at c0 f0 hs; refine ⟨_, ?_, rfl, hs.1, hs.2⟩; simp only [putH, Act.put, List.setIfInBounds_toArray, List.set_cons_zero, List.set_cons_succ]; go_simp)
            · exact OneSt.pure (fun G V => by simp only [putH, Act.put, List.setIfInBounds_toArray, List.set_cons_zero, List.set_cons_succ]; go_simp)
            · exact OneSt.pure (fun G V => by simp only [putH, Act.put, List.setIfInBounds_toArray, List.set_cons_zero, List.set_cons_succ]; go_simp)
            · exact OneSt.store (fun G V hK hL => by have c0 := hK.cells ldC_len hiL 2 _ rfl; have f0 := hK.fro (i * 3 + 2); have hgl := hK.lt; have hs := hK.store ldC_len hiL (by omega) hpgl 2 (by omega) (.int .i64 ve) rfl rfl; refine ⟨_, ?_, rfl, hs.1, hs.2⟩; simp only [putH, Act.put, List.setIfInBounds_toArray, List.set_cons_zero, List.set_cons_succ]; go_simp)
          · intro G W7 hK hsz hG
            clear hG
            have HK := Lib.hid hK
            clear hK
            simp only [putL, putH, Act.put, List.setIfInBounds_toArray, List.set_cons_zero, List.set_cons_succ]
            go_wp2_with (fail)
            go_meet
            exact HK.out
        case rest =>
        obtain ⟨w7, ew7⟩ : ∃ w7 : World, w7 = wc := ⟨_, rfl⟩
        rw [← ew7] at hcut ⊢
        clear ew7
        have HK7 := Lib.hid hcut
        have hs7 := hcut.gr.size
        obtain ⟨M, eM⟩ : ∃ M, M = L.set i (ldX x vr ve 4) := ⟨_, rfl⟩
        have HO7 := Lib.hid (show w7.ownsRow w1.heap.size 59 3 (.slice (some ⟨g, 0, none⟩) n c) n (recs ldC M) from by rw [eM]; exact hcut.own)
        have HST7 := Lib.hid (show Strm w7 p xs (kk + 2) from hcut.strm)
        have HLI7 := Lib.hid (show LdI w7 w1.heap.size M from by
          rw [eM]
          refine LdI.set_same (HLI6.out.keep (fun y hy b hb => hcut.gr.block b ((HLI6.out.row y hy).lt b hb).2 (fun e => ?_))) HXL.out rfl rfl
          rcases e with e | e
          · have := ((HLI6.out.row y hy).lt b hb).1; omega
          · obtain ⟨cs, hcs⟩ := own_blk HO6.out
            exact own_ne (HLI6.out.row y hy) hcs (by decide) (by rw [← e]; exact hb.symm))
        have HG7 := Lib.hid (show w1.grownBy w7 (some p) from ⟨hcut.gr.os.trans HG6.out.os, hcut.gr.tape.trans HG6.out.tape, hcut.gr.output.trans HG6.out.output, Nat.le_trans HG6.out.size hcut.gr.size, fun b hb hne => (hcut.gr.block b (Nat.lt_of_lt_of_le hb HG6.out.size) (fun h => h.elim (fun h => hne (by rw [h])) (fun h => by omega))).trans (HG6.out.block b hb hne)⟩)
        have HM := Lib.hid (show (∀ y ∈ M, LdG y ∧ y.g.length ≤ 3) ∧ M.length = n from ⟨fun y hy => by
          rw [eM] at hy
          rcases List.mem_or_eq_of_mem_set hy with hy | rfl
          · exact HOK.out y hy
          · exact ⟨⟨HXI.out.1.n, HXI.out.1.g, hver⟩, HXI.out.2⟩, by rw [eM, List.length_set]; exact HLN.out⟩)
        have HMP := Lib.hid (show M.map ldP = (L.map ldP).set i (vr, x.g, ve) from by rw [eM, List.map_set]; rfl)
        clear hcut eM HK7 HK0
        have hg7 : g < w7.heap.size := by omega
        go_wp2_with (fail)
        refine (flipD_any w7 p (kk + 2) xs 2 (by omega) (by omega) (by omega) HST7.out).mono ?_
        obtain ⟨b3, eb3⟩ : ∃ b : Bool, b = decide (nextV xs (kk + 2) 2 = 0) := ⟨_, rfl⟩
        rw [← eb3]
        have HB3F := Lib.hid eb3
        clear eb3
        rintro e w8 ⟨rfl, hst8, hg8⟩
        have hs8 := hg8.size
        have HO8 := Lib.hid (own_kept HO7.out hg8 (by omega))
        have HLI8 := Lib.hid (HLI7.out.kept hg8 (by omega))
        obtain ⟨k8, ek8⟩ : ∃ k8, k8 = kk + 2 + 1 := ⟨_, rfl⟩
        have HST8 := Lib.hid (show Strm w8 p xs k8 from by rw [ek8]; exact hst8)
        have hk8 : k8 < 100300 ∧ k8 ≤ k + 40 := by omega
        have HG8 := Lib.hid (grown_trans HG7.out hg8)
        have HK8 := Lib.hid ek8
        clear hst8 hg8 ek8
        cases b3 with
        | false =>
          have HF := Lib.hid (show LdPost w p k xs (.returned (.slice (some ⟨g, 0, none⟩) n c)) w8 from ⟨M, some ⟨g, 0, none⟩, c, k8, n, laF_one HLA.out HLN.out hn0 HB2F.out HEI.out HXX.out HKK.out HVV.out HMP.out HB3F.out HK8.out, rfl, fun x hx => (HM.out.1 x hx).1, HM.out.2, by omega, own_mono HO8.out (by omega), HLI8.out.mono (by omega), HST8.out, by omega, grown_trans HG01.out HG8.out⟩)
          go_wp2_with (fail)
          go_ret
          exact HF.out
        | true =>
          go_upto_region 19 with (fail)
          clear HXI HXL HV hver hiL
          obtain ⟨x0, ex0⟩ : ∃ x0, x0 = x := ⟨_, rfl⟩
          rw [← ex0] at HXX HVV HMP
          clear ex0
          obtain ⟨x, hx⟩ : ∃ x, M[i]? = some x := ⟨_, List.getElem?_eq_getElem (by have := HM.out.2; omega)⟩
          have HXI := Lib.hid (HM.out.1 x (List.mem_of_getElem? hx))
          have hiL : i < M.length := by have := HM.out.2; omega
          have HXL := Lib.hid hx
          obtain ⟨kk0, ekk0⟩ : ∃ kk0, kk0 = kk := ⟨_, rfl⟩
          rw [← ekk0] at HKK HVV HB3F HK8
          clear ekk0
          obtain ⟨kk, ekk⟩ : ∃ kk, kk = k8 := ⟨_, rfl⟩
          rw [← ekk] at HST8 hk8 HK8
          clear ekk
          obtain ⟨vo, evo⟩ : ∃ v : Int, v = oddM xs kk := ⟨_, rfl⟩
          obtain ⟨vt, evt⟩ : ∃ v : Nat, v = [2, 1].getD (nextN xs (kk + 2) 2) 0 := ⟨_, rfl⟩
          have HV := Lib.hid (show oddM xs kk = vo ∧ ([2, 1].map tmT).getD (nextN xs (kk + 2) 2) ⟨#[]⟩ = tmT vt from ⟨evo.symm, by rw [evt]; exact tm3_pick _ (nextN_lt xs (kk + 2) 2 (by omega))⟩)
          have hvor := oddM_range xs kk
          rw [← evo] at hvor
          have HVT := Lib.hid evt
          clear evo evt
          have HRX := Lib.hid (HLI8.out.row x (List.mem_of_getElem? hx))
          have HVW := Lib.hid (fun b (hb : (ldV x).ownBlock = some b) => (HRX.out.lt b hb).2)
          have HXS := Lib.hid (show M.set i x = M from by
            apply List.ext_getElem?
            intro q
            by_cases hq : i = q
            · subst hq
              rw [List.getElem?_set_self hiL, hx]
            · rw [List.getElem?_set_ne hq])
          have hpB : p < w1.heap.size := by omega
          have hpW : p < w8.heap.size := by omega
          have hgW : g < w8.heap.size := by omega
          have hxn : x.g.length ≤ 3 := HXI.out.2
          have HXM := Lib.hid hx
          clear hx
          have HK0 := Lib.hid (show KXm w8 p kk w1.heap.size g n c i xs M x (ldV x) (ldV x) x.g.length x.g w8.drew from ⟨by rw [HXS.out]; exact HO8.out, HRX.out, Moved.refl _ _, HST8.out, ⟨rfl, rfl, rfl, Nat.le_refl _, fun _ _ _ => rfl⟩⟩)
          refine qRegionSa (K19 w8 p kk w1.heap.size g n c i xs M x (vo, vt)) 12 2 97 _
            [.pointer (some ⟨g, i * 3, none⟩), .pointer (some ⟨g, i * 3, none⟩), .pointer (some ⟨g, i * 3, none⟩), .pointer (some ⟨g, i * 3 + 1, none⟩), .slice x.A x.g.length x.c, .pointer (some ⟨p, 0, none⟩), .int .i64 vo, .pointer (some ⟨p, 0, none⟩), undef, .string (tmT vt), .agg #[.int .i64 vo, .string (tmT vt)], undef, undef, .pointer (some ⟨g, i * 3, none⟩), .pointer (some ⟨g, i * 3 + 1, none⟩), .tuple #[]]
            [none, none, none, none, none, none, none, none, some (.cells #[.string ⟨#[]⟩, .string ⟨#[111, 112, 115]⟩] 9, fun b => .slice (some ⟨b, 0, none⟩) 2 2), none, none, some (.cells #[.int .i64 vo, .string (tmT vt)] 62, fun b => .slice (some ⟨b, 0, none⟩) 1 1), none, none, none, none]
            [0, 0, 0, 0, 0, 0, 1, 0, 0, 2, 0, 0, 3, 0, 0, 4]
            [4, 4, 4, 4, 2, 4, 4, 4, 4, 4, 4, 4, 4, 4, 4, 4] 4 (by kernel_rfl) (by kernel_rfl) rfl rfl (by rfl) rfl rfl rfl rfl HK0.out (fun u s w o h => K19_alloc h o) ?_ ?_ ?_
          · intro u; simp only [putL, Act.put, List.setIfInBounds_toArray, List.set_cons_zero, List.set_cons_succ]
            refine ⟨?_, ?_, ?_, ?_, ?_, ?_, ?_, ?_, ?_, ?_, ?_, ?_, ?_, ?_, ?_, ?_, trivial⟩
            · exact fun _ => OneSt.pure (fun G V => by simp only [putH, Act.put, List.setIfInBounds_toArray, List.set_cons_zero, List.set_cons_succ]; go_simp)
            · exact fun _ => OneSt.pure (fun G V => by simp only [putH, Act.put, List.setIfInBounds_toArray, List.set_cons_zero, List.set_cons_succ]; go_simp)
            · exact fun _ => OneSt.pure (fun G V => by simp only [putH, Act.put, List.setIfInBounds_toArray, List.set_cons_zero, List.set_cons_succ]; go_simp)
            · exact fun _ => OneSt.pure (fun G V => by simp only [putH, Act.put, List.setIfInBounds_toArray, List.set_cons_zero, List.set_cons_succ]; go_simp)
            · exact fun _ => OneSt.load (fun G s V hK hs => by obtain ⟨kq, hq⟩ := K19_low hK hs; have c0 := hq.cell1 hiL; have hgl := hq.lt; simp only [putH, Act.put, List.setIfInBounds_toArray, List.set_cons_zero, List.set_cons_succ]; go_simp)
            · exact fun _ => OneSt.pure (fun G V => by simp only [putH, Act.put, List.setIfInBounds_toArray, List.set_cons_zero, List.set_cons_succ]; go_simp)
            · exact fun _ => OneSt.call (fun G V hK hL => ⟨_, _, by simp only [putH, Act.put, List.setIfInBounds_toArray, List.set_cons_zero, List.set_cons_succ]; go_simp <;> exact ⟨rfl, rfl⟩, by exact (oddM_any V p kk xs (by omega) (KXm.strm hK)).mono (fun e w' h => ⟨by rw [h.1, HV.out.1], KXm.call hK h.2.2 hpB hpW h.2.1⟩)⟩)
            · exact fun _ => OneSt.pure (fun G V => by simp only [putH, Act.put, List.setIfInBounds_toArray, List.set_cons_zero, List.set_cons_succ]; go_simp)
            · exact fun _ => OneSt.lay (fun G V => by simp only [putH, Act.put, List.setIfInBounds_toArray, List.set_cons_zero, List.set_cons_succ]; go_simp)
            · exact fun _ => OneSt.call (fun G V hK hL => ⟨_, _, by simp only [putH, Act.put, List.setIfInBounds_toArray, List.set_cons_zero, List.set_cons_succ]; go_simp <;> exact ⟨rfl, rfl⟩, by obtain ⟨hg1, hg2⟩ := hL 8 _ _ rfl (by kernel_rfl); exact (some_any V p (kk + 2) (G 8) 2 2 xs ([2, 1].map tmT) (by omega) rfl (by omega) (by omega) (KXm.strm hK) (by omega) (cells_blk hg2 rfl)).mono (fun e w' h => ⟨by rw [h.1, HV.out.2], KXm.call hK h.2.2 hpB hpW h.2.1⟩)⟩)
            · exact fun _ => OneSt.pure (fun G V => by simp only [putH, Act.put, List.setIfInBounds_toArray, List.set_cons_zero, List.set_cons_succ]; go_simp)
            · exact fun _ => OneSt.lay (fun G V => by simp only [putH, Act.put, List.setIfInBounds_toArray, List.set_cons_zero, List.set_cons_succ]; go_simp)
            · exact fun h => absurd rfl h
            · exact fun _ => OneSt.pure (fun G V => by simp only [putH, Act.put, List.setIfInBounds_toArray, List.set_cons_zero, List.set_cons_succ]; go_simp)
            · exact fun _ => OneSt.pure (fun G V => by simp only [putH, Act.put, List.setIfInBounds_toArray, List.set_cons_zero, List.set_cons_succ]; go_simp)
            · exact fun _ => OneSt.store (fun G V hK hL => by obtain ⟨UA, uc, rfl⟩ := own_slice (KXm.row hK); have c0 := KXm.cell1 hK hiL; have f0 := KXm.fro hK (i * 3 + 1); have hgl := KXm.lt hK; have hs := KXm.store (y := (vo, vt)) hK hiL hgW hpgl rfl; refine ⟨_, ?_, rfl, hs.1, hs.2⟩; simp only [putH, Act.put, List.setIfInBounds_toArray, List.set_cons_zero, List.set_cons_succ]; go_simp)
          · intro u G V hK hL
            obtain ⟨hg1, hg2⟩ := hL 11 _ _ rfl (by kernel_rfl)
            refine app_st (.tmp 89) (.tmp 96) 57 rfl w1.heap.size 62 i1 _ 2 24 Tryz.underlying57 hi1 hy0 hy1 hy2 rfl (by decide) (ldV x) x.g.length (recs rgC x.g) ?_ (KXm.row hK) ⟨G 11, 0, none⟩ 1 1 (rgC (vo, vt)) ?_ rfl (cells_add (cells_blk hg2 rfl)) (rgC_one _) (by unfold maxLen; omega) (by omega) (by have := (KXm.gr hK).size; omega) ?_
            · simp only [putL, putH, Act.put, List.setIfInBounds_toArray, List.set_cons_zero, List.set_cons_succ]; rfl
            · simp only [putL, putH, Act.put, List.setIfInBounds_toArray, List.set_cons_zero, List.set_cons_succ]; rfl
            · intro v' w2 ho hg hm
              rw [← recs_snoc] at ho
              exact KXm.app hK ho hg hm hpB HVW.out
          · intro u G W7 hK hsz hG
            clear hG
            have HK := Lib.hid (show KXm w8 p (kk + 3) w1.heap.size g n c i xs M (ldU x u (vo, vt)) (ldV x) u (x.g.length + 1) (x.g ++ [(vo, vt)]) W7 from hK)
            clear hK
            simp only [putL, putH, Act.put, List.setIfInBounds_toArray, List.set_cons_zero, List.set_cons_succ]
            have HLF := Lib.hid (HK.out.ladders HLI8.out HXL.out rfl hpB (own_blk HO8.out))
            have HGF := Lib.hid (show w1.grownBy W7 (some p) from ⟨HK.out.gr.os.trans HG8.out.os, HK.out.gr.tape.trans HG8.out.tape, HK.out.gr.output.trans HG8.out.output, Nat.le_trans HG8.out.size HK.out.gr.size, fun b hb hne => (HK.out.gr.block b (Nat.lt_of_lt_of_le hb HG8.out.size) (fun h => by
              rcases h with h | h | h
              · exact hne (by rw [h])
              · omega
              · have := (HRX.out.lt b h).1; omega)).trans (HG8.out.block b hb hne)⟩)
            have HF := Lib.hid (show LdPost w p k xs (.returned (.slice (some ⟨g, 0, none⟩) n c)) W7 from ⟨M.set i (ldU x u (vo, vt)), some ⟨g, 0, none⟩, c, kk + 3, n, laF_two HLA.out HLN.out hn0 HB2F.out HEI.out HXX.out HKK.out HVV.out HMP.out HB3F.out HK8.out HXM.out HV.out.1 HVT.out rfl, rfl, fun y hy => by
              rcases List.mem_or_eq_of_mem_set hy with hy | rfl
              · exact (HM.out.1 y hy).1
              · refine ⟨by show (x.g ++ [(vo, vt)]).length ≤ 4; rw [List.length_append]; simp; omega, fun z hz => ?_, HXI.out.1.ev⟩
                rcases List.mem_append.1 hz with hz | hz
                · exact HXI.out.1.g z hz
                · rw [List.mem_singleton] at hz
                  subst hz
                  exact hvor, by rw [List.length_set]; exact HM.out.2, by omega, own_mono HK.out.own (by omega), HLF.out.mono (by omega), HK.out.strm, by omega, grown_trans HG01.out HGF.out⟩)
            go_wp2_with (fail)
            go_ret
            exact HF.out
end Go.Proofs.YtgdnedhcbjonkaaGreatDoor
