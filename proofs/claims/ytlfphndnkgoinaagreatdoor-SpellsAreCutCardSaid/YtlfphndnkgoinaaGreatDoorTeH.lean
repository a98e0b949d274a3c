/- Readings of the stream by its contract. Printed by gen_TeH.py. -/
import Derived.Test.YtlfphndnkgoinaaGreatDoorQsl
import Derived.Test.YtlfphndnkgoinaaGreatDoorTeG
namespace Go.Proofs.YtlfphndnkgoinaaGreatDoor
open Go.RowKit

theorem Tryz.infoSmp : (Tryz.prog.info? 43).map (fun i => (i.zero, i.size, i.bytes)) = some (some (.agg #[.string ⟨#[]⟩, .string ⟨#[]⟩, .int .i64 0, .int .i64 0]), 4, 48) := by kernel_rfl
def rdPk : List Int := [1, 3, 5, 10, 40]
theorem rdPk_r (j : Nat) (h : j < 5) : 1 ≤ rdPk.getD j 0 ∧ rdPk.getD j 0 ≤ 40 := by
  have : j = 0 ∨ j = 1 ∨ j = 2 ∨ j = 3 ∨ j = 4 := by omega
  rcases this with h | h | h | h | h <;> subst h <;> decide
def rvPk : List Int := [0, 1, 2, 4, 5, 6, 8, 9, -3]
theorem te_pick (b j : Nat) (h : j < 3) : ([b, 2, 3].map teT).getD j ⟨#[]⟩ = teT ([b, 2, 3].getD j 0) := by
  have : j = 0 ∨ j = 1 ∨ j = 2 := by omega
  rcases this with h | h | h <;> subst h <;> rfl
/-- The stages of the odd sample. -/
def teX (x : Te) (a : Int) (d : Nat) (v : Int) : Nat → Te
  | 0 => x
  | 1 => x
  | 2 => x
  | 3 => x
  | 4 => { x with at_ := a }
  | 5 => { x with at_ := a, d := d }
  | _ => { x with at_ := a, d := d, v := v }
def teDo : Nat → Nat
  | 0 => 0
  | 1 => 1
  | 2 => 2
  | _ => 4
theorem teX_low (x : Te) (a : Int) (d : Nat) (v : Int) (s : Nat) (hs : s ≤ 3) : teX x a d v s = x := by
  have : s = 0 ∨ s = 1 ∨ s = 2 ∨ s = 3 := by omega
  rcases this with h | h | h | h <;> subst h <;> rfl
def TePost (w : World) (p k : Nat) (xs : List Int) (e : Ending) (w' : World) : Prop :=
  ∃ (L : List Te) (A : Option Addr) (c k' n : Nat), e = .returned (.slice A n c) ∧ (∀ x ∈ L, x.m < 2) ∧ L.length = n ∧ n ≤ 40 ∧ w'.ownsRow w.heap.size 43 4 (.slice A n c) n (recs teC L) ∧ Strm w' p xs k' ∧ k' ≤ k + 200 ∧ w.grownBy w' (some p)
/-- What the rounds keep. -/
structure RdI (w : World) (p : Nat) (xs : List Int) (v : Value) (L : List Te) (k : Nat) (wr : World) : Prop where
  ok : ∀ x ∈ L, x.m < 2
  own : wr.ownsRow w.heap.size 43 4 v L.length (recs teC L)
  st : Strm wr p xs k
  gr : w.grownBy wr (some p)
def dvBk : Obj := .cells #[.string ⟨#[100, 97]⟩, .string ⟨#[100, 98]⟩] 9 (0, 0)
def mtBk : Obj := .cells #[.string ⟨#[116]⟩, .string ⟨#[117]⟩] 9 (0, 0)
section
variable {w wr w' : World} {p k k' : Nat} {xs : List Int} {v : Value} {L : List Te}
theorem RdI.alloc (h : RdI w p xs v L k wr) (o : Obj) : RdI w p xs v L k (wr.alloc o) := ⟨h.ok, h.own.alloc o, h.st.alloc o, grown_trans h.gr (World.grownBy_alloc _ _ (some p))⟩
theorem RdI.call (h : RdI w p xs v L k wr) (hp : p < w.heap.size) (hs : Strm w' p xs k') (hg : wr.grownBy w' (some p)) : RdI w p xs v L k' w' := ⟨h.ok, own_kept h.own hg hp, hs, grown_trans h.gr hg⟩
end
set_option maxRecDepth 100000 in
set_option maxHeartbeats 4000000 in
theorem readings_any (w : World) (p k M : Nat) (xs : List Int) (hk : k < 100000) (hM : M ≤ 10) (hs : Strm w p xs k) :
    Calls Tryz.prog 8 #[.pointer (some ⟨p, 0, none⟩), .int .i64 (M : Int)] w fun e w' => TePost w p k xs e w' := by
  obtain ⟨i0, hi0, hz0, hz1, hz2⟩ := info_parts Tryz.infoSmp
  have hplt := hs.lt
  have HS := Lib.hid hs
  clear hs
  go_enter Tryz.func8, Tryz.ntmps8
  go_wp2_with (fail)
  refine (next_any w p k xs 20 (by omega) (by omega) HS.out).mono ?_
  have ha0 := nextV_range xs k 20 (by omega)
  obtain ⟨at0, eat⟩ : ∃ z, z = nextV xs k 20 := ⟨_, rfl⟩
  rw [← eat] at ha0 ⊢
  clear eat
  rintro e w1 ⟨rfl, hst1, hg1⟩
  have HI1 := Lib.hid (show RdI w p xs (.slice none 0 0) [] (k + 1) w1 from ⟨by simp, World.ownsRow_nil _ _ _ _, hst1, hg1⟩)
  clear hst1 hg1
  go_wp2_with (fail)
  go_loopw [5, 6, 15] (fun v a s wr => ∃ (q k' : Nat) (at_ : Int) (L : List Te), q ≤ M ∧ s = .int .i64 (q : Int) ∧ a = .int .i64 at_ ∧ (0 ≤ at_ ∧ at_ ≤ 19 + 40 * (q : Int)) ∧ Hid (RdI w p xs v L k' wr) ∧ L.length ≤ 4 * q ∧ k' ≤ k + 1 + 9 * q) (fun _ _ s _ => M - (intOf s).toNat)
  case atStart => exact ⟨0, k + 1, at0, [], by omega, rfl, rfl, by omega, HI1, by simp, by omega⟩
  case round =>
    obtain ⟨q, k', at_, L, hq, rfl, rfl, hat, HI, hln, hk'⟩ := hrel
    by_cases hlt : q < M
    · have hltI : (q : Int) < M := by omega
      go_upto_region 6 with (fail)
      go_wp2_with (fail)
      obtain ⟨gd, egd⟩ : ∃ z, z = wr.heap.size := ⟨_, rfl⟩
      obtain ⟨w2, e2⟩ : ∃ V : World, V = wr.alloc (.cells #[.string ⟨#[100, 97]⟩, .string ⟨#[100, 98]⟩] 9) := ⟨_, rfl⟩
      have HI2 := Lib.hid (show RdI w p xs u5 L k' w2 from by rw [e2]; exact HI.out.alloc _)
      have HD2 := Lib.hid (show w2.heap[gd]? = some dvBk from by rw [e2, egd]; exact heap_new wr _)
      have hwgd : p < gd := by have := HI.out.gr.size; omega
      rw [← egd, ← e2]
      clear egd e2
      go_loopw [5, 19] (fun v s wx => ∃ (j k2 : Nat) (L2 : List Te), j ≤ 2 ∧ s = .int .i64 (j : Int) ∧ Hid (RdI w p xs v L2 k2 wx) ∧ L2.length ≤ 4 * q + 2 * j ∧ k2 ≤ k' + 4 * j ∧ Hid (wx.heap[gd]? = some dvBk)) (fun _ s _ => 2 - (intOf s).toNat)
      case atStart => exact ⟨0, k', L, by omega, rfl, HI2, by omega, by omega, HD2⟩
      case round =>
        obtain ⟨j, k2, L2, hj, rfl, HI3, hln2, hk2, HD3⟩ := hrel
        by_cases hlj : j < 2
        · have hljI : (j : Int) < 2 := by omega
          have hgd3 : gd < wr.heap.size := (Array.getElem?_eq_some_iff.1 HD3.out).1
          have nj : wr.cell? ⟨gd, j, none⟩ = some (.string (teT j)) := by
            have : j = 0 ∨ j = 1 := by omega
            rcases this with rfl | rfl
            · exact cell_of_blk (j := 0) HD3.out rfl
            · exact cell_of_blk (j := 1) HD3.out rfl
          go_upto_region 9 with (fail)
          go_wp2_with (fail)
          obtain ⟨gm, egm⟩ : ∃ z, z = wr.heap.size := ⟨_, rfl⟩
          obtain ⟨w4, e4⟩ : ∃ V : World, V = wr.alloc (.cells #[.string ⟨#[116]⟩, .string ⟨#[117]⟩] 9) := ⟨_, rfl⟩
          have HI4 := Lib.hid (show RdI w p xs u5 L2 k2 w4 from by rw [e4]; exact HI3.out.alloc _)
          have HD4 := Lib.hid (show w4.heap[gd]? = some dvBk from by rw [e4]; exact (Below.heap_alloc _ _ _ hgd3).trans HD3.out)
          have HM4 := Lib.hid (show w4.heap[gm]? = some mtBk from by rw [e4, egm]; exact heap_new wr _)
          have hgdm : p < gm := by omega
          rw [← egm, ← e4]
          clear egm e4 nj
          go_loopw [5, 25] (fun v s wx => ∃ (m k3 : Nat) (L3 : List Te), m ≤ 2 ∧ s = .int .i64 (m : Int) ∧ Hid (RdI w p xs v L3 k3 wx) ∧ L3.length ≤ 4 * q + 2 * j + m ∧ k3 ≤ k2 + 2 * m ∧ Hid (wx.heap[gd]? = some dvBk) ∧ Hid (wx.heap[gm]? = some mtBk)) (fun _ s _ => 2 - (intOf s).toNat)
          case atStart => exact ⟨0, k2, L2, by omega, rfl, HI4, by omega, by omega, HD4, HM4⟩
          case round =>
            obtain ⟨m, k3, L3, hm, rfl, HI5, hln3, hk3, HD5, HM5⟩ := hrel
            by_cases hlm : m < 2
            · have hlmI : (m : Int) < 2 := by omega
              have hgm5 : gm < wr.heap.size := (Array.getElem?_eq_some_iff.1 HM5.out).1
              have hgd5 : gd < wr.heap.size := (Array.getElem?_eq_some_iff.1 HD5.out).1
              have nm : wr.cell? ⟨gm, m, none⟩ = some (.string (meT m)) := by
                have : m = 0 ∨ m = 1 := by omega
                rcases this with rfl | rfl
                · exact cell_of_blk (j := 0) HM5.out rfl
                · exact cell_of_blk (j := 1) HM5.out rfl
              go_wp2_with (fail)
              refine (flipD_any wr p k3 xs 3 (by omega) (by omega) (by omega) HI5.out.st).mono ?_
              obtain ⟨fl, efl⟩ : ∃ z, z = decide (nextV xs k3 3 = 0) := ⟨_, rfl⟩
              rw [← efl]
              clear efl nm
              rintro e w6 ⟨rfl, hst6, hg6⟩
              have hs6 := hg6.size
              have HI6 := Lib.hid (HI5.out.call hplt hst6 hg6)
              have HD6 := Lib.hid ((hg6.block gd hgd5 (by intro e; injection e with e; omega)).trans HD5.out)
              have HM6 := Lib.hid ((hg6.block gm hgm5 (by intro e; injection e with e; omega)).trans HM5.out)
              clear hst6 hg6
              have hwm : IntKind.i64.wrap ((m : Int) + 1) = ((m + 1 : Nat) : Int) := by rw [IntKind.wrap_i64]; omega
              cases fl with
              | false =>
                go_wp2_with (fail)
                go_roundw
                case rel => exact ⟨m + 1, k3 + 1, L3, by omega, by simp, HI6, by omega, by omega, HD6, HM6⟩
                case measure => simp [intOf]; omega
              | true =>
                go_wp2_with (fail)
                refine (pick_any _ p (k3 + 1) w6.heap.size 9 9 xs rvPk (by omega) rfl (by omega) (by omega) (HI6.out.st.alloc _) (by omega) (Cells.new _ _ _ _ _ rfl)).mono ?_
                obtain ⟨pv, epv⟩ : ∃ z, z = rvPk.getD (nextN xs (k3 + 1) 9) 0 := ⟨_, rfl⟩
                rw [← epv]
                clear epv
                rintro e w7 ⟨rfl, hst7, hg7⟩
                replace hg7 := grown_of_alloc hg7
                have hs7 := hg7.size
                have HI7 := Lib.hid (HI6.out.call hplt hst7 hg7)
                have HD7 := Lib.hid ((hg7.block gd (by omega) (by intro e; injection e with e; omega)).trans HD6.out)
                have HM7 := Lib.hid ((hg7.block gm (by omega) (by intro e; injection e with e; omega)).trans HM6.out)
                have HO7 := Lib.hid HI7.out.own
                obtain ⟨ln, eln⟩ : ∃ z, z = L3.length := ⟨_, rfl⟩
                rw [← eln] at HO7 hln3
                have HLN := Lib.hid eln
                clear hst7 hg7 eln
                go_wp2_with (at_builtin; refine wpList_append_own2 _ rfl _ _ 29 rfl w.heap.size 43 i0 _ 4 48 Tryz.underlying29 hi0 hz0 hz1 hz2 rfl (by decide) _ _ _ rfl (HO7.out.alloc _) ⟨_, 0, none⟩ 1 1 (teC ⟨j, m, at_, pv⟩) rfl rfl ?c1 ?c2 ?c3 ?c4 ?c5 ?_)
                case c1 => first | exact cells_add (cells_atS (by rfl) (by first | rfl | simp)) | exact fun j u h => h
                case c2 => exact teC_one _
                case c3 => unfold maxLen; omega
                case c4 => omega
                case c5 => have := HI7.out.gr.size; first | omega | (simp; omega)
                intro v9 w9 ho9 hg9 hm9
                have HI9 := Lib.hid (show RdI w p xs v9 (L3 ++ [(⟨j, m, at_, pv⟩ : Te)]) (k3 + 2) w9 from by
                  have hlo : ∀ q, u5.ownBlock = some q → w.heap.size ≤ q := fun q hq => (HO7.out.lt q hq).1
                  refine ⟨fun y hy => ?_, by rw [List.length_append, ← HLN.out, recs_snoc]; exact ho9, (HI7.out.st.alloc _).row hg9 (fun q hq => by have := hlo q hq; omega), grown_more (grown_trans HI7.out.gr (World.grownBy_alloc _ _ (some p))) hg9 hlo⟩
                  rw [List.mem_append, List.mem_singleton] at hy
                  rcases hy with hy | rfl
                  · exact HI7.out.ok y hy
                  · exact hlm)
                have hg9' := grown_of_alloc hg9
                have HD9 := Lib.hid ((hg9'.block gd (by omega) (own_ne HO7.out HD7.out (by decide))).trans HD7.out)
                have HM9 := Lib.hid ((hg9'.block gm (by omega) (own_ne HO7.out HM7.out (by decide))).trans HM7.out)
                clear ho9 hg9 hm9 hg9'
                go_wp2_with (fail)
                go_roundw
                case rel => exact ⟨m + 1, k3 + 2, _, by omega, by simp, HI9, by rw [List.length_append, ← HLN.out]; simp; omega, by omega, HD9, HM9⟩
                case measure => simp [intOf]; omega
            · have hlmI : ¬ (m : Int) < 2 := by omega
              obtain rfl : m = 2 := by omega
              have hwj : IntKind.i64.wrap ((j : Int) + 1) = ((j + 1 : Nat) : Int) := by rw [IntKind.wrap_i64]; omega
              go_wp2_with (fail)
              go_roundw
              case rel => exact ⟨j + 1, k3, L3, by omega, by simp, HI5, by omega, by omega, HD5⟩
              case measure => simp [intOf]; omega
        · have hljI : ¬ (j : Int) < 2 := by omega
          obtain rfl : j = 2 := by omega
          have hwq : IntKind.i64.wrap ((q : Int) + 1) = ((q + 1 : Nat) : Int) := by rw [IntKind.wrap_i64]; omega
          go_wp2_with (fail)
          refine (pick_any _ p k2 wr.heap.size 5 5 xs rdPk (by omega) rfl (by omega) (by omega) (HI3.out.st.alloc _) (by have := HI3.out.gr.size; omega) (Cells.new _ _ _ _ _ rfl)).mono ?_
          have hdp := rdPk_r (nextN xs k2 5) (nextN_lt _ _ _ (by omega))
          obtain ⟨dp, edp⟩ : ∃ z, z = rdPk.getD (nextN xs k2 5) 0 := ⟨_, rfl⟩
          rw [← edp] at hdp ⊢
          clear edp
          rintro e w6 ⟨rfl, hst6, hg6⟩
          have HI6 := Lib.hid (HI3.out.call hplt hst6 (grown_of_alloc hg6))
          clear hst6 hg6
          have hwa : IntKind.i64.wrap (at_ + dp) = at_ + dp := by rw [IntKind.wrap_i64]; omega
          go_wp2_with (fail)
          go_roundw
          case rel => exact ⟨q + 1, k2 + 1, at_ + dp, L2, by omega, by simp, rfl, by omega, HI6, by omega, by omega⟩
          case measure => simp [intOf]; omega
    · have hltI : ¬ (q : Int) < M := by omega
      obtain rfl : q = M := by omega
      obtain ⟨n, en⟩ : ∃ n, n = L.length := ⟨_, rfl⟩
      have hown := HI.out.own
      rw [← en] at hown hln
      obtain ⟨A, c, rfl⟩ := own_slice hown
      have HO := Lib.hid hown
      have HLN := Lib.hid en.symm
      clear hown en
      by_cases hn0 : n = 0
      case pos =>
        subst hn0
        have HF := Lib.hid (show TePost w p k xs (.returned (.slice A 0 c)) wr from ⟨L, A, c, k', 0, rfl, HI.out.ok, HLN.out, by omega, HO.out, HI.out.st, by omega, HI.out.gr⟩)
        go_wp2_with (fail)
        go_ret
        exact HF.out
      have hn0I : (0 : Int) < (n : Int) := by omega
      go_wp2_with (fail)
      refine (flipD_any wr p k' xs 20 (by omega) (by omega) (by omega) HI.out.st).mono ?_
      obtain ⟨b2, eb2⟩ : ∃ b : Bool, b = decide (nextV xs k' 20 = 0) := ⟨_, rfl⟩
      rw [← eb2]
      clear eb2
      rintro e w5 ⟨rfl, hst5, hg5⟩
      have hs5 := hg5.size
      have HI5 := Lib.hid (HI.out.call hplt hst5 hg5)
      have HO5 := Lib.hid (own_kept HO.out hg5 hplt)
      clear hst5 hg5
      cases b2 with
      | false =>
        have HF := Lib.hid (show TePost w p k xs (.returned (.slice A n c)) w5 from ⟨L, A, c, k' + 1, n, rfl, HI5.out.ok, HLN.out, by omega, HO5.out, HI5.out.st, by omega, HI5.out.gr⟩)
        go_wp2_with (fail)
        go_ret
        exact HF.out
      | true =>
        go_wp2_with (fail)
        refine (next_any w5 p (k' + 1) xs (n : Int) (by omega) (by omega) HI5.out.st).mono ?_
        have hxl := nextN_lt xs (k' + 1) n (by omega)
        rw [nextN_eq xs (k' + 1) n (by omega)]
        obtain ⟨i, ei⟩ : ∃ i, i = nextN xs (k' + 1) n := ⟨_, rfl⟩
        rw [← ei] at hxl ⊢
        clear ei
        rintro e w6 ⟨rfl, hst6, hg6⟩
        have hs6 := hg6.size
        have HI6 := Lib.hid (HI5.out.call hplt hst6 hg6)
        have HO6 := Lib.hid (own_kept HO5.out hg6 hplt)
        have HST6 := Lib.hid hst6
        clear hst6 hg6
        obtain ⟨g, rfl, hwg, hg6lt⟩ : ∃ g, A = some ⟨g, 0, none⟩ ∧ w.heap.size ≤ g ∧ g < w6.heap.size := by
          rcases own_two HO6.out with ⟨_, h0, _⟩ | ⟨g, hA', hb', hlt'⟩
          · omega
          · exact ⟨g, hA', hb', hlt'⟩
        have hiI : (i : Int) < (n : Int) := by omega
        go_upto_region 19 with (fail)
        obtain ⟨x, hx⟩ : ∃ x, L[i]? = some x := ⟨_, List.getElem?_eq_getElem (by have := HLN.out; omega)⟩
        have HXI := Lib.hid (HI6.out.ok x (List.mem_of_getElem? hx))
        obtain ⟨kk, ekk⟩ : ∃ kk, kk = k' + 1 + 1 := ⟨_, rfl⟩
        rw [← ekk] at HST6
        have hkk : kk < 100200 ∧ kk ≤ k + 120 := by omega
        obtain ⟨va, eva⟩ : ∃ v : Int, v = [x.at_, -1, 0, 345686400000].getD (nextN xs kk 4) 0 := ⟨_, rfl⟩
        obtain ⟨vd, evd⟩ : ∃ v : Nat, v = [x.d, 2, 3].getD (nextN xs (kk + 1) 3) 0 := ⟨_, rfl⟩
        obtain ⟨vv, evv⟩ : ∃ v : Int, v = oddNV xs (kk + 2) := ⟨_, rfl⟩
        have HV := Lib.hid (And.intro eva.symm (And.intro evd.symm evv.symm))
        clear eva evd evv ekk
        have hiL : i < L.length := by have := HLN.out; omega
        have hgp : ¬ g = p := by omega
        have hpgl : p < g := by omega
        have hpw6 : p < w6.heap.size := by omega
        have HK0 := Lib.hid (show KG teC 4 43 w6 p kk w.heap.size g c n i xs L (teX x va vd vv) teDo 0 w6.drew from KG.first x HO6.out hx rfl HST6.out rfl)
        clear hx
        refine qRegionSt (KG teC 4 43 w6 p kk w.heap.size g c n i xs L (teX x va vd vv) teDo)
          [.pointer (some ⟨g, i * 4, none⟩), .pointer (some ⟨g, i * 4, none⟩), .pointer (some ⟨g, i * 4, none⟩), .pointer (some ⟨p, 0, none⟩), .pointer (some ⟨g, i * 4, none⟩), .pointer (some ⟨g, i * 4, none⟩), .pointer (some ⟨g, i * 4 + 2, none⟩), .int .i64 x.at_, undef, .int .i64 va, .pointer (some ⟨p, 0, none⟩), .pointer (some ⟨g, i * 4, none⟩), .pointer (some ⟨g, i * 4, none⟩), .pointer (some ⟨g, i * 4, none⟩), .string (teT x.d), undef, .string (teT vd), .pointer (some ⟨p, 0, none⟩), .int .i64 vv, .pointer (some ⟨g, i * 4, none⟩), .pointer (some ⟨g, i * 4 + 2, none⟩), .tuple #[], .pointer (some ⟨g, i * 4, none⟩), .pointer (some ⟨g, i * 4, none⟩), .tuple #[], .pointer (some ⟨g, i * 4, none⟩), .pointer (some ⟨g, i * 4 + 3, none⟩), .tuple #[]]
          [none, none, none, none, none, none, none, none, some (.cells #[.int .i64 x.at_, .int .i64 (-1), .int .i64 0, .int .i64 345686400000] 3, fun b => .slice (some ⟨b, 0, none⟩) 4 4), none, none, none, none, none, none, some (.cells #[.string (teT x.d), .string ⟨#[]⟩, .string ⟨#[65]⟩] 9, fun b => .slice (some ⟨b, 0, none⟩) 3 3), none, none, none, none, none, none, none, none, none, none, none, none]
          [0, 0, 0, 0, 0, 0, 0, 0, 0, 1, 0, 0, 0, 0, 0, 0, 2, 0, 3, 0, 0, 4, 0, 0, 5, 0, 0, 6]
          [6, 6, 6, 6, 6, 6, 6, 3, 6, 6, 6, 6, 6, 6, 3, 6, 6, 6, 6, 6, 6, 6, 6, 6, 6, 6, 6, 6] 6 (by kernel_rfl) (by kernel_rfl) rfl rfl (by rfl) HK0.out (fun s w o h => h.alloc o) ?_ ?_
        · simp only [putL, Act.put, List.setIfInBounds_toArray, List.set_cons_zero, List.set_cons_succ]
          refine ⟨?_, ?_, ?_, ?_, ?_, ?_, ?_, ?_, ?_, ?_, ?_, ?_, ?_, ?_, ?_, ?_, ?_, ?_, ?_, ?_, ?_, ?_, ?_, ?_, ?_, ?_, ?_, ?_, trivial⟩
          · exact OneSt.pure (fun G V => by simp only [putH, Act.put, List.setIfInBounds_toArray, List.set_cons_zero, List.set_cons_succ]; go_simp)
          · exact OneSt.pure (fun G V => by simp only [putH, Act.put, List.setIfInBounds_toArray, List.set_cons_zero, List.set_cons_succ]; go_simp)
          · exact OneSt.pure (fun G V => by simp only [putH, Act.put, List.setIfInBounds_toArray, List.set_cons_zero, List.set_cons_succ]; go_simp)
          · exact OneSt.pure (fun G V => by simp only [putH, Act.put, List.setIfInBounds_toArray, List.set_cons_zero, List.set_cons_succ]; go_simp)
          · exact OneSt.pure (fun G V => by simp only [putH, Act.put, List.setIfInBounds_toArray, List.set_cons_zero, List.set_cons_succ]; go_simp)
          · exact OneSt.pure (fun G V => by simp only [putH, Act.put, List.setIfInBounds_toArray, List.set_cons_zero, List.set_cons_succ]; go_simp)
          · exact OneSt.pure (fun G V => by simp only [putH, Act.put, List.setIfInBounds_toArray, List.set_cons_zero, List.set_cons_succ]; go_simp)
          · exact OneSt.load (fun G s V hK hs => by have c0 := hK.cells teC_len hiL 2 (.int .i64 x.at_) (by rw [teX_low x va vd vv s hs]; rfl); have hgl := hK.lt; skip; simp only [putH, Act.put, List.setIfInBounds_toArray, List.set_cons_zero, List.set_cons_succ]; go_simp)
          · exact OneSt.lay (fun G V => by simp only [putH, Act.put, List.setIfInBounds_toArray, List.set_cons_zero, List.set_cons_succ]; go_simp)
          · exact OneSt.call (fun G V hK hL => ⟨_, _, by simp only [putH, Act.put, List.setIfInBounds_toArray, List.set_cons_zero, List.set_cons_succ]; go_simp <;> exact ⟨rfl, rfl⟩, by obtain ⟨hg1, hg2⟩ := hL 8 _ _ rfl (by kernel_rfl); exact (pick_any V p kk (G 8) 4 4 xs [x.at_, -1, 0, 345686400000] (by omega) rfl (by omega) (by omega) hK.strm (by omega) (cells_blkT hg2 rfl)).mono (fun e w' h => ⟨by rw [h.1, HV.out.1], hK.call h.2.2 (by omega) (by omega) h.2.1 rfl⟩)⟩)
          · exact OneSt.pure (fun G V => by simp only [putH, Act.put, List.setIfInBounds_toArray, List.set_cons_zero, List.set_cons_succ]; go_simp)
          · exact OneSt.pure (fun G V => by simp only [putH, Act.put, List.setIfInBounds_toArray, List.set_cons_zero, List.set_cons_succ]; go_simp)
          · exact OneSt.pure (fun G V => by simp only [putH, Act.put, List.setIfInBounds_toArray, List.set_cons_zero, List.set_cons_succ]; go_simp)
          · exact OneSt.pure (fun G V => by simp only [putH, Act.put, List.setIfInBounds_toArray, List.set_cons_zero, List.set_cons_succ]; go_simp)
          · exact OneSt.load (fun G s V hK hs => by have c0 := hK.cells teC_len hiL 0 (.string (teT x.d)) (by rw [teX_low x va vd vv s hs]; rfl); have hgl := hK.lt; simp only [Nat.add_zero] at c0; simp only [putH, Act.put, List.setIfInBounds_toArray, List.set_cons_zero, List.set_cons_succ]; go_simp)
          · exact OneSt.lay (fun G V => by simp only [putH, Act.put, List.setIfInBounds_toArray, List.set_cons_zero, List.set_cons_succ]; go_simp)
          · exact OneSt.call (fun G V hK hL => ⟨_, _, by simp only [putH, Act.put, List.setIfInBounds_toArray, List.set_cons_zero, List.set_cons_succ]; go_simp <;> exact ⟨rfl, rfl⟩, by obtain ⟨hg1, hg2⟩ := hL 15 _ _ rfl (by kernel_rfl); exact (some_any V p (kk + 1) (G 15) 3 3 xs ([x.d, 2, 3].map teT) (by omega) rfl (by omega) (by omega) hK.strm (by omega) (cells_blkT hg2 rfl)).mono (fun e w' h => ⟨by rw [h.1, te_pick x.d _ (nextN_lt xs (kk + 1) 3 (by omega)), HV.out.2.1], hK.call h.2.2 (by omega) (by omega) h.2.1 rfl⟩)⟩)
          · exact OneSt.pure (fun G V => by simp only [putH, Act.put, List.setIfInBounds_toArray, List.set_cons_zero, List.set_cons_succ]; go_simp)
          · exact OneSt.call (fun G V hK hL => ⟨_, _, by simp only [putH, Act.put, List.setIfInBounds_toArray, List.set_cons_zero, List.set_cons_succ]; go_simp <;> exact ⟨rfl, rfl⟩, by exact (oddN_any V p (kk + 2) xs (by omega) hK.strm).mono (fun e w' h => ⟨by rw [h.1, HV.out.2.2], hK.call h.2.2 (by omega) (by omega) h.2.1 rfl⟩)⟩)
          · exact OneSt.pure (fun G V => by simp only [putH, Act.put, List.setIfInBounds_toArray, List.set_cons_zero, List.set_cons_succ]; go_simp)
          · exact OneSt.pure (fun G V => by simp only [putH, Act.put, List.setIfInBounds_toArray, List.set_cons_zero, List.set_cons_succ]; go_simp)
          · exact OneSt.store (fun G V hK hL => by have c0 := hK.cells teC_len hiL 2 _ rfl; have f0 := hK.fro (i * 4 + 2); have hgl := hK.lt; have hs := hK.store teC_len hiL (by omega) hpgl 2 (by omega) (.int .i64 va) rfl rfl; refine ⟨_, ?_, rfl, hs.1, hs.2⟩; simp only [putH, Act.put, List.setIfInBounds_toArray, List.set_cons_zero, List.set_cons_succ]; go_simp)
          · exact OneSt.pure (fun G V => by simp only [putH, Act.put, List.setIfInBounds_toArray, List.set_cons_zero, List.set_cons_succ]; go_simp)
          · exact OneSt.pure (fun G V => by simp only [putH, Act.put, List.setIfInBounds_toArray, List.set_cons_zero, List.set_cons_succ]; go_simp)
          · exact OneSt.store (fun G V hK hL => by have c0 := hK.cells teC_len hiL 0 _ rfl; have f0 := hK.fro (i * 4 + 0); have hgl := hK.lt; have hs := hK.store teC_len hiL (by omega) hpgl 0 (by omega) (.string (teT vd)) rfl rfl; simp only [Nat.add_zero] at c0 f0 hs; refine ⟨_, ?_, rfl, hs.1, hs.2⟩; simp only [putH, Act.put, List.setIfInBounds_toArray, List.set_cons_zero, List.set_cons_succ]; go_simp)
          · exact OneSt.pure (fun G V => by simp only [putH, Act.put, List.setIfInBounds_toArray, List.set_cons_zero, List.set_cons_succ]; go_simp)
          · exact OneSt.pure (fun G V => by simp only [putH, Act.put, List.setIfInBounds_toArray, List.set_cons_zero, List.set_cons_succ]; go_simp)
          · exact OneSt.store (fun G V hK hL => by have c0 := hK.cells teC_len hiL 3 _ rfl; have f0 := hK.fro (i * 4 + 3); have hgl := hK.lt; have hs := hK.store teC_len hiL (by omega) hpgl 3 (by omega) (.int .i64 vv) rfl rfl; refine ⟨_, ?_, rfl, hs.1, hs.2⟩; simp only [putH, Act.put, List.setIfInBounds_toArray, List.set_cons_zero, List.set_cons_succ]; go_simp)
        · intro G W7 hK hsz hG
          clear hG
          have HK := Lib.hid hK
          clear hK
          simp only [putL, putH, Act.put, List.setIfInBounds_toArray, List.set_cons_zero, List.set_cons_succ]
          have HX8 := Lib.hid (show ∀ y ∈ L.set i (teX x va vd vv 6), y.m < 2 from fun y hy => by
            rcases List.mem_or_eq_of_mem_set hy with hy | rfl
            · exact HI6.out.ok y hy
            · exact HXI.out)
          have HGF := Lib.hid (show w.grownBy W7 (some p) from ⟨HK.out.gr.os.trans HI6.out.gr.os, HK.out.gr.tape.trans HI6.out.gr.tape, HK.out.gr.output.trans HI6.out.gr.output, Nat.le_trans HI6.out.gr.size HK.out.gr.size, fun b hb hne => (HK.out.gr.block b (Nat.lt_of_lt_of_le hb HI6.out.gr.size) (fun h => h.elim (fun h => hne (by rw [h])) (fun h => by omega))).trans (HI6.out.gr.block b hb hne)⟩)
          go_wp2_with (fail)
          go_ret
          exact ⟨L.set i (teX x va vd vv 6), _, c, kk + 4, n, rfl, HX8.out, by rw [List.length_set]; exact HLN.out, by omega, HK.out.own, HK.out.strm, by omega, HGF.out⟩
end Go.Proofs.YtlfphndnkgoinaaGreatDoor
