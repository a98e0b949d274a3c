/- rule.whole by its contract. -/
import Derived.Test.YtlfphndnkgoinaaGreatDoorWhP
import Derived.Test.YtlfphndnkgoinaaGreatDoorDvA
import Derived.Test.YtlfphndnkgoinaaGreatDoorTkT
import Derived.Deep.RegionLawGrows
namespace Go.Proofs.YtlfphndnkgoinaaGreatDoor
open Go.RowKit Go.Maps Go.WideMaps

theorem Tryz.infoSpl : (Tryz.prog.info? 56).map (fun i => (i.zero, i.size, i.bytes)) = some (some (.agg #[.string ⟨#[]⟩, .string ⟨#[]⟩, .int .i64 0, .int .i64 0]), 4, 48) := by kernel_rfl
theorem te_le (d : Nat) : (teT d).size ≤ maxLen := by
  rw [(te_min d).1]
  have h : min d 3 = 0 ∨ min d 3 = 1 ∨ min d 3 = 2 ∨ min d 3 = 3 := by omega
  rcases h with h | h | h | h <;> rw [h] <;> decide +kernel
/-- An append to an owned row as a step of a drawn region; where the row lies behind it. -/
theorem step_append_rowW {P : Program} {ops : Array Oper} {o : Oper} {a : Act} {w : World} {K : Act → World → Prop} {Q : Exit → Act → World → Prop} {E : Prop}
    (hg : o.guard = none) (s x : Operand) (t : TypeId) (hop : o.op = Op.call { callee := Callee.builtin Builtin.append, args := #[s, x], argTypes := #[t, t] })
    (base : Nat) (e : TypeId) (i : TypeInfo) (z : Value) (size bytes : Nat) (h1 : P.underlying t = some (.slice e)) (h2 : P.info? e = some i) (h3 : i.zero = some z) (h4 : i.size = size) (h5 : i.bytes = bytes) (h6 : z.cells.size = size) (h7 : 0 < size)
    (v : Value) (n : Nat) (xs : List Value) (hs : a.eval s = v) (hown : w.ownsRow base e size v n xs)
    (ad : Addr) (m c : Nat) (news : List Value) (hx : a.eval x = .slice (some ad) m c) (hn : news.length = m * size) (hc : ∀ j u, news[j]? = some u → w.cell? (ad.add j) = some u) (h1c : ∀ u ∈ news, u.oneCell' = true)
    (b1 : n + m ≤ maxLen) (b2 : (n + m) * bytes ≤ 140737488355328) (hb : base ≤ w.heap.size)
    (hK : ∀ v' w', w'.ownsRow base e size v' (n + m) (xs ++ news) → w.grownBy w' v.ownBlock → Moved w v v' → K (a.put o.dst v') w') :
    if Region.wanted o (yielded ops a.tmps) = true then Oper.wp P o a w K Q else E := by
  have hw : Region.wanted o (yielded ops a.tmps) = true := by simp [Region.wanted, hg]
  rw [if_pos hw]
  obtain ⟨v', w', hrun, r1, r2, r3⟩ := run_append_own2 (P := P) w base t o.type e i z size bytes h1 h2 h3 h4 h5 h6 h7 v n xs hown ad m c news hn hc h1c b1 b2 hb
  unfold Oper.wp
  simp [execOp, hop, resolve, invoke, builtin, hs, hx, hrun, Result.andThen]
  exact hK v' w' r1 r2 r3
/-- While the spells of a device are added: out's row grows, what was laid since W0 stays. -/
structure WhJ (w3 w4 wx : World) (W0 : Nat) (k : Nat) (v : Value) (n : Nat) (L : List (Nat × Int × Int)) : Prop where
  row : wx.ownsRow w3.heap.size 56 4 v n (recs (slC k) L)
  gr : GrF w4 wx (fun b => w3.heap.size ≤ b ∧ b < W0)
  nb : ∀ b, v.ownBlock = some b → b < W0 ∨ w4.heap.size ≤ b
theorem WhJ.below {w3 w4 wx V : World} {W0 k n : Nat} {v : Value} {L : List (Nat × Int × Int)} (h : WhJ w3 w4 wx W0 k v n L) (hb : Below wx.heap.size wx V) : WhJ w3 w4 V W0 k v n L :=
  ⟨own_belowP h.row hb, h.gr.trans ⟨hb.os, hb.tape, hb.output, hb.size, fun b hb' _ => hb.block b hb'⟩, h.nb⟩
theorem WhJ.app {w3 w4 wx V : World} {W0 k n : Nat} {v u : Value} {L : List (Nat × Int × Int)} {x : Nat × Int × Int} (h : WhJ w3 w4 wx W0 k v n L) (ho : V.ownsRow w3.heap.size 56 4 u (n + 1) (recs (slC k) (L ++ [x]))) (hg : wx.grownBy V v.ownBlock) (hm : Moved wx v u) : WhJ w3 w4 V W0 k u (n + 1) (L ++ [x]) := by
  refine ⟨ho, ?_, fun b hb => ?_⟩
  · have h1 : GrF w4 wx (fun b => (w3.heap.size ≤ b ∧ b < W0) ∨ w4.heap.size ≤ b) := h.gr.mono (fun b _ k => .inl k)
    have h2 : GrF wx V (fun b => (w3.heap.size ≤ b ∧ b < W0) ∨ w4.heap.size ≤ b) := GrF.of_grown hg _ (fun b e => by
      rcases h.nb b e with k | k
      · exact .inl ⟨(h.row.lt b e).1, k⟩
      · exact .inr k)
    exact (h1.trans h2).mono (fun b hb k => by rcases k with k | k; exact k; omega)
  · rcases hm with hm | ⟨g, hm, hl⟩
    · exact h.nb b (hm ▸ hb)
    · rw [hm] at hb
      cases hb
      exact .inr (Nat.le_trans h.gr.size hl)
theorem WhJ.be {w3 w4 wx : World} {W0 k n : Nat} {v : Value} {L : List (Nat × Int × Int)} (h : WhJ w3 w4 wx W0 k v n L) (hb : Below w3.heap.size w3 w4) : Below w3.heap.size w3 wx :=
  (GrF.trans (GrF.of_below hb (fun b => w3.heap.size ≤ b) (fun _ h _ => h)) (h.gr.mono (fun _ _ k => k.1))).below (fun _ _ h => h) (Nat.le_refl _)
def WhPost (w : World) (r : Ru) (S : Nat → List (Int × Int)) (l : List Te) (e : Ending) (w' : World) : Prop :=
  ∃ A n c, e = .returned (.slice A n c) ∧ n = (whL S (dvs l r.m)).length ∧ w'.ownsRow w.heap.size 56 4 (.slice A n c) n (recs (slC r.k) (whL S (dvs l r.m))) ∧ Below w.heap.size w w'
set_option maxRecDepth 100000 in
set_option maxHeartbeats 8000000 in
theorem whole_any (r : Ru) (l : List Te) (S : Nat → List (Int × Int)) (rb n c : Nat) (A : Option Addr) (w : World) (hm : RuM w rb r) (hR : RuR r) (hl : TesOk l) (hS : ∀ d, d < 2 → SpOf r (seenL l r.m d) (S d)) (hn : l.length = n) (hn2 : n ≤ 1000) (hr : Row w w.heap.size A (recs teC l)) :
    Calls Tryz.prog 51 #[.pointer (some ⟨rb, 0, none⟩), .slice A n c] w fun e w' => WhPost w r S l e w' := by
  obtain ⟨i0, hi0, hz0, hz1, hz2⟩ := info_parts Tryz.infoSq
  have hmk := @run_makeMap Tryz.prog
  obtain ⟨i1, hi1, hy0, hy1, hy2⟩ := info_parts Tryz.infoSpl
  have hrl := hm.lt
  have HM := Lib.hid hm
  have HRR := Lib.hid hR
  have HR := Lib.hid hr
  have HN := Lib.hid hn
  have HOK := Lib.hid hl
  have HSP := Lib.hid hS
  have HMM := Lib.hid (show r.m < 2 from hR.m)
  have HDV := Lib.hid (fun (V : World) (hV : Below w.heap.size w V) => devices_any l r.m n c A V hl hR.m hn hn2 ((hr.below hV).mono hV.size))
  clear hm hR hr hn hl hS
  go_enter Tryz.func51, Tryz.ntmps51
  go_upto_region 2 with (fail)
  obtain ⟨m, em⟩ : ∃ g, g = w.heap.size := ⟨_, rfl⟩
  obtain ⟨w1, e1⟩ : ∃ V : World, V = w.alloc (.map #[] 0) := ⟨_, rfl⟩
  have hb1 : Below w.heap.size w w1 := by rw [e1]; exact (Below.refl _ _).alloc (Nat.le_refl _) _
  have hm1 : SmI w1 m [] := by rw [e1, em]; exact heap_new w _
  rw [← em, ← e1]
  have hwm : w.heap.size ≤ m := by omega
  have HI1 := Lib.hid (show WhI w w1 142 m [] (fun _ => .slice none 0 0) (fun d => seenL (l.take 0) r.m d) from
    ⟨hm1, fun _ _ => rfl, fun d _ => World.ownsRow_nil _ _ _ _, fun d e b _ _ _ h => (by cases h), fun d _ h => (by cases h), hb1, hwm⟩)
  clear em e1 hb1 hm1
  go_wp2_with (fail)
  go_loopw [16] (fun s wr => ∃ (i : Nat) (K : SmL) (v : Nat → Value), i ≤ n ∧ s = .int .i64 (i : Int) ∧ WhI w wr 142 m K v (fun d => seenL (l.take i) r.m d)) (fun s _ => n - (intOf s).toNat)
  case atStart => exact ⟨0, [], _, by omega, rfl, HI1.out⟩
  case round =>
    obtain ⟨i, K, v, hin, rfl, hI⟩ := hrel
    have hbs := hI.be.size
    have HI := Lib.hid hI
    clear hI
    by_cases hlt : i < n
    · have hltI : (i : Int) < n := by omega
      obtain ⟨x, hx⟩ : ∃ x, l[i]? = some x := ⟨_, List.getElem?_eq_getElem (by have := HN.out; omega)⟩
      obtain ⟨b, o, rfl, hb, hC⟩ := (HR.out.below HI.out.be).posR teC_len (by omega) (by have := HN.out; omega)
      have hxr := HOK.out.1 x (List.mem_of_getElem? hx)
      obtain ⟨c0, c1', c2, c3⟩ := te_cells hC i x hx
      have HTK := Lib.hid (fun d => show seenL (l.take (i + 1)) r.m d = if x.m = r.m ∧ x.d = d then seenL (l.take i) r.m d ++ [(x.at_, x.v)] else seenL (l.take i) r.m d from by rw [te_take_snoc hx, seenL_snoc])
      have HTKL := Lib.hid (fun d => show (seenL (l.take i) r.m d).length ≤ i from Nat.le_trans (seenL_len _ _ _) (by rw [List.length_take]; omega))
      have hb' : b < wr.heap.size := by omega
      have h1 := me_eq x.m r.m hxr.m HMM.out
      have h2 := me_eqL x.m r.m hxr.m HMM.out
      have hxd : x.d < 2 := hxr.d
      clear hx hC hxr
      go_upto_region 5 with (fail)
      obtain ⟨g, eg⟩ : ∃ g, g = wr.heap.size := ⟨_, rfl⟩
      obtain ⟨w5, e5⟩ : ∃ w5, w5 = wr.alloc (.cells #[.string (teT x.d), .string (meT x.m), .int .i64 x.at_, .int .i64 x.v] 43) := ⟨_, rfl⟩
      rw [← eg, ← e5]
      have hg5 : w5.heap[g]? = some (teBk x) := by rw [e5, eg]; exact heap_new wr _
      have hbb5 : Below wr.heap.size wr w5 := by rw [e5]; exact (Below.refl _ _).alloc (Nat.le_refl _) _
      have HI5 := Lib.hid (HI.out.below hbb5)
      have HM5 := Lib.hid (HM.out.below HI5.out.be hrl)
      have hlt5 : g < w5.heap.size := (Array.getElem?_eq_some_iff.1 hg5).1
      have hbs5 := HI5.out.be.size
      obtain ⟨q0, q1, q2, q3⟩ := te_blk hg5
      simp only [Nat.zero_add] at q0 q1 q2 q3
      have q4 : w5.cell? ⟨rb, 1, none⟩ = some (.string (meT r.m)) := HM5.out.cell 1 _ rfl
      have hgm : g ≠ m := by have := HI.out.map.lt; omega
      have hvg : ∀ d, d < 2 → (v d).ownBlock ≠ some g := fun d hd e => by have := ((HI.out.row d hd).lt g e).2; omega
      have hvW : ∀ d, d < 2 → ∀ b, (v d).ownBlock = some b → b < w5.heap.size := fun d hd b hb => ((HI5.out.row d hd).lt b hb).2
      clear eg e5 hg5 c0 c1' c2 c3 HI hbb5
      have hwk : IntKind.i64.wrap ((i : Int) + 1) = ((i + 1 : Nat) : Int) := by rw [IntKind.wrap_i64]; omega
      by_cases hmm : x.m = r.m
      case neg =>
        rw [decide_eq_false hmm] at h1 h2
        have HTN := Lib.hid (show (fun d => seenL (l.take (i + 1)) r.m d) = (fun d => seenL (l.take i) r.m d) from funext fun d => by rw [HTK.out d, if_neg (fun h => hmm h.1)])
        clear hmm
        go_upto_region 5 with (fail)
        go_quiet (fail)
        go_wp2_with (fail)
        go_roundw
        case rel => exact ⟨i + 1, K, v, by omega, by simp, by rw [HTN.out]; exact HI5.out.below ⟨rfl, rfl, rfl, Nat.le_refl _, fun _ _ => rfl⟩⟩
        case measure => simp [intOf]; omega
      rw [decide_eq_true hmm] at h1 h2
      have HTN := Lib.hid (fun e => show seenL (l.take (i + 1)) r.m e = if e = x.d then seenL (l.take i) r.m x.d ++ [(x.at_, x.v)] else seenL (l.take i) r.m e from by
        rw [HTK.out e]
        by_cases hed : e = x.d
        · rw [if_pos ⟨hmm, hed.symm⟩, if_pos hed, hed]
        · rw [if_neg (fun h => hed h.2.symm), if_neg hed])
      clear hmm HTK
      go_upto_region 5 with (fail)
      go_quiet (fail)
      go_upto_region 6 with (fail)
      obtain ⟨w6, e6⟩ : ∃ V : World, V = w5.drewN nq := ⟨_, rfl⟩
      rw [← e6]
      have hb6 : Below w5.heap.size w5 w6 := by rw [e6]; exact below_drewN (Below.refl _ _) _
      have HI6 := Lib.hid (HI5.out.below hb6)
      have hs6 := hb6.size
      have hg6 : g < w6.heap.size := by omega
      have hm6 : m < w6.heap.size := HI6.out.map.lt
      have p0 : w6.cell? ⟨g, 0, none⟩ = some (.string (teT x.d)) := (hb6.cell (p := ⟨g, 0, none⟩) hlt5).trans q0
      have p2 : w6.cell? ⟨g, 2, none⟩ = some (.int .i64 x.at_) := (hb6.cell (p := ⟨g, 2, none⟩) hlt5).trans q2
      have p3 : w6.cell? ⟨g, 3, none⟩ = some (.int .i64 x.v) := (hb6.cell (p := ⟨g, 3, none⟩) hlt5).trans q3
      have hvx := HI6.out.nm x.d hxd
      have hvgx := hvg x.d hxd
      have hvWx : ∀ b, (v x.d).ownBlock = some b → b < w6.heap.size := fun b hb => by have := hvW x.d hxd b hb; omega
      have hvlo : ∀ b, (v x.d).ownBlock = some b → w.heap.size ≤ b := fun b hb => ((HI6.out.row x.d hxd).lt b hb).1
      obtain ⟨XV, vc, hvs⟩ := own_slice (HI6.out.row x.d hxd)
      obtain ⟨nn, enn⟩ : ∃ q, q = (seenL (l.take i) r.m x.d).length := ⟨_, rfl⟩
      have hnn : nn ≤ 1000 := by rw [enn]; have := HTKL.out x.d; omega
      rw [← enn] at hvs
      have HRX := Lib.hid (show w6.ownsRow w.heap.size 142 2 (.slice XV nn vc) nn (recs sqC (seenL (l.take i) r.m x.d)) from by
        have := HI6.out.row x.d hxd
        rw [hvs, ← enn] at this
        exact this)
      have HLK := Lib.hid (show (smG (teT x.d) K).getD (.slice none 0 0) = .slice XV nn vc from (HI6.out.look x.d hxd).trans hvs)
      have HVS := Lib.hid hvs
      rw [hvs] at hvx hvgx hvWx hvlo
      have HE := Lib.hid enn
      have hrow6 := w6.heap.size
      clear e6 hb6 q0 q1 q2 q3 q4 hvs enn hrow6 HM5 HI5 hvg hvW h1 h2 hs6 hlt5
      have HK0 := Lib.hid (show KM sqC 2 142 w6 w.heap.size m (teT x.d) (.slice XV nn vc) K nn (seenL (l.take i) r.m x.d) (x.at_, x.v) undef 0 w6.drew from ⟨HI6.out.map, HRX.out, ⟨rfl, rfl, rfl, Nat.le_refl _, fun _ _ _ => rfl⟩, fun b hb => .inl hb⟩)
      refine qRegionSa (KM sqC 2 142 w6 w.heap.size m (teT x.d) (.slice XV nn vc) K nn (seenL (l.take i) r.m x.d) (x.at_, x.v)) 13 0 40 _
        [.map (some m), .pointer (some ⟨g, 0, none⟩), .string (teT x.d), .map (some m), .pointer (some ⟨g, 0, none⟩), .string (teT x.d), .slice XV nn vc, .pointer (some ⟨g, 2, none⟩), .int .i64 x.at_, .pointer (some ⟨g, 3, none⟩), .int .i64 x.v, .agg #[.int .i64 x.at_, .int .i64 x.v], undef, undef, .tuple #[]]
        [none, none, none, none, none, none, none, none, none, none, none, none, some (.cells #[.int .i64 x.at_, .int .i64 x.v] 142, fun b => .slice (some ⟨b, 0, none⟩) 1 1), none, none]
        [0, 0, 0, 0, 0, 0, 0, 0, 0, 0, 0, 0, 0, 1, 2]
        [2, 2, 2, 2, 2, 2, 0, 2, 2, 2, 2, 2, 2, 2, 2] 2 (by kernel_rfl) (by kernel_rfl) rfl rfl (by rfl) rfl rfl rfl rfl HK0.out (fun u s w o h => KM.alloc h o) ?_ ?_ ?_
      · intro u; simp only [putL, Act.put, List.setIfInBounds_toArray, List.set_cons_zero, List.set_cons_succ]
        refine ⟨?_, ?_, ?_, ?_, ?_, ?_, ?_, ?_, ?_, ?_, ?_, ?_, ?_, ?_, ?_, trivial⟩
        · exact fun _ => OneSt.pure (fun G V => by simp only [putH, Act.put, List.setIfInBounds_toArray, List.set_cons_zero, List.set_cons_succ]; go_simp)
        · exact fun _ => OneSt.pure (fun G V => by simp only [putH, Act.put, List.setIfInBounds_toArray, List.set_cons_zero, List.set_cons_succ]; go_simp)
        · exact fun _ => OneSt.load (fun G s V hK hs => by have p0' := KM.old hK p0 hg6 hgm hvgx; have hgl := KM.lt_old hK hg6; simp only [putH, Act.put, List.setIfInBounds_toArray, List.set_cons_zero, List.set_cons_succ]; go_simp)
        · exact fun _ => OneSt.pure (fun G V => by simp only [putH, Act.put, List.setIfInBounds_toArray, List.set_cons_zero, List.set_cons_succ]; go_simp)
        · exact fun _ => OneSt.pure (fun G V => by simp only [putH, Act.put, List.setIfInBounds_toArray, List.set_cons_zero, List.set_cons_succ]; go_simp)
        · exact fun _ => OneSt.load (fun G s V hK hs => by have p0' := KM.old hK p0 hg6 hgm hvgx; have hgl := KM.lt_old hK hg6; simp only [putH, Act.put, List.setIfInBounds_toArray, List.set_cons_zero, List.set_cons_succ]; go_simp)
        · exact fun _ => OneSt.load (fun G s V hK hs => by
            have hlk := look_sm (P := Tryz.prog) (z := .slice none 0 0) Tryz.underlying146 Tryz.underlying9 (by kernel_rfl) (te_le x.d) (KM.low hK hs).map
            rw [HLK.out] at hlk
            simp only [putH, Act.put, List.setIfInBounds_toArray, List.set_cons_zero, List.set_cons_succ]; go_simp)
        · exact fun _ => OneSt.pure (fun G V => by simp only [putH, Act.put, List.setIfInBounds_toArray, List.set_cons_zero, List.set_cons_succ]; go_simp)
        · exact fun _ => OneSt.load (fun G s V hK hs => by have p2' := KM.old hK p2 hg6 hgm hvgx; have hgl := KM.lt_old hK hg6; simp only [putH, Act.put, List.setIfInBounds_toArray, List.set_cons_zero, List.set_cons_succ]; go_simp)
        · exact fun _ => OneSt.pure (fun G V => by simp only [putH, Act.put, List.setIfInBounds_toArray, List.set_cons_zero, List.set_cons_succ]; go_simp)
        · exact fun _ => OneSt.load (fun G s V hK hs => by have p3' := KM.old hK p3 hg6 hgm hvgx; have hgl := KM.lt_old hK hg6; simp only [putH, Act.put, List.setIfInBounds_toArray, List.set_cons_zero, List.set_cons_succ]; go_simp)
        · exact fun _ => OneSt.pure (fun G V => by simp only [putH, Act.put, List.setIfInBounds_toArray, List.set_cons_zero, List.set_cons_succ]; go_simp)
        · exact fun _ => OneSt.lay (fun G V => by simp only [putH, Act.put, List.setIfInBounds_toArray, List.set_cons_zero, List.set_cons_succ]; go_simp)
        · exact fun h => absurd rfl h
        · exact fun _ => OneSt.store (fun G V hK hL => by
            have hup := upd_sm (P := Tryz.prog) (v := u) Tryz.underlying146 Tryz.underlying9 (te_le x.d) (KMm.map hK)
            obtain ⟨T, eT⟩ : ∃ T : World, T = { V with heap := V.heap.setIfInBounds m (.map (smE 0 (smU (teT x.d) u K)).toArray (smU (teT x.d) u K).length) } := ⟨_, rfl⟩
            have hs := KMm.store hK (teT x.d) u hvx hm6
            rw [← eT] at hup hs
            clear eT
            refine ⟨T, ?_, rfl, hs.1, hs.2⟩
            obtain ⟨UA, uc, rfl⟩ := own_slice (KMm.row hK)
            simp only [putH, Act.put, List.setIfInBounds_toArray, List.set_cons_zero, List.set_cons_succ]; go_simp)
      · intro u G V hK hL
        obtain ⟨hg1, hg2⟩ := hL 12 _ _ rfl (by kernel_rfl)
        refine app_st (.tmp 33) (.tmp 39) 90 rfl w.heap.size 142 i0 _ 2 16 Tryz.underlying90 hi0 hz0 hz1 hz2 rfl (by decide) (.slice XV nn vc) nn (recs sqC (seenL (l.take i) r.m x.d)) ?_ (KMm.row hK) ⟨G 12, 0, none⟩ 1 1 (sqC (x.at_, x.v)) ?_ rfl (cells_add (cells_blkT hg2 rfl)) (sqC_one _) (by unfold maxLen; omega) (by omega) (by have := (KMm.gr hK).size; omega) ?_
        · simp only [putL, putH, Act.put, List.setIfInBounds_toArray, List.set_cons_zero, List.set_cons_succ]; rfl
        · simp only [putL, putH, Act.put, List.setIfInBounds_toArray, List.set_cons_zero, List.set_cons_succ]; rfl
        · intro v' w2 ho hg hm
          rw [← recs_snoc] at ho
          exact KMm.app hK ho hg hm hvx hvWx
      · intro u G W7 hK hsz hG
        clear hG
        have HIN := Lib.hid (WhI.step (S' := fun d => seenL (l.take (i + 1)) r.m d) HI6.out hxd (by rw [HVS.out, ← HE.out]; exact hK) (fun e _ => HTN.out e))
        clear hK p0 p2 p3
        simp only [putL, putH, Act.put, List.setIfInBounds_toArray, List.set_cons_zero, List.set_cons_succ]
        go_wp2_with (fail)
        go_roundw
        case rel => exact ⟨i + 1, _, _, by omega, by simp, HIN.out⟩
        case measure => simp [intOf]; omega
    · have hltI : ¬ (i : Int) < n := by omega
      obtain ⟨w2, ew2⟩ : ∃ V : World, V = wr := ⟨_, rfl⟩
      have HI2 := Lib.hid (show WhI w w2 142 m K v (fun d => seenL l r.m d) from by
        have h1 := HI.out
        have h2 : l.take i = l := List.take_of_length_le (by have := HN.out; omega)
        rw [ew2]
        simp only [h2] at h1
        exact h1)
      rw [← ew2]
      have hs2 := HI2.out.be.size
      have HDD := Lib.hid (HDV.out w2 HI2.out.be)
      have hrl2 : rb < w2.heap.size := by omega
      have q4 : w2.cell? ⟨rb, 1, none⟩ = some (.string (meT r.m)) := (HM.out.below HI2.out.be hrl).cell 1 _ rfl
      clear ew2 hbs HI
      go_wp2_with (fail)
      refine HDD.out.mono ?_
      rintro e w3 ⟨A3, c3, rfl, ho3, hb3⟩
      obtain ⟨ds, eds⟩ : ∃ ds, ds = dvs l r.m := ⟨_, rfl⟩
      obtain ⟨q, eq⟩ : ∃ q, q = ds.length := ⟨_, rfl⟩
      rw [← eds, ← eq] at ho3
      have hds : dvs l r.m = ds := eds.symm
      have hq : (dvs l r.m).length = q := by rw [hds, eq]
      rw [hq]
      have HDS := Lib.hid (And.intro hds eq.symm)
      have HD2 := Lib.hid (show (∀ d ∈ ds, d < 2) ∧ q ≤ 2 from by
        rw [eds] at eq ⊢
        refine ⟨fun d hd => ((mem_dvF _ _).1 hd).1, ?_⟩
        rw [eq]
        unfold dvs dvF
        exact Nat.le_trans (List.length_filter_le _ _) (by simp))
      have hq2 := HD2.out.2
      have HB3 := Lib.hid (HI2.out.be.trans (hb3.mono hs2))
      have HI3 := Lib.hid (HI2.out.below hb3)
      have HO3 := Lib.hid ho3
      have hs3 := HB3.out.size
      have HSPL := Lib.hid (fun d (hd : d < 2) => show (S d).length ≤ 400000000000 from spOf_len HRR.out (seenL_ok HOK.out r.m d) (HSP.out d hd))
      clear eds eq hds hq ho3 hb3 HDD q4 HI2 hs2
      go_wp2_with (fail)
      go_loopw [8, 49] (fun out s wr => ∃ (j : Nat) (A1 : Option Addr) (n1 c1 : Nat), j ≤ q ∧ out = .slice A1 n1 c1 ∧ s = .int .i64 (j : Int) ∧ n1 ≤ j * 400000000000 ∧ Hid (Below w3.heap.size w3 wr) ∧ Hid (n1 = (whL S (ds.take j)).length) ∧ Hid (wr.ownsRow w3.heap.size 56 4 (.slice A1 n1 c1) n1 (recs (slC r.k) (whL S (ds.take j))))) (fun _ s _ => q - (intOf s).toNat)
      case atStart => exact ⟨0, none, 0, 0, by omega, rfl, rfl, by omega, Lib.hid (Below.refl _ _), Lib.hid rfl, Lib.hid (World.ownsRow_nil _ _ _ _)⟩
      case round =>
        obtain ⟨j, A1, n1, c1, hjq, rfl, rfl, hn1, HBj, HN1, HO1⟩ := hrel
        have hbsj := HBj.out.size
        by_cases hjl : j < q
        · have hjlI : (j : Int) < q := by omega
          obtain ⟨d, hd⟩ : ∃ d, ds[j]? = some d := ⟨_, List.getElem?_eq_getElem (by have := HDS.out.2; omega)⟩
          have hd2 : d < 2 := HD2.out.1 d (List.mem_of_getElem? hd)
          have HTK := Lib.hid (show whL S (ds.take (j + 1)) = whL S (ds.take j) ++ (S d).map fun s => (d, s.1, s.2) from by rw [List.take_add_one, hd]; exact whL_snoc S _ d)
          obtain ⟨g, rfl, hgl⟩ : ∃ g, A3 = some ⟨g, 0, none⟩ ∧ g < w3.heap.size := by
            rcases own_two HO3.out with ⟨_, h0, _⟩ | ⟨g, h1, h2, h3⟩
            · omega
            · exact ⟨g, h1, h3⟩
          have c0 : wr.cell? ⟨g, j, none⟩ = some (.string (teT d)) := by
            have := rec_cell dvC_len (own_cells0 HO3.out) j d hd 0 _ rfl
            simp only [Nat.zero_add, Nat.mul_one, Nat.add_zero] at this
            exact (HBj.out.cell (p := ⟨g, j, none⟩) hgl).trans this
          have HIj := Lib.hid (HI3.out.below (HBj.out))
          obtain ⟨XV, vc, hvs⟩ := own_slice (HIj.out.row d hd2)
          obtain ⟨nn, enn⟩ : ∃ q, q = (seenL l r.m d).length := ⟨_, rfl⟩
          have hnn : nn ≤ 1000 := by rw [enn]; have := seenL_len l r.m d; have := HN.out; omega
          rw [← enn] at hvs
          have hrow : Row wr wr.heap.size XV (recs sqC (seenL l r.m d)) := by
            have := HIj.out.row d hd2
            rw [hvs, ← enn] at this
            exact own_row this
          have hlk := look_sm (P := Tryz.prog) (w := wr) (z := .slice none 0 0) Tryz.underlying146 Tryz.underlying9 (by kernel_rfl) (te_le d) HIj.out.map
          rw [HIj.out.look d hd2, hvs] at hlk
          have hbw : Below w.heap.size w wr := HIj.out.be
          have HSO := Lib.hid (spansOf_any r (seenL l r.m d) rb nn vc XV wr (HM.out.below hbw hrl) HRR.out (seenL_ok HOK.out r.m d) enn.symm (by omega) hrow)
          have hgwr : g < wr.heap.size := by omega
          clear hd hvs enn hrow hbw HIj
          go_upto_region 12 with (fail)
          go_wp2_with (fail)
          refine HSO.out.mono ?_
          rintro e w4 ⟨A4, n4, c4, sp, rfl, hsp, hn4, ho4, hb4⟩
          have hspS : sp = S d := spOf_det hsp (HSP.out d hd2)
          subst hspS
          have hn4l : n4 ≤ 400000000000 := by rw [hn4]; exact HSPL.out d hd2
          obtain ⟨W0, eW0⟩ : ∃ q, q = wr.heap.size := ⟨_, rfl⟩
          have hW0 : W0 ≤ w4.heap.size := by rw [eW0]; exact hb4.size
          have hbsW : w3.heap.size ≤ W0 := by omega
          have HO4 := Lib.hid (show w4.ownsRow W0 138 2 (.slice A4 n4 c4) n4 (recs sqC (S d)) from by rw [eW0]; exact ho4)
          have HN4 := Lib.hid hn4
          have HB4 := Lib.hid (show Below w3.heap.size w3 w4 from HBj.out.trans (hb4.mono (by omega)))
          have HJ4 := Lib.hid (show WhJ w3 w4 w4 W0 r.k (.slice A1 n1 c1) n1 (whL S (ds.take j) ++ ((S d).take 0).map fun s => (d, s.1, s.2)) from by
            refine ⟨?_, GrF.refl _ _, fun b hb => .inl (by rw [eW0]; exact (HO1.out.lt b hb).2)⟩
            rw [List.take_zero, List.map_nil, List.append_nil]
            exact own_belowP HO1.out hb4)
          clear hsp hn4 ho4 hb4 HSO eW0 c0 hlk
          go_wp2_with (fail)
          go_loopw [8, 59] (fun out s wx => ∃ (k : Nat) (A2 : Option Addr) (c2 : Nat), k ≤ n4 ∧ out = .slice A2 (n1 + k) c2 ∧ s = .int .i64 (k : Int) ∧ Hid (WhJ w3 w4 wx W0 r.k (.slice A2 (n1 + k) c2) (n1 + k) (whL S (ds.take j) ++ ((S d).take k).map fun s => (d, s.1, s.2)))) (fun _ s _ => n4 - (intOf s).toNat)
          case atStart => exact ⟨0, A1, c1, by omega, rfl, rfl, HJ4⟩
          case round =>
            obtain ⟨k, A2, c2, hk, rfl, rfl, HJ⟩ := hrel
            obtain ⟨wx, ewx⟩ : ∃ V : World, V = wr := ⟨_, rfl⟩
            rw [← ewx] at HJ ⊢
            have hbx := HJ.out.gr.size
            clear ewx
            by_cases hkl : k < n4
            · have hklI : (k : Int) < n4 := by omega
              obtain ⟨s, hs⟩ : ∃ s, (S d)[k]? = some s := ⟨_, List.getElem?_eq_getElem (by have := HN4.out; omega)⟩
              obtain ⟨h, rfl, hh, hhl⟩ : ∃ h, A4 = some ⟨h, 0, none⟩ ∧ W0 ≤ h ∧ h < w4.heap.size := by
                rcases own_two HO4.out with ⟨_, h0, _⟩ | ⟨h, h1, h2, h3⟩
                · omega
                · exact ⟨h, h1, h2, h3⟩
              have hkeep : wx.heap[h]? = w4.heap[h]? := HJ.out.gr.block h hhl (fun e => by omega)
              have hcw : ∀ z, wx.cell? ⟨h, z, none⟩ = w4.cell? ⟨h, z, none⟩ := fun z => by
                show World.cell? _ _ = World.cell? _ _
                simp only [World.cell?, hkeep]
              have d0 : wx.cell? ⟨h, k * 2, none⟩ = some (.int .i64 s.1) := by
                have := rec_cell sqC_len (own_cells0 HO4.out) k s hs 0 _ rfl
                simp only [Nat.zero_add, Nat.add_zero] at this
                exact (hcw _).trans this
              have d1 : wx.cell? ⟨h, k * 2 + 1, none⟩ = some (.int .i64 s.2) := by
                have := rec_cell sqC_len (own_cells0 HO4.out) k s hs 1 _ rfl
                simp only [Nat.zero_add] at this
                exact (hcw _).trans this
              have hhx : h < wx.heap.size := by omega
              have HTK2 := Lib.hid (show ((S d).take (k + 1)).map (fun s => (d, s.1, s.2)) = ((S d).take k).map (fun s => (d, s.1, s.2)) ++ [(d, s.1, s.2)] from by rw [List.take_add_one, hs]; simp)
              clear hs hkeep hcw
              go_upto_region 15 with (fail)
              obtain ⟨g6, eg6⟩ : ∃ g, g = wx.heap.size := ⟨_, rfl⟩
              obtain ⟨w6, e6⟩ : ∃ V : World, V = wx.alloc (.cells #[.int .i64 s.1, .int .i64 s.2] 138) := ⟨_, rfl⟩
              rw [← eg6, ← e6]
              have hb6 : Below wx.heap.size wx w6 := by rw [e6]; exact (Below.refl _ _).alloc (Nat.le_refl _) _
              have hg6 : w6.heap[g6]? = some (.cells #[.int .i64 s.1, .int .i64 s.2] 138 (0, 0)) := by rw [e6, eg6]; exact heap_new wx _
              have hlt6 := (Array.getElem?_eq_some_iff.1 hg6).1
              have q0 := cell_of_blk (j := 0) hg6 rfl
              have q1 := cell_of_blk (j := 1) hg6 rfl
              have HJ6 := Lib.hid (HJ.out.below hb6)
              have hs6 : w3.heap.size ≤ w6.heap.size := (HJ6.out.be HB4.out).size
              have hrl6 : rb < w6.heap.size := by omega
              have q2 : w6.cell? ⟨rb, 0, none⟩ = some (.string (rkT r.k)) := (HM.out.below (HB3.out.trans ((HJ6.out.be HB4.out).mono hs3)) hrl).cell 0 _ rfl
              have hj2 : j ≤ 2 := by omega
              clear eg6 e6 hb6 hg6 d0 d1 HJ
              go_region_law (first | (refine step_append_rowW rfl (.tmp 63) (.tmp 74) 52 rfl w3.heap.size 56 i1 _ 4 48 Tryz.underlying52 hi1 hy0 hy1 hy2 rfl (by decide) (.slice A2 (n1 + k) c2) (n1 + k) (recs (slC r.k) (whL S (ds.take j) ++ ((S d).take k).map fun s => (d, s.1, s.2))) (by first | rfl | simp [Act.eval]) (HJ6.out.row.alloc _) ⟨w6.heap.size, 0, none⟩ 1 1 (slC r.k (d, s.1, s.2)) (by first | rfl | simp [Act.eval]) rfl (cells_add (Cells.new _ _ _ _ _ rfl)) (slC_one _ _) (by unfold maxLen; omega) (by omega) (by simp; omega) ?_; intro v9 w9 ho9 hg9 hm9))
              all_goals
                rw [← recs_snoc] at ho9
                have HJA := Lib.hid (WhJ.app (WhJ.below HJ6.out ((Below.refl _ _).alloc (Nat.le_refl _) (.cells #[.string (teT d), .string (rkT r.k), .int .i64 s.1, .int .i64 s.2] 56))) ho9 ⟨hg9.os, hg9.tape, hg9.output, hg9.size, hg9.block⟩ hm9)
                obtain ⟨A9, c9, rfl⟩ := own_slice ho9
                have HJN := Lib.hid (show WhJ w3 w4 w9 W0 r.k (.slice A9 (n1 + (k + 1)) c9) (n1 + (k + 1)) (whL S (ds.take j) ++ ((S d).take (k + 1)).map fun s => (d, s.1, s.2)) from by
                  rw [HTK2.out, ← List.append_assoc]; exact HJA.out)
                clear ho9 hg9 hm9 HJA
                go_wp2_with (fail)
                try simp only [Act.put, List.getElem_toArray, List.getElem_cons_zero, List.getElem_cons_succ, List.setIfInBounds_toArray, List.set_cons_zero, List.set_cons_succ]
                go_roundw
                case rel => exact ⟨k + 1, A9, c9, by omega, rfl, by simp, HJN⟩
                case measure => simp [intOf]; omega
            · have hklI : ¬ (k : Int) < n4 := by omega
              have hkn : n4 = k := by omega
              have HF := Lib.hid (show Below w3.heap.size w3 wx ∧ n1 + k = (whL S (ds.take (j + 1))).length ∧ wx.ownsRow w3.heap.size 56 4 (.slice A2 (n1 + k) c2) (n1 + k) (recs (slC r.k) (whL S (ds.take (j + 1)))) from by
                have h1 : (S d).take k = S d := List.take_of_length_le (by have := HN4.out; omega)
                have h2 := HJ.out.row
                rw [h1, ← HTK.out] at h2
                refine ⟨HJ.out.be HB4.out, ?_, h2⟩
                rw [HTK.out, List.length_append, List.length_map, ← HN1.out, ← HN4.out, hkn])
              go_wp2_with (fail)
              go_roundw
              case rel => exact ⟨j + 1, A2, n1 + k, c2, by omega, rfl, by simp, by omega, Lib.hid HF.out.1, Lib.hid HF.out.2.1, Lib.hid HF.out.2.2⟩
              case measure => simp [intOf]; omega
        · have hjlI : ¬ (j : Int) < q := by omega
          have HF := Lib.hid (show WhPost w r S l (.returned (.slice A1 n1 c1)) wr from by
            have h1 : ds.take j = ds := List.take_of_length_le (by have := HDS.out.2; omega)
            have h2 := HO1.out
            have h3 := HN1.out
            rw [h1] at h2 h3
            exact ⟨A1, n1, c1, rfl, by rw [HDS.out.1]; exact h3, by rw [HDS.out.1]; exact own_mono h2 hs3, HB3.out.trans (HBj.out.mono hs3)⟩)
          go_wp2_with (fail)
          go_ret
          exact HF.out
end Go.Proofs.YtlfphndnkgoinaaGreatDoor
