/- As Qst, where values, and what is laid, may name the numbers of the blocks that were laid before. No program in sight. -/
import Derived.Test.YtidgicbhgnbidaaGreatDoorQst
namespace Go.Proofs.YtidgicbhgnbidaaGreatDoor
open Go.RowKit

/-- What an operation lays, by the numbers of the new blocks. -/
abbrev ObD := Option ((Nat → Nat) → Obj)
def msL (ms : List ObD) : List Laid := ms.map (Option.map fun ob => (ob fun _ => 0, fun _ => undef))
def gv (l : List Value) (i : Nat) : Value := l.getD i undef
def updG (G : Nat → Nat) (i x : Nat) : Nat → Nat := fun k => if k = i then x else G k
/-- What an operation depends on is done when it is ready. -/
def depB (ops : Array Oper) (ds : List (List Nat)) : Bool :=
  (List.range ops.size).all fun k => match ops[k]?, ds[k]? with
    | some o, some l => l.all fun j => j == k || hasE o j || (List.range k).any fun p => hasE o p && (match ds[p]? with
      | some m => m.contains j
      | none => false)
    | _, _ => false
theorem depB_spec {ops : Array Oper} {ds : List (List Nat)} (h : depB ops ds = true) {k : Nat} {o : Oper} {l : List Nat} (ho : ops[k]? = some o) (hl : ds[k]? = some l) {j : Nat} (hj : j ∈ l) :
    j = k ∨ hasE o j = true ∨ ∃ p m, p < k ∧ hasE o p = true ∧ ds[p]? = some m ∧ j ∈ m := by
  have hk : k < ops.size := (Array.getElem?_eq_some_iff.1 ho).1
  have h1 := List.all_eq_true.1 h k (List.mem_range.2 hk)
  rw [ho, hl] at h1
  have h2 := List.all_eq_true.1 h1 j hj
  simp only [Bool.or_eq_true, beq_iff_eq] at h2
  rcases h2 with (h2 | h2) | h2
  · exact .inl h2
  · exact .inr (.inl h2)
  · obtain ⟨p, hp, hp2⟩ := List.any_eq_true.1 h2
    simp only [Bool.and_eq_true] at hp2
    cases hm : ds[p]? with
    | none => rw [hm] at hp2; cases hp2.2
    | some m => rw [hm] at hp2; exact .inr (.inr ⟨p, m, List.mem_range.1 hp, hp2.1, hm, List.contains_iff_mem.1 hp2.2⟩)
theorem dep_done {ops : Array Oper} {ds : List (List Nat)} (h : depB ops ds = true) {d : Array Bool} (hcl : ∀ j oj, ops[j]? = some oj → d.getD j false = true → ∀ e ∈ oj.after, Region.binds .any e = true → d.getD e.on false = true) (hsz : d.size = ops.size) :
    ∀ (n k : Nat), k < n → d.getD k false = true → ∀ l, ds[k]? = some l → ∀ j ∈ l, d.getD j false = true
  | 0, k, hk, _, _, _, _, _ => by omega
  | n + 1, k, hk, hd, l, hl, j, hj => by
    have hks : k < ops.size := by
      rcases Nat.lt_or_ge k ops.size with h1 | h1
      · exact h1
      · rw [Array.getD_eq_getD_getElem?, Array.getElem?_eq_none (by omega)] at hd; cases hd
    obtain ⟨o, ho⟩ : ∃ o, ops[k]? = some o := ⟨_, Array.getElem?_eq_getElem hks⟩
    rcases depB_spec h ho hl hj with e | e | ⟨p, m, hp, he, hm, hjm⟩
    · rw [e]; exact hd
    · obtain ⟨x, hx1, hx2, hx3⟩ := hasE_spec e
      rw [← hx3]; exact hcl k o ho hd x hx1 hx2
    · obtain ⟨x, hx1, hx2, hx3⟩ := hasE_spec he
      have hdp := hcl k o ho hd x hx1 hx2
      rw [hx3] at hdp
      exact dep_done h hcl hsz n p (by omega) hdp m hm j hjm
/-- The new blocks that an operation may look at. -/
def LkD (W w : World) (ms : List ObD) (l : List Nat) (i : Nat) (G : Nat → Nat) : Prop := ∀ j ∈ l, j ≠ i → ∀ ob, ms[j]? = some (some ob) → W.heap.size ≤ G j ∧ w.heap[G j]? = some (ob G)
def OneSd (P : Program) (W : World) (K : Nat → World → Prop) (A : Act) (l : List Oper) (V : (Nat → Nat) → List Value) (ms : List ObD) (i : Nat) (o : Oper) (m : ObD) (ds : List Nat) (c b : Nat) : Prop :=
  ∀ (G : Nat → Nat) (s : Nat) (w : World), K s w → LkD W w ms ds i G →
    match m with
    | some ob => c = 0 → s ≤ b → (execOp (putL A l (V G)).eval o).run P w = .ok (.value (gv (V (updG G i w.heap.size)) i)) (w.alloc (ob G))
    | none => if 0 < c then (s + 1 = c → StepSt P W (putL A l (V G)) o w (gv (V G) i) (K c)) else (s ≤ b → StepSt P W (putL A l (V G)) o w (gv (V G) i) (K s))
def AllSd (P : Program) (W : World) (K : Nat → World → Prop) (A : Act) (l : List Oper) (V : (Nat → Nat) → List Value) (ms0 : List ObD) : Nat → List Oper → List ObD → List (List Nat) → List Nat → List Nat → Prop
  | i, o :: os, m :: ms, d :: ds, c :: cs, b :: bs => OneSd P W K A l V ms0 i o m d c b ∧ AllSd P W K A l V ms0 (i + 1) os ms ds cs bs
  | _, _, _, _, _, _ => True
theorem AllSd.get {P : Program} {W : World} {K : Nat → World → Prop} {A : Act} {l : List Oper} {V : (Nat → Nat) → List Value} {ms0 : List ObD} : ∀ {i : Nat} {os : List Oper} {ms : List ObD} {ds : List (List Nat)} {cs bs : List Nat} {k : Nat} {o : Oper} {m : ObD} {d : List Nat} {c b : Nat}, AllSd P W K A l V ms0 i os ms ds cs bs → os[k]? = some o → ms[k]? = some m → ds[k]? = some d → cs[k]? = some c → bs[k]? = some b → OneSd P W K A l V ms0 (i + k) o m d c b
  | i, o :: os, m :: ms, d :: ds, c :: cs, b :: bs, 0, _, _, _, _, _, h, h1, h3, h2, h4, h5 => by cases h1; cases h2; cases h3; cases h4; cases h5; exact h.1
  | i, o :: os, m :: ms, d :: ds, c :: cs, b :: bs, k + 1, _, _, _, _, _, h, h1, h3, h2, h4, h5 => by
    have := AllSd.get h.2 (k := k) h1 h3 h2 h4 h5
    rw [show i + (k + 1) = i + 1 + k by omega]
    exact this
  | _, [], _, _, _, _, _, _, _, _, _, _, _, h1, _, _, _, _ => by simp at h1
  | _, _ :: _, [], _, _, _, _, _, _, _, _, _, _, _, h2, _, _, _ => by simp at h2
  | _, _ :: _, _ :: _, [], _, _, _, _, _, _, _, _, _, _, _, h3, _, _ => by simp at h3
  | _, _ :: _, _ :: _, _ :: _, [], _, _, _, _, _, _, _, _, _, _, _, h4, _ => by simp at h4
  | _, _ :: _, _ :: _, _ :: _, _ :: _, [], _, _, _, _, _, _, _, _, _, _, _, h5 => by simp at h5
structure DInv (W : World) (K : Nat → World → Prop) (ops : Array Oper) (V : (Nat → Nat) → List Value) (ms : List ObD) (cs : List Nat) (cm : Nat) (A : Act) (G : Nat → Nat) (d : Array Bool) (a : Act) (w : World) (s : Nat) : Prop where
  dsize : d.size = ops.size
  closed : ∀ j oj, ops[j]? = some oj → d.getD j false = true → ∀ e ∈ oj.after, Region.binds .any e = true → d.getD e.on false = true
  st : K s w ∧ s ≤ cm ∧ ∀ i c, i < ops.size → cs[i]? = some c → 0 < c → (d.getD i false = true ↔ c ≤ s)
  defers : a.defers = A.defers
  size : a.tmps.size = A.tmps.size
  hsize : W.heap.size ≤ w.heap.size
  slot0 : ∀ t, (∀ k o, ops[k]? = some o → o.dst = some t → d.getD k false = false) → a.tmps[t]? = A.tmps[t]?
  slot1 : ∀ k o t, ops[k]? = some o → o.dst = some t → d.getD k false = true → a.tmps[t]? = some (gv (V G) k)
  al : ∀ k ob, k < ops.size → ms[k]? = some (some ob) → d.getD k false = true → W.heap.size ≤ G k ∧ w.heap[G k]? = some (ob G)
section
variable {P : Program} {W : World} {K : Nat → World → Prop} {ops : Array Oper} {V : (Nat → Nat) → List Value} {ms : List ObD} {ds : List (List Nat)} {cs bs : List Nat} {cm : Nat} {A : Act}
theorem msL_get {k : Nat} : (msL ms)[k]? = (ms[k]?).map (Option.map fun ob => (ob fun _ => 0, fun _ => undef)) := by unfold msL; rw [List.getElem?_map]
theorem putL_gv {os : List Oper} {l : List Value} {a : Act} {k : Nat} {o : Oper} {t : Tmp} (h1 : os[k]? = some o) (hl : l.length = os.length) (h3 : o.dst = some t) (h4 : t < a.tmps.size) (h5 : ∀ j p, os[j]? = some p → j ≠ k → p.dst ≠ some t) : (putL a os l).tmps[t]? = some (gv l k) := by
  have hk : k < os.length := (List.getElem?_eq_some_iff.1 h1).1
  have hv : l[k]? = some (gv l k) := by unfold gv; rw [List.getD_eq_getElem?_getD, List.getElem?_eq_getElem (by omega)]; rfl
  exact putL_at os l a k o _ t h1 hv h3 h4 h5
theorem region_sd {R : Exit → Act → World → Prop} (hB : stB ops (msL ms) cs bs cm = true) (hD : depB ops ds = true) (hq : AllSd P W K A ops.toList V ms 0 ops.toList ms ds cs bs) (hvs : ∀ G, (V G).length = ops.size) (hms : ms.length = ops.size) (hds : ds.length = ops.size)
    (hdep : ∀ (k : Nat) (l : List Nat), ds[k]? = some l → ∀ G G' : Nat → Nat, (∀ j ∈ l, G j = G' j) → gv (V G) k = gv (V G') k)
    (hobj : ∀ (k : Nat) (l : List Nat) (ob : (Nat → Nat) → Obj), ds[k]? = some l → ms[k]? = some (some ob) → ∀ G G' : Nat → Nat, (∀ j ∈ l, j ≠ k → G j = G' j) → ob G = ob G')
    (hKa : ∀ s w o, K s w → K s (w.alloc o)) (hA : ∀ (k : Nat) (o : Oper) (t : Tmp), ops[k]? = some o → o.dst = some t → t < A.tmps.size)
    (hend : ∀ a w G, K cm w → W.heap.size ≤ w.heap.size → (∀ k ob, ms[k]? = some (some ob) → W.heap.size ≤ G k ∧ w.heap[G k]? = some (ob G)) → a = putL A ops.toList (V G) → R .normal a w) :
    ∀ (f : Nat) (d : Array Bool) (a : Act) (w : World) (G : Nat → Nat) (s : Nat), DInv W K ops V ms cs cm A G d a w s → cntU d ops.size = f → wpAny P .any ops R f d a w := by
  unfold stB at hB
  simp only [Bool.and_eq_true] at hB
  obtain ⟨⟨hsel, hops⟩, hcm⟩ := hB
  have hok : ∀ i, i < ops.size → ∃ o m c b, ops[i]? = some o ∧ (msL ms)[i]? = some m ∧ cs[i]? = some c ∧ bs[i]? = some b ∧ OpSt ops (msL ms) cs bs cm i o m c b := fun i hi => opSt_spec (List.all_eq_true.1 hops i (List.mem_range.2 hi))
  have hap : ∀ (j : Nat) (o : Oper) (t : Tmp), ops[j]? = some o → o.dst = some t → ∀ (i : Nat) (p : Oper), ops.toList[i]? = some p → i ≠ j → p.dst ≠ some t := by
    intro j o t hj hot i p hp hne e
    obtain ⟨o', m', c', b', ho', _, _, _, hO⟩ := hok j (Array.getElem?_eq_some_iff.1 hj).1
    obtain rfl : o' = o := Option.some.inj (ho'.symm.trans hj)
    exact hne (hO.apart i p t (by simpa using hp) e hot)
  -- what a frame holds where an operation looks
  have hfr : ∀ (G : Nat → Nat) (d : Array Bool) (a : Act) (w : World) (s : Nat), DInv W K ops V ms cs cm A G d a w s → ∀ t, (∀ (k : Nat) (o : Oper), ops[k]? = some o → o.dst = some t → d.getD k false = true) → a.tmps[t]? = (putL A ops.toList (V G)).tmps[t]? := by
    intro G d a w s inv t ht
    by_cases hx : ∃ (j : Nat) (o : Oper), ops[j]? = some o ∧ o.dst = some t
    · obtain ⟨j, o, hj, hot⟩ := hx
      rw [inv.slot1 j o t hj hot (ht j o hj hot)]
      exact (putL_gv (k := j) (o := o) (by simpa using hj) (by rw [hvs]; simp) hot (hA j o t hj hot) (hap j o t hj hot)).symm
    · rw [putL_get ops.toList (V G) A t (fun o ho e => by
        obtain ⟨j, hj⟩ := List.getElem?_of_mem ho
        exact hx ⟨j, o, by simpa using hj, e⟩)]
      exact inv.slot0 t (fun k o hk hot => absurd ⟨k, o, hk, hot⟩ hx)
  intro f
  induction f with
  | zero =>
    intro d a w G s inv hcn
    have hall := cntU_zero hcn
    refine ⟨?_, ?_⟩
    · refine List.eq_nil_iff_forall_not_mem.2 (fun i hi => ?_)
      obtain ⟨h1, o, ho, _⟩ := mem_ready.1 hi
      have hi' : i < ops.size := (Array.getElem?_eq_some_iff.1 ho).1
      have h2 := hall i hi'
      rw [getD_both h1] at h2
      cases h2
    · refine hend a w G ?_ inv.hsize ?_ ?_
      · have hs : s = cm := by
          have hle := inv.st.2.1
          simp only [Bool.or_eq_true, beq_iff_eq] at hcm
          rcases hcm with h | h
          · omega
          · obtain ⟨j, hj, hj2⟩ := List.any_eq_true.1 h
            have hjn := List.mem_range.1 hj
            rcases Nat.eq_zero_or_pos cm with h0 | h0
            · omega
            · have := (inv.st.2.2 j cm hjn (by simpa using hj2) h0).1 (hall j hjn)
              omega
        exact hs ▸ inv.st.1
      · intro k ob hk
        have hkn := (List.getElem?_eq_some_iff.1 hk).1
        exact inv.al k ob (by omega) hk (hall k (by omega))
      · have hgs := putL_size ops.toList (V G) A
        refine act_ext (inv.defers.trans hgs.2.symm) (inv.size.trans hgs.1.symm) (fun t => ?_)
        exact hfr G d a w s inv t (fun k o hk _ => hall k (Array.getElem?_eq_some_iff.1 hk).1)
  | succ f ih =>
    intro d a w G s inv hcn
    obtain ⟨k0, hk0, hk1, hk2⟩ := cntU_some (d := d) (n := ops.size) (by omega)
    have hr0 : k0 ∈ Region.ready .any ops d := by
      obtain ⟨o, m, c, b, ho, _, _, _, hO⟩ := hok k0 hk0
      exact mem_ready.2 ⟨getD_in (by rw [inv.dsize]; omega) hk1, o, ho, fun e he hb => hk2 _ (hO.back e he hb)⟩
    refine ⟨fun h => (by rw [h] at hr0; cases hr0), fun i hi => ?_⟩
    obtain ⟨hiu, oi, hoi, hiall⟩ := mem_ready.1 hi
    have hin : i < ops.size := (Array.getElem?_eq_some_iff.1 hoi).1
    obtain ⟨o, mL, c, b, ho, hmL, hc, hb, hO⟩ := hok i hin
    obtain rfl : o = oi := Option.some.inj (ho.symm.trans hoi)
    obtain ⟨m, hm⟩ : ∃ m, ms[i]? = some m := ⟨_, List.getElem?_eq_getElem (by omega)⟩
    have hmm : mL = m.map fun ob => (ob fun _ => 0, fun _ => undef) := by
      rw [msL_get, hm] at hmL
      exact (Option.some.inj hmL).symm
    obtain ⟨dl, hdl⟩ : ∃ dl, ds[i]? = some dl := ⟨_, List.getElem?_eq_getElem (by omega)⟩
    have hid : d.getD i false = false := getD_both hiu
    have hisz : i < d.size := by rw [inv.dsize]; omega
    have hdd : ∀ j ∈ dl, j ≠ i → d.getD j false = true := by
      intro j hj hne
      rcases depB_spec hD ho hdl hj with e | e | ⟨p, m', hp, he, hm', hjm⟩
      · exact absurd e hne
      · obtain ⟨x, hx1, hx2, hx3⟩ := hasE_spec e
        exact hx3 ▸ hiall x hx1 hx2
      · obtain ⟨x, hx1, hx2, hx3⟩ := hasE_spec he
        exact dep_done hD inv.closed inv.dsize ops.size p (by omega) (hx3 ▸ hiall x hx1 hx2) m' hm' j hjm
    have hQ := hq.get (k := i) (by simpa using ho) hm hdl hc hb G s w inv.st.1 (by
      intro j hj hne ob hob
      have hjn : j < ops.size := by have := (List.getElem?_eq_some_iff.1 hob).1; omega
      exact inv.al j ob hjn hob (hdd j hj (fun e => hne (by omega))))
    rw [Nat.zero_add] at hQ
    have hexec : execOp a.eval o = execOp (putL A ops.toList (V G)).eval o := by
      refine execOp_congr o (fun cs b => Region.noSelect_spec hsel i o cs b ho) (fun x hx => eval_agree (fun u hu => hfr G d a w s inv u (fun k p hp hpu => ?_)))
      have hlook : u ∈ o.looksAt ops := by
        subst hu
        exact List.mem_append_left _ (List.mem_filterMap.2 ⟨.tmp u, by simpa using hx, rfl⟩)
      obtain ⟨e, he, hbd, hon⟩ := hasE_spec (hO.looks k p u hp hpu hlook)
      exact hon ▸ hiall e he hbd
    have hcnt : cntU (d.setIfInBounds i true) ops.size = f := by
      obtain ⟨h1, h2⟩ := cntU_set hisz hid (n := ops.size)
      rw [h1, if_pos hin]; omega
    have hdset : ∀ k, (d.setIfInBounds i true).getD k false = true → k = i ∨ d.getD k false = true := fun k hk => by
      by_cases hki : i = k
      · exact .inl hki.symm
      · rw [getD_set_ne false hki] at hk; exact .inr hk
    have hdmono : ∀ k, d.getD k false = true → (d.setIfInBounds i true).getD k false = true := fun k hk => by
      by_cases hki : i = k
      · subst hki; rw [hid] at hk; cases hk
      · rw [getD_set_ne false hki]; exact hk
    have hdsame : (d.setIfInBounds i true).getD i false = true := by simp [hisz]
    have hput : ∀ (u : Value) (q t : Tmp), o.dst = some t → t < A.tmps.size → (a.put o.dst u).tmps[q]? = if q = t then some u else a.tmps[q]? := by
      intro u q t hot htA
      rw [hot]
      unfold Act.put
      simp only
      by_cases hst : q = t
      · subst hst
        rw [if_pos rfl]
        simp [inv.size, htA]
      · rw [if_neg hst, Array.getElem?_setIfInBounds_ne (fun e => hst e.symm)]
    -- what was done depends on no block that is laid now
    have hsame : ∀ (G' : Nat → Nat), (∀ k, k ≠ i → G' k = G k) → ∀ k, d.getD k false = true → k < ops.size → gv (V G') k = gv (V G) k := by
      intro G' hG k hk hkn
      obtain ⟨l, hl⟩ : ∃ l, ds[k]? = some l := ⟨_, List.getElem?_eq_getElem (by omega)⟩
      refine hdep k l hl G' G (fun j hj => hG j (fun e => ?_))
      have := dep_done hD inv.closed inv.dsize ops.size k hkn hk l hl j hj
      rw [e, hid] at this
      cases this
    have hnew : ∀ (u : Value) (w' : World) (G' : Nat → Nat) (s' : Nat), GrN W w w' → K s' w' → s' ≤ cm → (∀ j c', j < ops.size → cs[j]? = some c' → 0 < c' → ((d.setIfInBounds i true).getD j false = true ↔ c' ≤ s')) → (∀ t, o.dst = some t → u = gv (V G') i) →
        (∀ ob, m = some ob → G' i = w.heap.size ∧ w'.heap[w.heap.size]? = some (ob G)) → (∀ k, k ≠ i → G' k = G k) →
        DInv W K ops V ms cs cm A G' (d.setIfInBounds i true) (a.put o.dst u) w' s' := by
      intro u w' G' s' hg hK hscm hst hu hal hGk
      refine ⟨by rw [Array.size_setIfInBounds]; exact inv.dsize, ?_, ⟨hK, hscm, hst⟩, by rw [(put_size _ _ _).2]; exact inv.defers, by rw [(put_size _ _ _).1]; exact inv.size, Nat.le_trans inv.hsize hg.1, ?_, ?_, ?_⟩
      · intro j oj hj hdj e he hbd
        rcases hdset j hdj with e1 | e1
        · subst e1
          obtain rfl : oj = o := Option.some.inj (hj.symm.trans ho)
          exact hdmono _ (hiall e he hbd)
        · exact hdmono _ (inv.closed j oj hj e1 e he hbd)
      · intro q hs'
        have hqo : o.dst ≠ some q := fun e => by
          have := hs' i o ho e
          rw [hdsame] at this
          cases this
        rw [put_get _ _ _ _ hqo]
        refine inv.slot0 q (fun k p hp hps => ?_)
        have h1 := hs' k p hp hps
        cases h2 : d.getD k false with
        | false => rfl
        | true => rw [hdmono k h2] at h1; cases h1
      · intro k p t hp hps hk
        by_cases hki : k = i
        · subst hki
          obtain rfl : p = o := Option.some.inj (hp.symm.trans ho)
          rw [hput u t t hps (hA k p t ho hps), if_pos rfl, hu t hps]
        · have hk' := (hdset k hk).resolve_left hki
          have hne : (a.put o.dst u).tmps[t]? = a.tmps[t]? := put_get _ _ _ _ (fun e => hki (hO.apart k p t hp hps e))
          rw [hne, inv.slot1 k p t hp hps hk', hsame G' hGk k hk' (Array.getElem?_eq_some_iff.1 hp).1]
      · intro k ob hkn hmk hdk
        obtain ⟨l, hl⟩ : ∃ l, ds[k]? = some l := ⟨_, List.getElem?_eq_getElem (by omega)⟩
        by_cases hki : k = i
        · subst hki
          rw [hm] at hmk
          obtain ⟨g1, g2⟩ := hal ob (Option.some.inj hmk)
          rw [g1]
          refine ⟨inv.hsize, ?_⟩
          rw [hobj k l ob hl (by rw [hm]; exact hmk) G' G (fun j _ hne => hGk j hne)]
          exact g2
        · have hk' := (hdset k hdk).resolve_left hki
          obtain ⟨g1, g2⟩ := inv.al k ob hkn hmk hk'
          rw [hGk k hki]
          refine ⟨g1, ?_⟩
          rw [hobj k l ob hl hmk G' G (fun j hj _ => hGk j (fun e => by
            have := dep_done hD inv.closed inv.dsize ops.size k hkn hk' l hl j hj
            rw [e, hid] at this
            cases this))]
          exact (hg.2 _ g1 (Array.getElem?_eq_some_iff.1 g2).1).trans g2
    -- the stage behind it
    have hstay : c = 0 → ∀ j c', j < ops.size → cs[j]? = some c' → 0 < c' → ((d.setIfInBounds i true).getD j false = true ↔ c' ≤ s) := by
      intro hc0 j c' hj hcj hpos
      have hji : i ≠ j := fun e => by subst e; rw [hc] at hcj; have := Option.some.inj hcj; omega
      rw [getD_set_ne false hji]
      exact inv.st.2.2 j c' hj hcj hpos
    have hsb : c = 0 → s ≤ b := by
      intro hc0
      rcases Nat.lt_or_ge b cm with hbc | hbc
      · obtain ⟨j, q, hq', hcj, hE⟩ := hO.low hc0 hbc
        rcases Nat.lt_or_ge b s with hlt | hge
        · exfalso
          have hj : j < ops.size := (Array.getElem?_eq_some_iff.1 hq').1
          have hdone := (inv.st.2.2 j (b + 1) hj hcj (by omega)).2 (by omega)
          obtain ⟨e, he1, he2, he3⟩ := hasE_spec hE
          have := inv.closed j q hq' hdone e he1 he2
          rw [he3, hid] at this
          cases this
        · exact hge
      · have := inv.st.2.1
        omega
    unfold wpOp
    rw [ho]
    simp only
    have hw : Region.wanted o (yielded ops a.tmps) = true := by unfold Region.wanted; rw [hO.guard]
    rw [if_pos hw]
    refine .inl ?_
    unfold Oper.wp
    rw [hexec]
    by_cases hc0 : c = 0
    · cases m with
      | some ob =>
        rw [hQ hc0 (hsb hc0)]
        have hal : (w.alloc (ob G)).heap[w.heap.size]? = some (ob G) := heap_new w (ob G)
        refine ih _ _ _ (updG G i w.heap.size) s (hnew _ _ _ s (GrN.alloc _ _ _) (hKa _ _ _ inv.st.1) inv.st.2.1 (hstay hc0) (fun t _ => rfl) (fun ob' h => ?_) (fun k hk => if_neg hk)) hcnt
        cases h
        exact ⟨if_pos rfl, hal⟩
      | none =>
        simp only [hc0, Nat.lt_irrefl, if_false] at hQ
        rcases hQ (hsb hc0) with ⟨w', h1, h2, h3⟩ | ⟨fn, args, h1, h2⟩ | ⟨w', h1, hdn, h2, h3⟩
        · rw [h1]
          exact ih _ _ _ G s (hnew _ w' G s h3 h2 inv.st.2.1 (hstay hc0) (fun _ _ => rfl) (fun ob h => by cases h) (fun _ _ => rfl)) hcnt
        · rw [h1]
          refine h2.mono (fun e w' h => ?_)
          obtain ⟨rfl, hk, hg⟩ := h
          exact ih _ _ _ G s (hnew _ w' G s hg hk inv.st.2.1 (hstay hc0) (fun _ _ => rfl) (fun ob h => by cases h) (fun _ _ => rfl)) hcnt
        · rw [h1]
          exact ih _ _ _ G s (hnew _ w' G s h3 h2 inv.st.2.1 (hstay hc0) (fun t ht => by rw [hdn] at ht; cases ht) (fun ob h => by cases h) (fun _ _ => rfl)) hcnt
    · have hcp : 0 < c := by omega
      obtain ⟨hmn, hccm, hpre⟩ := hO.high hcp
      obtain rfl : m = none := by
        cases m with
        | none => rfl
        | some ob => rw [hmm] at hmn; cases hmn
      have hnot : ¬ c ≤ s := fun h => by
        have := (inv.st.2.2 i c hin hc hcp).2 h
        rw [hid] at this; cases this
      have hs1 : s + 1 = c := by
        rcases hpre with h | ⟨j, hj, hcj, hE⟩
        · omega
        · rcases Nat.eq_zero_or_pos (c - 1) with h0 | h0
          · omega
          · obtain ⟨e, he1, he2, he3⟩ := hasE_spec hE
            have := (inv.st.2.2 j (c - 1) hj hcj h0).1 (he3 ▸ hiall e he1 he2)
            omega
      have hgo : ∀ j c', j < ops.size → cs[j]? = some c' → 0 < c' → ((d.setIfInBounds i true).getD j false = true ↔ c' ≤ c) := by
        intro j c' hj hcj hpos
        by_cases hji : i = j
        · subst hji
          rw [hc] at hcj
          have := Option.some.inj hcj
          exact ⟨fun _ => by omega, fun _ => hdsame⟩
        · rw [getD_set_ne false hji, inv.st.2.2 j c' hj hcj hpos]
          have hne : c' ≠ c := fun e => hji (hO.alone hcp j hj (e ▸ hcj)).symm
          omega
      simp only [hcp, if_true] at hQ
      rcases hQ hs1 with ⟨w', h1, h2, h3⟩ | ⟨fn, args, h1, h2⟩ | ⟨w', h1, hdn, h2, h3⟩
      · rw [h1]
        exact ih _ _ _ G c (hnew _ w' G c h3 h2 hccm hgo (fun _ _ => rfl) (fun ob h => by cases h) (fun _ _ => rfl)) hcnt
      · rw [h1]
        refine h2.mono (fun e w' h => ?_)
        obtain ⟨rfl, hk, hg⟩ := h
        exact ih _ _ _ G c (hnew _ w' G c hg hk hccm hgo (fun _ _ => rfl) (fun ob h => by cases h) (fun _ _ => rfl)) hcnt
      · rw [h1]
        exact ih _ _ _ G c (hnew _ w' G c h3 h2 hccm hgo (fun t ht => by rw [hdn] at ht; cases ht) (fun ob h => by cases h) (fun _ _ => rfl)) hcnt
/-- A region that draws, each operation looked at once; values may name the new blocks' numbers. -/
theorem qRegionSd {id : Nat} {R : Exit → Act → World → Prop} {a : Act} {w : World} {l : List Oper} (K : Nat → World → Prop) (V : (Nat → Nat) → List Value) (ms : List ObD) (ds : List (List Nat)) (cs bs : List Nat) (cm : Nat) (hm : P.follows .mixedOrders = true) (hB : stB l.toArray (msL ms) cs bs cm = true) (hD : depB l.toArray ds = true)
    (hvs : ∀ G, (V G).length = l.length) (hms : ms.length = l.length) (hds : ds.length = l.length) (hsz : l.all (fun o => match o.dst with | some t => decide (t < a.tmps.size) | none => true) = true)
    (hdep : ∀ (k : Nat) (l : List Nat), ds[k]? = some l → ∀ G G' : Nat → Nat, (∀ j ∈ l, G j = G' j) → gv (V G) k = gv (V G') k)
    (hobj : ∀ (k : Nat) (l : List Nat) (ob : (Nat → Nat) → Obj), ds[k]? = some l → ms[k]? = some (some ob) → ∀ G G' : Nat → Nat, (∀ j ∈ l, j ≠ k → G j = G' j) → ob G = ob G')
    (hK0 : K 0 w.drew) (hKa : ∀ s w o, K s w → K s (w.alloc o))
    (hq : AllSd P w K a l V ms 0 l ms ds cs bs)
    (h : ∀ (G : Nat → Nat) w', K cm w' → w.heap.size ≤ w'.heap.size → (∀ k ob, ms[k]? = some (some ob) → w.heap.size ≤ G k ∧ w'.heap[G k]? = some (ob G)) → R .normal (putL a l (V G)) w') : (Code.region id l.toArray true).wp P R a w := by
  refine wp_region_any hm ?_
  have hA : ∀ (k : Nat) (o : Oper) (t : Tmp), l.toArray[k]? = some o → o.dst = some t → t < a.tmps.size := fun k o t ho ht => by
    have := List.all_eq_true.1 hsz o (List.mem_of_getElem? (i := k) (by simpa using ho))
    rw [ht] at this
    simpa using this
  have hmain := region_sd (R := R) (W := w) (K := K) hB hD (by simpa using hq) (by simpa using hvs) (by simpa using hms) (by simpa using hds) hdep hobj hKa hA (fun a' w' G hk hs hG e => by rw [e]; exact h G w' hk hs hG)
  have inv0 : DInv w K l.toArray V ms cs cm a (fun _ => 0) (Array.replicate l.toArray.size false) a { w with drawn := w.drawn + 1 } 0 := by
    refine ⟨by simp, fun j oj _ hj => (by rw [getD_replicate_false] at hj; cases hj), ⟨hK0, Nat.zero_le _, fun i c _ _ hp => ⟨fun hd => (by rw [getD_replicate_false] at hd; cases hd), fun hd => by omega⟩⟩, rfl, rfl, Nat.le_refl _, fun _ _ => rfl, ?_, ?_⟩
    · intro k o t _ _ hd
      rw [getD_replicate_false] at hd; cases hd
    · intro k ob _ _ hd
      rw [getD_replicate_false] at hd; cases hd
  have := hmain _ _ a _ _ 0 inv0 rfl
  refine wpAny_le ?_ this
  exact cntU_le _ _
end
section
variable {P : Program} {W : World} {K : Nat → World → Prop} {A : Act} {l : List Oper} {V : (Nat → Nat) → List Value} {ms : List ObD} {i : Nat} {o : Oper} {ds : List Nat} {b : Nat}
theorem OneSd.pure (h : ∀ G w, (execOp (putL A l (V G)).eval o).run P w = .ok (.value (gv (V G) i)) w) : OneSd P W K A l V ms i o none ds 0 b := by
  intro G s w hK hL
  show if 0 < 0 then _ else _
  rw [if_neg (by omega)]
  exact fun _ => .inl ⟨w, h G w, hK, GrN.refl _ _⟩
theorem OneSd.load (h : ∀ G s w, K s w → s ≤ b → LkD W w ms ds i G → (execOp (putL A l (V G)).eval o).run P w = .ok (.value (gv (V G) i)) w) : OneSd P W K A l V ms i o none ds 0 b := by
  intro G s w hK hL
  show if 0 < 0 then _ else _
  rw [if_neg (by omega)]
  exact fun hs => .inl ⟨w, h G s w hK hs hL, hK, GrN.refl _ _⟩
theorem OneSd.lay {ob : (Nat → Nat) → Obj} (h : ∀ G w, (execOp (putL A l (V G)).eval o).run P w = .ok (.value (gv (V (updG G i w.heap.size)) i)) (w.alloc (ob G))) : OneSd P W K A l V ms i o (some ob) ds 0 b := by
  intro G s w hK hL
  exact fun _ _ => h G w
theorem OneSd.call {s : Nat} (h : ∀ G w, K s w → LkD W w ms ds i G → ∃ fn args, (execOp (putL A l (V G)).eval o).run P w = .ok (.enter fn args) w ∧ Calls P fn args w (fun e w' => e = .returned (gv (V G) i) ∧ K (s + 1) w' ∧ GrN W w w')) : OneSd P W K A l V ms i o none ds (s + 1) b := by
  intro G s' w hK hL
  show if 0 < s + 1 then _ else _
  rw [if_pos (by omega)]
  intro e
  obtain rfl : s' = s := by omega
  exact .inr (.inl (h G w hK hL))
theorem OneSd.store {s : Nat} (h : ∀ G w, K s w → LkD W w ms ds i G → ∃ w', (execOp (putL A l (V G)).eval o).run P w = .ok .skip w' ∧ o.dst = none ∧ K (s + 1) w' ∧ GrN W w w') : OneSd P W K A l V ms i o none ds (s + 1) b := by
  intro G s' w hK hL
  show if 0 < s + 1 then _ else _
  rw [if_pos (by omega)]
  intro e
  obtain rfl : s' = s := by omega
  exact .inr (.inr (h G w hK hL))
/-- A call that changes nothing of the chain (stage stays). -/
theorem OneSd.still (h : ∀ G s w, K s w → s ≤ b → LkD W w ms ds i G → ∃ fn args, (execOp (putL A l (V G)).eval o).run P w = .ok (.enter fn args) w ∧ Calls P fn args w (fun e w' => e = .returned (gv (V G) i) ∧ K s w' ∧ GrN W w w')) : OneSd P W K A l V ms i o none ds 0 b := by
  intro G s w hK hL
  show if 0 < 0 then _ else _
  rw [if_neg (by omega)]
  exact fun hs => .inr (.inl (h G s w hK hs hL))
end
end Go.Proofs.YtidgicbhgnbidaaGreatDoor
