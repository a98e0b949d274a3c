/- Plain law of LettersEnd: what holds of an office's letters, round by round. No function of the program in sight. -/
import Derived.Test.YtjfjmlmnilmihaaGreatDoorOfK
import Derived.Test.YtjfjmlmnilmihaaGreatDoorOfL
namespace Go.Proofs.YtjfjmlmnilmihaaGreatDoor
open Go.RowKit

def cntO (P : On → Bool) (f : Of) : Nat := ((List.range 6).filter fun i => match f i with | some n => P n | none => false).length
theorem pen_cnt (f : Of) : pen f = cntO peB f := rfl
def domO (f : Of) : Nat := cntO (fun _ => true) f
theorem cnt_list (g h : Nat → Bool) (k : Nat) : ∀ L : List Nat, L.Nodup → (∀ j, j ≠ k → g j = h j) → (L.filter g).length + (if k ∈ L then (if h k = true then 1 else 0) else 0) = (L.filter h).length + (if k ∈ L then (if g k = true then 1 else 0) else 0)
  | [], _, _ => by simp
  | x :: L, hn, hj => by
    obtain ⟨h1, h2⟩ := List.nodup_cons.1 hn
    have ih := cnt_list g h k L h2 hj
    by_cases hx : x = k
    · subst hx
      rw [if_neg h1, if_neg h1] at ih
      rw [if_pos List.mem_cons_self, if_pos List.mem_cons_self]
      by_cases hg : g x = true
      · by_cases hh : h x = true
        · rw [List.filter_cons_of_pos hg, List.filter_cons_of_pos hh, if_pos hg, if_pos hh]; simp only [List.length_cons]; omega
        · rw [List.filter_cons_of_pos hg, List.filter_cons_of_neg hh, if_pos hg, if_neg hh]; simp only [List.length_cons]; omega
      · by_cases hh : h x = true
        · rw [List.filter_cons_of_neg hg, List.filter_cons_of_pos hh, if_neg hg, if_pos hh]; simp only [List.length_cons]; omega
        · rw [List.filter_cons_of_neg hg, List.filter_cons_of_neg hh, if_neg hg, if_neg hh]; omega
    · have e : (k ∈ x :: L) ↔ k ∈ L := by
        rw [List.mem_cons]
        exact ⟨fun h => h.resolve_left (fun e => hx e.symm), fun h => .inr h⟩
      have hgh := hj x hx
      simp only [e]
      by_cases hh : h x = true
      · rw [List.filter_cons_of_pos (by rw [hgh]; exact hh), List.filter_cons_of_pos hh]; simp only [List.length_cons]; omega
      · rw [List.filter_cons_of_neg (by rw [hgh]; exact hh), List.filter_cons_of_neg hh]; exact ih
def hasB (P : On → Bool) (o : Option On) : Nat := match o with | some n => if P n = true then 1 else 0 | none => 0
theorem cnt_set (P : On → Bool) (f : Of) (n : On) (hi : n.l.id < 6) : cntO P (setO f n) + hasB P (f n.l.id) = cntO P f + (if P n = true then 1 else 0) := by
  have h := cnt_list (fun i => match setO f n i with | some n => P n | none => false) (fun i => match f i with | some n => P n | none => false) n.l.id (List.range 6) List.nodup_range (fun j hj => by unfold setO; rw [if_neg hj])
  rw [if_pos (List.mem_range.2 hi), if_pos (List.mem_range.2 hi)] at h
  have e1 : setO f n n.l.id = some n := by unfold setO; rw [if_pos rfl]
  unfold cntO hasB
  rw [e1] at h
  cases hf : f n.l.id with
  | none => rw [hf] at h; simpa using h
  | some m => rw [hf] at h; simpa using h
theorem cnt_le {P Q : On → Bool} {f g : Of} (h : ∀ i n, g i = some n → P n = true → ∃ m, f i = some m ∧ Q m = true) : cntO P g ≤ cntO Q f := by
  unfold cntO
  refine nodup_len (List.Pairwise.filter _ List.nodup_range) (fun i hi => ?_)
  obtain ⟨h1, h2⟩ := List.mem_filter.1 hi
  refine List.mem_filter.2 ⟨h1, ?_⟩
  cases hg : g i with
  | none => rw [hg] at h2; cases h2
  | some n =>
    rw [hg] at h2
    obtain ⟨m, hm, hq⟩ := h i n hg h2
    rw [hm]
    exact hq
/-- What holds of an office, of how many letters were put, and which were done. -/
structure LeI (p : Po) (f : Of) (tm : Int) (m : Nat) (D : List Nat) : Prop where
  ok : OfOk p f tm
  lo : ∀ i n, f i = some n → n.l.un ≤ n.l.at_ + 1000
  pe : (pen f : Int) ≤ p.room
  ct : domO f = m
  d6 : ∀ i ∈ D, i < 6
  dn : ∀ i, i ∈ D ↔ ∃ n, f i = some n ∧ n.s = 3
theorem Aged.all {p : Po} {f h : Of} {tm a : Int} (hk : p.kept = 1000) (hf : OfOk p f tm) (x : Aged p f a h) : ∀ i, h i = (f i).map fun n => gro p n a := by
  obtain ⟨E, ⟨h1, h2⟩, h3⟩ := x
  have hl : E.length ≤ 6 := by
    have hid : ∀ n ∈ E, n.l.id < 6 ∧ ∃ m, f n.l.id = some m ∧ n = gro p m a := by
      intro n hn
      obtain ⟨i, m, hm, e, _⟩ := (h2 n).1 hn
      have e1 : n.l.id = i := by rw [e, (gro_cases p m a).1]; exact hf.id i m hm
      rw [e1]
      refine ⟨?_, m, hm, e⟩
      have := (hf.ol i m hm).id
      have := hf.id i m hm
      omega
    have hnd : (E.map (·.l.id)).Nodup := by
      refine List.pairwise_map.2 (List.Pairwise.imp_of_mem ?_ h1)
      intro x y hx hy hlt e
      obtain ⟨_, n, hn, e1⟩ := hid x hx
      obtain ⟨_, m, hm, e2⟩ := hid y hy
      rw [e] at hn
      rw [hn] at hm
      have := Option.some.inj hm
      subst this
      rw [e1, ← e2] at hlt
      omega
    have := nodup_len hnd (m := List.range 6) (fun i hi => by
      obtain ⟨n, hn, rfl⟩ := List.mem_map.1 hi
      exact List.mem_range.2 (hid n hn).1)
    simpa using this
  have ho : outL p E = [] := by
    unfold outL
    rw [show E.length - p.kept.toNat = 0 by rw [hk]; omega]
    rfl
  intro i
  rw [h3, ho]
  cases f i <;> simp
theorem gro_three (p : Po) (n : On) (a : Int) : (gro p n a).s = 3 ↔ n.s = 3 := by
  rcases (gro_cases p n a).2.2.2 with h | ⟨h1, _, h3 | h3⟩
  · rw [h]
  · have hn : ¬ n.s = 3 := by intro e; rw [e] at h1; exact absurd h1 (by decide)
    have := h3.1
    constructor
    · intro e; omega
    · intro e; exact absurd e hn
  · have hn : ¬ n.s = 3 := by intro e; rw [e] at h1; exact absurd h1 (by decide)
    have := h3.1
    constructor
    · intro e; omega
    · intro e; exact absurd e hn
theorem gro_pend (p : Po) (n : On) (a : Int) (h : peB (gro p n a) = true) : peB n = true := by
  unfold peB at *
  cases hn : enB n.s with
  | false => rfl
  | true => rw [gro_end hn, hn] at h; cases h
theorem LeI.aged {p : Po} {f h : Of} {tm a : Int} {m : Nat} {D : List Nat} (hp : PoOk p) (hk : p.kept = 1000) (x : LeI p f tm m D) (ht : tm ≤ a) (y : Aged p f a h) : LeI p h a m D := by
  have hall := y.all hk x.ok
  have hsome : ∀ i n, h i = some n → ∃ k, f i = some k ∧ n = gro p k a := fun i n hn => y.sub hn
  refine ⟨y.ok hp x.ok ht, ?_, ?_, ?_, x.d6, ?_⟩
  · intro i n hn
    obtain ⟨k, hk', rfl⟩ := hsome i n hn
    rw [(gro_cases p k a).1]
    exact x.lo i k hk'
  · have := cnt_le (P := peB) (Q := peB) (f := f) (g := h) (fun i n hn hp' => by
      obtain ⟨k, hk', rfl⟩ := hsome i n hn
      exact ⟨k, hk', gro_pend p k a hp'⟩)
    have h2 := x.pe
    rw [pen_cnt] at h2 ⊢
    omega
  · have h1 := cnt_le (P := fun _ => true) (Q := fun _ => true) (f := f) (g := h) (fun i n hn _ => by
      obtain ⟨k, hk', _⟩ := hsome i n hn
      exact ⟨k, hk', rfl⟩)
    have h2 := cnt_le (P := fun _ => true) (Q := fun _ => true) (f := h) (g := f) (fun i n hn _ => ⟨gro p n a, by rw [hall, hn]; rfl, rfl⟩)
    have h3 := x.ct
    unfold domO at h3 ⊢
    omega
  · intro i
    rw [x.dn]
    constructor
    · rintro ⟨n, hn, hs⟩
      exact ⟨gro p n a, by rw [hall, hn]; rfl, (gro_three p n a).2 hs⟩
    · rintro ⟨n, hn, hs⟩
      obtain ⟨k, hk', rfl⟩ := hsome i n hn
      exact ⟨k, hk', (gro_three p k a).1 hs⟩
theorem LeI.put {p : Po} {h : Of} {m : Nat} {D : List Nat} {x : Ol} (hp : PoOk p) (y : LeI p h x.at_ m D) (hx : OlOk x) (hxl : x.un ≤ x.at_ + 1000) (hz : putZ p h x = 0) (hdue : ∀ i n, h i = some n → enB n.s = true ∨ x.at_ < tuN p n) : LeI p (putH h x) x.at_ (m + 1) D := by
  have hpe := y.pe
  have hct := y.ct
  unfold domO at hct
  have hnone : h x.id = none := by
    cases hh : h x.id with
    | none => rfl
    | some n => unfold putZ at hz; rw [hh] at hz; simp at hz
  have hroom : (pen h : Int) < p.room + (if (oldO h x).isSome then 1 else 0) := by
    unfold putZ at hz
    rw [hnone] at hz
    simp only [Option.isSome_none, Bool.false_eq_true, if_false] at hz
    by_cases hc : p.room + (if (oldO h x).isSome = true then 1 else 0) ≤ (pen h : Int)
    · rw [if_pos hc] at hz; omega
    · omega
  have hrep : repO h x x.id = none ∧ cntO (fun _ => true) (repO h x) = m ∧ (cntO peB (repO h x) : Int) + (if (oldO h x).isSome then 1 else 0) = pen h ∧ (∀ i n, repO h x i = some n → n.l.un ≤ n.l.at_ + 1000) ∧ (∀ i, (∃ n, repO h x i = some n ∧ n.s = 3) ↔ ∃ n, h i = some n ∧ n.s = 3) := by
    unfold repO
    cases ho : oldO h x with
    | none =>
      refine ⟨hnone, hct, ?_, y.lo, fun _ => Iff.rfl⟩
      rw [pen_cnt]
      simp
    | some i =>
      obtain ⟨n, hn, hmt⟩ := oldO_some ho
      obtain ⟨m1, m2, m3, m4⟩ := (mtB_iff x n).1 hmt
      simp only
      rw [hn]
      simp only
      have hni := y.ok.id i n hn
      have hi6 : n.l.id < 6 := (y.ok.ol i n hn).id
      have hne : x.id ≠ n.l.id := fun e => by rw [e, hni, hn] at hnone; cases hnone
      have c1 := cnt_set (fun _ => true) h { n with s := 6, c := x.at_ } hi6
      have c2 := cnt_set peB h { n with s := 6, c := x.at_ } hi6
      have e1 : h ({ n with s := 6, c := x.at_ } : On).l.id = some n := by show h n.l.id = some n; rw [hni]; exact hn
      rw [e1] at c1 c2
      have hp1 : peB n = true := by unfold peB; rw [m3]; rfl
      have hp2 : peB { n with s := 6, c := x.at_ } = false := rfl
      unfold hasB at c1 c2
      simp only [hp1, hp2, if_true] at c1 c2
      refine ⟨?_, ?_, ?_, ?_, ?_⟩
      · unfold setO; rw [if_neg hne]; exact hnone
      · omega
      · rw [pen_cnt]
        simp only [Bool.false_eq_true, if_false] at c2
        simp only [Option.isSome_some, if_true]
        omega
      · intro j k hk
        unfold setO at hk
        by_cases hj : j = n.l.id
        · rw [if_pos hj] at hk
          rw [← Option.some.inj hk]
          exact y.lo i n hn
        · rw [if_neg hj] at hk
          exact y.lo j k hk
      · intro j
        unfold setO
        by_cases hj : j = n.l.id
        · rw [if_pos hj]
          constructor
          · rintro ⟨k, hk, hs⟩
            rw [← Option.some.inj hk] at hs
            exact absurd hs (by show ¬ (6 : Int) = 3; omega)
          · rintro ⟨k, hk, hs⟩
            rw [hj, hni, hn] at hk
            rw [← Option.some.inj hk, m3] at hs
            exact absurd hs (by omega)
        · rw [if_neg hj]
  obtain ⟨r1, r2, r3, r4, r5⟩ := hrep
  have c1 := cnt_set (fun _ => true) (repO h x) ⟨x, 1, 0, x.at_⟩ hx.id
  have c2 := cnt_set peB (repO h x) ⟨x, 1, 0, x.at_⟩ hx.id
  have e1 : repO h x (⟨x, 1, 0, x.at_⟩ : On).l.id = none := r1
  rw [e1] at c1 c2
  have hp2 : peB ⟨x, 1, 0, x.at_⟩ = true := rfl
  unfold hasB at c1 c2
  simp only [hp2, if_true] at c1 c2
  refine ⟨put_ok hp y.ok hx hdue, ?_, ?_, ?_, y.d6, ?_⟩
  · intro i n hn
    unfold putH setO at hn
    by_cases hi : i = x.id
    · rw [if_pos hi] at hn
      rw [← Option.some.inj hn]
      exact hxl
    · rw [if_neg hi] at hn
      exact r4 i n hn
  · rw [pen_cnt]
    unfold putH
    omega
  · unfold domO putH
    omega
  · intro i
    rw [y.dn, ← r5]
    unfold putH setO
    by_cases hi : i = x.id
    · rw [if_pos hi, hi, r1]
      constructor
      · rintro ⟨n, hn, _⟩; cases hn
      · rintro ⟨n, hn, hs⟩
        rw [← Option.some.inj hn] at hs
        exact absurd hs (by show ¬ (1 : Int) = 3; omega)
    · rw [if_neg hi]
end Go.Proofs.YtjfjmlmnilmihaaGreatDoor
