/- Offices of letters as data: how notes age, which are dropped; ageing in steps is ageing once. No program in sight. -/
import Derived.Test.YtnnncddjcdjhoaaGreatDoorStream
namespace Go.Proofs.YtnnncddjcdjhoaaGreatDoor
open Go.RowKit

/-- A letter: which name, slot and body; its weight, when it was put, until when. -/
structure Ol where
  id : Nat
  sl : Nat
  bo : Nat
  pr : Int
  at_ : Int
  un : Int
deriving DecidableEq
/-- A note: the letter, its state, how often it was tried, since when. -/
structure On where
  l : Ol
  s : Int
  t : Int
  c : Int
deriving DecidableEq
structure Po where
  room : Int
  tmo : Int
  tri : Int
  kept : Int
structure PoOk (p : Po) : Prop where
  room : 1 ≤ p.room ∧ p.room ≤ 500
  tmo : 1 ≤ p.tmo ∧ p.tmo ≤ 1000
  tri : 1 ≤ p.tri ∧ p.tri ≤ 20
  kept : 0 ≤ p.kept ∧ p.kept ≤ 1000
structure OlOk (l : Ol) : Prop where
  id : l.id < 6
  sl : l.sl < 3
  bo : l.bo < 3
  pr : 0 ≤ l.pr ∧ l.pr ≤ 9
  at0 : 0 ≤ l.at_
  un : l.at_ < l.un ∧ l.un ≤ 100000000
abbrev Of := Nat → Option On
def enB (s : Int) : Bool := decide (3 ≤ s)
def tuN (p : Po) (n : On) : Int := if n.s = 2 then min n.l.un (n.c + p.tmo) else n.l.un
def stN (p : Po) (n : On) : On := { n with c := tuN p n, s := if tuN p n = n.l.un then 5 else if n.t = p.tri then 7 else 1 }
def gro (p : Po) (n : On) (a : Int) : On :=
  if enB n.s = true then n else if a < tuN p n then n else
    if enB (stN p n).s = true then stN p n else if a < tuN p (stN p n) then stN p n else stN p (stN p n)
theorem gro_end {p : Po} {n : On} {a : Int} (h : enB n.s = true) : gro p n a = n := by unfold gro; rw [if_pos h]
theorem gro_wait {p : Po} {n : On} {a : Int} (h : a < tuN p n) : gro p n a = n := by
  unfold gro
  by_cases k : enB n.s = true
  · rw [if_pos k]
  · rw [if_neg k, if_pos h]
theorem stN_l (p : Po) (n : On) : (stN p n).l = n.l := rfl
theorem stN_t (p : Po) (n : On) : (stN p n).t = n.t := rfl
theorem stN_c (p : Po) (n : On) : (stN p n).c = tuN p n := rfl
theorem stN_s (p : Po) (n : On) : (stN p n).s = 5 ∨ (stN p n).s = 7 ∨ ((stN p n).s = 1 ∧ n.s = 2 ∧ n.t ≠ p.tri ∧ tuN p n < n.l.un) := by
  unfold stN
  simp only
  by_cases h : tuN p n = n.l.un
  · left; rw [if_pos h]
  · rw [if_neg h]
    by_cases k : n.t = p.tri
    · right; left; rw [if_pos k]
    · right; right
      rw [if_neg k]
      refine ⟨rfl, ?_, k, ?_⟩
      · by_cases h2 : n.s = 2
        · exact h2
        · exact absurd (by unfold tuN; rw [if_neg h2]) h
      · unfold tuN at h ⊢
        split at h
        · rename_i h2
          rw [if_pos h2]
          omega
        · exact absurd rfl h
theorem tuN_le (p : Po) (n : On) : tuN p n ≤ n.l.un := by
  unfold tuN
  split <;> omega
theorem tu_st {p : Po} {n : On} (h : (stN p n).s = 1) : tuN p (stN p n) = n.l.un := by
  have : ¬ (stN p n).s = 2 := by rw [h]; decide
  unfold tuN
  rw [if_neg this, stN_l]
theorem st_st {p : Po} {n : On} (h : (stN p n).s = 1) : (stN p (stN p n)).s = 5 := by
  rcases stN_s p (stN p n) with k | k | ⟨_, k, _⟩
  · exact k
  · have e : tuN p (stN p n) = (stN p n).l.un := by rw [tu_st h, stN_l]
    have : (stN p (stN p n)).s = 5 := by
      show (if tuN p (stN p n) = (stN p n).l.un then (5 : Int) else _) = 5
      rw [if_pos e]
    exact this
  · rw [h] at k; omega
theorem gro_step {p : Po} {n : On} {a : Int} (h : enB n.s = false) (k : tuN p n ≤ a) : gro p n a = gro p (stN p n) a := by
  have h1 : ¬ enB n.s = true := by rw [h]; decide
  have h2 : ¬ a < tuN p n := by omega
  by_cases h3 : enB (stN p n).s = true
  · rw [gro_end h3]
    unfold gro
    rw [if_neg h1, if_neg h2, if_pos h3]
  · by_cases h4 : a < tuN p (stN p n)
    · rw [gro_wait h4]
      unfold gro
      rw [if_neg h1, if_neg h2, if_neg h3, if_pos h4]
    · have hs : (stN p n).s = 1 := by
        rcases stN_s p n with q | q | ⟨q, _⟩
        · rw [q] at h3; exact absurd rfl h3
        · rw [q] at h3; exact absurd rfl h3
        · exact q
      have h5 : enB (stN p (stN p n)).s = true := by rw [st_st hs]; rfl
      unfold gro
      rw [if_neg h1, if_neg h2, if_neg h3, if_neg h4, if_neg h3, if_neg h4, if_pos h5]
/-- What a note has become: it has ended, or nothing is due; what it began with stands, or it is as its last step left it. -/
theorem gro_cases (p : Po) (n : On) (a : Int) : (gro p n a).l = n.l ∧ (gro p n a).t = n.t ∧ (enB (gro p n a).s = true ∨ a < tuN p (gro p n a)) ∧
    (gro p n a = n ∨ (enB n.s = false ∧ tuN p n ≤ a ∧ (((gro p n a).s = 5 ∨ (gro p n a).s = 7) ∧ tuN p n ≤ (gro p n a).c ∧ (gro p n a).c ≤ a ∧ (gro p n a).c ≤ n.l.un ∨ (gro p n a).s = 1 ∧ n.s = 2 ∧ n.t ≠ p.tri ∧ (gro p n a).c = tuN p n))) := by
  by_cases h1 : enB n.s = true
  · rw [gro_end h1]
    exact ⟨rfl, rfl, .inl h1, .inl rfl⟩
  · have h1' : enB n.s = false := by simpa using h1
    by_cases h2 : a < tuN p n
    · rw [gro_wait h2]
      exact ⟨rfl, rfl, .inr h2, .inl rfl⟩
    · have h2' : tuN p n ≤ a := by omega
      rw [gro_step h1' h2']
      rcases stN_s p n with q | q | ⟨q, q2, q3, q4⟩
      · have h3 : enB (stN p n).s = true := by rw [q]; rfl
        rw [gro_end h3]
        exact ⟨rfl, rfl, .inl h3, .inr ⟨h1', h2', .inl ⟨.inl q, by rw [stN_c]; omega, by rw [stN_c]; omega, by rw [stN_c]; exact tuN_le p n⟩⟩⟩
      · have h3 : enB (stN p n).s = true := by rw [q]; rfl
        rw [gro_end h3]
        exact ⟨rfl, rfl, .inl h3, .inr ⟨h1', h2', .inl ⟨.inr q, by rw [stN_c]; omega, by rw [stN_c]; omega, by rw [stN_c]; exact tuN_le p n⟩⟩⟩
      · by_cases h4 : a < tuN p (stN p n)
        · rw [gro_wait h4]
          exact ⟨rfl, rfl, .inr h4, .inr ⟨h1', h2', .inr ⟨q, q2, q3, rfl⟩⟩⟩
        · have h5 : enB (stN p n).s = false := by rw [q]; rfl
          have h6 : enB (stN p (stN p n)).s = true := by rw [st_st q]; rfl
          rw [gro_step h5 (by omega), gro_end h6]
          have e := tu_st q
          have e2 : (stN p (stN p n)).c = n.l.un := by rw [stN_c, e]
          exact ⟨rfl, rfl, .inl h6, .inr ⟨h1', h2', .inl ⟨.inl (st_st q), by rw [e2]; omega, by rw [e2]; omega, by rw [e2]; omega⟩⟩⟩
theorem gro_comp (p : Po) (n : On) {a b : Int} (h : a ≤ b) : gro p (gro p n a) b = gro p n b := by
  by_cases h1 : enB n.s = true
  · rw [gro_end h1]
  · have h1' : enB n.s = false := by simpa using h1
    by_cases h2 : a < tuN p n
    · rw [gro_wait h2]
    · rw [gro_step h1' (by omega : tuN p n ≤ a), gro_step h1' (by omega : tuN p n ≤ b)]
      by_cases h3 : enB (stN p n).s = true
      · rw [gro_end h3]
      · have h3' : enB (stN p n).s = false := by simpa using h3
        by_cases h4 : a < tuN p (stN p n)
        · rw [gro_wait h4]
        · rw [gro_step h3' (by omega : tuN p (stN p n) ≤ a), gro_step h3' (by omega : tuN p (stN p n) ≤ b)]
          have hs : (stN p n).s = 1 := by
            rcases stN_s p n with q | q | ⟨q, _⟩
            · rw [q] at h3; exact absurd rfl h3
            · rw [q] at h3; exact absurd rfl h3
            · exact q
          have h6 : enB (stN p (stN p n)).s = true := by rw [st_st hs]; rfl
          rw [gro_end h6]
theorem nodup_len {α : Type} [DecidableEq α] : ∀ {l m : List α}, l.Nodup → (∀ x ∈ l, x ∈ m) → l.length ≤ m.length
  | [], _, _, _ => Nat.zero_le _
  | x :: l, m, h, hs => by
    obtain ⟨h1, h2⟩ := List.nodup_cons.1 h
    have hx := hs x List.mem_cons_self
    have h3 := nodup_len (m := m.erase x) h2 (fun y hy => (List.mem_erase_of_ne (fun (e : y = x) => h1 (e ▸ hy))).2 (hs y (List.mem_cons_of_mem _ hy)))
    rw [List.length_erase_of_mem hx] at h3
    have := List.length_pos_of_mem hx
    simp only [List.length_cons]
    omega
def keyN (n : On) : Int := n.c * 6 + n.l.id
/-- Two lists that rise and have the same members are one. -/
theorem rise_eq {α : Type} (k : α → Int) : ∀ {l m : List α}, l.Pairwise (fun a b => k a < k b) → m.Pairwise (fun a b => k a < k b) → (∀ x, x ∈ l ↔ x ∈ m) → l = m
  | [], [], _, _, _ => rfl
  | [], y :: m, _, _, h => absurd ((h y).2 List.mem_cons_self) (by simp)
  | x :: l, [], _, _, h => absurd ((h x).1 List.mem_cons_self) (by simp)
  | x :: l, y :: m, h1, h2, h => by
    obtain ⟨a1, a2⟩ := List.pairwise_cons.1 h1
    obtain ⟨b1, b2⟩ := List.pairwise_cons.1 h2
    have e : x = y := by
      rcases List.mem_cons.1 ((h x).1 List.mem_cons_self) with e | e
      · exact e
      · rcases List.mem_cons.1 ((h y).2 List.mem_cons_self) with e2 | e2
        · exact e2.symm
        · have := b1 x e; have := a1 y e2; omega
    subst e
    have hl : ∀ z, z ∈ l ↔ z ∈ m := by
      intro z
      constructor
      · intro hz
        rcases List.mem_cons.1 ((h z).1 (List.mem_cons_of_mem _ hz)) with e | e
        · subst e; have := a1 z hz; omega
        · exact e
      · intro hz
        rcases List.mem_cons.1 ((h z).2 (List.mem_cons_of_mem _ hz)) with e | e
        · subst e; have := b1 z hz; omega
        · exact e
    rw [rise_eq k a2 b2 hl]
/-- Which notes have ended behind a moment, in their order. -/
def EndL (p : Po) (f : Of) (a : Int) (E : List On) : Prop :=
  E.Pairwise (fun x y => keyN x < keyN y) ∧ ∀ n, n ∈ E ↔ ∃ i m, f i = some m ∧ n = gro p m a ∧ enB n.s = true
def outL (p : Po) (E : List On) : List On := E.take (E.length - p.kept.toNat)
/-- What the notes are behind ageing at a moment. -/
def Aged (p : Po) (f : Of) (a : Int) (g : Of) : Prop :=
  ∃ E, EndL p f a E ∧ ∀ i, g i = (f i).bind fun m => if gro p m a ∈ outL p E then none else some (gro p m a)
theorem Aged.det {p : Po} {f g h : Of} {a : Int} (x : Aged p f a g) (y : Aged p f a h) : g = h := by
  obtain ⟨E, e1, e2⟩ := x
  obtain ⟨E', e1', e2'⟩ := y
  have : E = E' := rise_eq keyN e1.1 e1'.1 (fun n => by rw [e1.2, e1'.2])
  subst this
  funext i
  rw [e2, e2']
/-- What an office keeps true of its notes. -/
structure OfOk (p : Po) (f : Of) (tm : Int) : Prop where
  id : ∀ i n, f i = some n → n.l.id = i
  ol : ∀ i n, f i = some n → OlOk n.l
  s : ∀ i n, f i = some n → 1 ≤ n.s ∧ n.s ≤ 7
  t : ∀ i n, f i = some n → 0 ≤ n.t ∧ n.t ≤ p.tri
  w : ∀ i n, f i = some n → n.s = 1 → n.t < p.tri
  c : ∀ i n, f i = some n → n.l.at_ ≤ n.c ∧ n.c ≤ tm ∧ n.c ≤ n.l.un
  o : ∀ i n, f i = some n → n.s = 2 → n.c < n.l.un ∧ 1 ≤ n.t
  sl : ∀ i j n m, f i = some n → f j = some m → n.l.sl ≠ 0 → n.l.sl = m.l.sl → n.s = 1 → m.s = 1 → n.t = 0 → m.t = 0 → i = j
theorem Aged.sub {p : Po} {f g : Of} {a : Int} (h : Aged p f a g) {i : Nat} {n : On} (hn : g i = some n) : ∃ m, f i = some m ∧ n = gro p m a := by
  obtain ⟨E, _, e⟩ := h
  rw [e] at hn
  cases hf : f i with
  | none => rw [hf] at hn; cases hn
  | some m =>
    rw [hf] at hn
    simp only [Option.bind_some] at hn
    split at hn
    · cases hn
    · exact ⟨m, rfl, (Option.some.inj hn).symm⟩
theorem tuN_gt {p : Po} (hp : PoOk p) {n : On} (h : n.s = 2 → n.c < n.l.un) (hc : n.l.at_ < n.l.un) (h2 : n.s = 2 → n.l.at_ ≤ n.c) : n.l.at_ ≤ tuN p n := by
  have := hp.tmo
  unfold tuN
  split
  · rename_i k; have := h k; have := h2 k; omega
  · omega
/-- What holds of a note holds of what it becomes. -/
theorem gro_ok {p : Po} {n : On} {a : Int} (hp : PoOk p) (ol : OlOk n.l) (s : 1 ≤ n.s ∧ n.s ≤ 7) (w : n.s = 1 → n.t < p.tri) (t : 0 ≤ n.t ∧ n.t ≤ p.tri) (c : n.l.at_ ≤ n.c ∧ n.c ≤ a ∧ n.c ≤ n.l.un) (o : n.s = 2 → n.c < n.l.un ∧ 1 ≤ n.t) :
    (1 ≤ (gro p n a).s ∧ (gro p n a).s ≤ 7) ∧ ((gro p n a).s = 1 → (gro p n a).t < p.tri) ∧ ((gro p n a).l.at_ ≤ (gro p n a).c ∧ (gro p n a).c ≤ a ∧ (gro p n a).c ≤ (gro p n a).l.un) ∧ ((gro p n a).s = 2 → (gro p n a).c < (gro p n a).l.un ∧ 1 ≤ (gro p n a).t) ∧ ((gro p n a).s = 1 → (gro p n a).t = 0 → gro p n a = n) := by
  obtain ⟨e1, e2, e3, e4⟩ := gro_cases p n a
  have hu := ol.un
  rcases e4 with e4 | ⟨h1, h2, h3⟩
  · rw [e4]
    exact ⟨s, w, c, o, fun _ _ => rfl⟩
  · rw [e1, e2]
    have hg := tuN_gt hp (fun k => (o k).1) hu.1 (fun _ => c.1)
    have hl := tuN_le p n
    rcases h3 with ⟨h3, h4, h5, h6⟩ | ⟨h3, h4, h5, h6⟩
    · refine ⟨by omega, fun k => by omega, by omega, fun k => by omega, fun k => by omega⟩
    · refine ⟨by omega, fun _ => by omega, by omega, fun k => by omega, fun _ k => by have := (o h4).2; omega⟩
theorem Aged.ok {p : Po} {f g : Of} {a tm : Int} (hp : PoOk p) (h : Aged p f a g) (hf : OfOk p f tm) (ht : tm ≤ a) : OfOk p g a := by
  have key : ∀ i n, g i = some n → ∃ m, f i = some m ∧ n = gro p m a ∧ (1 ≤ n.s ∧ n.s ≤ 7) ∧ (n.s = 1 → n.t < p.tri) ∧ (n.l.at_ ≤ n.c ∧ n.c ≤ a ∧ n.c ≤ n.l.un) ∧ (n.s = 2 → n.c < n.l.un ∧ 1 ≤ n.t) ∧ (n.s = 1 → n.t = 0 → n = m) ∧ n.l = m.l ∧ n.t = m.t := by
    intro i n hn
    obtain ⟨m, hm, rfl⟩ := h.sub hn
    have c := hf.c i m hm
    obtain ⟨k1, k2, k3, k4, k5⟩ := gro_ok (a := a) hp (hf.ol i m hm) (hf.s i m hm) (hf.w i m hm) (hf.t i m hm) ⟨c.1, by omega, c.2.2⟩ (hf.o i m hm)
    obtain ⟨e1, e2, _⟩ := gro_cases p m a
    exact ⟨m, hm, rfl, k1, k2, k3, k4, k5, e1, e2⟩
  refine ⟨?_, ?_, ?_, ?_, ?_, ?_, ?_, ?_⟩
  · intro i n hn
    obtain ⟨m, hm, _, _, _, _, _, _, e, _⟩ := key i n hn
    rw [e]; exact hf.id i m hm
  · intro i n hn
    obtain ⟨m, hm, _, _, _, _, _, _, e, _⟩ := key i n hn
    rw [e]; exact hf.ol i m hm
  · intro i n hn
    obtain ⟨m, hm, _, k, _⟩ := key i n hn
    exact k
  · intro i n hn
    obtain ⟨m, hm, _, _, _, _, _, _, _, e⟩ := key i n hn
    rw [e]; exact hf.t i m hm
  · intro i n hn
    obtain ⟨m, hm, _, _, k, _⟩ := key i n hn
    exact k
  · intro i n hn
    obtain ⟨m, hm, _, _, _, k, _⟩ := key i n hn
    exact k
  · intro i n hn
    obtain ⟨m, hm, _, _, _, _, k, _⟩ := key i n hn
    exact k
  · intro i j n m hn hm h1 h2 h3 h4 h5 h6
    obtain ⟨n', hn', _, _, _, _, _, k, _, _⟩ := key i n hn
    obtain ⟨m', hm', _, _, _, _, _, k', _, _⟩ := key j m hm
    have q1 := k h3 h5
    have q2 := k' h4 h6
    subst q1
    subst q2
    exact hf.sl i j _ _ hn' hm' h1 h2 h3 h4 h5 h6
theorem keyN_lt {x y : On} (hx : x.l.id < 6) (h : x.c < y.c) : keyN x < keyN y := by
  unfold keyN
  omega
/-- Ageing in steps is ageing once. -/
theorem Aged.comp {p : Po} {f g h : Of} {a b tm : Int} (hf : OfOk p f tm) (ht : tm ≤ a) (hab : a ≤ b) (x : Aged p f a g) (y : Aged p g b h) : Aged p f b h := by
  obtain ⟨E, ⟨s1, m1⟩, e1⟩ := x
  obtain ⟨F, ⟨s2, m2⟩, e2⟩ := y
  have hD : ∀ i m, f i = some m → gro p m a ∈ outL p E → gro p m b = gro p m a := by
    intro i m hm hd
    have hE : gro p m a ∈ E := List.mem_of_mem_take hd
    obtain ⟨_, _, _, _, he⟩ := (m1 _).1 hE
    rw [← gro_comp p m hab, gro_end he]
  have hid : ∀ i j m m', f i = some m → f j = some m' → (gro p m a).l = (gro p m' a).l → i = j := by
    intro i j m m' hm hm' h
    rw [(gro_cases p m a).1, (gro_cases p m' a).1] at h
    rw [← hf.id i m hm, ← hf.id j m' hm', h]
  have hg : ∀ i m, f i = some m → gro p m a ∉ outL p E → g i = some (gro p m a) := by
    intro i m hm hn
    rw [e1, hm]
    simp only [Option.bind_some]
    rw [if_neg hn]
  have hlast : outL p E ≠ [] → p.kept.toNat ≤ F.length := by
    intro hne
    have hlen : p.kept.toNat < E.length := by
      unfold outL at hne
      apply Decidable.byContradiction
      intro hc
      exact hne (by rw [show E.length - p.kept.toNat = 0 by omega]; rfl)
    have hsub : ∀ n, n ∈ E.drop (E.length - p.kept.toNat) → n ∈ F := by
      intro n hn
      obtain ⟨i, m, hm, rfl, he⟩ := (m1 n).1 (List.mem_of_mem_drop hn)
      have hout : gro p m a ∉ outL p E := by
        intro ho
        have hs := s1
        rw [← List.take_append_drop (E.length - p.kept.toNat) E, List.pairwise_append] at hs
        have := hs.2.2 _ ho _ hn
        omega
      exact (m2 _).2 ⟨i, gro p m a, hg i m hm hout, by rw [gro_end he], he⟩
    have hnd : (E.drop (E.length - p.kept.toNat)).Nodup := (s1.sublist (List.drop_sublist _ _)).imp (fun h e => by subst e; omega)
    have := nodup_len hnd hsub
    rw [List.length_drop] at this
    omega
  refine ⟨outL p E ++ F, ⟨?_, ?_⟩, ?_⟩
  · rw [List.pairwise_append]
    refine ⟨s1.sublist (List.take_sublist _ _), s2, ?_⟩
    intro d hd e he
    obtain ⟨i, m, hm, rfl, hde⟩ := (m1 d).1 (List.mem_of_mem_take hd)
    obtain ⟨j, m', hm', rfl, hee⟩ := (m2 e).1 he
    rw [e1] at hm'
    cases hf2 : f j with
    | none => rw [hf2] at hm'; cases hm'
    | some m2' =>
      rw [hf2] at hm'
      simp only [Option.bind_some] at hm'
      split at hm'
      · cases hm'
      · rename_i hno
        have := Option.some.inj hm'
        subst this
        by_cases hen : enB (gro p m2' a).s = true
        · rw [gro_end hen]
          have hE2 : gro p m2' a ∈ E := (m1 _).2 ⟨j, m2', hf2, rfl, hen⟩
          rw [← List.take_append_drop (E.length - p.kept.toNat) E] at hE2 s1
          rcases List.mem_append.1 hE2 with hE2 | hE2
          · exact absurd hE2 hno
          · exact (List.pairwise_append.1 s1).2.2 _ hd _ hE2
        · have hw : a < tuN p (gro p m2' a) := by
            rcases (gro_cases p m2' a).2.2.1 with k | k
            · exact absurd k hen
            · exact k
          have hdc : (gro p m a).c ≤ a := by
            rcases (gro_cases p m a).2.2.2 with k | ⟨_, k2, k3 | k3⟩
            · rw [k]; have := (hf.c i m hm).2.1; omega
            · exact k3.2.2.1
            · rw [k3.2.2.2]; exact k2
          have hec : a < (gro p (gro p m2' a) b).c := by
            rcases (gro_cases p (gro p m2' a) b).2.2.2 with k | ⟨_, _, k3 | k3⟩
            · rw [k] at hee; exact absurd hee hen
            · have := k3.2.1; omega
            · rw [k3.2.2.2]; exact hw
          exact keyN_lt (by rw [(gro_cases p m a).1]; exact (hf.ol i m hm).id) (by omega)
  · intro n
    rw [List.mem_append]
    constructor
    · rintro (hn | hn)
      · obtain ⟨i, m, hm, rfl, he⟩ := (m1 n).1 (List.mem_of_mem_take hn)
        exact ⟨i, m, hm, (hD i m hm hn).symm, he⟩
      · obtain ⟨i, m, hm, rfl, he⟩ := (m2 n).1 hn
        obtain ⟨m0, hm0, rfl⟩ := Aged.sub ⟨E, ⟨s1, m1⟩, e1⟩ hm
        exact ⟨i, m0, hm0, gro_comp p m0 hab, he⟩
    · rintro ⟨i, m, hm, rfl, he⟩
      by_cases ho : gro p m a ∈ outL p E
      · left; rw [hD i m hm ho]; exact ho
      · right
        exact (m2 _).2 ⟨i, gro p m a, hg i m hm ho, (gro_comp p m hab).symm, he⟩
  · intro i
    have hout : outL p (outL p E ++ F) = outL p E ++ outL p F := by
      by_cases hne : outL p E = []
      · rw [hne]; rfl
      · have hk := hlast hne
        show (outL p E ++ F).take ((outL p E ++ F).length - p.kept.toNat) = outL p E ++ F.take (F.length - p.kept.toNat)
        rw [List.length_append, show (outL p E).length + F.length - p.kept.toNat = (outL p E).length + (F.length - p.kept.toNat) by omega, List.take_length_add_append]
    rw [e2, e1, hout]
    cases hfi : f i with
    | none => rfl
    | some m =>
      simp only [Option.bind_some]
      by_cases ho : gro p m a ∈ outL p E
      · rw [if_pos ho, if_pos (by rw [hD i m hfi ho]; exact List.mem_append_left _ ho)]
        rfl
      · rw [if_neg ho]
        simp only [Option.bind_some]
        rw [gro_comp p m hab]
        have hno : gro p m b ∉ outL p E := by
          intro hc
          obtain ⟨j, m', hm', e, he⟩ := (m1 _).1 (List.mem_of_mem_take hc)
          have hl : (gro p m a).l = (gro p m' a).l := by rw [(gro_cases p m a).1, ← e, (gro_cases p m b).1]
          have := hid i j m m' hfi hm' hl
          subst this
          rw [hfi] at hm'
          have := Option.some.inj hm'
          subst this
          exact ho (by rw [← e]; exact hc)
        by_cases h5 : gro p m b ∈ outL p F
        · rw [if_pos h5, if_pos (List.mem_append_right _ h5)]
        · rw [if_neg h5, if_neg (by rw [List.mem_append]; rintro (k | k); exact hno k; exact h5 k)]
end Go.Proofs.YtnnncddjcdjhoaaGreatDoor
