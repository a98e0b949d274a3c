/- Plain law of AgesInSteps: two offices that are asked the same. No function of the program in sight. -/
import Derived.Test.YtjfjmlmnilmihaaGreatDoorOfW
namespace Go.Proofs.YtjfjmlmnilmihaaGreatDoor
open Go.RowKit

/-- What an office that was looked at more often holds: what the other one holds, behind ageing at some moment. -/
def Rl (p : Po) (fa fb : Of) (tb a : Int) : Prop := fa = fb ∨ ∃ t, tb ≤ t ∧ t ≤ a ∧ Aged p fb t fa
theorem Rl.aged {p : Po} {fa fb ha hb : Of} {tb a : Int} (h : Rl p fa fb tb a) (hf : OfOk p fb tb) (x : Aged p fa a ha) (y : Aged p fb a hb) : ha = hb := by
  rcases h with rfl | ⟨t, h1, h2, h3⟩
  · exact x.det y
  · exact (Aged.comp hf h1 h2 h3 x).det y
theorem Rl.wake {p : Po} {fa fb ha : Of} {tb a : Int} (h : Rl p fa fb tb a) (hf : OfOk p fb tb) (hb : tb ≤ a) (x : Aged p fa a ha) : Rl p ha fb tb a := by
  rcases h with rfl | ⟨t, h1, h2, h3⟩
  · exact .inr ⟨a, hb, Int.le_refl _, x⟩
  · exact .inr ⟨a, hb, Int.le_refl _, Aged.comp hf h1 h2 h3 x⟩
theorem Rl.mono {p : Po} {fa fb : Of} {tb a b : Int} (h : Rl p fa fb tb a) (hab : a ≤ b) : Rl p fa fb tb b := by
  rcases h with h | ⟨t, h1, h2, h3⟩
  · exact .inl h
  · exact .inr ⟨t, h1, by omega, h3⟩
theorem wait_det {h : Of} {W V : List Ol} (x : WaitL h W) (y : WaitL h V) : W = V := rise_eq keyO x.1 y.1 (fun l => by rw [x.2, y.2])
theorem note_det {h : Of} {L K : List On} (x : NoteL h L) (y : NoteL h K) : L = K := rise_eq (fun n : On => (n.l.id : Int)) (x.1.imp (fun h => by omega)) (y.1.imp (fun h => by omega)) (fun n => by rw [x.2, y.2])
theorem set_ok {p : Po} {f : Of} {tm : Int} {n : On} (hf : OfOk p f tm) (ol : OlOk n.l) (s : 1 ≤ n.s ∧ n.s ≤ 7) (t : 0 ≤ n.t ∧ n.t ≤ p.tri) (w : n.s = 1 → n.t < p.tri) (c : n.l.at_ ≤ n.c ∧ n.c ≤ tm ∧ n.c ≤ n.l.un) (o : n.s = 2 → n.c < n.l.un ∧ 1 ≤ n.t)
    (sl : ∀ j m, j ≠ n.l.id → f j = some m → n.l.sl ≠ 0 → n.l.sl = m.l.sl → n.s = 1 → m.s = 1 → n.t = 0 → m.t = 0 → False) : OfOk p (setO f n) tm := by
  have key : ∀ i m, setO f n i = some m → (i = n.l.id ∧ m = n) ∨ (i ≠ n.l.id ∧ f i = some m) := by
    intro i m h
    unfold setO at h
    by_cases hi : i = n.l.id
    · rw [if_pos hi] at h; exact .inl ⟨hi, (Option.some.inj h).symm⟩
    · rw [if_neg hi] at h; exact .inr ⟨hi, h⟩
  refine ⟨?_, ?_, ?_, ?_, ?_, ?_, ?_, ?_⟩
  · intro i m h; rcases key i m h with ⟨e, rfl⟩ | ⟨_, h⟩
    · exact e.symm
    · exact hf.id i m h
  · intro i m h; rcases key i m h with ⟨e, rfl⟩ | ⟨_, h⟩
    · exact ol
    · exact hf.ol i m h
  · intro i m h; rcases key i m h with ⟨e, rfl⟩ | ⟨_, h⟩
    · exact s
    · exact hf.s i m h
  · intro i m h; rcases key i m h with ⟨e, rfl⟩ | ⟨_, h⟩
    · exact t
    · exact hf.t i m h
  · intro i m h; rcases key i m h with ⟨e, rfl⟩ | ⟨_, h⟩
    · exact w
    · exact hf.w i m h
  · intro i m h; rcases key i m h with ⟨e, rfl⟩ | ⟨_, h⟩
    · exact c
    · exact hf.c i m h
  · intro i m h; rcases key i m h with ⟨e, rfl⟩ | ⟨_, h⟩
    · exact o
    · exact hf.o i m h
  · intro i j x y hx hy h1 h2 h3 h4 h5 h6
    rcases key i x hx with ⟨e, rfl⟩ | ⟨e, hx'⟩
    · rcases key j y hy with ⟨e2, rfl⟩ | ⟨e2, hy'⟩
      · rw [e, e2]
      · exact (sl j y e2 hy' h1 h2 h3 h4 h5 h6).elim
    · rcases key j y hy with ⟨e2, rfl⟩ | ⟨e2, hy'⟩
      · exact (sl i x e hx' (by rw [← h2]; exact h1) h2.symm h4 h3 h6 h5).elim
      · exact hf.sl i j x y hx' hy' h1 h2 h3 h4 h5 h6
theorem oldO_some {f : Of} {x : Ol} {i : Nat} (h : oldO f x = some i) : ∃ n, f i = some n ∧ mtB x n = true := by
  unfold oldO at h
  have := List.find?_some h
  cases hf : f i with
  | none => rw [hf] at this; cases this
  | some n => rw [hf] at this; exact ⟨n, rfl, this⟩
theorem oldO_none {f : Of} {x : Ol} (h : oldO f x = none) {i : Nat} {n : On} (hi : i < 6) (hn : f i = some n) : mtB x n = false := by
  unfold oldO at h
  rw [List.find?_eq_none] at h
  have := h i (List.mem_range.2 hi)
  rw [hn] at this
  simpa using this
/-- What is put leaves what an office keeps true. -/
theorem put_ok {p : Po} {f : Of} {x : Ol} (hp : PoOk p) (hf : OfOk p f x.at_) (hx : OlOk x) (hag : ∀ i n, f i = some n → enB n.s = true ∨ x.at_ < tuN p n) : OfOk p (putH f x) x.at_ := by
  have hxu := hx.un
  have htri := hp.tri
  have hrep : OfOk p (repO f x) x.at_ ∧ ∀ j m, repO f x j = some m → mtB x m = false := by
    unfold repO
    cases ho : oldO f x with
    | none =>
      refine ⟨hf, fun j m hm => ?_⟩
      have : j < 6 := by have h1 := hf.id j m hm; have h2 := (hf.ol j m hm).id; omega
      exact oldO_none ho this hm
    | some i =>
      obtain ⟨n, hn, hmt⟩ := oldO_some ho
      obtain ⟨m1, m2, m3, m4⟩ := (mtB_iff x n).1 hmt
      simp only
      rw [hn]
      simp only
      have hni := hf.id i n hn
      have hol := hf.ol i n hn
      have hc := hf.c i n hn
      have ht := hf.t i n hn
      have hag1 := hag i n hn
      have hen : enB n.s = false := by rw [m3]; rfl
      have hun : x.at_ < n.l.un := by
        rcases hag1 with h | h
        · rw [hen] at h; cases h
        · have := tuN_le p n; omega
      refine ⟨set_ok hf hol ⟨by show (1 : Int) ≤ 6; omega, by show (6 : Int) ≤ 7; omega⟩ ht (fun h => by exact absurd h (by show ¬ (6 : Int) = 1; omega)) ⟨by show n.l.at_ ≤ x.at_; omega, Int.le_refl _, by show x.at_ ≤ n.l.un; omega⟩ (fun h => by exact absurd h (by show ¬ (6 : Int) = 2; omega)) (fun j m _ _ _ _ h _ _ _ => by exact absurd h (by show ¬ (6 : Int) = 1; omega)), fun j m hm => ?_⟩
      unfold setO at hm
      by_cases hj : j = n.l.id
      · rw [if_pos hj] at hm
        rw [← Option.some.inj hm]
        unfold mtB
        simp
      · rw [if_neg hj] at hm
        cases hb : mtB x m with
        | false => rfl
        | true =>
          obtain ⟨b1, b2, b3, b4⟩ := (mtB_iff x m).1 hb
          exact (hj (by rw [hni]; exact (hf.sl i j n m hn hm (by rw [m2]; exact m1) (by rw [m2, b2]) m3 b3 m4 b4).symm)).elim
  unfold putH
  refine set_ok hrep.1 hx ⟨by show (1 : Int) ≤ 1; omega, by show (1 : Int) ≤ 7; omega⟩ ⟨by show (0 : Int) ≤ 0; omega, by show (0 : Int) ≤ p.tri; omega⟩ (fun _ => by show (0 : Int) < p.tri; omega) ⟨Int.le_refl _, Int.le_refl _, by show x.at_ ≤ x.un; omega⟩ (fun h => by exact absurd h (by show ¬ (1 : Int) = 2; omega)) ?_
  intro j m hj hm h1 h2 h3 h4 h5 h6
  have := hrep.2 j m hm
  have h7 : mtB x m = true := (mtB_iff x m).2 ⟨h1, h2.symm, h4, h6⟩
  rw [h7] at this
  cases this
theorem fet_ok {p : Po} {f : Of} {a : Int} {W : List Ol} {mn : Nat} (hf : OfOk p f a) (hW : WaitL f W) (hag : ∀ i n, f i = some n → enB n.s = true ∨ a < tuN p n) : OfOk p (fetH f a (W.take mn)) a := by
  have key : ∀ i m, fetH f a (W.take mn) i = some m → ∃ n, f i = some n ∧ m.l = n.l ∧ (m = n ∨ (n.s = 1 ∧ m = { n with s := 2, t := n.t + 1, c := a })) := by
    intro i m h
    unfold fetH at h
    cases hn : f i with
    | none => rw [hn] at h; cases h
    | some n =>
      rw [hn] at h
      simp only [Option.map_some] at h
      have e := Option.some.inj h
      by_cases hm : n.l ∈ W.take mn
      · rw [if_pos hm] at e
        obtain ⟨j, n', hn', hs, hl⟩ := (hW.2 n.l).1 (List.mem_of_mem_take hm)
        have hij : j = i := by rw [← hf.id j n' hn', hl]; exact hf.id i n hn
        subst hij
        rw [hn] at hn'
        have := Option.some.inj hn'
        subst this
        exact ⟨n, rfl, by rw [← e], .inr ⟨hs, e.symm⟩⟩
      · rw [if_neg hm] at e
        exact ⟨n, rfl, by rw [e], .inl e.symm⟩
  have hun : ∀ i n, f i = some n → n.s = 1 → a < n.l.un := by
    intro i n hn hs
    rcases hag i n hn with h | h
    · rw [hs] at h; exact absurd h (by decide)
    · have := tuN_le p n; omega
  refine ⟨?_, ?_, ?_, ?_, ?_, ?_, ?_, ?_⟩
  · intro i m h
    obtain ⟨n, hn, hl, _⟩ := key i m h
    rw [hl]; exact hf.id i n hn
  · intro i m h
    obtain ⟨n, hn, hl, _⟩ := key i m h
    rw [hl]; exact hf.ol i n hn
  · intro i m h
    obtain ⟨n, hn, hl, h1 | ⟨h1, h2⟩⟩ := key i m h
    · rw [h1]; exact hf.s i n hn
    · rw [h2]; exact ⟨by show (1 : Int) ≤ 2; omega, by show (2 : Int) ≤ 7; omega⟩
  · intro i m h
    obtain ⟨n, hn, hl, h1 | ⟨h1, h2⟩⟩ := key i m h
    · rw [h1]; exact hf.t i n hn
    · have := hf.t i n hn
      have := hf.w i n hn h1
      rw [h2]; exact ⟨by show 0 ≤ n.t + 1; omega, by show n.t + 1 ≤ p.tri; omega⟩
  · intro i m h hs
    obtain ⟨n, hn, hl, h1 | ⟨h1, h2⟩⟩ := key i m h
    · rw [h1] at hs ⊢; exact hf.w i n hn hs
    · rw [h2] at hs; exact absurd hs (by show ¬ (2 : Int) = 1; omega)
  · intro i m h
    obtain ⟨n, hn, hl, h1 | ⟨h1, h2⟩⟩ := key i m h
    · rw [h1]; exact hf.c i n hn
    · have := hf.c i n hn
      have := hun i n hn h1
      rw [h2]; exact ⟨by show n.l.at_ ≤ a; omega, Int.le_refl _, by show a ≤ n.l.un; omega⟩
  · intro i m h hs
    obtain ⟨n, hn, hl, h1 | ⟨h1, h2⟩⟩ := key i m h
    · rw [h1] at hs ⊢; exact hf.o i n hn hs
    · have := hf.t i n hn
      rw [h2]; exact ⟨hun i n hn h1, by show 1 ≤ n.t + 1; omega⟩
  · intro i j x y hx hy h1 h2 h3 h4 h5 h6
    obtain ⟨n, hn, hl, k1 | ⟨k1, k2⟩⟩ := key i x hx
    · obtain ⟨n', hn', hl', k1' | ⟨k1', k2'⟩⟩ := key j y hy
      · subst k1; subst k1'
        exact hf.sl i j _ _ hn hn' h1 h2 h3 h4 h5 h6
      · rw [k2'] at h4; exact absurd h4 (by show ¬ (2 : Int) = 1; omega)
    · rw [k2] at h3; exact absurd h3 (by show ¬ (2 : Int) = 1; omega)
theorem Aged.due {p : Po} {f g : Of} {a : Int} (h : Aged p f a g) : ∀ i n, g i = some n → enB n.s = true ∨ a < tuN p n := by
  intro i n hn
  obtain ⟨m, _, rfl⟩ := h.sub hn
  exact (gro_cases p m a).2.2.1
theorem OfOk.mono {p : Po} {f : Of} {a b : Int} (h : OfOk p f a) (hab : a ≤ b) : OfOk p f b :=
  ⟨h.id, h.ol, h.s, h.t, h.w, fun i n hn => by have := h.c i n hn; omega, h.o, h.sl⟩
theorem OfI.oth {w w' : World} {o o2 m m2 ck ck2 : Nat} {M M2 : Mp} {p p2 : Po} {tm tm2 : Int} (h : OfI w o m ck M p tm) (h2 : OfI w o2 m2 ck2 M2 p2 tm2) (hne : o ≠ o2) (hg : w.grownBy w' (some o2)) : OfI w' o m ck M p tm := by
  have h3 : m ≠ o2 := by
    intro e
    have h1 := h.map
    have h4 := h2.blk
    unfold MpI at h1
    rw [e, h4] at h1
    cases h1
  exact h.keep (hg.block o h.lt (fun e => hne (Option.some.inj e))) (hg.block m h.map.lt (fun e => h3 (Option.some.inj e)))
theorem OfI.row {w w' : World} {o m ck : Nat} {M : Mp} {p : Po} {tm : Int} {q : Nat} (h : OfI w o m ck M p tm) (hg : w.grownBy w' (some q)) (h1 : o ≠ q) (h2 : m ≠ q) : OfI w' o m ck M p tm :=
  h.keep (hg.block o h.lt (fun e => h1 (Option.some.inj e))) (hg.block m h.map.lt (fun e => h2 (Option.some.inj e)))
theorem ofOk_nil (p : Po) (tm : Int) : OfOk p (fM []) tm := by
  have h : ∀ i n, fM [] i = some n → False := by intro i n h; cases h
  exact ⟨fun i n hn => (h i n hn).elim, fun i n hn => (h i n hn).elim, fun i n hn => (h i n hn).elim, fun i n hn => (h i n hn).elim, fun i n hn => (h i n hn).elim, fun i n hn => (h i n hn).elim, fun i n hn => (h i n hn).elim, fun i j n m hn => (h i n hn).elim⟩
theorem own_kept' {w w' : World} {base x : Nat} {e : TypeId} {size n : Nat} {v : Value} {xs : List Value} (h : w.ownsRow base e size v n xs) (hg : w.grownBy w' (some x)) (hx : ∀ b, v.ownBlock = some b → b ≠ x) : w'.ownsRow base e size v n xs := by
  refine ⟨h.1, ?_⟩
  have hlt := h.lt
  rcases h.2 with h | ⟨g, cap, cur, hv, hb, hh, r⟩
  · exact .inl h
  · exact .inr ⟨g, cap, cur, hv, hb, (hg.block g (hlt g (by rw [hv]; rfl)).2 (fun e => hx g (by rw [hv]; rfl) (Option.some.inj e))).trans hh, r⟩
theorem note_len {h : Of} {L : List On} {p : Po} {tm : Int} (x : NoteL h L) (hk : OfOk p h tm) : L.length ≤ 1000000 := by
  have h1 : (L.map (·.l.id)).Nodup := List.pairwise_map.2 (x.1.imp (fun h => by omega))
  have := nodup_len h1 (m := List.range 6) (fun i hi => by
    obtain ⟨n, hn, rfl⟩ := List.mem_map.1 hi
    obtain ⟨j, hj⟩ := (x.2 n).1 hn
    exact List.mem_range.2 (hk.ol j n hj).id)
  simp at this
  omega
theorem wait_len {h : Of} {L : List Ol} {p : Po} {tm : Int} (x : WaitL h L) (hk : OfOk p h tm) : L.length ≤ 6 := by
  have hid : ∀ l ∈ L, l.id < 6 ∧ ∃ n, h l.id = some n ∧ n.l = l := by
    intro l hl
    obtain ⟨j, n, hj, _, rfl⟩ := (x.2 l).1 hl
    have := hk.id j n hj
    subst this
    exact ⟨(hk.ol _ n hj).id, n, hj, rfl⟩
  have h1 : (L.map (·.id)).Nodup := by
    refine List.pairwise_map.2 (List.Pairwise.imp_of_mem ?_ x.1)
    intro a b ha hb hlt e
    obtain ⟨_, n, hn, e1⟩ := hid a ha
    obtain ⟨_, m, hm, e2⟩ := hid b hb
    rw [e] at hn
    rw [hn] at hm
    have := Option.some.inj hm
    subst this
    rw [e1] at e2
    rw [e2] at hlt
    omega
  have := nodup_len h1 (m := List.range 6) (fun i hi => by
    obtain ⟨l, hl, rfl⟩ := List.mem_map.1 hi
    exact List.mem_range.2 (hid l hl).1)
  simpa using this
end Go.Proofs.YtjfjmlmnilmihaaGreatDoor
