/- Plain law of LettersEnd: letters that are handed out, answered, and the end. No function of the program in sight. -/
import Derived.Test.YtjfjmlmnilmihaaGreatDoorLeP
namespace Go.Proofs.YtjfjmlmnilmihaaGreatDoor
open Go.RowKit

theorem fet_cases {p : Po} {f : Of} {a tm : Int} {W : List Ol} {mn : Nat} (hf : OfOk p f tm) (hW : WaitL f W) {i : Nat} {m : On} (h : fetH f a (W.take mn) i = some m) : ∃ n, f i = some n ∧ m.l = n.l ∧ (m = n ∨ (n.s = 1 ∧ m = { n with s := 2, t := n.t + 1, c := a })) := by
  unfold fetH at h
  cases hn : f i with
  | none => rw [hn] at h; cases h
  | some n =>
    rw [hn] at h
    simp only [Option.map_some] at h
    have e := Option.some.inj h
    by_cases hm : n.l ∈ W.take mn
    · rw [if_pos hm] at e
      obtain ⟨j, n', hn', hs, hl⟩ := (hW.2 n.l).1 (List.mem_of_mem_take hm)
      have hij : j = i := by rw [← hf.id j n' hn', hl]; exact hf.id i n hn
      subst hij
      rw [hn] at hn'
      have := Option.some.inj hn'
      subst this
      exact ⟨n, rfl, by rw [← e], .inr ⟨hs, e.symm⟩⟩
    · rw [if_neg hm] at e
      exact ⟨n, rfl, by rw [e], .inl e.symm⟩
theorem fet_some {f : Of} {a : Int} {ls : List Ol} {i : Nat} {n : On} (h : f i = some n) : ∃ m, fetH f a ls i = some m ∧ (n.s = 3 → n.l ∉ ls → m = n) := by
  unfold fetH
  rw [h]
  simp only [Option.map_some]
  by_cases hm : n.l ∈ ls
  · exact ⟨_, rfl, fun _ hc => absurd hm hc⟩
  · exact ⟨n, by rw [if_neg hm], fun _ _ => rfl⟩
theorem LeI.fet {p : Po} {h : Of} {a : Int} {m mn : Nat} {D : List Nat} {W : List Ol} (y : LeI p h a m D) (hW : WaitL h W) (hdue : ∀ i n, h i = some n → enB n.s = true ∨ a < tuN p n) : LeI p (fetH h a (W.take mn)) a m D := by
  refine ⟨fet_ok y.ok hW hdue, ?_, ?_, ?_, y.d6, ?_⟩
  · intro i k hk
    obtain ⟨n, hn, hl, _⟩ := fet_cases y.ok hW hk
    rw [hl]
    exact y.lo i n hn
  · have h1 := y.pe
    have h2 := cnt_le (P := peB) (Q := peB) (f := h) (g := fetH h a (W.take mn)) (fun i k hk hp => by
      obtain ⟨n, hn, _, h3 | ⟨h3, _⟩⟩ := fet_cases y.ok hW hk
      · exact ⟨n, hn, by rw [← h3]; exact hp⟩
      · exact ⟨n, hn, by unfold peB; rw [h3]; rfl⟩)
    rw [pen_cnt] at h1 ⊢
    omega
  · have h1 := y.ct
    have h2 := cnt_le (P := fun _ => true) (Q := fun _ => true) (f := h) (g := fetH h a (W.take mn)) (fun i k hk _ => by
      obtain ⟨n, hn, _⟩ := fet_cases y.ok hW hk
      exact ⟨n, hn, rfl⟩)
    have h3 := cnt_le (P := fun _ => true) (Q := fun _ => true) (f := fetH h a (W.take mn)) (g := h) (fun i n hn _ => by
      obtain ⟨k, hk, _⟩ := fet_some (a := a) (ls := W.take mn) hn
      exact ⟨k, hk, rfl⟩)
    unfold domO at h1 ⊢
    omega
  · intro i
    rw [y.dn]
    constructor
    · rintro ⟨n, hn, hs⟩
      obtain ⟨k, hk, h1⟩ := fet_some (a := a) (ls := W.take mn) hn
      have hno : n.l ∉ W.take mn := by
        intro hc
        obtain ⟨j, n', hn', hs', hl⟩ := (hW.2 n.l).1 (List.mem_of_mem_take hc)
        have hij : j = i := by rw [← y.ok.id j n' hn', hl]; exact y.ok.id i n hn
        subst hij
        rw [hn] at hn'
        rw [← Option.some.inj hn', hs] at hs'
        exact absurd hs' (by omega)
      exact ⟨k, hk, by rw [h1 hs hno]; exact hs⟩
    · rintro ⟨k, hk, hs⟩
      obtain ⟨n, hn, _, h3 | ⟨_, h4⟩⟩ := fet_cases y.ok hW hk
      · exact ⟨n, hn, by rw [← h3]; exact hs⟩
      · rw [h4] at hs; exact absurd hs (by show ¬ (2 : Int) = 3; omega)
/-- What is handed out is not done, and not over. -/
theorem LeI.got {p : Po} {h : Of} {a : Int} {m mn : Nat} {D : List Nat} {W : List Ol} (y : LeI p h a m D) (hW : WaitL h W) (hdue : ∀ i n, h i = some n → enB n.s = true ∨ a < tuN p n) : ∀ l ∈ W.take mn, l.id < 6 ∧ l.id ∉ D ∧ a < l.un := by
  intro l hl
  obtain ⟨j, n, hn, hs, rfl⟩ := (hW.2 l).1 (List.mem_of_mem_take hl)
  have hj := y.ok.id j n hn
  refine ⟨(y.ok.ol j n hn).id, fun hc => ?_, ?_⟩
  · obtain ⟨n', hn', hs'⟩ := (y.dn _).1 hc
    rw [hj, hn] at hn'
    rw [← Option.some.inj hn', hs] at hs'
    exact absurd hs' (by omega)
  · rcases hdue j n hn with h1 | h1
    · rw [hs] at h1; exact absurd h1 (by decide)
    · have := tuN_le p n; omega
theorem LeI.ans {p : Po} {h : Of} {a : Int} {m i : Nat} {D : List Nat} (y : LeI p h a m D) (hi : i < 6) (hz : ansZ h i = 0) (hdue : ∀ i n, h i = some n → enB n.s = true ∨ a < tuN p n) : LeI p (ansH h i a) a m (D ++ [i]) := by
  unfold ansZ at hz
  cases hn : h i with
  | none => rw [hn] at hz; exact absurd hz (by decide)
  | some n =>
    rw [hn] at hz
    simp only at hz
    have hc : ¬ (n.t = 0 ∨ enB n.s = true) := by
      intro hc
      rw [if_pos hc] at hz
      omega
    have hen : enB n.s = false := by
      cases he : enB n.s with
      | false => rfl
      | true => exact absurd (.inr he) hc
    have hni := y.ok.id i n hn
    have hol := y.ok.ol i n hn
    have hcc := y.ok.c i n hn
    have ht := y.ok.t i n hn
    have hun : a < n.l.un := by
      rcases hdue i n hn with h1 | h1
      · rw [hen] at h1; cases h1
      · have := tuN_le p n; omega
    have hok : OfOk p (setO h { n with s := 3, c := a }) a := set_ok y.ok hol ⟨by show (1 : Int) ≤ 3; omega, by show (3 : Int) ≤ 7; omega⟩ ht (fun e => absurd e (by show ¬ (3 : Int) = 1; omega)) ⟨by show n.l.at_ ≤ a; omega, Int.le_refl _, by show a ≤ n.l.un; omega⟩ (fun e => absurd e (by show ¬ (3 : Int) = 2; omega)) (fun j k _ _ _ _ e _ _ _ => absurd e (by show ¬ (3 : Int) = 1; omega))
    have e1 : h ({ n with s := 3, c := a } : On).l.id = some n := by show h n.l.id = some n; rw [hni]; exact hn
    have c1 := cnt_set (fun _ => true) h { n with s := 3, c := a } hol.id
    have c2 := cnt_set peB h { n with s := 3, c := a } hol.id
    rw [e1] at c1 c2
    have hp1 : peB n = true := by unfold peB; rw [hen]; rfl
    have hp2 : peB { n with s := 3, c := a } = false := rfl
    unfold hasB at c1 c2
    simp only [hp1, hp2, if_true, Bool.false_eq_true, if_false] at c1 c2
    have hpe := y.pe
    have hct := y.ct
    unfold ansH
    rw [hn]
    show LeI p (setO h { n with s := 3, c := a }) a m (D ++ [i])
    refine ⟨hok, ?_, ?_, ?_, ?_, ?_⟩
    · intro j k hk
      unfold setO at hk
      by_cases hj : j = n.l.id
      · rw [if_pos hj] at hk
        rw [← Option.some.inj hk]
        exact y.lo i n hn
      · rw [if_neg hj] at hk
        exact y.lo j k hk
    · rw [pen_cnt] at hpe ⊢
      omega
    · unfold domO at hct ⊢
      omega
    · intro j hj
      rcases List.mem_append.1 hj with hj | hj
      · exact y.d6 j hj
      · rw [List.mem_singleton] at hj; rw [hj]; exact hi
    · intro j
      unfold setO
      rw [List.mem_append, List.mem_singleton, y.dn]
      by_cases hj : j = n.l.id
      · rw [if_pos hj]
        exact iff_of_true (.inr (by rw [hj, hni])) ⟨_, rfl, rfl⟩
      · rw [if_neg hj]
        exact ⟨fun hh => hh.resolve_right (fun e => hj (by rw [e, hni])), fun hh => .inl hh⟩
/-- At the end all have ended. -/
theorem LeI.over {p : Po} {f h : Of} {tm a : Int} {m : Nat} {D : List Nat} (y : LeI p f tm m D) (ht : tm ≤ a) (x : Aged p f (a + 1000) h) : ∀ i n, h i = some n → enB n.s = true := by
  intro i n hn
  rcases x.due i n hn with h1 | h1
  · exact h1
  · obtain ⟨k, hk, rfl⟩ := x.sub hn
    have h2 := tuN_le p (gro p k (a + 1000))
    rw [(gro_cases p k (a + 1000)).1] at h2
    have h3 := y.lo i k hk
    have h4 := y.ok.c i k hk
    omega
theorem note_dom {h : Of} {L : List On} {p : Po} {tm : Int} (x : NoteL h L) (hk : OfOk p h tm) : L.length = domO h := by
  have h1 : (L.map (·.l.id)).Nodup := List.pairwise_map.2 (x.1.imp (fun h => by omega))
  unfold domO cntO
  have h2 : (L.map (·.l.id)).Perm ((List.range 6).filter fun i => match h i with | some _ => true | none => false) := by
    refine (List.perm_ext_iff_of_nodup h1 (List.Pairwise.filter _ List.nodup_range)).2 fun i => ?_
    rw [List.mem_map, List.mem_filter]
    constructor
    · rintro ⟨n, hn, rfl⟩
      obtain ⟨j, hj⟩ := (x.2 n).1 hn
      have e := hk.id j n hj
      refine ⟨List.mem_range.2 (hk.ol j n hj).id, ?_⟩
      rw [e, hj]
    · rintro ⟨_, hi⟩
      cases hh : h i with
      | none => rw [hh] at hi; cases hi
      | some n => exact ⟨n, (x.2 n).2 ⟨i, hh⟩, hk.id i n hh⟩
  have := h2.length_eq
  rw [List.length_map] at this
  exact this
theorem LeI.mono {p : Po} {f : Of} {a b : Int} {m : Nat} {D : List Nat} (y : LeI p f a m D) (h : a ≤ b) : LeI p f b m D := ⟨y.ok.mono h, y.lo, y.pe, y.ct, y.d6, y.dn⟩
theorem LeI.nil {p : Po} (hp : PoOk p) (tm : Int) : LeI p (fM []) tm 0 [] := by
  refine ⟨ofOk_nil p tm, (fun i n hn => by cases hn), ?_, rfl, (by simp), fun i => ?_⟩
  · have := hp.room
    show ((0 : Nat) : Int) ≤ p.room
    omega
  · constructor
    · intro h; cases h
    · rintro ⟨n, hn, _⟩; cases hn
end Go.Proofs.YtjfjmlmnilmihaaGreatDoor
