/- What a track keeps, and when its rule fires; no program in sight. -/
import Derived.Test.YtlfphndnkgoinaaGreatDoorTkP
namespace Go.Proofs.YtlfphndnkgoinaaGreatDoor

def sumV (w : List (Int × Int)) : Int := (w.map (·.2)).sum
/-- Parts of a window's lists that hang together. -/
structure W3 (w l m : List (Int × Int)) (s : Int) : Prop where
  so : (w.map (·.1)).Pairwise (· < ·)
  ls : l.Sublist w
  ms : m.Sublist w
  ll : l.getLast? = w.getLast?
  ml : m.getLast? = w.getLast?
  su : s = sumV w
theorem pop_ok {x : Int × Int} {w l : List (Int × Int)} (hs : ((x :: w).map (·.1)).Pairwise (· < ·)) (hl : l.Sublist (x :: w)) (he : l.getLast? = (x :: w).getLast?) : (tkPop x l).Sublist w ∧ (tkPop x l).getLast? = w.getLast? := by
  unfold tkPop
  cases l with
  | nil => simp [List.getLast?_cons] at he
  | cons y l =>
    by_cases hy : y = x
    · subst hy
      have h1 : l.Sublist w := by simpa using hl
      simp only [List.head?_cons, if_true, List.tail_cons]
      refine ⟨h1, ?_⟩
      cases w with
      | nil =>
        have : l = [] := List.eq_nil_of_sublist_nil h1
        rw [this]
      | cons z w =>
        cases l with
        | nil =>
          have hz : (z :: w).getLast? = some y := by rw [← List.getLast?_cons_cons (a := y), ← he]; rfl
          have hm : y ∈ z :: w := List.mem_of_getLast? hz
          have : y.1 < y.1 := (List.pairwise_cons.1 hs).1 y.1 (List.mem_map_of_mem hm)
          omega
        | cons u l => rw [List.getLast?_cons_cons, List.getLast?_cons_cons] at he; exact he
    · rw [if_neg (by simpa using hy)]
      have h1 : (y :: l).Sublist w := by
        cases hl with
        | cons _ h => exact h
        | cons_cons _ h => exact absurd rfl hy
      refine ⟨h1, ?_⟩
      cases w with
      | nil => cases h1
      | cons z w => rw [he, List.getLast?_cons_cons]
theorem W3.pop {x : Int × Int} {w l m : List (Int × Int)} {s : Int} (h : W3 (x :: w) l m s) : W3 w (tkPop x l) (tkPop x m) (s - x.2) := by
  have h1 := pop_ok h.so h.ls h.ll
  have h2 := pop_ok h.so h.ms h.ml
  refine ⟨(List.pairwise_cons.1 h.so).2, h1.1, h2.1, h1.2, h2.2, ?_⟩
  rw [h.su]
  simp [sumV]
  omega
theorem W3.ne {w l m : List (Int × Int)} {s : Int} (h : W3 w l m s) (hw : 0 < w.length) : 0 < l.length ∧ 0 < m.length := by
  constructor
  · rcases l with _ | ⟨y, l⟩
    · have := h.ll
      cases w with
      | nil => simp at hw
      | cons z w => simp [List.getLast?_cons] at this
    · simp
  · rcases m with _ | ⟨y, l⟩
    · have := h.ml
      cases w with
      | nil => simp at hw
      | cons z w => simp [List.getLast?_cons] at this
    · simp
theorem dropL_w3 (long at_ : Int) (w : List (Int × Int)) : ∀ l m s, W3 w l m s → W3 (dropL long at_ w l m s).1 (dropL long at_ w l m s).2.1 (dropL long at_ w l m s).2.2.1 (dropL long at_ w l m s).2.2.2 := by
  induction w with
  | nil => exact fun l m s h => h
  | cons x w ih =>
    intro l m s h
    unfold dropL
    split
    · exact ih _ _ _ h.pop
    · exact h
theorem dropL_suf (long at_ : Int) (w : List (Int × Int)) : ∀ l m s, (dropL long at_ w l m s).1 <:+ w := by
  induction w with
  | nil => exact fun l m s => List.suffix_refl _
  | cons x w ih =>
    intro l m s
    unfold dropL
    split
    · exact (ih _ _ _).trans (List.suffix_cons _ _)
    · exact List.suffix_refl _
/-- The track's lists as they can be. -/
structure TkOk (t : Tk) (n : Nat) (a : Int) : Prop where
  w3 : W3 t.win t.lea t.mos t.sum
  le : t.win.length ≤ n
  ti : ∀ s ∈ t.win, 0 ≤ s.1 ∧ s.1 ≤ a
  va : ∀ s ∈ t.win, -1000000000 ≤ s.2 ∧ s.2 ≤ 1000000000
  si0 : 0 ≤ t.si
  si1 : t.si ≤ tEnd
theorem sumV_bound (w : List (Int × Int)) (h : ∀ s ∈ w, -1000000000 ≤ s.2 ∧ s.2 ≤ 1000000000) : -(1000000000 * (w.length : Int)) ≤ sumV w ∧ sumV w ≤ 1000000000 * (w.length : Int) := by
  induction w with
  | nil => simp [sumV]
  | cons x w ih =>
    have h1 := ih fun s hs => h s (by simp [hs])
    have h2 := h x (by simp)
    simp only [sumV, List.map_cons, List.sum_cons, List.length_cons] at h1 ⊢
    omega
theorem TkOk.sum {t : Tk} {n : Nat} {a : Int} (h : TkOk t n a) : -(1000000000 * (n : Int)) ≤ t.sum ∧ t.sum ≤ 1000000000 * (n : Int) := by
  have h1 := sumV_bound t.win h.va
  have h2 := h.le
  rw [h.w3.su]
  omega
theorem TkOk.mono {t : Tk} {n m : Nat} {a b : Int} (h : TkOk t n a) (hn : n ≤ m) (hab : a ≤ b) : TkOk t m b :=
  ⟨h.w3, Nat.le_trans h.le hn, fun s hs => ⟨(h.ti s hs).1, by have := (h.ti s hs).2; omega⟩, h.va, h.si0, h.si1⟩
theorem TkOk.drop {r : Ru} {t : Tk} {n : Nat} {a : Int} (h : TkOk t n a) (at_ : Int) : TkOk (tkDrop r at_ t) n a := by
  have hs := dropL_suf r.long at_ t.win t.lea t.mos t.sum
  exact ⟨dropL_w3 _ _ _ _ _ _ h.w3, Nat.le_trans hs.length_le h.le, fun s hm => h.ti s (hs.subset hm), fun s hm => h.va s (hs.subset hm), h.si0, h.si1⟩
theorem TkOk.upd {r : Ru} {t : Tk} {n : Nat} {a : Int} (h : TkOk t n a) {at_ : Int} (h0 : 0 ≤ at_) (h1 : at_ ≤ tEnd) : TkOk (tkUpd r at_ t) n a := by
  unfold tkUpd
  split
  · exact h
  · exact ⟨h.w3, h.le, h.ti, h.va, h0, h1⟩
theorem TkOk.due0 {r : Ru} {t : Tk} {n : Nat} {a : Int} (h : TkOk t n a) (hl : 0 ≤ r.long) (hh : 0 ≤ r.hold) (hr : 0 ≤ r.rest) : 0 ≤ tkDue r t := by
  have ht : 0 ≤ tkTurn r t := by
    have := h.si0
    unfold tkTurn tEnd
    split
    · omega
    · split <;> omega
  have he : (0 : Int) ≤ tEnd := by unfold tEnd; omega
  unfold tkDue
  split
  · exact le_minI _ _ _ ht he
  · rename_i x w e
    have := (h.ti x (by rw [e]; simp)).1
    exact le_minI _ _ _ (le_minI _ _ _ ht he) (by omega)
theorem TkOk.next {r : Ru} {t : Tk} {n : Nat} {a : Int} (h : TkOk t n a) (hl : 0 ≤ r.long) (hh : 0 ≤ r.hold) (hr : 0 ≤ r.rest) : TkOk (tkNext r t) n a := by
  have h1 : TkOk (tkMid r t) n a := (h.drop _).upd (h.due0 hl hh hr) (due_le_end r t)
  unfold tkNext
  split
  · exact ⟨h1.w3, h1.le, h1.ti, h1.va, h1.si0, h1.si1⟩
  · exact h1
theorem TkOk.adv {r : Ru} {b : Int} {t t' : Tk} {cs : List (Int × Bool)} (k : Adv r b t cs t') (hl : 0 ≤ r.long) (hh : 0 ≤ r.hold) (hr : 0 ≤ r.rest) {n : Nat} {a : Int} (h : TkOk t n a) : TkOk t' n a := by
  induction k with
  | stop t _ => exact h
  | step t cs t' _ _ ih => exact ih (h.next hl hh hr)
theorem popB_nil (p : Int → Bool) : popB p [] = [] := rfl
theorem popB_snoc (p : Int → Bool) (l : List (Int × Int)) (x : Int × Int) : popB p (l ++ [x]) = if p x.2 then popB p l else l ++ [x] := by
  unfold popB
  rw [List.reverse_append]
  simp only [List.reverse_cons, List.reverse_nil, List.nil_append, List.singleton_append, List.dropWhile_cons]
  split <;> simp
theorem popB_sub (p : Int → Bool) (l : List (Int × Int)) : (popB p l).Sublist l := by
  have := (List.dropWhile_sublist (fun x : Int × Int => p x.2) (l := l.reverse)).reverse
  simpa [popB] using this
theorem TkOk.add {t : Tk} {n : Nat} {a : Int} (h : TkOk t n a) (s : Int × Int) (p q : Int → Bool) (h0 : 0 ≤ s.1) (ha : a < s.1) (hv : -1000000000 ≤ s.2 ∧ s.2 ≤ 1000000000) : TkOk { t with win := t.win ++ [s], sum := t.sum + s.2, lea := popB p t.lea ++ [s], mos := popB q t.mos ++ [s] } (n + 1) s.1 := by
  refine ⟨⟨?_, ((popB_sub p _).trans h.w3.ls).append (List.Sublist.refl _), ((popB_sub q _).trans h.w3.ms).append (List.Sublist.refl _), by simp, by simp, ?_⟩, ?_, fun x hx => ?_, fun x hx => ?_, h.si0, h.si1⟩
  · rw [List.map_append, List.pairwise_append]
    refine ⟨h.w3.so, by simp, fun u hu v hv => ?_⟩
    simp only [List.map_cons, List.map_nil, List.mem_singleton] at hv
    subst hv
    obtain ⟨x, hx, rfl⟩ := List.mem_map.1 hu
    have := (h.ti x hx).2
    omega
  · show t.sum + s.2 = sumV (t.win ++ [s])
    rw [h.w3.su]
    simp [sumV]
  · show (t.win ++ [s]).length ≤ n + 1
    have := h.le
    simp only [List.length_append, List.length_cons, List.length_nil]
    omega
  · simp only [List.mem_append, List.mem_singleton] at hx
    rcases hx with hx | rfl
    · have := h.ti x hx; omega
    · omega
  · simp only [List.mem_append, List.mem_singleton] at hx
    rcases hx with hx | rfl
    · exact h.va x hx
    · exact hv
theorem TkOk.put {r : Ru} {t : Tk} {n : Nat} {a : Int} (h : TkOk t n a) (s : Int × Int) (h0 : 0 ≤ s.1) (h1 : s.1 ≤ tEnd) (ha : a < s.1) (hv : -1000000000 ≤ s.2 ∧ s.2 ≤ 1000000000) : TkOk (tkPut r s t) (n + 1) s.1 := by
  unfold tkPut
  exact ((h.drop s.1).add s _ _ h0 ha hv).upd h0 h1
def tk00 : Tk := ⟨[], [], [], 0, 0, 0, false, 0⟩
/-- A new track. -/
def tk0 (r : Ru) : Tk := { tk00 with st := tkNow r tk00 }
theorem tk0_ok (r : Ru) : TkOk (tk0 r) 0 (-1) := by
  refine ⟨⟨by simp [tk0, tk00], by simp [tk0, tk00], by simp [tk0, tk00], rfl, rfl, by simp [tk0, tk00, sumV]⟩, by simp [tk0, tk00], by simp [tk0, tk00], by simp [tk0, tk00], by simp [tk0, tk00], by simp [tk0, tk00, tEnd]⟩
/-- The rule is as its window says. -/
def NowOk (r : Ru) (t : Tk) : Prop := tkNow r t = t.st
theorem now_upd (r : Ru) (a : Int) (t : Tk) : NowOk r (tkUpd r a t) := by
  unfold NowOk tkUpd
  split
  · assumption
  · rfl
theorem now_next (r : Ru) (t : Tk) : NowOk r (tkNext r t) := by
  have : NowOk r (tkMid r t) := now_upd _ _ _
  unfold tkNext
  split
  · exact this
  · exact this
theorem now_adv {r : Ru} {b : Int} {t t' : Tk} {cs : List (Int × Bool)} (k : Adv r b t cs t') (h : NowOk r t) : NowOk r t' := by
  induction k with
  | stop t _ => exact h
  | step t cs t' _ _ ih => exact ih (now_next r t)
theorem now_run {r : Ru} {t t' : Tk} {l : List (Int × Int)} {cs : List (Int × Bool)} (k : Run r t l cs t') (h : NowOk r t) : NowOk r t' := by
  induction k with
  | nil t => exact h
  | cons t t1 t' s l cs ds _ _ ih => exact ih (now_upd _ _ _)
theorem adv_si {r : Ru} {b : Int} {t t' : Tk} {cs : List (Int × Bool)} (k : Adv r b t cs t') : t'.si = t.si ∨ t'.si < b := by
  induction k with
  | stop t _ => exact .inl rfl
  | step t cs t' hd _ ih =>
    have : (tkNext r t).si = t.si ∨ (tkNext r t).si < b := by
      have h1 : (tkMid r t).si = t.si ∨ (tkMid r t).si < b := by
        unfold tkMid tkUpd
        split
        · exact .inl rfl
        · exact .inr (Int.lt_of_lt_of_le hd (minI_le_left _ _))
      unfold tkNext
      split
      · exact h1
      · exact h1
    rcases ih with e | e
    · rw [e]; exact this
    · exact .inr e
theorem run_si {r : Ru} {t t' : Tk} {l : List (Int × Int)} {cs : List (Int × Bool)} (k : Run r t l cs t') {a : Int} (hl : ∀ s ∈ l, s.1 ≤ a) (h : t.si ≤ a) : t'.si ≤ a := by
  induction k with
  | nil t => exact h
  | cons t t1 t' s l cs ds h1 _ ih =>
    refine ih (fun x hx => hl x (by simp [hx])) ?_
    have hs := hl s (by simp)
    have h2 : t1.si ≤ a := by rcases adv_si h1 with e | e <;> omega
    unfold tkPut
    dsimp only
    unfold tkUpd
    split
    · exact h2
    · exact hs
theorem adv_pair {r : Ru} {b : Int} {t : Tk} {cs : List (Int × Bool)} {t' : Tk} (hh : 0 ≤ r.hold) (hr : 0 ≤ r.rest) (h : Adv r b t cs t') : (cs.map (·.1)).Pairwise (· < ·) := by
  induction h with
  | stop t _ => simp
  | step t cs t' hd k ih =>
    rw [List.map_append, List.pairwise_append]
    refine ⟨?_, ih, fun u hu v hv => ?_⟩
    · unfold tkChg
      split <;> simp
    · obtain ⟨c, hc, rfl⟩ := List.mem_map.1 hv
      have h1 := (adv_times hh hr k c hc).1
      have h2 := due_next r t hh hr (Int.lt_of_lt_of_le hd (minI_le_right _ _))
      unfold tkChg at hu
      split at hu
      · simp only [List.map_cons, List.map_nil, List.mem_singleton] at hu
        omega
      · simp at hu
theorem due_put {r : Ru} {t : Tk} {s : Int × Int} (hl : 0 < r.long) (hh : 0 ≤ r.hold) (hr : 0 ≤ r.rest) (h : s.1 ≤ tkDue r t) (he : s.1 < tEnd) : s.1 ≤ tkDue r (tkPut r s t) := by
  have ht : s.1 ≤ tkTurn r (tkPut r s t) := by
    unfold tkPut
    refine turn_upd r s.1 _ hh hr ?_ (by omega)
    have := due_le_turn r t
    exact Int.le_trans h this
  have hw : ∀ x w, (tkPut r s t).win = x :: w → s.1 < x.1 + r.long := by
    intro x w e
    unfold tkPut at e
    rw [upd_win] at e
    change (tkDrop r s.1 t).win ++ [s] = x :: w at e
    cases hd : (tkDrop r s.1 t).win with
    | nil => rw [hd] at e; injection e with e1 e2; subst e1; omega
    | cons y v => rw [hd] at e; injection e with e1 e2; subst e1; exact dropL_front _ _ _ _ _ _ _ _ hd
  unfold tkDue
  split
  · exact le_minI _ _ _ ht (by omega)
  · rename_i x w e
    exact le_minI _ _ _ (le_minI _ _ _ ht (by omega)) (by have := hw x w e; omega)
theorem minI_eq {a b : Int} (h : a ≤ b) : minI a b = a := by unfold minI; split <;> omega
/-- The changes behind samples: in order, in time. -/
theorem run_times {r : Ru} {t t' : Tk} {l : List (Int × Int)} {cs : List (Int × Bool)} (k : Run r t l cs t') (hl : 0 < r.long) (hh : 0 ≤ r.hold) (hr : 0 ≤ r.rest) : ∀ a, a ≤ tkDue r t → (l.map (·.1)).Pairwise (· < ·) → (∀ s ∈ l, a ≤ s.1 ∧ s.1 < tEnd) →
    (cs.map (·.1)).Pairwise (· < ·) ∧ ∃ e, a ≤ e ∧ e ≤ tkDue r t' ∧ (∀ c ∈ cs, a ≤ c.1 ∧ c.1 < e) ∧ (e = a ∨ ∃ s ∈ l, e = s.1) := by
  induction k with
  | nil t => exact fun a h _ _ => ⟨by simp, a, Int.le_refl _, h, by simp, .inl rfl⟩
  | cons t t1 t' s l cs ds h1 _ ih =>
    intro a ha hp hs
    have hs1 := hs s (by simp)
    have hp1 := List.pairwise_cons.1 hp
    have hd := adv_due h1
    rw [minI_eq (by omega)] at hd
    have hput := due_put hl hh hr hd hs1.2
    obtain ⟨i1, e, i2, i3, i4, i5⟩ := ih s.1 hput hp1.2 fun x hx => ⟨by have : s.1 < x.1 := hp1.1 x.1 (List.mem_map_of_mem hx); omega, (hs x (by simp [hx])).2⟩
    refine ⟨?_, e, by omega, i3, fun c hc => ?_, ?_⟩
    · rw [List.map_append, List.pairwise_append]
      refine ⟨adv_pair hh hr h1, i1, fun u hu v hv => ?_⟩
      obtain ⟨c, hc, rfl⟩ := List.mem_map.1 hu
      obtain ⟨d, hd', rfl⟩ := List.mem_map.1 hv
      have x1 := (adv_times hh hr h1 c hc).2
      have x2 := minI_le_left s.1 tEnd
      have x3 := (i4 d hd').1
      omega
    · simp only [List.mem_append] at hc
      rcases hc with hc | hc
      · have x1 := adv_times hh hr h1 c hc
        have x2 := minI_le_left s.1 tEnd
        omega
      · have := i4 c hc
        omega
    · rcases i5 with rfl | ⟨x, hx, rfl⟩
      · exact .inr ⟨s, by simp, rfl⟩
      · exact .inr ⟨x, by simp [hx], rfl⟩
theorem spUp_fold (cs : List (Int × Bool)) : ∀ (l : List (Int × Int)) (fi gi : Bool) (a e : Int), SpUp l fi a → Turns fi cs gi → (cs.map (·.1)).Pairwise (· < ·) → (∀ c ∈ cs, a ≤ c.1 ∧ c.1 < e) → a ≤ e → SpUp (cs.foldl spStep l) gi e := by
  induction cs with
  | nil => intro l fi gi a e h ht _ _ hae; have : fi = gi := ht; subst this; exact h.mono hae
  | cons c cs ih =>
    intro l fi gi a e h ht hp hc hae
    have h1 := hc c (by simp)
    have hp1 := List.pairwise_cons.1 hp
    exact ih _ (!fi) gi (c.1 + 1) e (h.step c ht.1 h1.1) ht.2 hp1.2 (fun d hd => ⟨by have : c.1 < d.1 := hp1.1 d.1 (List.mem_map_of_mem hd); omega, (hc d (by simp [hd])).2⟩) (by omega)
/-- The times in which a rule fires with these samples. -/
def SpOf (r : Ru) (l : List (Int × Int)) (sp : List (Int × Int)) : Prop := ∃ cs t ds t', Run r (tk0 r) l cs t ∧ Adv r tEnd t ds t' ∧ sp = spL (cs ++ ds)
theorem spOf_det {r : Ru} {l sp sq : List (Int × Int)} (h : SpOf r l sp) (k : SpOf r l sq) : sp = sq := by
  obtain ⟨c1, t1, d1, u1, a1, b1, rfl⟩ := h
  obtain ⟨c2, t2, d2, u2, a2, b2, rfl⟩ := k
  obtain ⟨rfl, rfl⟩ := run_det a1 a2
  obtain ⟨rfl, _⟩ := adv_det b1 b2
  rfl
/-- What the rule needs to be. -/
structure RuT (r : Ru) : Prop where
  long : 0 < r.long
  hold : 0 ≤ r.hold
  rest : 0 ≤ r.rest
/-- Samples of one device and metric. -/
structure SqOk (l : List (Int × Int)) : Prop where
  so : (l.map (·.1)).Pairwise (· < ·)
  ti : ∀ s ∈ l, 0 ≤ s.1 ∧ s.1 < tEnd
  va : ∀ s ∈ l, -1000000000 ≤ s.2 ∧ s.2 ≤ 1000000000
theorem SqOk.sub {l l' : List (Int × Int)} (h : SqOk l) (hs : l'.Sublist l) : SqOk l' :=
  ⟨h.so.sublist (hs.map _), fun s hm => h.ti s (hs.subset hm), fun s hm => h.va s (hs.subset hm)⟩
theorem split_at (l : List (Int × Int)) (hp : (l.map (·.1)).Pairwise (· < ·)) (x : Int) : l = (l.filter fun s => decide (s.1 ≤ x)) ++ (l.filter fun s => decide (x < s.1)) := by
  induction l with
  | nil => rfl
  | cons s l ih =>
    have hp1 := List.pairwise_cons.1 hp
    by_cases h : s.1 ≤ x
    · rw [List.filter_cons_of_pos (by simpa using h), List.filter_cons_of_neg (by simp; omega), List.cons_append, ← ih hp1.2]
    · have h1 : (l.filter fun s => decide (s.1 ≤ x)) = [] := by
        rw [List.filter_eq_nil_iff]
        intro y hy
        have : s.1 < y.1 := hp1.1 y.1 (List.mem_map_of_mem hy)
        simp only [decide_eq_true_eq]
        omega
      have h2 : (l.filter fun s => decide (x < s.1)) = l := by
        rw [List.filter_eq_self]
        intro y hy
        have : s.1 < y.1 := hp1.1 y.1 (List.mem_map_of_mem hy)
        simp only [decide_eq_true_eq]
        omega
      rw [List.filter_cons_of_neg (by simpa using h), List.filter_cons_of_pos (by simp; omega), h1, h2, List.nil_append]
theorem tk0_due (r : Ru) (h : RuT r) : 0 ≤ tkDue r (tk0 r) := (tk0_ok r).due0 (Int.le_of_lt h.long) h.hold h.rest
theorem spUp_nil (a : Int) : SpUp [] false a := ⟨by simp, fun h => absurd h (by decide), by simp⟩
/-- WHETHER THE RULE FIRES AT A MOMENT HANGS ON WHAT CAME UP TO IT. -/
theorem fires_cut {r : Ru} (hr : RuT r) {l sp : List (Int × Int)} (hl : SqOk l) (h : SpOf r l sp) {x : Int} (h0 : 0 ≤ x) (hx : x < tEnd) : ∃ c t d s, Run r (tk0 r) (l.filter fun s => decide (s.1 ≤ x)) c t ∧ Adv r (x + 1) t d s ∧ firesP sp x = s.fi := by
  obtain ⟨cs, t, ds, t', hrun, hadv, rfl⟩ := h
  have hlo := hr.long
  have hho := hr.hold
  have hre := hr.rest
  rw [split_at l hl.so x] at hrun
  obtain ⟨t1, c1, c2, k1, k2, rfl⟩ := run_parts hrun
  have hA : SqOk (l.filter fun s => decide (s.1 ≤ x)) := hl.sub List.filter_sublist
  have hB : SqOk (l.filter fun s => decide (x < s.1)) := hl.sub List.filter_sublist
  obtain ⟨p1, e, he0, he1, he2, he3⟩ := run_times k1 hlo hho hre 0 (tk0_due r hr) hA.so hA.ti
  have hex : e ≤ x := by
    rcases he3 with rfl | ⟨s, hs, rfl⟩
    · exact h0
    · exact of_decide_eq_true (List.mem_filter.1 hs).2
  have hxe : minI (x + 1) tEnd = x + 1 := minI_eq (by omega)
  -- the state at the moment, and what comes later
  have key : ∃ d s D g, Adv r (x + 1) t1 d s ∧ c2 ++ ds = d ++ D ∧ Turns s.fi D g ∧ (D.map (·.1)).Pairwise (· < ·) ∧ ∀ c ∈ D, x + 1 ≤ c.1 ∧ c.1 < tEnd := by
    cases hlb : l.filter fun s => decide (x < s.1) with
    | nil =>
      rw [hlb] at k2
      cases k2
      obtain ⟨d, s, D, a1, a2, a3⟩ := adv_split (a := x + 1) (b := tEnd) (by omega) hadv
      have hd := adv_due a1
      rw [hxe] at hd
      refine ⟨d, s, D, _, a1, by simpa using a3, adv_turns a2, adv_pair hho hre a2, fun c hc => ?_⟩
      have := adv_times hho hre a2 c hc
      have := minI_le_right tEnd tEnd
      omega
    | cons y lb =>
      rw [hlb] at k2 hB
      cases k2 with
      | cons _ u1 _ _ _ f1 f2 m1 m2 =>
        have hy : x < y.1 := by
          have : y ∈ l.filter fun s => decide (x < s.1) := by rw [hlb]; simp
          exact of_decide_eq_true (List.mem_filter.1 this).2
        obtain ⟨d, s, D1, a1, a2, rfl⟩ := adv_split (a := x + 1) (b := y.1) (by omega) m1
        have hd := adv_due a1
        rw [hxe] at hd
        have hall : Run r s (y :: lb) (D1 ++ f2) t := .cons _ _ _ _ _ _ _ a2 m2
        obtain ⟨q1, e', q2, q3, q4, q5⟩ := run_times hall hlo hho hre (x + 1) hd hB.so fun z hz => by
          have hz' : z ∈ l.filter fun s => decide (x < s.1) := by rw [hlb]; exact hz
          have := of_decide_eq_true (List.mem_filter.1 hz').2
          have := (hB.ti z hz).2
          omega
        have he' : e' ≤ tEnd := by
          rcases q5 with rfl | ⟨z, hz, rfl⟩
          · omega
          · have := (hB.ti z hz).2; omega
        refine ⟨d, s, D1 ++ f2 ++ ds, _, a1, by simp, turns_append (run_turns hall) (adv_turns hadv), ?_, fun c hc => ?_⟩
        · rw [List.map_append, List.pairwise_append]
          refine ⟨q1, adv_pair hho hre hadv, fun u hu v hv => ?_⟩
          obtain ⟨c, hc, rfl⟩ := List.mem_map.1 hu
          obtain ⟨z, hz, rfl⟩ := List.mem_map.1 hv
          have z1 := (q4 c hc).2
          have z2 := (adv_times hho hre hadv z hz).1
          omega
        · rw [List.mem_append] at hc
          rcases hc with hc | hc
          · have := q4 c hc; omega
          · have z2 := adv_times hho hre hadv c hc
            have := minI_le_right tEnd tEnd
            omega
  obtain ⟨d, s, D, g, a1, a2, a3, a4, a5⟩ := key
  refine ⟨c1, t1, d, s, k1, a1, ?_⟩
  rw [List.append_assoc, a2, ← List.append_assoc]
  have hup : SpUp (spL (c1 ++ d)) s.fi (x + 1) := by
    refine spUp_fold (c1 ++ d) [] false s.fi 0 (x + 1) (spUp_nil 0) (turns_append (run_turns k1) (adv_turns a1)) ?_ (fun c hc => ?_) (by omega)
    · rw [List.map_append, List.pairwise_append]
      refine ⟨p1, adv_pair hho hre a1, fun u hu v hv => ?_⟩
      obtain ⟨c, hc, rfl⟩ := List.mem_map.1 hu
      obtain ⟨z, hz, rfl⟩ := List.mem_map.1 hv
      have z1 := (he2 c hc).2
      have z2 := (adv_times hho hre a1 z hz).1
      omega
    · rw [List.mem_append] at hc
      rcases hc with hc | hc
      · have := he2 c hc; omega
      · have z2 := adv_times hho hre a1 c hc
        rw [hxe] at z2
        omega
  have hfl := fires_later D x (spL (c1 ++ d)) s.fi g (x + 1) hup (by omega) a3 a4 a5
  rw [spL, List.foldl_append]
  exact hfl.trans (hup.fires hx)
theorem fires_same {r : Ru} (hr : RuT r) {l m sp sq : List (Int × Int)} (hl : SqOk l) (hm : SqOk m) (h : SpOf r l sp) (k : SpOf r m sq) {x : Int} (h0 : 0 ≤ x) (hx : x < tEnd) (he : (l.filter fun s => decide (s.1 ≤ x)) = (m.filter fun s => decide (s.1 ≤ x))) : firesP sp x = firesP sq x := by
  obtain ⟨c, t, d, s, a1, a2, a3⟩ := fires_cut hr hl h h0 hx
  obtain ⟨c', t', d', s', b1, b2, b3⟩ := fires_cut hr hm k h0 hx
  rw [he] at a1
  obtain ⟨_, rfl⟩ := run_det a1 b1
  obtain ⟨_, rfl⟩ := adv_det a2 b2
  rw [a3, b3]
/-- How the rule stands at a moment. -/
def StOf (r : Ru) (l : List (Int × Int)) (x : Int) (st : Int) : Prop := ∃ c t d s, Run r (tk0 r) (l.filter fun s => decide (s.1 ≤ x)) c t ∧ Adv r x t d s ∧ st = (tkUpd r x (tkDrop r x s)).st
theorem dropL_none (long at_ : Int) (w l m : List (Int × Int)) (s : Int) (h : ∀ x w', w = x :: w' → at_ < x.1 + long) : dropL long at_ w l m s = (w, l, m, s) := by
  cases w with
  | nil => rfl
  | cons x w => unfold dropL; rw [if_neg (by have := h x w rfl; omega)]
theorem due_front {r : Ru} {t : Tk} {a : Int} (h : a < tkDue r t) : ∀ x w, t.win = x :: w → a < x.1 + r.long := by
  intro x w e
  unfold tkDue at h
  rw [e] at h
  exact Int.lt_of_lt_of_le h (minI_le_right _ _)
/-- A rule without waiting, with one limit, and off when it is empty. -/
structure RuS (r : Ru) : Prop where
  hold : r.hold = 0
  rest : r.rest = 0
  off : r.off = r.on
  empty : r.empty = 1
theorem now_two {r : Ru} (h : RuS r) (t : Tk) : tkNow r t = 1 ∨ tkNow r t = 2 := by
  unfold tkNow
  split
  · right; unfold tkEmp; rw [h.empty]; rfl
  · rw [h.off]
    unfold tkSide
    cases r.above with
    | true =>
      rw [if_pos rfl]
      split
      · exact .inl rfl
      · rw [if_pos (by omega)]; exact .inr rfl
    | false =>
      rw [if_neg (by decide)]
      split
      · exact .inl rfl
      · rw [if_pos (by omega)]; exact .inr rfl
theorem simple_fires {r : Ru} (hr : RuT r) (hs : RuS r) {l sp : List (Int × Int)} (hl : SqOk l) (h : SpOf r l sp) {x st : Int} (h0 : 0 ≤ x) (hx : x < tEnd) (k : StOf r l x st) : firesP sp x = true ↔ st = 1 := by
  obtain ⟨c, t, d, s, a1, a2, a3⟩ := fires_cut hr hl h h0 hx
  obtain ⟨c', t', d', s', b1, b2, b3⟩ := k
  obtain ⟨_, rfl⟩ := run_det a1 b1
  have hho := hr.hold
  have hre := hr.rest
  obtain ⟨e1, u, e2, m1, m2, _⟩ := adv_split (a := x) (b := x + 1) (by omega) a2
  obtain ⟨_, hus⟩ := adv_det m1 b2
  rw [← hus] at b2 b3
  have hd := adv_due b2
  rw [minI_eq (by omega)] at hd
  have hds := adv_due a2
  rw [minI_eq (by omega)] at hds
  have hn0 : NowOk r (tk0 r) := rfl
  have hnu : NowOk r u := now_adv b2 (now_run a1 hn0)
  -- the state of s is the one that is told
  have hst : s.st = st := by
    rw [b3]
    cases m2 with
    | stop _ hh =>
      rw [minI_eq (by omega)] at hh
      have hdr : tkDrop r x s = s := by
        unfold tkDrop
        rw [dropL_none _ _ _ _ _ _ (due_front (by omega))]
      rw [hdr]
      unfold tkUpd
      rw [if_pos (show tkNow r s = s.st from hnu)]
    | step _ f1 _ hh hk =>
      rw [minI_eq (by omega)] at hh
      have hdx : tkDue r u = x := by omega
      have hnx := due_next r u hho hre (by omega)
      cases hk with
      | stop _ _ =>
        have : (tkNext r u).st = (tkMid r u).st := by unfold tkNext; split <;> rfl
        rw [this]
        unfold tkMid
        rw [hdx]
      | step _ _ _ h2 _ =>
        rw [minI_eq (by omega)] at h2
        omega
  have hns : NowOk r s := now_adv a2 (now_run a1 hn0)
  have hsi : s.si ≤ x := by
    have h1 : t.si ≤ x := run_si a1 (fun y hy => of_decide_eq_true (List.mem_filter.1 hy).2) h0
    rcases adv_si a2 with e | e <;> omega
  have hturn : x + 1 ≤ tkTurn r s := Int.le_trans hds (due_le_turn r s)
  have h2 := now_two hs s
  rw [hns] at h2
  rw [a3, ← hst]
  unfold tkTurn at hturn
  rw [hs.hold, hs.rest] at hturn
  cases hf : s.fi with
  | true =>
    constructor
    · intro _
      rcases h2 with e | e
      · exact e
      · rw [if_neg (by simp [hf]), if_pos ⟨hf, e⟩] at hturn; omega
    · exact fun _ => rfl
  | false =>
    constructor
    · exact fun e => absurd e (by decide)
    · intro e
      rw [if_pos ⟨hf, e⟩] at hturn
      omega
end Go.Proofs.YtlfphndnkgoinaaGreatDoor
