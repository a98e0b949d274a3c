/- A rule followed moment by moment as data, and when it fires; no program in sight. -/
import Derived.Test.YtlfphndnkgoinaaGreatDoorMg0
namespace Go.Proofs.YtlfphndnkgoinaaGreatDoor

/-- A rule: its key and metric by number. -/
structure Ru where
  k : Nat
  m : Nat
  agg : Int
  long : Int
  above : Bool
  on : Int
  off : Int
  hold : Int
  rest : Int
  empty : Int
def tEnd : Int := 345686400000
/-- A track: what the window holds (when, how much), its least and most, and how the rule is. -/
structure Tk where
  win : List (Int × Int)
  lea : List (Int × Int)
  mos : List (Int × Int)
  sum : Int
  st : Int
  si : Int
  fi : Bool
  bg : Int
/-- The value that the rule looks at, and by what its limits are multiplied. -/
def tkVal (r : Ru) (t : Tk) : Int × Int :=
  if r.agg = 1 then ((t.win.getLast?.getD (0, 0)).2, 1)
  else if r.agg = 2 then ((t.lea.headD (0, 0)).2, 1)
  else if r.agg = 3 then ((t.mos.headD (0, 0)).2, 1)
  else if r.agg = 4 then (t.sum, t.win.length)
  else if r.agg = 5 then (t.win.length, 1)
  else if r.agg = 6 then ((t.win.getLast?.getD (0, 0)).2 - (t.win.headD (0, 0)).2, 1)
  else (0, 1)
def tkEmp (r : Ru) : Int := if r.empty = 0 then 0 else if r.empty = 1 then 2 else 1
def tkSide (above : Bool) (v on off : Int) : Int :=
  if above then (if on ≤ v then 1 else if v < off then 2 else 0) else (if -on ≤ -v then 1 else if -v < -off then 2 else 0)
def tkNow (r : Ru) (t : Tk) : Int :=
  if t.win = [] ∧ r.agg ≠ 5 then tkEmp r else tkSide r.above (tkVal r t).1 (r.on * (tkVal r t).2) (r.off * (tkVal r t).2)
def tkUpd (r : Ru) (at_ : Int) (t : Tk) : Tk := if tkNow r t = t.st then t else { t with st := tkNow r t, si := at_ }
def tkPop (x : Int × Int) (l : List (Int × Int)) : List (Int × Int) := if l.head? = some x then l.tail else l
def dropL (long at_ : Int) : List (Int × Int) → List (Int × Int) → List (Int × Int) → Int → List (Int × Int) × List (Int × Int) × List (Int × Int) × Int
  | [], l, m, s => ([], l, m, s)
  | x :: w, l, m, s => if x.1 + long ≤ at_ then dropL long at_ w (tkPop x l) (tkPop x m) (s - x.2) else (x :: w, l, m, s)
def tkDrop (r : Ru) (at_ : Int) (t : Tk) : Tk :=
  let d := dropL r.long at_ t.win t.lea t.mos t.sum
  { t with win := d.1, lea := d.2.1, mos := d.2.2.1, sum := d.2.2.2 }
/-- What is left of a list behind whose end all that does not count is taken away. -/
def popB (p : Int → Bool) (l : List (Int × Int)) : List (Int × Int) := (l.reverse.dropWhile fun x => p x.2).reverse
def tkPut (r : Ru) (s : Int × Int) (t : Tk) : Tk :=
  let d := tkDrop r s.1 t
  tkUpd r s.1 { d with win := d.win ++ [s], sum := d.sum + s.2, lea := popB (fun v => decide (s.2 ≤ v)) d.lea ++ [s], mos := popB (fun v => decide (v ≤ s.2)) d.mos ++ [s] }
def tkTurn (r : Ru) (t : Tk) : Int := if t.fi = false ∧ t.st = 1 then t.si + r.hold else if t.fi = true ∧ t.st = 2 then t.si + r.rest else tEnd
def minI (a b : Int) : Int := if b < a then b else a
def tkDue (r : Ru) (t : Tk) : Int :=
  match t.win with
  | [] => minI (tkTurn r t) tEnd
  | x :: _ => minI (minI (tkTurn r t) tEnd) (x.1 + r.long)
def tkMid (r : Ru) (t : Tk) : Tk := tkUpd r (tkDue r t) (tkDrop r (tkDue r t) t)
/-- What comes about next. -/
def tkNext (r : Ru) (t : Tk) : Tk :=
  if tkTurn r (tkMid r t) = tkDue r t then { tkMid r t with fi := !t.fi, bg := if t.fi then t.bg else tkDue r t } else tkMid r t
def tkChg (r : Ru) (t : Tk) : List (Int × Bool) := if tkTurn r (tkMid r t) = tkDue r t then [(tkDue r t, !t.fi)] else []
/-- All that comes about before a moment. -/
inductive Adv (r : Ru) (b : Int) : Tk → List (Int × Bool) → Tk → Prop
  | stop (t : Tk) : minI b tEnd ≤ tkDue r t → Adv r b t [] t
  | step (t : Tk) (cs : List (Int × Bool)) (t' : Tk) : tkDue r t < minI b tEnd → Adv r b (tkNext r t) cs t' → Adv r b t (tkChg r t ++ cs) t'
/-- Samples that follow each other. -/
inductive Run (r : Ru) : Tk → List (Int × Int) → List (Int × Bool) → Tk → Prop
  | nil (t : Tk) : Run r t [] [] t
  | cons (t t1 t' : Tk) (s : Int × Int) (l : List (Int × Int)) (cs ds : List (Int × Bool)) : Adv r s.1 t cs t1 → Run r (tkPut r s t1) l ds t' → Run r t (s :: l) (cs ++ ds) t'
theorem minI_le_left (a b : Int) : minI a b ≤ a := by unfold minI; split <;> omega
theorem minI_le_right (a b : Int) : minI a b ≤ b := by unfold minI; split <;> omega
theorem minI_cases (a b : Int) : minI a b = a ∨ minI a b = b := by unfold minI; split <;> simp
theorem le_minI (a b c : Int) (h1 : c ≤ a) (h2 : c ≤ b) : c ≤ minI a b := by unfold minI; split <;> omega
theorem adv_det {r : Ru} {b : Int} {t : Tk} {cs : List (Int × Bool)} {t' : Tk} (h : Adv r b t cs t') : ∀ {ds t''}, Adv r b t ds t'' → cs = ds ∧ t' = t'' := by
  induction h with
  | stop t ht =>
    intro ds t'' k
    cases k with
    | stop _ _ => exact ⟨rfl, rfl⟩
    | step _ _ _ h1 _ => omega
  | step t cs t' ht _ ih =>
    intro ds t'' k
    cases k with
    | stop _ h1 => omega
    | step _ es _ h1 h2 =>
      obtain ⟨rfl, rfl⟩ := ih h2
      exact ⟨rfl, rfl⟩
theorem run_det {r : Ru} {t : Tk} {l : List (Int × Int)} {cs : List (Int × Bool)} {t' : Tk} (h : Run r t l cs t') : ∀ {ds t''}, Run r t l ds t'' → cs = ds ∧ t' = t'' := by
  induction h with
  | nil t => intro ds t'' k; cases k; exact ⟨rfl, rfl⟩
  | cons t t1 t' s l cs ds h1 _ ih =>
    intro es t'' k
    cases k with
    | cons _ u1 _ _ _ c2 d2 k1 k2 =>
      obtain ⟨rfl, rfl⟩ := adv_det h1 k1
      obtain ⟨rfl, rfl⟩ := ih k2
      exact ⟨rfl, rfl⟩
theorem dropL_front (long at_ : Int) (w l m : List (Int × Int)) (s : Int) : ∀ x w', (dropL long at_ w l m s).1 = x :: w' → at_ < x.1 + long := by
  induction w generalizing l m s with
  | nil => intro x w' h; simp [dropL] at h
  | cons y w ih =>
    intro x w' h
    unfold dropL at h
    split at h
    · exact ih _ _ _ x w' h
    · injection h with h1 h2; subst h1; omega
theorem upd_win (r : Ru) (a : Int) (t : Tk) : (tkUpd r a t).win = t.win := by unfold tkUpd; split <;> rfl
theorem upd_fi (r : Ru) (a : Int) (t : Tk) : (tkUpd r a t).fi = t.fi := by unfold tkUpd; split <;> rfl
theorem drop_fi (r : Ru) (a : Int) (t : Tk) : (tkDrop r a t).fi = t.fi := rfl
theorem drop_st (r : Ru) (a : Int) (t : Tk) : (tkDrop r a t).st = t.st := rfl
theorem drop_si (r : Ru) (a : Int) (t : Tk) : (tkDrop r a t).si = t.si := rfl
theorem mid_fi (r : Ru) (t : Tk) : (tkMid r t).fi = t.fi := by unfold tkMid; rw [upd_fi]; rfl
theorem due_le_turn (r : Ru) (t : Tk) : tkDue r t ≤ tkTurn r t := by
  unfold tkDue
  split
  · exact minI_le_left _ _
  · exact Int.le_trans (minI_le_left _ _) (minI_le_left _ _)
theorem due_le_end (r : Ru) (t : Tk) : tkDue r t ≤ tEnd := by
  unfold tkDue
  split
  · exact minI_le_right _ _
  · exact Int.le_trans (minI_le_left _ _) (minI_le_right _ _)
theorem due_lt (r : Ru) (t : Tk) (a : Int) (h1 : a < tkTurn r t) (h2 : a < tEnd) (h3 : ∀ x w, t.win = x :: w → a < x.1 + r.long) : a < tkDue r t := by
  unfold tkDue
  split
  · rcases minI_cases (tkTurn r t) tEnd with e | e <;> rw [e] <;> omega
  · rename_i x w e
    have := h3 x w e
    rcases minI_cases (minI (tkTurn r t) tEnd) (x.1 + r.long) with e1 | e1 <;> rw [e1]
    · rcases minI_cases (tkTurn r t) tEnd with e | e <;> rw [e] <;> omega
    · omega
theorem turn_upd (r : Ru) (a : Int) (t : Tk) (hh : 0 ≤ r.hold) (hr : 0 ≤ r.rest) (h : a ≤ tkTurn r t) (he : a ≤ tEnd) : a ≤ tkTurn r (tkUpd r a t) := by
  unfold tkUpd
  split
  · exact h
  · unfold tkTurn
    dsimp only
    split
    · omega
    · split <;> omega
theorem turn_flip (r : Ru) (t : Tk) (a : Int) (bg : Int) (h : tkTurn r t = a) (ha : a < tEnd) : tkTurn r { t with fi := !t.fi, bg := bg } = tEnd := by
  unfold tkTurn at h ⊢
  dsimp only
  split at h
  · rename_i hc
    rw [if_neg (by simp [hc.1]), if_neg (by simp [hc.2])]
  · split at h
    · rename_i hc
      rw [if_neg (by simp [hc.2]), if_neg (by simp [hc.1])]
    · omega
theorem mid_turn (r : Ru) (t : Tk) (hh : 0 ≤ r.hold) (hr : 0 ≤ r.rest) : tkDue r t ≤ tkTurn r (tkMid r t) :=
  turn_upd r _ _ hh hr (due_le_turn r t) (due_le_end r t)
theorem mid_front (r : Ru) (t : Tk) : ∀ x w, (tkMid r t).win = x :: w → tkDue r t < x.1 + r.long := by
  intro x w h
  unfold tkMid at h
  rw [upd_win] at h
  exact dropL_front _ _ _ _ _ _ x w h
/-- What comes about next is later. -/
theorem due_next (r : Ru) (t : Tk) (hh : 0 ≤ r.hold) (hr : 0 ≤ r.rest) (he : tkDue r t < tEnd) : tkDue r t < tkDue r (tkNext r t) := by
  have h1 := mid_turn r t hh hr
  have h2 := mid_front r t
  unfold tkNext
  split
  · rename_i h
    have e := turn_flip r (tkMid r t) _ (if t.fi then t.bg else tkDue r t) h he
    rw [mid_fi] at e
    refine due_lt r _ _ (by rw [e]; exact he) he h2
  · exact due_lt r _ _ (by omega) he h2
/-- All changes come in time, and later than what came about ahead. -/
theorem adv_times {r : Ru} {b : Int} {t : Tk} {cs : List (Int × Bool)} {t' : Tk} (hh : 0 ≤ r.hold) (hr : 0 ≤ r.rest) (h : Adv r b t cs t') : ∀ c ∈ cs, tkDue r t ≤ c.1 ∧ c.1 < minI b tEnd := by
  induction h with
  | stop t ht => simp
  | step t cs t' ht _ ih =>
    intro c hc
    have he : tkDue r t < tEnd := Int.lt_of_lt_of_le ht (minI_le_right _ _)
    have hd := due_next r t hh hr he
    simp only [List.mem_append] at hc
    rcases hc with hc | hc
    · unfold tkChg at hc
      split at hc
      · simp only [List.mem_singleton] at hc
        subst hc
        exact ⟨Int.le_refl _, ht⟩
      · cases hc
    · have := ih c hc
      exact ⟨by omega, this.2⟩
theorem minI_mono {a b c : Int} (h : a ≤ b) : minI a c ≤ minI b c := by unfold minI; split <;> split <;> omega
/-- First up to an earlier moment, then on. -/
theorem adv_split {r : Ru} {a b : Int} (hab : a ≤ b) {t : Tk} {cs : List (Int × Bool)} {t' : Tk} (h : Adv r b t cs t') : ∃ c1 t1 c2, Adv r a t c1 t1 ∧ Adv r b t1 c2 t' ∧ cs = c1 ++ c2 := by
  induction h with
  | stop t ht => exact ⟨[], t, [], .stop _ (Int.le_trans (minI_mono hab) ht), .stop _ ht, rfl⟩
  | step t cs t' ht k ih =>
    by_cases hd : tkDue r t < minI a tEnd
    · obtain ⟨c1, t1, c2, h1, h2, rfl⟩ := ih
      exact ⟨_, t1, c2, .step _ _ _ hd h1, h2, by simp⟩
    · exact ⟨[], t, _, .stop _ (by omega), .step _ _ _ ht k, rfl⟩
theorem adv_due {r : Ru} {b : Int} {t : Tk} {cs : List (Int × Bool)} {t' : Tk} (h : Adv r b t cs t') : minI b tEnd ≤ tkDue r t' := by
  induction h with
  | stop t ht => exact ht
  | step _ _ _ _ _ ih => exact ih
theorem adv_total (r : Ru) (b : Int) (hh : 0 ≤ r.hold) (hr : 0 ≤ r.rest) (t : Tk) : ∃ cs t', Adv r b t cs t' := by
  obtain ⟨n, hn⟩ : ∃ n : Nat, (tEnd - tkDue r t).toNat ≤ n := ⟨_, Nat.le_refl _⟩
  induction n generalizing t with
  | zero => exact ⟨[], t, .stop _ (Int.le_trans (minI_le_right _ _) (by omega))⟩
  | succ n ih =>
    by_cases hd : tkDue r t < minI b tEnd
    · have he : tkDue r t < tEnd := Int.lt_of_lt_of_le hd (minI_le_right _ _)
      have := due_next r t hh hr he
      obtain ⟨cs, t', h⟩ := ih (tkNext r t) (by omega)
      exact ⟨_, _, .step _ _ _ hd h⟩
    · exact ⟨[], t, .stop _ (by omega)⟩
theorem run_append {r : Ru} {t t1 t2 : Tk} {a b : List (Int × Int)} {cs ds : List (Int × Bool)} (h : Run r t a cs t1) (k : Run r t1 b ds t2) : Run r t (a ++ b) (cs ++ ds) t2 := by
  induction h with
  | nil t => exact k
  | cons t t1 t' s l cs es h1 _ ih =>
    rw [List.append_assoc]
    exact .cons _ _ _ _ _ _ _ h1 (ih k)
theorem run_snoc {r : Ru} {t t1 t2 : Tk} {a : List (Int × Int)} {s : Int × Int} {cs ds : List (Int × Bool)} (h : Run r t a cs t1) (k : Adv r s.1 t1 ds t2) : Run r t (a ++ [s]) (cs ++ ds) (tkPut r s t2) := by
  have := run_append h (.cons _ _ _ s [] _ _ k (.nil _))
  simpa using this
theorem run_total (r : Ru) (hh : 0 ≤ r.hold) (hr : 0 ≤ r.rest) (l : List (Int × Int)) : ∀ t, ∃ cs t', Run r t l cs t' := by
  induction l with
  | nil => exact fun t => ⟨_, _, .nil t⟩
  | cons s l ih =>
    intro t
    obtain ⟨cs, t1, h1⟩ := adv_total r s.1 hh hr t
    obtain ⟨ds, t2, h2⟩ := ih (tkPut r s t1)
    exact ⟨_, _, .cons _ _ _ _ _ _ _ h1 h2⟩
theorem run_parts {r : Ru} {a b : List (Int × Int)} : ∀ {t t2 : Tk} {cs : List (Int × Bool)}, Run r t (a ++ b) cs t2 → ∃ t1 c1 c2, Run r t a c1 t1 ∧ Run r t1 b c2 t2 ∧ cs = c1 ++ c2 := by
  induction a with
  | nil => intro t t2 cs h; exact ⟨t, [], cs, .nil _, h, rfl⟩
  | cons s a ih =>
    intro t t2 cs h
    cases h with
    | cons _ u1 _ _ _ c d h1 h2 =>
      obtain ⟨t1, c1, c2, k1, k2, rfl⟩ := ih h2
      exact ⟨t1, _, c2, .cons _ _ _ _ _ _ _ h1 k1, k2, by simp⟩
/-- The times in which the rule fires, out of its changes. -/
def spStep (l : List (Int × Int)) (c : Int × Bool) : List (Int × Int) :=
  if c.2 then l ++ [(c.1, tEnd)] else match l.getLast? with
    | some x => l.dropLast ++ [(x.1, c.1)]
    | none => l
def spL (cs : List (Int × Bool)) : List (Int × Int) := cs.foldl spStep []
def firesP (l : List (Int × Int)) (at_ : Int) : Bool := l.any fun s => decide (s.1 ≤ at_ ∧ at_ < s.2)
/-- Spans up to a moment: none reaches beyond, but the last one if the rule fires. -/
structure SpUp (l : List (Int × Int)) (fi : Bool) (a : Int) : Prop where
  le : ∀ s ∈ l, s.1 < a
  on : fi = true → ∃ p s, l = p ++ [s] ∧ s.2 = tEnd ∧ ∀ q ∈ p, q.2 < a
  off : fi = false → ∀ s ∈ l, s.2 < a
/-- The changes go up and down by turns. -/
def Turns : Bool → List (Int × Bool) → Bool → Prop
  | f, [], g => f = g
  | f, c :: cs, g => c.2 = !f ∧ Turns (!f) cs g
theorem turns_append {f g h : Bool} {a b : List (Int × Bool)} (x : Turns f a g) (y : Turns g b h) : Turns f (a ++ b) h := by
  induction a generalizing f with
  | nil => have : f = g := x; subst this; exact y
  | cons c a ih => exact ⟨x.1, ih x.2⟩
theorem adv_turns {r : Ru} {b : Int} {t : Tk} {cs : List (Int × Bool)} {t' : Tk} (h : Adv r b t cs t') : Turns t.fi cs t'.fi := by
  induction h with
  | stop t ht => rfl
  | step t cs t' ht _ ih =>
    refine turns_append (g := (tkNext r t).fi) ?_ ih
    unfold tkChg tkNext
    split
    · exact ⟨rfl, rfl⟩
    · exact (mid_fi r t).symm
theorem put_fi (r : Ru) (s : Int × Int) (t : Tk) : (tkPut r s t).fi = t.fi := by unfold tkPut; rw [upd_fi]; rfl
theorem run_turns {r : Ru} {t t' : Tk} {l : List (Int × Int)} {cs : List (Int × Bool)} (h : Run r t l cs t') : Turns t.fi cs t'.fi := by
  induction h with
  | nil t => rfl
  | cons t t1 t' s l cs ds h1 _ ih =>
    rw [put_fi] at ih
    exact turns_append (adv_turns h1) ih
theorem getLast_snoc (p : List (Int × Int)) (s : Int × Int) : (p ++ [s]).getLast? = some s ∧ (p ++ [s]).dropLast = p := by simp
/-- A change that is not before the moment keeps what was there up to it. -/
theorem SpUp.mono {l : List (Int × Int)} {fi : Bool} {a b : Int} (h : SpUp l fi a) (hab : a ≤ b) : SpUp l fi b := by
  refine ⟨fun s hs => by have := h.le s hs; omega, fun hf => ?_, fun hf s hs => by have := h.off hf s hs; omega⟩
  obtain ⟨p, s, h1, h2, h3⟩ := h.on hf
  exact ⟨p, s, h1, h2, fun q hq => by have := h3 q hq; omega⟩
theorem SpUp.step {l : List (Int × Int)} {fi : Bool} {a : Int} (h : SpUp l fi a) (c : Int × Bool) (hc : c.2 = !fi) (ha : a ≤ c.1) : SpUp (spStep l c) (!fi) (c.1 + 1) := by
  unfold spStep
  cases fi with
  | false =>
    have hc' : c.2 = true := by simpa using hc
    rw [hc']
    refine ⟨fun s hs => ?_, fun _ => ⟨l, _, rfl, rfl, fun q hq => by have := h.off rfl q hq; omega⟩, fun hf => absurd hf (by simp)⟩
    simp only [if_true, List.mem_append, List.mem_singleton] at hs
    rcases hs with hs | rfl
    · have := h.le s hs; omega
    · dsimp only; omega
  | true =>
    have hc' : c.2 = false := by simpa using hc
    obtain ⟨p, s, rfl, h2, h3⟩ := h.on rfl
    rw [hc', (getLast_snoc p s).1]
    simp only [Bool.false_eq_true, if_false, (getLast_snoc p s).2]
    refine ⟨fun x hx => ?_, fun hf => absurd hf (by simp), fun _ x hx => ?_⟩
    · simp only [List.mem_append, List.mem_singleton] at hx
      rcases hx with hx | rfl
      · have := h.le x (by simp [hx]); omega
      · have := h.le s (by simp); dsimp only; omega
    · simp only [List.mem_append, List.mem_singleton] at hx
      rcases hx with hx | rfl
      · have := h3 x hx; omega
      · dsimp only; omega
theorem firesP_append (a b : List (Int × Int)) (x : Int) : firesP (a ++ b) x = (firesP a x || firesP b x) := by simp [firesP]
theorem firesP_none (l : List (Int × Int)) (x : Int) (h : ∀ s ∈ l, s.2 ≤ x ∨ x < s.1) : firesP l x = false := by
  unfold firesP
  rw [List.any_eq_false]
  intro s hs
  have := h s hs
  simp only [decide_eq_true_eq]
  omega
/-- Later changes leave what fires at a moment. -/
theorem fires_later (cs : List (Int × Bool)) (x : Int) : ∀ (l : List (Int × Int)) (fi gi : Bool) (a : Int), SpUp l fi a → x < a → Turns fi cs gi → (cs.map (·.1)).Pairwise (· < ·) → (∀ c ∈ cs, a ≤ c.1 ∧ c.1 < tEnd) → firesP (cs.foldl spStep l) x = firesP l x := by
  induction cs with
  | nil => intros; rfl
  | cons c cs ih =>
    intro l fi gi a h hx ht hp hc
    have h1 := hc c (by simp)
    have hp' := List.pairwise_cons.1 hp
    rw [List.foldl_cons, ih (spStep l c) (!fi) gi (c.1 + 1) (h.step c ht.1 h1.1) (by omega) ht.2 hp'.2 (fun d hd => ⟨by have : c.1 < d.1 := hp'.1 d.1 (List.mem_map_of_mem hd); omega, (hc d (by simp [hd])).2⟩)]
    unfold spStep
    cases hcc : c.2 with
    | true =>
      simp only [if_true]
      rw [firesP_append, firesP_none [(c.1, tEnd)] x (fun s hs => by simp only [List.mem_singleton] at hs; subst hs; exact .inr (by dsimp only; omega)), Bool.or_false]
    | false =>
      have hfi : fi = true := by
        have := ht.1
        rw [hcc] at this
        cases fi with
        | true => rfl
        | false => exact absurd this (by decide)
      obtain ⟨p, s, rfl, h2, h3⟩ := h.on hfi
      simp only [Bool.false_eq_true, if_false, (getLast_snoc p s).1, (getLast_snoc p s).2]
      rw [firesP_append, firesP_append]
      congr 1
      have := h.le s (by simp)
      simp only [firesP, List.any_cons, List.any_nil, Bool.or_false, h2]
      congr 1
      rw [eq_iff_iff]
      constructor <;> intro _ <;> constructor <;> first | omega | skip
theorem SpUp.fires {l : List (Int × Int)} {fi : Bool} {x : Int} (h : SpUp l fi (x + 1)) (hx : x < tEnd) : firesP l x = fi := by
  cases fi with
  | false => exact firesP_none l x fun s hs => .inl (by have := h.off rfl s hs; omega)
  | true =>
    obtain ⟨p, s, rfl, h2, h3⟩ := h.on rfl
    rw [firesP_append, firesP_none p x fun q hq => .inl (by have := h3 q hq; omega)]
    have := h.le s (by simp)
    simp only [firesP, List.any_cons, List.any_nil, Bool.or_false, Bool.false_or, decide_eq_true_eq]
    omega
end Go.Proofs.YtlfphndnkgoinaaGreatDoor
