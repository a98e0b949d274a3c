/- Several texts in one: Qsk, LdD, SfG, Qsa, LdS, LdG. -/
import Derived.Test.YtldohjamiofkpaaGreatDoorMgA
import Derived.Test.YtldohjamiofkpaaGreatDoorMgD
import Derived.Test.YtldohjamiofkpaaGreatDoorMgB

/- Stages of a region that changes one record of a row that is owned, with numbers of the stream. -/
namespace Go.Proofs.YtldohjamiofkpaaGreatDoor
open Go.RowKit

structure KG {α : Type} (C : α → List Value) (q : Nat) (ty : TypeId) (W : World) (p kk B g c n i : Nat) (xs : List Int) (m : List α) (X : Nat → α) (od : Nat → Nat) (s : Nat) (w : World) : Prop where
  own : w.ownsRow B ty q (.slice (some ⟨g, 0, none⟩) n c) n (recs C (m.set i (X s)))
  strm : Strm w p xs (kk + od s)
  gr : GrF W w (fun b => b = p ∨ b = g)
section
variable {α : Type} {C : α → List Value} {q : Nat} {ty : TypeId} {W w w' : World} {p kk B g c n i : Nat} {xs : List Int} {m : List α} {X : Nat → α} {od : Nat → Nat} {s : Nat}
theorem KG.first (x : α) (ho : w.ownsRow B ty q (.slice (some ⟨g, 0, none⟩) n c) n (recs C m)) (hx : m[i]? = some x) (h0 : X 0 = x) (hs : Strm w p xs kk) (hd : od 0 = 0) : KG C q ty w p kk B g c n i xs m X od 0 w.drew := by
  have e : m.set i (X 0) = m := by
    apply List.ext_getElem?
    intro k
    by_cases hk : i = k
    · subst hk
      rw [List.getElem?_set_self (List.getElem?_eq_some_iff.1 hx).1, h0, hx]
    · rw [List.getElem?_set_ne hk]
  refine ⟨by rw [e]; exact ho, by rw [hd]; exact hs, ⟨rfl, rfl, rfl, Nat.le_refl _, fun _ _ _ => rfl⟩⟩
theorem KG.alloc (h : KG C q ty W p kk B g c n i xs m X od s w) (o : Obj) : KG C q ty W p kk B g c n i xs m X od s (w.alloc o) :=
  ⟨own_belowP h.own ((Below.refl _ _).alloc (Nat.le_refl _) _), h.strm.alloc o, h.gr.trans ⟨rfl, rfl, rfl, by simp, fun b hb _ => Below.heap_alloc _ _ _ hb⟩⟩
theorem KG.cells (hf : ∀ x, (C x).length = q) (h : KG C q ty W p kk B g c n i xs m X od s w) (hi : i < m.length) (j : Nat) (u : Value) (hu : (C (X s))[j]? = some u) : w.cell? ⟨g, i * q + j, none⟩ = some u := by
  have hc := own_cells0 h.own
  have hg : (m.set i (X s))[i]? = some (X s) := by simp [hi]
  have := rec_cell hf hc i (X s) hg j u hu
  simpa using this
theorem KG.fro (h : KG C q ty W p kk B g c n i xs m X od s w) (j : Nat) : w.frozen? ⟨g, j, none⟩ = false := by
  obtain ⟨cs, hcs⟩ := own_blk h.own
  simp [World.frozen?, hcs]
theorem KG.lt (h : KG C q ty W p kk B g c n i xs m X od s w) : g < w.heap.size := by
  obtain ⟨cs, hcs⟩ := own_blk h.own
  exact (Array.getElem?_eq_some_iff.1 hcs).1
theorem KG.call (h : KG C q ty W p kk B g c n i xs m X od s w) (hg : w.grownBy w' (some p)) (hp : p < B) (hpW : p < W.heap.size) (hst : Strm w' p xs (kk + od (s + 1))) (hX : X (s + 1) = X s) : KG C q ty W p kk B g c n i xs m X od (s + 1) w' ∧ GrN W w w' :=
  ⟨⟨by rw [hX]; exact own_kept h.own hg hp, hst, h.gr.trans (GrF.of_grown hg _ (fun b e => by injection e with e; exact .inl e.symm))⟩, hg.size, fun b hb hlt => hg.block b hlt (by intro e; injection e with e; omega)⟩
theorem KG.store (hf : ∀ x, (C x).length = q) (h : KG C q ty W p kk B g c n i xs m X od s w) (hi : i < m.length) (hgW : g < W.heap.size) (hpg : p < g) (j : Nat) (hj : j < q) (u : Value) (hX : (C (X s)).set j u = C (X (s + 1))) (hP : od (s + 1) = od s) :
    KG C q ty W p kk B g c n i xs m X od (s + 1) (w.setCell ⟨g, i * q + j, none⟩ u) ∧ GrN W w (w.setCell ⟨g, i * q + j, none⟩ u) := by
  have hset : ∀ b, b ≠ g → (w.setCell ⟨g, i * q + j, none⟩ u).heap[b]? = w.heap[b]? := fun b hb => Below.heap_setCell _ _ _ _ hb
  have hsz : (w.setCell ⟨g, i * q + j, none⟩ u).heap.size = w.heap.size := by simp [World.setCell]
  have hst := h.own.stored (i * q + j) u
  rw [recs_cell hf m i j _ _ u hi hj hX] at hst
  refine ⟨⟨hst.1, ?_, h.gr.set (.inr rfl) u⟩, by rw [hsz]; exact Nat.le_refl _, fun b hb _ => hset b (by omega)⟩
  rw [hP]
  exact h.strm.keep fun b hb => hset b (by omega)
end
end Go.Proofs.YtldohjamiofkpaaGreatDoor

/- Ladders, shifts and notices as data; no program in sight. -/
namespace Go.Proofs.YtldohjamiofkpaaGreatDoor
open Go.RowKit

def ruT : Nat → ByteArray
  | 0 => ⟨#[114, 97]⟩
  | 1 => ⟨#[114, 98]⟩
  | _ => ⟨#[]⟩
def tmT : Nat → ByteArray
  | 0 => ⟨#[98, 111, 115, 115]⟩
  | 1 => ⟨#[111, 112, 115]⟩
  | 2 => ⟨#[]⟩
  | _ => ⟨#[122, 122]⟩
/-- A ladder: its rule, where its rungs lie, the rungs, and how often. -/
structure Ld where
  r : Nat
  A : Option Addr
  c : Nat
  g : List (Int × Nat)
  ev : Int
instance : Inhabited Ld := ⟨⟨0, none, 0, [], 0⟩⟩
def rgC (y : Int × Nat) : List Value := [.int .i64 y.1, .string (tmT y.2)]
theorem rgC_len (y : Int × Nat) : (rgC y).length = 2 := rfl
theorem rgC_one (y : Int × Nat) : ∀ u ∈ rgC y, u.oneCell' = true := by
  intro u hu; simp [rgC] at hu; rcases hu with rfl | rfl <;> rfl
def ldC (x : Ld) : List Value := [.string (ruT x.r), .slice x.A x.g.length x.c, .int .i64 x.ev]
theorem ldC_len (x : Ld) : (ldC x).length = 3 := rfl
theorem ldC_one (x : Ld) : ∀ u ∈ ldC x, u.oneCell' = true := by
  intro u hu; simp [ldC] at hu; rcases hu with rfl | rfl | rfl <;> rfl
/-- A shift: the team, the person, and when. -/
structure Sf where
  t : Nat
  b : Nat
  f : Int
  u : Int
instance : Inhabited Sf := ⟨⟨0, 0, 0, 0⟩⟩
def sfC (x : Sf) : List Value := [.string (tmT x.t), .string (alwT x.b), .int .i64 x.f, .int .i64 x.u]
theorem sfC_len (x : Sf) : (sfC x).length = 4 := rfl
theorem sfC_one (x : Sf) : ∀ u ∈ sfC x, u.oneCell' = true := by
  intro u hu; simp [sfC] at hu; rcases hu with rfl | rfl | rfl | rfl <;> rfl
/-- A notice. -/
structure Nt where
  at_ : Int
  d : Nat
  r : Nat
  t : Nat
  b : Nat
  k : Int
instance : Inhabited Nt := ⟨⟨0, 0, 0, 0, 0, 0⟩⟩
def ntC (x : Nt) : List Value := [.int .i64 x.at_, .string (aldT x.d), .string (alrT x.r), .string (tmT x.t), .string (alwT x.b), .int .i64 x.k]
theorem ntC_len (x : Nt) : (ntC x).length = 6 := rfl
theorem ntC_one (x : Nt) : ∀ u ∈ ntC x, u.oneCell' = true := by
  intro u hu; simp [ntC] at hu; rcases hu with rfl | rfl | rfl | rfl | rfl | rfl <;> rfl
/-- What is drawn. -/
structure LdG (x : Ld) : Prop where
  n : x.g.length ≤ 4
  g : ∀ y ∈ x.g, -1099511627776 ≤ y.1 ∧ y.1 ≤ 1099511627776
  ev : -1 ≤ x.ev ∧ x.ev ≤ 1000
structure SfG (x : Sf) : Prop where
  f : 0 ≤ x.f ∧ x.f ≤ 1000
  u : 0 ≤ x.u ∧ x.u ≤ 1000
/-- What holds of the first ones of a row, each by itself and with the one ahead of it. -/
def UpTo {α : Type} (Q : α → Prop) (R : α → α → Prop) (L : List α) (i : Nat) : Prop := (∀ k x, k < i → L[k]? = some x → Q x) ∧ ∀ k a b, k + 1 < i → L[k]? = some a → L[k + 1]? = some b → R a b
theorem UpTo.nil {α : Type} {Q : α → Prop} {R : α → α → Prop} {L : List α} : UpTo Q R L 0 := ⟨fun k x h => by omega, fun k a b h => by omega⟩
theorem UpTo.step {α : Type} {Q : α → Prop} {R : α → α → Prop} {L : List α} {i : Nat} {x : α} (h : UpTo Q R L i) (hx : L[i]? = some x) (hq : Q x) (hr : ∀ a, 0 < i → L[i - 1]? = some a → R a x) : UpTo Q R L (i + 1) := by
  refine ⟨fun k y hk hy => ?_, fun k a b hk ha hb => ?_⟩
  · rcases Nat.lt_or_eq_of_le (Nat.le_of_lt_succ hk) with h1 | h1
    · exact h.1 k y h1 hy
    · subst h1
      rw [hx] at hy
      cases hy
      exact hq
  · rcases Nat.lt_or_eq_of_le (Nat.le_of_lt_succ hk) with h1 | h1
    · exact h.2 k a b h1 ha hb
    · subst h1
      rw [hx] at hb
      cases hb
      exact hr a (by omega) (by simpa using ha)
theorem UpTo.mem {α : Type} {Q : α → Prop} {R : α → α → Prop} {L : List α} (h : UpTo Q R L L.length) {x : α} (hx : x ∈ L) : Q x := by
  obtain ⟨k, hk, rfl⟩ := List.getElem_of_mem hx
  exact h.1 k _ hk (List.getElem?_eq_getElem hk)
/-- What is right. -/
structure RgR (y : Int × Nat) : Prop where
  a : 0 ≤ y.1 ∧ y.1 ≤ 2592000000
  t : y.2 ≠ 2
def RgL (a b : Int × Nat) : Prop := a.1 < b.1
structure LdR (x : Ld) : Prop where
  r : x.r < 2
  n : 1 ≤ x.g.length ∧ x.g.length ≤ 10
  g : UpTo RgR RgL x.g x.g.length
  ev : x.ev = 0 ∨ (1000 ≤ x.ev ∧ x.ev ≤ 2592000000)
def LdL (a b : Ld) : Prop := a.r < b.r
def LdsOk (L : List Ld) : Prop := UpTo LdR LdL L L.length
structure SfR (x : Sf) : Prop where
  t : x.t ≠ 2
  b : x.b = 1 ∨ x.b = 2
  f : 0 ≤ x.f ∧ x.f < x.u
  u : x.u ≤ 345686400000
/-- Teams in order: boss, ops, zz. -/
def tmO (t : Nat) : Nat := min t 3
def SfL (a b : Sf) : Prop := tmO a.t < tmO b.t ∨ (tmO a.t = tmO b.t ∧ a.f < b.f ∧ a.u ≤ b.f)
def SfsOk (L : List Sf) : Prop := UpTo SfR SfL L L.length
/-- Who is on call: 0 nobody. -/
def ocP : List Sf → Nat → Int → Nat
  | [], _, _ => 0
  | x :: L, t, m => if tmO x.t = tmO t ∧ x.f ≤ m ∧ m < x.u then x.b else ocP L t m
end Go.Proofs.YtldohjamiofkpaaGreatDoor

/- Shifts of the stream by its contract. Printed by gen_SfG.py. -/
namespace Go.Proofs.YtldohjamiofkpaaGreatDoor
open Go.RowKit

theorem Tryz.infoSf : (Tryz.prog.info? 94).map (fun i => (i.zero, i.size, i.bytes)) = some (some (.agg #[.string ⟨#[]⟩, .string ⟨#[]⟩, .int .i64 0, .int .i64 0]), 4, 48) := by kernel_rfl
def sfPk : List Int := [0, 10]
theorem sfPk_range (j : Nat) (h : j < 2) : 0 ≤ sfPk.getD j 0 ∧ sfPk.getD j 0 ≤ 10 := by
  have : j = 0 ∨ j = 1 := by omega
  rcases this with h | h <;> subst h <;> decide
def sfPk2 : List Int := [5, 20, 50]
theorem sfPk2_range (j : Nat) (h : j < 3) : 5 ≤ sfPk2.getD j 0 ∧ sfPk2.getD j 0 ≤ 50 := by
  have : j = 0 ∨ j = 1 ∨ j = 2 := by omega
  rcases this with h | h | h <;> subst h <;> decide
def sfPk3 : List Int := [0, 0, 10]
theorem sfPk3_range (j : Nat) (h : j < 3) : 0 ≤ sfPk3.getD j 0 ∧ sfPk3.getD j 0 ≤ 10 := by
  have : j = 0 ∨ j = 1 ∨ j = 2 := by omega
  rcases this with h | h | h <;> subst h <;> decide
theorem tm_pick (b j : Nat) (h : j < 3) : ([b, 2, 3].map tmT).getD j ⟨#[]⟩ = tmT ([b, 2, 3].getD j 0) := by
  have : j = 0 ∨ j = 1 ∨ j = 2 := by omega
  rcases this with h | h | h <;> subst h <;> rfl
theorem alw_pick2 (b j : Nat) (h : j < 2) : ([b, 3].map alwT).getD j ⟨#[]⟩ = alwT ([b, 3].getD j 0) := by
  have : j = 0 ∨ j = 1 := by omega
  rcases this with h | h <;> subst h <;> rfl
theorem u3_range (u f : Int) (j : Nat) (h : j < 3) (h1 : 0 ≤ u ∧ u ≤ 1000) (h2 : 0 ≤ f ∧ f ≤ 1000) : 0 ≤ [u, f, 500].getD j 0 ∧ [u, f, 500].getD j 0 ≤ 1000 := by
  have : j = 0 ∨ j = 1 ∨ j = 2 := by omega
  rcases this with h | h | h <;> subst h <;> simp <;> omega
/-- The stages of the odd shift. -/
def sfX (x : Sf) (t b : Nat) (u : Int) : Nat → Sf
  | 0 => x
  | 1 => x
  | 2 => x
  | 3 => x
  | 4 => { x with t := t }
  | 5 => { x with t := t, b := b }
  | _ => { x with t := t, b := b, u := u }
def sfD : Nat → Nat
  | 0 => 0
  | 1 => 1
  | 2 => 2
  | _ => 3
theorem sfX_low (x : Sf) (t b : Nat) (u : Int) (s : Nat) (hs : s ≤ 3) : sfX x t b u s = x := by
  have : s = 0 ∨ s = 1 ∨ s = 2 ∨ s = 3 := by omega
  rcases this with h | h | h | h <;> subst h <;> rfl
def SfPost (w : World) (p k : Nat) (xs : List Int) (e : Ending) (w' : World) : Prop :=
  ∃ (L : List Sf) (A : Option Addr) (c k' n : Nat), e = .returned (.slice A n c) ∧ (∀ x ∈ L, SfG x) ∧ L.length = n ∧ n ≤ 6 ∧ w'.ownsRow w.heap.size 94 4 (.slice A n c) n (recs sfC L) ∧ Strm w' p xs k' ∧ k' ≤ k + 60 ∧ w.grownBy w' (some p)
set_option maxRecDepth 100000 in
set_option maxHeartbeats 4000000 in
theorem shifts_any (w : World) (p k : Nat) (xs : List Int) (hk : k < 100000) (hs : Strm w p xs k) :
    Calls Tryz.prog 8 #[.pointer (some ⟨p, 0, none⟩)] w fun e w' => SfPost w p k xs e w' := by
  obtain ⟨i0, hi0, hz0, hz1, hz2⟩ := info_parts Tryz.infoSf
  have hplt := hs.lt
  have HS := Lib.hid hs
  clear hs
  go_enter Tryz.func8, Tryz.ntmps8
  go_upto_region 3 with (fail)
  obtain ⟨gn, egn⟩ : ∃ g, g = w.heap.size := ⟨_, rfl⟩
  obtain ⟨w1, e1⟩ : ∃ V, V = w.alloc (.cells #[.string ⟨#[98, 111, 115, 115]⟩, .string ⟨#[111, 112, 115]⟩] 9) := ⟨_, rfl⟩
  have hn1 : w1.heap[gn]? = some (.cells #[.string ⟨#[98, 111, 115, 115]⟩, .string ⟨#[111, 112, 115]⟩] 9 (0, 0)) := by rw [e1, egn]; exact heap_new w _
  have HG01 := Lib.hid (show w.grownBy w1 (some p) from by rw [e1]; exact World.grownBy_alloc _ _ (some p))
  have HS1 := Lib.hid (show Strm w1 p xs k from by rw [e1]; exact HS.out.alloc _)
  have hgn1 : gn < w1.heap.size := by rw [e1, egn]; simp
  have hpg : p < gn := by omega
  have HGN := Lib.hid (fun (V : World) (hV : w1.grownBy V (some p)) => show V.cell? ⟨gn, 0, none⟩ = some (.string (tmT 0)) ∧ V.cell? ⟨gn, 1, none⟩ = some (.string (tmT 1)) from
    ⟨cell_of_blk (j := 0) ((hV.block gn hgn1 (by intro e; injection e with e; omega)).trans hn1) rfl, cell_of_blk (j := 1) ((hV.block gn hgn1 (by intro e; injection e with e; omega)).trans hn1) rfl⟩)
  rw [← egn, ← e1]
  have hgw : w.heap.size ≤ gn := by omega
  clear egn e1 hn1
  go_wp2_with (fail)
  go_loopw [3, 11] (fun v s wr => ∃ (j k' : Nat) (L : List Sf), j ≤ 2 ∧ s = .int .i64 (j : Int) ∧ (∀ x ∈ L, SfG x) ∧ L.length ≤ 3 * j ∧ wr.ownsRow w1.heap.size 94 4 v L.length (recs sfC L) ∧ Strm wr p xs k' ∧ k' ≤ k + 11 * j ∧ w1.grownBy wr (some p)) (fun _ s _ => 2 - (intOf s).toNat)
  case atStart => exact ⟨0, k, [], by omega, rfl, by simp, by simp, World.ownsRow_nil _ _ _ _, HS1.out, by omega, grown_refl _ _⟩
  case round =>
    obtain ⟨j, k', L, hj, rfl, hok, hln, hown, hst, hk', hgr⟩ := hrel
    have HOK := Lib.hid hok
    have HO := Lib.hid hown
    have HST := Lib.hid hst
    have HGR := Lib.hid hgr
    have hrs := hgr.size
    have hplt2 := hst.lt
    by_cases hlt : j < 2
    · have hltI : (j : Int) < 2 := by omega
      obtain ⟨n0, n1⟩ := HGN.out wr hgr
      have hgnr : gn < wr.heap.size := by omega
      have nj : wr.cell? ⟨gn, j, none⟩ = some (.string (tmT j)) := by
        have : j = 0 ∨ j = 1 := by omega
        rcases this with rfl | rfl
        · exact n0
        · exact n1
      obtain ⟨ln, eln⟩ : ∃ n, n = L.length := ⟨_, rfl⟩
      rw [← eln] at HO hln
      have HLN := Lib.hid eln.symm
      clear hok hown hst hgr n0 n1 eln
      go_wp2_with (fail)
      refine (pick_any _ p k' wr.heap.size 2 2 xs sfPk (by omega) rfl (by omega) (by omega) (HST.out.alloc _) (by omega) (Cells.new _ _ _ _ _ rfl)).mono ?_
      have ha0 := sfPk_range (nextN xs k' 2) (nextN_lt _ _ _ (by omega))
      obtain ⟨at0, eat⟩ : ∃ r, r = sfPk.getD (nextN xs k' 2) 0 := ⟨_, rfl⟩
      rw [← eat] at ha0 ⊢
      clear eat
      rintro e w3 ⟨rfl, hst3, hg3⟩
      have hg3' := grown_of_alloc hg3
      have hs3 := hg3'.size
      have HO3 := Lib.hid (own_kept HO.out hg3' (by omega))
      have HST3 := Lib.hid hst3
      have HG3 := Lib.hid (grown_trans HGR.out hg3')
      clear hst3 hg3 hg3' nj
      go_wp2_with (fail)
      refine (next_any w3 p (k' + 1) xs 4 (by omega) (by omega) HST3.out).mono ?_
      obtain ⟨N, eN⟩ : ∃ N, N = nextN xs (k' + 1) 4 := ⟨_, rfl⟩
      have hN : N < 4 := by rw [eN]; exact nextN_lt _ _ _ (by omega)
      rw [show nextV xs (k' + 1) 4 = ((nextN xs (k' + 1) 4 : Nat) : Int) from nextN_eq xs (k' + 1) 4 (by omega), ← eN]
      clear eN
      rintro e w4 ⟨rfl, hst4, hg4⟩
      have hs4 := hg4.size
      have HO4 := Lib.hid (own_kept HO3.out hg4 (by omega))
      have HST4 := Lib.hid hst4
      have HG4 := Lib.hid (grown_trans HG3.out hg4)
      clear hst4 hg4
      go_wp2_with (fail)
      go_loopw [3, 6, 20] (fun v a s wx => ∃ (q k2 : Nat) (at_ : Int) (M : List Sf), q ≤ N ∧ s = .int .i64 (q : Int) ∧ a = .int .i64 at_ ∧ (0 ≤ at_ ∧ at_ ≤ 10 + 60 * (q : Int)) ∧ (∀ x ∈ M, SfG x) ∧ M.length = ln + q ∧ wx.ownsRow w1.heap.size 94 4 v (ln + q) (recs sfC M) ∧ Strm wx p xs k2 ∧ k2 ≤ k' + 2 + 3 * q ∧ w1.grownBy wx (some p)) (fun _ _ s _ => N - (intOf s).toNat)
      case atStart => exact ⟨0, k' + 2, at0, L, Nat.zero_le _, rfl, rfl, by omega, HOK.out, HLN.out, HO4.out, HST4.out, by omega, HG4.out⟩
      case round =>
        obtain ⟨q, k2, at_, M, hq, rfl, rfl, hat, hokM, hlnM, hown, hst, hk2, hgr⟩ := hrel
        have HOK2 := Lib.hid hokM
        have HLN2 := Lib.hid hlnM
        have HO5 := Lib.hid hown
        have HST5 := Lib.hid hst
        have HG5 := Lib.hid hgr
        have hs5 := hgr.size
        have hp5 := hst.lt
        clear hokM hlnM hown hst hgr
        by_cases hql : q < N
        · have hqlI : (q : Int) < N := by omega
          go_wp2_with (fail)
          refine (pick_any _ p k2 wr.heap.size 3 3 xs sfPk2 (by omega) rfl (by omega) (by omega) (HST5.out.alloc _) (by omega) (Cells.new _ _ _ _ _ rfl)).mono ?_
          have hd := sfPk2_range (nextN xs k2 3) (nextN_lt _ _ _ (by omega))
          obtain ⟨d, ed⟩ : ∃ r, r = sfPk2.getD (nextN xs k2 3) 0 := ⟨_, rfl⟩
          rw [← ed] at hd ⊢
          clear ed
          rintro e w6 ⟨rfl, hst6, hg6⟩
          have hg6' := grown_of_alloc hg6
          have hs6 := hg6'.size
          have HO6 := Lib.hid (own_kept HO5.out hg6' (by omega))
          have HST6 := Lib.hid hst6
          have HG6 := Lib.hid (grown_trans HG5.out hg6')
          have hwu : IntKind.i64.wrap (at_ + d) = at_ + d := by rw [IntKind.wrap_i64]; omega
          clear hst6 hg6 hg6'
          go_wp2_with (fail)
          refine (some_any _ p (k2 + 1) w6.heap.size 2 2 xs (whPk.map alwT) (by omega) rfl (by omega) (by omega) (HST6.out.alloc _) (by omega) (Cells.new _ _ _ _ _ rfl)).mono ?_
          obtain ⟨h1, hb4⟩ := whPk_lt (nextN xs (k2 + 1) 2) (nextN_lt _ _ _ (by omega))
          rw [h1]
          obtain ⟨b, eb⟩ : ∃ r, r = whPk.getD (nextN xs (k2 + 1) 2) 0 := ⟨_, rfl⟩
          rw [← eb] at hb4 ⊢
          clear eb h1
          rintro e w7 ⟨rfl, hst7, hg7⟩
          have hg7' := grown_of_alloc hg7
          have hs7 := hg7'.size
          have HO7 := Lib.hid (own_kept HO6.out hg7' (by omega))
          have HST7 := Lib.hid hst7
          have HG7 := Lib.hid (grown_trans HG6.out hg7')
          clear hst7 hg7 hg7'
          go_wp2_with (at_builtin; refine wpList_append_own2 _ rfl _ _ 31 rfl w1.heap.size 94 i0 _ 4 48 Tryz.underlying31 hi0 hz0 hz1 hz2 rfl (by decide) _ _ _ rfl (HO7.out.alloc _) ⟨_, 0, none⟩ 1 1 (sfC ⟨j, b, at_, at_ + d⟩) rfl rfl ?c1 ?c2 ?c3 ?c4 ?c5 ?_)
          case c1 => first | exact cells_add (cells_atF (by rfl) (by first | rfl | simp)) | exact fun j u h => h
          case c2 => exact sfC_one _
          case c3 => unfold maxLen; omega
          case c4 => omega
          case c5 => first | omega | (simp; omega)
          intro v9 w9 ho9 hg9 hm9
          have hlo : ∀ q, u3.ownBlock = some q → w1.heap.size ≤ q := fun q hq => (HO7.out.lt q hq).1
          have hlo2 : ∀ q, u3.ownBlock = some q → p < q := fun q hq => by have := hlo q hq; omega
          have HST9 := Lib.hid ((HST7.out.alloc _).row hg9 hlo2)
          have HG9 := Lib.hid (grown_more (grown_trans HG7.out (World.grownBy_alloc _ _ (some p))) hg9 hlo)
          have HO9 := Lib.hid ho9
          have hs9 := HG9.out.size
          have HOK9 := Lib.hid (show ∀ y ∈ M ++ [(⟨j, b, at_, at_ + d⟩ : Sf)], SfG y from fun y hy => by
            rw [List.mem_append, List.mem_singleton] at hy
            rcases hy with hy | rfl
            · exact HOK2.out y hy
            · exact ⟨by show 0 ≤ at_ ∧ at_ ≤ 1000; omega, by show 0 ≤ at_ + d ∧ at_ + d ≤ 1000; omega⟩)
          have hp9 := HST9.out.lt
          clear ho9 hg9 hm9 hlo hlo2
          go_wp2_with (fail)
          refine (pick_any _ p (k2 + 1 + 1) w9.heap.size 3 3 xs sfPk3 (by omega) rfl (by omega) (by omega) (HST9.out.alloc _) (by omega) (Cells.new _ _ _ _ _ rfl)).mono ?_
          have hda := sfPk3_range (nextN xs (k2 + 1 + 1) 3) (nextN_lt _ _ _ (by omega))
          obtain ⟨da, eda⟩ : ∃ r, r = sfPk3.getD (nextN xs (k2 + 1 + 1) 3) 0 := ⟨_, rfl⟩
          rw [← eda] at hda ⊢
          clear eda
          rintro e w10 ⟨rfl, hst10, hg10⟩
          have hg10' := grown_of_alloc hg10
          have HO10 := Lib.hid (own_kept HO9.out hg10' (by omega))
          have HST10 := Lib.hid hst10
          have HG10 := Lib.hid (grown_trans HG9.out hg10')
          have hwa : IntKind.i64.wrap (at_ + d + da) = at_ + d + da := by rw [IntKind.wrap_i64]; omega
          clear hst10 hg10 hg10'
          go_wp2_with (fail)
          go_roundw
          case rel => exact ⟨q + 1, k2 + 1 + 1 + 1, at_ + d + da, M ++ [(⟨j, b, at_, at_ + d⟩ : Sf)], by omega, by go_num, rfl, by omega, HOK9.out, by rw [List.length_append, HLN2.out]; rfl, by rw [recs_snoc]; exact HO10.out, HST10.out, by omega, HG10.out⟩
          case measure => simp [intOf]; omega
        · have hqlI : ¬ (q : Int) < N := by omega
          obtain rfl : q = N := by omega
          go_wp2_with (fail)
          go_roundw
          case rel => exact ⟨j + 1, k2, M, by omega, by go_num, HOK2.out, by have := HLN2.out; omega, by rw [HLN2.out]; exact HO5.out, HST5.out, by omega, HG5.out⟩
          case measure => simp [intOf]; omega
    · have hltI : ¬ (j : Int) < 2 := by omega
      obtain rfl : j = 2 := by omega
      obtain ⟨n, en⟩ : ∃ n, n = L.length := ⟨_, rfl⟩
      rw [← en] at hown hln HO
      obtain ⟨A, c, rfl⟩ := own_slice hown
      have HLN := Lib.hid en.symm
      clear hok hown hst hgr en
      by_cases hn0 : n = 0
      case pos =>
        subst hn0
        have HF := Lib.hid (show SfPost w p k xs (.returned (.slice A 0 c)) wr from ⟨L, A, c, k', 0, rfl, HOK.out, HLN.out, by omega, own_mono HO.out (by omega), HST.out, by omega, grown_trans HG01.out HGR.out⟩)
        go_wp2_with (fail)
        go_ret
        exact HF.out
      have hn0I : (0 : Int) < (n : Int) := by omega
      go_wp2_with (fail)
      refine (flipD_any wr p k' xs 12 (by omega) (by omega) (by omega) HST.out).mono ?_
      obtain ⟨b2, eb2⟩ : ∃ b : Bool, b = decide (nextV xs k' 12 = 0) := ⟨_, rfl⟩
      rw [← eb2]
      clear eb2
      rintro e w5 ⟨rfl, hst5, hg5⟩
      have hs5 := hg5.size
      have HO5 := Lib.hid (own_kept HO.out hg5 (by omega))
      have HST5 := Lib.hid hst5
      have HG5 := Lib.hid (grown_trans HGR.out hg5)
      clear hst5 hg5
      cases b2 with
      | false =>
        have HF := Lib.hid (show SfPost w p k xs (.returned (.slice A n c)) w5 from ⟨L, A, c, k' + 1, n, rfl, HOK.out, HLN.out, by omega, own_mono HO5.out (by omega), HST5.out, by omega, grown_trans HG01.out HG5.out⟩)
        go_wp2_with (fail)
        go_ret
        exact HF.out
      | true =>
        go_wp2_with (fail)
        refine (next_any w5 p (k' + 1) xs (n : Int) (by omega) (by omega) HST5.out).mono ?_
        have hxl := nextN_lt xs (k' + 1) n (by omega)
        rw [nextN_eq xs (k' + 1) n (by omega)]
        obtain ⟨i, ei⟩ : ∃ i, i = nextN xs (k' + 1) n := ⟨_, rfl⟩
        rw [← ei] at hxl ⊢
        clear ei
        rintro e w6 ⟨rfl, hst6, hg6⟩
        have hs6 := hg6.size
        have HO6 := Lib.hid (own_kept HO5.out hg6 (by omega))
        have HST6 := Lib.hid hst6
        have HG6 := Lib.hid (grown_trans HG5.out hg6)
        clear hst6 hg6
        obtain ⟨g, rfl, hwg, hg6lt⟩ : ∃ g, A = some ⟨g, 0, none⟩ ∧ w1.heap.size ≤ g ∧ g < w6.heap.size := by
          rcases own_two HO6.out with ⟨_, h0, _⟩ | ⟨g, hA', hb', hlt'⟩
          · omega
          · exact ⟨g, hA', hb', hlt'⟩
        have hiI : (i : Int) < (n : Int) := by omega
        go_upto_region 15 with (fail)
        obtain ⟨x, hx⟩ : ∃ x, L[i]? = some x := ⟨_, List.getElem?_eq_getElem (by have := HLN.out; omega)⟩
        have HXI := Lib.hid (HOK.out x (List.mem_of_getElem? hx))
        obtain ⟨kk, ekk⟩ : ∃ kk, kk = k' + 1 + 1 := ⟨_, rfl⟩
        rw [← ekk] at HST6
        have hkk : kk < 100200 ∧ kk ≤ k + 30 := by omega
        obtain ⟨vt, evt⟩ : ∃ v : Nat, v = [x.t, 2, 3].getD (nextN xs kk 3) 0 := ⟨_, rfl⟩
        obtain ⟨vb, evb⟩ : ∃ v : Nat, v = [x.b, 3].getD (nextN xs (kk + 1) 2) 0 := ⟨_, rfl⟩
        obtain ⟨vu, evu⟩ : ∃ v : Int, v = [x.u, x.f, 500].getD (nextN xs (kk + 2) 3) 0 := ⟨_, rfl⟩
        have HV := Lib.hid (And.intro evt.symm (And.intro evb.symm evu.symm))
        clear evt evb evu ekk
        have hiL : i < L.length := by have := HLN.out; omega
        have hgp : ¬ g = p := by omega
        have hpgl : p < g := by omega
        have HK0 := Lib.hid (show KG sfC 4 94 w6 p kk w1.heap.size g c n i xs L (sfX x vt vb vu) sfD 0 w6.drew from KG.first x HO6.out hx rfl HST6.out rfl)
        clear hx
        refine qRegionSt (KG sfC 4 94 w6 p kk w1.heap.size g c n i xs L (sfX x vt vb vu) sfD)
          [.pointer (some ⟨g, i * 4, none⟩), .pointer (some ⟨g, i * 4, none⟩), .pointer (some ⟨g, i * 4, none⟩), .pointer (some ⟨p, 0, none⟩), .pointer (some ⟨g, i * 4, none⟩), .pointer (some ⟨g, i * 4, none⟩), .pointer (some ⟨g, i * 4, none⟩), .string (tmT x.t), undef, .string (tmT vt), .pointer (some ⟨p, 0, none⟩), .pointer (some ⟨g, i * 4, none⟩), .pointer (some ⟨g, i * 4, none⟩), .pointer (some ⟨g, i * 4 + 1, none⟩), .string (alwT x.b), undef, .string (alwT vb), .pointer (some ⟨p, 0, none⟩), .pointer (some ⟨g, i * 4, none⟩), .pointer (some ⟨g, i * 4, none⟩), .pointer (some ⟨g, i * 4 + 2, none⟩), .pointer (some ⟨g, i * 4 + 3, none⟩), .int .i64 x.u, .pointer (some ⟨g, i * 4, none⟩), .pointer (some ⟨g, i * 4, none⟩), .pointer (some ⟨g, i * 4 + 2, none⟩), .pointer (some ⟨g, i * 4 + 2, none⟩), .int .i64 x.f, undef, .int .i64 vu, .pointer (some ⟨g, i * 4, none⟩), .pointer (some ⟨g, i * 4, none⟩), .tuple #[], .pointer (some ⟨g, i * 4, none⟩), .pointer (some ⟨g, i * 4 + 1, none⟩), .tuple #[], .pointer (some ⟨g, i * 4, none⟩), .pointer (some ⟨g, i * 4 + 2, none⟩), .pointer (some ⟨g, i * 4 + 3, none⟩), .tuple #[]]
          [none, none, none, none, none, none, none, none, some (.cells #[.string (tmT x.t), .string ⟨#[]⟩, .string ⟨#[122, 122]⟩] 9, fun b => .slice (some ⟨b, 0, none⟩) 3 3), none, none, none, none, none, none, some (.cells #[.string (alwT x.b), .string ⟨#[65]⟩] 9, fun b => .slice (some ⟨b, 0, none⟩) 2 2), none, none, none, none, none, none, none, none, none, none, none, none, some (.cells #[.int .i64 x.u, .int .i64 x.f, .int .i64 500] 3, fun b => .slice (some ⟨b, 0, none⟩) 3 3), none, none, none, none, none, none, none, none, none, none, none]
          [0, 0, 0, 0, 0, 0, 0, 0, 0, 1, 0, 0, 0, 0, 0, 0, 2, 0, 0, 0, 0, 0, 0, 0, 0, 0, 0, 0, 0, 3, 0, 0, 4, 0, 0, 5, 0, 0, 0, 6]
          [6, 6, 6, 6, 6, 6, 6, 3, 6, 6, 6, 6, 6, 6, 3, 6, 6, 6, 6, 6, 6, 6, 3, 6, 6, 6, 6, 3, 6, 6, 6, 6, 6, 6, 6, 6, 6, 6, 6, 6] 6 (by kernel_rfl) (by kernel_rfl) rfl rfl (by rfl) HK0.out (fun s w o h => h.alloc o) ?_ ?_
        · simp only [putL, Act.put, List.setIfInBounds_toArray, List.set_cons_zero, List.set_cons_succ]
          refine ⟨?_, ?_, ?_, ?_, ?_, ?_, ?_, ?_, ?_, ?_, ?_, ?_, ?_, ?_, ?_, ?_, ?_, ?_, ?_, ?_, ?_, ?_, ?_, ?_, ?_, ?_, ?_, ?_, ?_, ?_, ?_, ?_, ?_, ?_, ?_, ?_, ?_, ?_, ?_, ?_, trivial⟩
          · exact OneSt.pure (fun G V => by simp only [putH, Act.put, List.setIfInBounds_toArray, List.set_cons_zero, List.set_cons_succ]; go_simp)
          · exact OneSt.pure (fun G V => by simp only [putH, Act.put, List.setIfInBounds_toArray, List.set_cons_zero, List.set_cons_succ]; go_simp)
          · exact OneSt.pure (fun G V => by simp only [putH, Act.put, List.setIfInBounds_toArray, List.set_cons_zero, List.set_cons_succ]; go_simp)
          · exact OneSt.pure (fun G V => by simp only [putH, Act.put, List.setIfInBounds_toArray, List.set_cons_zero, List.set_cons_succ]; go_simp)
          · exact OneSt.pure (fun G V => by simp only [putH, Act.put, List.setIfInBounds_toArray, List.set_cons_zero, List.set_cons_succ]; go_simp)
          · exact OneSt.pure (fun G V => by simp only [putH, Act.put, List.setIfInBounds_toArray, List.set_cons_zero, List.set_cons_succ]; go_simp)
          · exact OneSt.pure (fun G V => by simp only [putH, Act.put, List.setIfInBounds_toArray, List.set_cons_zero, List.set_cons_succ]; go_simp)
          · exact OneSt.load (fun G s V hK hs => by have c0 := hK.cells sfC_len hiL 0 (.string (tmT x.t)) (by rw [sfX_low x vt vb vu s hs]; rfl); have hgl := hK.lt; simp only [Nat.add_zero] at c0; simp only [putH, Act.put, List.setIfInBounds_toArray, List.set_cons_zero, List.set_cons_succ]; go_simp)
          · exact OneSt.lay (fun G V => by simp only [putH, Act.put, List.setIfInBounds_toArray, List.set_cons_zero, List.set_cons_succ]; go_simp)
          · exact OneSt.call (fun G V hK hL => ⟨_, _, by simp only [putH, Act.put, List.setIfInBounds_toArray, List.set_cons_zero, List.set_cons_succ]; go_simp <;> exact ⟨rfl, rfl⟩, by obtain ⟨hg1, hg2⟩ := hL 8 _ _ rfl (by kernel_rfl); exact (some_any V p kk (G 8) 3 3 xs ([x.t, 2, 3].map tmT) (by omega) rfl (by omega) (by omega) hK.strm (by omega) (cells_blk hg2 rfl)).mono (fun e w' h => ⟨by rw [h.1, tm_pick x.t _ (nextN_lt xs kk 3 (by omega)), HV.out.1], hK.call h.2.2 (by omega) (by omega) h.2.1 rfl⟩)⟩)
          · exact OneSt.pure (fun G V => by simp only [putH, Act.put, List.setIfInBounds_toArray, List.set_cons_zero, List.set_cons_succ]; go_simp)
          · exact OneSt.pure (fun G V => by simp only [putH, Act.put, List.setIfInBounds_toArray, List.set_cons_zero, List.set_cons_succ]; go_simp)
          · exact OneSt.pure (fun G V => by simp only [putH, Act.put, List.setIfInBounds_toArray, List.set_cons_zero, List.set_cons_succ]; go_simp)
          · exact OneSt.pure (fun G V => by simp only [putH, Act.put, List.setIfInBounds_toArray, List.set_cons_zero, List.set_cons_succ]; go_simp)
          · exact OneSt.load (fun G s V hK hs => by have c0 := hK.cells sfC_len hiL 1 (.string (alwT x.b)) (by rw [sfX_low x vt vb vu s hs]; rfl); have hgl := hK.lt; skip; simp only [putH, Act.put, List.setIfInBounds_toArray, List.set_cons_zero, List.set_cons_succ]; go_simp)
          · exact OneSt.lay (fun G V => by simp only [putH, Act.put, List.setIfInBounds_toArray, List.set_cons_zero, List.set_cons_succ]; go_simp)
          · exact OneSt.call (fun G V hK hL => ⟨_, _, by simp only [putH, Act.put, List.setIfInBounds_toArray, List.set_cons_zero, List.set_cons_succ]; go_simp <;> exact ⟨rfl, rfl⟩, by obtain ⟨hg1, hg2⟩ := hL 15 _ _ rfl (by kernel_rfl); exact (some_any V p (kk + 1) (G 15) 2 2 xs ([x.b, 3].map alwT) (by omega) rfl (by omega) (by omega) hK.strm (by omega) (cells_blk hg2 rfl)).mono (fun e w' h => ⟨by rw [h.1, alw_pick2 x.b _ (nextN_lt xs (kk + 1) 2 (by omega)), HV.out.2.1], hK.call h.2.2 (by omega) (by omega) h.2.1 rfl⟩)⟩)
          · exact OneSt.pure (fun G V => by simp only [putH, Act.put, List.setIfInBounds_toArray, List.set_cons_zero, List.set_cons_succ]; go_simp)
          · exact OneSt.pure (fun G V => by simp only [putH, Act.put, List.setIfInBounds_toArray, List.set_cons_zero, List.set_cons_succ]; go_simp)
          · exact OneSt.pure (fun G V => by simp only [putH, Act.put, List.setIfInBounds_toArray, List.set_cons_zero, List.set_cons_succ]; go_simp)
          · exact OneSt.pure (fun G V => by simp only [putH, Act.put, List.setIfInBounds_toArray, List.set_cons_zero, List.set_cons_succ]; go_simp)
          · exact OneSt.pure (fun G V => by simp only [putH, Act.put, List.setIfInBounds_toArray, List.set_cons_zero, List.set_cons_succ]; go_simp)
          · exact OneSt.load (fun G s V hK hs => by have c0 := hK.cells sfC_len hiL 3 (.int .i64 x.u) (by rw [sfX_low x vt vb vu s hs]; rfl); have hgl := hK.lt; skip; simp only [putH, Act.put, List.setIfInBounds_toArray, List.set_cons_zero, List.set_cons_succ]; go_simp)
          · exact OneSt.pure (fun G V => by simp only [putH, Act.put, List.setIfInBounds_toArray, List.set_cons_zero, List.set_cons_succ]; go_simp)
          · exact OneSt.pure (fun G V => by simp only [putH, Act.put, List.setIfInBounds_toArray, List.set_cons_zero, List.set_cons_succ]; go_simp)
          · exact OneSt.pure (fun G V => by simp only [putH, Act.put, List.setIfInBounds_toArray, List.set_cons_zero, List.set_cons_succ]; go_simp)
          · exact OneSt.pure (fun G V => by simp only [putH, Act.put, List.setIfInBounds_toArray, List.set_cons_zero, List.set_cons_succ]; go_simp)
          · exact OneSt.load (fun G s V hK hs => by have c0 := hK.cells sfC_len hiL 2 (.int .i64 x.f) (by rw [sfX_low x vt vb vu s hs]; rfl); have hgl := hK.lt; skip; simp only [putH, Act.put, List.setIfInBounds_toArray, List.set_cons_zero, List.set_cons_succ]; go_simp)
          · exact OneSt.lay (fun G V => by simp only [putH, Act.put, List.setIfInBounds_toArray, List.set_cons_zero, List.set_cons_succ]; go_simp)
          · exact OneSt.call (fun G V hK hL => ⟨_, _, by simp only [putH, Act.put, List.setIfInBounds_toArray, List.set_cons_zero, List.set_cons_succ]; go_simp <;> exact ⟨rfl, rfl⟩, by obtain ⟨hg1, hg2⟩ := hL 28 _ _ rfl (by kernel_rfl); exact (pick_any V p (kk + 2) (G 28) 3 3 xs [x.u, x.f, 500] (by omega) rfl (by omega) (by omega) hK.strm (by omega) (cells_blk hg2 rfl)).mono (fun e w' h => ⟨by rw [h.1, HV.out.2.2], hK.call h.2.2 (by omega) (by omega) h.2.1 rfl⟩)⟩)
          · exact OneSt.pure (fun G V => by simp only [putH, Act.put, List.setIfInBounds_toArray, List.set_cons_zero, List.set_cons_succ]; go_simp)
          · exact OneSt.pure (fun G V => by simp only [putH, Act.put, List.setIfInBounds_toArray, List.set_cons_zero, List.set_cons_succ]; go_simp)
          · exact OneSt.store (fun G V hK hL => by have c0 := hK.cells sfC_len hiL 0 _ rfl; have f0 := hK.fro (i * 4 + 0); have hgl := hK.lt; have hs := hK.store sfC_len hiL (by omega) hpgl 0 (by omega) (.string (tmT vt)) rfl rfl; simp only [Nat.add_zero] at c0 f0 hs; refine ⟨_, ?_, rfl, hs.1, hs.2⟩; simp only [putH, Act.put, List.setIfInBounds_toArray, List.set_cons_zero, List.set_cons_succ]; go_simp)
          · exact OneSt.pure (fun G V => by simp only [putH, Act.put, List.setIfInBounds_toArray, List.set_cons_zero, List.set_cons_succ]; go_simp)
          · exact OneSt.pure (fun G V => by simp only [putH, Act.put, List.setIfInBounds_toArray, List.set_cons_zero, List.set_cons_succ]; go_simp)
          · exact OneSt.store (fun G V hK hL => by have c0 := hK.cells sfC_len hiL 1 _ rfl; have f0 := hK.fro (i * 4 + 1); have hgl := hK.lt; have hs := hK.store sfC_len hiL (by omega) hpgl 1 (by omega) (.string (alwT vb)) rfl rfl; refine ⟨_, ?_, rfl, hs.1, hs.2⟩; simp only [putH, Act.put, List.setIfInBounds_toArray, List.set_cons_zero, List.set_cons_succ]; go_simp)
          · exact OneSt.pure (fun G V => by simp only [putH, Act.put, List.setIfInBounds_toArray, List.set_cons_zero, List.set_cons_succ]; go_simp)
          · exact OneSt.pure (fun G V => by simp only [putH, Act.put, List.setIfInBounds_toArray, List.set_cons_zero, List.set_cons_succ]; go_simp)
          · exact OneSt.pure (fun G V => by simp only [putH, Act.put, List.setIfInBounds_toArray, List.set_cons_zero, List.set_cons_succ]; go_simp)
          · exact OneSt.store (fun G V hK hL => by have c0 := hK.cells sfC_len hiL 3 _ rfl; have f0 := hK.fro (i * 4 + 3); have hgl := hK.lt; have hs := hK.store sfC_len hiL (by omega) hpgl 3 (by omega) (.int .i64 vu) rfl rfl; refine ⟨_, ?_, rfl, hs.1, hs.2⟩; simp only [putH, Act.put, List.setIfInBounds_toArray, List.set_cons_zero, List.set_cons_succ]; go_simp)
        · intro G W7 hK hsz hG
          clear hG
          have HK := Lib.hid hK
          clear hK
          simp only [putL, putH, Act.put, List.setIfInBounds_toArray, List.set_cons_zero, List.set_cons_succ]
          have HX8 := Lib.hid (show ∀ y ∈ L.set i (sfX x vt vb vu 6), SfG y from fun y hy => by
            rcases List.mem_or_eq_of_mem_set hy with hy | rfl
            · exact HOK.out y hy
            · have e1 := u3_range x.u x.f (nextN xs (kk + 2) 3) (nextN_lt xs (kk + 2) 3 (by omega)) HXI.out.u HXI.out.f
              rw [HV.out.2.2] at e1
              exact ⟨HXI.out.f, e1⟩)
          have HGF := Lib.hid (show w.grownBy W7 (some p) from grown_trans HG01.out ⟨HK.out.gr.os.trans HG6.out.os, HK.out.gr.tape.trans HG6.out.tape, HK.out.gr.output.trans HG6.out.output, Nat.le_trans HG6.out.size HK.out.gr.size, fun b hb hne => (HK.out.gr.block b (Nat.lt_of_lt_of_le hb HG6.out.size) (fun h => h.elim (fun h => hne (by rw [h])) (fun h => by omega))).trans (HG6.out.block b hb hne)⟩)
          go_wp2_with (fail)
          go_ret
          exact ⟨_, some ⟨g, 0, none⟩, c, _, n, rfl, HX8.out, by rw [List.length_set]; exact HLN.out, by omega, own_mono HK.out.own (by omega), HK.out.strm, by simp only [sfD]; omega, HGF.out⟩
end Go.Proofs.YtldohjamiofkpaaGreatDoor

/- As Qst, with one operation more whose value isn't known ahead (append): the stages behind it know it. No program in sight. -/
namespace Go.Proofs.YtldohjamiofkpaaGreatDoor
open Go.RowKit

/-- append to a row of the call's own, as it runs. -/
theorem app_run {P : Program} {oa : Oper} {a : Act} {w : World} (s x : Operand) (t : TypeId) (hop : oa.op = Op.call { callee := Callee.builtin Builtin.append, args := #[s, x], argTypes := #[t, t] })
    (base : Nat) (e : TypeId) (i : TypeInfo) (z : Value) (size bytes : Nat) (h1 : P.underlying t = some (.slice e)) (h2 : P.info? e = some i) (h3 : i.zero = some z) (h4 : i.size = size) (h5 : i.bytes = bytes) (h6 : z.cells.size = size) (h7 : 0 < size)
    (v : Value) (n : Nat) (xs : List Value) (hs : a.eval s = v) (hown : w.ownsRow base e size v n xs)
    (ad : Addr) (m c : Nat) (news : List Value) (hx : a.eval x = .slice (some ad) m c) (hn : news.length = m * size) (hc : ∀ j u, news[j]? = some u → w.cell? (ad.add j) = some u) (h1c : ∀ u ∈ news, u.oneCell' = true)
    (b1 : n + m ≤ maxLen) (b2 : (n + m) * bytes ≤ 140737488355328) (hb : base ≤ w.heap.size) :
    ∃ v' w', (execOp a.eval oa).run P w = .ok (.value v') w' ∧ w'.ownsRow base e size v' (n + m) (xs ++ news) ∧ w.grownBy w' v.ownBlock ∧ Moved w v v' := by
  obtain ⟨v', w', hrun, r1, r2, r3⟩ := run_append_own2 (P := P) w base t oa.type e i z size bytes h1 h2 h3 h4 h5 h6 h7 v n xs hown ad m c news hn hc h1c b1 b2 hb
  exact ⟨v', w', by simp [execOp, hop, resolve, invoke, builtin, hs, hx, hrun, Result.andThen], r1, r2, r3⟩
/-- The same, for the arm of qRegionSa. -/
theorem app_st {P : Program} {oa : Oper} {a : Act} {w : World} {Q : Value → World → Prop} (s x : Operand) (t : TypeId) (hop : oa.op = Op.call { callee := Callee.builtin Builtin.append, args := #[s, x], argTypes := #[t, t] })
    (base : Nat) (e : TypeId) (i : TypeInfo) (z : Value) (size bytes : Nat) (h1 : P.underlying t = some (.slice e)) (h2 : P.info? e = some i) (h3 : i.zero = some z) (h4 : i.size = size) (h5 : i.bytes = bytes) (h6 : z.cells.size = size) (h7 : 0 < size)
    (v : Value) (n : Nat) (xs : List Value) (hs : a.eval s = v) (hown : w.ownsRow base e size v n xs)
    (ad : Addr) (m c : Nat) (news : List Value) (hx : a.eval x = .slice (some ad) m c) (hn : news.length = m * size) (hc : ∀ j u, news[j]? = some u → w.cell? (ad.add j) = some u) (h1c : ∀ u ∈ news, u.oneCell' = true)
    (b1 : n + m ≤ maxLen) (b2 : (n + m) * bytes ≤ 140737488355328) (hb : base ≤ w.heap.size)
    (hQ : ∀ v' w', w'.ownsRow base e size v' (n + m) (xs ++ news) → w.grownBy w' v.ownBlock → Moved w v v' → Q v' w') :
    ∃ v' w', (execOp a.eval oa).run P w = .ok (.value v') w' ∧ Q v' w' := by
  obtain ⟨v', w', h, r1, r2, r3⟩ := app_run s x t hop base e i z size bytes h1 h2 h3 h4 h5 h6 h7 v n xs hs hown ad m c news hx hn hc h1c b1 b2 hb
  exact ⟨v', w', h, hQ v' w' r1 r2 r3⟩
def AllSk (P : Program) (W : World) (K : Nat → World → Prop) (A : Act) (l : List Oper) (ms0 : List Laid) (ka : Nat) : Nat → List Oper → List Value → List Laid → List Nat → List Nat → Prop
  | k, o :: os, v :: vs, m :: ms, c :: cs, b :: bs => (k ≠ ka → OneSt P W K A l ms0 o v m c b) ∧ AllSk P W K A l ms0 ka (k + 1) os vs ms cs bs
  | _, _, _, _, _, _ => True
theorem AllSk.get {P : Program} {W : World} {K : Nat → World → Prop} {A : Act} {l : List Oper} {ms0 : List Laid} {ka : Nat} : ∀ {os : List Oper} {vs : List Value} {ms : List Laid} {cs bs : List Nat} {i k : Nat} {o : Oper} {v : Value} {m : Laid} {c b : Nat}, AllSk P W K A l ms0 ka i os vs ms cs bs → os[k]? = some o → vs[k]? = some v → ms[k]? = some m → cs[k]? = some c → bs[k]? = some b → i + k ≠ ka → OneSt P W K A l ms0 o v m c b
  | o :: os, v :: vs, m :: ms, c :: cs, b :: bs, i, 0, _, _, _, _, _, h, h1, h2, h3, h4, h5, h6 => by cases h1; cases h2; cases h3; cases h4; cases h5; exact h.1 h6
  | o :: os, v :: vs, m :: ms, c :: cs, b :: bs, i, k + 1, _, _, _, _, _, h, h1, h2, h3, h4, h5, h6 => AllSk.get h.2 h1 h2 h3 h4 h5 (by omega)
  | [], _, _, _, _, _, _, _, _, _, _, _, _, h1, _, _, _, _, _ => by simp at h1
  | _ :: _, [], _, _, _, _, _, _, _, _, _, _, _, _, h2, _, _, _, _ => by simp at h2
  | _ :: _, _ :: _, [], _, _, _, _, _, _, _, _, _, _, _, _, h3, _, _, _ => by simp at h3
  | _ :: _, _ :: _, _ :: _, [], _, _, _, _, _, _, _, _, _, _, _, _, h4, _, _ => by simp at h4
  | _ :: _, _ :: _, _ :: _, _ :: _, [], _, _, _, _, _, _, _, _, _, _, _, _, h5, _ => by simp at h5
section
variable {P : Program} {W : World} {K : Value → Nat → World → Prop} {ops : Array Oper} {vs : List Value} {ms : List Laid} {cs bs : List Nat} {cm : Nat} {A : Value → Act}
theorem region_sa {ka ca ta : Nat} {oa : Oper} {R : Exit → Act → World → Prop} (hB : stB ops ms cs bs cm = true) (hq : ∀ u, AllSk P W (K u) (A u) ops.toList ms ka 0 ops.toList vs ms cs bs) (hka : ops[ka]? = some oa) (hda : oa.dst = some ta) (hma : ms[ka]? = some none) (hca : cs[ka]? = some (ca + 1))
    (hap : ∀ u G w, K u ca w → LkOk W w oa ms G → ∃ v w', (execOp (putH G (A u) ops.toList ms 0).eval oa).run P w = .ok (.value v) w' ∧ K v (ca + 1) w' ∧ GrN W w w') (hvs : vs.length = ops.size) (hms : ms.length = ops.size)
    (hKa : ∀ u s w o, K u s w → K u s (w.alloc o)) (hA : ∀ (u : Value) (k : Nat) (o : Oper) (v : Value) (t : Tmp), ops[k]? = some o → vs[k]? = some v → o.dst = some t → t < (A u).tmps.size ∧ (ms[k]? = some none → k ≠ ka → (A u).tmps[t]? = some v))
    (hAa : ∀ u, (A u).tmps[ta]? = some u) (hAo : ∀ u v q, q ≠ ta → (A u).tmps[q]? = (A v).tmps[q]?) (hAs : ∀ u v, (A u).tmps.size = (A v).tmps.size ∧ (A u).defers = (A v).defers)
    (hend : ∀ u a w G, K u cm w → W.heap.size ≤ w.heap.size → (∀ k ob, ms[k]? = some (some ob) → W.heap.size ≤ G k ∧ w.heap[G k]? = some ob.1) → a = putH G (A u) ops.toList ms 0 → R .normal a w) :
    ∀ (f : Nat) (d : Array Bool) (a : Act) (w : World) (G : Nat → Nat) (s : Nat) (u : Value), SInv W (K u) ops ms cs cm (A u) G d a w s → cntU d ops.size = f → wpAny P .any ops R f d a w := by
  unfold stB at hB
  simp only [Bool.and_eq_true] at hB
  obtain ⟨⟨hsel, hops⟩, hcm⟩ := hB
  have hok : ∀ i, i < ops.size → ∃ o m c b, ops[i]? = some o ∧ ms[i]? = some m ∧ cs[i]? = some c ∧ bs[i]? = some b ∧ OpSt ops ms cs bs cm i o m c b := fun i hi => opSt_spec (List.all_eq_true.1 hops i (List.mem_range.2 hi))
  -- what a frame holds where an operation looks
  have hfr : ∀ (z : Value) (G : Nat → Nat) (d : Array Bool) (a : Act) (w : World) (s : Nat), SInv W (K z) ops ms cs cm (A z) G d a w s → ∀ t, (∀ (k : Nat) (o : Oper), ops[k]? = some o → o.dst = some t → d.getD k false = true) → a.tmps[t]? = (putH G (A z) ops.toList ms 0).tmps[t]? := by
    intro z G d a w s inv t ht
    by_cases hx : ∃ (j : Nat) (o : Oper) (ob : Obj × (Nat → Value)), ops.toList[j]? = some o ∧ ms[j]? = some (some ob) ∧ o.dst = some t
    · obtain ⟨j, o, ob, hj, hmj, hot⟩ := hx
      have hj' : ops[j]? = some o := by simpa using hj
      rw [(inv.al j o t ob hj' hot hmj (ht j o hj' hot)).1]
      have hjn : j < ops.size := (Array.getElem?_eq_some_iff.1 hj').1
      obtain ⟨o', m', c', b', ho', _, _, _, hO⟩ := hok j hjn
      obtain rfl : o' = o := Option.some.inj (ho'.symm.trans hj')
      obtain ⟨v, hv⟩ : ∃ v, vs[j]? = some v := ⟨_, List.getElem?_eq_getElem (by omega)⟩
      have := putH_at G ops.toList ms (A z) 0 j o' ob t hj hmj hot (hA z j o' v t hj' hv hot).1 (fun i p hp hne e => hne (hO.apart i p t (by simpa using hp) e hot))
      rw [this, Nat.zero_add]
    · rw [putH_get G ops.toList ms (A z) 0 t (fun j o ob hj hmj hot => hx ⟨j, o, ob, hj, hmj, hot⟩)]
      refine inv.slot t (fun k o hk hot => ⟨ht k o hk hot, ?_⟩)
      have hkn : k < ops.size := (Array.getElem?_eq_some_iff.1 hk).1
      obtain ⟨o', m', c', b', ho', hm', _⟩ := hok k hkn
      cases m' with
      | none => exact hm'
      | some ob => exact absurd ⟨k, o, ob, by simpa using hk, hm', hot⟩ hx
  intro f
  induction f with
  | zero =>
    intro d a w G s z inv hcn
    have hall := cntU_zero hcn
    refine ⟨?_, ?_⟩
    · refine List.eq_nil_iff_forall_not_mem.2 (fun i hi => ?_)
      obtain ⟨h1, o, ho, _⟩ := mem_ready.1 hi
      have hi' : i < ops.size := (Array.getElem?_eq_some_iff.1 ho).1
      have h2 := hall i hi'
      rw [getD_both h1] at h2
      cases h2
    · refine hend z a w G ?_ inv.hsize ?_ ?_
      · have hs : s = cm := by
          have hle := inv.st.2.1
          simp only [Bool.or_eq_true, beq_iff_eq] at hcm
          rcases hcm with h | h
          · omega
          · obtain ⟨j, hj, hj2⟩ := List.any_eq_true.1 h
            have hjn := List.mem_range.1 hj
            rcases Nat.eq_zero_or_pos cm with h0 | h0
            · omega
            · have := (inv.st.2.2 j cm hjn (by simpa using hj2) h0).1 (hall j hjn)
              omega
        exact hs ▸ inv.st.1
      · intro k ob hk
        rcases Nat.lt_or_ge k ops.size with hkn | hkn
        · obtain ⟨o, m, c, b, ho, hm, _, _, hO⟩ := hok k hkn
          obtain ⟨t, ht⟩ := hO.dst (by rw [hk] at hm; rw [← Option.some.inj hm]; simp)
          exact (inv.al k o t ob ho ht hk (hall k hkn)).2
        · have := (List.getElem?_eq_some_iff.1 hk).1
          omega
      · have hgs := putH_size G ops.toList ms (A z) 0
        refine act_ext (inv.defers.trans hgs.2.symm) (inv.size.trans hgs.1.symm) (fun t => ?_)
        exact hfr z G d a w s inv t (fun k o hk _ => hall k (Array.getElem?_eq_some_iff.1 hk).1)
  | succ f ih =>
    intro d a w G s z inv hcn
    obtain ⟨k0, hk0, hk1, hk2⟩ := cntU_some (d := d) (n := ops.size) (by omega)
    have hr0 : k0 ∈ Region.ready .any ops d := by
      obtain ⟨o, m, c, b, ho, _, _, _, hO⟩ := hok k0 hk0
      exact mem_ready.2 ⟨getD_in (by rw [inv.dsize]; omega) hk1, o, ho, fun e he hb => hk2 _ (hO.back e he hb)⟩
    refine ⟨fun h => (by rw [h] at hr0; cases hr0), fun i hi => ?_⟩
    obtain ⟨hiu, oi, hoi, hiall⟩ := mem_ready.1 hi
    have hin : i < ops.size := (Array.getElem?_eq_some_iff.1 hoi).1
    obtain ⟨o, m, c, b, ho, hm, hc, hb, hO⟩ := hok i hin
    obtain rfl : o = oi := Option.some.inj (ho.symm.trans hoi)
    have hid : d.getD i false = false := getD_both hiu
    have hisz : i < d.size := by rw [inv.dsize]; omega
    obtain ⟨v, hv⟩ : ∃ v, vs[i]? = some v := ⟨_, List.getElem?_eq_getElem (by omega)⟩
    have hLk : LkOk W w o ms G := (by
      intro k ob f hk he
      obtain ⟨e, he1, he2, he3⟩ := hasE_spec he
      have hkn : k < ops.size := by have := hO.back e he1 he2; omega
      obtain ⟨p, m', c', b', hp, hm', _, _, hP⟩ := hok k hkn
      obtain ⟨t, ht⟩ := hP.dst (by rw [hk] at hm'; rw [← Option.some.inj hm']; simp)
      exact (inv.al k p t (ob, f) hp ht hk (he3 ▸ hiall e he1 he2)).2)
    have hQ := fun hne => (hq z).get (k := i) (by simpa using ho) hv hm hc hb (by simpa using hne) G s w inv.st.1 hLk
    have hexec : execOp a.eval o = execOp (putH G (A z) ops.toList ms 0).eval o := by
      refine execOp_congr o (fun cs b => Region.noSelect_spec hsel i o cs b ho) (fun x hx => eval_agree (fun u hu => hfr z G d a w s inv u (fun k p hp hpu => ?_)))
      have hlook : u ∈ o.looksAt ops := by
        subst hu
        exact List.mem_append_left _ (List.mem_filterMap.2 ⟨.tmp u, by simpa using hx, rfl⟩)
      obtain ⟨e, he, hbd, hon⟩ := hasE_spec (hO.looks k p u hp hpu hlook)
      exact hon ▸ hiall e he hbd
    have hcnt : cntU (d.setIfInBounds i true) ops.size = f := by
      obtain ⟨h1, h2⟩ := cntU_set hisz hid (n := ops.size)
      rw [h1, if_pos hin]; omega
    have hdset : ∀ k, (d.setIfInBounds i true).getD k false = true → k = i ∨ d.getD k false = true := fun k hk => by
      by_cases hki : i = k
      · exact .inl hki.symm
      · rw [getD_set_ne false hki] at hk; exact .inr hk
    have hdmono : ∀ k, d.getD k false = true → (d.setIfInBounds i true).getD k false = true := fun k hk => by
      by_cases hki : i = k
      · subst hki; rw [hid] at hk; cases hk
      · rw [getD_set_ne false hki]; exact hk
    have hdsame : (d.setIfInBounds i true).getD i false = true := by simp [hisz]
    have hput : ∀ (u : Value) (q t : Tmp), o.dst = some t → t < (A z).tmps.size → (a.put o.dst u).tmps[q]? = if q = t then some u else a.tmps[q]? := by
      intro u q t hot htA
      rw [hot]
      unfold Act.put
      simp only
      by_cases hst : q = t
      · subst hst
        rw [if_pos rfl]
        simp [inv.size, htA]
      · rw [if_neg hst, Array.getElem?_setIfInBounds_ne (fun e => hst e.symm)]
    have hnew : ∀ (z2 u : Value) (w' : World) (G' : Nat → Nat) (s' : Nat), GrN W w w' → K z2 s' w' → s' ≤ cm → (∀ j c', j < ops.size → cs[j]? = some c' → 0 < c' → ((d.setIfInBounds i true).getD j false = true ↔ c' ≤ s')) → (m = none → ∀ t, o.dst = some t → (A z2).tmps[t]? = some u) → (∀ q, o.dst ≠ some q → (A z2).tmps[q]? = (A z).tmps[q]?) →
        (∀ ob, m = some ob → u = ob.2 w.heap.size ∧ w'.heap[w.heap.size]? = some ob.1 ∧ G' i = w.heap.size) → (∀ k, k ≠ i → G' k = G k) →
        SInv W (K z2) ops ms cs cm (A z2) G' (d.setIfInBounds i true) (a.put o.dst u) w' s' := by
      intro z2 u w' G' s' hg hK hscm hst hu hoth hal hGk
      refine ⟨by rw [Array.size_setIfInBounds]; exact inv.dsize, ?_, ⟨hK, hscm, hst⟩, by rw [(put_size _ _ _).2]; exact inv.defers.trans (hAs z z2).2, by rw [(put_size _ _ _).1]; exact inv.size.trans (hAs z z2).1, Nat.le_trans inv.hsize hg.1, ?_, ?_⟩
      · intro j oj hj hdj e he hbd
        rcases hdset j hdj with e1 | e1
        · subst e1
          obtain rfl : oj = o := Option.some.inj (hj.symm.trans ho)
          exact hdmono _ (hiall e he hbd)
        · exact hdmono _ (inv.closed j oj hj e1 e he hbd)
      · intro q hs'
        by_cases hot : ∃ t, o.dst = some t
        · obtain ⟨t, hot⟩ := hot
          obtain ⟨htA, _⟩ := hA z i o v t ho hv hot
          rw [hput u q t hot htA]
          by_cases hqt : q = t
          · rw [if_pos hqt]
            obtain ⟨_, g2⟩ := hs' i o ho (by rw [hqt]; exact hot)
            have hmn : m = none := by rw [hm] at g2; exact Option.some.inj g2
            rw [hqt, hu hmn t hot]
          · rw [if_neg hqt, hoth q (fun e => hqt (Option.some.inj (hot.symm.trans e)).symm)]
            refine inv.slot q (fun k p hp hps => ?_)
            obtain ⟨g1, g2⟩ := hs' k p hp hps
            rcases hdset k g1 with e | e
            · exfalso
              subst e
              have : p = o := Option.some.inj (hp.symm.trans ho)
              rw [this, hot] at hps
              exact hqt (Option.some.inj hps).symm
            · exact ⟨e, g2⟩
        · have hdn : o.dst = none := by
            cases h : o.dst with
            | none => rfl
            | some t => exact absurd ⟨t, h⟩ hot
          rw [show (a.put o.dst u).tmps = a.tmps by rw [hdn]; rfl, hoth q (by rw [hdn]; simp)]
          refine inv.slot q (fun k p hp hps => ?_)
          obtain ⟨g1, g2⟩ := hs' k p hp hps
          rcases hdset k g1 with e | e
          · exfalso
            subst e
            have : p = o := Option.some.inj (hp.symm.trans ho)
            rw [this, hdn] at hps
            cases hps
          · exact ⟨e, g2⟩
      · intro k p t ob hp hps hmk hdk
        by_cases hki : k = i
        · subst hki
          have hpo : p = o := Option.some.inj (hp.symm.trans ho)
          rw [hm] at hmk
          obtain ⟨g1, g2, g3⟩ := hal ob (Option.some.inj hmk)
          rw [hpo] at hps
          rw [hput u t t hps (hA z k o v t ho hv hps).1, if_pos rfl, g1, g3]
          exact ⟨rfl, inv.hsize, g2⟩
        · have hdk' : d.getD k false = true := (hdset k hdk).resolve_left hki
          obtain ⟨g1, g2, g3⟩ := inv.al k p t ob hp hps hmk hdk'
          have hlt := (Array.getElem?_eq_some_iff.1 g3).1
          have hne : (a.put o.dst u).tmps[t]? = a.tmps[t]? := put_get _ _ _ _ (fun e => hki (hO.apart k p t hp hps e))
          rw [hne, hGk k hki]
          exact ⟨g1, g2, (hg.2 _ g2 hlt).trans g3⟩
    -- the stage behind it
    have hstay : c = 0 → ∀ j c', j < ops.size → cs[j]? = some c' → 0 < c' → ((d.setIfInBounds i true).getD j false = true ↔ c' ≤ s) := by
      intro hc0 j c' hj hcj hpos
      have hji : i ≠ j := fun e => by subst e; rw [hc] at hcj; have := Option.some.inj hcj; omega
      rw [getD_set_ne false hji]
      exact inv.st.2.2 j c' hj hcj hpos
    have hsb : c = 0 → s ≤ b := by
      intro hc0
      rcases Nat.lt_or_ge b cm with hbc | hbc
      · obtain ⟨j, q, hq', hcj, hE⟩ := hO.low hc0 hbc
        rcases Nat.lt_or_ge b s with hlt | hge
        · exfalso
          have hj : j < ops.size := (Array.getElem?_eq_some_iff.1 hq').1
          have hdone := (inv.st.2.2 j (b + 1) hj hcj (by omega)).2 (by omega)
          obtain ⟨e, he1, he2, he3⟩ := hasE_spec hE
          have := inv.closed j q hq' hdone e he1 he2
          rw [he3, hid] at this
          cases this
        · exact hge
      · have := inv.st.2.1
        omega
    unfold wpOp
    rw [ho]
    simp only
    have hw : Region.wanted o (yielded ops a.tmps) = true := by unfold Region.wanted; rw [hO.guard]
    rw [if_pos hw]
    refine .inl ?_
    unfold Oper.wp
    rw [hexec]
    by_cases hc0 : c = 0
    · cases m with
      | some ob =>
        have hik : i ≠ ka := fun e => by subst e; rw [hm] at hma; cases hma
        rw [hQ hik hc0 (hsb hc0)]
        refine ih _ _ _ (fun k => if k = i then w.heap.size else G k) s z (hnew z _ _ _ s (GrN.alloc _ _ _) (hKa _ _ _ _ inv.st.1) inv.st.2.1 (hstay hc0) (fun h => by cases h) (fun _ _ => rfl) (fun ob' h => ?_) (fun k hk => if_neg hk)) hcnt
        cases h
        exact ⟨rfl, heap_new w ob.1, if_pos rfl⟩
      | none =>
        have hik : i ≠ ka := fun e => by subst e; rw [hc] at hca; have := Option.some.inj hca; omega
        have hQ := hQ hik
        simp only [hc0, Nat.lt_irrefl, if_false] at hQ
        have hvz : (none : Laid) = none → ∀ t, o.dst = some t → (A z).tmps[t]? = some v := fun _ t ht => (hA z i o v t ho hv ht).2 hm hik
        rcases hQ (hsb hc0) with ⟨w', h1, h2, h3⟩ | ⟨fn, args, h1, h2⟩ | ⟨w', h1, hdn, h2, h3⟩
        · rw [h1]
          exact ih _ _ _ G s z (hnew z v w' G s h3 h2 inv.st.2.1 (hstay hc0) hvz (fun _ _ => rfl) (fun ob h => by cases h) (fun _ _ => rfl)) hcnt
        · rw [h1]
          refine h2.mono (fun e w' h => ?_)
          obtain ⟨rfl, hk, hg⟩ := h
          exact ih _ _ _ G s z (hnew z v w' G s hg hk inv.st.2.1 (hstay hc0) hvz (fun _ _ => rfl) (fun ob h => by cases h) (fun _ _ => rfl)) hcnt
        · rw [h1]
          have ea : a.put o.dst undef = a.put o.dst v := by rw [hdn]; rfl
          exact ih _ _ _ G s z (by rw [ea]; exact hnew z v w' G s h3 h2 inv.st.2.1 (hstay hc0) hvz (fun _ _ => rfl) (fun ob h => by cases h) (fun _ _ => rfl)) hcnt
    · have hcp : 0 < c := by omega
      obtain ⟨hmn, hccm, hpre⟩ := hO.high hcp
      subst hmn
      have hnot : ¬ c ≤ s := fun h => by
        have := (inv.st.2.2 i c hin hc hcp).2 h
        rw [hid] at this; cases this
      have hs1 : s + 1 = c := by
        rcases hpre with h | ⟨j, hj, hcj, hE⟩
        · omega
        · rcases Nat.eq_zero_or_pos (c - 1) with h0 | h0
          · omega
          · obtain ⟨e, he1, he2, he3⟩ := hasE_spec hE
            have := (inv.st.2.2 j (c - 1) hj hcj h0).1 (he3 ▸ hiall e he1 he2)
            omega
      have hgo : ∀ j c', j < ops.size → cs[j]? = some c' → 0 < c' → ((d.setIfInBounds i true).getD j false = true ↔ c' ≤ c) := by
        intro j c' hj hcj hpos
        by_cases hji : i = j
        · subst hji
          rw [hc] at hcj
          have := Option.some.inj hcj
          exact ⟨fun _ => by omega, fun _ => hdsame⟩
        · rw [getD_set_ne false hji, inv.st.2.2 j c' hj hcj hpos]
          have hne : c' ≠ c := fun e => hji (hO.alone hcp j hj (e ▸ hcj)).symm
          omega
      by_cases hik : i = ka
      · subst hik
        obtain rfl : o = oa := Option.some.inj (ho.symm.trans hka)
        rw [hca] at hc
        have hcc : ca + 1 = c := Option.some.inj hc
        obtain rfl : s = ca := by omega
        obtain ⟨v', w', h1, h2, h3⟩ := hap z G w inv.st.1 hLk
        rw [h1]
        subst hcc
        exact ih _ _ _ G (s + 1) v' (hnew v' v' w' G (s + 1) h3 h2 hccm hgo (fun _ t ht => by
          obtain rfl : ta = t := Option.some.inj (hda.symm.trans ht)
          exact hAa v') (fun q hq => hAo v' z q (fun e => hq (by rw [e]; exact hda))) (fun ob h => by cases h) (fun _ _ => rfl)) hcnt
      have hQ := hQ hik
      have hvz : (none : Laid) = none → ∀ t, o.dst = some t → (A z).tmps[t]? = some v := fun _ t ht => (hA z i o v t ho hv ht).2 hm hik
      simp only [hcp, if_true] at hQ
      rcases hQ hs1 with ⟨w', h1, h2, h3⟩ | ⟨fn, args, h1, h2⟩ | ⟨w', h1, hdn, h2, h3⟩
      · rw [h1]
        exact ih _ _ _ G c z (hnew z v w' G c h3 h2 hccm hgo hvz (fun _ _ => rfl) (fun ob h => by cases h) (fun _ _ => rfl)) hcnt
      · rw [h1]
        refine h2.mono (fun e w' h => ?_)
        obtain ⟨rfl, hk, hg⟩ := h
        exact ih _ _ _ G c z (hnew z v w' G c hg hk hccm hgo hvz (fun _ _ => rfl) (fun ob h => by cases h) (fun _ _ => rfl)) hcnt
      · rw [h1]
        have ea : a.put o.dst undef = a.put o.dst v := by rw [hdn]; rfl
        exact ih _ _ _ G c z (by rw [ea]; exact hnew z v w' G c h3 h2 hccm hgo hvz (fun _ _ => rfl) (fun ob h => by cases h) (fun _ _ => rfl)) hcnt
/-- A region that draws, each operation looked at once, with an append (the operation ka, stage ca + 1, slot ta). -/
theorem qRegionSa {id : Nat} {R : Exit → Act → World → Prop} {a : Act} {w : World} {l : List Oper} (K : Value → Nat → World → Prop) (ka ca ta : Nat) (oa : Oper) (vs : List Value) (ms : List Laid) (cs bs : List Nat) (cm : Nat) (hm : P.follows .mixedOrders = true) (hB : stB l.toArray ms cs bs cm = true)
    (hvs : vs.length = l.length) (hms : ms.length = l.length) (hsz : l.all (fun o => match o.dst with | some t => decide (t < a.tmps.size) | none => true) = true)
    (hka : l[ka]? = some oa) (hda : oa.dst = some ta) (hma : ms[ka]? = some none) (hca : cs[ka]? = some (ca + 1))
    (hK0 : K undef 0 w.drew) (hKa : ∀ u s w o, K u s w → K u s (w.alloc o))
    (hq : ∀ u, AllSk P w (K u) ((putL a l vs).put (some ta) u) l ms ka 0 l vs ms cs bs)
    (hap : ∀ u G w', K u ca w' → LkOk w w' oa ms G → ∃ v w2, (execOp (putH G ((putL a l vs).put (some ta) u) l ms 0).eval oa).run P w' = .ok (.value v) w2 ∧ K v (ca + 1) w2 ∧ GrN w w' w2)
    (h : ∀ (u : Value) (G : Nat → Nat) w', K u cm w' → w.heap.size ≤ w'.heap.size → (∀ k ob, ms[k]? = some (some ob) → w.heap.size ≤ G k ∧ w'.heap[G k]? = some ob.1) → R .normal (putH G ((putL a l vs).put (some ta) u) l ms 0) w') : (Code.region id l.toArray true).wp P R a w := by
  refine wp_region_any hm ?_
  have hB' := hB
  unfold stB at hB'
  simp only [Bool.and_eq_true] at hB'
  obtain ⟨⟨hsel, hops⟩, hcm⟩ := hB'
  have hok : ∀ i, i < l.toArray.size → ∃ o m c b, l.toArray[i]? = some o ∧ ms[i]? = some m ∧ cs[i]? = some c ∧ bs[i]? = some b ∧ OpSt l.toArray ms cs bs cm i o m c b := fun i hi => opSt_spec (List.all_eq_true.1 hops i (List.mem_range.2 hi))
  have hsize := putL_size l vs a
  have hbd : ∀ (k : Nat) (o : Oper) (t : Tmp), l.toArray[k]? = some o → o.dst = some t → t < a.tmps.size := fun k o t ho ht => by
    have := List.all_eq_true.1 hsz o (List.mem_of_getElem? (i := k) (by simpa using ho))
    rw [ht] at this
    simpa using this
  have hta : ta < a.tmps.size := hbd ka oa ta (by simpa using hka) hda
  have hput : ∀ u q, ((putL a l vs).put (some ta) u).tmps[q]? = if q = ta then some u else (putL a l vs).tmps[q]? := fun u q => by
    unfold Act.put
    simp only
    by_cases hqt : q = ta
    · subst hqt
      rw [if_pos rfl]
      simp [hsize.1, hta]
    · rw [if_neg hqt, Array.getElem?_setIfInBounds_ne (fun e => hqt e.symm)]
  have hps : ∀ u, ((putL a l vs).put (some ta) u).tmps.size = (putL a l vs).tmps.size ∧ ((putL a l vs).put (some ta) u).defers = (putL a l vs).defers := fun u => put_size _ _ _
  have hA : ∀ (u : Value) (k : Nat) (o : Oper) (v : Value) (t : Tmp), l.toArray[k]? = some o → vs[k]? = some v → o.dst = some t → t < ((putL a l vs).put (some ta) u).tmps.size ∧ (ms[k]? = some none → k ≠ ka → ((putL a l vs).put (some ta) u).tmps[t]? = some v) := fun u k o v t ho hv ht => by
    refine ⟨by rw [(hps u).1, hsize.1]; exact hbd k o t ho ht, fun _ hne => ?_⟩
    obtain ⟨o', m', c', b', ho', _, _, _, hO⟩ := hok k (Array.getElem?_eq_some_iff.1 ho).1
    obtain rfl : o' = o := Option.some.inj (ho'.symm.trans ho)
    rw [hput, if_neg (fun e => hne (hO.apart ka oa t (by simpa using hka) (by rw [e]; exact hda) ht).symm)]
    exact putL_at l vs a k o' v t (by simpa using ho) hv ht (hbd k o' t ho ht) (fun j p hp hne e => hne (hO.apart j p t (by simpa using hp) e ht))
  have hmain := region_sa (R := R) (W := w) (K := K) (A := fun u => (putL a l vs).put (some ta) u) (ka := ka) (ca := ca) (ta := ta) (oa := oa) hB (by simpa using hq) (by simpa using hka) hda hma hca (by simpa using hap) (by simpa using hvs) (by simpa using hms) hKa hA (fun u => by rw [hput, if_pos rfl]) (fun u v q hq => by rw [hput, hput, if_neg hq, if_neg hq]) (fun u v => ⟨(hps u).1.trans (hps v).1.symm, (hps u).2.trans (hps v).2.symm⟩) (fun u a' w' G hk hs hG e => by rw [e]; exact h u G w' hk hs hG)
  have inv0 : SInv w (K undef) l.toArray ms cs cm ((putL a l vs).put (some ta) undef) (fun _ => 0) (Array.replicate l.toArray.size false) a { w with drawn := w.drawn + 1 } 0 := by
    refine ⟨by simp, fun j oj _ hj => (by rw [getD_replicate_false] at hj; cases hj), ⟨hK0, Nat.zero_le _, fun i c _ _ hp => ⟨fun hd => (by rw [getD_replicate_false] at hd; cases hd), fun hd => by omega⟩⟩, ((hps undef).2.trans hsize.2).symm, ((hps undef).1.trans hsize.1).symm, Nat.le_refl _, ?_, ?_⟩
    · intro t ht
      rw [hput, if_neg (fun e => by
        have := (ht ka oa (by simpa using hka) (by rw [e]; exact hda)).1
        rw [getD_replicate_false] at this
        cases this)]
      refine (putL_get _ _ a t (fun o ho e => ?_)).symm
      obtain ⟨j, hj⟩ := List.getElem?_of_mem ho
      have := (ht j o (by simpa using hj) e).1
      rw [getD_replicate_false] at this
      cases this
    · intro k o t ob _ _ _ hd
      rw [getD_replicate_false] at hd; cases hd
  have := hmain _ _ a _ _ 0 undef inv0 rfl
  refine wpAny_le ?_ this
  exact cntU_le _ _
end
end Go.Proofs.YtldohjamiofkpaaGreatDoor

/- Ladders in memory: a row of ladders and the rows of their rungs; stages of the regions that add a rung. -/
namespace Go.Proofs.YtldohjamiofkpaaGreatDoor
open Go.RowKit

theorem Tryz.infoLd : (Tryz.prog.info? 89).map (fun i => (i.zero, i.size, i.bytes)) = some (some (.agg #[.string ⟨#[]⟩, .slice none 0 0, .int .i64 0]), 3, 48) := by kernel_rfl
theorem Tryz.infoRg : (Tryz.prog.info? 91).map (fun i => (i.zero, i.size, i.bytes)) = some (some (.agg #[.int .i64 0, .string ⟨#[]⟩]), 2, 24) := by kernel_rfl
def ldV (x : Ld) : Value := .slice x.A x.g.length x.c
/-- The rows of the rungs, each by itself. -/
structure LdI (w : World) (B : Nat) (L : List Ld) : Prop where
  row : ∀ x ∈ L, w.ownsRow B 91 2 (ldV x) x.g.length (recs rgC x.g)
  apart : ∀ (i k : Nat) (a b : Ld), i ≠ k → L[i]? = some a → L[k]? = some b → ∀ q, (ldV a).ownBlock = some q → (ldV b).ownBlock ≠ some q
theorem LdI.nil (w : World) (B : Nat) : LdI w B [] := ⟨by simp, fun i k a b _ h => by simp at h⟩
theorem LdI.keep {w w' : World} {B : Nat} {L : List Ld} (h : LdI w B L) (hk : ∀ x ∈ L, ∀ b, (ldV x).ownBlock = some b → w'.heap[b]? = w.heap[b]?) : LdI w' B L :=
  ⟨fun x hx => own_keptB (h.row x hx) (hk x hx), h.apart⟩
theorem LdI.kept {w w' : World} {B p : Nat} {L : List Ld} (h : LdI w B L) (hg : w.grownBy w' (some p)) (hp : p < B) : LdI w' B L :=
  ⟨fun x hx => own_kept (h.row x hx) hg hp, h.apart⟩
theorem LdI.mono {w : World} {B B' : Nat} {L : List Ld} (h : LdI w B L) (hb : B' ≤ B) : LdI w B' L := ⟨fun x hx => own_mono (h.row x hx) hb, h.apart⟩
theorem LdI.snoc {w : World} {B S : Nat} {L : List Ld} {x : Ld} (h : LdI w B L) (hlt : ∀ y ∈ L, ∀ b, (ldV y).ownBlock = some b → b < S) (hx : w.ownsRow S 91 2 (ldV x) x.g.length (recs rgC x.g)) (hBS : B ≤ S) : LdI w B (L ++ [x]) := by
  refine ⟨fun y hy => ?_, fun i k a b hne ha hb q hq => ?_⟩
  · rw [List.mem_append, List.mem_singleton] at hy
    rcases hy with hy | rfl
    · exact h.row y hy
    · exact own_mono hx hBS
  · have hlo : ∀ q, (ldV x).ownBlock = some q → S ≤ q := fun q hq => (hx.lt q hq).1
    have cas : ∀ (j : Nat) (y : Ld), (L ++ [x])[j]? = some y → (j < L.length ∧ L[j]? = some y) ∨ (j = L.length ∧ y = x) := fun j y hj => by
      have hjl := (List.getElem?_eq_some_iff.1 hj).1
      rw [List.length_append, List.length_singleton] at hjl
      rcases Nat.lt_or_eq_of_le (Nat.le_of_lt_succ hjl) with h1 | h1
      · rw [List.getElem?_append_left h1] at hj
        exact .inl ⟨h1, hj⟩
      · subst h1
        rw [List.getElem?_append_right (Nat.le_refl _)] at hj
        simp at hj
        exact .inr ⟨rfl, hj.symm⟩
    rcases cas i a ha with ⟨_, ha'⟩ | ⟨hi, rfl⟩
    · rcases cas k b hb with ⟨_, hb'⟩ | ⟨_, rfl⟩
      · exact h.apart i k a b hne ha' hb' q hq
      · intro e
        have h1 := hlt a (List.mem_of_getElem? ha') q hq
        have h2 := hlo q e
        omega
    · rcases cas k b hb with ⟨_, hb'⟩ | ⟨hk, rfl⟩
      · intro e
        have h1 := hlt b (List.mem_of_getElem? hb') q e
        have h2 := hlo q hq
        omega
      · omega
def slA : Value → Option Addr
  | .slice A _ _ => A
  | _ => none
def slC : Value → Nat
  | .slice _ _ c => c
  | _ => 0
/-- A ladder with a rung more. -/
def ldU (x : Ld) (u : Value) (y : Int × Nat) : Ld := ⟨x.r, slA u, slC u, x.g ++ [y], x.ev⟩
theorem ldU_V {w : World} {B n : Nat} {e : TypeId} {x : Ld} {u : Value} {y : Int × Nat} {xs : List Value} {s : Nat} (h : w.ownsRow B e s u n xs) (hn : n = x.g.length + 1) : ldV (ldU x u y) = u := by
  obtain ⟨A, c, rfl⟩ := own_slice h
  unfold ldV ldU slA slC
  simp only [List.length_append, List.length_singleton]
  rw [hn]
/-- A rung more in a ladder that lies by itself. -/
structure KRm (W : World) (p kk gx S0 : Nat) (xs : List Int) (r : Nat) (ev : Int) (vb vr : Value) (n : Nat) (G : List (Int × Nat)) (w : World) : Prop where
  blk : w.heap[gx]? = some (.cells #[.string (ruT r), vb, .int .i64 ev] 89 (0, 0))
  row : w.ownsRow S0 91 2 vr n (recs rgC G)
  strm : Strm w p xs kk
  gr : GrF W w (fun b => b = p ∨ b = gx ∨ S0 ≤ b)
section
variable {W w w' : World} {p kk gx S0 : Nat} {xs : List Int} {r : Nat} {ev : Int} {vb vr : Value} {n : Nat} {G : List (Int × Nat)}
theorem KRm.cell1 (h : KRm W p kk gx S0 xs r ev vb vr n G w) : w.cell? ⟨gx, 1, none⟩ = some vb := cell_of_blk (j := 1) h.blk rfl
theorem KRm.lt (h : KRm W p kk gx S0 xs r ev vb vr n G w) : gx < w.heap.size := (Array.getElem?_eq_some_iff.1 h.blk).1
theorem KRm.fro (h : KRm W p kk gx S0 xs r ev vb vr n G w) : w.frozen? ⟨gx, 1, none⟩ = false := by simp [World.frozen?, h.blk]
theorem KRm.alloc (h : KRm W p kk gx S0 xs r ev vb vr n G w) (o : Obj) : KRm W p kk gx S0 xs r ev vb vr n G (w.alloc o) :=
  ⟨(Below.heap_alloc _ _ _ h.lt).trans h.blk, own_belowP h.row ((Below.refl _ _).alloc (Nat.le_refl _) _), h.strm.alloc o, h.gr.trans ⟨rfl, rfl, rfl, by simp, fun b hb _ => Below.heap_alloc _ _ _ hb⟩⟩
theorem KRm.call (h : KRm W p kk gx S0 xs r ev vb vr n G w) (hg : w.grownBy w' (some p)) (hpx : p < gx) (hpS : p < S0) (hpW : p < W.heap.size) {k2 : Nat} (hst : Strm w' p xs k2) : KRm W p k2 gx S0 xs r ev vb vr n G w' ∧ GrN W w w' :=
  ⟨⟨(hg.block gx h.lt (by intro e; injection e with e; omega)).trans h.blk, own_kept h.row hg hpS, hst, h.gr.trans (GrF.of_grown hg _ (fun b e => by injection e with e; exact .inl e.symm))⟩, hg.size, fun b hb hlt => hg.block b hlt (by intro e; injection e with e; omega)⟩
theorem KRm.app {G' : List (Int × Nat)} {u : Value} {m : Nat} (h : KRm W p kk gx S0 xs r ev vb vr n G w) (ho : w'.ownsRow S0 91 2 u m (recs rgC G')) (hg : w.grownBy w' vr.ownBlock) (hpx : p < gx) (hxS : gx < S0) (hvW : ∀ b, vr.ownBlock = some b → b < W.heap.size) : KRm W p kk gx S0 xs r ev vb u m G' w' ∧ GrN W w w' := by
  have hlo : ∀ b, vr.ownBlock = some b → S0 ≤ b := fun b hb => (h.row.lt b hb).1
  refine ⟨⟨(hg.block gx h.lt (fun e => by have := hlo gx e.symm; omega)).trans h.blk, ho, h.strm.row hg (fun b hb => by have := hlo b hb; omega), h.gr.trans (GrF.of_grown hg _ (fun b e => .inr (.inr (hlo b e))))⟩, hg.size, fun b hb hlt => hg.block b hlt (fun e => by have := hvW b e.symm; omega)⟩
theorem KRm.store (h : KRm W p kk gx S0 xs r ev vb vr n G w) (hpx : p < gx) (hxS : gx < S0) (hgxW : gx < W.heap.size) : KRm W p kk gx S0 xs r ev vr vr n G (w.setCell ⟨gx, 1, none⟩ vr) ∧ GrN W w (w.setCell ⟨gx, 1, none⟩ vr) := by
  have hset : ∀ b, b ≠ gx → (w.setCell ⟨gx, 1, none⟩ vr).heap[b]? = w.heap[b]? := fun b hb => Below.heap_setCell _ _ _ _ hb
  have hsz : (w.setCell ⟨gx, 1, none⟩ vr).heap.size = w.heap.size := by simp [World.setCell]
  refine ⟨⟨?_, own_keptB h.row (fun b hb => hset b (by have := (h.row.lt b hb).1; omega)), h.strm.keep fun b hb => hset b (by omega), h.gr.set (.inr (.inl rfl)) vr⟩, by rw [hsz]; exact Nat.le_refl _, fun b hb _ => hset b (by omega)⟩
  rw [heap_setCell_blk vr h.blk]
  rfl
end
def K10 (W : World) (p kk gx S0 : Nat) (xs : List Int) (r : Nat) (ev : Int) (v : Value) (n : Nat) (G : List (Int × Nat)) (y : Int × Nat) (u : Value) : Nat → World → Prop
  | 0, w => KRm W p kk gx S0 xs r ev v v n G w
  | 1, w => KRm W p (kk + 1) gx S0 xs r ev v v n G w
  | 2, w => KRm W p (kk + 1) gx S0 xs r ev v u (n + 1) (G ++ [y]) w
  | _, w => KRm W p (kk + 1) gx S0 xs r ev u u (n + 1) (G ++ [y]) w
theorem K10_alloc {W : World} {p kk gx S0 : Nat} {xs : List Int} {r : Nat} {ev : Int} {v : Value} {n : Nat} {G : List (Int × Nat)} {y : Int × Nat} {u : Value} {s : Nat} {w : World} (h : K10 W p kk gx S0 xs r ev v n G y u s w) (o : Obj) : K10 W p kk gx S0 xs r ev v n G y u s (w.alloc o) := by
  match s, h with
  | 0, h => exact KRm.alloc h o
  | 1, h => exact KRm.alloc h o
  | 2, h => exact KRm.alloc h o
  | _ + 3, h => exact KRm.alloc h o
theorem K10_low {W : World} {p kk gx S0 : Nat} {xs : List Int} {r : Nat} {ev : Int} {v : Value} {n : Nat} {G : List (Int × Nat)} {y : Int × Nat} {u : Value} {s : Nat} {w : World} (h : K10 W p kk gx S0 xs r ev v n G y u s w) (hs : s ≤ 1) : ∃ k2, KRm W p k2 gx S0 xs r ev v v n G w := by
  match s, h, hs with
  | 0, h, _ => exact ⟨_, h⟩
  | 1, h, _ => exact ⟨_, h⟩
/-- A rung more in a ladder of a row. -/
structure KXm (W : World) (p kk B g N cN i : Nat) (xs : List Int) (m : List Ld) (z : Ld) (vo vr : Value) (n : Nat) (G : List (Int × Nat)) (w : World) : Prop where
  own : w.ownsRow B 89 3 (.slice (some ⟨g, 0, none⟩) N cN) N (recs ldC (m.set i z))
  row : w.ownsRow B 91 2 vr n (recs rgC G)
  mv : Moved W vo vr
  strm : Strm w p xs kk
  gr : GrF W w (fun b => b = p ∨ b = g ∨ vo.ownBlock = some b)
section
variable {W w w' : World} {p kk B g N cN i : Nat} {xs : List Int} {m : List Ld} {z : Ld} {vo vr : Value} {n : Nat} {G : List (Int × Nat)}
theorem KXm.cell1 (h : KXm W p kk B g N cN i xs m z vo vr n G w) (hi : i < m.length) : w.cell? ⟨g, i * 3 + 1, none⟩ = some (.slice z.A z.g.length z.c) := by
  have hc := own_cells0 h.own
  have hg : (m.set i z)[i]? = some z := by simp [hi]
  have := rec_cell ldC_len hc i z hg 1 _ rfl
  simpa using this
theorem KXm.blk (h : KXm W p kk B g N cN i xs m z vo vr n G w) : ∃ cs, w.heap[g]? = some (.cells cs 89 (0, 0)) := own_blk h.own
theorem KXm.lt (h : KXm W p kk B g N cN i xs m z vo vr n G w) : g < w.heap.size := by
  obtain ⟨cs, hcs⟩ := h.blk
  exact (Array.getElem?_eq_some_iff.1 hcs).1
theorem KXm.fro (h : KXm W p kk B g N cN i xs m z vo vr n G w) (j : Nat) : w.frozen? ⟨g, j, none⟩ = false := by
  obtain ⟨cs, hcs⟩ := h.blk
  simp [World.frozen?, hcs]
theorem KXm.alloc (h : KXm W p kk B g N cN i xs m z vo vr n G w) (o : Obj) : KXm W p kk B g N cN i xs m z vo vr n G (w.alloc o) :=
  ⟨own_belowP h.own ((Below.refl _ _).alloc (Nat.le_refl _) _), own_belowP h.row ((Below.refl _ _).alloc (Nat.le_refl _) _), h.mv, h.strm.alloc o, h.gr.trans ⟨rfl, rfl, rfl, by simp, fun b hb _ => Below.heap_alloc _ _ _ hb⟩⟩
theorem KXm.call (h : KXm W p kk B g N cN i xs m z vo vr n G w) (hg : w.grownBy w' (some p)) (hp : p < B) (hpW : p < W.heap.size) {k2 : Nat} (hst : Strm w' p xs k2) : KXm W p k2 B g N cN i xs m z vo vr n G w' ∧ GrN W w w' :=
  ⟨⟨own_kept h.own hg hp, own_kept h.row hg hp, h.mv, hst, h.gr.trans (GrF.of_grown hg _ (fun b e => by injection e with e; exact .inl e.symm))⟩, hg.size, fun b hb hlt => hg.block b hlt (by intro e; injection e with e; omega)⟩
theorem KXm.app {G' : List (Int × Nat)} {u : Value} {k : Nat} (h : KXm W p kk B g N cN i xs m z vo vo n G w) (ho : w'.ownsRow B 91 2 u k (recs rgC G')) (hg : w.grownBy w' vo.ownBlock) (hm : Moved w vo u) (hp : p < B) (hvW : ∀ b, vo.ownBlock = some b → b < W.heap.size) : KXm W p kk B g N cN i xs m z vo u k G' w' ∧ GrN W w w' := by
  obtain ⟨cs, hcs⟩ := h.blk
  have hne := own_ne h.row hcs (by decide)
  refine ⟨⟨own_keptB h.own (fun b hb => hg.block b (h.own.lt b hb).2 (fun e => hne (by rw [← e, ← hb]; rfl))), ho, ?_, h.strm.row hg (fun b hb => by have := (h.row.lt b hb).1; omega), h.gr.trans (GrF.of_grown hg _ (fun b e => .inr (.inr e)))⟩, hg.size, fun b hb hlt => hg.block b hlt (fun e => by have := hvW b e.symm; omega)⟩
  rcases hm with hm | ⟨q, h1, h2⟩
  · exact .inl hm
  · exact .inr ⟨q, h1, Nat.le_trans h.gr.size h2⟩
theorem KXm.store {y : Int × Nat} (h : KXm W p kk B g N cN i xs m z vo vr n G w) (hi : i < m.length) (hgW : g < W.heap.size) (hpg : p < g) (hn : n = z.g.length + 1) : KXm W p kk B g N cN i xs m (ldU z vr y) vo vr n G (w.setCell ⟨g, i * 3 + 1, none⟩ vr) ∧ GrN W w (w.setCell ⟨g, i * 3 + 1, none⟩ vr) := by
  obtain ⟨cs, hcs⟩ := h.blk
  have hne := own_ne h.row hcs (by decide)
  have hset : ∀ b, b ≠ g → (w.setCell ⟨g, i * 3 + 1, none⟩ vr).heap[b]? = w.heap[b]? := fun b hb => Below.heap_setCell _ _ _ _ hb
  have hsz : (w.setCell ⟨g, i * 3 + 1, none⟩ vr).heap.size = w.heap.size := by simp [World.setCell]
  have hst := h.own.stored (i * 3 + 1) vr
  have hV := ldU_V (x := z) (y := y) h.row hn
  rw [recs_cell ldC_len m i 1 z (ldU z vr y) vr hi (by omega) (by unfold ldV at hV; unfold ldC; rw [hV]; rfl)] at hst
  exact ⟨⟨hst.1, own_keptB h.row (fun b hb => hset b (fun e => hne (by rw [← e]; exact hb.symm))), h.mv, h.strm.keep fun b hb => hset b (by omega), h.gr.set (.inr (.inl rfl)) vr⟩, by rw [hsz]; exact Nat.le_refl _, fun b hb _ => hset b (by omega)⟩
/-- The ladders behind a rung more. -/
theorem KXm.ladders {x : Ld} {y : Int × Nat} {u : Value} (h : KXm W p kk B g N cN i xs m (ldU x u y) (ldV x) u n (x.g ++ [y]) w) (hI : LdI W B m) (hx : m[i]? = some x) (hn : n = x.g.length + 1) (hp : p < B) (hgb : ∃ cs, W.heap[g]? = some (.cells cs 89 (0, 0))) : LdI w B (m.set i (ldU x u y)) := by
  obtain ⟨cs, hcs⟩ := hgb
  have hV := ldU_V (x := x) (y := y) h.row hn
  have hil := (List.getElem?_eq_some_iff.1 hx).1
  have oth : ∀ (k : Nat) (a : Ld), k ≠ i → m[k]? = some a → w.ownsRow B 91 2 (ldV a) a.g.length (recs rgC a.g) ∧ ∀ b, (ldV a).ownBlock = some b → b < W.heap.size := fun k a hk ha => by
    have hr := hI.row a (List.mem_of_getElem? ha)
    refine ⟨own_keptB hr (fun b hb => h.gr.block b (hr.lt b hb).2 (fun e => ?_)), fun b hb => (hr.lt b hb).2⟩
    rcases e with e | e | e
    · have := (hr.lt b hb).1; omega
    · exact own_ne hr hcs (by decide) (by rw [← e]; exact hb.symm)
    · exact hI.apart k i a x hk ha hx b hb e
  have cas : ∀ (k : Nat) (a : Ld), (m.set i (ldU x u y))[k]? = some a → (k = i ∧ a = ldU x u y) ∨ (k ≠ i ∧ m[k]? = some a) := fun k a hk => by
    by_cases e : k = i
    · subst e
      rw [List.getElem?_set_self hil] at hk
      exact .inl ⟨rfl, (Option.some.inj hk).symm⟩
    · rw [List.getElem?_set_ne (Ne.symm e)] at hk
      exact .inr ⟨e, hk⟩
  refine ⟨fun a ha => ?_, fun j k a b hne ha hb q hq => ?_⟩
  · obtain ⟨k, hk⟩ := List.getElem?_of_mem ha
    rcases cas k a hk with ⟨_, rfl⟩ | ⟨hki, hk'⟩
    · rw [hV]
      have := h.row
      rw [hn] at this
      simpa [ldU] using this
    · exact (oth k a hki hk').1
  · rcases cas j a ha with ⟨hj, rfl⟩ | ⟨hj, ha'⟩
    · rcases cas k b hb with ⟨hk, rfl⟩ | ⟨hk, hb'⟩
      · omega
      · intro e
        rw [hV] at hq
        rcases h.mv with h1 | ⟨g', h1, h2⟩
        · exact hI.apart i k x b (Ne.symm hk) hx hb' q (h1 ▸ hq) e
        · have h3 := (oth k b hk hb').2 q e
          have h4 : g' = q := Option.some.inj (h1.symm.trans hq)
          omega
    · rcases cas k b hb with ⟨hk, rfl⟩ | ⟨hk, hb'⟩
      · intro e
        rw [hV] at e
        rcases h.mv with h1 | ⟨g', h1, h2⟩
        · exact hI.apart j i a x hj ha' hx q hq (h1 ▸ e)
        · have h3 := (oth j a hj ha').2 q hq
          have h4 : g' = q := Option.some.inj (h1.symm.trans e)
          omega
      · exact hI.apart j k a b hne ha' hb' q hq
end
def K19 (W : World) (p kk B g N cN i : Nat) (xs : List Int) (m : List Ld) (x : Ld) (y : Int × Nat) (u : Value) : Nat → World → Prop
  | 0, w => KXm W p kk B g N cN i xs m x (ldV x) (ldV x) x.g.length x.g w
  | 1, w => KXm W p (kk + 2) B g N cN i xs m x (ldV x) (ldV x) x.g.length x.g w
  | 2, w => KXm W p (kk + 3) B g N cN i xs m x (ldV x) (ldV x) x.g.length x.g w
  | 3, w => KXm W p (kk + 3) B g N cN i xs m x (ldV x) u (x.g.length + 1) (x.g ++ [y]) w
  | _, w => KXm W p (kk + 3) B g N cN i xs m (ldU x u y) (ldV x) u (x.g.length + 1) (x.g ++ [y]) w
theorem K19_alloc {W : World} {p kk B g N cN i : Nat} {xs : List Int} {m : List Ld} {x : Ld} {y : Int × Nat} {u : Value} {s : Nat} {w : World} (h : K19 W p kk B g N cN i xs m x y u s w) (o : Obj) : K19 W p kk B g N cN i xs m x y u s (w.alloc o) := by
  match s, h with
  | 0, h => exact KXm.alloc h o
  | 1, h => exact KXm.alloc h o
  | 2, h => exact KXm.alloc h o
  | 3, h => exact KXm.alloc h o
  | _ + 4, h => exact KXm.alloc h o
theorem K19_low {W : World} {p kk B g N cN i : Nat} {xs : List Int} {m : List Ld} {x : Ld} {y : Int × Nat} {u : Value} {s : Nat} {w : World} (h : K19 W p kk B g N cN i xs m x y u s w) (hs : s ≤ 2) : ∃ k2, KXm W p k2 B g N cN i xs m x (ldV x) (ldV x) x.g.length x.g w := by
  match s, h, hs with
  | 0, h, _ => exact ⟨_, h⟩
  | 1, h, _ => exact ⟨_, h⟩
  | 2, h, _ => exact ⟨_, h⟩
def odPkM : List Int := [-1, 2592000001, 0, 2592000000, -1099511627776, 1099511627776]
def oddM (xs : List Int) (k : Nat) : Int := if nextV xs k 12 = 0 then odPkM.getD (nextN xs (k + 1) 6) 0 else nextV xs (k + 1) 2592000001
theorem odPkM_range (j : Nat) (h : j < 6) : -1099511627776 ≤ odPkM.getD j 0 ∧ odPkM.getD j 0 ≤ 1099511627776 := by
  have : j = 0 ∨ j = 1 ∨ j = 2 ∨ j = 3 ∨ j = 4 ∨ j = 5 := by omega
  rcases this with h | h | h | h | h | h <;> subst h <;> decide
theorem oddM_range (xs : List Int) (k : Nat) : -1099511627776 ≤ oddM xs k ∧ oddM xs k ≤ 1099511627776 := by
  unfold oddM
  split
  · exact odPkM_range _ (nextN_lt _ _ _ (by omega))
  · have := nextV_range xs (k + 1) 2592000001 (by omega)
    omega
theorem oddM_any (w : World) (p k : Nat) (xs : List Int) (hk : k < 900000) (hs : Strm w p xs k) :
    Calls Tryz.prog 33 #[.pointer (some ⟨p, 0, none⟩), .int .i64 0, .int .i64 2592000000] w fun e w' => e = .returned (.int .i64 (oddM xs k)) ∧ Strm w' p xs (k + 2) ∧ w.grownBy w' (some p) := by
  have hplt := hs.lt
  have HS := Lib.hid hs
  clear hs
  obtain ⟨r, er⟩ : ∃ r, r = oddM xs k := ⟨_, rfl⟩
  rw [← er]
  unfold oddM at er
  go_enter Tryz.func33, Tryz.ntmps33
  go_wp2_with (fail)
  refine (flipD_any w p k xs 12 (by omega) (by omega) (by omega) HS.out).mono ?_
  rintro e w1 ⟨rfl, hst1, hg1⟩
  have HST1 := Lib.hid hst1
  have HG1 := Lib.hid hg1
  have hs1 := hg1.size
  clear hst1 hg1
  by_cases h0 : nextV xs k 12 = 0
  · rw [if_pos h0] at er
    rw [decide_eq_true h0]
    have ER := Lib.hid er
    clear h0 er
    go_wp2_with (fail)
    refine (pick_any _ p (k + 1) _ 6 6 xs odPkM (by omega) rfl (by omega) (by omega) (HST1.out.alloc _) (by omega) (Cells.new _ _ _ _ _ rfl)).mono ?_
    rintro e w2 ⟨rfl, hst2, hg2⟩
    have HF := Lib.hid (And.intro hst2 (grown_trans HG1.out (grown_of_alloc hg2)))
    clear hst2 hg2
    go_wp2_with (fail)
    go_ret
    exact ⟨by rw [ER.out]; rfl, HF.out.1, HF.out.2⟩
  · rw [if_neg h0] at er
    rw [decide_eq_false h0]
    have ER := Lib.hid er
    clear h0 er
    go_wp2_with (fail)
    refine (range_any w1 p (k + 1) xs 0 2592000000 (by omega) (by omega) (by omega) (by omega) (by omega) HST1.out).mono ?_
    rintro e w2 ⟨rfl, hst2, hg2⟩
    have HF := Lib.hid (And.intro hst2 (grown_trans HG1.out hg2))
    clear hst2 hg2
    go_wp2_with (fail)
    go_ret
    exact ⟨by rw [ER.out]; rfl, HF.out.1, HF.out.2⟩
end Go.Proofs.YtldohjamiofkpaaGreatDoor

/- Ladders of the stream by its contract. Printed by gen_LdG.py. -/
namespace Go.Proofs.YtldohjamiofkpaaGreatDoor
open Go.RowKit

def lePk : List Int := [0, 0, 1000]
theorem lePk_range (j : Nat) (h : j < 3) : 0 ≤ lePk.getD j 0 ∧ lePk.getD j 0 ≤ 1000 := by
  have : j = 0 ∨ j = 1 ∨ j = 2 := by omega
  rcases this with h | h | h <;> subst h <;> decide
def lfPk : List Int := [0, 5]
theorem lfPk_range (j : Nat) (h : j < 2) : 0 ≤ lfPk.getD j 0 ∧ lfPk.getD j 0 ≤ 5 := by
  have : j = 0 ∨ j = 1 := by omega
  rcases this with h | h <;> subst h <;> decide
def lgPk : List Int := [1, 10, 30]
theorem lgPk_range (j : Nat) (h : j < 3) : 1 ≤ lgPk.getD j 0 ∧ lgPk.getD j 0 ≤ 30 := by
  have : j = 0 ∨ j = 1 ∨ j = 2 := by omega
  rcases this with h | h | h <;> subst h <;> decide
theorem tm2_pick (j : Nat) (h : j < 2) : ([1, 0].map tmT).getD j ⟨#[]⟩ = tmT ([1, 0].getD j 0) := by
  have : j = 0 ∨ j = 1 := by omega
  rcases this with h | h <;> subst h <;> rfl
theorem tm3_pick (j : Nat) (h : j < 2) : ([2, 1].map tmT).getD j ⟨#[]⟩ = tmT ([2, 1].getD j 0) := by
  have : j = 0 ∨ j = 1 := by omega
  rcases this with h | h <;> subst h <;> rfl
theorem ru_pick (b j : Nat) (h : j < 3) : ([b, 2, 0].map ruT).getD j ⟨#[]⟩ = ruT ([b, 2, 0].getD j 0) := by
  have : j = 0 ∨ j = 1 ∨ j = 2 := by omega
  rcases this with h | h | h <;> subst h <;> rfl
theorem ev4_range (e : Int) (j : Nat) (h : j < 4) (h1 : -1 ≤ e ∧ e ≤ 1000) : -1 ≤ [e, 999, 1, -1].getD j 0 ∧ [e, 999, 1, -1].getD j 0 ≤ 1000 := by
  have : j = 0 ∨ j = 1 ∨ j = 2 ∨ j = 3 := by omega
  rcases this with h | h | h | h <;> subst h <;> simp <;> omega
/-- The stages of the odd ladder. -/
def ldX (x : Ld) (r : Nat) (ev : Int) : Nat → Ld
  | 0 => x
  | 1 => x
  | 2 => x
  | 3 => { x with r := r }
  | _ => { x with r := r, ev := ev }
def ldO : Nat → Nat
  | 0 => 0
  | 1 => 1
  | _ => 2
theorem ldX_low (x : Ld) (r : Nat) (ev : Int) (s : Nat) (hs : s ≤ 2) : ldX x r ev s = x := by
  have : s = 0 ∨ s = 1 ∨ s = 2 := by omega
  rcases this with h | h | h <;> subst h <;> rfl
def LdPost (w : World) (p k : Nat) (xs : List Int) (e : Ending) (w' : World) : Prop :=
  ∃ (L : List Ld) (A : Option Addr) (c k' n : Nat), e = .returned (.slice A n c) ∧ (∀ x ∈ L, LdG x) ∧ L.length = n ∧ n ≤ 2 ∧ w'.ownsRow w.heap.size 89 3 (.slice A n c) n (recs ldC L) ∧ LdI w' w.heap.size L ∧ Strm w' p xs k' ∧ k' ≤ k + 60 ∧ w.grownBy w' (some p)
theorem LdI.set_same {w : World} {B i : Nat} {L : List Ld} {x y : Ld} (h : LdI w B L) (hx : L[i]? = some x) (hv : ldV y = ldV x) (hg : y.g = x.g) : LdI w B (L.set i y) := by
  have hil := (List.getElem?_eq_some_iff.1 hx).1
  have cas : ∀ (k : Nat) (a : Ld), (L.set i y)[k]? = some a → ∃ b, L[k]? = some b ∧ ldV a = ldV b ∧ a.g = b.g := fun k a hk => by
    by_cases e : i = k
    · subst e
      rw [List.getElem?_set_self hil] at hk
      cases hk
      exact ⟨x, hx, hv, hg⟩
    · rw [List.getElem?_set_ne e] at hk
      exact ⟨a, hk, rfl, rfl⟩
  refine ⟨fun a ha => ?_, fun j k a b hne ha hb q hq => ?_⟩
  · obtain ⟨k, hk⟩ := List.getElem?_of_mem ha
    obtain ⟨b, hb, e1, e2⟩ := cas k a hk
    have := h.row b (List.mem_of_getElem? hb)
    rwa [← e1, ← e2] at this
  · obtain ⟨a', ha', e1, _⟩ := cas j a ha
    obtain ⟨b', hb', e2, _⟩ := cas k b hb
    rw [e1] at hq
    rw [e2]
    exact h.apart j k a' b' hne ha' hb' q hq
set_option maxRecDepth 100000 in
set_option maxHeartbeats 4000000 in
theorem ladders_any (w : World) (p k : Nat) (xs : List Int) (hk : k < 100000) (hs : Strm w p xs k) :
    Calls Tryz.prog 7 #[.pointer (some ⟨p, 0, none⟩)] w fun e w' => LdPost w p k xs e w' := by
  obtain ⟨i0, hi0, hz0, hz1, hz2⟩ := info_parts Tryz.infoLd
  obtain ⟨i1, hi1, hy0, hy1, hy2⟩ := info_parts Tryz.infoRg
  have hplt := hs.lt
  have HS := Lib.hid hs
  clear hs
  go_enter Tryz.func7, Tryz.ntmps7
  go_upto_region 3 with (fail)
  obtain ⟨gn, egn⟩ : ∃ g, g = w.heap.size := ⟨_, rfl⟩
  obtain ⟨w1, e1⟩ : ∃ V, V = w.alloc (.cells #[.string ⟨#[114, 97]⟩, .string ⟨#[114, 98]⟩] 9) := ⟨_, rfl⟩
  have hn1 : w1.heap[gn]? = some (.cells #[.string ⟨#[114, 97]⟩, .string ⟨#[114, 98]⟩] 9 (0, 0)) := by rw [e1, egn]; exact heap_new w _
  have HG01 := Lib.hid (show w.grownBy w1 (some p) from by rw [e1]; exact World.grownBy_alloc _ _ (some p))
  have HS1 := Lib.hid (show Strm w1 p xs k from by rw [e1]; exact HS.out.alloc _)
  have hgn1 : gn < w1.heap.size := by rw [e1, egn]; simp
  have hpg : p < gn := by omega
  have HGN := Lib.hid (fun (V : World) (hV : w1.grownBy V (some p)) => show V.cell? ⟨gn, 0, none⟩ = some (.string (ruT 0)) ∧ V.cell? ⟨gn, 1, none⟩ = some (.string (ruT 1)) from
    ⟨cell_of_blk (j := 0) ((hV.block gn hgn1 (by intro e; injection e with e; omega)).trans hn1) rfl, cell_of_blk (j := 1) ((hV.block gn hgn1 (by intro e; injection e with e; omega)).trans hn1) rfl⟩)
  rw [← egn, ← e1]
  have hgw : w.heap.size ≤ gn := by omega
  clear egn e1 hn1
  go_wp2_with (fail)
  go_loopw [3, 11] (fun v s wr => ∃ (j k' : Nat) (L : List Ld), j ≤ 2 ∧ s = .int .i64 (j : Int) ∧ (∀ x ∈ L, LdG x ∧ x.g.length ≤ 3) ∧ L.length ≤ j ∧ wr.ownsRow w1.heap.size 89 3 v L.length (recs ldC L) ∧ LdI wr w1.heap.size L ∧ Strm wr p xs k' ∧ k' ≤ k + 12 * j ∧ w1.grownBy wr (some p)) (fun _ s _ => 2 - (intOf s).toNat)
  case atStart => exact ⟨0, k, [], by omega, rfl, by simp, by simp, World.ownsRow_nil _ _ _ _, LdI.nil _ _, HS1.out, by omega, grown_refl _ _⟩
  case round =>
    obtain ⟨j, k', L, hj, rfl, hok, hln, hown, hLI, hst, hk', hgr⟩ := hrel
    have HOK := Lib.hid hok
    have HO := Lib.hid hown
    have HLI := Lib.hid hLI
    have HST := Lib.hid hst
    have HGR := Lib.hid hgr
    have hrs := hgr.size
    have hplt2 := hst.lt
    by_cases hlt : j < 2
    · have hltI : (j : Int) < 2 := by omega
      obtain ⟨n0, n1⟩ := HGN.out wr hgr
      have hgnr : gn < wr.heap.size := by omega
      have nj : wr.cell? ⟨gn, j, none⟩ = some (.string (ruT j)) := by
        have : j = 0 ∨ j = 1 := by omega
        rcases this with rfl | rfl
        · exact n0
        · exact n1
      obtain ⟨ln, eln⟩ : ∃ n, n = L.length := ⟨_, rfl⟩
      rw [← eln] at HO hln
      have HLN := Lib.hid eln.symm
      clear hok hown hst hgr n0 n1 eln hLI
      go_wp2_with (fail)
      refine (flipD_any wr p k' xs 3 (by omega) (by omega) (by omega) HST.out).mono ?_
      obtain ⟨b1, eb1⟩ : ∃ b : Bool, b = decide (nextV xs k' 3 = 0) := ⟨_, rfl⟩
      rw [← eb1]
      clear eb1
      rintro e w2 ⟨rfl, hst2, hg2⟩
      have hs2 := hg2.size
      have HO2 := Lib.hid (own_kept HO.out hg2 (by omega))
      have HLI2 := Lib.hid (HLI.out.kept hg2 (by omega))
      have HST2 := Lib.hid hst2
      have HG2 := Lib.hid (grown_trans HGR.out hg2)
      clear hst2 hg2
      cases b1 with
      | true =>
        go_wp2_with (fail)
        go_roundw
        case rel => exact ⟨j + 1, k' + 1, L, by omega, by go_num, HOK.out, by have := HLN.out; omega, by rw [HLN.out]; exact HO2.out, HLI2.out, HST2.out, by omega, HG2.out⟩
        case measure => simp [intOf]; omega
      | false =>
      go_wp2_with (fail)
      refine (pick_any _ p (k' + 1) w2.heap.size 3 3 xs lePk (by omega) rfl (by omega) (by omega) (HST2.out.alloc _) (by omega) (Cells.new _ _ _ _ _ rfl)).mono ?_
      have hev := lePk_range (nextN xs (k' + 1) 3) (nextN_lt _ _ _ (by omega))
      obtain ⟨ev, eev⟩ : ∃ r, r = lePk.getD (nextN xs (k' + 1) 3) 0 := ⟨_, rfl⟩
      rw [← eev] at hev ⊢
      clear eev nj
      rintro e w3 ⟨rfl, hst3, hg3⟩
      have hg3' := grown_of_alloc hg3
      have hs3 := hg3'.size
      have HO3 := Lib.hid (own_kept HO2.out hg3' (by omega))
      have HLI3 := Lib.hid (HLI2.out.kept hg3' (by omega))
      have HST3 := Lib.hid hst3
      have HG3 := Lib.hid (grown_trans HG2.out hg3')
      clear hst3 hg3 hg3'
      go_upto_region 7 with (fail)
      obtain ⟨gx, egx⟩ : ∃ g, g = w3.heap.size := ⟨_, rfl⟩
      obtain ⟨w4, e4⟩ : ∃ V, V = w3.alloc (.cells #[.string (ruT j), .slice none 0 0, .int .i64 ev] 89) := ⟨_, rfl⟩
      have hx4 : w4.heap[gx]? = some (.cells #[.string (ruT j), .slice none 0 0, .int .i64 ev] 89 (0, 0)) := by rw [e4, egx]; exact heap_new w3 _
      have hg34 : w3.grownBy w4 (some p) := by rw [e4]; exact World.grownBy_alloc _ _ (some p)
      have hs4 : gx + 1 ≤ w4.heap.size := by rw [e4, egx]; simp
      have HO4 := Lib.hid (own_kept HO3.out hg34 (by omega))
      have HLI4 := Lib.hid (HLI3.out.kept hg34 (by omega))
      have HST4 := Lib.hid (show Strm w4 p xs (k' + 1 + 1) from by rw [e4]; exact HST3.out.alloc _)
      have HG4 := Lib.hid (grown_trans HG3.out hg34)
      have HLT4 := Lib.hid (And.intro (fun b (hb : u3.ownBlock = some b) => show b < gx from by have := (HO3.out.lt b hb).2; omega) (fun y (hy : y ∈ L) b (hb : (ldV y).ownBlock = some b) => show b < gx from by have := ((HLI3.out.row y hy).lt b hb).2; omega))
      rw [← egx, ← e4]
      have HX4 := Lib.hid hx4
      have hgx1 : w1.heap.size ≤ gx := by omega
      clear egx e4 hx4 hg34
      have hgx4 : gx < w4.heap.size := by omega
      have hp4 : p < w4.heap.size := by omega
      go_wp2_with (fail)
      refine (pick_any _ p (k' + 1 + 1) w4.heap.size 2 2 xs lfPk (by omega) rfl (by omega) (by omega) (HST4.out.alloc _) (by omega) (Cells.new _ _ _ _ _ rfl)).mono ?_
      have haf := lfPk_range (nextN xs (k' + 1 + 1) 2) (nextN_lt _ _ _ (by omega))
      obtain ⟨af, eaf⟩ : ∃ r, r = lfPk.getD (nextN xs (k' + 1 + 1) 2) 0 := ⟨_, rfl⟩
      rw [← eaf] at haf ⊢
      clear eaf
      rintro e w5 ⟨rfl, hst5, hg5⟩
      have hg5' := grown_of_alloc hg5
      have hs5 := hg5'.size
      have HO5 := Lib.hid (own_kept HO4.out hg5' (by omega))
      have HLI5 := Lib.hid (HLI4.out.kept hg5' (by omega))
      have HST5 := Lib.hid hst5
      have HG5 := Lib.hid (grown_trans HG4.out hg5')
      have HX5 := Lib.hid ((hg5'.block gx hgx4 (by intro e; injection e with e; omega)).trans HX4.out)
      clear hst5 hg5 hg5'
      go_wp2_with (fail)
      refine (range_any w5 p (k' + 1 + 1 + 1) xs 1 3 (by omega) (by omega) (by omega) (by omega) (by omega) HST5.out).mono ?_
      have hNr := nextV_range xs (k' + 1 + 1 + 1) 3 (by omega)
      obtain ⟨N, eN⟩ : ∃ N : Nat, (N : Int) = 1 + nextV xs (k' + 1 + 1 + 1) 3 := ⟨(1 + nextV xs (k' + 1 + 1 + 1) 3).toNat, by omega⟩
      have hN : 1 ≤ N ∧ N ≤ 3 := by omega
      have eN' : 1 + nextV xs (k' + 1 + 1 + 1) (3 - 1 + 1) = (N : Int) := eN.symm
      rw [eN']
      clear eN eN' hNr
      rintro e w6 ⟨rfl, hst6, hg6⟩
      have hs6 := hg6.size
      have HO6 := Lib.hid (own_kept HO5.out hg6 (by omega))
      have HLI6 := Lib.hid (HLI5.out.kept hg6 (by omega))
      have HST6 := Lib.hid hst6
      have HG6 := Lib.hid (grown_trans HG5.out hg6)
      have HX6 := Lib.hid ((hg6.block gx (by omega) (by intro e; injection e with e; omega)).trans HX5.out)
      obtain ⟨kx, ekx⟩ : ∃ kx, kx = k' + 1 + 1 + 1 + 1 := ⟨_, rfl⟩
      rw [← ekx] at HST6
      have hkx : kx ≤ k + 12 * j + 4 := by omega
      obtain ⟨S0, eS0⟩ : ∃ S, S = w6.heap.size := ⟨_, rfl⟩
      have hxS : gx < S0 := by omega
      have hpx : p < gx := by omega
      have hpS : p < S0 := by omega
      clear hst6 hg6 HO2 HO3 HO4 HO5 HLI2 HLI3 HLI4 HLI5 HX4 HX5 ekx
      go_wp2_with (fail)
      go_loopw [7, 27] (fun a s wx => ∃ (q : Nat) (af : Int) (v : Value) (g : List (Int × Nat)), q ≤ N ∧ s = .int .i64 (q : Int) ∧ a = .int .i64 af ∧ (0 ≤ af ∧ af ≤ 5 + 30 * (q : Int)) ∧ (∀ y ∈ g, 0 ≤ y.1 ∧ y.1 ≤ 1000) ∧ g.length = q ∧ KRm w6 p (kx + 2 * q) gx S0 xs j ev v v q g wx) (fun _ s _ => N - (intOf s).toNat)
      case atStart => exact ⟨0, af, .slice none 0 0, [], Nat.zero_le _, rfl, rfl, by omega, by simp, rfl, ⟨HX6.out, World.ownsRow_nil _ _ _ _, HST6.out, GrF.refl _ _⟩⟩
      case round =>
        obtain ⟨q, af, v, g, hq, rfl, rfl, hafr, hgok, hgl, hK⟩ := hrel
        have HGO := Lib.hid (And.intro hgok hgl)
        have HKR := Lib.hid hK
        have hks := hK.gr.size
        clear hgok hgl
        by_cases hql : q < N
        · have hqlI : (q : Int) < N := by omega
          obtain ⟨XA, xc, rfl⟩ := own_slice hK.row
          obtain ⟨k2, ek2⟩ : ∃ k2, k2 = kx + 2 * q := ⟨_, rfl⟩
          rw [← ek2] at HKR
          have hk2 : k2 < 100100 := by omega
          have hk2n : k2 = kx + 2 * q := ek2
          have hgxW := hK.lt
          have hpW : p < wr.heap.size := by omega
          have HVW := Lib.hid (fun b (hb : (Value.slice XA q xc).ownBlock = some b) => (hK.row.lt b hb).2)
          have hSW : S0 ≤ wr.heap.size := by omega
          clear hK ek2
          obtain ⟨tt, ett⟩ : ∃ v : Nat, v = [1, 0].getD (nextN xs k2 2) 0 := ⟨_, rfl⟩
          have HV := Lib.hid (show ([1, 0].map tmT).getD (nextN xs k2 2) ⟨#[]⟩ = tmT tt from by rw [ett]; exact tm2_pick _ (nextN_lt xs k2 2 (by omega)))
          clear ett
          go_upto_region 10 with (fail)
          go_cut [] (fun wx => ∃ u, KRm wr p (k2 + 1) gx S0 xs j ev u u (q + 1) (g ++ [(af, tt)]) wx)
          case first =>
            have HK0 := Lib.hid (show KRm wr p k2 gx S0 xs j ev (.slice XA q xc) (.slice XA q xc) q g wr.drew from ⟨HKR.out.blk, HKR.out.row, HKR.out.strm, ⟨rfl, rfl, rfl, Nat.le_refl _, fun _ _ _ => rfl⟩⟩)
            refine qRegionSa (K10 wr p k2 gx S0 xs j ev (.slice XA q xc) q g (af, tt)) 8 1 37 _
              [.pointer (some ⟨gx, 1, none⟩), .slice XA q xc, .int .i64 af, .pointer (some ⟨p, 0, none⟩), undef, .string (tmT tt), .agg #[.int .i64 af, .string (tmT tt)], undef, undef, .pointer (some ⟨gx, 1, none⟩), .tuple #[]]
              [none, none, none, none, some (.cells #[.string ⟨#[111, 112, 115]⟩, .string ⟨#[98, 111, 115, 115]⟩] 9, fun b => .slice (some ⟨b, 0, none⟩) 2 2), none, none, some (.cells #[.int .i64 af, .string (tmT tt)] 91, fun b => .slice (some ⟨b, 0, none⟩) 1 1), none, none, none]
              [0, 0, 0, 0, 0, 1, 0, 0, 2, 0, 3]
              [3, 1, 3, 3, 3, 3, 3, 3, 3, 3, 3] 3 (by kernel_rfl) (by kernel_rfl) rfl rfl (by rfl) rfl rfl rfl rfl HK0.out (fun u s w o h => K10_alloc h o) ?_ ?_ ?_
            · intro u; simp only [putL, Act.put, List.setIfInBounds_toArray, List.set_cons_zero, List.set_cons_succ]
              refine ⟨?_, ?_, ?_, ?_, ?_, ?_, ?_, ?_, ?_, ?_, ?_, trivial⟩
              · exact fun _ => OneSt.pure (fun G V => by simp only [putH, Act.put, List.setIfInBounds_toArray, List.set_cons_zero, List.set_cons_succ]; go_simp)
              · exact fun _ => OneSt.load (fun G s V hK hs => by obtain ⟨kq, hq⟩ := K10_low hK hs; have c0 := hq.cell1; have hgl := hq.lt; simp only [putH, Act.put, List.setIfInBounds_toArray, List.set_cons_zero, List.set_cons_succ]; go_simp)
              · exact fun _ => OneSt.pure (fun G V => by simp only [putH, Act.put, List.setIfInBounds_toArray, List.set_cons_zero, List.set_cons_succ]; go_simp)
              · exact fun _ => OneSt.pure (fun G V => by simp only [putH, Act.put, List.setIfInBounds_toArray, List.set_cons_zero, List.set_cons_succ]; go_simp)
              · exact fun _ => OneSt.lay (fun G V => by simp only [putH, Act.put, List.setIfInBounds_toArray, List.set_cons_zero, List.set_cons_succ]; go_simp)
              · exact fun _ => OneSt.call (fun G V hK hL => ⟨_, _, by simp only [putH, Act.put, List.setIfInBounds_toArray, List.set_cons_zero, List.set_cons_succ]; go_simp <;> exact ⟨rfl, rfl⟩, by obtain ⟨hg1, hg2⟩ := hL 4 _ _ rfl (by kernel_rfl); exact (some_any V p k2 (G 4) 2 2 xs ([1, 0].map tmT) (by omega) rfl (by omega) (by omega) (KRm.strm hK) (by omega) (cells_blk hg2 rfl)).mono (fun e w' h => ⟨by rw [h.1, HV.out], KRm.call hK h.2.2 hpx hpS hpW h.2.1⟩)⟩)
              · exact fun _ => OneSt.pure (fun G V => by simp only [putH, Act.put, List.setIfInBounds_toArray, List.set_cons_zero, List.set_cons_succ]; go_simp)
              · exact fun _ => OneSt.lay (fun G V => by simp only [putH, Act.put, List.setIfInBounds_toArray, List.set_cons_zero, List.set_cons_succ]; go_simp)
              · exact fun h => absurd rfl h
              · exact fun _ => OneSt.pure (fun G V => by simp only [putH, Act.put, List.setIfInBounds_toArray, List.set_cons_zero, List.set_cons_succ]; go_simp)
              · exact fun _ => OneSt.store (fun G V hK hL => by obtain ⟨UA, uc, rfl⟩ := own_slice (KRm.row hK); have c0 := KRm.cell1 hK; have f0 := KRm.fro hK; have hgl := KRm.lt hK; have hs := KRm.store hK hpx hxS hgxW; refine ⟨_, ?_, rfl, hs.1, hs.2⟩; simp only [putH, Act.put, List.setIfInBounds_toArray, List.set_cons_zero, List.set_cons_succ]; go_simp)
            · intro u G V hK hL
              obtain ⟨hg1, hg2⟩ := hL 7 _ _ rfl (by kernel_rfl)
              refine app_st (.tmp 30) (.tmp 36) 87 rfl S0 91 i1 _ 2 24 Tryz.underlying87 hi1 hy0 hy1 hy2 rfl (by decide) (.slice XA q xc) q (recs rgC g) ?_ (KRm.row hK) ⟨G 7, 0, none⟩ 1 1 (rgC (af, tt)) ?_ rfl (cells_add (cells_blk hg2 rfl)) (rgC_one _) (by unfold maxLen; omega) (by omega) (by have := (KRm.gr hK).size; omega) ?_
              · simp only [putL, putH, Act.put, List.setIfInBounds_toArray, List.set_cons_zero, List.set_cons_succ]; rfl
              · simp only [putL, putH, Act.put, List.setIfInBounds_toArray, List.set_cons_zero, List.set_cons_succ]; rfl
              · intro v' w2 ho hg hm
                rw [← recs_snoc] at ho
                exact KRm.app hK ho hg hpx hxS HVW.out
            · intro u G W7 hK hsz hG
              clear hG
              have HK := Lib.hid hK
              clear hK
              simp only [putL, putH, Act.put, List.setIfInBounds_toArray, List.set_cons_zero, List.set_cons_succ]
              go_wp2_with (fail)
              go_meet
              exact ⟨u, HK.out⟩
          case rest =>
          obtain ⟨u, hKu⟩ := hcut
          obtain ⟨w7, ew7⟩ : ∃ w7 : World, w7 = wc := ⟨_, rfl⟩
          rw [← ew7] at hKu ⊢
          clear ew7
          have hs7 := hKu.gr.size
          have HK7 := Lib.hid (show KRm w6 p (k2 + 1) gx S0 xs j ev u u (q + 1) (g ++ [(af, tt)]) w7 from ⟨hKu.blk, hKu.row, hKu.strm, HKR.out.gr.trans hKu.gr⟩)
          clear hKu
          go_wp2_with (fail)
          refine (pick_any _ p (k2 + 1) w7.heap.size 3 3 xs lgPk (by omega) rfl (by omega) (by omega) (HK7.out.strm.alloc _) (by omega) (Cells.new _ _ _ _ _ rfl)).mono ?_
          have hda := lgPk_range (nextN xs (k2 + 1) 3) (nextN_lt _ _ _ (by omega))
          obtain ⟨da, eda⟩ : ∃ r, r = lgPk.getD (nextN xs (k2 + 1) 3) 0 := ⟨_, rfl⟩
          rw [← eda] at hda ⊢
          clear eda
          rintro e w8 ⟨rfl, hst8, hg8⟩
          have HK8 := Lib.hid (HK7.out.call (grown_of_alloc hg8) hpx hpS (by omega) hst8).1
          have hwa : IntKind.i64.wrap (af + da) = af + da := by rw [IntKind.wrap_i64]; omega
          have HG8 := Lib.hid (show (∀ y ∈ g ++ [(af, tt)], 0 ≤ y.1 ∧ y.1 ≤ 1000) ∧ (g ++ [(af, tt)]).length = q + 1 from ⟨fun y hy => by
            rw [List.mem_append, List.mem_singleton] at hy
            rcases hy with hy | rfl
            · exact HGO.out.1 y hy
            · exact ⟨hafr.1, by show af ≤ 1000; omega⟩, by rw [List.length_append, HGO.out.2]; rfl⟩)
          clear hst8 hg8
          go_wp2_with (fail)
          go_roundw
          case rel => exact ⟨q + 1, af + da, u, g ++ [(af, tt)], by omega, by go_num, rfl, by omega, HG8.out.1, HG8.out.2, by rw [show kx + 2 * (q + 1) = k2 + 1 + 1 by omega]; exact HK8.out⟩
          case measure => simp [intOf]; omega
        · have hqlI : ¬ (q : Int) < N := by omega
          obtain rfl : q = N := by omega
          obtain ⟨XA, xc, rfl⟩ := own_slice hK.row
          have hgxr := hK.lt
          have b0 : wr.cell? ⟨gx, 0, none⟩ = some (.string (ruT j)) := cell_of_blk (j := 0) hK.blk rfl
          have b1 : wr.cell? ⟨gx, 1, none⟩ = some (.slice XA q xc) := cell_of_blk (j := 1) hK.blk rfl
          have b2 : wr.cell? ⟨gx, 2, none⟩ = some (.int .i64 ev) := cell_of_blk (j := 2) hK.blk rfl
          obtain ⟨z, ez⟩ : ∃ z : Ld, z = ⟨j, XA, xc, g, ev⟩ := ⟨_, rfl⟩
          have HZ := Lib.hid (show ldV z = .slice XA q xc ∧ ldC z = [.string (ruT j), .slice XA q xc, .int .i64 ev] ∧ z.g = g ∧ LdG z ∧ z.g.length ≤ 3 from by
            rw [ez]
            refine ⟨by unfold ldV; simp only; rw [HGO.out.2], by unfold ldC; simp only; rw [HGO.out.2], rfl, ⟨by show g.length ≤ 4; rw [HGO.out.2]; omega, fun y hy => by have := HGO.out.1 y hy; omega, by show -1 ≤ ev ∧ ev ≤ 1000; omega⟩, by show g.length ≤ 3; rw [HGO.out.2]; omega⟩)
          clear ez
          have hGB : ∀ b, b < gx → w1.heap.size ≤ b → wr.heap[b]? = w6.heap[b]? := fun b hb hb1 => hK.gr.block b (by omega) (by rintro (h | h | h) <;> omega)
          have HOR := Lib.hid (own_keptB HO6.out (fun b hb => hGB b (HLT4.out.1 b hb) (HO6.out.lt b hb).1))
          have HLIR := Lib.hid (HLI6.out.keep (fun x hx b hb => hGB b (HLT4.out.2 x hx b hb) ((HLI6.out.row x hx).lt b hb).1))
          have HGRR := Lib.hid (show w1.grownBy wr (some p) from ⟨hK.gr.os.trans HG6.out.os, hK.gr.tape.trans HG6.out.tape, hK.gr.output.trans HG6.out.output, by have := HG6.out.size; omega, fun b hb hne => (hK.gr.block b (by have := HG6.out.size; omega) (fun h => by rcases h with h | h | h; (exact hne (by rw [h])); omega; omega)).trans (HG6.out.block b hb hne)⟩)
          have HSTR := Lib.hid hK.strm
          have HROW := Lib.hid (show wr.ownsRow S0 91 2 (ldV z) z.g.length (recs rgC z.g) from by rw [HZ.out.1, HZ.out.2.2.1, HGO.out.2]; exact hK.row)
          clear hK hGB
          go_wp2_with (at_builtin; refine wpList_append_own2 _ rfl _ _ 29 rfl w1.heap.size 89 i0 _ 3 48 Tryz.underlying29 hi0 hz0 hz1 hz2 rfl (by decide) _ _ _ rfl (HOR.out.alloc _) ⟨_, 0, none⟩ 1 1 [.string (ruT j), .slice XA q xc, .int .i64 ev] rfl rfl ?c1 ?c2 ?c3 ?c4 ?c5 ?_)
          case c2 => exact ⟨rfl, rfl, rfl⟩
          case c3 => unfold maxLen; omega
          case c4 => omega
          case c5 => first | omega | (simp; omega)
          intro v9 w9 ho9 hg9 hm9
          have hlo : ∀ q, u3.ownBlock = some q → w1.heap.size ≤ q := fun q hq => (HOR.out.lt q hq).1
          have hlo2 : ∀ q, u3.ownBlock = some q → p < q := fun q hq => by have := hlo q hq; omega
          have HST9 := Lib.hid ((HSTR.out.alloc _).row hg9 hlo2)
          have HG9 := Lib.hid (grown_more (grown_trans HGRR.out (World.grownBy_alloc _ _ (some p))) hg9 hlo)
          have HO9 := Lib.hid ho9
          have hg9' := grown_of_alloc hg9
          have HLIz := Lib.hid (HLIR.out.snoc (x := z) (fun y hy b hb => by have := HLT4.out.2 y hy b hb; omega) HROW.out (by omega))
          have HLI9 := Lib.hid (HLIz.out.keep (w' := w9) (fun x hx b hb => hg9'.block b ((HLIz.out.row x hx).lt b hb).2 (fun e => by
            rcases HOR.out.2 with ⟨hv, _⟩ | ⟨g', cap', cur, hv, hb', hh, _⟩
            · rw [hv] at e; cases e
            · rw [hv] at e
              have e2 : b = g' := Option.some.inj e
              subst e2
              exact own_ne (HLIz.out.row x hx) hh (by decide) hb.symm)))
          have HOK9 := Lib.hid (show (∀ y ∈ L ++ [z], LdG y ∧ y.g.length ≤ 3) ∧ (L ++ [z]).length = ln + 1 from ⟨fun y hy => by
            rw [List.mem_append, List.mem_singleton] at hy
            rcases hy with hy | rfl
            · exact HOK.out y hy
            · exact HZ.out.2.2.2, by rw [List.length_append, HLN.out]; rfl⟩)
          clear ho9 hg9 hm9 hlo hlo2 hg9' b0 b1 b2
          go_wp2_with (fail)
          go_roundw
          case rel => exact ⟨j + 1, _, L ++ [z], by omega, by go_num, HOK9.out.1, by have := HOK9.out.2; omega, by rw [HOK9.out.2, recs_snoc, HZ.out.2.1]; exact HO9.out, HLI9.out, HST9.out, by omega, HG9.out⟩
          case measure => simp [intOf]; omega
    · have hltI : ¬ (j : Int) < 2 := by omega
      obtain rfl : j = 2 := by omega
      obtain ⟨n, en⟩ : ∃ n, n = L.length := ⟨_, rfl⟩
      rw [← en] at hown hln HO
      obtain ⟨A, c, rfl⟩ := own_slice hown
      have HLN := Lib.hid en.symm
      clear hok hown hst hgr en hLI
      by_cases hn0 : n = 0
      case pos =>
        subst hn0
        have HF := Lib.hid (show LdPost w p k xs (.returned (.slice A 0 c)) wr from ⟨L, A, c, k', 0, rfl, fun x hx => (HOK.out x hx).1, HLN.out, by omega, own_mono HO.out (by omega), HLI.out.mono (by omega), HST.out, by omega, grown_trans HG01.out HGR.out⟩)
        go_wp2_with (fail)
        go_ret
        exact HF.out
      have hn0I : (0 : Int) < (n : Int) := by omega
      go_wp2_with (fail)
      refine (flipD_any wr p k' xs 12 (by omega) (by omega) (by omega) HST.out).mono ?_
      obtain ⟨b2, eb2⟩ : ∃ b : Bool, b = decide (nextV xs k' 12 = 0) := ⟨_, rfl⟩
      rw [← eb2]
      clear eb2
      rintro e w5 ⟨rfl, hst5, hg5⟩
      have hs5 := hg5.size
      have HO5 := Lib.hid (own_kept HO.out hg5 (by omega))
      have HLI5 := Lib.hid (HLI.out.kept hg5 (by omega))
      have HST5 := Lib.hid hst5
      have HG5 := Lib.hid (grown_trans HGR.out hg5)
      clear hst5 hg5
      cases b2 with
      | false =>
        have HF := Lib.hid (show LdPost w p k xs (.returned (.slice A n c)) w5 from ⟨L, A, c, k' + 1, n, rfl, fun x hx => (HOK.out x hx).1, HLN.out, by omega, own_mono HO5.out (by omega), HLI5.out.mono (by omega), HST5.out, by omega, grown_trans HG01.out HG5.out⟩)
        go_wp2_with (fail)
        go_ret
        exact HF.out
      | true =>
        go_wp2_with (fail)
        refine (next_any w5 p (k' + 1) xs (n : Int) (by omega) (by omega) HST5.out).mono ?_
        have hxl := nextN_lt xs (k' + 1) n (by omega)
        rw [nextN_eq xs (k' + 1) n (by omega)]
        obtain ⟨i, ei⟩ : ∃ i, i = nextN xs (k' + 1) n := ⟨_, rfl⟩
        rw [← ei] at hxl ⊢
        clear ei
        rintro e w6 ⟨rfl, hst6, hg6⟩
        have hs6 := hg6.size
        have HO6 := Lib.hid (own_kept HO5.out hg6 (by omega))
        have HLI6 := Lib.hid (HLI5.out.kept hg6 (by omega))
        have HST6 := Lib.hid hst6
        have HG6 := Lib.hid (grown_trans HG5.out hg6)
        clear hst6 hg6
        obtain ⟨g, rfl, hwg, hg6lt⟩ : ∃ g, A = some ⟨g, 0, none⟩ ∧ w1.heap.size ≤ g ∧ g < w6.heap.size := by
          rcases own_two HO6.out with ⟨_, h0, _⟩ | ⟨g, hA', hb', hlt'⟩
          · omega
          · exact ⟨g, hA', hb', hlt'⟩
        have hiI : (i : Int) < (n : Int) := by omega
        go_upto_region 17 with (fail)
        obtain ⟨x, hx⟩ : ∃ x, L[i]? = some x := ⟨_, List.getElem?_eq_getElem (by have := HLN.out; omega)⟩
        have HXI := Lib.hid (HOK.out x (List.mem_of_getElem? hx))
        obtain ⟨kk, ekk⟩ : ∃ kk, kk = k' + 1 + 1 := ⟨_, rfl⟩
        rw [← ekk] at HST6
        have hkk : kk < 100200 ∧ kk ≤ k + 30 := by omega
        obtain ⟨vr, evr⟩ : ∃ v : Nat, v = [x.r, 2, 0].getD (nextN xs kk 3) 0 := ⟨_, rfl⟩
        obtain ⟨ve, eve⟩ : ∃ v : Int, v = [x.ev, 999, 1, -1].getD (nextN xs (kk + 1) 4) 0 := ⟨_, rfl⟩
        have HV := Lib.hid (And.intro evr.symm eve.symm)
        have hver : -1 ≤ ve ∧ ve ≤ 1000 := by rw [eve]; exact ev4_range x.ev _ (nextN_lt xs (kk + 1) 4 (by omega)) HXI.out.1.ev
        clear evr eve ekk
        have hiL : i < L.length := by have := HLN.out; omega
        have hgp : ¬ g = p := by omega
        have hpgl : p < g := by omega
        have HXL := Lib.hid hx
        have HK0 := Lib.hid (show KG ldC 3 89 w6 p kk w1.heap.size g c n i xs L (ldX x vr ve) ldO 0 w6.drew from KG.first x HO6.out hx rfl HST6.out rfl)
        clear hx
        go_cut [] (fun wx => KG ldC 3 89 w6 p kk w1.heap.size g c n i xs L (ldX x vr ve) ldO 4 wx)
        case first =>
          refine qRegionSt (KG ldC 3 89 w6 p kk w1.heap.size g c n i xs L (ldX x vr ve) ldO)
            [.pointer (some ⟨g, i * 3, none⟩), .pointer (some ⟨g, i * 3, none⟩), .pointer (some ⟨p, 0, none⟩), .pointer (some ⟨g, i * 3, none⟩), .pointer (some ⟨g, i * 3, none⟩), .pointer (some ⟨g, i * 3, none⟩), .string (ruT x.r), undef, .string (ruT vr), .pointer (some ⟨p, 0, none⟩), .pointer (some ⟨g, i * 3, none⟩), .pointer (some ⟨g, i * 3, none⟩), .pointer (some ⟨g, i * 3 + 2, none⟩), .int .i64 x.ev, undef, .int .i64 ve, .pointer (some ⟨g, i * 3, none⟩), .pointer (some ⟨g, i * 3, none⟩), .tuple #[], .pointer (some ⟨g, i * 3, none⟩), .pointer (some ⟨g, i * 3 + 2, none⟩), .tuple #[]]
            [none, none, none, none, none, none, none, some (.cells #[.string (ruT x.r), .string ⟨#[]⟩, .string ⟨#[114, 97]⟩] 9, fun b => .slice (some ⟨b, 0, none⟩) 3 3), none, none, none, none, none, none, some (.cells #[.int .i64 x.ev, .int .i64 999, .int .i64 1, .int .i64 (-1)] 3, fun b => .slice (some ⟨b, 0, none⟩) 4 4), none, none, none, none, none, none, none]
            [0, 0, 0, 0, 0, 0, 0, 0, 1, 0, 0, 0, 0, 0, 0, 2, 0, 0, 3, 0, 0, 4]
            [4, 4, 4, 4, 4, 4, 2, 4, 4, 4, 4, 4, 4, 2, 4, 4, 4, 4, 4, 4, 4, 4] 4 (by kernel_rfl) (by kernel_rfl) rfl rfl (by rfl) HK0.out (fun s w o h => h.alloc o) ?_ ?_
          · simp only [putL, Act.put, List.setIfInBounds_toArray, List.set_cons_zero, List.set_cons_succ]
            refine ⟨?_, ?_, ?_, ?_, ?_, ?_, ?_, ?_, ?_, ?_, ?_, ?_, ?_, ?_, ?_, ?_, ?_, ?_, ?_, ?_, ?_, ?_, trivial⟩
            · exact OneSt.pure (fun G V => by simp only [putH, Act.put, List.setIfInBounds_toArray, List.set_cons_zero, List.set_cons_succ]; go_simp)
            · exact OneSt.pure (fun G V => by simp only [putH, Act.put, List.setIfInBounds_toArray, List.set_cons_zero, List.set_cons_succ]; go_simp)
            · exact OneSt.pure (fun G V => by simp only [putH, Act.put, List.setIfInBounds_toArray, List.set_cons_zero, List.set_cons_succ]; go_simp)
            · exact OneSt.pure (fun G V => by simp only [putH, Act.put, List.setIfInBounds_toArray, List.set_cons_zero, List.set_cons_succ]; go_simp)
            · exact OneSt.pure (fun G V => by simp only [putH, Act.put, List.setIfInBounds_toArray, List.set_cons_zero, List.set_cons_succ]; go_simp)
            · exact OneSt.pure (fun G V => by simp only [putH, Act.put, List.setIfInBounds_toArray, List.set_cons_zero, List.set_cons_succ]; go_simp)
            · exact OneSt.load (fun G s V hK hs => by have c0 := hK.cells ldC_len hiL 0 (.string (ruT x.r)) (by rw [ldX_low x vr ve s hs]; rfl); have hgl := hK.lt; simp only [Nat.add_zero] at c0; simp only [putH, Act.put, List.setIfInBounds_toArray, List.set_cons_zero, List.set_cons_succ]; go_simp)
            · exact OneSt.lay (fun G V => by simp only [putH, Act.put, List.setIfInBounds_toArray, List.set_cons_zero, List.set_cons_succ]; go_simp)
            · exact OneSt.call (fun G V hK hL => ⟨_, _, by simp only [putH, Act.put, List.setIfInBounds_toArray, List.set_cons_zero, List.set_cons_succ]; go_simp <;> exact ⟨rfl, rfl⟩, by obtain ⟨hg1, hg2⟩ := hL 7 _ _ rfl (by kernel_rfl); exact (some_any V p kk (G 7) 3 3 xs ([x.r, 2, 0].map ruT) (by omega) rfl (by omega) (by omega) hK.strm (by omega) (cells_blk hg2 rfl)).mono (fun e w' h => ⟨by rw [h.1, ru_pick x.r _ (nextN_lt xs kk 3 (by omega)), HV.out.1], hK.call h.2.2 (by omega) (by omega) h.2.1 rfl⟩)⟩)
            · exact OneSt.pure (fun G V => by simp only [putH, Act.put, List.setIfInBounds_toArray, List.set_cons_zero, List.set_cons_succ]; go_simp)
            · exact OneSt.pure (fun G V => by simp only [putH, Act.put, List.setIfInBounds_toArray, List.set_cons_zero, List.set_cons_succ]; go_simp)
            · exact OneSt.pure (fun G V => by simp only [putH, Act.put, List.setIfInBounds_toArray, List.set_cons_zero, List.set_cons_succ]; go_simp)
            · exact OneSt.pure (fun G V => by simp only [putH, Act.put, List.setIfInBounds_toArray, List.set_cons_zero, List.set_cons_succ]; go_simp)
            · exact OneSt.load (fun G s V hK hs => by have c0 := hK.cells ldC_len hiL 2 (.int .i64 x.ev) (by rw [ldX_low x vr ve s hs]; rfl); have hgl := hK.lt; skip; simp only [putH, Act.put, List.setIfInBounds_toArray, List.set_cons_zero, List.set_cons_succ]; go_simp)
            · exact OneSt.lay (fun G V => by simp only [putH, Act.put, List.setIfInBounds_toArray, List.set_cons_zero, List.set_cons_succ]; go_simp)
            · exact OneSt.call (fun G V hK hL => ⟨_, _, by simp only [putH, Act.put, List.setIfInBounds_toArray, List.set_cons_zero, List.set_cons_succ]; go_simp <;> exact ⟨rfl, rfl⟩, by obtain ⟨hg1, hg2⟩ := hL 14 _ _ rfl (by kernel_rfl); exact (pick_any V p (kk + 1) (G 14) 4 4 xs [x.ev, 999, 1, -1] (by omega) rfl (by omega) (by omega) hK.strm (by omega) (cells_blk hg2 rfl)).mono (fun e w' h => ⟨by rw [h.1, HV.out.2], hK.call h.2.2 (by omega) (by omega) h.2.1 rfl⟩)⟩)
            · exact OneSt.pure (fun G V => by simp only [putH, Act.put, List.setIfInBounds_toArray, List.set_cons_zero, List.set_cons_succ]; go_simp)
            · exact OneSt.pure (fun G V => by simp only [putH, Act.put, List.setIfInBounds_toArray, List.set_cons_zero, List.set_cons_succ]; go_simp)
            · exact OneSt.store (fun G V hK hL => by have c0 := hK.cells ldC_len hiL 0 _ rfl; have f0 := hK.fro (i * 3 + 0); have hgl := hK.lt; have hs := hK.store ldC_len hiL (by omega) hpgl 0 (by omega) (.string (ruT vr)) rfl rfl; simp only [Nat.add_zero] at c0 f0 hs; refine ⟨_, ?_, rfl, hs.1, hs.2⟩; simp only [putH, Act.put, List.setIfInBounds_toArray, List.set_cons_zero, List.set_cons_succ]; go_simp)
            · exact OneSt.pure (fun G V => by simp only [putH, Act.put, List.setIfInBounds_toArray, List.set_cons_zero, List.set_cons_succ]; go_simp)
            · exact OneSt.pure (fun G V => by simp only [putH, Act.put, List.setIfInBounds_toArray, List.set_cons_zero, List.set_cons_succ]; go_simp)
            · exact OneSt.store (fun G V hK hL => by have c0 := hK.cells ldC_len hiL 2 _ rfl; have f0 := hK.fro (i * 3 + 2); have hgl := hK.lt; have hs := hK.store ldC_len hiL (by omega) hpgl 2 (by omega) (.int .i64 ve) rfl rfl; refine ⟨_, ?_, rfl, hs.1, hs.2⟩; simp only [putH, Act.put, List.setIfInBounds_toArray, List.set_cons_zero, List.set_cons_succ]; go_simp)
          · intro G W7 hK hsz hG
            clear hG
            have HK := Lib.hid hK
            clear hK
            simp only [putL, putH, Act.put, List.setIfInBounds_toArray, List.set_cons_zero, List.set_cons_succ]
            go_wp2_with (fail)
            go_meet
            exact HK.out
        case rest =>
        obtain ⟨w7, ew7⟩ : ∃ w7 : World, w7 = wc := ⟨_, rfl⟩
        rw [← ew7] at hcut ⊢
        clear ew7
        have HK7 := Lib.hid hcut
        have hs7 := hcut.gr.size
        obtain ⟨M, eM⟩ : ∃ M, M = L.set i (ldX x vr ve 4) := ⟨_, rfl⟩
        have HO7 := Lib.hid (show w7.ownsRow w1.heap.size 89 3 (.slice (some ⟨g, 0, none⟩) n c) n (recs ldC M) from by rw [eM]; exact hcut.own)
        have HST7 := Lib.hid (show Strm w7 p xs (kk + 2) from hcut.strm)
        have HLI7 := Lib.hid (show LdI w7 w1.heap.size M from by
          rw [eM]
          refine LdI.set_same (HLI6.out.keep (fun y hy b hb => hcut.gr.block b ((HLI6.out.row y hy).lt b hb).2 (fun e => ?_))) HXL.out rfl rfl
          rcases e with e | e
          · have := ((HLI6.out.row y hy).lt b hb).1; omega
          · obtain ⟨cs, hcs⟩ := own_blk HO6.out
            exact own_ne (HLI6.out.row y hy) hcs (by decide) (by rw [← e]; exact hb.symm))
        have HG7 := Lib.hid (show w1.grownBy w7 (some p) from ⟨hcut.gr.os.trans HG6.out.os, hcut.gr.tape.trans HG6.out.tape, hcut.gr.output.trans HG6.out.output, Nat.le_trans HG6.out.size hcut.gr.size, fun b hb hne => (hcut.gr.block b (Nat.lt_of_lt_of_le hb HG6.out.size) (fun h => h.elim (fun h => hne (by rw [h])) (fun h => by omega))).trans (HG6.out.block b hb hne)⟩)
        have HM := Lib.hid (show (∀ y ∈ M, LdG y ∧ y.g.length ≤ 3) ∧ M.length = n from ⟨fun y hy => by
          rw [eM] at hy
          rcases List.mem_or_eq_of_mem_set hy with hy | rfl
          · exact HOK.out y hy
          · exact ⟨⟨HXI.out.1.n, HXI.out.1.g, hver⟩, HXI.out.2⟩, by rw [eM, List.length_set]; exact HLN.out⟩)
        clear hcut eM HK7 HK0
        have hg7 : g < w7.heap.size := by omega
        go_wp2_with (fail)
        refine (flipD_any w7 p (kk + 2) xs 2 (by omega) (by omega) (by omega) HST7.out).mono ?_
        obtain ⟨b3, eb3⟩ : ∃ b : Bool, b = decide (nextV xs (kk + 2) 2 = 0) := ⟨_, rfl⟩
        rw [← eb3]
        clear eb3
        rintro e w8 ⟨rfl, hst8, hg8⟩
        have hs8 := hg8.size
        have HO8 := Lib.hid (own_kept HO7.out hg8 (by omega))
        have HLI8 := Lib.hid (HLI7.out.kept hg8 (by omega))
        obtain ⟨k8, ek8⟩ : ∃ k8, k8 = kk + 2 + 1 := ⟨_, rfl⟩
        have HST8 := Lib.hid (show Strm w8 p xs k8 from by rw [ek8]; exact hst8)
        have hk8 : k8 < 100300 ∧ k8 ≤ k + 40 := by omega
        have HG8 := Lib.hid (grown_trans HG7.out hg8)
        clear hst8 hg8 ek8
        cases b3 with
        | false =>
          have HF := Lib.hid (show LdPost w p k xs (.returned (.slice (some ⟨g, 0, none⟩) n c)) w8 from ⟨M, some ⟨g, 0, none⟩, c, k8, n, rfl, fun x hx => (HM.out.1 x hx).1, HM.out.2, by omega, own_mono HO8.out (by omega), HLI8.out.mono (by omega), HST8.out, by omega, grown_trans HG01.out HG8.out⟩)
          go_wp2_with (fail)
          go_ret
          exact HF.out
        | true =>
          go_upto_region 19 with (fail)
          clear HXI HXL HV hver hiL
          obtain ⟨x, hx⟩ : ∃ x, M[i]? = some x := ⟨_, List.getElem?_eq_getElem (by have := HM.out.2; omega)⟩
          have HXI := Lib.hid (HM.out.1 x (List.mem_of_getElem? hx))
          have hiL : i < M.length := by have := HM.out.2; omega
          have HXL := Lib.hid hx
          obtain ⟨kk, ekk⟩ : ∃ kk, kk = k8 := ⟨_, rfl⟩
          rw [← ekk] at HST8 hk8
          clear ekk
          obtain ⟨vo, evo⟩ : ∃ v : Int, v = oddM xs kk := ⟨_, rfl⟩
          obtain ⟨vt, evt⟩ : ∃ v : Nat, v = [2, 1].getD (nextN xs (kk + 2) 2) 0 := ⟨_, rfl⟩
          have HV := Lib.hid (show oddM xs kk = vo ∧ ([2, 1].map tmT).getD (nextN xs (kk + 2) 2) ⟨#[]⟩ = tmT vt from ⟨evo.symm, by rw [evt]; exact tm3_pick _ (nextN_lt xs (kk + 2) 2 (by omega))⟩)
          have hvor := oddM_range xs kk
          rw [← evo] at hvor
          clear evo evt
          have HRX := Lib.hid (HLI8.out.row x (List.mem_of_getElem? hx))
          have HVW := Lib.hid (fun b (hb : (ldV x).ownBlock = some b) => (HRX.out.lt b hb).2)
          have HXS := Lib.hid (show M.set i x = M from by
            apply List.ext_getElem?
            intro q
            by_cases hq : i = q
            · subst hq
              rw [List.getElem?_set_self hiL, hx]
            · rw [List.getElem?_set_ne hq])
          have hpB : p < w1.heap.size := by omega
          have hpW : p < w8.heap.size := by omega
          have hgW : g < w8.heap.size := by omega
          have hxn : x.g.length ≤ 3 := HXI.out.2
          clear hx
          have HK0 := Lib.hid (show KXm w8 p kk w1.heap.size g n c i xs M x (ldV x) (ldV x) x.g.length x.g w8.drew from ⟨by rw [HXS.out]; exact HO8.out, HRX.out, Moved.refl _ _, HST8.out, ⟨rfl, rfl, rfl, Nat.le_refl _, fun _ _ _ => rfl⟩⟩)
          refine qRegionSa (K19 w8 p kk w1.heap.size g n c i xs M x (vo, vt)) 12 2 97 _
            [.pointer (some ⟨g, i * 3, none⟩), .pointer (some ⟨g, i * 3, none⟩), .pointer (some ⟨g, i * 3, none⟩), .pointer (some ⟨g, i * 3 + 1, none⟩), .slice x.A x.g.length x.c, .pointer (some ⟨p, 0, none⟩), .int .i64 vo, .pointer (some ⟨p, 0, none⟩), undef, .string (tmT vt), .agg #[.int .i64 vo, .string (tmT vt)], undef, undef, .pointer (some ⟨g, i * 3, none⟩), .pointer (some ⟨g, i * 3 + 1, none⟩), .tuple #[]]
            [none, none, none, none, none, none, none, none, some (.cells #[.string ⟨#[]⟩, .string ⟨#[111, 112, 115]⟩] 9, fun b => .slice (some ⟨b, 0, none⟩) 2 2), none, none, some (.cells #[.int .i64 vo, .string (tmT vt)] 91, fun b => .slice (some ⟨b, 0, none⟩) 1 1), none, none, none, none]
            [0, 0, 0, 0, 0, 0, 1, 0, 0, 2, 0, 0, 3, 0, 0, 4]
            [4, 4, 4, 4, 2, 4, 4, 4, 4, 4, 4, 4, 4, 4, 4, 4] 4 (by kernel_rfl) (by kernel_rfl) rfl rfl (by rfl) rfl rfl rfl rfl HK0.out (fun u s w o h => K19_alloc h o) ?_ ?_ ?_
          · intro u; simp only [putL, Act.put, List.setIfInBounds_toArray, List.set_cons_zero, List.set_cons_succ]
            refine ⟨?_, ?_, ?_, ?_, ?_, ?_, ?_, ?_, ?_, ?_, ?_, ?_, ?_, ?_, ?_, ?_, trivial⟩
            · exact fun _ => OneSt.pure (fun G V => by simp only [putH, Act.put, List.setIfInBounds_toArray, List.set_cons_zero, List.set_cons_succ]; go_simp)
            · exact fun _ => OneSt.pure (fun G V => by simp only [putH, Act.put, List.setIfInBounds_toArray, List.set_cons_zero, List.set_cons_succ]; go_simp)
            · exact fun _ => OneSt.pure (fun G V => by simp only [putH, Act.put, List.setIfInBounds_toArray, List.set_cons_zero, List.set_cons_succ]; go_simp)
            · exact fun _ => OneSt.pure (fun G V => by simp only [putH, Act.put, List.setIfInBounds_toArray, List.set_cons_zero, List.set_cons_succ]; go_simp)
            · exact fun _ => OneSt.load (fun G s V hK hs => by obtain ⟨kq, hq⟩ := K19_low hK hs; have c0 := hq.cell1 hiL; have hgl := hq.lt; simp only [putH, Act.put, List.setIfInBounds_toArray, List.set_cons_zero, List.set_cons_succ]; go_simp)
            · exact fun _ => OneSt.pure (fun G V => by simp only [putH, Act.put, List.setIfInBounds_toArray, List.set_cons_zero, List.set_cons_succ]; go_simp)
            · exact fun _ => OneSt.call (fun G V hK hL => ⟨_, _, by simp only [putH, Act.put, List.setIfInBounds_toArray, List.set_cons_zero, List.set_cons_succ]; go_simp <;> exact ⟨rfl, rfl⟩, by exact (oddM_any V p kk xs (by omega) (KXm.strm hK)).mono (fun e w' h => ⟨by rw [h.1, HV.out.1], KXm.call hK h.2.2 hpB hpW h.2.1⟩)⟩)
            · exact fun _ => OneSt.pure (fun G V => by simp only [putH, Act.put, List.setIfInBounds_toArray, List.set_cons_zero, List.set_cons_succ]; go_simp)
            · exact fun _ => OneSt.lay (fun G V => by simp only [putH, Act.put, List.setIfInBounds_toArray, List.set_cons_zero, List.set_cons_succ]; go_simp)
            · exact fun _ => OneSt.call (fun G V hK hL => ⟨_, _, by simp only [putH, Act.put, List.setIfInBounds_toArray, List.set_cons_zero, List.set_cons_succ]; go_simp <;> exact ⟨rfl, rfl⟩, by obtain ⟨hg1, hg2⟩ := hL 8 _ _ rfl (by kernel_rfl); exact (some_any V p (kk + 2) (G 8) 2 2 xs ([2, 1].map tmT) (by omega) rfl (by omega) (by omega) (KXm.strm hK) (by omega) (cells_blk hg2 rfl)).mono (fun e w' h => ⟨by rw [h.1, HV.out.2], KXm.call hK h.2.2 hpB hpW h.2.1⟩)⟩)
            · exact fun _ => OneSt.pure (fun G V => by simp only [putH, Act.put, List.setIfInBounds_toArray, List.set_cons_zero, List.set_cons_succ]; go_simp)
            · exact fun _ => OneSt.lay (fun G V => by simp only [putH, Act.put, List.setIfInBounds_toArray, List.set_cons_zero, List.set_cons_succ]; go_simp)
            · exact fun h => absurd rfl h
            · exact fun _ => OneSt.pure (fun G V => by simp only [putH, Act.put, List.setIfInBounds_toArray, List.set_cons_zero, List.set_cons_succ]; go_simp)
            · exact fun _ => OneSt.pure (fun G V => by simp only [putH, Act.put, List.setIfInBounds_toArray, List.set_cons_zero, List.set_cons_succ]; go_simp)
            · exact fun _ => OneSt.store (fun G V hK hL => by obtain ⟨UA, uc, rfl⟩ := own_slice (KXm.row hK); have c0 := KXm.cell1 hK hiL; have f0 := KXm.fro hK (i * 3 + 1); have hgl := KXm.lt hK; have hs := KXm.store (y := (vo, vt)) hK hiL hgW hpgl rfl; refine ⟨_, ?_, rfl, hs.1, hs.2⟩; simp only [putH, Act.put, List.setIfInBounds_toArray, List.set_cons_zero, List.set_cons_succ]; go_simp)
          · intro u G V hK hL
            obtain ⟨hg1, hg2⟩ := hL 11 _ _ rfl (by kernel_rfl)
            refine app_st (.tmp 89) (.tmp 96) 87 rfl w1.heap.size 91 i1 _ 2 24 Tryz.underlying87 hi1 hy0 hy1 hy2 rfl (by decide) (ldV x) x.g.length (recs rgC x.g) ?_ (KXm.row hK) ⟨G 11, 0, none⟩ 1 1 (rgC (vo, vt)) ?_ rfl (cells_add (cells_blk hg2 rfl)) (rgC_one _) (by unfold maxLen; omega) (by omega) (by have := (KXm.gr hK).size; omega) ?_
            · simp only [putL, putH, Act.put, List.setIfInBounds_toArray, List.set_cons_zero, List.set_cons_succ]; rfl
            · simp only [putL, putH, Act.put, List.setIfInBounds_toArray, List.set_cons_zero, List.set_cons_succ]; rfl
            · intro v' w2 ho hg hm
              rw [← recs_snoc] at ho
              exact KXm.app hK ho hg hm hpB HVW.out
          · intro u G W7 hK hsz hG
            clear hG
            have HK := Lib.hid (show KXm w8 p (kk + 3) w1.heap.size g n c i xs M (ldU x u (vo, vt)) (ldV x) u (x.g.length + 1) (x.g ++ [(vo, vt)]) W7 from hK)
            clear hK
            simp only [putL, putH, Act.put, List.setIfInBounds_toArray, List.set_cons_zero, List.set_cons_succ]
            have HLF := Lib.hid (HK.out.ladders HLI8.out HXL.out rfl hpB (own_blk HO8.out))
            have HGF := Lib.hid (show w1.grownBy W7 (some p) from ⟨HK.out.gr.os.trans HG8.out.os, HK.out.gr.tape.trans HG8.out.tape, HK.out.gr.output.trans HG8.out.output, Nat.le_trans HG8.out.size HK.out.gr.size, fun b hb hne => (HK.out.gr.block b (Nat.lt_of_lt_of_le hb HG8.out.size) (fun h => by
              rcases h with h | h | h
              · exact hne (by rw [h])
              · omega
              · have := (HRX.out.lt b h).1; omega)).trans (HG8.out.block b hb hne)⟩)
            have HF := Lib.hid (show LdPost w p k xs (.returned (.slice (some ⟨g, 0, none⟩) n c)) W7 from ⟨M.set i (ldU x u (vo, vt)), some ⟨g, 0, none⟩, c, kk + 3, n, rfl, fun y hy => by
              rcases List.mem_or_eq_of_mem_set hy with hy | rfl
              · exact (HM.out.1 y hy).1
              · refine ⟨by show (x.g ++ [(vo, vt)]).length ≤ 4; rw [List.length_append]; simp; omega, fun z hz => ?_, HXI.out.1.ev⟩
                rcases List.mem_append.1 hz with hz | hz
                · exact HXI.out.1.g z hz
                · rw [List.mem_singleton] at hz
                  subst hz
                  exact hvor, by rw [List.length_set]; exact HM.out.2, by omega, own_mono HK.out.own (by omega), HLF.out.mono (by omega), HK.out.strm, by omega, grown_trans HG01.out HGF.out⟩)
            go_wp2_with (fail)
            go_ret
            exact HF.out
end Go.Proofs.YtldohjamiofkpaaGreatDoor
