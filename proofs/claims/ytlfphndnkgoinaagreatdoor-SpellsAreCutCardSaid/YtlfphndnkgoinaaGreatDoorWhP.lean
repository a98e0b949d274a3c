/- The spells of a rule over devices, as data; a map of samples by device. No program in sight. -/
import Derived.Test.YtlfphndnkgoinaaGreatDoorTkH
import Derived.Test.YtlfphndnkgoinaaGreatDoorQmp
import Derived.Test.YtlfphndnkgoinaaGreatDoorDvS
namespace Go.Proofs.YtlfphndnkgoinaaGreatDoor
open Go.RowKit

theorem spOf_total (r : Ru) (hr : RuT r) (l : List (Int × Int)) : ∃ sp, SpOf r l sp := by
  obtain ⟨cs, t, h⟩ := run_total r hr.hold hr.rest l (tk0 r)
  obtain ⟨ds, t', k⟩ := adv_total r tEnd hr.hold hr.rest t
  exact ⟨_, cs, t, ds, t', h, k, rfl⟩
/-- A spell: device, from, to; the rule's key is k. -/
def slC (k : Nat) (x : Nat × Int × Int) : List Value := [.string (teT x.1), .string (rkT k), .int .i64 x.2.1, .int .i64 x.2.2]
theorem slC_len (k : Nat) (x : Nat × Int × Int) : (slC k x).length = 4 := rfl
theorem slC_one (k : Nat) (x : Nat × Int × Int) : ∀ u ∈ slC k x, u.oneCell' = true := by
  intro u hu
  simp only [slC, List.mem_cons, List.mem_nil_iff, or_false] at hu
  rcases hu with h | h | h | h <;> subst h <;> rfl
/-- The spells of devices. -/
def whL (S : Nat → List (Int × Int)) (ds : List Nat) : List (Nat × Int × Int) := ds.flatMap fun d => (S d).map fun s => (d, s.1, s.2)
theorem whL_snoc (S : Nat → List (Int × Int)) (ds : List Nat) (d : Nat) : whL S (ds ++ [d]) = whL S ds ++ (S d).map fun s => (d, s.1, s.2) := by simp [whL]
theorem whL_nil (S : Nat → List (Int × Int)) : whL S [] = [] := rfl
/-- The samples of each device lie in the map. -/
structure WhI (w w' : World) (ty : TypeId) (m : Nat) (K : SmL) (v : Nat → Value) (S : Nat → List (Int × Int)) : Prop where
  map : SmI w' m K
  look : ∀ d, d < 2 → (smG (teT d) K).getD (.slice none 0 0) = v d
  row : ∀ d, d < 2 → w'.ownsRow w.heap.size ty 2 (v d) (S d).length (recs sqC (S d))
  dis : ∀ d e b, d < 2 → e < 2 → d ≠ e → (v d).ownBlock = some b → (v e).ownBlock ≠ some b
  nm : ∀ d, d < 2 → (v d).ownBlock ≠ some m
  be : Below w.heap.size w w'
  ge : w.heap.size ≤ m
theorem WhI.below {w w' V : World} {ty : TypeId} {m : Nat} {K : SmL} {v : Nat → Value} {S : Nat → List (Int × Int)} (h : WhI w w' ty m K v S) (hb : Below w'.heap.size w' V) : WhI w V ty m K v S :=
  ⟨h.map.below hb, h.look, fun d hd => own_belowP (h.row d hd) hb, h.dis, h.nm, h.be.trans (hb.mono h.be.size), h.ge⟩
theorem teT_ne {d e : Nat} (hd : d < 2) (he : e < 2) : teT d = teT e ↔ d = e := by
  have h1 : d = 0 ∨ d = 1 := by omega
  have h2 : e = 0 ∨ e = 1 := by omega
  rcases h1 with rfl | rfl <;> rcases h2 with rfl | rfl <;> decide +kernel
theorem WhI.step {w W w' : World} {ty : TypeId} {m : Nat} {K : SmL} {v : Nat → Value} {S S' : Nat → List (Int × Int)} {d : Nat} {u : Value} {y : Int × Int} (h : WhI w W ty m K v S) (hd : d < 2)
    (hK : KMm sqC 2 ty W w.heap.size m (v d) (smU (teT d) u K) u ((S d).length + 1) (S d ++ [y]) w') (hS : ∀ e, e < 2 → S' e = if e = d then S d ++ [y] else S e) : WhI w w' ty m (smU (teT d) u K) (fun e => if e = d then u else v e) S' := by
  have hlo : ∀ e b, e < 2 → (v e).ownBlock = some b → w.heap.size ≤ b ∧ b < W.heap.size := fun e b he hb => (h.row e he).lt b hb
  have hdis : ∀ e b, e < 2 → e ≠ d → u.ownBlock = some b → (v e).ownBlock ≠ some b := fun e b he hne hb hv => by
    rcases hK.nw b hb with h1 | h1
    · exact h.dis d e b hd he (Ne.symm hne) h1 hv
    · have := hlo e b he hv; omega
  refine ⟨hK.map, fun e he => ?_, fun e he => ?_, fun a e b ha he hne hb => ?_, fun e he => ?_, ?_, h.ge⟩
  · rw [smG_U]
    by_cases hed : e = d
    · rw [if_pos (by rw [hed]), if_pos hed]; rfl
    · rw [if_neg (fun k => hed ((teT_ne he hd).1 k)), if_neg hed]; exact h.look e he
  · rw [hS e he]
    by_cases hed : e = d
    · simp only [if_pos hed]
      have := hK.row
      rw [List.length_append]
      exact this
    · simp only [if_neg hed]
      exact own_keptB (h.row e he) fun b hb => hK.gr.block b (hlo e b he hb).2 (fun k => by
        rcases k with k | k
        · exact h.nm e he (by rw [hb, k])
        · exact h.dis d e b hd he (Ne.symm hed) k hb)
  · by_cases had : a = d
    · have hed : e ≠ d := fun k => hne (had.trans k.symm)
      simp only [if_pos had] at hb
      simp only [if_neg hed]
      exact hdis e b he hed hb
    · simp only [if_neg had] at hb
      by_cases hed : e = d
      · simp only [if_pos hed]
        exact fun k => hdis a b ha had k hb
      · simp only [if_neg hed]
        exact h.dis a e b ha he hne hb
  · by_cases hed : e = d
    · simp only [if_pos hed]
      intro k
      rcases hK.nw m k with h1 | h1
      · exact h.nm d hd h1
      · have := h.map.lt; omega
    · simp only [if_neg hed]
      exact h.nm e he
  · have h1 : GrF w W (fun b => w.heap.size ≤ b) := GrF.of_below h.be _ (fun b h _ => h)
    have h2 : GrF W w' (fun b => w.heap.size ≤ b) := hK.gr.mono (fun b _ k => by
      rcases k with k | k
      · rw [k]; exact h.ge
      · exact (hlo d b hd k).1)
    exact (h1.trans h2).below (fun b _ h => h) (Nat.le_refl _)
end Go.Proofs.YtlfphndnkgoinaaGreatDoor
