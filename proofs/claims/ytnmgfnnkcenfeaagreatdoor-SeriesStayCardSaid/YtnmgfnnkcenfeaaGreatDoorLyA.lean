/- A slice that lies in memory, or is nil; append of it; no program in sight. -/
import Derived.Test.YtnmgfnnkcenfeaaGreatDoorMgA
import Derived.Lib.AppendZerosOnto
import Derived.Lib.Walk
namespace Go.Proofs.YtnmgfnnkcenfeaaGreatDoor
open Go.RowKit

theorem run_append_empty {P : Program} (w : World) (t ty e : TypeId) (i : TypeInfo) (ht : P.underlying t = some (.slice e)) (hi : P.info? e = some i) (base : Option Addr) (l c : Nat) (hlc : l ≤ c) :
    (Builtin.append_ #[t, t] ty #[.slice base l c, .slice none 0 0]).run P w = .ok (.slice base l c) w := by
  cases base <;> simp [Builtin.append_, run_underlying ht, sizeOf, typeInfo, hi, Builtin.lenOf, Builtin.firstCells, loadCells, hlc, storeCells]

/-- A slice lies in memory: nil, or in a block that is there. -/
def Ly (w : World) (A : Option Addr) (n c : Nat) (xs : List Value) : Prop := (A = none ∧ n = 0 ∧ c = 0 ∧ xs = []) ∨ ∃ b o, A = some ⟨b, o, none⟩ ∧ b < w.heap.size ∧ Cells w b o xs
theorem Ly.below {w w' : World} {A : Option Addr} {n c : Nat} {xs : List Value} (h : Ly w A n c xs) (hb : Below w.heap.size w w') : Ly w' A n c xs := by
  rcases h with h | ⟨b, o, e, hlt, hc⟩
  · exact .inl h
  · exact .inr ⟨b, o, e, by have := hb.size; omega, hc.keep (hb.block b hlt)⟩
theorem Ly.row {w w' : World} {A : Option Addr} {n c base : Nat} {xs : List Value} {row : Option Nat} (h : Ly w A n c xs) (hg : w.grownBy w' row) (hr : ∀ g, row = some g → base ≤ g) (hb : ∀ b o, A = some ⟨b, o, none⟩ → b < base) : Ly w' A n c xs := by
  rcases h with h | ⟨b, o, e, hlt, hc⟩
  · exact .inl h
  · have hbb := hb b o e
    exact .inr ⟨b, o, e, by have := hg.size; omega, hc.keep (hg.block b hlt (fun e => by have := hr b e.symm; omega))⟩
theorem own_ly {w : World} {base : Nat} {e : TypeId} {size n : Nat} {A : Option Addr} {c : Nat} {xs : List Value} (h : w.ownsRow base e size (.slice A n c) n xs) : Ly w A n c xs := by
  rcases h.2 with ⟨hv, hn⟩ | ⟨g, cap, cur, hv, _, hh, _, _, _, ht⟩
  · injection hv with h1 h2 h3
    exact .inl ⟨h1, hn, h3, List.eq_nil_of_length_eq_zero (by rw [h.1, hn]; simp)⟩
  · rcases own_row h with hx | ⟨b, o, e, hb, hc⟩
    · injection hv with h1 h2 h3
      subst hx
      exact .inr ⟨g, 0, h1, (Array.getElem?_eq_some_iff.1 hh).1, fun j v hv => by simp at hv⟩
    · exact .inr ⟨b, o, e, hb, hc⟩
theorem app_ly {P : Program} (w : World) (base : Nat) (t ty e : TypeId) (i : TypeInfo) (z : Value) (size bytes : Nat) (ht : P.underlying t = some (.slice e)) (hi : P.info? e = some i) (hz : i.zero = some z) (hsize : i.size = size) (hby : i.bytes = bytes) (hzs : z.cells.size = size) (hsz : 0 < size)
    (v : Value) (n : Nat) (xs : List Value) (hown : w.ownsRow base e size v n xs) (A : Option Addr) (m c : Nat) (news : List Value) (hl : news.length = m * size) (hly : Ly w A m c news) (h1 : ∀ u ∈ news, u.oneCell' = true)
    (h63 : n + m ≤ maxLen) (hbytes : (n + m) * bytes ≤ 140737488355328) (hbase : base ≤ w.heap.size) :
    ∃ v' w', (Builtin.append_ #[t, t] ty #[v, .slice A m c]).run P w = .ok v' w' ∧ w'.ownsRow base e size v' (n + m) (xs ++ news) ∧ w.grownBy w' v.ownBlock := by
  rcases hly with ⟨rfl, rfl, rfl, rfl⟩ | ⟨b, o, rfl, hb, hc⟩
  · obtain ⟨A0, c0, rfl⟩ := own_slice hown
    have hcap : n ≤ c0 := by
      rcases hown.2 with ⟨hv, hn⟩ | ⟨g, cap, cur, hv, _, _, hc, _⟩
      · omega
      · injection hv with _ _ hc'; omega
    exact ⟨_, _, run_append_empty w t ty e i ht hi A0 n c0 hcap, by simpa using hown, grown_refl _ _⟩
  · obtain ⟨v', w', h2, h3, h4, _⟩ := run_append_own (P := P) w base t ty e i z size bytes ht hi hz hsize hby hzs hsz v n xs hown ⟨b, o, none⟩ m c news hl (fun j u hu => by rw [Addr.add_lit]; exact hc j u hu) h1 h63 hbytes hbase
    exact ⟨v', w', h2, h3, h4⟩

end Go.Proofs.YtnmgfnnkcenfeaaGreatDoor
