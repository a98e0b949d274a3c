/- What stays while a campaign's state goes on: rows, the ways, a window; and append of a row that may be nil. -/
import Derived.Test.YtidgicbhgnbidaaGreatDoorPlC
import Derived.Test.YtidgicbhgnbidaaGreatDoorPlJ
import Derived.Test.YtidgicbhgnbidaaGreatDoorLyA
namespace Go.Proofs.YtidgicbhgnbidaaGreatDoor
open Go.RowKit

theorem wpList_append_ly {P : Program} {w : World} {ops : Array Oper} {rest : List Oper} {o : Oper} {a : Act} {Q : Exit → Act → World → Prop} (hgd : o.guard = none) (s x : Operand) (t : TypeId)
    (ho : o.op = .call { callee := .builtin .append, args := #[s, x], argTypes := #[t, t] })
    (base : Nat) (e : TypeId) (i : TypeInfo) (z : Value) (size bytes : Nat) (ht : P.underlying t = some (.slice e)) (hi : P.info? e = some i) (hz : i.zero = some z)
    (hsize : i.size = size) (hby : i.bytes = bytes) (hzs : z.cells.size = size) (hsz : 0 < size)
    (v : Value) (n : Nat) (xs : List Value) (hs : a.eval s = v) (hown : w.ownsRow base e size v n xs)
    (A : Option Addr) (m c : Nat) (news : List Value) (hx : a.eval x = .slice A m c) (hl : news.length = m * size) (hly : Ly w A m c news) (h1 : ∀ u ∈ news, u.oneCell' = true)
    (h63 : n + m ≤ maxLen) (hbytes : (n + m) * bytes ≤ 140737488355328) (hbase : base ≤ w.heap.size)
    (h : ∀ v' w', w'.ownsRow base e size v' (n + m) (xs ++ news) → w.grownBy w' v.ownBlock → wpList P ops Q rest (a.put o.dst v') w') : wpList P ops Q (o :: rest) a w :=
  wpList_plain hgd fun _ hK => by
    obtain ⟨v', w', hr, h2, h3⟩ := app_ly (P := P) w base t o.type e i z size bytes ht hi hz hsize hby hzs hsz v n xs hown A m c news hl hly h1 h63 hbytes hbase
    unfold Oper.wp execOp
    simp only [ho, resolve, invoke, builtin, Sem.run_bind, Sem.run_pure, Result.andThen_ok, List.map_toArray, List.map_cons, List.map_nil, hs, hx, hr]
    exact hK _ _ (h v' w' h2 h3)
section
variable {B : Nat} {C : Cm} {F : List Dv} {wvN : Nat → Nat} {a : StA} {s : St} {w w' : World}
/-- What the state's blocks are. -/
theorem StI.kind (h : StI B C F wvN a s w) (hlc : s.cs.length = F.length) : ∀ b ∈ a.all, (∃ cs f ty, w.heap[b]? = some (.cells cs ty f) ∧ (ty = 165 ∨ ty = 53 ∨ ty = 3 ∨ ty = 168)) ∨ ∃ L, SmI w b L := by
  intro b hb
  obtain ⟨A, c, h1, _⟩ := h.st
  unfold StA.all at hb
  simp only [List.mem_cons] at hb
  rcases hb with rfl | rfl | rfl | rfl | rfl | rfl | rfl | hb
  · exact .inl ⟨_, _, _, h1, .inl rfl⟩
  · exact .inl ⟨_, _, _, h.cm, .inr (.inl rfl)⟩
  · exact .inr ⟨_, h.of_⟩
  · exact .inr ⟨_, h.wv⟩
  · exact .inl ⟨_, _, _, h.op, .inr (.inr (.inl rfl))⟩
  · exact .inl ⟨_, _, _, h.en, .inr (.inr (.inl rfl))⟩
  · exact .inl ⟨_, _, _, h.fa, .inr (.inr (.inl rfl))⟩
  · obtain ⟨i, hi⟩ := List.getElem?_of_mem hb
    have hlt := (List.getElem?_eq_some_iff.1 hi).1
    obtain ⟨x, hx⟩ : ∃ x, s.cs[i]? = some x := ⟨_, List.getElem?_eq_getElem (by rw [hlc, ← h.lb]; exact hlt)⟩
    exact .inl ⟨_, _, _, h.cu i b x hi hx, .inr (.inr (.inr rfl))⟩
theorem StI.notin (h : StI B C F wvN a s w) (hlc : s.cs.length = F.length) {g : Nat} {cs : Array Value} {ty : TypeId} {f : Nat × Nat} (hg : w.heap[g]? = some (.cells cs ty f)) (h1 : ty ≠ 165) (h2 : ty ≠ 53) (h3 : ty ≠ 3) (h4 : ty ≠ 168) : g ∉ a.all := by
  intro hm
  rcases h.kind hlc g hm with ⟨cs', f', ty', h5, h6⟩ | ⟨L, h5⟩
  · rw [hg] at h5
    injection h5 with h5
    injection h5 with _ h5
    subst h5
    rcases h6 with h6 | h6 | h6 | h6
    · exact h1 h6
    · exact h2 h6
    · exact h3 h6
    · exact h4 h6
  · unfold SmI at h5
    rw [hg] at h5
    cases h5
theorem StI.notinV (h : StI B C F wvN a s w) (hlc : s.cs.length = F.length) {m : Nat} {T : VmL} {t : Ve} {c : Co} (hm : VmI w m T) (ht : vmG t T = some c) : m ∉ a.all := by
  intro hk
  unfold VmI at hm
  rcases h.kind hlc m hk with ⟨cs', f', ty', h5, h6⟩ | ⟨L, h5⟩
  · rw [hm] at h5; cases h5
  · unfold SmI at h5
    rw [hm] at h5
    injection h5 with h5
    injection h5 with h5 h6
    cases T with
    | nil => cases ht
    | cons p T =>
      cases L with
      | nil => simp at h6
      | cons q L =>
        have h7 : (vmE 0 (p :: T))[0]? = (smE 0 (q :: L))[0]? := by
          have := congrArg (fun x : Array MapEntry => x[0]?) h5
          simpa using this
        have h8 := Option.some.inj h7
        have h9 := congrArg MapEntry.key h8
        cases h9
theorem Mv.keep (hv : Mv a w w') {g : Nat} {cs : Array Value} {ty : TypeId} {f : Nat × Nat} (hg : w.heap[g]? = some (.cells cs ty f)) (hn : g ∉ a.all) (h3 : ty ≠ 3) : w'.heap[g]? = some (.cells cs ty f) :=
  (hv.2 g (Array.getElem?_eq_some_iff.1 hg).1 hn (fun cs' f' e => by rw [hg] at e; injection e with e; injection e with _ e; exact h3 e)).trans hg
theorem own_mv (hI : StI B C F wvN a s w) (hlc : s.cs.length = F.length) (hv : Mv a w w') {base size n : Nat} {ty : TypeId} {v : Value} {xs : List Value} (ho : w.ownsRow base ty size v n xs) (h1 : ty ≠ 165) (h2 : ty ≠ 53) (h3 : ty ≠ 3) (h4 : ty ≠ 168) : w'.ownsRow base ty size v n xs := by
  refine ⟨ho.1, ?_⟩
  rcases ho.2 with h | ⟨g, cap, cur, hv', hb, hh, r⟩
  · exact .inl h
  · exact .inr ⟨g, cap, cur, hv', hb, hv.keep hh (hI.notin hlc hh h1 h2 h3 h4) h3, r⟩
theorem WyM.mv {L : List Im} {t : Ve} {AL : Option Addr} {N c gw mc : Nat} {Lc : SmL} (h : WyM B L t AL N c gw mc Lc w) (hI : StI B C F wvN a s w) (hlc : s.cs.length = F.length) (hmc : mc ∉ a.all) (hb : Below B w w') (hv : Mv a w w') : WyM B L t AL N c gw mc Lc w' := by
  have hmap : ∀ m o n, m ∉ a.all → w.heap[m]? = some (.map o n) → w'.heap[m]? = w.heap[m]? := fun m o n hn hm => hv.2 m (Array.getElem?_eq_some_iff.1 hm).1 hn (fun cs f e => by rw [hm] at e; cases e)
  refine ⟨hv.keep h.gw (hI.notin hlc h.gw (by decide) (by decide) (by decide) (by decide)) (by decide), h.mp.keep (hmap mc _ _ hmc h.mp), fun j hj v hv' => ?_, h.im.keepB fun b hlt => hb.block b hlt, h.ge, Nat.le_trans h.sz hb.size⟩
  obtain ⟨m, T, h1, h2, h3, h4⟩ := h.ok j hj v hv'
  exact ⟨m, T, h1, h2.keep (hmap m _ _ (hI.notinV hlc h2 (@CoEnd.top ⟨j, hj⟩ _ _ _ h3)) h2), h3, h4⟩
end
theorem window_yesP (x y : Int) (w : World) (h1 : 0 ≤ x) (h2 : x ≤ y) (h3 : y ≤ 345686400000) : Calls Tryz.prog 63 #[.agg #[.int .i64 x, .int .i64 y]] w fun e w' => e = .returned (.bool true) ∧ Below w.heap.size w w' := by
  obtain ⟨w1, e1⟩ : ∃ V : World, V = w.alloc (.cells #[.int .i64 x, .int .i64 y] 51) := ⟨_, rfl⟩
  have hb1 : Below w.heap.size w w1 := by rw [e1]; exact (Below.refl _ _).alloc (Nat.le_refl _) _
  have hg1 : w1.heap[w.heap.size]? = some (.cells #[.int .i64 x, .int .i64 y] 51 (0, 0)) := by rw [e1]; exact heap_new w _
  have HB := Lib.hid hb1
  have k0 := cell_of_blk (j := 0) hg1 rfl
  have k1 := cell_of_blk (j := 1) hg1 rfl
  have hl := (Array.getElem?_eq_some_iff.1 hg1).1
  clear hb1 hg1
  go_enter Tryz.func63, Tryz.ntmps63
  go_upto_region 1 with (fail)
  rw [← e1]
  clear e1
  go_wp2_with (go_at_call 62; refine (out_no _ _ _ _ (by omega) (by omega)).mono ?_; rintro e w' ⟨rfl, rfl⟩)
  go_ret
  exact ⟨rfl, HB.out⟩
end Go.Proofs.YtidgicbhgnbidaaGreatDoor
