/- rule.Spells of one rule by its contract. -/
import Derived.Test.YtlfphndnkgoinaaGreatDoorCuA
import Derived.Test.YtlfphndnkgoinaaGreatDoorSpS
import Derived.Test.YtlfphndnkgoinaaGreatDoorTqA
import Derived.Test.YtlfphndnkgoinaaGreatDoorMgA
import Derived.Deep.RegionLawGrows
namespace Go.Proofs.YtlfphndnkgoinaaGreatDoor
open Go.RowKit

/-- append of one list to an owned row, as one step of a region that draws its order. -/
theorem step_append_ly {P : Program} {ops : Array Oper} {o : Oper} {a : Act} {w : World} {K : Act → World → Prop} {Q : Exit → Act → World → Prop} {E : Prop}
    (hg : o.guard = none) (s x : Operand) (t : TypeId) (hop : o.op = Op.call { callee := Callee.builtin Builtin.append, args := #[s, x], argTypes := #[t, t] })
    (base : Nat) (e : TypeId) (i : TypeInfo) (z : Value) (size bytes : Nat) (h1 : P.underlying t = some (.slice e)) (h2 : P.info? e = some i) (h3 : i.zero = some z) (h4 : i.size = size) (h5 : i.bytes = bytes) (h6 : z.cells.size = size) (h7 : 0 < size)
    (v : Value) (n : Nat) (xs : List Value) (hs : a.eval s = v) (hown : w.ownsRow base e size v n xs)
    (A : Option Addr) (m c : Nat) (news : List Value) (hx : a.eval x = .slice A m c) (hn : news.length = m * size) (hc : Ly w A m c news) (h1c : ∀ u ∈ news, u.oneCell' = true)
    (b1 : n + m ≤ maxLen) (b2 : (n + m) * bytes ≤ 140737488355328) (hb : base ≤ w.heap.size)
    (hK : ∀ v' w', w'.ownsRow base e size v' (n + m) (xs ++ news) → w.grownBy w' v.ownBlock → K (a.put o.dst v') w') :
    if Region.wanted o (yielded ops a.tmps) = true then Oper.wp P o a w K Q else E := by
  have hw : Region.wanted o (yielded ops a.tmps) = true := by simp [Region.wanted, hg]
  rw [if_pos hw]
  obtain ⟨v', w', hrun, r1, r2⟩ := app_ly (P := P) w base t o.type e i z size bytes h1 h2 h3 h4 h5 h6 h7 v n xs hown A m c news hn hc h1c b1 b2 hb
  unfold Oper.wp
  simp [execOp, hop, resolve, invoke, builtin, hs, hx, hrun, Result.andThen]
  exact hK v' w' r1 r2
def SpsPost (w : World) (k : Nat) (M : List (Nat × Int × Int)) (e : Ending) (w' : World) : Prop :=
  ∃ A n c L, e = .returned (.tuple #[.slice A n c, .int .i64 0]) ∧ n = L.length ∧ L.Perm M ∧ w'.ownsRow w.heap.size 56 4 (.slice A n c) n (recs (slC k) L) ∧ Below w.heap.size w w'
set_option maxRecDepth 100000 in
set_option maxHeartbeats 4000000 in
theorem spells_any (r : Ru) (l : List Te) (S : Nat → List (Int × Int)) (f t : Int) (g n c : Nat) (A : Option Addr) (w : World) (hR : RuR r) (hg : w.heap[g]? = some (.cells (ruC r).toArray 27 (0, 0))) (hl : TesOk l) (hS : ∀ d, d < 2 → SpOf r (seenL l r.m d) (S d)) (hn : l.length = n) (hn2 : n ≤ 1000) (hr : Row w w.heap.size A (recs teC l)) (hf : 0 ≤ f ∧ f ≤ t ∧ t ≤ 345686400000) :
    Calls Tryz.prog 21 #[.slice (some ⟨g, 0, none⟩) 1 1, .slice A n c, .agg #[.int .i64 f, .int .i64 t]] w fun e w' => SpsPost w r.k (cuL f t (whL S (dvs l r.m))) e w' := by
  obtain ⟨i1, hi1, hy0, hy1, hy2⟩ := info_parts Tryz.infoSpl
  have hgl := (Array.getElem?_eq_some_iff.1 hg).1
  have HFA := Lib.hid (fun (V : World) (hV : Below w.heap.size w V) => ruleFault_no r l f t g n c A V hR ((hV.block g hgl).trans hg) hl hn hn2 ((hr.below hV).mono hV.size) hf)
  have HWH := Lib.hid (fun (V : World) (hV : Below w.heap.size w V) => whole_any r l S g n c A V (fun j u hu => by rw [Nat.zero_add]; exact cell_of_blk (j := j) ((hV.block g hgl).trans hg) (by simpa using hu)) hR hl hS hn hn2 ((hr.below hV).mono hV.size))
  have HLN := Lib.hid (show (whL S (dvs l r.m)).length ≤ 800000000000 from by
    have := whL_len S (dvs l r.m) 400000000000 (fun d hd => spOf_len hR (seenL_ok hl r.m d) (hS d ((dvs_two l r.m).1 d hd)))
    have := (dvs_two l r.m).2
    omega)
  obtain ⟨L, eL⟩ : ∃ L, L = whL S (dvs l r.m) := ⟨_, rfl⟩
  unfold WhPost at HWH
  rw [← eL] at HWH HLN ⊢
  obtain ⟨k, ek⟩ : ∃ k, k = r.k := ⟨_, rfl⟩
  rw [← ek] at HWH ⊢
  clear hR hl hS hn hr eL hg ek
  go_enter Tryz.func21, Tryz.ntmps21
  go_upto_region 1 with (fail)
  obtain ⟨w1, e1⟩ : ∃ V : World, V = w.alloc (.cells #[.int .i64 f, .int .i64 t] 48) := ⟨_, rfl⟩
  obtain ⟨b, eb⟩ : ∃ b, b = w.heap.size := ⟨_, rfl⟩
  have hb1 : Below w.heap.size w w1 := by rw [e1]; exact (Below.refl _ _).alloc (Nat.le_refl _) _
  have hg1 : w1.heap[b]? = some (.cells #[.int .i64 f, .int .i64 t] 48 (0, 0)) := by rw [e1, eb]; exact heap_new w _
  have hlt1 := (Array.getElem?_eq_some_iff.1 hg1).1
  rw [← eb, ← e1]
  have HB1 := Lib.hid hb1
  have HQ := Lib.hid (fun (V : World) (hV : Below w1.heap.size w1 V) => show V.cell? ⟨b, 0, none⟩ = some (.int .i64 f) ∧ V.cell? ⟨b, 1, none⟩ = some (.int .i64 t) ∧ b < V.heap.size from
    ⟨cell_of_blk (j := 0) ((hV.block b hlt1).trans hg1) rfl, cell_of_blk (j := 1) ((hV.block b hlt1).trans hg1) rfl, Nat.lt_of_lt_of_le hlt1 hV.size⟩)
  clear eb e1 hb1 hg1
  obtain ⟨k0, k1, kl⟩ := HQ.out w1 (Below.refl _ _)
  have HF1 := Lib.hid (HFA.out w1 HB1.out)
  go_wp2_with (fail)
  refine HF1.out.mono ?_
  rintro e w2 ⟨rfl, hb2⟩
  have HB2 := Lib.hid (And.intro hb2 (below_step HB1.out hb2))
  clear hb2 HF1 k0 k1 kl
  obtain ⟨k0, k1, kl⟩ := HQ.out w2 HB2.out.1
  go_wp2_with (fail)
  refine wp_loop_rounds 2 ?_
  rw [rounds_succ]
  go_upto_region 8 with (fail)
  have hs2 := HB2.out.2.size
  have HBD := Lib.hid (show Below w.heap.size w w2.drew from ⟨HB2.out.2.os, HB2.out.2.tape, HB2.out.2.output, HB2.out.2.size, HB2.out.2.block⟩)
  have HBE := Lib.hid (show Below w1.heap.size w1 w2.drew from ⟨HB2.out.1.os, HB2.out.1.tape, HB2.out.1.output, HB2.out.1.size, HB2.out.1.block⟩)
  have HWC := Lib.hid (HWH.out w2.drew HBD.out)
  clear HWH
  go_region_law (first
    | (go_simp
       go_at_call 51
       (with_reducible refine HWC.out.mono ?_)
       rintro e w3 ⟨A3, n3, c3, rfl, hn3, ho3, hb3⟩
       have HB3 := Lib.hid (And.intro (below_step HBE.out hb3) (below_step HBD.out hb3))
       have HN3 := Lib.hid hn3
       have hn3b : n3 ≤ 800000000000 := by rw [hn3]; exact HLN.out
       obtain ⟨k0, k1, kl⟩ := HQ.out w3 HB3.out.1
       have HCU := Lib.hid (cut_any k f t L n3 c3 A3 w3 hn3.symm hn3b (own_row ho3))
       clear hn3 ho3 hb3)
    | (go_simp
       go_at_call 50
       (with_reducible refine HCU.out.mono ?_)
       rintro e w4 ⟨A4, n4, c4, rfl, hn4, ho4, hb4⟩
       have HB4 := Lib.hid (below_step HB3.out.2 hb4)
       have hn4b : n4 ≤ 800000000000 := by rw [hn4]; exact Nat.le_trans (cuL_len f t L) HLN.out
       have HO4 := Lib.hid ho4
       have HN4 := Lib.hid hn4
       have hs4 := HB4.out.size
       clear hn4 ho4 hb4)
    | (refine step_append_ly rfl (.tmp 23) (.tmp 30) 52 rfl w.heap.size 56 i1 _ 4 48 Tryz.underlying52 hi1 hy0 hy1 hy2 rfl (by decide) (.slice none 0 0) 0 [] (by first | rfl | simp [Act.eval]) (World.ownsRow_nil _ _ _ _) A4 n4 c4 (recs (slC k) (cuL f t L)) (by first | rfl | simp [Act.eval]) (by rw [recs_length (slC_len k), HN4.out]) (own_ly HO4.out) (fun u hu => by obtain ⟨x, _, hx⟩ := List.mem_flatMap.1 hu; exact slC_one k x u hx) (by unfold maxLen; omega) (by omega) hs4 ?_
       intro v5 w5 ho5 hg5))
  all_goals
    have HO5 := Lib.hid (show w5.ownsRow w.heap.size 56 4 v5 n4 (recs (slC k) (cuL f t L)) from by rw [Nat.zero_add, List.nil_append] at ho5; exact ho5)
    have HB5 := Lib.hid (HB4.out.grown hg5 hs4 (fun q hq => by cases hq))
    have hs5 := HB5.out.size
    clear ho5 hg5 HO4 HCU HWC k0 k1 kl
    obtain ⟨A5, c5, rfl⟩ := own_slice HO5.out
    have HSO := Lib.hid (sortP_any k (cuL f t L) n4 c5 w.heap.size A5 w5 HN4.out.symm (by omega) HO5.out)
    go_wp2_with (fail)
    try simp only [Act.put, List.getElem_toArray, List.getElem_cons_zero, List.getElem_cons_succ, List.setIfInBounds_toArray, List.set_cons_zero, List.set_cons_succ]
    rw [rounds_succ]
    go_wp2_with (fail)
    refine HSO.out.mono ?_
    rintro e w6 ⟨rfl, M, hp, hm, ho6, hg6⟩
    have HF := Lib.hid (show SpsPost w k (cuL f t L) (.returned (.tuple #[.slice A5 n4 c5, .int .i64 0])) w6 from
      ⟨A5, n4, c5, M, rfl, hm.symm, hp, ho6, HB5.out.grown hg6 hs5 (fun q hq => (HO5.out.lt q hq).1)⟩)
    clear hp hm ho6 hg6
    go_wp2_with (fail)
    refine bodyPost_ret (v := .tuple #[.slice A5 n4 c5, .int .i64 0]) (by simp [results, Tryz.results21, go_sem]) rfl HF.out
end Go.Proofs.YtlfphndnkgoinaaGreatDoor
