/- command.Read of the text of right notes by its contract. -/
import Derived.Test.YtjjfhblaefbpgaaGreatDoorMgB
import Derived.Test.YtjjfhblaefbpgaaGreatDoorNoM
import Derived.Test.YtjjfhblaefbpgaaGreatDoorTxS
import Derived.Laws.EntriesVeiled
namespace Go.Proofs.YtjjfhblaefbpgaaGreatDoor
open Go.RowKit

theorem call_enterN {P : Program} {f : FuncId} {fn : Func} (h1 : P.funcs[f]? = some fn) (h2 : (fn.name == "runtime.NumGoroutine") = false) (h3 : fn.body.isSome = true) (args : Array Value) (w : World) : (callFunc f args).run P w = .ok (.enter f args) w := by
  have h4 : fn.name ≠ "runtime.NumGoroutine" := by simpa using h2
  obtain ⟨k, h5⟩ := Option.isSome_iff_exists.1 h3
  simp [callFunc, h1, h4, h5]
/-- What stands between two lines: k notes are read into the variable P. -/
def RdInv (l : List No) (w0 : World) (P k : Nat) (V : World) : Prop :=
  ∃ v, V.heap[P]? = some (.cells #[v] 26 (0, 0)) ∧ V.ownsRow w0.heap.size 34 9 v k (recs noC (l.take k)) ∧ Below w0.heap.size w0 V
set_option maxRecDepth 100000 in
set_option maxHeartbeats 8000000 in
theorem read1_any (l : List No) (w0 : World) (P k : Nat) (x : No) (V : World) (hx : l[k]? = some x) (hxo : NtOk x.2) (hk : k ≤ 100) (hP : w0.heap.size ≤ P) (hT : MlW w0) (hI : RdInv l w0 P k V) :
    Calls Tryz.prog 41 #[.string ⟨(lnL x).toArray⟩, .pointer (some ⟨P, 0, none⟩)] V fun e V' => e = .returned (.bool true) ∧ RdInv l w0 P (k + 1) V' ∧ V.heap.size ≤ V'.heap.size ∧
      ∀ (g : Nat) (cs : Array Value), w0.heap.size ≤ g → V.heap[g]? = some (.cells cs 9 (0, 0)) → V'.heap[g]? = some (.cells cs 9 (0, 0)) := by
  obtain ⟨i0, hi0, hz0, hz1, hz2⟩ := info_parts Tryz.infoNo
  obtain ⟨v, hb0, ho0, hw0⟩ := hI
  have HRN := Lib.hid (readNote_any x V hxo (hT.below hw0))
  have HB0 := Lib.hid hw0
  have HO0 := Lib.hid ho0
  have HP0 := Lib.hid hb0
  have HTK := Lib.hid (show l.take (k + 1) = l.take k ++ [x] from by rw [List.take_add_one, hx]; rfl)
  have hPs : P < V.heap.size := (Array.getElem?_eq_some_iff.1 hb0).1
  have hs0 := hw0.size
  clear hb0 ho0 hw0 hx hxo hT
  generalize (⟨(lnL x).toArray⟩ : ByteArray) = S at HRN ⊢
  go_enter Tryz.func41, Tryz.ntmps41
  go_wp2_with (fail)
  refine HRN.out.mono ?_
  rintro e w1 ⟨rfl, hb1⟩
  have HBV := Lib.hid hb1
  have HB1 := Lib.hid (HB0.out.trans (hb1.mono hs0))
  have HO1 := Lib.hid (own_belowP HO0.out hb1)
  have HP1 := Lib.hid ((hb1.block P hPs).trans HP0.out)
  have hs1 := hb1.size
  clear hb1
  go_upto_region 2 with (fail)
  have HB2 := Lib.hid (HB1.out.alloc (by omega) (.cells #[.string (idT x.1), .string ⟨#[]⟩, .string ⟨#[100, 111]⟩, .int .i64 0, .int .i64 0, .int .i64 100, .int .i64 x.2.s, .int .i64 x.2.t, .int .i64 x.2.c] 34))
  have hb12 : Below w1.heap.size w1 (w1.alloc (.cells #[.string (idT x.1), .string ⟨#[]⟩, .string ⟨#[100, 111]⟩, .int .i64 0, .int .i64 0, .int .i64 100, .int .i64 x.2.s, .int .i64 x.2.t, .int .i64 x.2.c] 34)) := (Below.refl _ _).alloc (Nat.le_refl _) _
  have HO2 := Lib.hid (own_belowP HO1.out hb12)
  have hP2 := (hb12.block P (by omega)).trans HP1.out
  have HBV2 := Lib.hid (HBV.out.trans (hb12.mono hs1))
  have hg2 := heap_new w1 (.cells #[.string (idT x.1), .string ⟨#[]⟩, .string ⟨#[100, 111]⟩, .int .i64 0, .int .i64 0, .int .i64 100, .int .i64 x.2.s, .int .i64 x.2.t, .int .i64 x.2.c] 34)
  have hs2 : w1.heap.size < (w1.alloc (.cells #[.string (idT x.1), .string ⟨#[]⟩, .string ⟨#[100, 111]⟩, .int .i64 0, .int .i64 0, .int .i64 100, .int .i64 x.2.s, .int .i64 x.2.t, .int .i64 x.2.c] 34)).heap.size := by simp
  clear hb12
  generalize w1.alloc (.cells #[.string (idT x.1), .string ⟨#[]⟩, .string ⟨#[100, 111]⟩, .int .i64 0, .int .i64 0, .int .i64 100, .int .i64 x.2.s, .int .i64 x.2.t, .int .i64 x.2.c] 34) = w2 at HB2 HO2 hP2 HBV2 hg2 hs2 ⊢
  generalize w1.heap.size = g at hg2 hs2 hs1 ⊢
  have p0 := cell_of_blk (j := 0) hP2 rfl
  obtain ⟨q0, q1, q2, q3, q4, q5, q6, q7, q8⟩ := no_blk hg2
  have HP2 := Lib.hid hP2
  have hPw : P < w2.heap.size := (Array.getElem?_eq_some_iff.1 hP2).1
  clear hg2 hP2 HB1 HO1 HP1 HBV w1
  go_wp2_with (at_builtin; refine wpList_append_own2 _ rfl _ _ 26 rfl w0.heap.size 34 i0 _ 9 96 Tryz.underlying26 hi0 hz0 hz1 hz2 rfl (by decide) v k (recs noC (l.take k)) rfl (HO2.out.alloc _) ⟨w2.heap.size, 0, none⟩ 1 1 (noC x) rfl rfl ?c1 ?c2 ?c3 ?c4 ?c5 ?_)
  case c1 => exact cells_add (Cells.new _ _ _ _ _ rfl)
  case c2 => exact noC_one _
  case c3 => unfold maxLen; omega
  case c4 => omega
  case c5 => have := HB2.out.size; simp; omega
  intro v9 w9 ho9 hg9 _
  obtain ⟨A9, c9, rfl⟩ := own_slice ho9
  have hlo : ∀ q, v.ownBlock = some q → w0.heap.size ≤ q := fun q hq => (HO2.out.lt q hq).1
  have HB9 := Lib.hid ((HB2.out.alloc HB2.out.size (.cells #[.string (idT x.1), .string ⟨#[]⟩, .string ⟨#[100, 111]⟩, .int .i64 0, .int .i64 0, .int .i64 100, .int .i64 x.2.s, .int .i64 x.2.t, .int .i64 x.2.c] 34)).grown hg9 (by have := HB2.out.size; simp; omega) hlo)
  have HO9 := Lib.hid (show w9.ownsRow w0.heap.size 34 9 (.slice A9 (k + 1) c9) (k + 1) (recs noC (l.take (k + 1))) from by rw [HTK.out, recs_snoc]; exact ho9)
  have HKS := Lib.hid (show ∀ (j : Nat) (t : TypeId) (cs : Array Value) (f : Nat × Nat), t ≠ 34 → w2.heap[j]? = some (.cells cs t f) → w9.heap[j]? = some (.cells cs t f) from by
    intro j t cs f ht hj
    have hlt : j < w2.heap.size := (Array.getElem?_eq_some_iff.1 hj).1
    have hne := own_ne HO2.out hj (fun e => ht e.symm)
    rw [hg9.block j (by simp; omega) hne]
    exact ((Below.refl w2.heap.size w2).alloc (Nat.le_refl _) _).block j hlt |>.trans hj)
  have hs9 := hg9.size
  simp only [World.size_alloc] at hs9
  have hP9 := HKS.out P 26 #[v] (0, 0) (by decide) HP2.out
  have HP9 := Lib.hid hP9
  have r0 := cell_of_blk (j := 0) hP9 rfl
  have f0 : w9.frozen? ⟨P, 0, none⟩ = false := Lib.frozen_of_heap hP9 0
  have HF := Lib.hid (show RdInv l w0 P (k + 1) (w9.setCell ⟨P, 0, none⟩ (.slice A9 (k + 1) c9)) ∧ V.heap.size ≤ (w9.setCell ⟨P, 0, none⟩ (.slice A9 (k + 1) c9)).heap.size ∧ ∀ (g : Nat) (cs : Array Value), w0.heap.size ≤ g → V.heap[g]? = some (.cells cs 9 (0, 0)) → (w9.setCell ⟨P, 0, none⟩ (.slice A9 (k + 1) c9)).heap[g]? = some (.cells cs 9 (0, 0)) from by
    refine ⟨⟨.slice A9 (k + 1) c9, by simp [World.setCell, Array.getElem?_modify, hP9], ?_, HB9.out.setCell hP _⟩, by have := HBV2.out.size; simp; omega, ?_⟩
    · refine HO9.out.kept (row := some P) ⟨rfl, rfl, rfl, by simp, fun i hi hne => by simp [World.setCell, Array.getElem?_modify]; intro e; exact absurd (congrArg some e.symm) hne⟩ ?_
      have hne := own_ne HO9.out hP9 (by decide)
      cases hv : (Value.slice A9 (k + 1) c9).ownBlock with
      | none => exact .inl rfl
      | some q => exact .inr (by rw [hv] at hne; exact fun e => hne e.symm)
    · intro j cs _ hj
      have hlt : j < V.heap.size := (Array.getElem?_eq_some_iff.1 hj).1
      have h9 := HKS.out j 9 cs (0, 0) (by decide) ((HBV2.out.block j hlt).trans hj)
      have hjP : P ≠ j := by
        rintro rfl
        rw [hP9] at h9
        injection h9 with h9
        injection h9 with _ h9 _
        exact absurd h9 (by decide)
      simp [World.setCell, Array.getElem?_modify, hjP, h9])
  clear ho9 hg9 hlo hP9 q0 q1 q2 q3 q4 q5 q6 q7 q8 p0
  go_wp2_with (fail)
  go_ret
  exact ⟨rfl, HF.out⟩
def RdPost (l : List No) (w : World) (e : Ending) (w' : World) : Prop :=
  ∃ A n c, e = .returned (.tuple #[.slice A n c, .int .i64 0, .int .i64 0]) ∧ n = l.length ∧ w'.ownsRow w.heap.size 34 9 (.slice A n c) n (recs noC l) ∧ Below w.heap.size w w'
theorem RdInv.below0 {l : List No} {w w1 V : World} {P k : Nat} (h : RdInv l w P k w1) (hb : Below w1.heap.size w1 V) (hw : w.heap.size ≤ w1.heap.size) : RdInv l w P k V := by
  obtain ⟨v, h1, h2, h3⟩ := h
  exact ⟨v, (hb.block P (Array.getElem?_eq_some_iff.1 h1).1).trans h1, own_belowP h2 hb, h3.trans (hb.mono hw)⟩
theorem readN_run (args : Array Value) (V : World) : (callFunc 41 args).run Tryz.prog V = .ok (.enter 41 args) V := call_enterN Tryz.func41 (by kernel_rfl) (by kernel_rfl) args V
set_option maxRecDepth 100000 in
set_option maxHeartbeats 8000000 in
theorem readN_any (l : List No) (w : World) (hl : NsOk l) (hT : TxW w) :
    Calls Tryz.prog 10 #[.string ⟨(txL l).toArray⟩] w fun e w' => RdPost l w e w' := by
  have hl3 := hl.len
  have hlen := tx_len l
  have hsz : (⟨(txL l).toArray⟩ : ByteArray).size ≤ 72 := by simp [ByteArray.size]; omega
  obtain ⟨S, hS⟩ : ∃ S : ByteArray, S = ⟨(txL l).toArray⟩ := ⟨_, rfl⟩
  rw [← hS] at hsz ⊢
  have HE := Lib.hid (fun (w1 : World) (P : Nat) (hP : w.heap.size ≤ P) (hb : Below w.heap.size w w1) (hI : RdInv l w P 0 w1) => show Calls Tryz.prog 40 #[.string S, .func (.func 41) #[] #[.pointer (some ⟨P, 0, none⟩)]] w1 fun e w' => e = .returned (.tuple #[.int .i64 0, .bool true]) ∧ RdInv l w P l.length w' from by
    have := each_any 41 (.pointer (some ⟨P, 0, none⟩)) S (l.map lnL) (fun k V => RdInv l w P k V) w1 hS (fun p hp => by
      rw [List.mem_map] at hp
      obtain ⟨x, hx, rfl⟩ := hp
      exact ln_not (hl.2 x hx).2) (by omega) (by rw [List.length_map]; omega) (hT.below hb).ml (fun args V => readN_run args V) (fun V hV => hI.below0 hV hb.size) (fun k p V hp hs hk => by
        rw [List.getElem?_map] at hp
        obtain ⟨x, hx, rfl⟩ := Option.map_eq_some_iff.1 hp
        have hkl : k < l.length := (List.getElem?_eq_some_iff.1 hx).1
        refine (read1_any l w P k x V hx (hl.2 x (List.mem_of_getElem? hx)).2 (by omega) hP hT.ml hk).mono ?_
        rintro e V' ⟨h1, h2, h3, h4⟩
        exact ⟨h1, h2, h3, fun g cs hg h => h4 g cs (by have := hb.size; omega) h⟩)
    rwa [List.length_map] at this)
  have HL := Lib.hid hl
  have HT := Lib.hid (fun V (hV : Below w.heap.size w V) => hT.below hV)
  have hgt : ¬ (200000 : Int) < (S.size : Int) := by omega
  have hI0 : RdInv l w w.heap.size 0 (w.alloc (.cells #[.slice none 0 0] 26)) := ⟨_, heap_new w _, World.ownsRow_nil _ _ _ _, (Below.refl _ _).alloc (Nat.le_refl _) _⟩
  have HI0 := Lib.hid hI0
  have HB0 := Lib.hid ((Below.refl w.heap.size w).alloc (Nat.le_refl _) (.cells #[.slice none 0 0] 26))
  clear hI0 hS hT hl
  go_enter Tryz.func10, Tryz.ntmps10
  go_wp2_with (fail)
  refine (HE.out _ w.heap.size (Nat.le_refl _) HB0.out HI0.out).mono ?_
  rintro e w2 ⟨rfl, v, hb2, ho2, hw2⟩
  obtain ⟨n, hn⟩ : ∃ n, n = l.length := ⟨_, rfl⟩
  rw [← hn, List.take_of_length_le (by omega)] at ho2
  obtain ⟨A2, c2, rfl⟩ := own_slice ho2
  have HN := Lib.hid hn
  have HP2 := Lib.hid hb2
  have HO2 := Lib.hid ho2
  have HB2 := Lib.hid hw2
  have hs2 := hw2.size
  have p0 := cell_of_blk (j := 0) hb2 rfl
  have hp2 : w.heap.size < w2.heap.size := (Array.getElem?_eq_some_iff.1 hb2).1
  clear hn hb2 ho2 hw2 HI0 HB0
  go_wp2_with (fail)
  refine (checkNotes_any l n c2 A2 w2 HL.out HN.out.symm (own_row HO2.out) (HT.out w2 HB2.out).u8).mono ?_
  rintro e w3 ⟨rfl, hb3⟩
  have HF := Lib.hid (show RdPost l w (.returned (.tuple #[.slice A2 n c2, .int .i64 0, .int .i64 0])) w3 from ⟨A2, n, c2, rfl, HN.out, own_belowP HO2.out hb3, HB2.out.trans (hb3.mono hs2)⟩)
  have p1 := (hb3.cell (p := ⟨w.heap.size, 0, none⟩) hp2).trans p0
  clear hb3 p0
  go_wp2_with (fail)
  refine bodyPost_ret (v := .tuple #[.slice A2 n c2, .int .i64 0, .int .i64 0]) (by simp [results, Tryz.results10, go_sem]) rfl HF.out
end Go.Proofs.YtjjfhblaefbpgaaGreatDoor
