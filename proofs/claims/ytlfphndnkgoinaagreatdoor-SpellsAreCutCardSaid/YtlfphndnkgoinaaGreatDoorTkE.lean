/- (*rule.track).advance by its contract, whatever is told of its changes. -/
import Derived.Test.YtlfphndnkgoinaaGreatDoorTkD
import Derived.Test.YtlfphndnkgoinaaGreatDoorMg1
import Derived.Deep.LoopGhost
namespace Go.Proofs.YtlfphndnkgoinaaGreatDoor
open Go.RowKit

/-- Changes in order, all ahead of a moment. -/
structure TmOk (cs : List (Int × Bool)) (e : Int) : Prop where
  pw : (cs.map (·.1)).Pairwise (· < ·)
  bd : ∀ c ∈ cs, 0 ≤ c.1 ∧ c.1 < e
theorem TmOk.nil (e : Int) : TmOk [] e := ⟨by simp, by simp⟩
theorem TmOk.mono {cs : List (Int × Bool)} {e f : Int} (h : TmOk cs e) (hf : e ≤ f) : TmOk cs f := ⟨h.pw, fun c hc => ⟨(h.bd c hc).1, by have := (h.bd c hc).2; omega⟩⟩
theorem TmOk.snoc {cs : List (Int × Bool)} {e : Int} (h : TmOk cs e) (c : Int × Bool) (h0 : 0 ≤ c.1) (he : e ≤ c.1) {f : Int} (hf : c.1 < f) : TmOk (cs ++ [c]) f := by
  refine ⟨?_, fun d hd => ?_⟩
  · rw [List.map_append, List.pairwise_append]
    refine ⟨h.pw, by simp, fun a ha b hb => ?_⟩
    simp only [List.map_cons, List.map_nil, List.mem_singleton] at hb
    subst hb
    obtain ⟨d, hd, rfl⟩ := List.mem_map.1 ha
    have := (h.bd d hd).2
    omega
  · rw [List.mem_append, List.mem_singleton] at hd
    rcases hd with hd | rfl
    · have := h.bd d hd; omega
    · exact ⟨h0, hf⟩
theorem pw_len : ∀ (l : List Int) (a e : Int), l.Pairwise (· < ·) → (∀ x ∈ l, a ≤ x ∧ x < e) → a ≤ e → (l.length : Int) ≤ e - a
  | [], a, e, _, _, h => by simp; omega
  | x :: l, a, e, hp, hb, h => by
    have h1 := List.pairwise_cons.1 hp
    have h2 := hb x List.mem_cons_self
    have := pw_len l (x + 1) e h1.2 (fun y hy => ⟨by have := h1.1 y hy; omega, (hb y (List.mem_cons_of_mem _ hy)).2⟩) (by omega)
    simp only [List.length_cons]
    omega
theorem TmOk.len {cs : List (Int × Bool)} {e : Int} (h : TmOk cs e) (he : 0 ≤ e) : (cs.length : Int) ≤ e := by
  have := pw_len (cs.map (·.1)) 0 e h.pw (fun x hx => by obtain ⟨c, hc, rfl⟩ := List.mem_map.1 hx; exact h.bd c hc) he
  simpa using this
/-- What is told of the changes: the closure and what it keeps in memory. -/
structure ChJ (F : Nat) (caps : Array Value) (B : Nat) (J : List (Int × Bool) → (Nat → Prop) → World → Prop) : Prop where
  run : ∀ (args : Array Value) (V : World), (callFunc F args).run Tryz.prog V = .ok (.enter F args) V
  lt : ∀ cs Q w, J cs Q w → ∀ b, Q b → B ≤ b ∧ b < w.heap.size
  keep : ∀ cs Q w w', J cs Q w → (∀ b, Q b → w'.heap[b]? = w.heap[b]?) → J cs Q w'
  call : ∀ cs Q w at_ up, J cs Q w → Turns false cs (!up) → cs.length ≤ 345686400000 → Calls Tryz.prog F (#[.int .i64 at_, .bool up] ++ caps) w fun e w' => e = .returned (.tuple #[]) ∧ ∃ Q', J (cs ++ [(at_, up)]) Q' w' ∧ GrF w w' Q ∧ ∀ b, Q' b → Q b ∨ w.heap.size ≤ b
structure MemI (B : Nat) (w0 : World) (x : Nat) (v0 : Nat → Value) (Q0 : Nat → Prop) (J : List (Int × Bool) → (Nat → Prop) → World → Prop) (rb : Nat) (r : Ru) (fv : Value) (cs : List (Int × Bool)) (t : Tk) (v : Nat → Value) (Q : Nat → Prop) (w : World) : Prop where
  mem : TkI B w x t (rpV rb) fv v
  rule : RuM w rb r
  j : J cs Q w
  dis : ∀ b, tkF x v b → ¬ Q b
  gr : GrF w0 w (fun b => tkF x v0 b ∨ Q0 b)
  sub : ∀ b, tkF x v b ∨ Q b → tkF x v0 b ∨ Q0 b ∨ w0.heap.size ≤ b
section
variable {B : Nat} {w0 w w' : World} {x : Nat} {v0 v v' : Nat → Value} {Q0 Q Q' : Nat → Prop} {J : List (Int × Bool) → (Nat → Prop) → World → Prop} {rb F : Nat} {r : Ru} {fv : Value} {cs cs' : List (Int × Bool)} {t t' : Tk} {caps : Array Value}
theorem MemI.go (hJ : ChJ F caps B J) (hrb : rb < B) (h : MemI B w0 x v0 Q0 J rb r fv cs t v Q w) (hI : TkI B w' x t' (rpV rb) fv v') (hG : TkGo w w' x v v') : MemI B w0 x v0 Q0 J rb r fv cs t' v' Q w' := by
  have hs := h.gr.size
  refine ⟨hI, fun j u hu => ?_, hJ.keep _ _ _ _ h.j fun b hb => hG.gr.block b (hJ.lt _ _ _ h.j b hb).2 (fun hf => h.dis b hf hb), fun b hf hq => ?_, ?_, fun b hb => ?_⟩
  · have e : w'.cell? ⟨rb, 0 + j, none⟩ = w.cell? ⟨rb, 0 + j, none⟩ := by
      simp only [World.cell?]
      rw [hG.gr.block rb h.rule.lt (fun hf => by have := (h.mem.foot_lt hf).1; omega)]
    rw [e]; exact h.rule j u hu
  · rcases hG.sub b hf with h1 | h1
    · exact h.dis b h1 hq
    · have := (hJ.lt _ _ _ h.j b hq).2; omega
  · refine ⟨hG.gr.os.trans h.gr.os, hG.gr.tape.trans h.gr.tape, hG.gr.output.trans h.gr.output, Nat.le_trans hs hG.gr.size, fun b hb hn => (hG.gr.block b (by omega) (fun hf => ?_)).trans (h.gr.block b hb hn)⟩
    rcases h.sub b (.inl hf) with h1 | h1 | h1
    · exact hn (.inl h1)
    · exact hn (.inr h1)
    · omega
  · rcases hb with hb | hb
    · rcases hG.sub b hb with h1 | h1
      · exact h.sub b (.inl h1)
      · exact .inr (.inr (by omega))
    · exact h.sub b (.inr hb)
theorem MemI.below (hJ : ChJ F caps B J) (h : MemI B w0 x v0 Q0 J rb r fv cs t v Q w) (hb : Below w.heap.size w w') : MemI B w0 x v0 Q0 J rb r fv cs t v Q w' := by
  have hs := h.gr.size
  refine ⟨h.mem.below hb, h.rule.below hb h.rule.lt, hJ.keep _ _ _ _ h.j fun b hq => hb.block b (hJ.lt _ _ _ h.j b hq).2, h.dis, ?_, h.sub⟩
  exact ⟨hb.os.trans h.gr.os, hb.tape.trans h.gr.tape, hb.output.trans h.gr.output, Nat.le_trans hs hb.size, fun b hlt hn => (hb.block b (by omega)).trans (h.gr.block b hlt hn)⟩
theorem MemI.told (hJ : ChJ F caps B J) (hrb : rb < B) (h : MemI B w0 x v0 Q0 J rb r fv cs t v Q w) (hj : J cs' Q' w') (hG : GrF w w' Q) (hQ : ∀ b, Q' b → Q b ∨ w.heap.size ≤ b) : MemI B w0 x v0 Q0 J rb r fv cs' t v Q' w' := by
  have hs := h.gr.size
  refine ⟨h.mem.keep fun b hf => hG.block b (h.mem.foot_lt hf).2 (h.dis b hf), fun j u hu => ?_, hj, fun b hf hq => ?_, ?_, fun b hb => ?_⟩
  · have e : w'.cell? ⟨rb, 0 + j, none⟩ = w.cell? ⟨rb, 0 + j, none⟩ := by
      simp only [World.cell?]
      rw [hG.block rb h.rule.lt (fun hf => by have := (hJ.lt _ _ _ h.j rb hf).1; omega)]
    rw [e]; exact h.rule j u hu
  · rcases hQ b hq with h1 | h1
    · exact h.dis b hf h1
    · have := (h.mem.foot_lt hf).2; omega
  · refine ⟨hG.os.trans h.gr.os, hG.tape.trans h.gr.tape, hG.output.trans h.gr.output, Nat.le_trans hs hG.size, fun b hb hn => (hG.block b (by omega) (fun hf => ?_)).trans (h.gr.block b hb hn)⟩
    rcases h.sub b (.inr hf) with h1 | h1 | h1
    · exact hn (.inl h1)
    · exact hn (.inr h1)
    · omega
  · rcases hb with hb | hb
    · exact h.sub b (.inl hb)
    · rcases hQ b hb with h1 | h1
      · exact h.sub b (.inr h1)
      · exact .inr (.inr (by omega))
end
theorem mid_bg (r : Ru) (t : Tk) : (tkMid r t).bg = t.bg := by unfold tkMid tkUpd; split <;> rfl
def fnV (F : Nat) (caps : Array Value) : Value := .func (.func F) #[] caps
def AdvPost (B : Nat) (w : World) (x : Nat) (v : Nat → Value) (Q : Nat → Prop) (J : List (Int × Bool) → (Nat → Prop) → World → Prop) (rb : Nat) (r : Ru) (fv : Value) (cs : List (Int × Bool)) (before : Int) (t : Tk) (w' : World) : Prop :=
  ∃ ds t' v' Q', Adv r before t ds t' ∧ MemI B w x v Q J rb r fv (cs ++ ds) t' v' Q' w' ∧ Turns false (cs ++ ds) t'.fi ∧ TmOk (cs ++ ds) (tkDue r t')
set_option maxRecDepth 100000 in
set_option maxHeartbeats 4000000 in
theorem advance_any {B x rb n F : Nat} {a : Int} {t : Tk} {r : Ru} {caps : Array Value} {v : Nat → Value} {w : World} {Q : Nat → Prop} {J : List (Int × Bool) → (Nat → Prop) → World → Prop} {cs : List (Int × Bool)} (before : Int) (hJ : ChJ F caps B J) (hR : RuR r) (hrb : rb < B)
    (h : MemI B w x v Q J rb r (fnV F caps) cs t v Q w) (hk : TkOk t n a) (hn : n ≤ 5000) (ha : a ≤ tEnd) (htu : Turns false cs t.fi) (htm : TmOk cs (tkDue r t)) :
    Calls Tryz.prog 83 #[.pointer (some ⟨x, 0, none⟩), .int .i64 before] w fun e w' => e = .returned (.tuple #[]) ∧ AdvPost B w x v Q J rb r (fnV F caps) cs before t w' := by
  have HJ := Lib.hid hJ
  have HR := Lib.hid hR
  have HM := Lib.hid h
  have HK := Lib.hid hk
  have HTU := Lib.hid htu
  have HTM := Lib.hid htm
  clear hJ hR h hk htu htm
  go_enter Tryz.func83, Tryz.ntmps83
  go_wp2_with (fail)
  go_loopg [] ((tEnd - tkDue r t).toNat) (fun k wr => ∃ (tk : Tk) (ck : List (Int × Bool)) (vk : Nat → Value) (Qk : Nat → Prop), Hid (MemI B w x v Q J rb r (fnV F caps) (cs ++ ck) tk vk Qk wr) ∧ Hid (TkOk tk n a) ∧ Hid (Turns false (cs ++ ck) tk.fi) ∧ Hid (TmOk (cs ++ ck) (tkDue r tk)) ∧ Hid (∀ ds t', Adv r before tk ds t' → Adv r before t (ck ++ ds) t') ∧ Hid ((tEnd - tkDue r tk).toNat ≤ k))
  case atStart => exact ⟨t, [], v, Q, Lib.hid (by rw [List.append_nil]; exact HM.out), HK, Lib.hid (by rw [List.append_nil]; exact HTU.out), Lib.hid (by rw [List.append_nil]; exact HTM.out), Lib.hid (fun ds t' h => h), Lib.hid (Nat.le_refl _)⟩
  case round =>
    obtain ⟨tk, ck, vk, Qk, HMk, HKk, HTUk, HTMk, HAk, HNk⟩ := hrel
    have HD := Lib.hid (due_any HMk.out.mem HMk.out.rule HR.out HKk.out ha)
    obtain ⟨d, ed⟩ : ∃ z, z = tkDue r tk := ⟨_, rfl⟩
    rw [← ed] at HD HNk HTMk
    have HED := Lib.hid ed
    clear ed
    go_upto_region 1 with (fail)
    go_wp2_with (fail)
    refine HD.out.mono ?_
    rintro e w1 ⟨rfl, hb1⟩
    have HM1 := Lib.hid (HMk.out.below HJ.out hb1)
    clear hb1 HD HMk
    go_upto_region 1 with (fail)
    go_cut [10] (fun s wx => ∃ bb : Bool, s = .bool bb ∧ wx = w1 ∧ Hid (bb = decide (minI before tEnd ≤ d)))
    case first =>
      rcases Int.lt_or_le 345686400000 before with h1 | h1
      · have h2 : ¬ before ≤ 345686400000 := by omega
        have HE := Lib.hid (show decide ((345686400000 : Int) ≤ d) = decide (minI before tEnd ≤ d) from by unfold minI tEnd; rw [if_pos h1])
        obtain ⟨bb, ebb⟩ : ∃ z, z = decide ((345686400000 : Int) ≤ d) := ⟨_, rfl⟩
        rw [← ebb] at HE
        go_wp2_with (fail)
        go_meet
        exact ⟨_, rfl, rfl, Lib.hid (by rw [← ebb]; exact HE.out)⟩
      · have h2 : ¬ 345686400000 < before := by omega
        have HE := Lib.hid (show decide (before ≤ d) = decide (minI before tEnd ≤ d) from by unfold minI tEnd; rw [if_neg h2])
        go_wp2_with (fail)
        go_meet
        exact ⟨_, rfl, rfl, Lib.hid HE.out⟩
    case rest =>
    obtain ⟨bb, rfl, ewc, HBB⟩ := hcut
    rw [ewc]
    clear ewc
    cases bb
    case true =>
      have HLE := Lib.hid (show minI before tEnd ≤ tkDue r tk from by rw [← HED.out]; exact of_decide_eq_true HBB.out.symm)
      have HEND := Lib.hid (show AdvPost B w x v Q J rb r (fnV F caps) cs before t w1 from ⟨ck, tk, vk, Qk, by have := HAk.out [] tk (.stop _ HLE.out); rwa [List.append_nil] at this, HM1.out, HTUk.out, HED.out ▸ HTMk.out⟩)
      go_wp2_with (fail)
      refine bodyPost_ret (v := .tuple #[]) (by simp [results, Tryz.results83, go_sem]) rfl ⟨rfl, HEND.out⟩
    have HLT := Lib.hid (show d < minI before tEnd from by
      have := of_decide_eq_false HBB.out.symm
      omega)
    have HLE := Lib.hid (show d < tEnd from Int.lt_of_lt_of_le HLT.out (minI_le_right _ _))
    have HD0 := Lib.hid (show 0 ≤ d from by rw [HED.out]; exact HKk.out.due0 (by have := HR.out.long; omega) HR.out.hold.1 HR.out.rest.1)
    have HNX := Lib.hid (show d < tkDue r (tkNext r tk) from by
      have := due_next r tk HR.out.hold.1 HR.out.rest.1 (by rw [← HED.out]; exact HLE.out)
      rw [← HED.out] at this
      exact this)
    have HKN := Lib.hid (HKk.out.next (r := r) (by have := HR.out.long; omega) HR.out.hold.1 HR.out.rest.1)
    have HAN := Lib.hid (show ∀ ds t', Adv r before (tkNext r tk) ds t' → Adv r before t (ck ++ tkChg r tk ++ ds) t' from fun ds t' h => by
      rw [List.append_assoc]
      exact HAk.out _ _ (.step _ _ _ (by rw [← HED.out]; exact HLT.out) h))
    have HGK := Lib.hid (show (tEnd - tkDue r (tkNext r tk)).toNat < gk from by
      have h1 := HNk.out
      have h2 := HNX.out
      have h3 := HLE.out
      omega)
    clear HNk HBB HAk
    -- drop, update
    have HDR := Lib.hid (drop_any d HM1.out.mem HM1.out.rule HR.out HKk.out hn ha hrb)
    have HKD := Lib.hid (HKk.out.drop (r := r) d)
    obtain ⟨td, etd⟩ : ∃ z, z = tkDrop r d tk := ⟨_, rfl⟩
    rw [← etd] at HDR HKD
    have HTD := Lib.hid etd
    clear etd
    go_wp2_with (fail)
    refine HDR.out.mono ?_
    rintro e w2 ⟨rfl, v2, hI2, hG2⟩
    have HM2 := Lib.hid (HM1.out.go HJ.out hrb hI2 hG2)
    clear hI2 hG2 HDR HM1
    have HUP := Lib.hid (update_any d HM2.out.mem HM2.out.rule HR.out HKD.out hn)
    have HKU := Lib.hid (HKD.out.upd (r := r) HD0.out (Int.le_of_lt HLE.out))
    obtain ⟨tm, etm⟩ : ∃ z, z = tkUpd r d td := ⟨_, rfl⟩
    rw [← etm] at HUP HKU
    have HTM := Lib.hid (show tm = tkMid r tk from by rw [etm, HTD.out, HED.out]; rfl)
    clear etm
    go_wp2_with (fail)
    refine HUP.out.mono ?_
    rintro e w3 ⟨rfl, hI3, hG3⟩
    have HM3 := Lib.hid (HM2.out.go HJ.out hrb hI3 hG3)
    clear hI3 hG3 HUP HM2
    have HTN := Lib.hid (turn_any HM3.out.mem HM3.out.rule HR.out HKU.out.si0 HKU.out.si1)
    obtain ⟨tu, etu⟩ : ∃ z, z = tkTurn r tm := ⟨_, rfl⟩
    rw [← etu] at HTN
    have HTUE := Lib.hid etu
    clear etu
    go_wp2_with (fail)
    refine HTN.out.mono ?_
    rintro e w4 ⟨rfl, hb4⟩
    have HM4 := Lib.hid (HM3.out.below HJ.out hb4)
    clear hb4 HTN HM3
    have HFI := Lib.hid (show tm.fi = tk.fi from by rw [HTM.out]; exact mid_fi r tk)
    by_cases hEq : tu = d
    · have HNE := Lib.hid (show tkNext r tk = { tm with fi := !tk.fi, bg := if tk.fi then tk.bg else tkDue r tk } ∧ tkChg r tk = [(tkDue r tk, !tk.fi)] from by
        have h1 : tkTurn r (tkMid r tk) = tkDue r tk := by rw [← HTM.out, ← HTUE.out, ← HED.out]; exact hEq
        unfold tkNext tkChg
        rw [if_pos h1, if_pos h1, HTM.out]
        exact ⟨rfl, rfl⟩)
      have HLNK := Lib.hid (show (cs ++ ck).length ≤ 345686400000 from by
        have h1 := HTMk.out.len HD0.out
        have h2 := HLE.out
        unfold tEnd at h2
        omega)
      have heq : (tu == d) = true := by simpa using hEq
      clear hEq HTUE
      cases hkfi : tk.fi
      case false =>
        have hfi : tm.fi = false := HFI.out.trans hkfi
        have c7 : w4.cell? ⟨x, 7, none⟩ = some (.bool false) := by rw [← hfi]; exact HM4.out.mem.cell 7 _ rfl
        have z7 : w4.frozen? ⟨x, 7, none⟩ = false := by simp [World.frozen?, HM4.out.mem.blk]
        have hlt4 := HM4.out.mem.lt
        have c8 : w4.cell? ⟨x, 8, none⟩ = some (.int .i64 tm.bg) := HM4.out.mem.cell 8 _ rfl
        have z8 : w4.frozen? ⟨x, 8, none⟩ = false := by simp [World.frozen?, HM4.out.mem.blk]
        have hx78 : (⟨x, 7, none⟩ : Addr) ≠ ⟨x, 8, none⟩ := by simp
        have hx87 : (⟨x, 8, none⟩ : Addr) ≠ ⟨x, 7, none⟩ := by simp
        obtain ⟨q1, q2⟩ := HM4.out.mem.num (j := 7) (u := .bool true) (t' := { tm with fi := true }) rfl (fun k _ => by match k with | 0 => rfl | 1 => rfl | _ + 2 => rfl)
        obtain ⟨q3, q4⟩ := q1.num (j := 8) (u := .int .i64 d) (t' := { tm with fi := true, bg := d }) rfl (fun k _ => by match k with | 0 => rfl | 1 => rfl | _ + 2 => rfl)
        have HM5 := Lib.hid (show MemI B w x v Q J rb r (fnV F caps) (cs ++ ck) { tm with fi := true, bg := d } v2 Qk ((w4.setCell ⟨x, 7, none⟩ (.bool true)).setCell ⟨x, 8, none⟩ (.int .i64 d)) from HM4.out.go HJ.out hrb q3 (q2.trans q4))
        have HTN := Lib.hid (show tkNext r tk = { tm with fi := true, bg := d } from by rw [HNE.out.1, hkfi, HED.out]; rfl)
        clear q1 q2 q3 q4
        go_upto_region 8 with (fail)
        obtain ⟨w5, ew5⟩ : ∃ z, z = (w4.setCell ⟨x, 7, none⟩ (.bool true)).setCell ⟨x, 8, none⟩ (.int .i64 d) := ⟨_, rfl⟩
        rw [← ew5] at HM5 ⊢
        clear ew5 c7 z7 hlt4 c8 z8 hx78 hx87
        have hlt5 := HM5.out.mem.lt
        have HQ5 := Lib.hid (fun (V : World) (hV : Below w5.heap.size w5 V) => show V.cell? ⟨x, 7, none⟩ = some (.bool true) ∧ V.cell? ⟨x, 9, none⟩ = some (.func (.func F) #[] caps) from
          ⟨(HM5.out.mem.below hV).cell 7 _ rfl, (HM5.out.mem.below hV).cell 9 _ rfl⟩)
        go_upto_region 8 with (fail)
        refine qRegionTail 9 (by kernel_rfl) (by kernel_rfl) ?_
        simp only [List.take_succ_cons, List.take_zero, List.drop_succ_cons, List.drop_zero]
        repeat (first
          | (go_big_quiet_want; refine qVal (fun V hV => (by (obtain ⟨q0, q1⟩ := HQ5.out V hV; go_simp; try rfl))) ?_; simp only [Act.put, List.setIfInBounds_toArray, List.set_cons_zero, List.set_cons_succ]; go_big_quiet_on)
          | go_big_quiet_skip)
        refine wpQuiet_nil ?_
        intro w6 hb6
        have HM6 := Lib.hid (HM5.out.below HJ.out hb6)
        clear hb6 HQ5
        have hrun := HJ.out.run
        have HC := Lib.hid (HJ.out.call _ _ w6 d true HM6.out.j (by have := HTUk.out; rw [hkfi] at this; exact this) HLNK.out)
        go_wp2_with (fail)
        refine HC.out.mono ?_
        rintro e w7 ⟨rfl, Q7, hj7, hg7, hs7⟩
        have HM7 := Lib.hid (HM6.out.told HJ.out hrb hj7 hg7 hs7)
        clear hj7 hg7 hs7 HC hrun
        go_wp2_with (fail)
        go_roundg ((tEnd - tkDue r (tkNext r tk)).toNat)
        case measure => exact HGK.out
        case rel =>
          have hch : tkChg r tk = [(d, true)] := by rw [HNE.out.2, hkfi, HED.out]; rfl
          refine ⟨tkNext r tk, ck ++ [(d, true)], v2, Q7, Lib.hid (by rw [HTN.out, ← List.append_assoc]; exact HM7.out), HKN, Lib.hid ?_, Lib.hid ?_, Lib.hid (fun ds t' h => ?_), Lib.hid (Nat.le_refl _)⟩
          · rw [← List.append_assoc, HTN.out]
            exact turns_append HTUk.out ⟨by rw [hkfi]; rfl, by rw [hkfi]; rfl⟩
          · rw [← List.append_assoc]
            exact HTMk.out.snoc (d, true) HD0.out (Int.le_refl _) HNX.out
          · have := HAN.out ds t' h
            rw [hch] at this
            exact this
      case true =>
        have hfi : tm.fi = true := HFI.out.trans hkfi
        have c7 : w4.cell? ⟨x, 7, none⟩ = some (.bool true) := by rw [← hfi]; exact HM4.out.mem.cell 7 _ rfl
        have z7 : w4.frozen? ⟨x, 7, none⟩ = false := by simp [World.frozen?, HM4.out.mem.blk]
        have hlt4 := HM4.out.mem.lt
        obtain ⟨q1, q2⟩ := HM4.out.mem.num (j := 7) (u := .bool false) (t' := { tm with fi := false }) rfl (fun k _ => by match k with | 0 => rfl | 1 => rfl | _ + 2 => rfl)
        have HM5 := Lib.hid (show MemI B w x v Q J rb r (fnV F caps) (cs ++ ck) { tm with fi := false } v2 Qk (w4.setCell ⟨x, 7, none⟩ (.bool false)) from HM4.out.go HJ.out hrb q1 q2)
        have HTN := Lib.hid (show tkNext r tk = { tm with fi := false } from by rw [HNE.out.1, hkfi, HTM.out]; show ({ tkMid r tk with fi := false, bg := tk.bg } : Tk) = { tkMid r tk with fi := false }; rw [← mid_bg])
        clear q1 q2
        go_upto_region 8 with (fail)
        obtain ⟨w5, ew5⟩ : ∃ z, z = w4.setCell ⟨x, 7, none⟩ (.bool false) := ⟨_, rfl⟩
        rw [← ew5] at HM5 ⊢
        clear ew5 c7 z7 hlt4 
        have hlt5 := HM5.out.mem.lt
        have HQ5 := Lib.hid (fun (V : World) (hV : Below w5.heap.size w5 V) => show V.cell? ⟨x, 7, none⟩ = some (.bool false) ∧ V.cell? ⟨x, 9, none⟩ = some (.func (.func F) #[] caps) from
          ⟨(HM5.out.mem.below hV).cell 7 _ rfl, (HM5.out.mem.below hV).cell 9 _ rfl⟩)
        go_upto_region 8 with (fail)
        refine qRegionTail 9 (by kernel_rfl) (by kernel_rfl) ?_
        simp only [List.take_succ_cons, List.take_zero, List.drop_succ_cons, List.drop_zero]
        repeat (first
          | (go_big_quiet_want; refine qVal (fun V hV => (by (obtain ⟨q0, q1⟩ := HQ5.out V hV; go_simp; try rfl))) ?_; simp only [Act.put, List.setIfInBounds_toArray, List.set_cons_zero, List.set_cons_succ]; go_big_quiet_on)
          | go_big_quiet_skip)
        refine wpQuiet_nil ?_
        intro w6 hb6
        have HM6 := Lib.hid (HM5.out.below HJ.out hb6)
        clear hb6 HQ5
        have hrun := HJ.out.run
        have HC := Lib.hid (HJ.out.call _ _ w6 d false HM6.out.j (by have := HTUk.out; rw [hkfi] at this; exact this) HLNK.out)
        go_wp2_with (fail)
        refine HC.out.mono ?_
        rintro e w7 ⟨rfl, Q7, hj7, hg7, hs7⟩
        have HM7 := Lib.hid (HM6.out.told HJ.out hrb hj7 hg7 hs7)
        clear hj7 hg7 hs7 HC hrun
        go_wp2_with (fail)
        go_roundg ((tEnd - tkDue r (tkNext r tk)).toNat)
        case measure => exact HGK.out
        case rel =>
          have hch : tkChg r tk = [(d, false)] := by rw [HNE.out.2, hkfi, HED.out]; rfl
          refine ⟨tkNext r tk, ck ++ [(d, false)], v2, Q7, Lib.hid (by rw [HTN.out, ← List.append_assoc]; exact HM7.out), HKN, Lib.hid ?_, Lib.hid ?_, Lib.hid (fun ds t' h => ?_), Lib.hid (Nat.le_refl _)⟩
          · rw [← List.append_assoc, HTN.out]
            exact turns_append HTUk.out ⟨by rw [hkfi]; rfl, by rw [hkfi]; rfl⟩
          · rw [← List.append_assoc]
            exact HTMk.out.snoc (d, false) HD0.out (Int.le_refl _) HNX.out
          · have := HAN.out ds t' h
            rw [hch] at this
            exact this
    · have hne : (tu == d) = false := by simpa using hEq
      have HNE := Lib.hid (show tkNext r tk = tm ∧ tkChg r tk = [] from by
        have h1 : ¬ tkTurn r (tkMid r tk) = tkDue r tk := by rw [← HTM.out, ← HTUE.out, ← HED.out]; exact hEq
        unfold tkNext tkChg
        rw [if_neg h1, if_neg h1, HTM.out]
        exact ⟨rfl, rfl⟩)
      clear hEq
      go_wp2_with (fail)
      go_roundg ((tEnd - tkDue r (tkNext r tk)).toNat)
      case measure => exact HGK.out
      case rel =>
        refine ⟨tm, ck, v2, Qk, HM4, HKU, Lib.hid (by rw [HFI.out]; exact HTUk.out), Lib.hid (HTMk.out.mono (by rw [← HNE.out.1]; exact Int.le_of_lt HNX.out)), Lib.hid (fun ds t' h => ?_), Lib.hid (by rw [HNE.out.1]; exact Nat.le_refl _)⟩
        have := HAN.out ds t' (by rw [HNE.out.1]; exact h)
        rw [HNE.out.2, List.append_nil] at this
        exact this
end Go.Proofs.YtlfphndnkgoinaaGreatDoor
