/- Offers by its contract. -/
import Derived.Test.YtidgicbhgnbidaaGreatDoorCmU
namespace Go.Proofs.YtidgicbhgnbidaaGreatDoor
open Go.RowKit

section
variable {wvN : Nat → Nat} {C : Cm} {F : List Dv}
theorem StO.fold : ∀ (l : List Mk) {s : St} {k : Nat}, StO C F k s → (∀ m ∈ l, MkOk m) → StO C F (k + l.length) (l.foldl (mkV wvN C F) s)
  | [], _, _, h, _ => h
  | m :: l, s, k, h, hm => by
    have := StO.fold l (h.mkv (wvN := wvN) (hm m (List.mem_cons_self ..))) fun x hx => hm x (List.mem_cons_of_mem _ hx)
    rw [List.length_cons, show k + (l.length + 1) = k + 1 + l.length by omega]
    exact this
theorem StO.unv (hC : CmOk C) {t : Int} (ht : 0 ≤ t ∧ t ≤ 1000000) : ∀ (n : Nat) (l : List Mk) {s : St} {k : Nat}, StO C F k s → (∀ m ∈ l, MkOk m) → StO C F (k + l.length) (unV wvN C F t n l s)
  | 0, l, s, k, h, _ => h.mono (by omega)
  | n + 1, [], s, k, h, _ => h.bg hC (by omega) (by omega) 5
  | n + 1, m :: l, s, k, h, hm => by
    have hmo := (hm m (List.mem_cons_self ..)).at_
    rw [unV_cons]
    split
    · have h1 : StO C F k (bgA C (m.at_ - 1) s) := h.bg hC (by omega) (by omega) 5
      have h2 := StO.fold (wvN := wvN) ((m :: l).takeWhile (fun x => x.at_ == m.at_)) h1 fun x hx => hm x (List.takeWhile_prefix (p := fun x : Mk => x.at_ == m.at_) |>.subset hx)
      have h3 := h2.bg hC (t := m.at_) (by omega) (by omega) 5
      have h4 := StO.unv hC ht n ((m :: l).dropWhile (fun x => x.at_ == m.at_)) h3 fun x hx => hm x ((List.dropWhile_sublist _).subset hx)
      have h5 : ((m :: l).takeWhile (fun x => x.at_ == m.at_)).length + ((m :: l).dropWhile (fun x => x.at_ == m.at_)).length = (m :: l).length := by
        rw [← List.length_append, List.takeWhile_append_dropWhile]
      exact h4.mono (by omega)
    · exact (h.bg hC (by omega) (by omega) 5).mono (by omega)
theorem fiV_ok (hC : CmOk C) (hF : FlOk F) {t : Int} (ht : 0 ≤ t ∧ t ≤ 1000000) {l : List Mk} (hl : MksOk l) : StO C F l.length (fiV C F t l) := by
  have := StO.unv (wvN := _root_.Go.Proofs.YtidgicbhgnbidaaGreatDoor.wvN C) hC ht (l.length + 1) l (nwV_ok (wvN := _root_.Go.Proofs.YtidgicbhgnbidaaGreatDoor.wvN C) hC hF) hl.ok
  rw [Nat.zero_add] at this
  exact this
end
def OxPost (C : Cm) (F : List Dv) (s : St) (L : List Im) (w : World) (e : Ending) (w' : World) : Prop :=
  ∃ (A : Option Addr) (c k : Nat) (O : List Ofr), e = .returned (.tuple #[.slice A k c, .int .i64 0]) ∧ k = O.length ∧ OfOk C F s.be.length s.cs L O ∧ w'.ownsRow w.heap.size 83 5 (.slice A k c) k (recs ofC O) ∧ Below w.heap.size w w'
set_option maxRecDepth 100000 in
set_option maxHeartbeats 8000000 in
theorem offersX_any (C : Cm) (F : List Dv) (l : List Mk) (L : List Im) (n c m c2 NL CL : Nat) (A A2 AL : Option Addr) (t : Int) (w : World) (hC : CmOk C) (hF : FlOk F) (hl : MksOk l) (hL : ImsOk L) (hn : F.length = n) (hm : l.length = m) (hNL : L.length = NL) (ht : 0 ≤ t ∧ t ≤ 1000000)
    (hw : Row w w.heap.size C.wa (recs wvC C.ws)) (hI : ImsI w w.heap.size AL L) (hr : Row w w.heap.size A (recs dvC F)) (hr2 : Row w w.heap.size A2 (recs mkC l)) :
    Calls Tryz.prog 27 #[cmV C, .slice AL NL CL, .slice A n c, .slice A2 m c2, .int .i64 0, .int .i64 t] w fun e w' => OxPost C F (fiV C F t l) L w e w' := by
  obtain ⟨gc, egc⟩ : ∃ g, g = w.heap.size := ⟨_, rfl⟩
  obtain ⟨w0, e0⟩ : ∃ V : World, V = w.alloc (cmB C) := ⟨_, rfl⟩
  have hb0 : Below w.heap.size w w0 := by rw [e0]; exact (Below.refl _ _).alloc (Nat.le_refl _) _
  have hc0 : w0.heap[gc]? = some (cmB C) := by rw [e0, egc]; exact heap_new w _
  have HIF := Lib.hid (fun (V : World) (hV : Below w.heap.size w V) => show Row V V.heap.size C.wa (recs wvC C.ws) ∧ ImsI V V.heap.size AL L ∧ Row V V.heap.size A (recs dvC F) ∧ Row V V.heap.size A2 (recs mkC l) from
    ⟨(hw.below hV).mono hV.size, hI.up hV, (hr.below hV).mono hV.size, (hr2.below hV).mono hV.size⟩)
  have HC1 := Lib.hid (fun (V : World) (hV : Below w.heap.size w V) => checkCampaign_any C V hC (HIF.out V hV).1)
  have HC2 := Lib.hid (fun (V : World) (hV : Below w.heap.size w V) => checkImages_any L NL CL AL V (HIF.out V hV).2.1 hNL hL)
  have HC3 := Lib.hid (fun (V : World) (hV : Below w.heap.size w V) => checkFleet_any F n c A V hF hn (HIF.out V hV).2.2.1)
  have HC4 := Lib.hid (fun (V : World) (hV : Below w.heap.size w V) => checkMarks_any l m c2 A2 V hl hm (HIF.out V hV).2.2.2)
  have HC5 := Lib.hid (fun (V : World) => zoneFault_any 0 t V (by omega) ht)
  have HC := Lib.hid hC
  have HF := Lib.hid hF
  have HL := Lib.hid hl
  have HIM := Lib.hid hL
  have HN := Lib.hid (And.intro hn (And.intro hm hNL))
  have HW := Lib.hid hw
  have HI := Lib.hid hI
  have HR := Lib.hid hr
  have HR2 := Lib.hid hr2
  have HB0 := Lib.hid hb0
  have HC0 := Lib.hid hc0
  have hgl := (Array.getElem?_eq_some_iff.1 hc0).1
  have HGC := Lib.hid egc
  obtain ⟨n0, en0⟩ : ∃ k, k = C.ws.length := ⟨_, rfl⟩
  have c0 := cell_of_blk (j := 0) hc0 rfl
  have c1 := cell_of_blk (j := 1) hc0 rfl
  have c2' := cell_of_blk (j := 2) hc0 rfl
  have c3 := cell_of_blk (j := 3) hc0 rfl
  have c4 := cell_of_blk (j := 4) hc0 rfl
  have c5 := cell_of_blk (j := 5) hc0 rfl
  have c6 := cell_of_blk (j := 6) hc0 rfl
  have c7 := cell_of_blk (j := 7) hc0 rfl
  have c8 := cell_of_blk (j := 8) hc0 rfl
  unfold cmB at e0
  unfold cmV at HC1 ⊢
  clear hC hF hl hL hn hm hNL hw hI hr hr2 hb0 hc0
  go_enter Tryz.func27, Tryz.ntmps27
  go_upto_region 1 with (fail)
  rw [← egc, ← e0]
  clear e0 egc
  go_wp2_with (fail)
  refine (HC1.out _ HB0.out).mono ?_
  rintro e w1 ⟨rfl, hb1⟩
  have HD1 := Lib.hid hb1
  have HB1 := Lib.hid (HB0.out.trans (hb1.mono HB0.out.size))
  clear hb1 HC1 c0 c1 c2' c3 c4 c5 c6 c7 c8
  go_wp2_with (fail)
  refine (HC2.out _ HB1.out).mono ?_
  rintro e w2 ⟨rfl, hb2⟩
  have HD2 := Lib.hid (HD1.out.trans (hb2.mono HD1.out.size))
  have HB2 := Lib.hid (HB1.out.trans (hb2.mono HB1.out.size))
  clear hb2 HC2 HD1
  go_wp2_with (fail)
  refine (HC3.out _ HB2.out).mono ?_
  rintro e w3 ⟨rfl, hb3⟩
  have HD3 := Lib.hid (HD2.out.trans (hb3.mono HD2.out.size))
  have HB3 := Lib.hid (HB2.out.trans (hb3.mono HB2.out.size))
  clear hb3 HC3 HD2
  go_wp2_with (fail)
  refine (HC4.out _ HB3.out).mono ?_
  rintro e w4 ⟨rfl, hb4⟩
  have HD4 := Lib.hid (HD3.out.trans (hb4.mono HD3.out.size))
  have HB4 := Lib.hid (HB3.out.trans (hb4.mono HB3.out.size))
  clear hb4 HC4 HD3
  go_wp2_with (fail)
  refine (HC5.out _).mono ?_
  rintro e w5 ⟨rfl, hb5⟩
  have HD5 := Lib.hid (HD4.out.trans (hb5.mono HD4.out.size))
  have HB5 := Lib.hid (HB4.out.trans (hb5.mono HB4.out.size))
  clear hb5 HC5 HD4
  go_wp2_with (fail)
  refine (first_ok 5 5 w5.heap.size _ (by omega) (Cells.new _ _ _ _ _ rfl)).mono ?_
  rintro e w6 ⟨rfl, rfl⟩
  obtain ⟨wA, eA⟩ : ∃ V : World, V = w5.alloc (Obj.cells { toList := Value.int IntKind.i64 0 :: List.replicate 4 (Value.int IntKind.i64 0) } 34 (0, 0)) := ⟨_, rfl⟩
  rw [← eA]
  have hbA : Below w5.heap.size w5 wA := by rw [eA]; exact (Below.refl _ _).alloc (Nat.le_refl _) _
  have HB6 := Lib.hid (HB5.out.trans (hbA.mono HB5.out.size))
  have HC6 := Lib.hid ((((HD5.out.trans (hbA.mono HD5.out.size)).block gc hgl).trans HC0.out))
  clear eA hbA
  have HNS := Lib.hid (newState_any C F n c gc w.heap.size A wA HC.out HF.out HN.out.1 HC6.out (by have := HGC.out; omega) (HW.out.below HB6.out) (HIF.out wA HB6.out).2.2.1)
  go_wp2_with (fail)
  refine HNS.out.mono ?_
  rintro e w7 ⟨a, rfl, ha, hi7, hb7⟩
  have HI7 := Lib.hid hi7
  have HB7 := Lib.hid (HB6.out.trans (hb7.mono HB6.out.size))
  have HA := Lib.hid ha
  clear hb7 hi7 HNS ha
  have HU := Lib.hid (until_any C F a _ l w.heap.size m c2 A2 t w7 HC.out HF.out HL.out HN.out.2.1 ht (nwV_ok HC.out HF.out) HI7.out (HR2.out.below HB7.out))
  go_wp2_with (fail)
  refine HU.out.mono ?_
  rintro e w8 ⟨rfl, hi8, hb8⟩
  have HB8 := Lib.hid (HB7.out.trans hb8)
  have HI8 := Lib.hid (show StI w.heap.size C F (wvN C) a (fiV C F t l) w8 from hi8)
  have hc8 := hi8.cm
  rw [HA.out] at hc8
  have c1 := cell_of_blk (j := 1) hc8 rfl
  have c2' := cell_of_blk (j := 2) hc8 rfl
  have c3 := cell_of_blk (j := 3) hc8 rfl
  have hlc8 := (Array.getElem?_eq_some_iff.1 hc8).1
  clear hi8 hb8 HU hc8
  have hmm := @run_makeMap Tryz.prog
  go_wp2_with (fail)
  obtain ⟨W, eW⟩ : ∃ V : World, V = (w8.alloc (Obj.map #[] 0)).alloc (Obj.cells #[Value.slice AL NL CL, Value.int IntKind.i64 C.t.a, Value.int IntKind.i64 C.t.b, Value.int IntKind.i64 C.t.c, Value.map (some w8.heap.size)] 150) := ⟨_, rfl⟩
  rw [← eW]
  have hbW : Below w8.heap.size w8 W := by rw [eW]; exact ((Below.refl _ _).alloc (Nat.le_refl _) _).alloc (by simp) _
  have hgw : W.heap[w8.heap.size + 1]? = some (.cells #[.slice AL NL CL, .int .i64 C.t.a, .int .i64 C.t.b, .int .i64 C.t.c, .map (some w8.heap.size)] 150 (0, 0)) := by
    rw [eW]
    have := heap_new (w8.alloc (Obj.map #[] 0)) (Obj.cells #[Value.slice AL NL CL, Value.int IntKind.i64 C.t.a, Value.int IntKind.i64 C.t.b, Value.int IntKind.i64 C.t.c, Value.map (some w8.heap.size)] 150)
    simpa using this
  have hgm : W.heap[w8.heap.size]? = some (.map #[] 0) := by
    rw [eW, Below.heap_alloc _ _ _ (by simp)]
    exact zz_heap _ _
  have HBW := Lib.hid (HB8.out.trans (hbW.mono HB8.out.size))
  have HM := Lib.hid (show WyM w.heap.size L C.t AL NL CL (w8.heap.size + 1) w8.heap.size [] W from ⟨hgw, hgm, (fun j hj v hv => by cases hv), HI.out.below HBW.out, HB8.out.size, HBW.out.size⟩)
  have hso := fiV_ok HC.out HF.out ht HL.out
  have HOF := Lib.hid (offers_any C F a (fiV C F t l) L w.heap.size n c l.length NL CL (w8.heap.size + 1) w8.heap.size [] A AL t W HC.out HF.out HIM.out HN.out.1 HN.out.2.2 ht hso (HI8.out.below hbW) HM.out (fun h => by have := HI8.out.lt hso.lc _ h; omega) (HR.out.below HBW.out))
  clear eW hgw hgm hbW hso hmm
  refine HOF.out.mono ?_
  rintro e w10 ⟨A9, c9, k9, O, rfl, hk9, hok, ho9, hb9, _⟩
  have HF9 := Lib.hid (show OxPost C F (fiV C F t l) L w (.returned (.tuple #[.slice A9 k9 c9, .int .i64 0])) w10 from ⟨A9, c9, k9, O, rfl, hk9, hok, ho9, HBW.out.trans hb9⟩)
  clear hk9 hok ho9 hb9 HOF HM
  go_wp2_with (fail)
  refine bodyPost_ret (v := .tuple #[.slice A9 k9 c9, .int .i64 0]) (by simp [results, Tryz.results27, go_sem]) rfl ?_
  exact HF9.out
end Go.Proofs.YtidgicbhgnbidaaGreatDoor
