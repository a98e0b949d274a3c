/- place.cells, place.Cells by their contracts. -/
import Derived.Test.YtdkldbfhbpmjgaaGreatDoorClB
import Derived.Test.YtdkldbfhbpmjgaaGreatDoorFeI
import Derived.Laws.Concat
namespace Go.Proofs.YtdkldbfhbpmjgaaGreatDoor
open Go.RowKit

theorem clF_room (l : List Pt) (m : Nat) (key : List Nat) (out : List (List Nat)) : (clF l m key out).length ≤ max out.length 1001 := by
  obtain ⟨N, e, h⟩ := clF_ok l m key out
  rw [e]
  exact h.len
def kyC (ds : List Nat) : List Value := [.string (kyB ds)]
theorem kyC_len (ds : List Nat) : (kyC ds).length = 1 := rfl
theorem kyC_one (ds : List Nat) : ∀ u ∈ kyC ds, u.oneCell' = true := by
  intro u hu; simp only [kyC, List.mem_singleton] at hu; subst hu; rfl
theorem kyB_snoc (ds : List Nat) (d : Nat) (b : UInt8) (h : b = UInt8.ofNat (48 + d)) : kyB ds ++ ⟨#[b]⟩ = kyB (ds ++ [d]) := by
  subst h
  show ByteArray.append _ _ = _
  simp [kyB, ByteArray.append]
theorem Tryz.infoStrC : (Tryz.prog.info? 9).map (fun i => (i.zero, i.size, i.bytes)) = some (some (.string ⟨#[]⟩), 1, 16) := by kernel_rfl
/-- What cells answers. -/
def CsPost (B : Nat) (out : List (List Nat)) (v : Value) (w : World) (e : Ending) (w' : World) : Prop :=
  ∃ v', e = .returned v' ∧ w'.ownsRow B 9 1 v' out.length (recs kyC out) ∧ w.grownBy w' v.ownBlock ∧ Moved w v v'
/-- What is asked of cells' arguments. -/
structure CsAt (w : World) (l : List Pt) (n c b o B : Nat) (v : Value) (out : List (List Nat)) : Prop where
  len : l.length = n
  pos : 0 < n
  hi : n ≤ 200
  sp : ∀ x ∈ l, SpB x
  cells : Cells w b o (recs ptC l)
  lt : b < B
  own : w.ownsRow B 9 1 v out.length (recs kyC out)
  le : B ≤ w.heap.size
  room : out.length ≤ 1001
theorem CsAt.step {w w' : World} {l : List Pt} {n c b o B : Nat} {v v' : Value} {out out' : List (List Nat)} (h : CsAt w l n c b o B v out) (hg : w.grownBy w' v.ownBlock) (ho : w'.ownsRow B 9 1 v' out'.length (recs kyC out')) (hr : out'.length ≤ 1001) : CsAt w' l n c b o B v' out' :=
  ⟨h.len, h.pos, h.hi, h.sp, h.cells.keep (hg.block b (by have := h.lt; have := h.le; omega) (fun e => by have := (h.own.lt b e.symm).1; have := h.lt; omega)), h.lt, ho, Nat.le_trans h.le hg.size, hr⟩
theorem grown_bel_row {a b : World} (h : Below a.heap.size a b) (v : Value) : a.grownBy b v.ownBlock := bel_grown h _
/-- Behind a part that only lays new blocks. -/
theorem CsPost.behind {B : Nat} {out : List (List Nat)} {v : Value} {w w1 w' : World} {e : Ending} (hb : Below w.heap.size w w1) (h : CsPost B out v w1 e w') : CsPost B out v w e w' := by
  obtain ⟨v', h1, h2, h3, h4⟩ := h
  refine ⟨v', h1, h2, ?_, ?_⟩
  · exact ⟨h3.os.trans hb.os, h3.tape.trans hb.tape, h3.output.trans hb.output, Nat.le_trans hb.size h3.size, fun i hi hn => (h3.block i (Nat.lt_of_lt_of_le hi hb.size) hn).trans (hb.block i hi)⟩
  · rcases h4 with h4 | ⟨g, h5, h6⟩
    · exact .inl h4
    · exact .inr ⟨g, h5, Nat.le_trans hb.size h6⟩
theorem CsPost.same {B : Nat} {out : List (List Nat)} {v : Value} {w w1 : World} (hb : Below w.heap.size w w1) (ho : w1.ownsRow B 9 1 v out.length (recs kyC out)) : CsPost B out v w (.returned v) w1 :=
  ⟨v, rfl, ho, bel_grown hb _, Moved.refl _ _⟩

set_option maxRecDepth 100000 in
set_option maxHeartbeats 4000000 in
theorem cells_zero (l : List Pt) (n c b o lev B : Nat) (ds : List Nat) (out : List (List Nat)) (v : Value) (w : World) (hd : isDs ds) (hdl : ds.length + 0 = lev) (hlev : lev ≤ 15) (hat : CsAt w l n c b o B v out) :
    Calls Tryz.prog 38 #[.slice (some ⟨b, o, none⟩) n c, .string (kyB ds), .int .i64 (lev : Int), v] w fun e w' => CsPost B (clF l 0 ds out) v w e w' := by
  obtain ⟨i0, hi0, hz0, hz1, hz2⟩ := info_parts Tryz.infoStrC
  have hL15 : (kyB ds).size ≤ 15 := by rw [kyB_size]; omega
  have hsz := kyB_size ds
  have HAT := Lib.hid hat
  have hlo := hat.lt
  have hle := hat.le
  have hn0 := hat.pos
  have hroom := hat.room
  have HBO := Lib.hid (fun V => boxI_any ds V hd (by omega))
  have hfi := bx_fine ds hd (by omega)
  have HTC := Lib.hid (fun (V : World) (g : Nat) (hV : Below w.heap.size w V) (hg : V.heap[g]? = some (.cells #[.int .i64 (bxOf ds).1, .int .i64 (bxOf ds).2.1, .int .i64 ((bxOf ds).1 + (bxOf ds).2.2), .int .i64 (bxOf ds).2.1, .int .i64 ((bxOf ds).1 + (bxOf ds).2.2), .int .i64 ((bxOf ds).2.1 + (bxOf ds).2.2), .int .i64 (bxOf ds).1, .int .i64 ((bxOf ds).2.1 + (bxOf ds).2.2)] 54 (0, 0))) =>
    touch_any l (bxL ds) n 4 c 4 b o g 0 V HAT.out.len rfl HAT.out.pos (by omega) (by have := HAT.out.hi; omega) (by omega) HAT.out.sp (boxL_sp hd (by omega)) (HAT.out.cells.keep (hV.block b (by have := HAT.out.lt; have := HAT.out.le; omega)))
      (by
        intro j u hu
        rw [Nat.zero_add]
        refine cell_of_blk hg ?_
        have e : recs ptC (bxL ds) = [.int .i64 (bxOf ds).1, .int .i64 (bxOf ds).2.1, .int .i64 ((bxOf ds).1 + (bxOf ds).2.2), .int .i64 (bxOf ds).2.1, .int .i64 ((bxOf ds).1 + (bxOf ds).2.2), .int .i64 ((bxOf ds).2.1 + (bxOf ds).2.2), .int .i64 (bxOf ds).1, .int .i64 ((bxOf ds).2.1 + (bxOf ds).2.2)] := by simp [recs, ptC, bxL, boxL]
        rw [e] at hu
        simpa using hu)
      (by have := hV.size; omega) (Array.getElem?_eq_some_iff.1 hg).1)
  obtain ⟨x, ex⟩ : ∃ x, x = (bxOf ds).1 := ⟨_, rfl⟩
  obtain ⟨y, ey⟩ : ∃ x, x = (bxOf ds).2.1 := ⟨_, rfl⟩
  obtain ⟨L, eL⟩ : ∃ x, x = (bxOf ds).2.2 := ⟨_, rfl⟩
  rw [← ex, ← ey, ← eL] at HBO HTC hfi
  obtain ⟨t, et⟩ : ∃ t, t = tcB l (bxL ds) := ⟨_, rfl⟩
  rw [← et] at HTC
  have HT := Lib.hid et
  obtain ⟨s, es⟩ : ∃ s, s = kyB ds := ⟨_, rfl⟩
  have HS := Lib.hid es
  rw [← es] at hsz hL15 HBO ⊢
  obtain ⟨q, eq⟩ : ∃ q, q = out.length := ⟨_, rfl⟩
  have HQ := Lib.hid eq
  rw [← eq] at hroom
  obtain ⟨A0, c0, rfl⟩ : ∃ A c, v = .slice A q c := by rw [eq]; exact own_slice hat.own
  have h2p : (2 : Int) ^ (15 - ds.length) ≤ 32768 := pow_le2 (by omega)
  have hxy : -16384 ≤ x ∧ x + L ≤ 16384 ∧ -16384 ≤ y ∧ y + L ≤ 16384 ∧ 1 ≤ L := ⟨hfi.2.1, hfi.2.2.1, hfi.2.2.2.1, hfi.2.2.2.2.1, hfi.2.2.2.2.2⟩
  have w1_ : IntKind.i64.wrap (x + L) = x + L := by rw [IntKind.wrap_i64]; omega
  have w2_ : IntKind.i64.wrap (y + L) = y + L := by rw [IntKind.wrap_i64]; omega
  clear hat hd ex ey eL et es eq hfi h2p
  go_enter Tryz.func38, Tryz.ntmps38
  go_wp2_with (fail)
  refine (HBO.out w).mono ?_
  rintro e w1 ⟨rfl, hb1⟩
  have HB1 := Lib.hid hb1
  clear hb1
  go_upto_region 3 with (fail)
  generalize hV : (w1.alloc (.cells #[.int .i64 x, .int .i64 y] 54)).alloc (.cells #[.int .i64 x, .int .i64 y, .int .i64 (x + L), .int .i64 y, .int .i64 (x + L), .int .i64 (y + L), .int .i64 x, .int .i64 (y + L)] 54) = V
  obtain ⟨gq, egq⟩ : ∃ g, g = w1.heap.size + 1 := ⟨_, rfl⟩
  have hBV : Below w1.heap.size w1 V := by rw [← hV]; exact ((Below.refl _ _).alloc (Nat.le_refl _) _).alloc (by simp) _
  have hvb : V.heap[gq]? = some (.cells #[.int .i64 x, .int .i64 y, .int .i64 (x + L), .int .i64 y, .int .i64 (x + L), .int .i64 (y + L), .int .i64 x, .int .i64 (y + L)] 54 (0, 0)) := by
    rw [← hV, egq]
    have h := heap_new (w1.alloc (.cells #[.int .i64 x, .int .i64 y] 54)) (.cells #[.int .i64 x, .int .i64 y, .int .i64 (x + L), .int .i64 y, .int .i64 (x + L), .int .i64 (y + L), .int .i64 x, .int .i64 (y + L)] 54)
    rwa [World.size_alloc] at h
  have HBV := Lib.hid (HB1.out.trans (hBV.mono HB1.out.size))
  have HVB := Lib.hid hvb
  have HTV := Lib.hid (HTC.out V gq HBV.out hvb)
  rw [← egq]
  clear hV hBV hvb egq HTC
  by_cases hq : 1000 < q
  · have hqI : (1000 : Int) < (q : Int) := by omega
    have HSA := Lib.hid (CsPost.same HBV.out (own_below HAT.out.own HBV.out))
    go_wp2_with (fail)
    go_ret
    rw [show clF l 0 ds out = out by unfold clF; rw [if_pos (.inl (by have := HQ.out; omega))]]
    exact HSA.out
  · have hqI : ¬ (1000 : Int) < (q : Int) := by omega
    go_wp2_with (fail)
    refine HTV.out.mono ?_
    rintro e w3 ⟨rfl, hb3⟩
    have HB3 := Lib.hid (HBV.out.trans (hb3.mono HBV.out.size))
    clear hb3
    cases t with
    | false =>
      have HSA := Lib.hid (CsPost.same HB3.out (own_below HAT.out.own HB3.out))
      go_wp2_with (fail)
      go_ret
      rw [show clF l 0 ds out = out by unfold clF; rw [if_pos (.inr HT.out.symm)]]
      exact HSA.out
    | true =>
      have HNOT := Lib.hid (show ¬ (1000 < out.length ∨ tcB l (bxL ds) = false) from by
        rw [← HT.out]
        rintro (h | h)
        · have := HQ.out; omega
        · cases h)
      have HO3 := Lib.hid (own_below HAT.out.own HB3.out)
      have HOQ := Lib.hid (show w3.ownsRow B 9 1 (.slice A0 q c0) q (recs kyC out) by have h := HO3.out; rw [← HQ.out] at h; exact h)
      have hsI : (s.size : Int) = (lev : Int) := by omega
      clear hsz hL15
      go_wp2_with (at_builtin; refine wpList_append_own2 _ rfl _ _ 47 rfl B 9 i0 (.string ⟨#[]⟩) 1 16 Tryz.underlying47 hi0 hz0 hz1 hz2 rfl (by decide) (.slice A0 q c0) q (recs kyC out) rfl (HOQ.out.alloc _) ⟨w3.heap.size, 0, none⟩ 1 1 [.string s] rfl rfl ?c1 ?c2 ?c3 ?c4 ?c5 ?_)
      case c1 => exact cells_add (Cells.new w3 _ _ _ _ rfl)
      case c2 => intro u hu; simp at hu; subst hu; rfl
      case c3 => unfold maxLen; omega
      case c4 => omega
      case c5 => have := HB3.out.size; simp; omega
      intro v9 w9 ho9 hg9 hm9
      have HFIN := Lib.hid (show CsPost B (clF l 0 ds out) (.slice A0 q c0) w (.returned v9) w9 from by
        rw [show clF l 0 ds out = out ++ [ds] by unfold clF; rw [if_neg HNOT.out]]
        refine CsPost.behind HB3.out ⟨v9, rfl, ?_, grown_of_alloc hg9, moved_of_alloc hm9⟩
        rw [recs_snoc, List.length_append, List.length_singleton, ← HQ.out, show kyC ds = [.string s] by rw [HS.out]; rfl]
        exact ho9)
      clear ho9 hg9 hm9
      go_wp2_with (fail)
      go_ret
      exact HFIN.out

set_option maxRecDepth 100000 in
set_option maxHeartbeats 4000000 in
theorem cells_succ (l : List Pt) (n c b o lev B m : Nat) (ds : List Nat) (out : List (List Nat)) (v : Value) (w : World) (hd : isDs ds) (hdl : ds.length + (m + 1) = lev) (hlev : lev ≤ 15) (hat : CsAt w l n c b o B v out)
    (ih : ∀ (ds : List Nat) (out : List (List Nat)) (v : Value) (w : World), isDs ds → ds.length + m = lev → CsAt w l n c b o B v out → Calls Tryz.prog 38 #[.slice (some ⟨b, o, none⟩) n c, .string (kyB ds), .int .i64 (lev : Int), v] w fun e w' => CsPost B (clF l m ds out) v w e w') :
    Calls Tryz.prog 38 #[.slice (some ⟨b, o, none⟩) n c, .string (kyB ds), .int .i64 (lev : Int), v] w fun e w' => CsPost B (clF l (m + 1) ds out) v w e w' := by
  have IH := Lib.hid ih
  have HDS := Lib.hid hd
  clear ih
  have hL15 : (kyB ds).size ≤ 15 := by rw [kyB_size]; omega
  have hsz := kyB_size ds
  have HAT := Lib.hid hat
  have hlo := hat.lt
  have hle := hat.le
  have hn0 := hat.pos
  have hroom := hat.room
  have HBO := Lib.hid (fun V => boxI_any ds V hd (by omega))
  have hfi := bx_fine ds hd (by omega)
  have HTC := Lib.hid (fun (V : World) (g : Nat) (hV : Below w.heap.size w V) (hg : V.heap[g]? = some (.cells #[.int .i64 (bxOf ds).1, .int .i64 (bxOf ds).2.1, .int .i64 ((bxOf ds).1 + (bxOf ds).2.2), .int .i64 (bxOf ds).2.1, .int .i64 ((bxOf ds).1 + (bxOf ds).2.2), .int .i64 ((bxOf ds).2.1 + (bxOf ds).2.2), .int .i64 (bxOf ds).1, .int .i64 ((bxOf ds).2.1 + (bxOf ds).2.2)] 54 (0, 0))) =>
    touch_any l (bxL ds) n 4 c 4 b o g 0 V HAT.out.len rfl HAT.out.pos (by omega) (by have := HAT.out.hi; omega) (by omega) HAT.out.sp (boxL_sp hd (by omega)) (HAT.out.cells.keep (hV.block b (by have := HAT.out.lt; have := HAT.out.le; omega)))
      (by
        intro j u hu
        rw [Nat.zero_add]
        refine cell_of_blk hg ?_
        have e : recs ptC (bxL ds) = [.int .i64 (bxOf ds).1, .int .i64 (bxOf ds).2.1, .int .i64 ((bxOf ds).1 + (bxOf ds).2.2), .int .i64 (bxOf ds).2.1, .int .i64 ((bxOf ds).1 + (bxOf ds).2.2), .int .i64 ((bxOf ds).2.1 + (bxOf ds).2.2), .int .i64 (bxOf ds).1, .int .i64 ((bxOf ds).2.1 + (bxOf ds).2.2)] := by simp [recs, ptC, bxL, boxL]
        rw [e] at hu
        simpa using hu)
      (by have := hV.size; omega) (Array.getElem?_eq_some_iff.1 hg).1)
  obtain ⟨x, ex⟩ : ∃ x, x = (bxOf ds).1 := ⟨_, rfl⟩
  obtain ⟨y, ey⟩ : ∃ x, x = (bxOf ds).2.1 := ⟨_, rfl⟩
  obtain ⟨L, eL⟩ : ∃ x, x = (bxOf ds).2.2 := ⟨_, rfl⟩
  rw [← ex, ← ey, ← eL] at HBO HTC hfi
  obtain ⟨t, et⟩ : ∃ t, t = tcB l (bxL ds) := ⟨_, rfl⟩
  rw [← et] at HTC
  have HT := Lib.hid et
  have HK := Lib.hid (show ∀ (d : Nat) (c : UInt8) (W : World), c = UInt8.ofNat (48 + d) → (Op.stringOp .add (kyB ds) ⟨#[c]⟩).run Tryz.prog W = .ok (.string (kyB (ds ++ [d]))) W from fun d c W hc => by
    have e : (⟨#[c]⟩ : ByteArray).size = 1 := rfl
    rw [run_string_add_sum W _ _ (by rw [e]; omega), kyB_snoc ds d c hc])
  obtain ⟨s, es⟩ : ∃ s, s = kyB ds := ⟨_, rfl⟩
  have HS := Lib.hid es
  rw [← es] at hsz hL15 HBO ⊢
  rw [← es] at HK
  obtain ⟨q, eq⟩ : ∃ q, q = out.length := ⟨_, rfl⟩
  have HQ := Lib.hid eq
  rw [← eq] at hroom
  obtain ⟨A0, c0, rfl⟩ : ∃ A c, v = .slice A q c := by rw [eq]; exact own_slice hat.own
  have h2p : (2 : Int) ^ (15 - ds.length) ≤ 32768 := pow_le2 (by omega)
  have hxy : -16384 ≤ x ∧ x + L ≤ 16384 ∧ -16384 ≤ y ∧ y + L ≤ 16384 ∧ 1 ≤ L := ⟨hfi.2.1, hfi.2.2.1, hfi.2.2.2.1, hfi.2.2.2.2.1, hfi.2.2.2.2.2⟩
  have w1_ : IntKind.i64.wrap (x + L) = x + L := by rw [IntKind.wrap_i64]; omega
  have w2_ : IntKind.i64.wrap (y + L) = y + L := by rw [IntKind.wrap_i64]; omega
  clear hat hd ex ey eL et es eq hfi h2p
  go_enter Tryz.func38, Tryz.ntmps38
  go_wp2_with (fail)
  refine (HBO.out w).mono ?_
  rintro e w1 ⟨rfl, hb1⟩
  have HB1 := Lib.hid hb1
  clear hb1
  go_upto_region 3 with (fail)
  generalize hV : (w1.alloc (.cells #[.int .i64 x, .int .i64 y] 54)).alloc (.cells #[.int .i64 x, .int .i64 y, .int .i64 (x + L), .int .i64 y, .int .i64 (x + L), .int .i64 (y + L), .int .i64 x, .int .i64 (y + L)] 54) = V
  obtain ⟨gq, egq⟩ : ∃ g, g = w1.heap.size + 1 := ⟨_, rfl⟩
  have hBV : Below w1.heap.size w1 V := by rw [← hV]; exact ((Below.refl _ _).alloc (Nat.le_refl _) _).alloc (by simp) _
  have hvb : V.heap[gq]? = some (.cells #[.int .i64 x, .int .i64 y, .int .i64 (x + L), .int .i64 y, .int .i64 (x + L), .int .i64 (y + L), .int .i64 x, .int .i64 (y + L)] 54 (0, 0)) := by
    rw [← hV, egq]
    have h := heap_new (w1.alloc (.cells #[.int .i64 x, .int .i64 y] 54)) (.cells #[.int .i64 x, .int .i64 y, .int .i64 (x + L), .int .i64 y, .int .i64 (x + L), .int .i64 (y + L), .int .i64 x, .int .i64 (y + L)] 54)
    rwa [World.size_alloc] at h
  have HBV := Lib.hid (HB1.out.trans (hBV.mono HB1.out.size))
  have HVB := Lib.hid hvb
  have HTV := Lib.hid (HTC.out V gq HBV.out hvb)
  rw [← egq]
  clear hV hBV hvb egq HTC
  by_cases hq : 1000 < q
  · have hqI : (1000 : Int) < (q : Int) := by omega
    have HSA := Lib.hid (CsPost.same HBV.out (own_below HAT.out.own HBV.out))
    go_wp2_with (fail)
    go_ret
    rw [show clF l (m + 1) ds out = out by unfold clF; rw [if_pos (.inl (by have := HQ.out; omega))]]
    exact HSA.out
  · have hqI : ¬ (1000 : Int) < (q : Int) := by omega
    go_wp2_with (fail)
    refine HTV.out.mono ?_
    rintro e w3 ⟨rfl, hb3⟩
    have HB3 := Lib.hid (HBV.out.trans (hb3.mono HBV.out.size))
    clear hb3
    cases t with
    | false =>
      have HSA := Lib.hid (CsPost.same HB3.out (own_below HAT.out.own HB3.out))
      go_wp2_with (fail)
      go_ret
      rw [show clF l (m + 1) ds out = out by unfold clF; rw [if_pos (.inr HT.out.symm)]]
      exact HSA.out
    | true =>
      have HNOT := Lib.hid (show ¬ (1000 < out.length ∨ tcB l (bxL ds) = false) from by
        rw [← HT.out]
        rintro (h | h)
        · have := HQ.out; omega
        · cases h)
      have hsI : ¬ (s.size : Int) = (lev : Int) := by omega
      have hsIb : ((s.size : Int) == (lev : Int)) = false := by simp; omega
      clear hsz hL15
      go_wp2_with (fail)
      generalize hU : w3.alloc (.cells #[.string ⟨#[48]⟩, .string ⟨#[49]⟩, .string ⟨#[50]⟩, .string ⟨#[51]⟩] 9) = u0
      obtain ⟨gu, egu⟩ : ∃ g, g = w3.heap.size := ⟨_, rfl⟩
      have hBU : Below w3.heap.size w3 u0 := hU ▸ (Below.refl _ _).alloc (Nat.le_refl _) _
      have hub : u0.heap[gu]? = some (.cells #[.string ⟨#[48]⟩, .string ⟨#[49]⟩, .string ⟨#[50]⟩, .string ⟨#[51]⟩] 9 (0, 0)) := by rw [← hU, egu]; exact heap_new w3 _
      have HBU := Lib.hid (HB3.out.trans (hBU.mono HB3.out.size))
      have hgu : w.heap.size ≤ gu := by rw [egu]; exact HB3.out.size
      have hguU : gu < u0.heap.size := (Array.getElem?_eq_some_iff.1 hub).1
      rw [← egu]
      have HUB := Lib.hid (fun (V : World) (h : u0.grownBy V (Value.slice A0 q c0).ownBlock) => (h.block gu hguU (fun e => by have := (HAT.out.own.lt gu e.symm).2; omega)).trans hub)
      clear hU hBU hub egu
      obtain ⟨v0, ev0⟩ : ∃ v, v = Value.slice A0 q c0 := ⟨_, rfl⟩
      rw [← ev0] at HUB HAT ⊢
      have HCA0 := Lib.hid (HAT.out.step (bel_grown HBU.out _) (own_below HAT.out.own HBU.out) HAT.out.room)
      have HG0 := Lib.hid (grown_refl u0 v0.ownBlock)
      have HM0 := Lib.hid (Moved.refl u0 v0)
      obtain ⟨O0, eO0⟩ : ∃ O, O = out := ⟨_, rfl⟩
      have HO0 := Lib.hid eO0
      rw [← eO0] at HCA0
      have HV0 := Lib.hid ev0
      clear ev0 eO0
      have hr0 := fun W => HK.out 0 48 W rfl
      have hr1 := fun W => HK.out 1 49 W rfl
      have hr2 := fun W => HK.out 2 50 W rfl
      have hr3 := fun W => HK.out 3 51 W rfl
      refine wp_loop_rounds 5 ?_
      rw [rounds_succ]
      have d0 := cell_of_blk (j := 0) (HUB.out u0 HG0.out) rfl
      have HC0 := Lib.hid (IH.out (ds ++ [0]) O0 v0 u0 (HDS.out.snoc (by omega)) (by rw [List.length_append, List.length_singleton]; omega) HCA0.out)
      go_wp2_with (fail)
      refine HC0.out.mono ?_
      rintro e u1 ⟨v1, rfl, ho, hg, hm⟩
      have HG1 := Lib.hid (grown_moved HG0.out HM0.out hg)
      have HM1 := Lib.hid (HM0.out.trans hm HG0.out.size)
      obtain ⟨O1, eO1⟩ : ∃ O, O = clF l m (ds ++ [0]) O0 := ⟨_, rfl⟩
      rw [← eO1] at ho
      have HO1 := Lib.hid eO1
      have HCA1 := Lib.hid (HCA0.out.step hg ho (by rw [eO1]; have := clF_room l m (ds ++ [0]) O0; have := HCA0.out.room; omega))
      clear ho hg hm eO1 d0 HC0
      go_wp2_with (fail)
      rw [rounds_succ]
      have d1 := cell_of_blk (j := 1) (HUB.out u1 HG1.out) rfl
      have HC1 := Lib.hid (IH.out (ds ++ [1]) O1 v1 u1 (HDS.out.snoc (by omega)) (by rw [List.length_append, List.length_singleton]; omega) HCA1.out)
      go_wp2_with (fail)
      refine HC1.out.mono ?_
      rintro e u2 ⟨v2, rfl, ho, hg, hm⟩
      have HG2 := Lib.hid (grown_moved HG1.out HM1.out hg)
      have HM2 := Lib.hid (HM1.out.trans hm HG1.out.size)
      obtain ⟨O2, eO2⟩ : ∃ O, O = clF l m (ds ++ [1]) O1 := ⟨_, rfl⟩
      rw [← eO2] at ho
      have HO2 := Lib.hid eO2
      have HCA2 := Lib.hid (HCA1.out.step hg ho (by rw [eO2]; have := clF_room l m (ds ++ [1]) O1; have := HCA1.out.room; omega))
      clear ho hg hm eO2 d1 HC1
      go_wp2_with (fail)
      rw [rounds_succ]
      have d2 := cell_of_blk (j := 2) (HUB.out u2 HG2.out) rfl
      have HC2 := Lib.hid (IH.out (ds ++ [2]) O2 v2 u2 (HDS.out.snoc (by omega)) (by rw [List.length_append, List.length_singleton]; omega) HCA2.out)
      go_wp2_with (fail)
      refine HC2.out.mono ?_
      rintro e u3 ⟨v3, rfl, ho, hg, hm⟩
      have HG3 := Lib.hid (grown_moved HG2.out HM2.out hg)
      have HM3 := Lib.hid (HM2.out.trans hm HG2.out.size)
      obtain ⟨O3, eO3⟩ : ∃ O, O = clF l m (ds ++ [2]) O2 := ⟨_, rfl⟩
      rw [← eO3] at ho
      have HO3 := Lib.hid eO3
      have HCA3 := Lib.hid (HCA2.out.step hg ho (by rw [eO3]; have := clF_room l m (ds ++ [2]) O2; have := HCA2.out.room; omega))
      clear ho hg hm eO3 d2 HC2
      go_wp2_with (fail)
      rw [rounds_succ]
      have d3 := cell_of_blk (j := 3) (HUB.out u3 HG3.out) rfl
      have HC3 := Lib.hid (IH.out (ds ++ [3]) O3 v3 u3 (HDS.out.snoc (by omega)) (by rw [List.length_append, List.length_singleton]; omega) HCA3.out)
      go_wp2_with (fail)
      refine HC3.out.mono ?_
      rintro e u4 ⟨v4, rfl, ho, hg, hm⟩
      have HG4 := Lib.hid (grown_moved HG3.out HM3.out hg)
      have HM4 := Lib.hid (HM3.out.trans hm HG3.out.size)
      obtain ⟨O4, eO4⟩ : ∃ O, O = clF l m (ds ++ [3]) O3 := ⟨_, rfl⟩
      rw [← eO4] at ho
      have HO4 := Lib.hid eO4
      have HCA4 := Lib.hid (HCA3.out.step hg ho (by rw [eO4]; have := clF_room l m (ds ++ [3]) O3; have := HCA3.out.room; omega))
      clear ho hg hm eO4 d3 HC3
      go_wp2_with (fail)
      rw [rounds_succ]
      have HFIN := Lib.hid (show CsPost B (clF l (m + 1) ds out) v0 w (.returned v4) u4 from by
        rw [show clF l (m + 1) ds out = O4 by
          unfold clF
          rw [if_neg HNOT.out, HO4.out, HO3.out, HO2.out, HO1.out, HO0.out]]
        exact CsPost.behind HBU.out ⟨v4, rfl, HCA4.out.own, HG4.out, HM4.out⟩)
      go_wp2_with (fail)
      go_ret
      rw [← HV0.out]
      exact HFIN.out
theorem cells_any (l : List Pt) (n c b o lev B : Nat) (hlev : lev ≤ 15) (m : Nat) : ∀ (ds : List Nat) (out : List (List Nat)) (v : Value) (w : World), isDs ds → ds.length + m = lev → CsAt w l n c b o B v out →
    Calls Tryz.prog 38 #[.slice (some ⟨b, o, none⟩) n c, .string (kyB ds), .int .i64 (lev : Int), v] w fun e w' => CsPost B (clF l m ds out) v w e w' := by
  induction m with
  | zero => exact fun ds out v w hd hdl hat => cells_zero l n c b o lev B ds out v w hd hdl hlev hat
  | succ m ih => exact fun ds out v w hd hdl hat => cells_succ l n c b o lev B m ds out v w hd hdl hlev hat ih
/-- What Cells answers. -/
def CfPost (l : List Pt) (lev : Nat) (w : World) (e : Ending) (w' : World) : Prop :=
  Below w.heap.size w w' ∧ (e = .returned (.tuple #[.slice none 0 0, .int .i64 2]) ∨ ∃ v, e = .returned (.tuple #[v, .int .i64 0]) ∧ (clF l lev [] []).length ≤ 1000 ∧ w'.ownsRow w.heap.size 9 1 v (clF l lev [] []).length (recs kyC (clF l lev [] [])))

set_option maxRecDepth 100000 in
set_option maxHeartbeats 4000000 in
theorem cellsF_any (l : List Pt) (n c b o lev : Nat) (w : World) (hf : FcAt w l n c b o) (hlev : lev ≤ 15) :
    Calls Tryz.prog 13 #[fcV (some ⟨b, o, none⟩) n c, .int .i64 (lev : Int)] w fun e w' => CfPost l lev w e w' := by
  have hlo := hf.ok.lo
  have hhi := hf.ok.hi
  have hln := hf.len
  have hbw := hf.lt
  have HCF := Lib.hid (fun (V : World) (hV : Below w.heap.size w V) => checkFence_any l n c b o V (hf.below hV))
  have HCE := Lib.hid (fun (V : World) (hV : Below w.heap.size w V) => cells_any l n c b o lev w.heap.size hlev lev [] [] (.slice none 0 0) V (by intro d hd; cases hd) (by simp) ⟨hf.len, by omega, by omega, fun x hx => (hf.ok.sp x hx).wide, (hf.below hV).cells, hbw, World.ownsRow_nil _ _ _ _, hV.size, by simp⟩)
  have HRM := Lib.hid (clF_room l lev [] [])
  obtain ⟨O, eO⟩ : ∃ O, O = clF l lev [] [] := ⟨_, rfl⟩
  rw [← eO] at HCE HRM
  have HO := Lib.hid eO
  have hk0 : kyB [] = ⟨#[]⟩ := rfl
  rw [hk0] at HCE
  clear hf eO hk0
  unfold fcV at HCF ⊢
  go_enter Tryz.func13, Tryz.ntmps13
  go_wp2_with (fail)
  generalize hW : w.alloc (.cells #[.string ⟨#[102]⟩, .slice (some ⟨b, o, none⟩) n c] 28) = W
  obtain ⟨g2, eg2⟩ : ∃ g, g = w.heap.size := ⟨_, rfl⟩
  have hBW : Below w.heap.size w W := hW ▸ (Below.refl _ _).alloc (Nat.le_refl _) _
  have hgW : g2 < W.heap.size := by rw [← hW, eg2]; simp
  have hwb : W.heap[g2]? = some (.cells #[.string ⟨#[102]⟩, .slice (some ⟨b, o, none⟩) n c] 28 (0, 0)) := by rw [← hW, eg2]; exact heap_new w _
  have HBW := Lib.hid hBW
  have HWB := Lib.hid hwb
  rw [← eg2]
  clear hW hBW hwb eg2
  refine (HCF.out W HBW.out).mono ?_
  rintro e w1 ⟨rfl, hb1⟩
  have hw1 := (hb1.block g2 hgW).trans HWB.out
  have q1 := cell_of_blk (j := 1) hw1 rfl
  have HB1 := Lib.hid (HBW.out.trans (hb1.mono HBW.out.size))
  clear hb1 hw1
  go_wp2_with (go_at_call 23; refine (out_no _ _ _ _ (by omega) (by omega)).mono ?_; rintro e w' ⟨rfl, rfl⟩)
  refine (HCE.out w1 HB1.out).mono ?_
  rintro e w2 ⟨v2, rfl, ho2, hg2, hm2⟩
  have HB2 := Lib.hid (HB1.out.grown hg2 HB1.out.size (fun g e => by cases e))
  have HO2 := Lib.hid ho2
  obtain ⟨A2, c2, rfl⟩ := own_slice ho2
  obtain ⟨q, eq⟩ : ∃ q, q = O.length := ⟨_, rfl⟩
  have HQ := Lib.hid eq
  rw [← eq] at HO2 ⊢
  clear ho2 hg2 hm2 eq
  by_cases hq : 1000 < q
  · have hqI : (1000 : Int) < (q : Int) := by omega
    go_wp2_with (fail)
    go_ret2
    exact ⟨HB2.out, .inl rfl⟩
  · have hqI : ¬ (1000 : Int) < (q : Int) := by omega
    go_wp2_with (fail)
    go_ret2
    exact ⟨HB2.out, .inr ⟨_, rfl, by rw [← HO.out, ← HQ.out]; omega, by rw [← HO.out, ← HQ.out]; exact HO2.out⟩⟩
end Go.Proofs.YtdkldbfhbpmjgaaGreatDoor
