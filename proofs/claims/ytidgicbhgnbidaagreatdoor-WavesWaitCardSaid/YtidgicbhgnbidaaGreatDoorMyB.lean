/- Images in memory; whether an image is for a model; covers and taken. Printed by mdl.py out of gen_WyB.py. -/
import Derived.Test.YtidgicbhgnbidaaGreatDoorMyA
import Derived.Test.YtidgicbhgnbidaaGreatDoorMgA
import Derived.Test.YtidgicbhgnbidaaGreatDoorDel
import Derived.Shelf.Abstract
namespace Go.Proofs.YtidgicbhgnbidaaGreatDoor
open Go.RowKit

theorem cells_atV {w : World} {cs : Array Value} {t : TypeId} {f : Nat × Nat} {xs : List Value} {n : Nat} (h : cs.toList = xs) (hn : n = w.heap.size) : Cells (w.alloc (.cells cs t f)) n 0 xs := by
  subst hn
  exact Cells.new _ _ _ _ _ h
def mdT : Nat → ByteArray
  | 0 => ⟨#[109]⟩
  | _ => ⟨#[110]⟩
def mdC (i : Nat) : List Value := [.string (mdT i)]
theorem mdC_len (i : Nat) : (mdC i).length = 1 := rfl
theorem md_beq {i j : Nat} (hi : i < 2) (hj : j < 2) : (mdT i == mdT j) = decide (i = j) ∧ ((mdT i).toList == (mdT j).toList) = decide (i = j) := by
  have h1 : i = 0 ∨ i = 1 := by omega
  have h2 : j = 0 ∨ j = 1 := by omega
  rcases h1 with h | h <;> subst h <;> rcases h2 with h | h <;> subst h <;> exact ⟨by decide +kernel, by decide +kernel⟩
def rgC (r : Rg) : List Value := [.int .i64 r.1.a, .int .i64 r.1.b, .int .i64 r.1.c, .int .i64 r.2.a, .int .i64 r.2.b, .int .i64 r.2.c]
def rgV (r : Rg) : Value := .agg #[.int .i64 r.1.a, .int .i64 r.1.b, .int .i64 r.1.c, .int .i64 r.2.a, .int .i64 r.2.b, .int .i64 r.2.c]
def rgB (r : Rg) : Obj := .cells #[.int .i64 r.1.a, .int .i64 r.1.b, .int .i64 r.1.c, .int .i64 r.2.a, .int .i64 r.2.b, .int .i64 r.2.c] 42 (0, 0)
theorem rgC_len (r : Rg) : (rgC r).length = 6 := rfl
theorem rgC_one (r : Rg) : ∀ u ∈ rgC r, u.oneCell' = true := by
  intro u hu
  simp only [rgC, List.mem_cons, List.not_mem_nil, or_false] at hu
  rcases hu with h | h | h | h | h | h <;> rw [h] <;> rfl
def imC (x : Im) : List Value := [.int .i64 x.v.a, .int .i64 x.v.b, .int .i64 x.v.c, .slice x.ma x.mo.length x.mc, .slice x.fa x.rs.length x.fc, .int .i64 x.sz]
def imV (x : Im) : Value := .agg #[.int .i64 x.v.a, .int .i64 x.v.b, .int .i64 x.v.c, .slice x.ma x.mo.length x.mc, .slice x.fa x.rs.length x.fc, .int .i64 x.sz]
def imB (x : Im) : Obj := .cells #[.int .i64 x.v.a, .int .i64 x.v.b, .int .i64 x.v.c, .slice x.ma x.mo.length x.mc, .slice x.fa x.rs.length x.fc, .int .i64 x.sz] 91 (0, 0)
theorem imC_len (x : Im) : (imC x).length = 6 := rfl
theorem imC_one (x : Im) : ∀ u ∈ imC x, u.oneCell' = true := by
  intro u hu
  simp only [imC, List.mem_cons, List.not_mem_nil, or_false] at hu
  rcases hu with h | h | h | h | h | h <;> rw [h] <;> rfl
/-- What belongs to an image: its models and its ranges, in blocks below a bound. -/
structure ImI (w : World) (b : Nat) (x : Im) : Prop where
  mo : Row w b x.ma (recs mdC x.mo)
  rs : Row w b x.fa (recs rgC x.rs)
theorem ImI.below {w w' : World} {b : Nat} {x : Im} (h : ImI w b x) (hb : Below b w w') : ImI w' b x := ⟨h.mo.below hb, h.rs.below hb⟩
theorem ImI.mono {w : World} {b c : Nat} {x : Im} (h : ImI w b x) (hb : b ≤ c) : ImI w c x := ⟨h.mo.mono hb, h.rs.mono hb⟩
theorem ImI.up {w w' : World} {x : Im} (h : ImI w w.heap.size x) (hb : Below w.heap.size w w') : ImI w' w'.heap.size x := (h.below hb).mono hb.size
/-- A list of images in memory. -/
structure ImsI (w : World) (b : Nat) (A : Option Addr) (L : List Im) : Prop where
  row : Row w b A (recs imC L)
  all : ∀ x ∈ L, ImI w b x
theorem ImsI.below {w w' : World} {b : Nat} {A : Option Addr} {L : List Im} (h : ImsI w b A L) (hb : Below b w w') : ImsI w' b A L := ⟨h.row.below hb, fun x hx => (h.all x hx).below hb⟩
theorem ImsI.mono {w : World} {b c : Nat} {A : Option Addr} {L : List Im} (h : ImsI w b A L) (hb : b ≤ c) : ImsI w c A L := ⟨h.row.mono hb, fun x hx => (h.all x hx).mono hb⟩
theorem ImsI.up {w w' : World} {A : Option Addr} {L : List Im} (h : ImsI w w.heap.size A L) (hb : Below w.heap.size w w') : ImsI w' w'.heap.size A L := (h.below hb).mono hb.size

def mdPost (D : List Nat) (j : Nat) (e : Ending) : Prop := ∃ z : Int, e = .returned (.int .i64 z) ∧ (0 ≤ z ↔ j ∈ D)
set_option maxRecDepth 100000 in
set_option maxHeartbeats 2000000 in
theorem idxM_any (D : List Nat) (n c j : Nat) (A : Option Addr) (w : World) (hn : D.length = n) (hn7 : n ≤ 1000000) (hD : ∀ i ∈ D, i < 2) (hj : j < 2) (hr : Row w w.heap.size A (recs mdC D)) :
    Calls Tryz.prog 85 #[.slice A n c, .string (mdT j)] w fun e w' => mdPost D j e ∧ w = w' := by
  have HR := Lib.hid hr
  have HN := Lib.hid hn
  have HD := Lib.hid hD
  clear hr hn hD
  go_enter Tryz.func85, Tryz.ntmps85
  go_wp2_with (fail)
  go_loopw [8] (fun s wr => ∃ k : Nat, k ≤ n ∧ s = .int .i64 k ∧ Hid (wr = w) ∧ Hid (∀ m i, m < k → D[m]? = some i → i ≠ j)) (fun s _ => n - (intOf s).toNat)
  case atStart => exact ⟨0, Nat.zero_le _, rfl, Lib.hid rfl, Lib.hid (fun m i hm _ => by omega)⟩
  case round =>
    obtain ⟨k, hk, rfl, HW, HK⟩ := hrel
    have hw := HW.out
    subst hw
    by_cases hlt : k < n
    · have hltI : (k : Int) < (n : Int) := by omega
      obtain ⟨x, hx⟩ : ∃ x, D[k]? = some x := ⟨_, List.getElem?_eq_getElem (by have := HN.out; omega)⟩
      obtain ⟨b, o, rfl, hb, hC⟩ := (HR.out).posR mdC_len (by omega) (by have := HN.out; omega)
      have c0 := rec_cell mdC_len hC k x hx 0 _ rfl
      simp only [Nat.mul_one, Nat.add_zero] at c0
      have hx6 := HD.out x (List.mem_of_getElem? hx)
      have e1 := (md_beq hj hx6).1
      have e2 := (md_beq hj hx6).2
      have HX := Lib.hid hx
      clear hC hx
      by_cases hjx : j = x
      · rw [decide_eq_true hjx] at e1 e2
        have HM := Lib.hid (show j ∈ D from by rw [hjx]; exact List.mem_of_getElem? HX.out)
        clear hjx
        go_wp2_with (fail)
        go_ret
        exact ⟨⟨_, rfl, iff_of_true (by omega) HM.out⟩, rfl⟩
      · rw [decide_eq_false hjx] at e1 e2
        have HJ := Lib.hid hjx
        clear hjx
        go_wp2_with (fail)
        go_roundw
        case rel =>
          refine ⟨k + 1, by omega, by go_num, Lib.hid (by simp), Lib.hid (fun m i hm hi => ?_)⟩
          by_cases hmk : m = k
          · subst hmk
            have h2 := HX.out
            rw [hi] at h2
            rw [Option.some.inj h2]
            exact fun e => HJ.out e.symm
          · exact HK.out m i (by omega) hi
        case measure => simp [intOf]; omega
    · have hltI : ¬ (k : Int) < (n : Int) := by omega
      have HM := Lib.hid (show j ∉ D from fun hm => by
        obtain ⟨m, hm⟩ := List.getElem?_of_mem hm
        exact HK.out m j (by have := (List.getElem?_eq_some_iff.1 hm).1; have := HN.out; omega) hm rfl)
      go_wp2_with (fail)
      go_ret
      exact ⟨⟨_, rfl, iff_of_false (by omega) HM.out⟩, rfl⟩
set_option maxRecDepth 100000 in
theorem contM_any (D : List Nat) (n c j : Nat) (A : Option Addr) (w : World) (hn : D.length = n) (hn7 : n ≤ 1000000) (hD : ∀ i ∈ D, i < 2) (hj : j < 2) (hr : Row w w.heap.size A (recs mdC D)) :
    Calls Tryz.prog 40 #[.slice A n c, .string (mdT j)] w fun e w' => e = .returned (.bool (decide (j ∈ D))) ∧ w = w' := by
  have HI := Lib.hid (idxM_any D n c j A w hn hn7 hD hj hr)
  unfold mdPost at HI
  obtain ⟨u, eu⟩ : ∃ u, u = decide (j ∈ D) := ⟨_, rfl⟩
  have HU := Lib.hid eu
  rw [← eu]
  clear hn hD hr eu
  go_enter Tryz.func40, Tryz.ntmps40
  go_wp2_with (fail)
  refine HI.out.mono ?_
  rintro e w1 ⟨⟨z, rfl, hz⟩, rfl⟩
  have HZ := Lib.hid hz
  clear hz
  have HDD := Lib.hid (show decide (0 ≤ z) = u from by rw [HU.out, decide_eq_decide]; exact HZ.out)
  go_wp2_with (fail)
  go_ret
  exact ⟨by rw [← HDD.out]; rfl, rfl⟩

/-- Where the first range stands of which q is true; -1 if there is none. -/
def fstR (q : Rg → Bool) : List Rg → Int
  | [] => -1
  | x :: l => if q x then 0 else if fstR q l = -1 then -1 else fstR q l + 1
theorem fstR_no {q : Rg → Bool} : ∀ {l : List Rg}, (∀ x ∈ l, q x = false) → fstR q l = -1
  | [], _ => rfl
  | x :: l, h => by
    rw [fstR, if_neg (by rw [h x (by simp)]; decide), fstR_no (fun y hy => h y (List.mem_cons_of_mem _ hy))]
    rfl
theorem fstR_ge (q : Rg → Bool) : ∀ (l : List Rg), -1 ≤ fstR q l
  | [] => Int.le_refl _
  | x :: l => by
    have := fstR_ge q l
    rw [fstR]; split
    · omega
    · split <;> omega
theorem fstR_at {q : Rg → Bool} : ∀ {l : List Rg} {k : Nat} {x : Rg}, l[k]? = some x → q x = true → (∀ j y, j < k → l[j]? = some y → q y = false) → fstR q l = (k : Int)
  | [], _, _, h, _, _ => by simp at h
  | y :: l, 0, x, h, hq, _ => by
    have e : y = x := by simpa using h
    rw [fstR, e, if_pos hq]; rfl
  | y :: l, k + 1, x, h, hq, hb => by
    have ih := fstR_at (l := l) (k := k) (x := x) (by simpa using h) hq (fun j z hj hz => hb (j + 1) z (by omega) (by simpa using hz))
    have h0 := hb 0 y (by omega) rfl
    rw [fstR, if_neg (by rw [h0]; decide), ih, if_neg (by omega)]
    omega
set_option maxRecDepth 100000 in
set_option maxHeartbeats 2000000 in
theorem indexR_any (F : Nat) (caps : Array Value) (l : List Rg) (q : Rg → Bool) (n c : Nat) (A : Option Addr) (w : World) (hn : l.length = n) (hn5 : n ≤ 5000) (hr : Row w w.heap.size A (recs rgC l))
    (hrun : ∀ (args : Array Value) (V : World), (callFunc F args).run Tryz.prog V = .ok (.enter F args) V)
    (hf : ∀ (V : World) (x : Rg), x ∈ l → Below w.heap.size w V → Calls Tryz.prog F (#[rgV x] ++ caps) V fun e w' => e = .returned (.bool (q x)) ∧ Below V.heap.size V w') :
    Calls Tryz.prog 45 #[.slice A n c, .func (.func F) #[] caps] w fun e w' => e = .returned (.int .i64 (fstR q l)) ∧ Below w.heap.size w w' := by
  have HR := Lib.hid hr
  have HF := Lib.hid hf
  have HN := Lib.hid hn
  clear hr hf hn
  go_enter Tryz.func45, Tryz.ntmps45
  go_wp2_with (fail)
  go_loopw [8] (fun i wr => ∃ k : Nat, k ≤ n ∧ i = .int .i64 k ∧ (∀ (j : Nat) (y : Rg), j < k → l[j]? = some y → q y = false) ∧ Below w.heap.size w wr) (fun i _ => n - (intOf i).toNat)
  case atStart => exact ⟨0, Nat.zero_le _, rfl, fun j y hj => by omega, Below.refl _ _⟩
  case round =>
    obtain ⟨k, hk, rfl, hno, hbl⟩ := hrel
    have hsz := hbl.size
    have HBL := Lib.hid hbl
    have HNO := Lib.hid hno
    by_cases hlt : k < n
    · obtain ⟨x, hx⟩ : ∃ x, l[k]? = some x := ⟨_, List.getElem?_eq_getElem (by have := HN.out; omega)⟩
      obtain ⟨b, o, rfl, hbw, hC⟩ := (HR.out.below hbl).posR rgC_len (by omega) (by have := HN.out; omega)
      have c0 : wr.cell? ⟨b, o + k * 6, none⟩ = some (.int .i64 x.1.a) := rec_cell rgC_len hC k x hx 0 _ rfl
      have c1 := rec_cell rgC_len hC k x hx 1 _ rfl
      have c2 := rec_cell rgC_len hC k x hx 2 _ rfl
      have c3 := rec_cell rgC_len hC k x hx 3 _ rfl
      have c4 := rec_cell rgC_len hC k x hx 4 _ rfl
      have c5 := rec_cell rgC_len hC k x hx 5 _ rfl
      have HX := Lib.hid hx
      have HCALL := Lib.hid (HF.out wr x (List.mem_of_getElem? hx) hbl)
      obtain ⟨t, et⟩ : ∃ t, t = q x := ⟨_, rfl⟩
      rw [← et] at HCALL
      have HT := Lib.hid et
      unfold rgV at HCALL
      have hlt' : (k : Int) < (n : Int) := by omega
      clear hbl hC hx hno et
      go_wp2_with (fail)
      refine HCALL.out.mono ?_
      rintro e w' ⟨rfl, hbw'⟩
      have HB3 := Lib.hid (show Below w.heap.size w w' from (HBL.out).trans (hbw'.mono hsz))
      clear hbw'
      cases t with
      | true =>
        have HE := Lib.hid (fstR_at HX.out HT.out.symm HNO.out)
        go_wp2_with (fail)
        go_ret
        exact ⟨by rw [HE.out]; rfl, HB3.out⟩
      | false =>
        go_wp2_with (fail)
        go_roundw
        case rel =>
          refine ⟨k + 1, by omega, by go_num, ?_, HB3.out⟩
          intro j y hj hy
          rcases Nat.lt_or_ge j k with h | h
          · exact HNO.out j y h hy
          · obtain rfl : j = k := by omega
            rw [HX.out] at hy
            injection hy with hy
            rw [← hy]
            exact HT.out.symm
        case measure => simp [intOf]; omega
    · have hlt' : ¬ (k : Int) < (n : Int) := by omega
      clear hbl hno
      go_wp2_with (fail)
      go_ret
      have hE : fstR q l = -1 := fstR_no (fun y hy => by
        obtain ⟨j, hj⟩ := List.mem_iff_getElem?.1 hy
        have := (List.getElem?_eq_some_iff.1 hj).1
        exact HNO.out j y (by have := HN.out; omega) hj)
      exact ⟨by rw [hE]; rfl, HBL.out⟩
/-- Is there such a range? -/
theorem containsR_any (F : Nat) (caps : Array Value) (l : List Rg) (q : Rg → Bool) (n c : Nat) (A : Option Addr) (w : World) (hn : l.length = n) (hn5 : n ≤ 5000) (hr : Row w w.heap.size A (recs rgC l))
    (hrun : ∀ (args : Array Value) (V : World), (callFunc F args).run Tryz.prog V = .ok (.enter F args) V)
    (hf : ∀ (V : World) (x : Rg), x ∈ l → Below w.heap.size w V → Calls Tryz.prog F (#[rgV x] ++ caps) V fun e w' => e = .returned (.bool (q x)) ∧ Below V.heap.size V w') :
    Calls Tryz.prog 12 #[.slice A n c, .func (.func F) #[] caps] w fun e w' => e = .returned (.bool (decide (0 ≤ fstR q l))) ∧ Below w.heap.size w w' := by
  have H := Lib.hid (indexR_any F caps l q n c A w hn hn5 hr hrun hf)
  clear hr hf hn hrun
  go_enter Tryz.func12, Tryz.ntmps12
  go_wp2_with (fail)
  refine H.out.mono ?_
  rintro e w1 ⟨rfl, hb⟩
  have HB := Lib.hid hb
  clear hb
  go_wp2_with (fail)
  go_ret
  exact ⟨rfl, HB.out⟩

theorem fstR_any (q : Rg → Bool) : ∀ l : List Rg, decide (0 ≤ fstR q l) = l.any q
  | [] => rfl
  | x :: l => by
    have ih := fstR_any q l
    have hg := fstR_ge q l
    rw [fstR, List.any_cons]
    cases hq : q x with
    | true => simp
    | false =>
      simp only [Bool.false_eq_true, if_false, Bool.false_or]
      rw [← ih, decide_eq_decide]
      split <;> omega
theorem inR_dec {r : Rg} {v : Ve} (hr : RgOk r) (hv : VeOk v) : inR r v = (decide (cmpV r.1 v ≤ 0) && decide (cmpV v r.2 ≤ 0)) := by
  unfold inR
  rw [decide_eq_decide.2 (cmpV_le hr.lo hv), decide_eq_decide.2 (cmpV_le hv hr.hi)]
set_option maxRecDepth 100000 in
theorem cov1_any (r : Rg) (v : Ve) (g : Nat) (w : World) (hr : RgOk r) (hv : VeOk v) (hg : w.heap[g]? = some (veB v)) : Calls Tryz.prog 134 #[rgV r, .pointer (some ⟨g, 0, none⟩)] w fun e w' => e = .returned (.bool (inR r v)) ∧ Below w.heap.size w w' := by
  rw [inR_dec hr hv]
  obtain ⟨w1, e1⟩ : ∃ V : World, V = w.alloc (rgB r) := ⟨_, rfl⟩
  have hb1 : Below w.heap.size w w1 := by rw [e1]; exact (Below.refl _ _).alloc (Nat.le_refl _) _
  have hgl := (Array.getElem?_eq_some_iff.1 hg).1
  have hg1 : w1.heap[g]? = some (veB v) := (hb1.block g hgl).trans hg
  have hn1 : w1.heap[w.heap.size]? = some (rgB r) := by rw [e1]; exact heap_new w _
  have HB1 := Lib.hid hb1
  have HG1 := Lib.hid hg1
  have HN1 := Lib.hid hn1
  have HC0 := Lib.hid (compareV_any r.1 v w1)
  have HC1 := Lib.hid (fun V => compareV_any v r.2 V)
  unfold rgB at e1
  unfold rgV
  unfold veV at HC0 HC1
  have hs1 : w.heap.size < w1.heap.size := (Array.getElem?_eq_some_iff.1 hn1).1
  have hs2 : g < w1.heap.size := (Array.getElem?_eq_some_iff.1 hg1).1
  have k0 := cell_of_blk (j := 0) hn1 rfl
  have k1 := cell_of_blk (j := 1) hn1 rfl
  have k2 := cell_of_blk (j := 2) hn1 rfl
  have v0 := cell_of_blk (j := 0) hg1 rfl
  have v1 := cell_of_blk (j := 1) hg1 rfl
  have v2 := cell_of_blk (j := 2) hg1 rfl
  clear hb1 hg hg1 hn1 hgl hr hv
  go_enter Tryz.func134, Tryz.ntmps134
  go_upto_region 1 with (fail)
  rw [← e1]
  clear e1
  go_wp2_with (fail)
  refine HC0.out.mono ?_
  rintro e w2 ⟨rfl, hb2⟩
  have hs3 := hb2.size
  have hg2 := (hb2.block g hs2).trans HG1.out
  have hn2 := (hb2.block w.heap.size hs1).trans HN1.out
  have HB2 := Lib.hid (HB1.out.trans (hb2.mono HB1.out.size))
  have hs4 : w.heap.size < w2.heap.size := by omega
  have hs5 : g < w2.heap.size := by omega
  have k3 := cell_of_blk (j := 3) hn2 rfl
  have k4 := cell_of_blk (j := 4) hn2 rfl
  have k5 := cell_of_blk (j := 5) hn2 rfl
  have u0 := cell_of_blk (j := 0) hg2 rfl
  have u1 := cell_of_blk (j := 1) hg2 rfl
  have u2 := cell_of_blk (j := 2) hg2 rfl
  clear hb2 hg2 hn2 k0 k1 k2 v0 v1 v2
  by_cases hle : cmpV r.1 v ≤ 0
  · have d1 := decide_eq_true hle
    go_wp2_with (fail)
    refine (HC1.out w2).mono ?_
    rintro e w3 ⟨rfl, hb3⟩
    have HB3 := Lib.hid (HB2.out.trans (hb3.mono HB2.out.size))
    clear hb3
    go_wp2_with (fail)
    go_ret
    exact ⟨by rw [d1, Bool.true_and]; rfl, HB3.out⟩
  · have d1 := decide_eq_false hle
    go_wp2_with (fail)
    go_ret
    exact ⟨by rw [d1, Bool.false_and]; rfl, HB2.out⟩
set_option maxRecDepth 100000 in
theorem covers_im (x : Im) (v : Ve) (w : World) (hI : ImI w w.heap.size x) (hx : ImOk x) (hv : VeOk v) : Calls Tryz.prog 89 #[imV x, veV v] w fun e w' => e = .returned (.bool (cov x v)) ∧ Below w.heap.size w w' := by
  obtain ⟨w1, e1⟩ : ∃ V : World, V = (w.alloc (imB x)).alloc (veB v) := ⟨_, rfl⟩
  have hb1 : Below w.heap.size w w1 := by rw [e1]; exact ((Below.refl _ _).alloc (Nat.le_refl _) _).alloc (by simp) _
  have hn1 : w1.heap[w.heap.size]? = some (imB x) := by rw [e1, Below.heap_alloc _ _ _ (by simp)]; exact heap_new w _
  have hg1 : w1.heap[w.heap.size + 1]? = some (veB v) := by rw [e1]; have := heap_new (w.alloc (imB x)) (veB v); simpa using this
  have hs1 := (Array.getElem?_eq_some_iff.1 hn1).1
  have hs2 := (Array.getElem?_eq_some_iff.1 hg1).1
  have HB1 := Lib.hid hb1
  have HC := Lib.hid (containsR_any 134 #[.pointer (some ⟨w.heap.size + 1, 0, none⟩)] x.rs (fun r => inR r v) x.rs.length x.fc x.fa w1 rfl (by have := hx.rl; omega) (hI.up hb1).rs
    (enters_of Tryz.func134 (by kernel_rfl) rfl) (fun V r hr hV => cov1_any r v (w.heap.size + 1) V (hx.rs r hr).1 hv ((hV.block _ hs2).trans hg1)))
  rw [fstR_any] at HC
  have k4 : w1.cell? ⟨w.heap.size, 4, none⟩ = some (.slice x.fa x.rs.length x.fc) := cell_of_blk hn1 rfl
  unfold imB veB at e1
  unfold imV veV
  change _ at HC
  clear hb1 hn1 hg1 hI hx hv
  go_enter Tryz.func89, Tryz.ntmps89
  go_upto_region 1 with (fail)
  rw [← e1]
  clear e1
  go_wp2_with (fail)
  refine HC.out.mono ?_
  rintro e w2 ⟨rfl, hb2⟩
  have HB2 := Lib.hid (HB1.out.trans (hb2.mono HB1.out.size))
  clear hb2
  go_wp2_with (fail)
  go_ret
  exact ⟨rfl, HB2.out⟩
theorem Tryz.infoIm : (Tryz.prog.info? 91).map (fun i => (i.zero, i.size, i.bytes)) = some (some (.agg #[.int .i64 0, .int .i64 0, .int .i64 0, .slice none 0 0, .slice none 0 0, .int .i64 0]), 6, 80) := by kernel_rfl
theorem hasM_mem [Mdl] (x : Im) : decide (Mdl.j ∈ x.mo) = hasM x := by
  unfold hasM
  rw [Bool.eq_iff_iff, decide_eq_true_eq, List.any_eq_true]
  exact ⟨fun h => ⟨Mdl.j, h, by simp⟩, fun ⟨i, h1, h2⟩ => by rw [beq_iff_eq] at h2; rw [← h2]; exact h1⟩
theorem mo_lt {x : Im} (h : ImOk x) : x.mo.length ≤ 2 ∧ ∀ i ∈ x.mo, i < 2 := by
  rcases h.mo with e | e | e <;> rw [e] <;> exact ⟨by decide, by decide⟩
theorem filter_snoc {α : Type} {p : α → Bool} {l : List α} {k : Nat} {x : α} (h : l[k]? = some x) : (l.take (k + 1)).filter p = (l.take k).filter p ++ (if p x = true then [x] else []) := by
  rw [List.take_add_one, h, List.filter_append]
  simp only [Option.toList, List.filter_cons, List.filter_nil]
def TakPost [Mdl] (L : List Im) (v : Ve) (w : World) (e : Ending) (w' : World) : Prop :=
  ∃ (A : Option Addr) (c n : Nat), n = (tak L v).length ∧ e = .returned (.slice A n c) ∧ w'.ownsRow w.heap.size 91 6 (.slice A n c) n (recs imC (tak L v)) ∧ Below w.heap.size w w'
set_option maxRecDepth 100000 in
set_option maxHeartbeats 4000000 in
theorem taken_any [Mdl] (L : List Im) (v : Ve) (N C : Nat) (AL : Option Addr) (w : World) (hI : ImsI w w.heap.size AL L) (hN : L.length = N) (hL : ImsOk L) (hv : VeOk v) :
    Calls Tryz.prog 48 #[.slice AL N C, .string (mdT Mdl.j), veV v] w fun e w' => TakPost L v w e w' := by
  obtain ⟨ii0, hii0, hzi0, hzi1, hzi2⟩ := info_parts Tryz.infoIm
  have hN8 : N ≤ 8 := by have := hL.len; omega
  obtain ⟨g, eg⟩ : ∃ g, g = w.heap.size := ⟨_, rfl⟩
  obtain ⟨w0, e0⟩ : ∃ V : World, V = w.alloc (veB v) := ⟨_, rfl⟩
  have hb0 : Below w.heap.size w w0 := by rw [e0]; exact (Below.refl _ _).alloc (Nat.le_refl _) _
  have hg0 : w0.heap[g]? = some (veB v) := by rw [e0, eg]; exact heap_new w _
  have hl0 := (Array.getElem?_eq_some_iff.1 hg0).1
  have HI := Lib.hid (hI.up hb0)
  have HB0 := Lib.hid hb0
  have HG0 := Lib.hid hg0
  have HN := Lib.hid hN
  have HL := Lib.hid hL
  have HV := Lib.hid hv
  have HEG := Lib.hid eg
  unfold veB at e0
  unfold veV
  clear hb0 hg0 hN hL hv hI
  go_enter Tryz.func48, Tryz.ntmps48
  go_upto_region 1 with (fail)
  rw [← eg, ← e0]
  clear e0 eg
  go_wp2_with (fail)
  go_loopw [7, 12] (fun s u wx => ∃ (k : Nat) (A : Option Addr) (c n : Nat), k ≤ N ∧ n ≤ k ∧ u = .int .i64 (k : Int) ∧ s = .slice A n c ∧ Hid ((tak (L.take k) v).length = n ∧ wx.ownsRow w0.heap.size 91 6 (.slice A n c) n (recs imC (tak (L.take k) v)) ∧ Below w0.heap.size w0 wx)) (fun _ u _ => N - (intOf u).toNat)
  case atStart => exact ⟨0, none, 0, 0, Nat.zero_le _, Nat.zero_le _, rfl, rfl, Lib.hid ⟨rfl, World.ownsRow_nil _ _ _ _, Below.refl _ _⟩⟩
  case round =>
    obtain ⟨k, A, c, n, hk, hnk, rfl, rfl, HR⟩ := hrel
    by_cases hlt : k < N
    · have hltI : (k : Int) < (N : Int) := by omega
      obtain ⟨x, hx⟩ : ∃ x, L[k]? = some x := ⟨_, List.getElem?_eq_getElem (by have := HN.out; omega)⟩
      have hrw := (HI.out.row.below HR.out.2.2)
      obtain ⟨b, o, rfl, hbw, hC⟩ := hrw.posR imC_len (by omega) (by have := HN.out; omega)
      have hbr : b < wr.heap.size := by have := HR.out.2.2.size; omega
      have c0 : wr.cell? ⟨b, o + k * 6, none⟩ = some (.int .i64 x.v.a) := rec_cell imC_len hC k x hx 0 _ rfl
      have c1 := rec_cell imC_len hC k x hx 1 _ rfl
      have c2 := rec_cell imC_len hC k x hx 2 _ rfl
      have c3 := rec_cell imC_len hC k x hx 3 _ rfl
      have c4 := rec_cell imC_len hC k x hx 4 _ rfl
      have c5 := rec_cell imC_len hC k x hx 5 _ rfl
      have hxm := List.mem_of_getElem? hx
      have HX := Lib.hid (HL.out.ok x hxm)
      have HXE := Lib.hid hx
      have HXI := Lib.hid (((HI.out.all x hxm).below HR.out.2.2).mono HR.out.2.2.size)
      clear hrw hC hx
      go_upto_region 5 with (fail)
      obtain ⟨gx, egx⟩ : ∃ y, y = wr.heap.size := ⟨_, rfl⟩
      obtain ⟨w1, e1⟩ : ∃ V : World, V = wr.alloc (.cells #[.int .i64 x.v.a, .int .i64 x.v.b, .int .i64 x.v.c, .slice x.ma x.mo.length x.mc, .slice x.fa x.rs.length x.fc, .int .i64 x.sz] 91) := ⟨_, rfl⟩
      have hb1 : Below wr.heap.size wr w1 := by rw [e1]; exact (Below.refl _ _).alloc (Nat.le_refl _) _
      have hg1 : w1.heap[gx]? = some (imB x) := by rw [e1, egx]; exact heap_new wr _
      have hgs := HR.out.2.2.size
      have hgx : w0.heap.size ≤ gx := by omega
      rw [← egx, ← e1]
      have HR1 := Lib.hid (show (tak (L.take k) v).length = n ∧ w1.ownsRow w0.heap.size 91 6 (.slice A n c) n (recs imC (tak (L.take k) v)) ∧ Below w0.heap.size w0 w1 from ⟨HR.out.1, own_below HR.out.2.1 hb1, HR.out.2.2.trans (hb1.mono HR.out.2.2.size)⟩)
      have HXI1 := Lib.hid (HXI.out.up hb1)
      have HG1 := Lib.hid hg1
      have hl1 := (Array.getElem?_eq_some_iff.1 hg1).1
      clear egx e1 hb1 c0 c1 c2 c3 c4 c5 hbr
      have k3 : w1.cell? ⟨gx, 3, none⟩ = some (.slice x.ma x.mo.length x.mc) := cell_of_blk hg1 rfl
      have HCM := Lib.hid (contM_any x.mo x.mo.length x.mc Mdl.j x.ma w1 rfl (by have := (mo_lt HX.out).1; omega) (mo_lt HX.out).2 Mdl.lt HXI1.out.mo)
      rw [hasM_mem] at HCM
      clear hg1
      go_cut [24] (fun s wx => s = .bool (hasM x && cov x v) ∧ Below w1.heap.size w1 wx)
      case first =>
        go_wp2_with (fail)
        refine HCM.out.mono ?_
        rintro e w2 ⟨rfl, rfl⟩
        cases hm : hasM x with
        | false =>
          go_wp2_with (fail)
          go_meet
          exact ⟨by rw [hm]; rfl, Below.refl _ _⟩
        | true =>
          have hg1 := HG1.out
          have k0 := cell_of_blk (j := 0) hg1 rfl
          have k1 := cell_of_blk (j := 1) hg1 rfl
          have k2 := cell_of_blk (j := 2) hg1 rfl
          have k4 := cell_of_blk (j := 4) hg1 rfl
          have k5 := cell_of_blk (j := 5) hg1 rfl
          have hv0 := (HR1.out.2.2.block g hl0).trans HG0.out
          have v0 := cell_of_blk (j := 0) hv0 rfl
          have v1 := cell_of_blk (j := 1) hv0 rfl
          have v2 := cell_of_blk (j := 2) hv0 rfl
          have hvl := (Array.getElem?_eq_some_iff.1 hv0).1
          have HCV := Lib.hid (covers_im x v w1 HXI1.out HX.out HV.out)
          unfold imV veV at HCV
          clear hg1 hv0
          go_wp2_with (fail)
          refine HCV.out.mono ?_
          rintro e w3 ⟨rfl, hb3⟩
          go_wp2_with (fail)
          go_meet
          exact ⟨by rw [hm]; simp, hb3⟩
      case rest =>
        obtain ⟨rfl, hb⟩ := hcut
        obtain ⟨w2, rfl⟩ : ∃ wy : World, wy = wc := ⟨_, rfl⟩
        have hw2 := hb.size
        have hg2 := (hb.block gx hl1).trans HG1.out
        have hl2 := (Array.getElem?_eq_some_iff.1 hg2).1
        have HR2 := Lib.hid (show (tak (L.take k) v).length = n ∧ w2.ownsRow w0.heap.size 91 6 (.slice A n c) n (recs imC (tak (L.take k) v)) ∧ Below w0.heap.size w0 w2 from ⟨HR1.out.1, own_below HR1.out.2.1 hb, HR1.out.2.2.trans (hb.mono HR1.out.2.2.size)⟩)
        have HSN := Lib.hid (show tak (L.take (k + 1)) v = tak (L.take k) v ++ (if (hasM x && cov x v) = true then [x] else []) from filter_snoc HXE.out)
        clear hb k3 HCM
        cases hmc : (hasM x && cov x v) with
        | false =>
          rw [hmc] at HSN
          have HE := Lib.hid (show tak (L.take (k + 1)) v = tak (L.take k) v from HSN.out.trans (by simp))
          clear hg2
          go_wp2_with (fail)
          go_roundw
          case rel => exact ⟨k + 1, A, c, n, by omega, by omega, by go_num, rfl, Lib.hid (by rw [HE.out]; exact HR2.out)⟩
          case measure => simp [intOf]; omega
        | true =>
          rw [hmc] at HSN
          have HE := Lib.hid (show tak (L.take (k + 1)) v = tak (L.take k) v ++ [x] from HSN.out.trans (by simp))
          have k0 := cell_of_blk (j := 0) hg2 rfl
          have k1 := cell_of_blk (j := 1) hg2 rfl
          have k2 := cell_of_blk (j := 2) hg2 rfl
          have k3 := cell_of_blk (j := 3) hg2 rfl
          have k4 := cell_of_blk (j := 4) hg2 rfl
          have k5 := cell_of_blk (j := 5) hg2 rfl
          have hba : Below w2.heap.size w2 (w2.alloc (imB x)) := (Below.refl _ _).alloc (Nat.le_refl _) _
          have HAL := Lib.hid (own_below HR2.out.2.1 hba)
          have HBA := Lib.hid (HR2.out.2.2.trans (hba.mono HR2.out.2.2.size))
          have hbs : w0.heap.size ≤ (w2.alloc (imB x)).heap.size := HBA.out.size
          clear hg2 hba
          unfold imB at hbs HAL
          go_wp2_with (at_builtin; refine wpList_append_own2 _ rfl _ _ 26 rfl w0.heap.size 91 ii0 _ 6 80 Tryz.underlying26 hii0 hzi0 hzi1 hzi2 rfl (by decide) _ _ _ rfl HAL.out ⟨_, 0, none⟩ 1 1 (imC x) rfl rfl ?c1 ?c2 ?c3 ?c4 ?c5 ?_)
          case c1 => exact fun j u h => h
          case c2 => exact imC_one x
          case c3 => unfold maxLen; omega
          case c4 => omega
          case c5 => (have := HR2.out.2.2.size; omega)
          intro v13 w13 ho13 hg13 hm13
          obtain ⟨A3, c3, rfl⟩ := own_slice ho13
          have HB3 := Lib.hid (HBA.out.grown hg13 HBA.out.size (fun q hq => (HAL.out.lt q hq).1))
          have HR3 := Lib.hid (show (tak (L.take (k + 1)) v).length = n + 1 ∧ w13.ownsRow w0.heap.size 91 6 (.slice A3 (n + 1) c3) (n + 1) (recs imC (tak (L.take (k + 1)) v)) ∧ Below w0.heap.size w0 w13 from ⟨by rw [HE.out, List.length_append, HR2.out.1]; rfl, by
            have e : recs imC (tak (L.take (k + 1)) v) = recs imC (tak (L.take k) v) ++ imC x := by rw [HE.out]; simp [recs]
            rw [e]; exact ho13, HB3.out⟩)
          clear ho13 hg13 hm13 hbs HAL HBA k0 k1 k2 k3 k4 k5
          go_wp2_with (fail)
          go_roundw
          case rel => exact ⟨k + 1, A3, c3, n + 1, by omega, by omega, by go_num, rfl, HR3⟩
          case measure => simp [intOf]; omega
    · have hltI : ¬ (k : Int) < (N : Int) := by omega
      have hkN : L.take k = L := List.take_of_length_le (by have := HN.out; omega)
      have HF := Lib.hid (show TakPost L v w (.returned (.slice A n c)) wr from by
        have h := HR.out
        rw [hkN] at h
        exact ⟨A, c, n, h.1.symm, rfl, own_mono h.2.1 HB0.out.size, HB0.out.trans (h.2.2.mono HB0.out.size)⟩)
      go_wp2_with (fail)
      go_ret
      exact HF.out
end Go.Proofs.YtidgicbhgnbidaaGreatDoor
