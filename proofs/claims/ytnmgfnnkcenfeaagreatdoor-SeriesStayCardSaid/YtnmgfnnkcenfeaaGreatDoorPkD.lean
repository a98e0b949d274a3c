/- Packed of the stream: what it makes, as a function of its list. -/
import Derived.Test.YtnmgfnnkcenfeaaGreatDoorPkC
import Derived.Test.YtnmgfnnkcenfeaaGreatDoorFlD
namespace Go.Proofs.YtnmgfnnkcenfeaaGreatDoor
open Go.RowKit

def litB : List (List Int) := [[], [0], [0, 0], [128, 0], [1, 128, 0, 0], [255, 255, 255, 255, 255, 255, 255, 255, 255, 1]]
/-- The bytes ahead of the second throw. -/
def pkG (xs : LiA) (k : Nat) : List Int × Nat :=
  if nextV xs (k + 1 + 2 * nextN xs k 9) 3 = 0 then byG xs (1 + nextN xs (k + 1 + 2 * nextN xs k 9 + 1) 2) (packL (serL xs (k + 1) (-100) (nextN xs k 9))) (k + 1 + 2 * nextN xs k 9 + 1 + 1)
  else (packL (serL xs (k + 1) (-100) (nextN xs k 9)), k + 1 + 2 * nextN xs k 9 + 1)
def pkF (xs : LiA) (k : Nat) : List Int × Nat :=
  if nextV xs (pkG xs k).2 25 = 0 then (litB.getD (nextN xs ((pkG xs k).2 + 1) 6) [], (pkG xs k).2 + 2)
  else ((pkG xs k).1, (pkG xs k).2 + 1)
theorem packS_ok (l : List Smp) : ∀ (a b v : Int) (f : Bool), StepsOk a b v f l → BytesOk (packS a b v f l) := by
  induction l with
  | nil => intro a b v f _ y hy; cases hy
  | cons x l ih =>
    intro a b v f h y hy
    simp only [StepsOk] at h
    obtain ⟨h1, h2, h3, h4, h5⟩ := h
    have hs : ∀ n : Nat, n < 16384 → BytesOk (sev n) := by
      intro n hn y hy
      unfold sev at hy
      split at hy
      · rw [List.mem_singleton] at hy; omega
      · simp only [List.mem_cons, List.not_mem_nil, or_false] at hy
        rcases hy with h | h <;> omega
    simp only [packS, List.mem_append] at hy
    rcases hy with (hy | hy) | hy
    · exact hs _ (dbl_lt _ h1 h2) y hy
    · exact hs _ (dbl_lt _ h3 h4) y hy
    · exact ih _ _ _ _ h5 y hy
theorem packL_ok {l : List Smp} (hl : l.length ≤ 1000) (h : StepsOk 0 0 0 true l) : BytesOk (packL l) := by
  intro y hy
  unfold packL at hy
  rcases List.mem_append.1 hy with h1 | h1
  · unfold sev at h1
    split at h1
    · rw [List.mem_singleton] at h1; omega
    · simp only [List.mem_cons, List.not_mem_nil, or_false] at h1
      rcases h1 with h | h <;> omega
  · exact packS_ok l 0 0 0 true h y h1
theorem packS_le (l : List Smp) : ∀ (a b v : Int) (f : Bool), (packS a b v f l).length ≤ 4 * l.length := by
  induction l with
  | nil => intros; simp [packS]
  | cons x l ih =>
    intro a b v f
    have h1 := sev_len2 (dbl (x.1 - a - b))
    have h2 := sev_len2 (dbl (x.2 - v))
    have h3 := ih x.1 (if f = true then b else x.1 - a) x.2 false
    simp only [packS, List.length_append, List.length_cons]
    omega
theorem packL_le (l : List Smp) : 1 ≤ (packL l).length ∧ (packL l).length ≤ 4 * l.length + 2 := by
  have h1 := sev_len2 l.length
  have h2 := packS_le l 0 0 0 true
  simp only [packL, List.length_append]
  omega
theorem byT_le (ys : List Int) (k i t m : Nat) (hi : i < ys.length) : (byT ys k i t m).1.length ≤ ys.length + 1 ∧ (byT ys k i t m).2 ≤ k + 3 := by
  unfold byT
  repeat' split
  all_goals simp only [List.length_append, List.length_take, List.length_drop, List.length_set]
  all_goals omega
theorem byG_le (xs : LiA) : ∀ (j : Nat) (ys : List Int) (k : Nat), (byG xs j ys k).1.length ≤ ys.length + j + 1 ∧ (byG xs j ys k).2 ≤ k + 3 * j := by
  intro j
  induction j with
  | zero => intro ys k; simp [byG]
  | succ j ih =>
    intro ys k
    rw [byG]
    split
    · simp only [List.length_singleton]; omega
    · next h =>
      have h1 := ih (byS xs ys k).1 (byS xs ys k).2
      have h2 := byT_le ys k (nextN xs k ys.length) (nextN xs (k + 1) 4) (nextN xs (k + 2) 8) (nextN_lt _ _ _ (by omega))
      unfold byS at h1 ⊢
      omega
def PkPost (w : World) (p k : Nat) (xs : LiA) (e : Ending) (w' : World) : Prop :=
  ∃ (L : List Int) (A : Option Addr) (c n k' : Nat), (L, k') = pkF xs k ∧ e = .returned (.slice A n c) ∧ L.length = n ∧ n ≤ 100 ∧ BytesOk L ∧ w'.ownsRow w.heap.size 5 1 (.slice A n c) n (bytesV L) ∧ w.grownBy w' (some p)
theorem lit6 (w : World) (o0 o1 o2 o3 o4 o5 : Obj) (b : Nat) (hb : b = w.heap.size) (V : World) (hV : V = (((((w.alloc o0).alloc o1).alloc o2).alloc o3).alloc o4).alloc o5) :
    V.heap[b]? = some o0 ∧ V.heap[b + 1]? = some o1 ∧ V.heap[b + 1 + 1]? = some o2 ∧ V.heap[b + 1 + 1 + 1]? = some o3 ∧ V.heap[b + 1 + 1 + 1 + 1]? = some o4 ∧ V.heap[b + 1 + 1 + 1 + 1 + 1]? = some o5 ∧ Below w.heap.size w V ∧ V.heap.size = b + 6 := by
  subst hb hV
  have h0 := heap_new w o0
  have h1 := heap_new (w.alloc o0) o1
  have h2 := heap_new ((w.alloc o0).alloc o1) o2
  have h3 := heap_new (((w.alloc o0).alloc o1).alloc o2) o3
  have h4 := heap_new ((((w.alloc o0).alloc o1).alloc o2).alloc o3) o4
  have h5 := heap_new (((((w.alloc o0).alloc o1).alloc o2).alloc o3).alloc o4) o5
  simp only [World.size_alloc] at h1 h2 h3 h4 h5
  have e : ∀ (u : World) (o : Obj) (k : Nat) (x : Obj), u.heap[k]? = some x → (u.alloc o).heap[k]? = some x := fun u o k x h => (Below.heap_alloc _ _ _ (Array.getElem?_eq_some_iff.1 h).1).trans h
  have hb : Below w.heap.size w ((((((w.alloc o0).alloc o1).alloc o2).alloc o3).alloc o4).alloc o5) := ((((((Below.refl _ _).alloc (Nat.le_refl _) _).alloc (by simp only [World.size_alloc]; omega) _).alloc (by simp only [World.size_alloc]; omega) _).alloc (by simp only [World.size_alloc]; omega) _).alloc (by simp only [World.size_alloc]; omega) _).alloc (by simp only [World.size_alloc]; omega) _
  exact ⟨e _ _ _ _ (e _ _ _ _ (e _ _ _ _ (e _ _ _ _ (e _ _ _ _ h0)))), e _ _ _ _ (e _ _ _ _ (e _ _ _ _ (e _ _ _ _ h1))), e _ _ _ _ (e _ _ _ _ (e _ _ _ _ h2)), e _ _ _ _ (e _ _ _ _ h3), e _ _ _ _ h4, h5, hb, by simp only [World.size_alloc]⟩
theorem litB_ok (i : Nat) : BytesOk (litB.getD i []) ∧ (litB.getD i []).length ≤ 10 := by
  match i with
  | 0 => exact ⟨by unfold BytesOk; decide, by decide⟩
  | 1 => exact ⟨by unfold BytesOk; decide, by decide⟩
  | 2 => exact ⟨by unfold BytesOk; decide, by decide⟩
  | 3 => exact ⟨by unfold BytesOk; decide, by decide⟩
  | 4 => exact ⟨by unfold BytesOk; decide, by decide⟩
  | 5 => exact ⟨by unfold BytesOk; decide, by decide⟩
  | n + 6 => exact ⟨by intro y hy; simp [litB] at hy, by simp [litB]⟩
theorem own_lit {w : World} {B g : Nat} {e : TypeId} {L : List Value} (hB : B ≤ g) (h : w.heap[g]? = some (.cells L.toArray e (0, 0))) (hm : L.length ≤ 1000) : w.ownsRow B e 1 (.slice (some ⟨g, 0, none⟩) L.length L.length) L.length L :=
  ⟨by simp, .inr ⟨g, L.length, L.toArray, rfl, hB, h, Nat.le_refl _, by unfold maxLen; omega, by simp, by simp⟩⟩
/-- Next(6) behind the literal of six slices: the slice that it chooses. -/
def LnPost (w : World) (b p k : Nat) (xs : LiA) (e : Ending) (w' : World) : Prop :=
  ∃ (i n : Nat) (A : Option Addr), i < 6 ∧ nextN xs k 6 = i ∧ e = .returned (.int .i64 (i : Int)) ∧ w'.cell? ⟨b + 1 + 1 + 1 + 1 + 1, i, none⟩ = some (.slice A n n) ∧ (litB.getD i []).length = n ∧ n ≤ 100 ∧ w'.ownsRow w.heap.size 5 1 (.slice A n n) n (bytesV (litB.getD i [])) ∧ Strm w' p xs (k + 1) ∧ w.grownBy w' (some p)
theorem lit_next (w : World) (b p k : Nat) (xs : LiA) (hb : b = w.heap.size) (hk : k < 1000000) (hs : Strm w p xs k) (tb ts : TypeId) (htb : tb = 5)
    (V : World) (hV : V = (((((w.alloc (.cells #[.int .u8 0] tb)).alloc (.cells #[.int .u8 0, .int .u8 0] tb)).alloc (.cells #[.int .u8 128, .int .u8 0] tb)).alloc (.cells #[.int .u8 1, .int .u8 128, .int .u8 0, .int .u8 0] tb)).alloc (.cells #[.int .u8 255, .int .u8 255, .int .u8 255, .int .u8 255, .int .u8 255, .int .u8 255, .int .u8 255, .int .u8 255, .int .u8 255, .int .u8 1] tb)).alloc (.cells #[.slice none 0 0, .slice (some ⟨b, 0, none⟩) 1 1, .slice (some ⟨b + 1, 0, none⟩) 2 2, .slice (some ⟨b + 1 + 1, 0, none⟩) 2 2, .slice (some ⟨b + 1 + 1 + 1, 0, none⟩) 4 4, .slice (some ⟨b + 1 + 1 + 1 + 1, 0, none⟩) 10 10] ts)) :
    Calls Tryz.prog 26 #[.pointer (some ⟨p, 0, none⟩), .int .i64 6] V fun e w' => LnPost w b p k xs e w' := by
  obtain ⟨h0, h1, h2, h3, h4, h5, hB, hsz⟩ := lit6 w _ _ _ _ _ _ b hb V hV
  clear hV
  subst htb
  refine (next_any V p k xs 6 (by omega) (by omega) (hs.below hB)).mono ?_
  rintro e w' ⟨rfl, hst, hg⟩
  have hp := hs.lt
  have kp : ∀ g o, V.heap[g]? = some o → b ≤ g → w'.heap[g]? = some o := fun g o h hg' => by
    have hlt := (Array.getElem?_eq_some_iff.1 h).1
    rw [hg.block g hlt (by intro hc; injection hc with hc; omega)]
    exact h
  replace h0 := kp _ _ h0 (by omega)
  replace h1 := kp _ _ h1 (by omega)
  replace h2 := kp _ _ h2 (by omega)
  replace h3 := kp _ _ h3 (by omega)
  replace h4 := kp _ _ h4 (by omega)
  replace h5 := kp _ _ h5 (by omega)
  have hi := nextN_lt xs k 6 (by omega)
  have he := nextN_eq xs k 6 (by omega)
  have hG := grown_trans (grown_belowP (r := some p) hB) hg
  obtain ⟨i, ei⟩ : ∃ i, i = nextN xs k 6 := ⟨_, rfl⟩
  rw [← ei] at hi he
  have he' : nextV xs k 6 = (i : Int) := he
  have hc : i = 0 ∨ i = 1 ∨ i = 2 ∨ i = 3 ∨ i = 4 ∨ i = 5 := by omega
  rcases hc with rfl | rfl | rfl | rfl | rfl | rfl
  · exact ⟨0, 0, none, by omega, ei.symm, by rw [he'], by simp [World.cell?, h5], rfl, by omega, ⟨by simp [litB, bytesV], .inl ⟨rfl, rfl⟩⟩, hst, hG⟩
  · exact ⟨1, 1, _, by omega, ei.symm, by rw [he'], by simp [World.cell?, h5], rfl, by omega, own_lit (L := bytesV [0]) (by omega) h0 (by decide), hst, hG⟩
  · exact ⟨2, 2, _, by omega, ei.symm, by rw [he'], by simp [World.cell?, h5], rfl, by omega, own_lit (L := bytesV [0, 0]) (by omega) h1 (by decide), hst, hG⟩
  · exact ⟨3, 2, _, by omega, ei.symm, by rw [he'], by simp [World.cell?, h5], rfl, by omega, own_lit (L := bytesV [128, 0]) (by omega) h2 (by decide), hst, hG⟩
  · exact ⟨4, 4, _, by omega, ei.symm, by rw [he'], by simp [World.cell?, h5], rfl, by omega, own_lit (L := bytesV [1, 128, 0, 0]) (by omega) h3 (by decide), hst, hG⟩
  · exact ⟨5, 10, _, by omega, ei.symm, by rw [he'], by simp [World.cell?, h5], rfl, by omega, own_lit (L := bytesV [255, 255, 255, 255, 255, 255, 255, 255, 255, 1]) (by omega) h4 (by decide), hst, hG⟩
set_option maxRecDepth 100000 in
set_option maxHeartbeats 8000000 in
theorem packed_any (w : World) (p k : Nat) (xs : LiA) (hk : k < 700000) (hs : Strm w p xs k) :
    Calls Tryz.prog 6 #[.pointer (some ⟨p, 0, none⟩)] w fun e w' => PkPost w p k xs e w' := by
  have hN := nextN_lt xs k 9 (by omega)
  have hplt := hs.lt
  have HS := Lib.hid hs
  clear hs
  go_enter Tryz.func6, Tryz.ntmps6
  go_wp2_with (fail)
  refine (rightSeries_any w p k 8 (-100) xs (by omega) (by omega) HS.out).mono ?_
  have HPG := Lib.hid (show pkG xs k = if nextV xs (k + 1 + 2 * nextN xs k 9) 3 = 0 then byG xs (1 + nextN xs (k + 1 + 2 * nextN xs k 9 + 1) 2) (packL (serL xs (k + 1) (-100) (nextN xs k 9))) (k + 1 + 2 * nextN xs k 9 + 1 + 1) else (packL (serL xs (k + 1) (-100) (nextN xs k 9)), k + 1 + 2 * nextN xs k 9 + 1) from rfl)
  obtain ⟨N, eN⟩ : ∃ N, N = nextN xs k 9 := ⟨_, rfl⟩
  rw [show nextN xs k (8 + 1) = N from eN.symm]
  rw [← eN] at hN HPG
  obtain ⟨l, el⟩ : ∃ l, l = serL xs (k + 1) (-100) N := ⟨_, rfl⟩
  rw [← el] at HPG ⊢
  have HF := Lib.hid (show Fine l from by rw [el]; exact serL_fine xs (k + 1) N (by omega))
  have HLN := Lib.hid (show l.length = N from by rw [el]; exact serL_length _ _ _ _)
  clear eN el
  obtain ⟨k1, ek1⟩ : ∃ q, q = k + 1 + 2 * N := ⟨_, rfl⟩
  rw [← ek1] at HPG ⊢
  have hk1 : k1 ≤ k + 20 := by omega
  clear ek1
  rintro e w1 ⟨v, rfl, ho, hst, hg⟩
  obtain ⟨A, c, rfl⟩ := own_slice ho
  have HST := Lib.hid hst
  have HG := Lib.hid hg
  have HPK := Lib.hid (packOf_any l N c A w1 HLN.out HF.out.good (own_row ho) HF.out.steps)
  have hs1 := hg.size
  clear ho hst hg
  go_wp2_with (fail)
  refine HPK.out.mono ?_
  rintro e w2 ⟨v2, rfl, ho2, hb2⟩
  have hpl := packL_le l
  have HBO := Lib.hid (packL_ok (by have := HLN.out; omega) HF.out.steps)
  obtain ⟨Z, eZ⟩ : ∃ Z, Z = packL l := ⟨_, rfl⟩
  rw [← eZ] at HPG ho2 hpl HBO
  have hz42 : Z.length ≤ 42 := by have := HLN.out; omega
  have hz1 := hpl.1
  obtain ⟨n2, en2⟩ : ∃ q, q = Z.length := ⟨_, rfl⟩
  rw [← en2] at ho2 hz42 hz1
  have HZN := Lib.hid en2.symm
  obtain ⟨A2, c2, rfl⟩ := own_slice ho2
  obtain ⟨g2, rfl, hg2a, hg2b⟩ : ∃ g, A2 = some ⟨g, 0, none⟩ ∧ w1.heap.size ≤ g ∧ g < w2.heap.size := by
    rcases own_two ho2 with ⟨_, h0, _⟩ | ⟨g, h1, h2, h3⟩
    · omega
    · exact ⟨g, h1, h2, h3⟩
  have HO2 := Lib.hid ho2
  have HST2 := Lib.hid (HST.out.below hb2)
  have HG2 := Lib.hid (grown_trans HG.out (grown_belowP (r := some p) hb2))
  have hs2 := hb2.size
  clear hpl eZ en2 ho2 hb2 HPK
  go_wp2_with (fail)
  refine (flipD_any w2 p k1 xs 3 (by omega) (by omega) (by omega) HST2.out).mono ?_
  obtain ⟨b, eb⟩ : ∃ b : Bool, b = decide (nextV xs k1 3 = 0) := ⟨_, rfl⟩
  rw [← eb]
  have HB := Lib.hid eb
  clear eb
  rintro e w3 ⟨rfl, hst3, hg3⟩
  have HO4 := Lib.hid (own_kept HO2.out hg3 (by omega))
  have HST4 := Lib.hid hst3
  have HG4 := Lib.hid (grown_trans HG2.out hg3)
  have hs3 := hg3.size
  clear hst3 hg3 HO2 HST2 HG2
  cases b with
  | false =>
    have HEG := Lib.hid (show (Z, k1 + 1) = pkG xs k from by rw [HPG.out, if_neg (by simpa using HB.out.symm)])
    have HO3 := Lib.hid (own_mono HO4.out (base' := w.heap.size) (by omega))
    have HST3 := HST4
    have HG3 := HG4
    obtain ⟨k3, ek3⟩ : ∃ q, q = k1 + 1 := ⟨_, rfl⟩
    rw [← ek3] at HEG HST3
    have hk3 : k3 ≤ k + 100 := by omega
    obtain ⟨A3, eA3⟩ : ∃ A, A = (some ⟨g2, 0, none⟩ : Option Addr) := ⟨_, rfl⟩
    rw [← eA3] at HO3 ⊢
    obtain ⟨Z3, eZ3⟩ : ∃ q, q = Z := ⟨_, rfl⟩
    rw [← eZ3] at HEG HO3 HZN HBO
    obtain ⟨n3, en3⟩ : ∃ q, q = n2 := ⟨_, rfl⟩
    rw [← en3] at HO3 HZN hz42 ⊢
    obtain ⟨c3, ec3⟩ : ∃ q, q = c2 := ⟨_, rfl⟩
    rw [← ec3] at HO3 ⊢
    have HN3 := HZN
    have HBO3 := HBO
    have hn3 : n3 ≤ 100 := by omega
    clear ek3 eA3 eZ3 en3 ec3 HO4 HST4 HG4 HPG HB hz42 hz1 hs2
    go_wp2_with (fail)
    refine (flipD_any w3 p k3 xs 25 (by omega) (by omega) (by omega) HST3.out).mono ?_
    obtain ⟨bb, ebb⟩ : ∃ bb : Bool, bb = decide (nextV xs k3 25 = 0) := ⟨_, rfl⟩
    rw [← ebb]
    have HBB := Lib.hid ebb
    clear ebb
    rintro e w5 ⟨rfl, hst5, hg5⟩
    have HO5 := Lib.hid (own_kept HO3.out hg5 (by omega))
    have HST5 := Lib.hid hst5
    have HG5 := Lib.hid (grown_trans HG3.out hg5)
    have hs5 := HG5.out.size
    clear hst5 hg5 HO3 HST3 HG3
    cases bb with
    | false =>
      have HFN := Lib.hid (show PkPost w p k xs (.returned (.slice A3 n3 c3)) w5 from ⟨Z3, A3, c3, n3, k3 + 1, by
        unfold pkF
        rw [← HEG.out, if_neg (by simpa using HBB.out.symm)], rfl, HN3.out, by omega, HBO3.out, HO5.out, HG5.out⟩)
      go_wp2_with (fail)
      go_ret
      exact HFN.out
    | true =>
      clear HO5 HN3 HBO3
      go_wp2_with (fail)
      refine (lit_next w5 w5.heap.size p (k3 + 1) xs rfl (by omega) HST5.out _ _ rfl _ rfl).mono ?_
      rintro e w6 ⟨i, n, Ai, hi, hni, rfl, hce, hln, hn, ho6, hst6, hg6⟩
      have HCE := Lib.hid hce
      have HFN := Lib.hid (show PkPost w p k xs (.returned (.slice Ai n n)) w6 from ⟨litB.getD i [], Ai, n, n, k3 + 2, by
        unfold pkF
        rw [← HEG.out, if_pos (by simpa using HBB.out.symm), hni], rfl, hln, hn, (litB_ok i).1, own_mono ho6 hs5, grown_trans HG5.out hg6⟩)
      clear hni hce hln ho6 hst6 hg6
      have hc := HCE.out
      go_wp2_with (fail)
      go_ret
      exact HFN.out
  | true =>
    have HBY := Lib.hid (bytes_any w3 p (k1 + 1) n2 c2 g2 xs Z (by omega) HZN.out hz1 (by omega) HBO.out (by omega) (own_cells0 HO4.out) HST4.out)
    have HEG0 := Lib.hid (show byG xs (1 + nextN xs (k1 + 1) 2) Z (k1 + 1 + 1) = pkG xs k from by rw [HPG.out, if_pos (by simpa using HB.out.symm)])
    have hR := nextN_lt xs (k1 + 1) 2 (by omega)
    have hle := byG_le xs (1 + nextN xs (k1 + 1) 2) Z (k1 + 1 + 1)
    rw [HZN.out] at hle
    obtain ⟨⟨Z3, k3⟩, e3⟩ : ∃ q, q = byG xs (1 + nextN xs (k1 + 1) 2) Z (k1 + 1 + 1) := ⟨_, rfl⟩
    rw [← e3] at HBY HEG0 hle
    simp only at HBY hle
    have HEG := Lib.hid (show (Z3, k3) = pkG xs k from HEG0.out)
    have hk3 : k3 ≤ k + 100 := by omega
    have hz3 : Z3.length ≤ 100 := by omega
    clear HPG HB hR hle e3 HEG0
    go_wp2_with (fail)
    refine HBY.out.mono ?_
    rintro e w4 ⟨A3, c3, n3, rfl, hn3', ho4, hbo4, hst4, hg4⟩
    have HO3 := Lib.hid (own_mono ho4 (base' := w.heap.size) (by omega))
    have HST3 := Lib.hid hst4
    have HG3 := Lib.hid (grown_trans HG4.out hg4)
    have HN3 := Lib.hid hn3'
    have HBO3 := Lib.hid hbo4
    have hn3 : n3 ≤ 100 := by omega
    have hs4 := hg4.size
    clear hn3' ho4 hbo4 hst4 hg4 HBY HO4 HST4 HG4 hz3 hz42 hz1
    go_wp2_with (fail)
    refine (flipD_any w4 p k3 xs 25 (by omega) (by omega) (by omega) HST3.out).mono ?_
    obtain ⟨bb, ebb⟩ : ∃ bb : Bool, bb = decide (nextV xs k3 25 = 0) := ⟨_, rfl⟩
    rw [← ebb]
    have HBB := Lib.hid ebb
    clear ebb
    rintro e w5 ⟨rfl, hst5, hg5⟩
    have HO5 := Lib.hid (own_kept HO3.out hg5 (by omega))
    have HST5 := Lib.hid hst5
    have HG5 := Lib.hid (grown_trans HG3.out hg5)
    have hs5 := HG5.out.size
    clear hst5 hg5 HO3 HST3 HG3
    cases bb with
    | false =>
      have HFN := Lib.hid (show PkPost w p k xs (.returned (.slice A3 n3 c3)) w5 from ⟨Z3, A3, c3, n3, k3 + 1, by
        unfold pkF
        rw [← HEG.out, if_neg (by simpa using HBB.out.symm)], rfl, HN3.out, by omega, HBO3.out, HO5.out, HG5.out⟩)
      go_wp2_with (fail)
      go_ret
      exact HFN.out
    | true =>
      clear HO5 HN3 HBO3
      go_wp2_with (fail)
      refine (lit_next w5 w5.heap.size p (k3 + 1) xs rfl (by omega) HST5.out _ _ rfl _ rfl).mono ?_
      rintro e w6 ⟨i, n, Ai, hi, hni, rfl, hce, hln, hn, ho6, hst6, hg6⟩
      have HCE := Lib.hid hce
      have HFN := Lib.hid (show PkPost w p k xs (.returned (.slice Ai n n)) w6 from ⟨litB.getD i [], Ai, n, n, k3 + 2, by
        unfold pkF
        rw [← HEG.out, if_pos (by simpa using HBB.out.symm), hni], rfl, hln, hn, (litB_ok i).1, own_mono ho6 hs5, grown_trans HG5.out hg6⟩)
      clear hni hce hln ho6 hst6 hg6
      have hc := HCE.out
      go_wp2_with (fail)
      go_ret
      exact HFN.out
end Go.Proofs.YtnmgfnnkcenfeaaGreatDoor
