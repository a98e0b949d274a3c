/- Several texts in one: Lay137, Lay160, AlP, SgK. -/
import Derived.Test.YtlfphndnkgoinaaGreatDoorProg
import Derived.Shelf.Small.Strs
import Derived.Shelf.Strings.SlTrimAscii
import Derived.Test.YtlfphndnkgoinaaGreatDoorMg0

/- The shelf's Lays.n137 at this program. -/
namespace Go.Proofs.YtlfphndnkgoinaaGreatDoor
open Go.RowKit Go.Shelf

def lay137_ren : Go.Shelf.Ren := ⟨fun | 137 => 95 | 217 => 147 | 266 => 179 | n => n, fun | 9 => 9 | 5 => 5 | 3 => 3 | n => n, fun  | n => n⟩
theorem lay137 : Lays.n137 Tryz.prog lay137_ren := {
  mixed := by kernel_rfl,
  f137 := Tryz.func95.trans (congrArg some (by kernel_rfl)),
  f217 := Tryz.func147.trans (congrArg some (by kernel_rfl)),
  f266 := Tryz.func179.trans (congrArg some (by kernel_rfl)),
  t3 := Tryz.underlying3,
  a3 := Tryz.isAgg3,
  z3 := Tryz.sizeOf3,
  v3 := Tryz.zeroValue3,
  t5 := Tryz.underlying5,
  a5 := Tryz.isAgg5,
  z5 := Tryz.sizeOf5,
  v5 := Tryz.zeroValue5,
  t9 := Tryz.underlying9,
  a9 := Tryz.isAgg9,
  z9 := Tryz.sizeOf9,
  v9 := Tryz.zeroValue9 }
end Go.Proofs.YtlfphndnkgoinaaGreatDoor

/- The shelf's Lays.n160 at this program. -/
namespace Go.Proofs.YtlfphndnkgoinaaGreatDoor
open Go.RowKit Go.Shelf

def lay160_ren : Go.Shelf.Ren := ⟨fun | 160 => 94 | 232 => 141 | 231 => 140 | 227 => 142 | 234 => 144 | 233 => 143 | 236 => 146 | 235 => 145 | 228 => 175 | 271 => 178 | 151 => 177 | 197 => 176 | 120 => 204 | 152 => 203 | 260 => 202 | 137 => 95 | 119 => 231 | 224 => 232 | 225 => 233 | 217 => 147 | 266 => 179 | n => n, fun | 9 => 9 | 4 => 4 | 3 => 3 | 5 => 5 | 117 => 209 | 116 => 208 | 0 => 0 | 124 => 212 | 21 => 21 | 105 => 241 | 46 => 150 | 119 => 280 | 139 => 283 | 138 => 282 | n => n, fun | 3 => 2 | 4 => 3 | n => n⟩
theorem lay160 : Lays.n160 Tryz.prog lay160_ren := {
  mixed := by kernel_rfl,
  f119 := Tryz.func231.trans (congrArg some (by kernel_rfl)),
  f120 := Tryz.func204.trans (congrArg some (by kernel_rfl)),
  f137 := Tryz.func95.trans (congrArg some (by kernel_rfl)),
  f151 := Tryz.func177.trans (congrArg some (by kernel_rfl)),
  f152 := Tryz.func203.trans (congrArg some (by kernel_rfl)),
  f160 := Tryz.func94.trans (congrArg some (by kernel_rfl)),
  f197 := Tryz.func176.trans (congrArg some (by kernel_rfl)),
  f217 := Tryz.func147.trans (congrArg some (by kernel_rfl)),
  f224 := Tryz.func232.trans (congrArg some (by kernel_rfl)),
  f225 := Tryz.func233.trans (congrArg some (by kernel_rfl)),
  f227 := Tryz.func142.trans (congrArg some (by kernel_rfl)),
  f228 := Tryz.func175.trans (congrArg some (by kernel_rfl)),
  f231 := Tryz.func140.trans (congrArg some (by kernel_rfl)),
  f232 := Tryz.func141.trans (congrArg some (by kernel_rfl)),
  f233 := Tryz.func143.trans (congrArg some (by kernel_rfl)),
  f234 := Tryz.func144.trans (congrArg some (by kernel_rfl)),
  f235 := Tryz.func145.trans (congrArg some (by kernel_rfl)),
  f236 := Tryz.func146.trans (congrArg some (by kernel_rfl)),
  f260 := Tryz.func202.trans (congrArg some (by kernel_rfl)),
  f266 := Tryz.func179.trans (congrArg some (by kernel_rfl)),
  f271 := Tryz.func178.trans (congrArg some (by kernel_rfl)),
  t0 := Tryz.underlying0,
  a0 := Tryz.isAgg0,
  z0 := Tryz.sizeOf0,
  v0 := Tryz.zeroValue0,
  t3 := Tryz.underlying3,
  a3 := Tryz.isAgg3,
  z3 := Tryz.sizeOf3,
  v3 := Tryz.zeroValue3,
  t4 := Tryz.underlying4,
  a4 := Tryz.isAgg4,
  z4 := Tryz.sizeOf4,
  v4 := Tryz.zeroValue4,
  t5 := Tryz.underlying5,
  a5 := Tryz.isAgg5,
  z5 := Tryz.sizeOf5,
  v5 := Tryz.zeroValue5,
  t9 := Tryz.underlying9,
  a9 := Tryz.isAgg9,
  z9 := Tryz.sizeOf9,
  v9 := Tryz.zeroValue9,
  t21 := Tryz.underlying21,
  a21 := Tryz.isAgg21,
  z21 := Tryz.sizeOf21,
  v21 := Tryz.zeroValue21,
  t46 := Tryz.underlying150,
  a46 := Tryz.isAgg150,
  z46 := Tryz.sizeOf150,
  v46 := Tryz.zeroValue150,
  t105 := Tryz.underlying241,
  a105 := Tryz.isAgg241,
  z105 := Tryz.sizeOf241,
  v105 := Tryz.zeroValue241,
  t116 := Tryz.underlying208,
  a116 := Tryz.isAgg208,
  z116 := Tryz.sizeOf208,
  t117 := Tryz.underlying209,
  a117 := Tryz.isAgg209,
  z117 := Tryz.sizeOf209,
  v117 := Tryz.zeroValue209,
  t119 := Tryz.underlying280,
  a119 := Tryz.isAgg280,
  z119 := Tryz.sizeOf280,
  t124 := Tryz.underlying212,
  a124 := Tryz.isAgg212,
  z124 := Tryz.sizeOf212,
  v124 := Tryz.zeroValue212,
  t138 := Tryz.underlying282,
  a138 := Tryz.isAgg282,
  z138 := Tryz.sizeOf282,
  v138 := Tryz.zeroValue282,
  t139 := Tryz.underlying283,
  a139 := Tryz.isAgg283,
  z139 := Tryz.sizeOf283,
  v139 := Tryz.zeroValue283,
  g3 := by kernel_rfl,
  g4 := by kernel_rfl }
end Go.Proofs.YtlfphndnkgoinaaGreatDoor

/- What happens to an alarm: plain law; no program in sight. -/
namespace Go.Proofs.YtlfphndnkgoinaaGreatDoor
open Go.RowKit

/-- A signal. -/
structure Sg where
  at_ : Int
  kd : Int
  d : Nat
  r : Nat
  b : Nat
  un : Int
def alwT : Nat → ByteArray
  | 0 => ⟨#[]⟩
  | 1 => ⟨#[97, 110, 110]⟩
  | 2 => ⟨#[98, 111, 98]⟩
  | _ => ⟨#[65]⟩
def sgC (s : Sg) : List Value := [.int .i64 s.at_, .int .i64 s.kd, .string (aldT s.d), .string (alrT s.r), .string (alwT s.b), .int .i64 s.un]
theorem sgC_len (s : Sg) : (sgC s).length = 6 := rfl
theorem sgC_one (s : Sg) : ∀ u ∈ sgC s, u.oneCell' = true := by
  intro u hu
  simp only [sgC, List.mem_cons, List.not_mem_nil, or_false] at hu
  rcases hu with rfl | rfl | rfl | rfl | rfl | rfl <;> rfl
def alEnd : Int := 345686400000
def setLast (l : List (Int × Int)) (t : Int) : List (Int × Int) := l.dropLast ++ [((l.getLastD (0, 0)).1, t)]
theorem snoc_of_ne {α : Type} {l : List α} (h : l ≠ []) : ∃ a x, l = a ++ [x] := ⟨l.dropLast, l.getLast h, (List.dropLast_concat_getLast h).symm⟩
theorem setLast_snoc (a : List (Int × Int)) (x : Int × Int) (t : Int) : setLast (a ++ [x]) t = a ++ [(x.1, t)] := by simp [setLast]
theorem setLast_len (l : List (Int × Int)) (t : Int) (h : l ≠ []) : (setLast l t).length = l.length := by
  obtain ⟨a, x, rfl⟩ := snoc_of_ne h
  rw [setLast_snoc]
  simp
theorem alW_len (x : Int × Int) : (alW x).length = 2 := rfl
theorem recs_setLast (l : List (Int × Int)) (t : Int) (h : l ≠ []) : recs alW (setLast l t) = (recs alW l).set ((l.length - 1) * 2 + 1) (.int .i64 t) := by
  obtain ⟨a, x, rfl⟩ := snoc_of_ne h
  rw [setLast_snoc, recs_snoc, recs_snoc]
  have hl : (recs alW a).length = a.length * 2 := recs_length alW_len a
  rw [show (a ++ [x]).length - 1 = a.length by simp, List.set_append_right _ _ (by omega), hl, show a.length * 2 + 1 - a.length * 2 = 1 by omega]
  rfl
def upL (L : Lf) (t : Int) : Lf := { L with fr := L.fr ++ [(t, alEnd)], up := L.up ++ [(t, alEnd)], st := 1, si := t }
def clA (L : Lf) (t : Int) : Lf := { L with fr := setLast L.fr t, up := setLast L.up t, st := 3, si := t }
def clK (L : Lf) (t : Int) : Lf := { L with up := setLast L.up t, st := 0, si := t }
def akR (L : Lf) (t : Int) : Lf := { L with st := 0, si := t }
def akA (L : Lf) (t : Int) : Lf := { L with fr := setLast L.fr t, st := 2, si := t }
/-- An ack that is followed. -/
def akd (L : Lf) (t : Int) (M : Lf) : Lf := { M with ak := L.ak ++ [t], wt := L.wt ++ [t - L.ra.getLastD 0] }
/-- A life behind a signal, and why it is refused (0: it is followed). -/
def followL (L : Lf) (s : Sg) : Lf × Int :=
  if s.kd = 1 then (if L.st = 1 ∨ L.st = 2 then (L, 6) else ({ upL L s.at_ with ra := L.ra ++ [s.at_] }, 0))
  else if s.kd = 2 then (if L.st = 1 then (clA L s.at_, 0) else if L.st = 2 then (clK L s.at_, 0) else (L, 11))
  else if s.kd = 3 then (if L.st = 3 then (akd L s.at_ (akR L s.at_), 0) else if L.st = 1 then (akd L s.at_ (akA L s.at_), 0) else (L, 11))
  else if s.kd = 4 then (if s.at_ < L.sh then (L, 11) else ({ L with sh := s.un, as_ := L.as_ ++ [(s.at_, s.un)] }, 0))
  else (if L.sh ≤ s.at_ then (L, 11) else ({ L with sh := s.at_, as_ := setLast L.as_ s.at_ }, 0))
/-- What holds of a life behind k signals. -/
structure LfOk (L : Lf) (k : Nat) : Prop where
  st : L.st = 0 ∨ L.st = 1 ∨ L.st = 2 ∨ L.st = 3
  fr : L.st = 1 → L.fr ≠ []
  up : L.st = 1 ∨ L.st = 2 → L.up ≠ []
  ra : L.st ≠ 0 → L.ra ≠ []
  as_ : 0 < L.sh → L.as_ ≠ []
  rng : ∀ t ∈ L.ra, 0 ≤ t ∧ t < alEnd
  len : ∀ m, m < 6 → rowN L m ≤ k
def newL (d r : Nat) : Lf := ⟨d, r, 0, 0, [], 0, [], [], [], [], []⟩
theorem newL_ok (d r : Nat) : LfOk (newL d r) 0 := by
  refine ⟨.inl rfl, (by intro h; cases h), (by intro h; rcases h with h | h <;> cases h), fun h => absurd rfl h, (by intro h; cases h), (by intro t h; cases h), ?_⟩
  intro m hm
  match m, hm with
  | 0, _ => exact Nat.le_refl _
  | 1, _ => exact Nat.le_refl _
  | 2, _ => exact Nat.le_refl _
  | 3, _ => exact Nat.le_refl _
  | 4, _ => exact Nat.le_refl _
  | 5, _ => exact Nat.le_refl _
theorem six_le {L : Lf} {k : Nat} (h0 : L.ra.length ≤ k) (h1 : L.up.length ≤ k) (h2 : L.fr.length ≤ k) (h3 : L.as_.length ≤ k) (h4 : L.ak.length ≤ k) (h5 : L.wt.length ≤ k) : ∀ m, m < 6 → rowN L m ≤ k := by
  intro m hm
  match m, hm with
  | 0, _ => exact h0
  | 1, _ => exact h1
  | 2, _ => exact h2
  | 3, _ => exact h3
  | 4, _ => exact h4
  | 5, _ => exact h5
theorem LfOk.mono {L : Lf} {k k' : Nat} (h : LfOk L k) (hk : k ≤ k') : LfOk L k' := ⟨h.st, h.fr, h.up, h.ra, h.as_, h.rng, fun m hm => Nat.le_trans (h.len m hm) hk⟩
theorem setLast_ne (l : List (Int × Int)) (t : Int) : setLast l t ≠ [] := by simp [setLast]
theorem follow_ok {L : Lf} {k : Nat} {s : Sg} (h : LfOk L k) (h1 : 0 ≤ s.at_) (h2 : s.at_ < alEnd) : LfOk (followL L s).1 (k + 1) := by
  have l0 : L.ra.length ≤ k := h.len 0 (by omega)
  have l1 : L.up.length ≤ k := h.len 1 (by omega)
  have l2 : L.fr.length ≤ k := h.len 2 (by omega)
  have l3 : L.as_.length ≤ k := h.len 3 (by omega)
  have l4 : L.ak.length ≤ k := h.len 4 (by omega)
  have l5 : L.wt.length ≤ k := h.len 5 (by omega)
  have hst := h.st
  have same : LfOk L (k + 1) := h.mono (by omega)
  unfold followL
  split
  · split
    · exact same
    · refine ⟨.inr (.inl rfl), by intro _; simp [upL], by intro _; simp [upL], by intro _; simp, h.as_, ?_, ?_⟩
      · intro t ht
        simp only [List.mem_append, List.mem_singleton] at ht
        rcases ht with ht | rfl
        · exact h.rng t ht
        · exact ⟨h1, h2⟩
      · exact six_le (by simp; omega) (by simp [upL]; omega) (by simp [upL]; omega) (by simp [upL]; omega) (by simp [upL]; omega) (by simp [upL]; omega)
  · split
    · split
      · rename_i _ _ hs
        have e1 := setLast_len L.fr s.at_ (h.fr hs)
        have e2 := setLast_len L.up s.at_ (h.up (.inl hs))
        exact ⟨.inr (.inr (.inr rfl)), by intro h; simp [clA] at h, by intro h; simp [clA] at h, fun _ => h.ra (by omega), h.as_, h.rng, six_le (by simp [clA]; omega) (by simp [clA]; omega) (by simp [clA]; omega) (by simp [clA]; omega) (by simp [clA]; omega) (by simp [clA]; omega)⟩
      · split
        · rename_i _ _ _ hs
          have e2 := setLast_len L.up s.at_ (h.up (.inr hs))
          exact ⟨.inl rfl, by intro h; simp [clK] at h, by intro h; simp [clK] at h, by intro h; simp [clK] at h, h.as_, h.rng, six_le (by simp [clK]; omega) (by simp [clK]; omega) (by simp [clK]; omega) (by simp [clK]; omega) (by simp [clK]; omega) (by simp [clK]; omega)⟩
        · exact same
    · split
      · split
        · exact ⟨.inl rfl, by intro h; simp [akd, akR] at h, by intro h; simp [akd, akR] at h, by intro h; simp [akd, akR] at h, h.as_, h.rng, six_le (by simp [akd, akR]; omega) (by simp [akd, akR]; omega) (by simp [akd, akR]; omega) (by simp [akd, akR]; omega) (by simp [akd, akR]; omega) (by simp [akd, akR]; omega)⟩
        · split
          · rename_i _ _ _ _ hs
            have e1 := setLast_len L.fr s.at_ (h.fr hs)
            exact ⟨.inr (.inr (.inl rfl)), by intro h; simp [akd, akA] at h, fun _ => h.up (.inl hs), fun _ => h.ra (by omega), h.as_, h.rng, six_le (by simp [akd, akA]; omega) (by simp [akd, akA]; omega) (by simp [akd, akA]; omega) (by simp [akd, akA]; omega) (by simp [akd, akA]; omega) (by simp [akd, akA]; omega)⟩
          · exact same
      · split
        · split
          · exact same
          · exact ⟨h.st, h.fr, h.up, h.ra, by intro _; simp, h.rng, six_le (by simp; omega) (by simp; omega) (by simp; omega) (by simp; omega) (by simp; omega) (by simp; omega)⟩
        · split
          · exact same
          · rename_i _ _ _ _ hs
            have e1 := setLast_len L.as_ s.at_ (h.as_ (by omega))
            exact ⟨h.st, h.fr, h.up, h.ra, fun _ => setLast_ne _ _, h.rng, six_le (by simp; omega) (by simp; omega) (by simp; omega) (by simp; omega) (by simp; omega) (by simp; omega)⟩
end Go.Proofs.YtlfphndnkgoinaaGreatDoor

/- fleetref1.Key at the names and people of signals; in, MomentFault. -/
namespace Go.Proofs.YtlfphndnkgoinaaGreatDoor
open Go.RowKit

theorem inR_yes (n lo hi : Int) (h1 : lo ≤ n) (h2 : n ≤ hi) (w : World) : Calls Tryz.prog 57 #[.int .i64 n, .int .i64 lo, .int .i64 hi] w fun e w' => e = .returned (.bool true) ∧ w = w' := by
  go_enter Tryz.func57, Tryz.ntmps57
  go_wp2_with (fail)
  go_ret
  exact ⟨rfl, rfl⟩
theorem inR_no (n lo hi : Int) (h : ¬ (lo ≤ n ∧ n ≤ hi)) (w : World) : Calls Tryz.prog 57 #[.int .i64 n, .int .i64 lo, .int .i64 hi] w fun e w' => e = .returned (.bool false) ∧ w = w' := by
  by_cases h1 : lo ≤ n
  · have h2 : ¬ n ≤ hi := fun h2 => h ⟨h1, h2⟩
    clear h
    go_enter Tryz.func57, Tryz.ntmps57
    go_wp2_with (fail)
    go_ret
    exact ⟨rfl, rfl⟩
  · clear h
    go_enter Tryz.func57, Tryz.ntmps57
    go_wp2_with (fail)
    go_ret
    exact ⟨rfl, rfl⟩
theorem inR_any (n lo hi : Int) (w : World) : Calls Tryz.prog 57 #[.int .i64 n, .int .i64 lo, .int .i64 hi] w fun e w' => e = .returned (.bool (decide (lo ≤ n ∧ n ≤ hi))) ∧ w = w' := by
  by_cases h : lo ≤ n ∧ n ≤ hi
  · rw [decide_eq_true h]; exact inR_yes n lo hi h.1 h.2 w
  · rw [decide_eq_false h]; exact inR_no n lo hi h w
theorem momF_any (n : Int) (w : World) : Calls Tryz.prog 55 #[.int .i64 n] w fun e w' => e = .returned (.int .i64 (if 0 ≤ n ∧ n ≤ 345686399999 then 0 else 1)) ∧ w = w' := by
  have HI := Lib.hid (inR_any n 0 345686399999 w)
  by_cases h : 0 ≤ n ∧ n ≤ 345686399999
  · rw [decide_eq_true h] at HI
    rw [if_pos h]
    clear h
    go_enter Tryz.func55, Tryz.ntmps55
    go_wp2_with (go_at_call 57; refine HI.out.mono ?_; rintro e w' ⟨rfl, rfl⟩)
    go_ret
    exact ⟨rfl, rfl⟩
  · rw [decide_eq_false h] at HI
    rw [if_neg h]
    clear h
    go_enter Tryz.func55, Tryz.ntmps55
    go_wp2_with (go_at_call 57; refine HI.out.mono ?_; rintro e w' ⟨rfl, rfl⟩)
    go_ret
    exact ⟨rfl, rfl⟩
def rkSet : ByteArray := ⟨#[97, 98, 99, 100, 101, 102, 103, 104, 105, 106, 107, 108, 109, 110, 111, 112, 113, 114, 115, 116, 117, 118, 119, 120, 121, 122, 48, 49, 50, 51, 52, 53, 54, 55, 56, 57, 45, 95]⟩
theorem rtrim (s : ByteArray) (hs : s.size ≤ 40) (q : ByteArray) (hq : q = ⟨(Lib.trimS s.data.toList rkSet.data.toList).toArray⟩) (w : World) :
    Calls Tryz.prog 94 #[.string s, .string ⟨#[97, 98, 99, 100, 101, 102, 103, 104, 105, 106, 107, 108, 109, 110, 111, 112, 113, 114, 115, 116, 117, 118, 119, 120, 121, 122, 48, 49, 50, 51, 52, 53, 54, 55, 56, 57, 45, 95]⟩] w fun e w' => e = .returned (.string q) ∧ Below w.heap.size w w' := by
  subst hq
  exact Any.strings_Trim_laid lay160 (by kernel_rfl) s rkSet w (by omega) (by decide) (ascii_of_all (by decide))
theorem ribyte (c : Int) (w : World) : Calls Tryz.prog 95 #[.string ⟨#[97, 98, 99, 100, 101, 102, 103, 104, 105, 106, 107, 108, 109, 110, 111, 112, 113, 114, 115, 116, 117, 118, 119, 120, 121, 122]⟩, .int .u8 c] w fun e w' => ∃ z : Int, e = .returned (.int .i64 z) ∧ w = w' := by
  refine (Any.strings_IndexByte lay137 ⟨#[97, 98, 99, 100, 101, 102, 103, 104, 105, 106, 107, 108, 109, 110, 111, 112, 113, 114, 115, 116, 117, 118, 119, 120, 121, 122]⟩ c w).mono ?_
  rintro e w' ⟨h1, h2⟩
  exact ⟨_, h1, h2.symm⟩
set_option maxRecDepth 100000 in
theorem rkey_yes (s : ByteArray) (h1 : 1 ≤ s.size) (h2 : s.size ≤ 40) (ht : (⟨#[]⟩ : ByteArray) = ⟨(Lib.trimS s.data.toList rkSet.data.toList).toArray⟩) (w : World) :
    Calls Tryz.prog 56 #[.string s] w fun e w' => ∃ t : Bool, e = .returned (.bool t) ∧ Below w.heap.size w w' := by
  have h1I : (1 : Int) ≤ s.size := by omega
  have h2I : (s.size : Int) ≤ 40 := by omega
  have h0 : 0 < s.size := by omega
  have HT := Lib.hid (fun V => rtrim s h2 ⟨#[]⟩ ht V)
  clear ht
  go_enter Tryz.func56, Tryz.ntmps56
  go_wp2_with (go_at_call 57; refine (inR_yes _ _ _ h1I h2I _).mono ?_; rintro e w' ⟨rfl, rfl⟩)
  refine (HT.out _).mono ?_
  rintro e w1 ⟨rfl, hb1⟩
  have HB := Lib.hid hb1
  clear hb1
  go_wp2_with (fail)
  refine (ribyte _ _).mono ?_
  rintro e w2 ⟨z, rfl, rfl⟩
  go_wp2_with (fail)
  go_ret
  exact ⟨_, rfl, HB.out⟩
theorem rkey_nil (w : World) : Calls Tryz.prog 56 #[.string ⟨#[]⟩] w fun e w' => e = .returned (.bool false) ∧ Below w.heap.size w w' := by
  go_enter Tryz.func56, Tryz.ntmps56
  go_wp2_with (go_at_call 57; refine (inR_no _ _ _ (by decide) _).mono ?_; rintro e w' ⟨rfl, rfl⟩)
  go_ret
  exact ⟨rfl, Below.refl _ _⟩
set_option maxRecDepth 100000 in
theorem rkey_A (w : World) : Calls Tryz.prog 56 #[.string ⟨#[65]⟩] w fun e w' => e = .returned (.bool false) ∧ Below w.heap.size w w' := by
  have HT := Lib.hid (fun V => rtrim ⟨#[65]⟩ (by decide) ⟨#[65]⟩ (by rfl) V)
  go_enter Tryz.func56, Tryz.ntmps56
  go_wp2_with (go_at_call 57; refine (inR_yes _ _ _ (by decide) (by decide) _).mono ?_; rintro e w' ⟨rfl, rfl⟩)
  refine (HT.out _).mono ?_
  rintro e w1 ⟨rfl, hb1⟩
  have HB := Lib.hid hb1
  clear hb1
  go_wp2_with (fail)
  go_ret
  exact ⟨rfl, HB.out⟩
theorem rkey_dev (d : Nat) (w : World) : Calls Tryz.prog 56 #[.string (aldT d)] w fun e w' => ∃ t : Bool, e = .returned (.bool t) ∧ Below w.heap.size w w' := by
  match d with
  | 0 => exact rkey_yes _ (by decide) (by decide) (by rfl) w
  | 1 => exact rkey_yes _ (by decide) (by decide) (by rfl) w
  | n + 2 => exact rkey_yes _ (by show 1 ≤ (⟨#[100, 103]⟩ : ByteArray).size; decide) (by show (⟨#[100, 103]⟩ : ByteArray).size ≤ 40; decide) (by rfl) w
theorem rkey_rule (r : Nat) (w : World) : Calls Tryz.prog 56 #[.string (alrT r)] w fun e w' => ∃ t : Bool, e = .returned (.bool t) ∧ Below w.heap.size w w' := by
  match r with
  | 0 => exact rkey_yes _ (by decide) (by decide) (by rfl) w
  | n + 1 => exact rkey_yes _ (by show 1 ≤ (⟨#[114, 98]⟩ : ByteArray).size; decide) (by show (⟨#[114, 98]⟩ : ByteArray).size ≤ 40; decide) (by rfl) w
theorem rkey_who (b : Nat) (w : World) : Calls Tryz.prog 56 #[.string (alwT b)] w fun e w' => ∃ t : Bool, e = .returned (.bool t) ∧ (t = true → b = 1 ∨ b = 2) ∧ Below w.heap.size w w' := by
  match b with
  | 0 => exact (rkey_nil w).mono fun e w' h => ⟨false, h.1, by simp, h.2⟩
  | 1 => exact (rkey_yes _ (by decide) (by decide) (by rfl) w).mono fun e w' ⟨t, h1, h2⟩ => ⟨t, h1, fun _ => .inl rfl, h2⟩
  | 2 => exact (rkey_yes _ (by decide) (by decide) (by rfl) w).mono fun e w' ⟨t, h1, h2⟩ => ⟨t, h1, fun _ => .inr rfl, h2⟩
  | n + 3 => exact (rkey_A w).mono fun e w' h => ⟨false, h.1, by simp, h.2⟩
end Go.Proofs.YtlfphndnkgoinaaGreatDoor
