/- fleetkeep2.nearWay by its contract. -/
import Derived.Test.YtbimiojoihfnkaaGreatDoorTpE
namespace Go.Proofs.YtbimiojoihfnkaaGreatDoor
open Go.RowKit

set_option maxRecDepth 100000 in
set_option maxHeartbeats 4000000 in
theorem nearWay_yes (a b s : Fx) (far : Int) (w : World) (ha : NarF a) (hb : NarF b) (hs : NarF s) (h0 : 0 ≤ far) (h1 : far ≤ 1000) (hn : nearW far a b s) :
    Calls Tryz.prog 40 #[fxV a, fxV b, fxV s, .int .i64 far] w fun e w' => e = .returned (.bool true) ∧ Below w.heap.size w w' := by
  obtain ⟨a0, ax, ay, ae⟩ := a
  obtain ⟨b0, bx, by_, be⟩ := b
  obtain ⟨s0, sx, sy, se⟩ := s
  have HN := Lib.hid hn
  have a1 := ha.x0; have a2 := ha.x1; have a3 := ha.y0; have a4 := ha.y1
  have b1 := hb.x0; have b2 := hb.x1; have b3 := hb.y0; have b4 := hb.y1
  have s1 := hs.x0; have s2 := hs.x1; have s3 := hs.y0; have s4 := hs.y1
  simp only at a1 a2 a3 a4 b1 b2 b3 b4 s1 s2 s3 s4
  have w1 : IntKind.i64.wrap (bx - ax) = bx - ax := by rw [IntKind.wrap_i64]; omega
  have w2 : IntKind.i64.wrap (by_ - ay) = by_ - ay := by rw [IntKind.wrap_i64]; omega
  have w3 : IntKind.i64.wrap (sx - ax) = sx - ax := by rw [IntKind.wrap_i64]; omega
  have w4 : IntKind.i64.wrap (sy - ay) = sy - ay := by rw [IntKind.wrap_i64]; omega
  have w5 : IntKind.i64.wrap (sx - bx) = sx - bx := by rw [IntKind.wrap_i64]; omega
  have w6 : IntKind.i64.wrap (sy - by_) = sy - by_ := by rw [IntKind.wrap_i64]; omega
  have bxx := prod_le (a := (bx - ax)) (b := (bx - ax)) (A := 20000) (B := 20000) (by omega) (by omega) (by omega) (by omega) (by omega) (by omega)
  obtain ⟨xx, exx⟩ : ∃ v, v = (bx - ax) * (bx - ax) := ⟨_, rfl⟩
  rw [← exx] at bxx
  have kxx : IntKind.i64.wrap ((bx - ax) * (bx - ax)) = xx := by rw [← exx, IntKind.wrap_i64]; omega
  have byy := prod_le (a := (by_ - ay)) (b := (by_ - ay)) (A := 200) (B := 200) (by omega) (by omega) (by omega) (by omega) (by omega) (by omega)
  obtain ⟨yy, eyy⟩ : ∃ v, v = (by_ - ay) * (by_ - ay) := ⟨_, rfl⟩
  rw [← eyy] at byy
  have kyy : IntKind.i64.wrap ((by_ - ay) * (by_ - ay)) = yy := by rw [← eyy, IntKind.wrap_i64]; omega
  have bux := prod_le (a := (sx - ax)) (b := (bx - ax)) (A := 20000) (B := 20000) (by omega) (by omega) (by omega) (by omega) (by omega) (by omega)
  obtain ⟨ux, eux⟩ : ∃ v, v = (sx - ax) * (bx - ax) := ⟨_, rfl⟩
  rw [← eux] at bux
  have kux : IntKind.i64.wrap ((sx - ax) * (bx - ax)) = ux := by rw [← eux, IntKind.wrap_i64]; omega
  have bvy := prod_le (a := (sy - ay)) (b := (by_ - ay)) (A := 200) (B := 200) (by omega) (by omega) (by omega) (by omega) (by omega) (by omega)
  obtain ⟨vy, evy⟩ : ∃ v, v = (sy - ay) * (by_ - ay) := ⟨_, rfl⟩
  rw [← evy] at bvy
  have kvy : IntKind.i64.wrap ((sy - ay) * (by_ - ay)) = vy := by rw [← evy, IntKind.wrap_i64]; omega
  have buu := prod_le (a := (sx - ax)) (b := (sx - ax)) (A := 20000) (B := 20000) (by omega) (by omega) (by omega) (by omega) (by omega) (by omega)
  obtain ⟨uu, euu⟩ : ∃ v, v = (sx - ax) * (sx - ax) := ⟨_, rfl⟩
  rw [← euu] at buu
  have kuu : IntKind.i64.wrap ((sx - ax) * (sx - ax)) = uu := by rw [← euu, IntKind.wrap_i64]; omega
  have bvv := prod_le (a := (sy - ay)) (b := (sy - ay)) (A := 200) (B := 200) (by omega) (by omega) (by omega) (by omega) (by omega) (by omega)
  obtain ⟨vv, evv⟩ : ∃ v, v = (sy - ay) * (sy - ay) := ⟨_, rfl⟩
  rw [← evv] at bvv
  have kvv : IntKind.i64.wrap ((sy - ay) * (sy - ay)) = vv := by rw [← evv, IntKind.wrap_i64]; omega
  have bdd := prod_le (a := (sx - bx)) (b := (sx - bx)) (A := 20000) (B := 20000) (by omega) (by omega) (by omega) (by omega) (by omega) (by omega)
  obtain ⟨dd, edd⟩ : ∃ v, v = (sx - bx) * (sx - bx) := ⟨_, rfl⟩
  rw [← edd] at bdd
  have kdd : IntKind.i64.wrap ((sx - bx) * (sx - bx)) = dd := by rw [← edd, IntKind.wrap_i64]; omega
  have bee := prod_le (a := (sy - by_)) (b := (sy - by_)) (A := 200) (B := 200) (by omega) (by omega) (by omega) (by omega) (by omega) (by omega)
  obtain ⟨ee, eee⟩ : ∃ v, v = (sy - by_) * (sy - by_) := ⟨_, rfl⟩
  rw [← eee] at bee
  have kee : IntKind.i64.wrap ((sy - by_) * (sy - by_)) = ee := by rw [← eee, IntKind.wrap_i64]; omega
  have bxv := prod_le (a := (bx - ax)) (b := (sy - ay)) (A := 20000) (B := 200) (by omega) (by omega) (by omega) (by omega) (by omega) (by omega)
  obtain ⟨xv, exv⟩ : ∃ v, v = (bx - ax) * (sy - ay) := ⟨_, rfl⟩
  rw [← exv] at bxv
  have kxv : IntKind.i64.wrap ((bx - ax) * (sy - ay)) = xv := by rw [← exv, IntKind.wrap_i64]; omega
  have byu := prod_le (a := (by_ - ay)) (b := (sx - ax)) (A := 200) (B := 20000) (by omega) (by omega) (by omega) (by omega) (by omega) (by omega)
  obtain ⟨yu, eyu⟩ : ∃ v, v = (by_ - ay) * (sx - ax) := ⟨_, rfl⟩
  rw [← eyu] at byu
  have kyu : IntKind.i64.wrap ((by_ - ay) * (sx - ax)) = yu := by rw [← eyu, IntKind.wrap_i64]; omega
  obtain ⟨L, eL⟩ : ∃ v, v = xx + yy := ⟨_, rfl⟩
  have kL : IntKind.i64.wrap (xx + yy) = L := by rw [← eL, IntKind.wrap_i64]; omega
  obtain ⟨Al, eAl⟩ : ∃ v, v = ux + vy := ⟨_, rfl⟩
  have kAl : IntKind.i64.wrap (ux + vy) = Al := by rw [← eAl, IntKind.wrap_i64]; omega
  obtain ⟨S1, eS1⟩ : ∃ v, v = uu + vv := ⟨_, rfl⟩
  have kS1 : IntKind.i64.wrap (uu + vv) = S1 := by rw [← eS1, IntKind.wrap_i64]; omega
  obtain ⟨S2, eS2⟩ : ∃ v, v = dd + ee := ⟨_, rfl⟩
  have kS2 : IntKind.i64.wrap (dd + ee) = S2 := by rw [← eS2, IntKind.wrap_i64]; omega
  obtain ⟨Cr, eCr⟩ : ∃ v, v = xv - yu := ⟨_, rfl⟩
  have kCr : IntKind.i64.wrap (xv - yu) = Cr := by rw [← eCr, IntKind.wrap_i64]; omega
  have bff := sqr_le (a := far) (B := 1000) (by omega) (by omega)
  obtain ⟨ff, eff⟩ : ∃ v, v = far * far := ⟨_, rfl⟩
  rw [← eff] at bff
  have kff : IntKind.i64.wrap (far * far) = ff := by rw [← eff, IntKind.wrap_i64]; omega
  have bcc := sqr_le (a := Cr) (B := 8000000) (by omega) (by omega)
  obtain ⟨cc, ecc⟩ : ∃ v, v = Cr * Cr := ⟨_, rfl⟩
  rw [← ecc] at bcc
  have kcc : IntKind.i64.wrap (Cr * Cr) = cc := by rw [← ecc, IntKind.wrap_i64]; omega
  have bfl := prod_le (a := ff) (b := L) (A := 1000000) (B := 400040000) (by omega) (by omega) (by omega) (by omega) (by omega) (by omega)
  obtain ⟨fl, efl⟩ : ∃ v, v = ff * L := ⟨_, rfl⟩
  rw [← efl] at bfl
  have kfl : IntKind.i64.wrap (ff * L) = fl := by rw [← efl, IntKind.wrap_i64]; omega
  have HC := Lib.hid (show (Al ≤ 0 ∧ S1 ≤ ff) ∨ (¬ Al ≤ 0 ∧ L ≤ Al ∧ S2 ≤ ff) ∨ (¬ Al ≤ 0 ∧ ¬ L ≤ Al ∧ cc ≤ fl) by
    have h := HN.out
    unfold nearW alongW longW crossW sq2 at h
    simp only [← exx, ← eyy, ← eux, ← evy, ← euu, ← evv, ← edd, ← eee, ← exv, ← eyu, ← eL, ← eAl, ← eS1, ← eS2, ← eCr, ← eff, ← ecc, ← efl] at h
    split at h
    · exact .inl ⟨by assumption, h⟩
    · split at h
      · exact .inr (.inl ⟨by assumption, by assumption, h⟩)
      · exact .inr (.inr ⟨by assumption, by assumption, h⟩))
  clear exx eyy eux evy euu evv edd eee exv eyu eL eAl eS1 eS2 eCr eff ecc efl
  clear ha hb hs hn
  unfold fxV
  rcases HC.out with ⟨c1, c2⟩ | ⟨c1, c2, c3⟩ | ⟨c1, c2, c3⟩
  all_goals
    go_enter Tryz.func40, Tryz.ntmps40
    go_wp2_with (fail)
    go_quiet (fail)
    go_wp2_with (fail)
    try (go_quiet (fail); go_wp2_with (fail))
    go_ret
    refine ⟨by first | rfl | simp [c1] | simp [c2] | simp [c3], ?_⟩
    have hB := (((Below.refl w.heap.size w).alloc (Nat.le_refl _) (.cells #[.string ⟨#[100]⟩, .int .i64 a0, .int .i64 ax, .int .i64 ay, .int .i64 ae] 39)).alloc (by simp) (.cells #[.string ⟨#[100]⟩, .int .i64 b0, .int .i64 bx, .int .i64 by_, .int .i64 be] 39)).alloc (by simp; omega) (.cells #[.string ⟨#[100]⟩, .int .i64 s0, .int .i64 sx, .int .i64 sy, .int .i64 se] 39)
    exact ⟨hB.os, hB.tape, hB.output, hB.size, hB.block⟩
end Go.Proofs.YtbimiojoihfnkaaGreatDoor
