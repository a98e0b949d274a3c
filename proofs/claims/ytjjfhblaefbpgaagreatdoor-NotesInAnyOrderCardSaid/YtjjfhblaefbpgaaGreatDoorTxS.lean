/- strings.Builder's methods, strconv.Itoa, strings.ReplaceAll at this program, in plain words; what they ask of the world. -/
import Derived.Test.YtjjfhblaefbpgaaGreatDoorLay155
import Derived.Test.YtjjfhblaefbpgaaGreatDoorLay170
import Derived.Test.YtjjfhblaefbpgaaGreatDoorLay171
import Derived.Test.YtjjfhblaefbpgaaGreatDoorMgB
import Derived.Shelf.Strings.BuilderK
import Derived.Shelf.Strings.BuilderF
import Derived.Test.YtjjfhblaefbpgaaGreatDoorTxB
import Derived.Lib.SmallJoins
import Derived.Lib.AppendIntMem
import Derived.Laws.Concat
namespace Go.Proofs.YtjjfhblaefbpgaaGreatDoor
open Go.RowKit Go.Shelf

theorem bld_extra : Builder.Extra Tryz.prog lay155_ren := {
  sizeBuilder := by kernel_rfl, liesBuilder := by kernel_rfl, t5 := Tryz.underlying5, a5 := Tryz.isAgg5, z5 := Tryz.sizeOf5, v5 := Tryz.zeroValue5,
  infoByte := by kernel_rfl, cellsByte := by kernel_rfl, sizeByte := by kernel_rfl, neB5 := by decide }
/-- What the texts ask of the world: the library's tables as laid, a number in bytealg.MaxLen. -/
structure TxW (w : World) : Prop where
  u8 : U8T w
  ml : ∃ m, w.cell? ⟨0, 0, none⟩ = some (.int .i64 m)
  p10 : Lib.TabIs Tryz.prog w "internal/strconv.uint64pow10" .u64 Lib.pow10Tab
theorem TxW.below {w w' : World} (h : TxW w) (hb : Below w.heap.size w w') : TxW w' := by
  obtain ⟨m, hm⟩ := h.ml
  have hlt := World.block_lt_of_cell? w _ hm
  exact ⟨h.u8.below hb, ⟨m, (hb.cell hlt).trans hm⟩, Go.Joins.tab_stays (g := 3) (by kernel_rfl) h.p10 hb (Nat.le_refl _)⟩
def Bld (B b : Nat) (l : List UInt8) (w : World) : Prop := Lib.IsBuilderF 84 5 B b (Lib.byteCells l) w
theorem bld_new (w : World) : Bld w.heap.size w.heap.size [] (w.alloc (.cells #[.pointer none, .slice none 0 0] 84)) := Lib.IsBuilderF.of (Lib.fresh_isBuilder _ _ w)
theorem Bld.below {B b : Nat} {l : List UInt8} {w w' : World} (h : Bld B b l w) (hb : Below w.heap.size w w') : Bld B b l w' := isBuilderF_below h hb
/-- What is not the builder b's stays: blocks below B, and those that hold no bytes. -/
structure Kp (B b : Nat) (w w' : World) : Prop where
  low : Below B w w'
  oth : Lib.OthersKept 5 (some b) w w'
theorem Kp.refl (B b : Nat) (w : World) : Kp B b w w := ⟨Below.refl _ _, Lib.OthersKept.refl _ _ _⟩
theorem Kp.trans {B b : Nat} {u v w : World} (h : Kp B b u v) (k : Kp B b v w) : Kp B b u w := ⟨h.low.trans k.low, h.oth.trans k.oth⟩
theorem Kp.below {B b : Nat} {u v w : World} (h : Kp B b u v) (hB : B ≤ v.heap.size) (k : Below v.heap.size v w) : Kp B b u w := ⟨h.low.trans (k.mono hB), others_below h.oth k⟩
theorem Kp.at {B b g : Nat} {u v : World} {cs : Array Value} {t : TypeId} {fr : Nat × Nat} (h : Kp B b u v) (hg : u.heap[g]? = some (.cells cs t fr)) (hb : g ≠ b) (ht : t ≠ 5) : v.heap[g]? = some (.cells cs t fr) :=
  h.oth g _ hg (by intro e; injection e with e; exact hb e) (fun c fz e => by injection e with _ e2 _; exact ht e2)
theorem bld_write (B b : Nat) (l : List UInt8) (s : ByteArray) (w : World) (h : Bld B b l w) (hl : l.length ≤ 1000000) (hs : s.size ≤ 1000000) (hB : B ≤ w.heap.size) :
    Calls Tryz.prog 34 #[.pointer (some ⟨b, 0, none⟩), .string s] w fun e w' => e = .returned (.tuple #[.int .i64 s.size, .nilIface]) ∧ Bld B b (l ++ s.data.toList) w' ∧ Kp B b w w' := by
  refine (Any.Builder_WriteString_k { lay155 with } bld_extra B b (Lib.byteCells l) s w h (by unfold Lib.byteCells; rw [List.length_map]; omega) hB).mono ?_
  rintro e w' ⟨h1, h2, h3, h4⟩
  refine ⟨h1, .inr ?_, h3, h4⟩
  have : Lib.byteCells (l ++ s.data.toList) = Lib.byteCells l ++ Lib.strCells s := by unfold Lib.byteCells Lib.strCells; rw [List.map_append]
  rw [this]
  exact h2
theorem bld_string (B b : Nat) (l : List UInt8) (w : World) (h : Bld B b l w) (hB : B ≤ w.heap.size) :
    Calls Tryz.prog 39 #[.pointer (some ⟨b, 0, none⟩)] w fun e w' => e = .returned (.string ⟨l.toArray⟩) ∧ Below B w w' :=
  (Any.Builder_String_any_f { lay155 with } bld_extra B b l w h hB).mono (fun _ _ h => ⟨h.1, h.2.2⟩)
theorem bld_len (B b : Nat) (l : List UInt8) (w : World) (h : Bld B b l w) :
    Calls Tryz.prog 38 #[.pointer (some ⟨b, 0, none⟩)] w fun e w' => e = .returned (.int .i64 l.length) ∧ w' = w := by
  refine (Any.Builder_Len_f lay170 B b (Lib.byteCells l) w h).mono ?_
  rintro e w' ⟨h1, h2⟩
  refine ⟨?_, h2⟩
  rw [h1]
  unfold Lib.byteCells
  rw [List.length_map]
theorem itoa_any (n : Int) (w : World) (h0 : -1000000000000000 ≤ n) (h1 : n ≤ 1000000000000000) (hT : TxW w) :
    Calls Tryz.prog 36 #[.int .i64 n] w fun e w' => e = .returned (.string ⟨(Lib.itoa n).toArray⟩) ∧ Below w.heap.size w w' := by
  refine (Any.strconv_Itoa lay171 n (by omega) (by omega) w hT.p10).mono ?_
  rintro e w' ⟨h1, k, os, rfl⟩
  exact ⟨h1, Lib.below_grow _ w (Nat.le_refl _) k os⟩
theorem str_cat (l m : List UInt8) : (⟨l.toArray⟩ : ByteArray) ++ ⟨m.toArray⟩ = ⟨(l ++ m).toArray⟩ := by
  apply bytes_ext
  simp [ByteArray.data_append]
theorem str_add {P : Program} (l m : List UInt8) (h : l.length + m.length ≤ 1000000) (W : World) : (Op.stringOp .add ⟨l.toArray⟩ ⟨m.toArray⟩).run P W = .ok (.string ⟨(l ++ m).toArray⟩) W := by
  have h1 : (⟨l.toArray⟩ : ByteArray).size = l.length := by simp [ByteArray.size]
  have h2 : (⟨m.toArray⟩ : ByteArray).size = m.length := by simp [ByteArray.size]
  rw [run_string_add_sum W _ _ (by omega), str_cat]
theorem quote_do (w : World) (hT : TxW w) : Calls Tryz.prog 37 #[.string ⟨#[100, 111]⟩] w fun e w' => e = .returned (.string ⟨#[34, 100, 111, 34]⟩) ∧ Below w.heap.size w w' := by
  have HT := Lib.hid (fun V (hV : Below w.heap.size w V) => hT.below hV)
  have h1 : ∀ V, Below w.heap.size w V → Calls Tryz.prog 87 #[.string ⟨#[100, 111]⟩, .string ⟨#[92]⟩, .string ⟨#[92, 92]⟩] V fun e w' => e = .returned (.string ⟨#[100, 111]⟩) ∧ Below V.heap.size V w' := fun V hV => by
    obtain ⟨m, hm⟩ := (HT.out V hV).ml
    exact Any.strings_ReplaceAll lay155 bld_extra ⟨#[100, 111]⟩ ⟨#[92]⟩ ⟨#[92, 92]⟩ m V (by decide) hm (by decide) (by decide)
  have h2 : ∀ V, Below w.heap.size w V → Calls Tryz.prog 87 #[.string ⟨#[100, 111]⟩, .string ⟨#[34]⟩, .string ⟨#[92, 34]⟩] V fun e w' => e = .returned (.string ⟨#[100, 111]⟩) ∧ Below V.heap.size V w' := fun V hV => by
    obtain ⟨m, hm⟩ := (HT.out V hV).ml
    exact Any.strings_ReplaceAll lay155 bld_extra ⟨#[100, 111]⟩ ⟨#[34]⟩ ⟨#[92, 34]⟩ m V (by decide) hm (by decide) (by decide)
  have H1 := Lib.hid h1
  have H2 := Lib.hid h2
  have s1 : ∀ W, (Op.stringOp .add ⟨#[34]⟩ ⟨#[100, 111]⟩).run Tryz.prog W = .ok (.string ⟨#[34, 100, 111]⟩) W := fun W => str_add [34] [100, 111] (by decide) W
  have s2 : ∀ W, (Op.stringOp .add ⟨#[34, 100, 111]⟩ ⟨#[34]⟩).run Tryz.prog W = .ok (.string ⟨#[34, 100, 111, 34]⟩) W := fun W => str_add [34, 100, 111] [34] (by decide) W
  clear h1 h2 hT
  go_enter Tryz.func37, Tryz.ntmps37
  go_wp2_with (fail)
  refine (H1.out _ (Below.refl _ _)).mono ?_
  rintro e w1 ⟨rfl, hb1⟩
  have HB1 := Lib.hid hb1
  clear hb1
  go_wp2_with (fail)
  refine (H2.out _ HB1.out).mono ?_
  rintro e w2 ⟨rfl, hb2⟩
  have HB2 := Lib.hid (HB1.out.trans (hb2.mono HB1.out.size))
  clear hb2
  go_wp2_with (fail)
  go_ret
  exact ⟨rfl, HB2.out⟩
end Go.Proofs.YtjjfhblaefbpgaaGreatDoor
