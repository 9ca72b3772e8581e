/- strings.Index at this seat's numbers, out of the library's shelf; the one variable that it reads (how long a needle the machine's own search takes) holds some whole number. No conditions of its own. -/
import Derived.Shelf.Strings.Search1
import Derived.Shelf.Strings.Search2
import Derived.Shelf.Strings.Search3
import Derived.Shelf.LaysM
import Derived.Shelf.Strings.Shaped
import Derived.Below
import Derived.Test.YtgdjjghdjpaofaaProg
namespace Go.Proofs
open Go.Shelf
def Try.lays143_ren : Go.Shelf.Ren := ⟨fun | 143 => 123 | 219 => 184 | 217 => 207 | 225 => 208 | 224 => 209 | 267 => 210 | 266 => 227 | 314 => 228 | n => n, fun | 9 => 9 | 3 => 3 | 4 => 4 | 5 => 5 | 46 => 158 | 146 => 200 | 51 => 199 | n => n, fun | 1 => 0 | n => n⟩
theorem Try.lays143 : Go.Proofs.Lays.n143 Try.prog Try.lays143_ren := {
  mixed := by kernel_rfl
  f143 := Try.func123.trans (congrArg some (by kernel_rfl))
  f217 := Try.func207.trans (congrArg some (by kernel_rfl))
  f219 := Try.func184.trans (congrArg some (by kernel_rfl))
  f224 := Try.func209.trans (congrArg some (by kernel_rfl))
  f225 := Try.func208.trans (congrArg some (by kernel_rfl))
  f266 := Try.func227.trans (congrArg some (by kernel_rfl))
  f267 := Try.func210.trans (congrArg some (by kernel_rfl))
  f314 := Try.func228.trans (congrArg some (by kernel_rfl))
  t3 := Try.underlying3
  a3 := Try.isAgg3
  z3 := Try.sizeOf3
  v3 := Try.zeroValue3
  t4 := Try.underlying4
  a4 := Try.isAgg4
  z4 := Try.sizeOf4
  v4 := Try.zeroValue4
  t5 := Try.underlying5
  a5 := Try.isAgg5
  z5 := Try.sizeOf5
  v5 := Try.zeroValue5
  t9 := Try.underlying9
  a9 := Try.isAgg9
  z9 := Try.sizeOf9
  v9 := Try.zeroValue9
  t46 := Try.underlying158
  a46 := Try.isAgg158
  z46 := Try.sizeOf158
  v46 := Try.zeroValue158
  t51 := Try.underlying199
  a51 := Try.isAgg199
  z51 := Try.sizeOf199
  v51 := Try.zeroValue199
  t146 := Try.underlying200
  a146 := Try.isAgg200
  z146 := Try.sizeOf200
  v146 := Try.zeroValue200
  g1 := by kernel_rfl }
open Go.RowKit Go.Lib in
theorem Try.strings_Index (s sub : ByteArray) (m : Int) (w : World) (hs : s.size < 4294967281) (hm : w.cell? ⟨0, 0, none⟩ = some (.int .i64 m)) :
    Calls Try.prog 123 #[.string s, .string sub] w fun e w' => e = .returned (.int .i64 (Lib.index s.data.toList sub.data.toList)) ∧ w' = w := Any.strings_Index Try.lays143 s sub m w hs hm
def Try.laysM143_ren : Go.Shelf.Ren := ⟨fun | 143 => 123 | 219 => 184 | 217 => 207 | 225 => 208 | 224 => 209 | 267 => 210 | 266 => 227 | 314 => 228 | n => n, fun | 9 => 9 | 3 => 3 | 4 => 4 | 5 => 5 | 46 => 158 | 146 => 200 | 51 => 199 | n => n, fun | 1 => 0 | n => n⟩
theorem Try.laysM143 : Go.Proofs.LaysM.n143 Try.prog Try.laysM143_ren := {
  mixed := by kernel_rfl
  f143 := Try.func123.trans (congrArg some (by kernel_rfl))
  f217 := Try.func207.trans (congrArg some (by kernel_rfl))
  f219 := Try.func184.trans (congrArg some (by kernel_rfl))
  f224 := Try.func209.trans (congrArg some (by kernel_rfl))
  f225 := Try.func208.trans (congrArg some (by kernel_rfl))
  f266 := Try.func227.trans (congrArg some (by kernel_rfl))
  f267 := Try.func210.trans (congrArg some (by kernel_rfl))
  f314 := Try.func228.trans (congrArg some (by kernel_rfl))
  t3 := Try.underlying3
  a3 := Try.isAgg3
  z3 := Try.sizeOf3
  v3 := Try.zeroValue3
  t4 := Try.underlying4
  a4 := Try.isAgg4
  z4 := Try.sizeOf4
  v4 := Try.zeroValue4
  t5 := Try.underlying5
  a5 := Try.isAgg5
  z5 := Try.sizeOf5
  v5 := Try.zeroValue5
  t9 := Try.underlying9
  a9 := Try.isAgg9
  z9 := Try.sizeOf9
  v9 := Try.zeroValue9
  t46 := Try.underlying158
  a46 := Try.isAgg158
  z46 := Try.sizeOf158
  v46 := Try.zeroValue158
  t51 := Try.underlying199
  a51 := Try.isAgg199
  z51 := Try.sizeOf199
  v51 := Try.zeroValue199
  t146 := Try.underlying200
  a146 := Try.isAgg200
  z146 := Try.sizeOf200
  v146 := Try.zeroValue200
  g1 := by kernel_rfl
  i3 := by kernel_rfl
  i4 := by kernel_rfl
  i5 := by kernel_rfl
  i9 := by kernel_rfl
  i46 := by kernel_rfl
  i51 := by kernel_rfl
  i146 := by kernel_rfl
  m1 := by kernel_rfl
  s1_3 := fun w h => Go.Proofs.cell_of_shapedOpen_int (zero := #[.int .i64 0]) (t := 3) h (of_decide_eq_true (by kernel_rfl)) (by kernel_rfl) rfl (by kernel_rfl) (by kernel_rfl) Try.underlying3 }
/-- The variable holds some whole number. -/
def GInt (w : World) : Prop := ∃ m : Int, w.cell? ⟨0, 0, none⟩ = some (.int .i64 m)
theorem GInt.of {w w' : World} {b : Nat} (h : GInt w) (hb : RowKit.Below b w w') (hl : w.heap.size ≤ b) : GInt w' := by
  obtain ⟨m, hm⟩ := h
  have h0 := World.block_lt_of_cell? w _ hm
  exact ⟨m, (hb.cell (p := ⟨0, 0, none⟩) (by simp only at h0 ⊢; omega)).trans hm⟩
theorem GInt.here {w w' : World} (h : GInt w) (hb : RowKit.Below w.heap.size w w') : GInt w' := h.of hb (Nat.le_refl _)
theorem GInt.shaped {w : World} (h : w.ShapedOpen Try.prog) : GInt w := Try.laysM143.s1_3 w h
theorem Try.index_at (s sub : ByteArray) (w : World) (hG : GInt w) (hs : s.size < 4294967281) :
    Calls Try.prog 123 #[.string s, .string sub] w fun e w' => e = .returned (.int .i64 (Lib.index s.data.toList sub.data.toList)) ∧ w' = w :=
  let ⟨m, hm⟩ := hG
  Try.strings_Index s sub m w hs hm
end Go.Proofs
