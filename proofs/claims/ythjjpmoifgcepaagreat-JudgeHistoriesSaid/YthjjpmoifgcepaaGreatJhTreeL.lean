import Derived.Shelf.SlIterI.Collect
import Derived.Test.YthjjpmoifgcepaaGreatJhTreeB
/-
  The library's AppendSeq, of numbers, as the shelf bears it. No condition.
-/
namespace Go.Proofs.YthjjpmoifgcepaaGreat.Jt
open Go.RowKit Go.Shelf
/-- the shelf's numbers, here -/
def ren : Go.Shelf.Ren where
  f := fun | 11 => 124 | 8 => 106 | n => n
  t := fun | 26 => 3 | 24 => 22 | 28 => 185 | 33 => 61 | n => n
  g := fun n => n
theorem lays11 : SlLaysZI.n11 Tryz.prog ren where
  mixed := by kernel_rfl
  f11 := ⟨Tryz.f124.name, by kernel_rfl, by kernel_rfl⟩
  t0 := by kernel_rfl
  a0 := Tryz.isAgg0
  z0 := Tryz.sizeOf0
  v0 := Tryz.zeroValue0
  t24 := by kernel_rfl
  a24 := Tryz.isAgg22
  z24 := Tryz.sizeOf22
  v24 := Tryz.zeroValue22
  t26 := by kernel_rfl
  a26 := Tryz.isAgg3
  z26 := Tryz.sizeOf3
  v26 := Tryz.zeroValue3
  t28 := by kernel_rfl
  a28 := Tryz.isAgg185
  z28 := Tryz.sizeOf185
  v28 := Tryz.zeroValue185
  i26 := by kernel_rfl
end Go.Proofs.YthjjpmoifgcepaaGreat.Jt
