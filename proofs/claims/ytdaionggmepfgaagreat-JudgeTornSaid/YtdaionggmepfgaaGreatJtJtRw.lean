import Derived.Test.YtdaionggmepfgaaGreatJtJtE
/-
  wainscotlaw30.works: its run. No condition.
-/
namespace Go.Proofs.YtdaionggmepfgaaGreat.Jt
open Go Ex
theorem runW : treeK Tryz.prog [] [] kxW [] 30 9 [] ⟨[], [], ⟨0, 0, 0, 0⟩⟩ okT [] = true := by kernel_rfl
end Go.Proofs.YtdaionggmepfgaaGreat.Jt
