import Derived.Test.YtdaionggmepfgaaGreatJtJtE
/-
  wainscotlaw30.JudgeTorn: its run, 3 snaps. No condition.
-/
namespace Go.Proofs.YtdaionggmepfgaaGreat.Jt
open Go Ex
theorem runL1 : treeK Tryz.prog [] [] (kxL 1) [] 30 4 argA ⟨[], [], ⟨0, 0, 0, 0⟩⟩ okT fA = true := by kernel_rfl
end Go.Proofs.YtdaionggmepfgaaGreat.Jt
