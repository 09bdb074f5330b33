import Derived.Test.YtdaionggmepfgaaGreatJtJtE
/-
  wainscotlaw30.JudgeTorn: its run, 4 snaps. No condition.
-/
namespace Go.Proofs.YtdaionggmepfgaaGreat.Jt
open Go Ex
theorem runL2 : treeK Tryz.prog [] [] (kxL 2) [] 30 4 argA ⟨[], [], ⟨0, 0, 0, 0⟩⟩ okT fA = true := by kernel_rfl
end Go.Proofs.YtdaionggmepfgaaGreat.Jt
