import Derived.Test.YtmnpccpfejgkmaaGreatJkJtE
/-
  wainscotlaw30.works: its run. No condition.
-/
namespace Go.Proofs.YtmnpccpfejgkmaaGreat.Jt
open Go Ex
theorem runW : treeK Tryz.prog [] [] kxW [] 30 10 [] ⟨[], [], ⟨0, 0, 0, 0⟩⟩ okT [] = true := by kernel_rfl
end Go.Proofs.YtmnpccpfejgkmaaGreat.Jt
