import Derived.Test.YthjjpmoifgcepaaGreatJhJtE
/-
  wainscotlaw30.works: its run. No condition.
-/
namespace Go.Proofs.YthjjpmoifgcepaaGreat.Jt
open Go Ex
theorem runW : treeK Tryz.prog [] [] kxW [] 30 8 [] ⟨[], [], ⟨0, 0, 0, 0⟩⟩ okT [] = true := by kernel_rfl
end Go.Proofs.YthjjpmoifgcepaaGreat.Jt
