import Derived.Test.YtmnpccpfejgkmaaGreatJkJkC33
/-
  wainscotlaw30.JudgeKnown: round 33 of its loop: a call. No condition.
-/
namespace Go.Proofs.YtmnpccpfejgkmaaGreat.Jk
open Go Ex
theorem runB33 : treeC Tryz.prog [] [] kcs0 [] 40 9 argB33 ⟨[], preB33, BB33⟩ (kcB33.leaf {}) [] = true := by kernel_rfl
end Go.Proofs.YtmnpccpfejgkmaaGreat.Jk
