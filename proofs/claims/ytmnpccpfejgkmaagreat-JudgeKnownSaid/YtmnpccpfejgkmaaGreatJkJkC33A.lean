import Derived.Test.YtmnpccpfejgkmaaGreatJkJkC33
/-
  wainscotlaw30.JudgeKnown: round 33 of its loop: a call. No condition.
-/
namespace Go.Proofs.YtmnpccpfejgkmaaGreat.Jk
open Go Ex
theorem runA33 : treeC Tryz.prog [] [] kcs0 [] 40 9 argA33 ⟨[], preA33, BA33⟩ (kcA33.leaf {}) [] = true := by kernel_rfl
end Go.Proofs.YtmnpccpfejgkmaaGreat.Jk
