import Derived.Test.YtmnpccpfejgkmaaGreatJkJkC31
/-
  wainscotlaw30.JudgeKnown: round 31 of its loop: a call. No condition.
-/
namespace Go.Proofs.YtmnpccpfejgkmaaGreat.Jk
open Go Ex
theorem runA31 : treeC Tryz.prog [] [] kcs0 [] 40 9 argA31 ⟨[], preA31, BA31⟩ (kcA31.leaf {}) [] = true := by kernel_rfl
end Go.Proofs.YtmnpccpfejgkmaaGreat.Jk
