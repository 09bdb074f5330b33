import Derived.Test.YtmnpccpfejgkmaaGreatJkJkC31
/-
  wainscotlaw30.JudgeKnown: round 31 of its loop: a call. No condition.
-/
namespace Go.Proofs.YtmnpccpfejgkmaaGreat.Jk
open Go Ex
theorem runB31 : treeC Tryz.prog [] [] kcs0 [] 40 9 argB31 ⟨[], preB31, BB31⟩ (kcB31.leaf {}) [] = true := by kernel_rfl
end Go.Proofs.YtmnpccpfejgkmaaGreat.Jk
