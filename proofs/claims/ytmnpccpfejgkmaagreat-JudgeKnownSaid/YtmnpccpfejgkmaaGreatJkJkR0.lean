import Derived.Test.YtmnpccpfejgkmaaGreatJkJkE
/-
  wainscotlaw30.JudgeKnown: rounds 0 to 2 of its loop. No condition.
-/
namespace Go.Proofs.YtmnpccpfejgkmaaGreat.Jk
open Go Ex
theorem r0 : round 0 = true := by kernel_rfl
theorem r1 : round 1 = true := by kernel_rfl
theorem r2 : round 2 = true := by kernel_rfl
end Go.Proofs.YtmnpccpfejgkmaaGreat.Jk
