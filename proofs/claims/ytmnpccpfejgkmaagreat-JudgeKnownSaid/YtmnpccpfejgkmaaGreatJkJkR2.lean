import Derived.Test.YtmnpccpfejgkmaaGreatJkJkE
/-
  wainscotlaw30.JudgeKnown: rounds 6 to 8 of its loop. No condition.
-/
namespace Go.Proofs.YtmnpccpfejgkmaaGreat.Jk
open Go Ex
theorem r6 : round 6 = true := by kernel_rfl
theorem r7 : round 7 = true := by kernel_rfl
theorem r8 : round 8 = true := by kernel_rfl
end Go.Proofs.YtmnpccpfejgkmaaGreat.Jk
