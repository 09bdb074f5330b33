import Derived.Test.YtmnpccpfejgkmaaGreatJkJkE
/-
  wainscotlaw30.JudgeKnown: rounds 12 to 14 of its loop. No condition.
-/
namespace Go.Proofs.YtmnpccpfejgkmaaGreat.Jk
open Go Ex
theorem r12 : round 12 = true := by kernel_rfl
theorem r13 : round 13 = true := by kernel_rfl
theorem r14 : round 14 = true := by kernel_rfl
end Go.Proofs.YtmnpccpfejgkmaaGreat.Jk
