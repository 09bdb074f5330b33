import Derived.Test.YtmnpccpfejgkmaaGreatJkJkE
/-
  wainscotlaw30.JudgeKnown: rounds 21 to 23 of its loop. No condition.
-/
namespace Go.Proofs.YtmnpccpfejgkmaaGreat.Jk
open Go Ex
theorem r21 : round 21 = true := by kernel_rfl
theorem r22 : round 22 = true := by kernel_rfl
theorem r23 : round 23 = true := by kernel_rfl
end Go.Proofs.YtmnpccpfejgkmaaGreat.Jk
