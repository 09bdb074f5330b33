import Derived.Test.YtmnpccpfejgkmaaGreatJkJkE
/-
  wainscotlaw30.JudgeKnown: rounds 27 to 29 of its loop. No condition.
-/
namespace Go.Proofs.YtmnpccpfejgkmaaGreat.Jk
open Go Ex
theorem r27 : round 27 = true := by kernel_rfl
theorem r28 : round 28 = true := by kernel_rfl
theorem r29 : round 29 = true := by kernel_rfl
end Go.Proofs.YtmnpccpfejgkmaaGreat.Jk
