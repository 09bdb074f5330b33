import Derived.Test.YtmnpccpfejgkmaaGreatJkJkE
/-
  wainscotlaw30.JudgeKnown: rounds 3 to 5 of its loop. No condition.
-/
namespace Go.Proofs.YtmnpccpfejgkmaaGreat.Jk
open Go Ex
theorem r3 : round 3 = true := by kernel_rfl
theorem r4 : round 4 = true := by kernel_rfl
theorem r5 : round 5 = true := by kernel_rfl
end Go.Proofs.YtmnpccpfejgkmaaGreat.Jk
