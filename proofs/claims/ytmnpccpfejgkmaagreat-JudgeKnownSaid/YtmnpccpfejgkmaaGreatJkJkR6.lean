import Derived.Test.YtmnpccpfejgkmaaGreatJkJkE
/-
  wainscotlaw30.JudgeKnown: rounds 18 to 20 of its loop. No condition.
-/
namespace Go.Proofs.YtmnpccpfejgkmaaGreat.Jk
open Go Ex
theorem r18 : round 18 = true := by kernel_rfl
theorem r19 : round 19 = true := by kernel_rfl
theorem r20 : round 20 = true := by kernel_rfl
end Go.Proofs.YtmnpccpfejgkmaaGreat.Jk
