import Derived.Test.YtmnpccpfejgkmaaGreatJkJkE
/-
  wainscotlaw30.JudgeKnown: rounds 24 to 26 of its loop. No condition.
-/
namespace Go.Proofs.YtmnpccpfejgkmaaGreat.Jk
open Go Ex
theorem r24 : round 24 = true := by kernel_rfl
theorem r25 : round 25 = true := by kernel_rfl
theorem r26 : round 26 = true := by kernel_rfl
end Go.Proofs.YtmnpccpfejgkmaaGreat.Jk
