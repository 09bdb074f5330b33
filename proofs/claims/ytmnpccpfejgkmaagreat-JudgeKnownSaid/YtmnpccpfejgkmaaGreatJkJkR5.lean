import Derived.Test.YtmnpccpfejgkmaaGreatJkJkE
/-
  wainscotlaw30.JudgeKnown: rounds 15 to 17 of its loop. No condition.
-/
namespace Go.Proofs.YtmnpccpfejgkmaaGreat.Jk
open Go Ex
theorem r15 : round 15 = true := by kernel_rfl
theorem r16 : round 16 = true := by kernel_rfl
theorem r17 : round 17 = true := by kernel_rfl
end Go.Proofs.YtmnpccpfejgkmaaGreat.Jk
