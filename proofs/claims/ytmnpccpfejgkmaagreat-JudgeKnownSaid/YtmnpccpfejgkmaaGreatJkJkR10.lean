import Derived.Test.YtmnpccpfejgkmaaGreatJkJkE
/-
  wainscotlaw30.JudgeKnown: rounds 30 to 32 of its loop. No condition.
-/
namespace Go.Proofs.YtmnpccpfejgkmaaGreat.Jk
open Go Ex
theorem r30 : round 30 = true := by kernel_rfl
theorem r32 : round 32 = true := by kernel_rfl
end Go.Proofs.YtmnpccpfejgkmaaGreat.Jk
