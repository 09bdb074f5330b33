import Derived.Test.YtmnpccpfejgkmaaGreatJkJkE
/-
  wainscotlaw30.JudgeKnown: rounds 34 to 34 of its loop. No condition.
-/
namespace Go.Proofs.YtmnpccpfejgkmaaGreat.Jk
open Go Ex
theorem r34 : round 34 = true := by kernel_rfl
end Go.Proofs.YtmnpccpfejgkmaaGreat.Jk
