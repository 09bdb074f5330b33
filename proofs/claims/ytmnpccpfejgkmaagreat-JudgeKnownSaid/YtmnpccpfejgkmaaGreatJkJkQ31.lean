import Derived.Test.YtmnpccpfejgkmaaGreatJkJkC31
/-
  wainscotlaw30.JudgeKnown: round 31 of its loop. No condition.
-/
namespace Go.Proofs.YtmnpccpfejgkmaaGreat.Jk
open Go Ex
theorem r31 : roundK kcs31 31 = true := by kernel_rfl
end Go.Proofs.YtmnpccpfejgkmaaGreat.Jk
