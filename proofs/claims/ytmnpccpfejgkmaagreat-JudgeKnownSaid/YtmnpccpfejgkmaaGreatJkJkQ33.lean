import Derived.Test.YtmnpccpfejgkmaaGreatJkJkC33
/-
  wainscotlaw30.JudgeKnown: round 33 of its loop. No condition.
-/
namespace Go.Proofs.YtmnpccpfejgkmaaGreat.Jk
open Go Ex
theorem r33 : roundK kcs33 33 = true := by kernel_rfl
end Go.Proofs.YtmnpccpfejgkmaaGreat.Jk
