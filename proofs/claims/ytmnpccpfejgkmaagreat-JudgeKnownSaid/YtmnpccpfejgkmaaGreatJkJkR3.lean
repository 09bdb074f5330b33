import Derived.Test.YtmnpccpfejgkmaaGreatJkJkE
/-
  wainscotlaw30.JudgeKnown: rounds 9 to 11 of its loop. No condition.
-/
namespace Go.Proofs.YtmnpccpfejgkmaaGreat.Jk
open Go Ex
theorem r9 : round 9 = true := by kernel_rfl
theorem r10 : round 10 = true := by kernel_rfl
theorem r11 : round 11 = true := by kernel_rfl
end Go.Proofs.YtmnpccpfejgkmaaGreat.Jk
