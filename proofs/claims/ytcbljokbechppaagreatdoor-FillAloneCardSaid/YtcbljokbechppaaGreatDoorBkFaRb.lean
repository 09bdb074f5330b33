import Derived.Test.YtcbljokbechppaaGreatDoorBkFaE
/-
  wainscotlaw24.FillAlone: the runs of its whole text. No condition.
-/
namespace Go.Proofs.YtcbljokbechppaaGreatDoor.Fa
open Go Ex
theorem runA_0_true_true : runA 0 true true = true := by kernel_rfl
theorem runA_0_false_true : runA 0 false true = true := by kernel_rfl
theorem runA_1_true_true : runA 1 true true = true := by kernel_rfl
theorem runA_1_false_true : runA 1 false true = true := by kernel_rfl
end Go.Proofs.YtcbljokbechppaaGreatDoor.Fa
