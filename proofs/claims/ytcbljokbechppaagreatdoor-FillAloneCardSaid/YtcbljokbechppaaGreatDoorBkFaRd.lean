import Derived.Test.YtcbljokbechppaaGreatDoorBkFaE
/-
  wainscotlaw24.FillAlone: the runs of its whole text. No condition.
-/
namespace Go.Proofs.YtcbljokbechppaaGreatDoor.Fa
open Go Ex
theorem runA_3_true_true : runA 3 true true = true := by kernel_rfl
theorem runA_3_true_false : runA 3 true false = true := by kernel_rfl
theorem runA_3_false_true : runA 3 false true = true := by kernel_rfl
theorem runA_3_false_false : runA 3 false false = true := by kernel_rfl
end Go.Proofs.YtcbljokbechppaaGreatDoor.Fa
