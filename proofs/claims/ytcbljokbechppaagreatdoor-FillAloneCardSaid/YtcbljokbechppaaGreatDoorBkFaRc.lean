import Derived.Test.YtcbljokbechppaaGreatDoorBkFaE
/-
  wainscotlaw24.FillAlone: the runs of its whole text. No condition.
-/
namespace Go.Proofs.YtcbljokbechppaaGreatDoor.Fa
open Go Ex
theorem runA_2_true_true : runA 2 true true = true := by kernel_rfl
theorem runA_2_false_true : runA 2 false true = true := by kernel_rfl
end Go.Proofs.YtcbljokbechppaaGreatDoor.Fa
