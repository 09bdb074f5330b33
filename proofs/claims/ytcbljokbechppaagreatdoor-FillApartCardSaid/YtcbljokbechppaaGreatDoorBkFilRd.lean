import Derived.Test.YtcbljokbechppaaGreatDoorBkFilE
/-
  wainscotlaw24.FillApart: the runs of its whole text. No condition.
-/
namespace Go.Proofs.YtcbljokbechppaaGreatDoor.Fil
open Go Ex
theorem run0_6_0 : run0 6 0 = true := by kernel_rfl
theorem run0_6_1 : run0 6 1 = true := by kernel_rfl
theorem run0_6_2 : run0 6 2 = true := by kernel_rfl
theorem run0_6_3 : run0 6 3 = true := by kernel_rfl
theorem run0_6_4 : run0 6 4 = true := by kernel_rfl
theorem run0_6_5 : run0 6 5 = true := by kernel_rfl
theorem run0_6_6 : run0 6 6 = true := by kernel_rfl
end Go.Proofs.YtcbljokbechppaaGreatDoor.Fil
