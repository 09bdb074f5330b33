import Derived.Test.YtcbljokbechppaaGreatDoorBkFilE
/-
  wainscotlaw24.FillApart: the runs of its whole text. No condition.
-/
namespace Go.Proofs.YtcbljokbechppaaGreatDoor.Fil
open Go Ex
theorem run0_1_0 : run0 1 0 = true := by kernel_rfl
theorem run0_1_1 : run0 1 1 = true := by kernel_rfl
theorem run0_1_2 : run0 1 2 = true := by kernel_rfl
theorem run0_1_3 : run0 1 3 = true := by kernel_rfl
theorem run0_1_4 : run0 1 4 = true := by kernel_rfl
theorem run0_1_5 : run0 1 5 = true := by kernel_rfl
theorem run0_1_6 : run0 1 6 = true := by kernel_rfl
theorem run0_2_0 : run0 2 0 = true := by kernel_rfl
theorem run0_2_1 : run0 2 1 = true := by kernel_rfl
theorem run0_2_2 : run0 2 2 = true := by kernel_rfl
theorem run0_2_3 : run0 2 3 = true := by kernel_rfl
theorem run0_2_4 : run0 2 4 = true := by kernel_rfl
theorem run0_2_5 : run0 2 5 = true := by kernel_rfl
theorem run0_2_6 : run0 2 6 = true := by kernel_rfl
theorem run0_3_0 : run0 3 0 = true := by kernel_rfl
theorem run0_3_1 : run0 3 1 = true := by kernel_rfl
theorem run0_3_2 : run0 3 2 = true := by kernel_rfl
theorem run0_3_3 : run0 3 3 = true := by kernel_rfl
theorem run0_3_4 : run0 3 4 = true := by kernel_rfl
theorem run0_3_5 : run0 3 5 = true := by kernel_rfl
theorem run0_3_6 : run0 3 6 = true := by kernel_rfl
end Go.Proofs.YtcbljokbechppaaGreatDoor.Fil
