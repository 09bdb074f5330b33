import Derived.Test.YtcbljokbechppaaGreatDoorBkFilE
/-
  wainscotlaw24.FillApart: the runs of its whole text. No condition.
-/
namespace Go.Proofs.YtcbljokbechppaaGreatDoor.Fil
open Go Ex
theorem run0_4_0 : run0 4 0 = true := by kernel_rfl
theorem run0_4_1 : run0 4 1 = true := by kernel_rfl
theorem run0_4_2 : run0 4 2 = true := by kernel_rfl
theorem run0_4_3 : run0 4 3 = true := by kernel_rfl
theorem run0_4_4 : run0 4 4 = true := by kernel_rfl
theorem run0_4_5 : run0 4 5 = true := by kernel_rfl
theorem run0_4_6 : run0 4 6 = true := by kernel_rfl
theorem run0_5_0 : run0 5 0 = true := by kernel_rfl
theorem run0_5_1 : run0 5 1 = true := by kernel_rfl
theorem run0_5_2 : run0 5 2 = true := by kernel_rfl
theorem run0_5_3 : run0 5 3 = true := by kernel_rfl
theorem run0_5_4 : run0 5 4 = true := by kernel_rfl
theorem run0_5_5 : run0 5 5 = true := by kernel_rfl
theorem run0_5_6 : run0 5 6 = true := by kernel_rfl
end Go.Proofs.YtcbljokbechppaaGreatDoor.Fil
