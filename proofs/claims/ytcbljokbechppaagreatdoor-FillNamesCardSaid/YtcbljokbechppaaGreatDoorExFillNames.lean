/-
  wainscotlaw24.FillNames, run by the kernel. No condition.
-/
import Derived.Test.YtcbljokbechppaaGreatDoorExFillWorks
namespace Go.Proofs.YtcbljokbechppaaGreatDoor.fillNames
open Go Ex
theorem yes : tree Tryz.prog FillTab.gs [9] 30 6 [] .leaf [] = true := by kernel_rfl
theorem walk (W : World) (hg : Tabs FillTab.gs W) : Calls Tryz.prog 6 #[] W fun e w' => e = .returned (.bool true) ∧ Own W [] w' := yes_over fillWorks.ov yes W hg
end Go.Proofs.YtcbljokbechppaaGreatDoor.fillNames
