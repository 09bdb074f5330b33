import Derived.Test.YtombcmhhocbedaaGreatDoorCwExCrewWorks
/-
  wainscotlaw26.CrewNames, run by the kernel. No condition.
-/
namespace Go.Proofs.YtombcmhhocbedaaGreatDoor.crewNames
open Go Ex
theorem yes : tree Tryz.prog FillTab.gs [(16, [], .bool true)] 30 3 [] .leaf [] = true := by kernel_rfl
theorem walk (W : World) (hg : Tabs FillTab.gs W) : Calls Tryz.prog 3 #[] W fun e w' => e = .returned (.bool true) ∧ Own W [] w' := yes_over crewWorks.ov yes W hg
end Go.Proofs.YtombcmhhocbedaaGreatDoor.crewNames
