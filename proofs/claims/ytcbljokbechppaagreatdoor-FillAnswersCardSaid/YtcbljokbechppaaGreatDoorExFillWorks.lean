/-
  wainscotlaw24.works, run by the kernel. No condition.
-/
import Derived.Test.YtcbljokbechppaaGreatDoorExY
import Derived.Test.YtcbljokbechppaaGreatDoorTab
namespace Go.Proofs.YtcbljokbechppaaGreatDoor.fillWorks
open Go Ex
theorem yes : tree Tryz.prog FillTab.gs [] 30 9 [] .leaf [] = true := by kernel_rfl
theorem ov : OvOk Tryz.prog FillTab.gs [9] := ov_cons mixed ov_nil yes
end Go.Proofs.YtcbljokbechppaaGreatDoor.fillWorks
