import Derived.Test.YtombcmhhocbedaaGreatDoorCw6
import Derived.Test.YtombcmhhocbedaaGreatDoorCwTab
/-
  wainscotlaw26.works, run by the kernel. No condition.
-/
namespace Go.Proofs.YtombcmhhocbedaaGreatDoor.crewWorks
open Go Ex
theorem yes : tree Tryz.prog FillTab.gs [] 30 16 [] .leaf [] = true := by kernel_rfl
theorem fn_ok : FnOk Tryz.prog 16 := ⟨Tryz.f16, _, Tryz.func16, by kernel_rfl, rfl⟩
theorem ov : OvOk Tryz.prog FillTab.gs (fun _ => 0) [(16, [], .bool true)] := ov_run mixed ov_nil fn_ok yes
end Go.Proofs.YtombcmhhocbedaaGreatDoor.crewWorks
