/-
  Texts of this claim, joined. No condition.
-/
import Derived.Test.YtfgomgodfcdijaaGreatDoorKn19
import Derived.Test.YtfgomgodfcdijaaGreatDoorKn20
/-
  Law 29: a call of Run, and the call that it stands in, by the kernel. No condition.
-/
namespace Go.Proofs.YtfgomgodfcdijaaGreatDoor.Kn
open Go Ex
noncomputable def wB : Bg := ⟨5, [q 18 0, i 1000], wA, i 74, wh9⟩
theorem wRun : okC (callL Tryz.prog (cal sp) we0 wh0 (wx9, we9, wh9) pL 5 [q 18 0, i 1000] wA) (i 74) wh9 = true := by kernel_rfl
theorem wTop : runsBL Tryz.prog [wB] (cal sp) 19 (.bool true) = true := by kernel_rfl
end Go.Proofs.YtfgomgodfcdijaaGreatDoor.Kn
