/-
  Texts of this claim, joined. No condition.
-/
import Derived.Test.YtfgomgodfcdijaaGreatDoorKn19
import Derived.Test.YtfgomgodfcdijaaGreatDoorKn20
/-
  Law 29: a call of Run, and the call that it stands in, by the kernel. No condition.
-/
namespace Go.Proofs.YtfgomgodfcdijaaGreatDoor.Kn
open Go Ex
noncomputable def kB : Bg := ⟨5, [q 59 0, i 20000], kA, i 120, kh9⟩
theorem kRun : okC (callL Tryz.prog (cal sp2) ke0 kh0 (kx9, ke9, kh9) pL 5 [q 59 0, i 20000] kA) (i 120) kh9 = true := by kernel_rfl
theorem kTop : runsBL Tryz.prog [kB] (cal sp2) 3 (.bool true) = true := by kernel_rfl
end Go.Proofs.YtfgomgodfcdijaaGreatDoor.Kn
