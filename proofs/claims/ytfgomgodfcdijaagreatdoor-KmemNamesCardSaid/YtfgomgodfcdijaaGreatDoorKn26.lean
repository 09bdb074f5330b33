/-
  Texts of this claim, joined. No condition.
-/
import Derived.Test.YtfgomgodfcdijaaGreatDoorKn19
/-
  Law 29: a piece of a run, by the kernel. No condition.
-/
namespace Go.Proofs.YtfgomgodfcdijaaGreatDoor.Kn
open Go Ex
theorem w3 : pcX sp wnt 18 we3 wh3 wx9 we9 wh9 = true := by kernel_rfl
end Go.Proofs.YtfgomgodfcdijaaGreatDoor.Kn
