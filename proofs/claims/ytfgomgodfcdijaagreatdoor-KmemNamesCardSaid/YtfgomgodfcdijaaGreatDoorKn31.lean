/-
  Texts of this claim, joined. No condition.
-/
import Derived.Test.YtfgomgodfcdijaaGreatDoorKn19
/-
  Law 29: a piece of a run, by the kernel. No condition.
-/
namespace Go.Proofs.YtfgomgodfcdijaaGreatDoor.Kn
open Go Ex
theorem k4 : pc sp2 knt 19 ke4 kh4 ke5 kh5 = true := by kernel_rfl
end Go.Proofs.YtfgomgodfcdijaaGreatDoor.Kn
