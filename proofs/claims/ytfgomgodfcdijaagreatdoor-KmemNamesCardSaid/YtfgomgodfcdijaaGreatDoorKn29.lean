/-
  Texts of this claim, joined. No condition.
-/
import Derived.Test.YtfgomgodfcdijaaGreatDoorKn19
/-
  Law 29: a piece of a run, by the kernel. No condition.
-/
namespace Go.Proofs.YtfgomgodfcdijaaGreatDoor.Kn
open Go Ex
theorem k2 : pc sp2 knt 21 ke2 kh2 ke3 kh3 = true := by kernel_rfl
end Go.Proofs.YtfgomgodfcdijaaGreatDoor.Kn
