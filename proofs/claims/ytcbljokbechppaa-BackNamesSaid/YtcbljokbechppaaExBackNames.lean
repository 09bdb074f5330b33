/-
  wainscotlaw23.BackNames, run by the kernel. No condition.
-/
import Derived.Test.YtcbljokbechppaaExY
namespace Go.Proofs.Ytcbljokbechppaa.backNames
open Go
theorem yes : Ex.yes Try.prog 30 5 = true := by kernel_rfl
theorem walk (W : World) : Calls Try.prog 5 #[] W fun e w' => e = .returned (.bool true) ∧ Own W [] w' := Ex.yes_own yes W
end Go.Proofs.Ytcbljokbechppaa.backNames
