/-
  wainscotlaw22.FastNames, run by the kernel. No condition.
-/
import Derived.Test.YtigakendeghoaaaExY
namespace Go.Proofs.Ytigakendeghoaaa.fastNames
open Go
theorem yes : Ex.yes Try.prog 30 10 = true := by kernel_rfl
theorem walk (W : World) : Calls Try.prog 10 #[] W fun e w' => e = .returned (.bool true) ∧ Own W [] w' := Ex.yes_own yes W
end Go.Proofs.Ytigakendeghoaaa.fastNames
