/-
  wainscotlaw21.ChartNames, run by the kernel. No condition.
-/
import Derived.Test.YtigakendeghoaaaExY
namespace Go.Proofs.Ytigakendeghoaaa.chartNames
open Go
theorem yes : Ex.yes Try.prog 30 7 = true := by kernel_rfl
theorem walk (W : World) : Calls Try.prog 7 #[] W fun e w' => e = .returned (.bool true) ∧ Own W [] w' := Ex.yes_own yes W
end Go.Proofs.Ytigakendeghoaaa.chartNames
