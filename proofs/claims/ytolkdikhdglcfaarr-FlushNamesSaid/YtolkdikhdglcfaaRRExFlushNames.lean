/-
  wainscotlaw25.FlushNames, run by the kernel. No condition.
-/
import Derived.Test.YtolkdikhdglcfaaRRExFlushWorks
namespace Go.Proofs.YtolkdikhdglcfaaRR.flushNames
open Go Ex
theorem yes : tree Try.prog [13] 30 4 [] .leaf [] = true := by kernel_rfl
theorem walk (W : World) : Calls Try.prog 4 #[] W fun e w' => e = .returned (.bool true) ∧ Own W [] w' := yes_over flushWorks.ov yes W
end Go.Proofs.YtolkdikhdglcfaaRR.flushNames
