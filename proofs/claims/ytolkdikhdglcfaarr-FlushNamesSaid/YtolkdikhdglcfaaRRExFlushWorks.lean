/-
  wainscotlaw25.works, run by the kernel. No condition.
-/
import Derived.Test.YtolkdikhdglcfaaRRExY
namespace Go.Proofs.YtolkdikhdglcfaaRR.flushWorks
open Go Ex
theorem yes : Ex.yes Try.prog 30 13 = true := by kernel_rfl
theorem ov : OvOk Try.prog [13] := ov_one mixed yes
end Go.Proofs.YtolkdikhdglcfaaRR.flushWorks
