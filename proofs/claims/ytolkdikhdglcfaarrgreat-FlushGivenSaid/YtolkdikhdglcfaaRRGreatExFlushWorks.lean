/-
  wainscotlaw25.works, run by the kernel. No condition.
-/
import Derived.Test.YtolkdikhdglcfaaRRGreatExY
namespace Go.Proofs.YtolkdikhdglcfaaRRGreat.flushWorks
open Go Ex
theorem yes : Ex.yes Tryz.prog 30 6 = true := by kernel_rfl
theorem ov : OvOk Tryz.prog [6] := ov_one mixed yes
end Go.Proofs.YtolkdikhdglcfaaRRGreat.flushWorks
