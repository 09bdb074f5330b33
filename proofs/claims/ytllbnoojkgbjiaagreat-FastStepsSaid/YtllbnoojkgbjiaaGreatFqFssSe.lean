import Derived.Test.YtllbnoojkgbjiaaGreatFqFssE
/-
  wainscotlaw22.FastSteps: both steps, run: no place. No condition.
-/
namespace Go.Proofs.YtllbnoojkgbjiaaGreat.Fss
open Go Ex
theorem run_no : runS 0 dNo (fNot 8 ++ fRun) = true := by kernel_rfl
theorem run_end : runS 0 none_ ((.lt (v 41) (l 12), false) :: fS) = true := by kernel_rfl
theorem run_odd3 : runS 0 dAll.dOdd fOdd3 = true := by kernel_rfl
theorem run_odd4 : runS 0 dAll.dOdd fOdd4 = true := by kernel_rfl
end Go.Proofs.YtllbnoojkgbjiaaGreat.Fss
