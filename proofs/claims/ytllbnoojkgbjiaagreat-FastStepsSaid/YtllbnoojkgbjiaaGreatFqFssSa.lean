import Derived.Test.YtllbnoojkgbjiaaGreatFqFssE
/-
  wainscotlaw22.FastSteps: both steps, run: some places. No condition.
-/
namespace Go.Proofs.YtllbnoojkgbjiaaGreat.Fss
open Go Ex
theorem run_0 : runS 0 d0 (fAt 0 ++ fRun) = true := by kernel_rfl
theorem run_4 : runS 0 d0 (fAt 4 ++ fRun) = true := by kernel_rfl
theorem run_2 : runS 0 dNext (fAt 2 ++ fRun) = true := by kernel_rfl
end Go.Proofs.YtllbnoojkgbjiaaGreat.Fss
