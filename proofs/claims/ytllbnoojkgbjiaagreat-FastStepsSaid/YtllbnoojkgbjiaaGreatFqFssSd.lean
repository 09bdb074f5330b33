import Derived.Test.YtllbnoojkgbjiaaGreatFqFssE
/-
  wainscotlaw22.FastSteps: both steps, run: some places. No condition.
-/
namespace Go.Proofs.YtllbnoojkgbjiaaGreat.Fss
open Go Ex
theorem run_3 : runS 0 (dSwap 67 0) (fAt 3 ++ fRun) = true := by kernel_rfl
theorem run_7 : runS 0 (dSwap 77 10) (fAt 7 ++ fRun) = true := by kernel_rfl
theorem run_6 : runS 0 dTie (fAt 6 ++ fRun) = true := by kernel_rfl
end Go.Proofs.YtllbnoojkgbjiaaGreat.Fss
