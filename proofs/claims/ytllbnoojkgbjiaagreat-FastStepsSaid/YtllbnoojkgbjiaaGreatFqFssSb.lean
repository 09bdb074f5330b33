import Derived.Test.YtllbnoojkgbjiaaGreatFqFssE
/-
  wainscotlaw22.FastSteps: both steps, run: some places. No condition.
-/
namespace Go.Proofs.YtllbnoojkgbjiaaGreat.Fss
open Go Ex
theorem run_1 : runS 0 dLook (fAt 1 ++ fRun) = true := by kernel_rfl
end Go.Proofs.YtllbnoojkgbjiaaGreat.Fss
