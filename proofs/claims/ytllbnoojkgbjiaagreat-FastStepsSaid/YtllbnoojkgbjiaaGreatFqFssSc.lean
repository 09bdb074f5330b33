import Derived.Test.YtllbnoojkgbjiaaGreatFqFssE
/-
  wainscotlaw22.FastSteps: both steps, run: some places. No condition.
-/
namespace Go.Proofs.YtllbnoojkgbjiaaGreat.Fss
open Go Ex
theorem run_5 : runS 0 dMine (fAt 5 ++ fRun) = true := by kernel_rfl
end Go.Proofs.YtllbnoojkgbjiaaGreat.Fss
