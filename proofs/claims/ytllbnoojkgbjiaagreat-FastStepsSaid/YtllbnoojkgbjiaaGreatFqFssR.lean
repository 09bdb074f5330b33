import Derived.Test.YtllbnoojkgbjiaaGreatFqFssE
/-
  wainscotlaw22.FastSteps: the runs of its text. No condition.
-/
namespace Go.Proofs.YtllbnoojkgbjiaaGreat.Fss
open Go Ex
theorem runLLt : runLL 0 true = true := by kernel_rfl
theorem runLLf : runLL 0 false = true := by kernel_rfl
theorem runLaidt : runLaid 0 true = true := by kernel_rfl
theorem runLaidf : runLaid 0 false = true := by kernel_rfl
theorem runAt : runA 0 true = true := by kernel_rfl
theorem runAf : runA 0 false = true := by kernel_rfl
theorem runSo : runS 0 (dEnd none_) fSo = true := by kernel_rfl
end Go.Proofs.YtllbnoojkgbjiaaGreat.Fss
