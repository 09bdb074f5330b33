import Derived.Test.YtllbnoojkgbjiaaGreatFq6
/-
  wainscotlaw22.works answers true: run by the kernel. No condition.
-/
namespace Go.Proofs.YtllbnoojkgbjiaaGreat.Fast
open Go
theorem yes_works : Ex.yes Tryz.prog 30 11 = true := by kernel_rfl
theorem works_in {W w : World} {m : List (Nat × Obj)} (h : Own W m w) : Calls Tryz.prog 11 #[] w fun e w' => e = .returned (.bool true) ∧ Own W m w' := Ex.yes_in yes_works h
end Go.Proofs.YtllbnoojkgbjiaaGreat.Fast
