import Derived.Test.YtcbljokbechppaaBk6
/-
  wainscotlaw23.works answers true: run by the kernel. No condition.
-/
namespace Go.Proofs.Ytcbljokbechppaa.Back
open Go
theorem yes_works : Ex.yes Try.prog 30 12 = true := by kernel_rfl
theorem works_in {W w : World} {m : List (Nat × Obj)} (h : Own W m w) : Calls Try.prog 12 #[] w fun e w' => e = .returned (.bool true) ∧ Own W m w' := Ex.yes_in yes_works h
end Go.Proofs.Ytcbljokbechppaa.Back
