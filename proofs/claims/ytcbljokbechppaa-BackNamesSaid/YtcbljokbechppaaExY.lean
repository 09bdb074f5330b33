/-
  From a run in the kernel to the form that a law's last text wants. No condition.
-/
import Derived.Test.YtcbljokbechppaaExR
import Derived.Test.YtcbljokbechppaaLaw
namespace Go.Proofs.Ytcbljokbechppaa.Ex
open Go
theorem mixed : Try.prog.follows .mixedOrders = true := by kernel_rfl
theorem yes_own {n : Nat} {f : FuncId} (h : yes Try.prog n f = true) (w : World) : Calls Try.prog f #[] w fun e w' => e = .returned (.bool true) ∧ Own w [] w' :=
  (yes_calls mixed h w).mono fun _ _ h => ⟨h.1, ⟨h.2, by simp, by simp⟩⟩
/-- .. amid other blocks -/
theorem yes_in {n : Nat} {f : FuncId} (h : yes Try.prog n f = true) {W w : World} {m : List (Nat × Obj)} (hO : Own W m w) : Calls Try.prog f #[] w fun e w' => e = .returned (.bool true) ∧ Own W m w' :=
  (yes_calls mixed h w).mono fun _ _ h => ⟨h.1, hO.then_below h.2⟩
end Go.Proofs.Ytcbljokbechppaa.Ex
