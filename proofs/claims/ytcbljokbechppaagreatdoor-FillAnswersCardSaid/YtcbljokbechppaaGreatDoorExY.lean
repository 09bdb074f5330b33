/-
  From a run in the kernel to the form that a law's last text wants. No condition.
-/
import Derived.Test.YtcbljokbechppaaGreatDoorExR
import Derived.Test.YtcbljokbechppaaGreatDoorLaw
namespace Go.Proofs.YtcbljokbechppaaGreatDoor.Ex
open Go
theorem mixed : Tryz.prog.follows .mixedOrders = true := by kernel_rfl
theorem yes_own {n : Nat} {f : FuncId} (h : yes Tryz.prog n f = true) (w : World) : Calls Tryz.prog f #[] w fun e w' => e = .returned (.bool true) ∧ Own w [] w' :=
  (yes_calls mixed h w).mono fun _ _ h => ⟨h.1, ⟨h.2, by simp, by simp⟩⟩
/-- .. amid other blocks -/
theorem yes_in {n : Nat} {f : FuncId} (h : yes Tryz.prog n f = true) {W w : World} {m : List (Nat × Obj)} (hO : Own W m w) : Calls Tryz.prog f #[] w fun e w' => e = .returned (.bool true) ∧ Own W m w' :=
  (yes_calls mixed h w).mono fun _ _ h => ⟨h.1, hO.then_below h.2⟩
/-- .. where calls without arguments are known to give true, and tables are known -/
theorem yes_over {gs : List (Nat × List Int)} {ov : List Nat} (hov : OvOk Tryz.prog gs ov) {n : Nat} {f : FuncId} (h : tree Tryz.prog gs ov n f [] .leaf [] = true) (w : World) (hg : Tabs gs w) : Calls Tryz.prog f #[] w fun e w' => e = .returned (.bool true) ∧ Own w [] w' :=
  (leaf_calls mixed hov h w hg).mono fun _ _ h => ⟨h.1, ⟨h.2, by simp, by simp⟩⟩
end Go.Proofs.YtcbljokbechppaaGreatDoor.Ex
