/-
  From a run in the kernel to the form that a law's last text wants. No condition.
-/
import Derived.Test.YtigakendeghoaaaExR
import Derived.Test.YtigakendeghoaaaLaw
namespace Go.Proofs.Ytigakendeghoaaa.Ex
open Go
theorem mixed : Try.prog.follows .mixedOrders = true := by kernel_rfl
theorem yes_own {n : Nat} {f : FuncId} (h : yes Try.prog n f = true) (w : World) : Calls Try.prog f #[] w fun e w' => e = .returned (.bool true) ∧ Own w [] w' :=
  (yes_calls mixed h w).mono fun _ _ h => ⟨h.1, ⟨h.2, by simp, by simp⟩⟩
/-- .. amid other blocks -/
theorem yes_in {n : Nat} {f : FuncId} (h : yes Try.prog n f = true) {W w : World} {m : List (Nat × Obj)} (hO : Own W m w) : Calls Try.prog f #[] w fun e w' => e = .returned (.bool true) ∧ Own W m w' :=
  (yes_calls mixed h w).mono fun _ _ h => ⟨h.1, hO.then_below h.2⟩
/-- .. where calls are known, and tables -/
theorem yes_over {gs : List (Nat × List Int)} {σ : Nat → Int} {ov : Ov} (hov : OvOk Try.prog gs σ ov) {n : Nat} {f : FuncId} (h : tree Try.prog gs ov n f [] .leaf [] = true) (w : World) (hg : Tabs gs w) : Calls Try.prog f #[] w fun e w' => e = .returned (.bool true) ∧ Own w [] w' :=
  (leaf_calls mixed hov h w hg).mono fun _ _ h => ⟨h.1, ⟨h.2, by simp, by simp⟩⟩
/-- a law with arguments -/
theorem law_over {gs : List (Nat × List Int)} {σ : Nat → Int} {ov : Ov} (hov : OvOk Try.prog gs σ ov) {n : Nat} {f : FuncId} {args : List AV} (ha : AV.shuts args = true) (d : DT) (hp : d.plain = true) (h : tree Try.prog gs ov n f args d [] = true) (hb : ¬ BadP σ d) (w : World) (hg : Tabs gs w) :
    Calls Try.prog f (valsOf σ args).toArray w fun e w' => e = .returned (.bool true) ∧ Own w [] w' :=
  (tree_calls mixed hov ha d hp h hb w hg).mono fun _ _ h => ⟨h.1, ⟨h.2, by simp, by simp⟩⟩
end Go.Proofs.Ytigakendeghoaaa.Ex
